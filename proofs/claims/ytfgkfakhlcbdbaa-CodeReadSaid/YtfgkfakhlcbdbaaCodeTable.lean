/- package code: Make. -/
import Derived.Test.YtfgkfakhlcbdbaaNats
import Derived.Test.YtfgkfakhlcbdbaaSrc
import Derived.BigQuiet
namespace Go.Proofs.Ytfgkfakhlcbdbaa.Code
open Go Go.RowKit Go.Proofs.Ytfgkfakhlcbdbaa Go.Proofs.Ytfgkfakhlcbdbaa.Bits
set_option linter.unusedVariables false

theorem tyI : SliceTy Try.prog 22 3 (.int .i64 0) 1 8 := ⟨Try.underlying22, by kernel_rfl, rfl, by omega⟩
/-- a table's cells: how many of each length, the places -/
def tab (cs : List Nat) (v : Value) : Array Value := (cs.map natV ++ [v]).toArray
theorem tab_get (cs : List Nat) (v : Value) (i : Nat) (h : i < cs.length) : (tab cs v)[i]? = some (.int .i64 (cs[i] : Int)) := by
  simp [tab, List.getElem?_append_left, h, natV]
theorem tab_last (cs : List Nat) (v : Value) : (tab cs v)[cs.length]? = some v := by
  simp [tab]
theorem tab_set (cs : List Nat) (v : Value) (i x : Nat) (h : i < cs.length) : (tab cs v).setIfInBounds i (.int .i64 (x : Int)) = tab (cs.set i x) v := by
  unfold tab
  apply Array.ext'
  simp [natV, h]
theorem tab_setv (cs : List Nat) (v u : Value) : (tab cs v).setIfInBounds cs.length u = tab cs u := by
  unfold tab
  apply Array.ext'
  simp
/-- how many of each length are among the first k -/
def cnk (ls : List Nat) (k : Nat) : List Nat := (List.range 16).map fun s => (ordN (ls.take k) s).length
theorem cnk_length (ls : List Nat) (k : Nat) : (cnk ls k).length = 16 := by simp [cnk]
theorem cnk_zero (ls : List Nat) : cnk ls 0 = List.replicate 16 0 := by simp [cnk, ordN]; decide
theorem cnk_get (ls : List Nat) (k s : Nat) (h : s < 16) : (cnk ls k)[s]'(by rw [cnk_length]; exact h) = (ordN (ls.take k) s).length := by simp [cnk]
theorem cnk_next (ls : List Nat) (k : Nat) (h : k < ls.length) (h15 : ls.getD k 0 < 16) : cnk ls (k + 1) = (cnk ls k).set (ls.getD k 0) ((ordN (ls.take k) (ls.getD k 0)).length + 1) := by
  apply List.ext_getElem
  · simp [cnk]
  · intro i h1 h2
    have hi : i < 16 := by simpa [cnk] using h1
    rw [cnk_get _ _ _ hi, ordN_take ls k i h, List.getElem_set]
    by_cases hx : ls.getD k 0 = i
    · rw [if_pos hx, if_pos hx, hx]; simp
    · rw [if_neg hx, if_neg hx, cnk_get _ _ _ hi]; simp
def cntL (ls : List Nat) : List Nat := (List.range 16).map (cnt ls)
theorem cntL_of (ls : List Nat) : (cnk ls ls.length).set 0 0 = cntL ls := by
  apply List.ext_getElem
  · simp [cnk, cntL]
  · intro i h1 h2
    have hi : i < 16 := by simpa [cnk] using h1
    rw [List.getElem_set]
    simp only [cntL, List.getElem_map, List.getElem_range]
    by_cases hx : 0 = i
    · rw [if_pos hx, ← hx]; rfl
    · rw [if_neg hx, cnk_get _ _ _ hi, List.take_length]; unfold cnt; rw [if_neg (by omega)]
theorem cntL_length (ls : List Nat) : (cntL ls).length = 16 := by simp [cntL]
theorem cntL_get (ls : List Nat) (s : Nat) (h : s < 16) : (cntL ls)[s]'(by rw [cntL_length]; exact h) = cnt ls s := by simp [cntL]
/-- a table of a code -/
def TabAt (w : World) (base p : Nat) (ls : List Nat) : Prop := base ≤ p ∧ ∃ v, Blk w p 103 (tab (cntL ls) v) ∧ w.ownsRow base 3 1 v (ordUp ls 15).length ((ordUp ls 15).map natV)
theorem ordUp_le (ls : List Nat) (t : Nat) : (ordUp ls t).length ≤ t * ls.length := by
  induction t with
  | zero => simp [ordUp]
  | succ t ih =>
    rw [ordUp_succ, List.length_append, Nat.succ_mul]
    have := ordN_len_le ls (t + 1)
    omega
set_option maxRecDepth 100000 in
set_option maxHeartbeats 1600000 in
theorem make_any (A : Option Addr) (n c : Nat) (zs : List Int) (w : World) (hn : zs.length = n) (hA : InAt w A zs) (hc : chkL zs = 0) :
    Calls Try.prog 38 #[.slice A n c] w fun e w' => (∃ p, e = .returned (.pointer (some ⟨p, 0, none⟩)) ∧ TabAt w' w.heap.size p (lsOf zs)) ∧ Below w.heap.size w w' := by
  obtain ⟨f1, f2, f3, f4, f5⟩ := chk_fine zs hc
  have hx : n ≤ 288 := by omega
  have Hl := Lib.hid (lsOf_len zs)
  rw [hn] at Hl
  have H5 := Lib.hid f5
  have Hn := Lib.hid hn
  have HA := Lib.hid hA
  have Hcz := Lib.hid (cnk_zero (lsOf zs))
  clear hn hA hc f1 f2 f3 f4 f5
  go_enter Try.func38, Try.ntmps38
  go_wp2_with fail
  generalize hg : w.heap.size = g at *
  have Hg := Lib.hid hg
  clear hg
  go_loopw [13] (fun i wr => ∃ k : Nat, k ≤ n ∧ i = .int .i64 (k : Int) ∧ Blk wr g 103 (tab (cnk (lsOf zs) k) (.slice none 0 0)) ∧ Below w.heap.size w wr) (fun i _ => n - (intOf i).toNat)
  case atStart =>
    refine ⟨0, Nat.zero_le _, rfl, ?_, (Below.refl _ _).alloc (Nat.le_refl _) _⟩
    rw [Hcz.out, ← Hg.out]; exact Blk.new w _ _
  case round =>
    obtain ⟨k, hk, rfl, hblk, hb⟩ := hrel
    have Hblk := Lib.hid hblk
    have Hb := Lib.hid hb
    clear hblk hb
    by_cases hlt : k < n
    · have hkl : k < zs.length := by rw [Hn.out]; exact hlt
      have hkl2 : k < (lsOf zs).length := by rw [Hl.out]; exact hlt
      obtain ⟨b, o, rfl, hcell⟩ := (HA.out.below Hb.out).get hkl
      have hz := H5.out zs[k] (List.getElem_mem hkl)
      have Hd := Lib.hid (getD_of zs k hkl)
      have Hs := Lib.hid (cnk_next (lsOf zs) k hkl2)
      rw [Hd.out] at Hs
      generalize zs[k] = z at *
      obtain ⟨x, rfl⟩ := Int.eq_ofNat_of_zero_le hz.1
      rw [Int.toNat_natCast] at Hs
      have hx16 : x < 16 := by omega
      have hxl : x < (cnk (lsOf zs) k).length := by rw [cnk_length]; exact hx16
      have hcc : wr.cell? ⟨g, x, none⟩ = some (.int .i64 ((ordN ((lsOf zs).take k) x).length : Int)) := by rw [Hblk.out.cell, tab_get _ _ _ hxl, cnk_get _ _ _ hx16]
      have hfz := Hblk.out.frozen x
      have hq : (ordN ((lsOf zs).take k) x).length ≤ 288 := by
        have h1 := ordN_len_le ((lsOf zs).take k) x
        have h2 : ((lsOf zs).take k).length ≤ k := by simp; omega
        omega
      generalize (ordN ((lsOf zs).take k) x).length = q at *
      go_wp2_with fail
      go_region
      go_wp2_with fail
      go_roundw
      case rel =>
        refine ⟨k + 1, by omega, by go_num, ?_, ?_⟩
        · rw [Hs.out hx16, ← tab_set _ _ _ _ hxl]; exact (Hblk.out.set_ x _).drew
        · exact (Hb.out.setCell (by show w.heap.size ≤ g; rw [Hg.out]; exact Nat.le_refl _) _).drew
      case measure => simp [intOf]; omega
    · obtain rfl : k = n := by omega
      have h0l : 0 < (cnk (lsOf zs) k).length := by rw [cnk_length]; omega
      have Hlen := Lib.hid (cnk_length (lsOf zs) k)
      have Hcf : Hid ((cnk (lsOf zs) k).set 0 0 = cntL (lsOf zs)) := Lib.hid (by rw [← cntL_of, Hl.out])
      have hfz := Hblk.out.frozen 0
      have hcc : wr.cell? ⟨g, 0, none⟩ = some (.int .i64 (((cnk (lsOf zs) k)[0]'h0l : Nat) : Int)) := by rw [Hblk.out.cell, tab_get _ _ _ h0l]
      generalize (cnk (lsOf zs) k)[0]'h0l = q at *
      have Hb1 := Lib.hid (Hb.out.setCell (p := ⟨g, 0, none⟩) (by show w.heap.size ≤ g; rw [Hg.out]; exact Nat.le_refl _) (.int .i64 0))
      have Hblk1 : Hid (Blk (wr.setCell ⟨g, 0, none⟩ (.int .i64 0)) g 103 (tab (cntL (lsOf zs)) (.slice none 0 0))) := Lib.hid (by
        rw [← Hcf.out]
        have := tab_set (cnk (lsOf zs) k) (.slice none 0 0) 0 0 h0l
        rw [← this]; exact Hblk.out.set_ 0 _)
      go_wp2_with fail
      clear hcc hfz
      generalize wr.setCell ⟨g, 0, none⟩ (.int .i64 0) = wz at *
      clear Hb Hblk Hcf
      go_loopw [6] (fun s wo => ∃ t : Nat, t ≤ 15 ∧ s = .int .i64 ((t : Int) + 1) ∧ (∃ v, Blk wo g 103 (tab (cntL (lsOf zs)) v) ∧ wo.ownsRow w.heap.size 3 1 v (ordUp (lsOf zs) t).length ((ordUp (lsOf zs) t).map natV)) ∧ Below w.heap.size w wo) (fun s _ => 17 - (intOf s).toNat)
      case atStart => exact ⟨0, Nat.zero_le _, rfl, ⟨_, Hblk1.out, ⟨rfl, .inl ⟨rfl, rfl⟩⟩⟩, Hb1.out⟩
      case round =>
        obtain ⟨t, ht, rfl, ⟨v, hblk, hown⟩, hb⟩ := hrel
        have Hblk := Lib.hid hblk
        have Hown := Lib.hid hown
        have Hb := Lib.hid hb
        clear hblk hb hown
        by_cases hlt : t < 15
        · have e15 : decide ((t : Int) + 1 ≤ 15) = true := by simp; omega
          go_wp2_with fail
          clear e15
          go_loopw [38] (fun i wx => ∃ j : Nat, j ≤ k ∧ i = .int .i64 (j : Int) ∧ (∃ v, Blk wx g 103 (tab (cntL (lsOf zs)) v) ∧ wx.ownsRow w.heap.size 3 1 v (ordUp (lsOf zs) t ++ ordN ((lsOf zs).take j) (t + 1)).length ((ordUp (lsOf zs) t ++ ordN ((lsOf zs).take j) (t + 1)).map natV)) ∧ Below w.heap.size w wx) (fun i _ => k - (intOf i).toNat)
          case atStart => exact ⟨0, Nat.zero_le _, rfl, ⟨v, Hblk.out, by simpa [ordN] using Hown.out⟩, Hb.out⟩
          case round =>
            obtain ⟨j, hj, rfl, ⟨v2, hblk, hown⟩, hb⟩ := hrel
            by_cases hjk : j < k
            · have hjl : j < zs.length := by rw [Hn.out]; exact hjk
              have hjl2 : j < (lsOf zs).length := by rw [Hl.out]; exact hjk
              obtain ⟨b, o, rfl, hcell⟩ := (HA.out.below hb).get hjl
              have hz := H5.out zs[j] (List.getElem_mem hjl)
              have Hd := Lib.hid (getD_of zs j hjl)
              have Ht := Lib.hid (ordN_take (lsOf zs) j (t + 1) hjl2)
              rw [Hd.out] at Ht
              have hN : (ordUp (lsOf zs) t ++ ordN ((lsOf zs).take j) (t + 1)).length ≤ 100000 := by
                rw [List.length_append]
                have h1 := ordUp_le (lsOf zs) t
                have h2 := ordN_len_le ((lsOf zs).take j) (t + 1)
                have h3 : ((lsOf zs).take j).length ≤ j := by simp; omega
                rw [Hl.out] at h1
                have h4 : t * k ≤ 15 * k := Nat.mul_le_mul_right _ ht
                omega
              generalize zs[j] = z at *
              obtain ⟨x, rfl⟩ := Int.eq_ofNat_of_zero_le hz.1
              rw [Int.toNat_natCast] at Ht
              generalize hys : ordUp (lsOf zs) t ++ ordN ((lsOf zs).take j) (t + 1) = ys at *
              have Hys := Lib.hid hys
              clear hys
              generalize hNN : ys.length = N at *
              have HN := Lib.hid hNN
              clear hNN
              by_cases hxt : x = t + 1
              · have e1 : ((x : Int) == (t : Int) + 1) = true := by simp; omega
                have Hr : Hid (ordUp (lsOf zs) t ++ ordN ((lsOf zs).take (j + 1)) (t + 1) = ys ++ [j]) := Lib.hid (by rw [Ht.out, if_pos hxt, ← List.append_assoc, Hys.out])
                clear Ht hxt
                have hc16 : wr.cell? ⟨g, 16, none⟩ = some v2 := by rw [hblk.cell, ← cntL_length (lsOf zs), tab_last]
                have Hown2 := Lib.hid (hown.alloc (.cells #[.int .i64 (j : Int)] 3))
                have Hsl := Lib.hid (slat_one wr 3 (.int .i64 (j : Int)))
                have Hblk2 := Lib.hid (hblk.alloc (.cells #[.int .i64 (j : Int)] 3))
                have Hb2 := Lib.hid (hb.alloc hb.size (.cells #[.int .i64 (j : Int)] 3))
                have Hbs := Lib.hid Hb2.out.size
                clear hblk hown hb
                go_wp2_with (at_builtin; refine wpList_app _ rfl (.tmp 50) (.tmp 52) _ rfl w.heap.size 3 _ 1 8 tyI v2 N (ys.map natV) rfl Hown2.out (some ⟨wr.heap.size, 0, none⟩) 1 1 [.int .i64 (j : Int)] rfl rfl Hsl.out (by simp [Value.oneCell']) (by simp) (by unfold maxLen; omega) (by omega) Hbs.out ?_; intro v3 w3 hown3 hg3 _; obtain ⟨g3, c3, hv3, _, _⟩ := hown3.form (by omega); subst hv3; have Ho3 := Lib.hid hown3; have Hb3 := Lib.hid (Hblk2.out.grown hg3 (own_ne Hown2.out Hblk2.out (by decide))); have Hk3 := Lib.hid (own_below Hown2.out hg3 Hb2.out Hbs.out); clear hown3 hg3; have hy16 := Hb3.out.frozen 16; have hd16 : w3.cell? ⟨g, 16, none⟩ = some v2 := (by rw [Hb3.out.cell, ← cntL_length (lsOf zs), tab_last]))
                go_roundw
                case rel =>
                  refine ⟨j + 1, by omega, by go_num, ⟨Go.Value.slice (some ⟨g3, 0, none⟩) (N + 1) c3, ?_, ?_⟩, ?_⟩
                  · have := tab_setv (cntL (lsOf zs)) v2 (Go.Value.slice (some ⟨g3, 0, none⟩) (N + 1) c3)
                    rw [cntL_length] at this
                    rw [← this]; exact Hb3.out.set_ 16 _
                  · rw [Hr.out, List.length_append, HN.out, List.map_append]
                    exact ownsRow_setCell_other Ho3.out (a := ⟨g, 16, none⟩) (by exact own_ne Ho3.out Hb3.out (by decide)) _
                  · exact Hk3.out.setCell (by show w.heap.size ≤ g; rw [Hg.out]; exact Nat.le_refl _) _
                case measure => simp [intOf]; omega
              · have e1 : ((x : Int) == (t : Int) + 1) = false := by simp; omega
                have Hr : Hid (ordUp (lsOf zs) t ++ ordN ((lsOf zs).take (j + 1)) (t + 1) = ys) := Lib.hid (by rw [Ht.out, if_neg hxt, List.append_nil, Hys.out])
                have Hblk := Lib.hid hblk
                have Hown := Lib.hid hown
                have Hb := Lib.hid hb
                clear Ht hxt hblk hown hb
                go_wp2_with fail
                go_roundw
                case rel => exact ⟨j + 1, by omega, by go_num, ⟨v2, Hblk.out, by rw [Hr.out, HN.out]; exact Hown.out⟩, Hb.out⟩
                case measure => simp [intOf]; omega
            · obtain rfl : j = k := by omega
              have Hall : Hid ((lsOf zs).take j = lsOf zs) := Lib.hid (List.take_of_length_le (by rw [Hl.out]; omega))
              have Hblk := Lib.hid hblk
              have Hown := Lib.hid hown
              have Hb := Lib.hid hb
              clear hblk hown hb
              rw [Hall.out, ← ordUp_succ] at Hown
              go_wp2_with fail
              go_roundw
              case rel => exact ⟨t + 1, by omega, by go_num, ⟨v2, Hblk.out, Hown.out⟩, Hb.out⟩
              case measure => simp [intOf]; omega
        · obtain rfl : t = 15 := by omega
          go_wp2_with fail
          go_ret
          exact ⟨⟨g, rfl, by rw [Hg.out]; exact Nat.le_refl _, v, Hblk.out, Hown.out⟩, Hb.out⟩
end Go.Proofs.Ytfgkfakhlcbdbaa.Code
