/- package reliquaryref: CodesOf: the walk. -/
import Derived.Test.YtfgkfakhlcbdbaaCdsPure
import Derived.Test.YtfgkfakhlcbdbaaCdsRep
import Derived.Test.YtfgkfakhlcbdbaaCdsSort
import Derived.Test.YtfgkfakhlcbdbaaNats
import Derived.Test.YtfgkfakhlcbdbaaPairs
import Derived.BigQuiet
namespace Go.Proofs.Ytfgkfakhlcbdbaa.Cds
open Go Go.RowKit Go.Proofs.Ytfgkfakhlcbdbaa Go.Proofs.Ytfgkfakhlcbdbaa.Bits Go.Proofs.Ytfgkfakhlcbdbaa.Code Go.Proofs.Ytfgkfakhlcbdbaa.SP Go.Proofs.Ytfgkfakhlcbdbaa.Slc
set_option linter.unusedVariables false
set_option linter.unusedSimpArgs false

theorem tyPl : SliceTy Try.prog 66 68 (.agg #[.int .i64 0, .int .i64 0]) 2 16 := ⟨Try.underlying66, by kernel_rfl, rfl, by omega⟩
theorem infoS : (Try.prog.info? 9).map (fun i => (i.zero, i.size, i.bytes)) = some (some (.string ⟨#[]⟩), 1, 16) := by kernel_rfl
theorem make_strs (n : Nat) (hn : n ≤ 1000000) (u : World) : (Instr.makeSlice 31 (.int .i64 (n : Int)) (.int .i64 (n : Int))).run Try.prog u =
      .ok (.slice (some ⟨u.heap.size, 0, none⟩) n n) (u.alloc (.cells (madeCells #[.string ⟨#[]⟩] n) 9)) := by
  obtain ⟨i0, hi, hz0, hz1, hz2⟩ := info_parts infoS
  have h := run_make (P := Try.prog) u 31 9 i0 (.string ⟨#[]⟩) Try.underlying31 hi hz0 .i64 .i64 (n : Int) (n : Int) (by omega) (Int.le_refl _) (by rw [hz2]; omega) (by omega)
  simpa [hz1, Value.cells] using h
theorem rowS_take (l : List Bool) (k : Nat) : (strB (rowS l)).extract 0 k = strB (rowS (l.take k)) := by
  apply ByteArray.ext
  simp [strB, rowS, List.map_take]
theorem row_more (a : List Bool) (t : Nat) : (strB (rowS (a ++ false :: List.replicate t true))).extract 0 a.length ++ ⟨#[49]⟩ ++ strB (List.replicate t 48) = strB (rowS (a ++ true :: List.replicate t false)) := by
  have h1 : (⟨#[49]⟩ : ByteArray) = strB [49] := rfl
  rw [rowS_take, List.take_left', h1, strB_append, strB_append]
  · congr 1
    simp [rowS, ch]
  · rfl
theorem row_far (l : List Bool) (t : Nat) : strB (rowS l) ++ strB (List.replicate t 48) = strB (rowS (l ++ List.replicate t false)) := by
  rw [strB_append, rowS_append]
  congr 2
  simp [rowS, ch]
/-- the codes so far, where they stand -/
def outC (ls : List Nat) (o : List Nat) (n : Nat) : Array Value := ((List.range n).map fun i => if i ∈ o then rowV (codeS ls i) else .string ⟨#[]⟩).toArray
theorem outC_none (ls : List Nat) (n : Nat) : madeCells #[.string ⟨#[]⟩] n = outC ls [] n := by
  unfold madeCells outC
  apply Array.ext'
  simp
  intro a _
  simp [Nat.mod_one]
theorem outC_put (ls o : List Nat) (n i : Nat) (h : i < n) : (outC ls o n).setIfInBounds i (rowV (codeS ls i)) = outC ls (o ++ [i]) n := by
  unfold outC
  apply Array.ext'
  simp only [List.setIfInBounds_toArray]
  apply List.ext_getElem
  · simp
  · intro j h1 h2
    simp only [List.length_set, List.length_map, List.length_range] at h1
    rw [List.getElem_set]
    simp only [List.getElem_map, List.getElem_range, List.mem_append, List.mem_singleton]
    by_cases e : i = j
    · subst e; simp
    · rw [if_neg e]
      have e2 : ¬ j = i := fun h => e h.symm
      simp [e2]
theorem outC_all (ls : List Nat) (hl : ∀ x ∈ ls, x ≤ 15) : outC ls (ordUp ls 15) ls.length = ((List.range ls.length).map fun i => rowV (codeS ls i)).toArray := by
  unfold outC
  congr 1
  apply List.map_congr_left
  intro i hi
  rw [List.mem_range] at hi
  split
  · rfl
  · rename_i h
    rw [ordUp_mem] at h
    have h0 : ls.getD i 0 = 0 := by
      by_cases h0 : ls.getD i 0 = 0
      · exact h0
      · refine absurd ⟨hi, h0, ?_⟩ h
        rw [List.getD_eq_getElem?_getD, List.getElem?_eq_getElem hi]
        exact hl _ (List.getElem_mem hi)
    rw [codeS_none ls i h0]; rfl
/-- the code in hand -/
def curV (ls : List Nat) (o : List Nat) : Nat → Value
  | 0 => .string ⟨#[]⟩
  | j + 1 => rowV (codeS ls (o.getD j 0))
theorem own_setLow {w : World} {base : Nat} {e : TypeId} {size n : Nat} {v : Value} {xs : List Value} (h : w.ownsRow base e size v n xs) (p : Addr) (hp : p.block < base) (u : Value) : (w.setCell p u).ownsRow base e size v n xs := by
  refine ⟨h.1, ?_⟩
  rcases h.2 with h1 | ⟨g, cap, cur, hv, hbg, hg, r⟩
  · exact .inl h1
  · exact .inr ⟨g, cap, cur, hv, hbg, (Below.heap_setCell w p u g (by omega)).trans hg, r⟩
theorem own_lowV {w w' : World} {base B : Nat} {e : TypeId} {size n : Nat} {v : Value} {xs : List Value} (h : w.ownsRow base e size v n xs) (hb : Below B w w') (hlt : ∀ k, v.ownBlock = some k → k < B) : w'.ownsRow base e size v n xs := by
  refine ⟨h.1, ?_⟩
  rcases h.2 with h1 | ⟨g, cap, cur, rfl, hbg, hg, r⟩
  · exact .inl h1
  · exact .inr ⟨g, cap, cur, rfl, hbg, by rw [hb.block g (hlt g rfl)]; exact hg, r⟩
theorem curV_zero (ls o : List Nat) : curV ls o 0 = .string ⟨#[]⟩ := rfl
theorem curV_succ (ls o : List Nat) (j i : Nat) (h : j < o.length) (e : o[j] = i) : curV ls o (j + 1) = rowV (codeS ls i) := by
  show rowV (codeS ls (o.getD j 0)) = _
  rw [List.getD_eq_getElem?_getD, List.getElem?_eq_getElem h, e]; rfl
theorem outC_cell (ls o : List Nat) (n i : Nat) (h : i < n) : ∃ u, (outC ls o n)[i]? = some u := by
  unfold outC
  simp [h]
set_option maxRecDepth 100000 in
set_option maxHeartbeats 8000000 in
theorem codesOf_any (A : Option Addr) (n c : Nat) (zs : List Int) (w : World) (hn : zs.length = n) (hA : InAt w A zs) (hc : chkL zs = 0) :
    Calls Try.prog 11 #[.slice A n c] w fun e w' => (∃ g, e = .returned (.slice (some ⟨g, 0, none⟩) n n) ∧ w.heap.size ≤ g ∧ Blk w' g 9 ((List.range n).map fun i => rowV (codeS (lsOf zs) i)).toArray) ∧ Below w.heap.size w w' := by
  obtain ⟨f1, f2, f3, f4, f5⟩ := chk_fine zs hc
  have hx : n ≤ 288 := by omega
  have Hl := Lib.hid (lsOf_len zs)
  rw [hn] at Hl
  have F4 := Lib.hid f4
  have F3 := Lib.hid f3
  have H5 := Lib.hid f5
  have Hn := Lib.hid hn
  have HA := Lib.hid hA
  have hmk := make_strs n (by omega)
  have Hz := Lib.hid (outC_none (lsOf zs) n)
  have Hst := Lib.hid (stab_places (lsOf zs) f4)
  have Hmem := Lib.hid (ordUp_mem (lsOf zs) 15)
  clear hn hA hc f1 f2 f3 f4 f5
  go_enter Try.func11, Try.ntmps11
  go_wp2_with fail
  generalize hb0 : w.heap.size = b0 at *
  have Hb0 := Lib.hid hb0
  clear hb0
  go_loopw [13] (fun i wr => ∃ (k : Nat) (v : Value), k ≤ n ∧ i = .int .i64 (k : Int) ∧ Blk wr b0 66 #[v] ∧ wr.ownsRow (b0 + 1) 68 2 v (placesL ((lsOf zs).take k)).length ((placesL ((lsOf zs).take k)).flatMap plC) ∧ Below b0 w wr) (fun i _ => n - (intOf i).toNat)
  case atStart => exact ⟨0, _, Nat.zero_le _, rfl, by have := Blk.new w 66 #[.slice none 0 0]; rw [Hb0.out] at this; exact this, World.ownsRow_nil _ _ _ _, (Below.refl _ _).alloc (by rw [Hb0.out]; exact Nat.le_refl _) _⟩
  case round =>
    obtain ⟨k, v, hk, rfl, hbox, hown, hbr⟩ := hrel
    have Hbox := Lib.hid hbox
    have Hown := Lib.hid hown
    have Hbr := Lib.hid hbr
    have hc0 : wr.cell? ⟨b0, 0, none⟩ = some v := (hbox.cell 0).trans rfl
    have hf0 := hbox.frozen 0
    clear hbox hown hbr
    have hpl : (placesL ((lsOf zs).take k)).length ≤ k := by
      refine Nat.le_trans (placesL_len _) ?_
      rw [List.length_take]; omega
    by_cases hlt : k < n
    · have hkl : k < zs.length := by rw [Hn.out]; exact hlt
      have hkl2 : k < (lsOf zs).length := by rw [Hl.out]; exact hlt
      obtain ⟨b, o, rfl, hcell⟩ := (HA.out.below (Hb0.out.symm ▸ Hbr.out)).get hkl
      have hz := H5.out zs[k] (List.getElem_mem hkl)
      have Hnext := Lib.hid (placesL_take (lsOf zs) k hkl2)
      have hd : (lsOf zs)[k] = zs[k].toNat := by simp [lsOf]
      rw [hd] at Hnext
      clear hd
      generalize zs[k] = z at *
      obtain ⟨x, rfl⟩ := Int.eq_ofNat_of_zero_le hz.1
      rw [Int.toNat_natCast] at Hnext
      generalize hpl2 : placesL ((lsOf zs).take k) = pl at *
      generalize hpn : pl.length = pn at *
      have Hpn := Lib.hid hpn
      clear hpl2 hpn
      by_cases h0 : x = 0
      · subst h0
        rw [if_pos rfl, List.append_nil] at Hnext
        clear hc0 hf0
        go_wp2_with fail
        go_roundw
        case rel => exact ⟨k + 1, v, by omega, by go_num, Hbox.out, by rw [Hnext.out, Hpn.out]; exact Hown.out, Hbr.out⟩
        case measure => simp [intOf]; omega
      · have hx0 : (0 : Int) < (x : Int) := by omega
        rw [if_neg h0] at Hnext
        have Hown2 := Lib.hid (Hown.out.alloc (.cells #[.int .i64 (x : Int), .int .i64 (k : Int)] 68))
        have Hsl : Hid (SlAt (wr.alloc (.cells #[.int .i64 (x : Int), .int .i64 (k : Int)] 68)) (some ⟨wr.heap.size, 0, none⟩) [.int .i64 (x : Int), .int .i64 (k : Int)]) := Lib.hid (SlAt.of_heap (heap_alloc_new _ _) rfl)
        have hbs : b0 + 1 ≤ wr.heap.size := Blk.lt Hbox.out
        have Hbx2 := Lib.hid (Blk.alloc Hbox.out (.cells #[.int .i64 (x : Int), .int .i64 (k : Int)] 68))
        have Hb2 := Lib.hid (Hbr.out.alloc (Nat.le_of_succ_le hbs) (.cells #[.int .i64 (x : Int), .int .i64 (k : Int)] 68))
        have Hbs : Hid (b0 + 1 ≤ (wr.alloc (.cells #[.int .i64 (x : Int), .int .i64 (k : Int)] 68)).heap.size) := Lib.hid (by rw [World.size_alloc]; omega)
        go_wp2_with (at_builtin; refine wpList_app _ rfl (.tmp 20) (.tmp 24) _ rfl (b0 + 1) 68 _ 2 16 tyPl v pn (pl.flatMap plC) rfl Hown2.out (some ⟨wr.heap.size, 0, none⟩) 1 1 [.int .i64 (x : Int), .int .i64 (k : Int)] rfl rfl Hsl.out (by simp [Value.oneCell']) (by simp) (by unfold maxLen; omega) (by omega) Hbs.out ?_; intro v4 w4 hown4 hg4 _; obtain ⟨A4, c4, hv4, _, _, _, _⟩ := own_slat hown4; subst hv4; have Ho4 := Lib.hid hown4; have Hg4 := Lib.hid hg4; have Hb4 := Lib.hid (own_below (own_base Hown2.out (Nat.le_succ b0)) hg4 Hb2.out (Nat.le_of_succ_le Hbs.out)); have Hx4 := Lib.hid (Blk.grown Hbx2.out hg4 (fun e => by have := (Hown2.out.lt _ e).1; omega)); have hf4 := Blk.frozen Hx4.out 0; have hc4 : w4.cell? ⟨b0, 0, none⟩ = some v := (Blk.cell Hx4.out 0).trans rfl; clear hown4 hg4)
        go_roundw
        case rel =>
          refine ⟨k + 1, .slice A4 (pn + 1) c4, by omega, by go_num, ?_, ?_, ?_⟩
          · have := Hx4.out.set_ 0 (.slice A4 (pn + 1) c4)
            simpa using this
          · rw [Hnext.out, List.length_append, List.flatMap_append, Hpn.out]
            exact own_setLow Ho4.out _ (Nat.lt_succ_self b0) _
          · exact Hb4.out.setCell (Nat.le_refl _) _
        case measure => simp [intOf]; omega
    · obtain rfl : k = n := by omega
      have hall : (lsOf zs).take k = lsOf zs := List.take_of_length_le (by rw [Hl.out]; omega)
      rw [hall] at Hown hpl
      generalize hpn : (placesL (lsOf zs)).length = pn at *
      have Hpn := Lib.hid hpn
      clear hall hpn hf0
      have HS := Lib.hid (sort_own (b0 + 1) b0 pn v (placesL (lsOf zs)) wr Hown.out Hbox.out (Nat.lt_succ_self _) (by omega))
      obtain ⟨A4, c4, hv4, _, _, _, _⟩ := own_slat Hown.out
      subst hv4
      have hbs : b0 + 1 ≤ wr.heap.size := Blk.lt Hbox.out
      unfold lessV at HS
      go_wp2_with fail
      refine (HS.out).mono ?_
      rintro e w3 ⟨rfl, ho3, hg3⟩
      have hb3 := own_below (own_base Hown.out (Nat.le_succ b0)) hg3 Hbr.out (Nat.le_of_succ_le hbs)
      have hx3 := Blk.grown Hbox.out hg3 (fun e => by have := (Hown.out.lt _ e).1; omega)
      have hsame : stab ekey (placesL (lsOf zs)) = (ordUp (lsOf zs) 15).map fun i => ((lsOf zs).getD i 0, i) := Hst.out
      have hol : (ordUp (lsOf zs) 15).length = pn := by
        rw [← Hpn.out, ← (stab_perm skey (placesL (lsOf zs))).length_eq, Hst.out, List.length_map]
      rw [hsame] at ho3
      have Ho3 := Lib.hid ho3
      have Hb3 := Lib.hid hb3
      have Hx3 := Lib.hid hx3
      have Hol := Lib.hid hol
      have hs3 : b0 + 1 ≤ w3.heap.size := Blk.lt hx3
      have c5 : (w3.alloc (.cells (madeCells #[.string ⟨#[]⟩] k) 9)).cell? ⟨b0, 0, none⟩ = some (.slice A4 pn c4) := ((Blk.alloc hx3 _).cell 0).trans rfl
      have Hlt3 : Hid (∀ k, (Value.slice A4 pn c4).ownBlock = some k → k < w3.heap.size) := Lib.hid (fun k hk => (ho3.lt k hk).2)
      clear ho3 hb3 hx3 hol hsame HS hg3 hc0 Hown Hbox Hbr Hpn
      go_wp2_with fail
      clear hmk
      rw [Hz.out]
      have hob : Hid (Blk (w3.alloc (.cells (outC (lsOf zs) [] k) 9)) w3.heap.size 9 (outC (lsOf zs) [] k)) := Lib.hid (Blk.new _ _ _)
      have Ho5 := Lib.hid (Ho3.out.alloc (.cells (outC (lsOf zs) [] k) 9))
      have Hb5 := Lib.hid (Hb3.out.alloc (Nat.le_of_succ_le hs3) (.cells (outC (lsOf zs) [] k) 9))
      clear Hx3 Ho3 Hb3 c5
      generalize w3.alloc (.cells (outC (lsOf zs) [] k) 9) = w5 at *
      generalize w3.heap.size = go at *
      go_loopw [7, 36] (fun cv i wx => ∃ j : Nat, j ≤ pn ∧ i = .int .i64 (j : Int) ∧ cv = curV (lsOf zs) (ordUp (lsOf zs) 15) j ∧ Blk wx go 9 (outC (lsOf zs) ((ordUp (lsOf zs) 15).take j) k) ∧ wx.ownsRow (b0 + 1) 68 2 (.slice A4 pn c4) pn (((ordUp (lsOf zs) 15).map fun i => ((lsOf zs).getD i 0, i)).flatMap plC) ∧ Below b0 w wx) (fun _ i _ => pn - (intOf i).toNat)
      case atStart => exact ⟨0, Nat.zero_le _, rfl, rfl, hob.out, Ho5.out, Hb5.out⟩
      case round =>
        clear hob Ho5 Hb5
        obtain ⟨j, hj, rfl, rfl, hout, hown, hbx⟩ := hrel
        have Hout := Lib.hid hout
        have Hown := Lib.hid hown
        have Hbx := Lib.hid hbx
        have hgo : go < wr.heap.size := Blk.lt hout
        clear hout hbx
        by_cases hlt : j < pn
        · have hjl : j < ((ordUp (lsOf zs) 15).map fun i => ((lsOf zs).getD i 0, i)).length := by rw [List.length_map, Hol.out]; exact hlt
          obtain ⟨A', cap', hv', _, _, hsl, _⟩ := own_slat hown
          injection hv' with e1 e2 e3
          subst e1; subst e3
          obtain ⟨b, o, rfl, hcell⟩ := slat_elem (size := 2) (fun _ => rfl) (by omega) hsl hjl
          have hc0 := hcell 0 _ rfl
          have hc1 := hcell 1 _ rfl
          simp only [List.getElem_map, Nat.add_zero] at hc0 hc1
          obtain ⟨i, hi⟩ : ∃ i, (ordUp (lsOf zs) 15)[j]'(by rw [Hol.out]; exact hlt) = i := ⟨_, rfl⟩
          rw [hi] at hc0 hc1
          have him := (Hmem.out i).1 (by rw [← hi]; exact List.getElem_mem _)
          obtain ⟨x, hx'⟩ : ∃ x, (lsOf zs).getD i 0 = x := ⟨_, rfl⟩
          rw [hx'] at hc0 him
          unfold nv at hc0 hc1
          have hik : i < k := by rw [← Hl.out]; exact him.1
          have hx0 := him.2.1
          have hx15 := him.2.2
          cases j with
          | zero =>
            have hcs : codeS (lsOf zs) i = List.replicate x false := by
              obtain ⟨post, hpost⟩ : ∃ post, ordUp (lsOf zs) 15 = i :: post := by
                cases ho : ordUp (lsOf zs) 15 with
                | nil => exact absurd (by have := Hol.out; rw [ho] at this; simpa using this : 0 = pn) (by omega)
                | cons a post => simp [ho] at hi; exact ⟨post, by rw [hi]⟩
              rw [← hx']; exact codeS_first (lsOf zs) i post hpost
            have HR := Lib.hid (repeat0_any x)
            have HE : Hid (Value.string (⟨#[]⟩ ++ strB (List.replicate x 48)) = curV (lsOf zs) (ordUp (lsOf zs) 15) 1) := Lib.hid (by
              rw [curV_succ _ _ 0 i (by rw [Hol.out]; exact hlt) hi, hcs]
              have := row_far [] x
              rw [List.nil_append] at this
              unfold rowV; rw [← this]; rfl)
            have HT : Hid ((ordUp (lsOf zs) 15).take 1 = [] ++ [i]) := Lib.hid (by rw [take_snoc _ 0 (by rw [Hol.out]; exact hlt), hi]; rfl)
            have HV : Hid (curV (lsOf zs) (ordUp (lsOf zs) 15) 1 = rowV (codeS (lsOf zs) i)) := Lib.hid (curV_succ _ _ 0 i (by rw [Hol.out]; exact hlt) hi)
            clear him hi hx' hcs
            rw [Nat.zero_mul, Nat.add_zero] at hc0 hc1
            rw [curV_zero]
            go_wp2_with fail
            have HbW : Hid (Below b0 w (wr.alloc (.cells #[.int .i64 (x : Int), .int .i64 (i : Int)] 68))) := Lib.hid (Hbx.out.alloc (by have := Hbx.out.size; rw [Hb0.out] at this; exact this) _)
            have HoW := Lib.hid (Blk.alloc Hout.out (.cells #[.int .i64 (x : Int), .int .i64 (i : Int)] 68))
            have HwW := Lib.hid (Hown.out.alloc (.cells #[.int .i64 (x : Int), .int .i64 (i : Int)] 68))
            have HpW := Lib.hid (Blk.new wr 68 #[.int .i64 (x : Int), .int .i64 (i : Int)])
            have d1 := HpW.out.c1
            have hfz := HoW.out.frozen i
            obtain ⟨u, hu⟩ := outC_cell (lsOf zs) ((ordUp (lsOf zs) 15).take 0) k i hik
            rw [← HoW.out.cell] at hu
            generalize wr.alloc (.cells #[.int .i64 (x : Int), .int .i64 (i : Int)] 68) = W at *
            refine (HR.out W hx15).mono ?_
            rintro e w6 ⟨rfl, hw6⟩
            cases hw6
            clear hc0 hc1 HR
            have hsz : (⟨#[]⟩ : ByteArray).size + (strB (List.replicate x 48)).size ≤ 9223372036854775807 := by rw [strB_size, List.length_replicate]; show 0 + x ≤ _; omega
            go_wp2_with fail
            rw [HE.out]
            go_roundw
            case rel =>
              refine ⟨1, by omega, rfl, rfl, ?_, ?_, ?_⟩
              · have := HoW.out.set_ i (rowV (codeS (lsOf zs) i))
                rw [HT.out, HV.out, ← outC_put _ _ _ _ hik]
                exact this
              · exact own_lowV HwW.out ((Below.refl go W).setCell (Nat.le_refl go) _) Hlt3.out
              · exact HbW.out.setCell (by show b0 ≤ go; omega) _
            case measure => simp [intOf]; omega
          | succ j =>
            obtain ⟨i', hi'⟩ : ∃ i', (ordUp (lsOf zs) 15)[j]'(by rw [Hol.out]; omega) = i' := ⟨_, rfl⟩
            have hspl : ordUp (lsOf zs) 15 = (ordUp (lsOf zs) 15).take j ++ i' :: i :: (ordUp (lsOf zs) 15).drop (j + 2) := by
              rw [← hi', ← hi, ← List.drop_eq_getElem_cons, ← List.drop_eq_getElem_cons, List.take_append_drop]
            obtain ⟨hle, a, t, e1, e2⟩ := codeS_next (lsOf zs) F4.out F3.out _ _ i' i hspl
            obtain ⟨y, hy⟩ : ∃ y, (lsOf zs).getD i' 0 = y := ⟨_, rfl⟩
            have hlen : a.length + 1 + t = y := by
              have h := congrArg List.length e1
              unfold codeS at h
              rw [hi_length, hy] at h
              simp at h; omega
            rw [hy, hx'] at hle e2
            have HL := Lib.hid (fun W => last_any a t W (by omega))
            have HR1 := Lib.hid (fun W => repeat0_any t W (by omega))
            have HR2 := Lib.hid (fun W => repeat0_any (x - y) W (by omega))
            have HcV := Lib.hid (curV_succ (lsOf zs) _ j i' (by rw [Hol.out]; omega) hi')
            rw [e1] at HcV
            have HV : Hid (curV (lsOf zs) (ordUp (lsOf zs) 15) (j + 2) = rowV (codeS (lsOf zs) i)) := Lib.hid (curV_succ _ _ (j + 1) i (by rw [Hol.out]; exact hlt) hi)
            have HT : Hid ((ordUp (lsOf zs) 15).take (j + 2) = (ordUp (lsOf zs) 15).take (j + 1) ++ [i]) := Lib.hid (by rw [take_snoc _ (j + 1) (by rw [Hol.out]; exact hlt), hi])
            have HM := Lib.hid (row_more a t)
            have HF := Lib.hid (row_far (a ++ true :: List.replicate t false) (x - y))
            rw [← e2] at HF
            have hS : (strB (rowS (a ++ false :: List.replicate t true))).size = y := by rw [strB_size, rowS_length]; simp; omega
            have hS2 : (strB (rowS (a ++ true :: List.replicate t false))).size = y := by rw [strB_size, rowS_length]; simp; omega
            rw [HcV.out]
            unfold rowV at HL ⊢
            generalize strB (rowS (a ++ false :: List.replicate t true)) = S at *
            generalize strB (rowS (a ++ true :: List.replicate t false)) = S2 at *
            generalize hal : a.length = al at *
            have hr1 : (strB (List.replicate t 48)).size = t := by rw [strB_size, List.length_replicate]
            have hr2 : (strB (List.replicate (x - y) 48)).size = x - y := by rw [strB_size, List.length_replicate]
            generalize strB (List.replicate t 48) = R1 at *
            generalize strB (List.replicate (x - y) 48) = R2 at *
            clear him hi hx' hi' hspl e1 e2 hy HcV hal
            have Hlen := Lib.hid hlen
            go_wp2_with fail
            have HbW : Hid (Below b0 w (wr.alloc (.cells #[.int .i64 (x : Int), .int .i64 (i : Int)] 68))) := Lib.hid (Hbx.out.alloc (by have := Hbx.out.size; rw [Hb0.out] at this; exact this) _)
            have HoW := Lib.hid (Blk.alloc Hout.out (.cells #[.int .i64 (x : Int), .int .i64 (i : Int)] 68))
            have HwW := Lib.hid (Hown.out.alloc (.cells #[.int .i64 (x : Int), .int .i64 (i : Int)] 68))
            have HpW := Lib.hid (Blk.new wr 68 #[.int .i64 (x : Int), .int .i64 (i : Int)])
            have d0 := HpW.out.c0
            have d1 := HpW.out.c1
            have hfz := HoW.out.frozen i
            obtain ⟨u, hu⟩ := outC_cell (lsOf zs) ((ordUp (lsOf zs) 15).take (j + 1)) k i hik
            rw [← HoW.out.cell] at hu
            generalize wr.alloc (.cells #[.int .i64 (x : Int), .int .i64 (i : Int)] 68) = W at *
            refine (HL.out W).mono ?_
            rintro e w6 ⟨rfl, hw6⟩
            cases hw6
            clear hc0 hc1 HL
            go_wp2_with fail
            have q1 : (y : Int) - (al : Int) = (t : Int) + 1 := by omega
            have q2 : IntKind.i64.wrap ((t : Int) + 1) = (t : Int) + 1 := IntWalk.i64_in _ (by omega)
            have q3 : (t : Int) + 1 - 1 = (t : Int) := by omega
            have q4 : IntKind.i64.wrap (t : Int) = (t : Int) := IntWalk.i64_in _ (by omega)
            have q5 : (al : Int) ≤ (y : Int) := by omega
            have q6 : (0 : Int) ≤ (al : Int) := by omega
            go_quiet ((go_at_call 36; exact Calls.quiet_of_same (HR1.out _)))
            clear q1 q2 q3 q4 q5 q6
            rw [HM.out]
            have p1 : (x : Int) - (y : Int) = ((x - y : Nat) : Int) := by omega
            have hxy : x - y ≤ 15 := by omega
            have hsz : S2.size + R2.size ≤ 9223372036854775807 := by omega
            have HbW2 := Lib.hid (below_drewN' HbW.out nq)
            have HoW2 := Lib.hid (Blk.drewN HoW.out nq)
            have HwW2 : Hid ((W.drewN nq).ownsRow (b0 + 1) 68 2 (.slice (some ⟨b, o, none⟩) pn c4) pn (((ordUp (lsOf zs) 15).map fun i => ((lsOf zs).getD i 0, i)).flatMap plC)) := Lib.hid HwW.out
            have d0' : (W.drewN nq).cell? ⟨wr.heap.size, 0, none⟩ = some (.int .i64 (x : Int)) := d0
            have d1' : (W.drewN nq).cell? ⟨wr.heap.size, 1, none⟩ = some (.int .i64 (i : Int)) := d1
            have hfz' : (W.drewN nq).frozen? ⟨go, i, none⟩ = false := hfz
            have hu' : (W.drewN nq).cell? ⟨go, i, none⟩ = some u := hu
            clear d0 d1 hfz hu HbW HoW HwW HpW
            generalize W.drewN nq = W2 at *
            go_wp2_with fail
            refine (HR2.out W2).mono ?_
            rintro e w7 ⟨rfl, hw7⟩
            cases hw7
            go_wp2_with fail
            rw [HF.out]
            go_roundw
            case rel =>
              refine ⟨j + 2, by omega, by go_num, HV.out.symm, ?_, ?_, ?_⟩
              · have := HoW2.out.set_ i (rowV (codeS (lsOf zs) i))
                rw [HT.out, ← outC_put _ _ _ _ hik]
                exact this
              · exact own_lowV HwW2.out ((Below.refl go W2).setCell (Nat.le_refl go) _) Hlt3.out
              · exact HbW2.out.setCell (by show b0 ≤ go; omega) _
            case measure => simp [intOf]; omega
        · obtain rfl : j = pn := by omega
          have Hall : Hid ((ordUp (lsOf zs) 15).take j = ordUp (lsOf zs) 15) := Lib.hid (List.take_of_length_le (by rw [Hol.out]; exact Nat.le_refl _))
          have Hfin := Lib.hid (outC_all (lsOf zs) F4.out)
          rw [Hl.out] at Hfin
          clear hown
          go_wp2_with fail
          go_ret
          exact ⟨⟨go, rfl, by rw [Hb0.out]; omega, by rw [← Hfin.out, ← Hall.out]; exact Hout.out⟩, by rw [Hb0.out]; exact Hbx.out⟩
end Go.Proofs.Ytfgkfakhlcbdbaa.Cds
