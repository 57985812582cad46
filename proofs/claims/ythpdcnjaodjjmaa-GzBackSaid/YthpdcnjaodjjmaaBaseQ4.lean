/- texts joined: Src CodeTable CodeNext Row CodeCodes0 CodeRow BlkLens MatchSame BlkRunsW RtHead. -/
import Derived.Test.YthpdcnjaodjjmaaBaseQ3
import Derived.Deep.QuietTactic
import Derived.BigQuiet
import Derived.Test.YthpdcnjaodjjmaaBaseQ1
import Derived.Test.YthpdcnjaodjjmaaProg
import Derived.WalkSpells
import Derived.Test.YthpdcnjaodjjmaaBaseQ2
/- package bits: bits that are read. -/
namespace Go.Proofs.Ythpdcnjaodjjmaa.Bits
open Go Go.RowKit Go.Proofs.Ythpdcnjaodjjmaa
set_option linter.unusedVariables false

/-- a source at p: its bytes' place, which bit is next -/
def SrcAt (w : World) (p : Nat) (A : Option Addr) (n c : Nat) (pos : Nat) : Prop := Blk w p 76 #[.slice A n c, .int .i64 (pos : Int)]
def srcT : List TypeId := [76]

theorem u8_and_bitI (x : UInt8) (r : Nat) : bits .and .u8 (n8 x / 2 ^ r) 1 = bitI (x.toNat.testBit r) := by
  have hx := x.toNat_lt
  have hlt : x.toNat / 2 ^ r < 256 := Nat.lt_of_le_of_lt (Nat.div_le_self _ _) hx
  have h2 : n8 x / 2 ^ r = ((x.toNat / 2 ^ r : Nat) : Int) := by unfold n8; simp
  rw [h2, show (1 : Int) = ((1 : Nat) : Int) from rfl, u8_and_nat _ _ hlt (by omega), nat_mask1]
  unfold bitI; rw [Nat.toNat_testBit]
theorem bitI_bd (b : Bool) : 0 ≤ bitI b ∧ bitI b ≤ 1 := by cases b <;> decide
theorem or64 (a b i : Nat) (ha : a % 2 ^ i = 0) (hb : b < 2 ^ i) (hs : a + b < 9223372036854775808) : bits .or .i64 (a : Int) (b : Int) = ((a + b : Nat) : Int) := by
  have h1 : BitVec.ofInt 64 (a : Int) = BitVec.ofNat 64 a := by rw [BitVec.ofInt_natCast]
  have h2 : BitVec.ofInt 64 (b : Int) = BitVec.ofNat 64 b := by rw [BitVec.ofInt_natCast]
  show IntKind.i64.wrap ((BitVec.ofInt 64 (a : Int) ||| BitVec.ofInt 64 (b : Int)).toNat : Int) = _
  rw [h1, h2, BitVec.toNat_or, BitVec.toNat_ofNat, BitVec.toNat_ofNat, Nat.mod_eq_of_lt (by omega), Nat.mod_eq_of_lt (by omega), nat_join i a b ha hb]
  exact IntWalk.i64_in _ (by omega)
theorem or_comm64 (a b : Int) : bits .or .i64 a b = bits .or .i64 b a := by
  show IntKind.i64.wrap ((BitVec.ofInt 64 a ||| BitVec.ofInt 64 b).toNat : Int) = IntKind.i64.wrap ((BitVec.ofInt 64 b ||| BitVec.ofInt 64 a).toNat : Int)
  rw [BitVec.or_comm]
theorem or_bit64 (n k : Nat) (b : Bool) (hn : n < 2 ^ k) (hk : k ≤ 61) : bits .or .i64 (n : Int) (wrap64 (bitI b * 2 ^ k)) = ((n + b.toNat * 2 ^ k : Nat) : Int) := by
  have h2 : 2 ^ k ≤ 2 ^ 61 := Nat.pow_le_pow_right (by omega) hk
  have hb : b.toNat ≤ 1 := by cases b <;> simp
  have hbb : b.toNat * 2 ^ k ≤ 1 * 2 ^ k := Nat.mul_le_mul_right _ hb
  have e : bitI b * 2 ^ k = ((b.toNat * 2 ^ k : Nat) : Int) := by unfold bitI; simp
  have e2 : wrap64 ((b.toNat * 2 ^ k : Nat) : Int) = ((b.toNat * 2 ^ k : Nat) : Int) := by unfold wrap64; omega
  rw [e, e2, or_comm64, or64 _ _ k (Nat.mul_mod_left _ _) hn (by omega), Nat.add_comm]
theorem slat_setCell {w : World} {A : Option Addr} {cs : List Value} (h : SlAt w A cs) {p : Addr} (hne : ∀ b o, A = some ⟨b, o, none⟩ → 0 < cs.length → b ≠ p.block) (u : Value) : SlAt (w.setCell p u) A cs := fun hp => by
  obtain ⟨b, o, e, hc⟩ := h hp
  refine ⟨b, o, e, fun j v hj => ?_⟩
  rw [World.cell?_of_block (Below.heap_setCell w p u b (hne b o e hp))]
  exact hc j v hj
theorem num_take_snoc (l : List Bool) (k : Nat) (h : k < l.length) : num (l.take (k + 1)) = num (l.take k) + l[k].toNat * 2 ^ k := by
  rw [take_snoc _ _ h, num_append]
  simp [num, Nat.min_eq_left (Nat.le_of_lt h)]
  exact Nat.mul_comm _ _

theorem of_any (A : Option Addr) (n c : Nat) (w : World) :
    Calls Try.prog 25 #[.slice A n c] w fun e w' => e = .returned (.pointer (some ⟨w.heap.size, 0, none⟩)) ∧ SrcAt w' w.heap.size A n c 0 ∧ Below w.heap.size w w' := by
  go_enter Try.func25, Try.ntmps25
  go_wp2
  go_ret
  exact ⟨rfl, Blk.new w _ _, (Below.refl _ _).alloc (Nat.le_refl _) _⟩

/-- what Get hands back: a number and true, or nothing and false -/
def GetPost (p : Nat) (A : Option Addr) (n c pos size : Nat) (xs : List UInt8) (w : World) (e : Ending) (w' : World) : Prop :=
  (pos + size ≤ 8 * n ∧ e = .returned (.tuple #[.int .i64 (num (((bitsL xs).drop pos).take size) : Nat), .bool true]) ∧ SrcAt w' p A n c (pos + size) ∨
   8 * n < pos + size ∧ e = .returned (.tuple #[.int .i64 0, .bool false]) ∧ ∃ q, SrcAt w' p A n c q) ∧ Keeps p srcT w w'

set_option maxRecDepth 100000 in
set_option maxHeartbeats 1600000 in
theorem get_any (p : Nat) (A : Option Addr) (n c pos size : Nat) (xs : List UInt8) (w : World) (h : SrcAt w p A n c pos) (hn : xs.length = n) (hA : ByAt w A xs) (hs : size ≤ 61) (hp : pos ≤ 8 * n) (hnn : n ≤ 1099511627776) (hbx : ∀ b o, A = some ⟨b, o, none⟩ → 0 < n → b ≠ p) :
    Calls Try.prog 72 #[.pointer (some ⟨p, 0, none⟩), .int .i64 (size : Int)] w (GetPost p A n c pos size xs w) := by
  have H := Lib.hid h
  have Hn := Lib.hid hn
  have HA := Lib.hid hA
  have Hbx := Lib.hid hbx
  clear h hn hA hbx
  go_enter Try.func72, Try.ntmps72
  go_wp2_with fail
  go_loopw [6, 9] (fun a i wr => ∃ k : Nat, k ≤ size ∧ pos + k ≤ 8 * n ∧ i = .int .i64 k ∧ a = .int .i64 (num (((bitsL xs).drop pos).take k) : Nat) ∧ SrcAt wr p A n c (pos + k) ∧ Keeps p srcT w wr ∧ ByAt wr A xs) (fun _ i _ => size - (intOf i).toNat)
  case atStart => exact ⟨0, Nat.zero_le _, hp, rfl, rfl, H.out, Keeps.refl _ _ _, HA.out⟩
  case round =>
    obtain ⟨k, hk, hpk, rfl, rfl, hsrc, hkeep, hby⟩ := hrel
    have Hsrc := Lib.hid hsrc
    have Hkeep := Lib.hid hkeep
    have Hby := Lib.hid hby
    have e0 := hsrc.c0
    have e1 := hsrc.c1
    have z1 := hsrc.frozen 1
    obtain ⟨q, hq⟩ : ∃ q, q = pos + k := ⟨_, rfl⟩
    rw [← hq] at e1 hpk Hsrc
    have Hq := Lib.hid hq
    clear hsrc hkeep hby hq
    by_cases hlt : k < size
    · by_cases hin : q < 8 * n
      · have hql : q < (bitsL xs).length := by rw [bitsL_length, Hn.out]; exact hin
        have hkd : k < ((bitsL xs).drop pos).length := by rw [List.length_drop]; have := Hq.out; omega
        have hx : q / 8 < xs.length := by rw [Hn.out]; omega
        obtain ⟨b, o, rfl, hc⟩ := Hby.out.get hx
        have Hnum := Lib.hid (num_take_snoc ((bitsL xs).drop pos) k hkd)
        have hbit : ((bitsL xs).drop pos)[k] = xs[q / 8].toNat.testBit (q % 8) := by
          have h1 := bitsL_get xs q (by rw [Hn.out]; exact hin)
          rw [List.getElem_drop]
          have h2 : (bitsL xs)[pos + k]? = (bitsL xs)[q]? := by rw [Hq.out]
          rw [h1] at h2
          have h3 : (bitsL xs)[pos + k]'(by have := Hq.out; omega) = xs[q / 8].toNat.testBit (q % 8) := by
            have h4 := List.getElem?_eq_getElem (l := bitsL xs) (i := pos + k) (by have := Hq.out; omega)
            rw [h4] at h2
            injection h2 with h2
            rw [h2]; simp [List.getD, hx]
          exact h3
        rw [hbit] at Hnum
        have hnlt : num (((bitsL xs).drop pos).take k) < 2 ^ k := by
          have := num_lt (((bitsL xs).drop pos).take k)
          rwa [List.length_take, Nat.min_eq_left (by omega)] at this
        have hor := or_bit64 _ k (xs[q / 8].toNat.testBit (q % 8)) hnlt (by omega)
        have hand := u8_and_bitI xs[q / 8] (q % 8)
        generalize num (((bitsL xs).drop pos).take k) = m at *
        generalize xs[q / 8] = x at *
        generalize x.toNat.testBit (q % 8) = bb at *
        have hbb := bitI_bd bb
        have hr8 : q % 8 < 8 := by omega
        have hge : ¬ (8 * (n : Int) ≤ (q : Int)) := by omega
        clear hbit hx
        go_wp2_with fail
        go_quiet (fail)
        go_wp2_with fail
        go_quiet (fail)
        go_wp2_with fail
        go_roundw
        case rel =>
          refine ⟨k + 1, by omega, by have := Hq.out; omega, by go_num, int_eq (by rw [Hnum.out]; simp), ?_, ?_, ?_⟩
          · have h2 : ((pos + (k + 1) : Nat) : Int) = (q : Int) + 1 := by have := Hq.out; omega
            unfold SrcAt
            rw [h2]; exact Blk.s1 (Blk.drewN Hsrc.out _) _
          · exact (Hkeep.out.drewN _).setBlk (Hsrc.out.drewN _) (by simp [srcT]) (Nat.le_refl _) 1 _
          · exact slat_setCell (Hby.out) (fun b' o' e _ => Hbx.out b' o' e (by omega)) _
        case measure => simp [intOf]; omega
      · have hge : 8 * (n : Int) ≤ (q : Int) := by omega
        go_wp2_with fail
        go_quiet (fail)
        go_wp2_with fail
        go_ret2
        exact ⟨.inr ⟨by have := Hq.out; omega, rfl, q, Hsrc.out⟩, Hkeep.out.drewN _⟩
    · have hk2 : k = size := by omega
      have Hk2 := Lib.hid hk2
      clear hk2
      go_wp2_with fail
      go_ret2
      refine ⟨.inl ⟨by have := Hq.out; have := Hk2.out; omega, by rw [← Hk2.out]; rfl, ?_⟩, Hkeep.out⟩
      have h1 := Hsrc.out
      rw [Hq.out, Hk2.out] at h1
      exact h1
end Go.Proofs.Ythpdcnjaodjjmaa.Bits

/- package code: Make. -/
namespace Go.Proofs.Ythpdcnjaodjjmaa.Code
open Go Go.RowKit Go.Proofs.Ythpdcnjaodjjmaa Go.Proofs.Ythpdcnjaodjjmaa.Bits
set_option linter.unusedVariables false

theorem tyI : SliceTy Try.prog 30 3 (.int .i64 0) 1 8 := ⟨Try.underlying30, by kernel_rfl, rfl, by omega⟩
/-- a table's cells: how many of each length, the places -/
def tab (cs : List Nat) (v : Value) : Array Value := (cs.map natV ++ [v]).toArray
theorem tab_get (cs : List Nat) (v : Value) (i : Nat) (h : i < cs.length) : (tab cs v)[i]? = some (.int .i64 (cs[i] : Int)) := by
  simp [tab, List.getElem?_append_left, h, natV]
theorem tab_last (cs : List Nat) (v : Value) : (tab cs v)[cs.length]? = some v := by
  simp [tab]
theorem tab_set (cs : List Nat) (v : Value) (i x : Nat) (h : i < cs.length) : (tab cs v).setIfInBounds i (.int .i64 (x : Int)) = tab (cs.set i x) v := by
  unfold tab
  apply Array.ext'
  simp [natV, h]
theorem tab_setv (cs : List Nat) (v u : Value) : (tab cs v).setIfInBounds cs.length u = tab cs u := by
  unfold tab
  apply Array.ext'
  simp
/-- how many of each length are among the first k -/
def cnk (ls : List Nat) (k : Nat) : List Nat := (List.range 16).map fun s => (ordN (ls.take k) s).length
theorem cnk_length (ls : List Nat) (k : Nat) : (cnk ls k).length = 16 := by simp [cnk]
theorem cnk_zero (ls : List Nat) : cnk ls 0 = List.replicate 16 0 := by simp [cnk, ordN]; decide
theorem cnk_get (ls : List Nat) (k s : Nat) (h : s < 16) : (cnk ls k)[s]'(by rw [cnk_length]; exact h) = (ordN (ls.take k) s).length := by simp [cnk]
theorem cnk_next (ls : List Nat) (k : Nat) (h : k < ls.length) (h15 : ls.getD k 0 < 16) : cnk ls (k + 1) = (cnk ls k).set (ls.getD k 0) ((ordN (ls.take k) (ls.getD k 0)).length + 1) := by
  apply List.ext_getElem
  · simp [cnk]
  · intro i h1 h2
    have hi : i < 16 := by simpa [cnk] using h1
    rw [cnk_get _ _ _ hi, ordN_take ls k i h, List.getElem_set]
    by_cases hx : ls.getD k 0 = i
    · rw [if_pos hx, if_pos hx, hx]; simp
    · rw [if_neg hx, if_neg hx, cnk_get _ _ _ hi]; simp
def cntL (ls : List Nat) : List Nat := (List.range 16).map (cnt ls)
theorem cntL_of (ls : List Nat) : (cnk ls ls.length).set 0 0 = cntL ls := by
  apply List.ext_getElem
  · simp [cnk, cntL]
  · intro i h1 h2
    have hi : i < 16 := by simpa [cnk] using h1
    rw [List.getElem_set]
    simp only [cntL, List.getElem_map, List.getElem_range]
    by_cases hx : 0 = i
    · rw [if_pos hx, ← hx]; rfl
    · rw [if_neg hx, cnk_get _ _ _ hi, List.take_length]; unfold cnt; rw [if_neg (by omega)]
theorem cntL_length (ls : List Nat) : (cntL ls).length = 16 := by simp [cntL]
theorem cntL_get (ls : List Nat) (s : Nat) (h : s < 16) : (cntL ls)[s]'(by rw [cntL_length]; exact h) = cnt ls s := by simp [cntL]
/-- a table of a code -/
def TabAt (w : World) (base p : Nat) (ls : List Nat) : Prop := base ≤ p ∧ ∃ v, Blk w p 129 (tab (cntL ls) v) ∧ w.ownsRow base 3 1 v (ordUp ls 15).length ((ordUp ls 15).map natV)
theorem ordUp_le (ls : List Nat) (t : Nat) : (ordUp ls t).length ≤ t * ls.length := by
  induction t with
  | zero => simp [ordUp]
  | succ t ih =>
    rw [ordUp_succ, List.length_append, Nat.succ_mul]
    have := ordN_len_le ls (t + 1)
    omega
set_option maxRecDepth 100000 in
set_option maxHeartbeats 1600000 in
theorem make_any (A : Option Addr) (n c : Nat) (zs : List Int) (w : World) (hn : zs.length = n) (hA : InAt w A zs) (hc : chkL zs = 0) :
    Calls Try.prog 44 #[.slice A n c] w fun e w' => (∃ p, e = .returned (.pointer (some ⟨p, 0, none⟩)) ∧ TabAt w' w.heap.size p (lsOf zs)) ∧ Below w.heap.size w w' := by
  obtain ⟨f1, f2, f3, f4, f5⟩ := chk_fine zs hc
  have hx : n ≤ 288 := by omega
  have Hl := Lib.hid (lsOf_len zs)
  rw [hn] at Hl
  have H5 := Lib.hid f5
  have Hn := Lib.hid hn
  have HA := Lib.hid hA
  have Hcz := Lib.hid (cnk_zero (lsOf zs))
  clear hn hA hc f1 f2 f3 f4 f5
  go_enter Try.func44, Try.ntmps44
  go_wp2_with fail
  generalize hg : w.heap.size = g at *
  have Hg := Lib.hid hg
  clear hg
  go_loopw [13] (fun i wr => ∃ k : Nat, k ≤ n ∧ i = .int .i64 (k : Int) ∧ Blk wr g 129 (tab (cnk (lsOf zs) k) (.slice none 0 0)) ∧ Below w.heap.size w wr) (fun i _ => n - (intOf i).toNat)
  case atStart =>
    refine ⟨0, Nat.zero_le _, rfl, ?_, (Below.refl _ _).alloc (Nat.le_refl _) _⟩
    rw [Hcz.out, ← Hg.out]; exact Blk.new w _ _
  case round =>
    obtain ⟨k, hk, rfl, hblk, hb⟩ := hrel
    have Hblk := Lib.hid hblk
    have Hb := Lib.hid hb
    clear hblk hb
    by_cases hlt : k < n
    · have hkl : k < zs.length := by rw [Hn.out]; exact hlt
      have hkl2 : k < (lsOf zs).length := by rw [Hl.out]; exact hlt
      obtain ⟨b, o, rfl, hcell⟩ := (HA.out.below Hb.out).get hkl
      have hz := H5.out zs[k] (List.getElem_mem hkl)
      have Hd := Lib.hid (getD_of zs k hkl)
      have Hs := Lib.hid (cnk_next (lsOf zs) k hkl2)
      rw [Hd.out] at Hs
      generalize zs[k] = z at *
      obtain ⟨x, rfl⟩ := Int.eq_ofNat_of_zero_le hz.1
      rw [Int.toNat_natCast] at Hs
      have hx16 : x < 16 := by omega
      have hxl : x < (cnk (lsOf zs) k).length := by rw [cnk_length]; exact hx16
      have hcc : wr.cell? ⟨g, x, none⟩ = some (.int .i64 ((ordN ((lsOf zs).take k) x).length : Int)) := by rw [Hblk.out.cell, tab_get _ _ _ hxl, cnk_get _ _ _ hx16]
      have hfz := Hblk.out.frozen x
      have hq : (ordN ((lsOf zs).take k) x).length ≤ 288 := by
        have h1 := ordN_len_le ((lsOf zs).take k) x
        have h2 : ((lsOf zs).take k).length ≤ k := by simp; omega
        omega
      generalize (ordN ((lsOf zs).take k) x).length = q at *
      go_wp2_with fail
      go_region
      go_wp2_with fail
      go_roundw
      case rel =>
        refine ⟨k + 1, by omega, by go_num, ?_, ?_⟩
        · rw [Hs.out hx16, ← tab_set _ _ _ _ hxl]; exact (Hblk.out.set_ x _).drew
        · exact (Hb.out.setCell (by show w.heap.size ≤ g; rw [Hg.out]; exact Nat.le_refl _) _).drew
      case measure => simp [intOf]; omega
    · obtain rfl : k = n := by omega
      have h0l : 0 < (cnk (lsOf zs) k).length := by rw [cnk_length]; omega
      have Hlen := Lib.hid (cnk_length (lsOf zs) k)
      have Hcf : Hid ((cnk (lsOf zs) k).set 0 0 = cntL (lsOf zs)) := Lib.hid (by rw [← cntL_of, Hl.out])
      have hfz := Hblk.out.frozen 0
      have hcc : wr.cell? ⟨g, 0, none⟩ = some (.int .i64 (((cnk (lsOf zs) k)[0]'h0l : Nat) : Int)) := by rw [Hblk.out.cell, tab_get _ _ _ h0l]
      generalize (cnk (lsOf zs) k)[0]'h0l = q at *
      have Hb1 := Lib.hid (Hb.out.setCell (p := ⟨g, 0, none⟩) (by show w.heap.size ≤ g; rw [Hg.out]; exact Nat.le_refl _) (.int .i64 0))
      have Hblk1 : Hid (Blk (wr.setCell ⟨g, 0, none⟩ (.int .i64 0)) g 129 (tab (cntL (lsOf zs)) (.slice none 0 0))) := Lib.hid (by
        rw [← Hcf.out]
        have := tab_set (cnk (lsOf zs) k) (.slice none 0 0) 0 0 h0l
        rw [← this]; exact Hblk.out.set_ 0 _)
      go_wp2_with fail
      clear hcc hfz
      generalize wr.setCell ⟨g, 0, none⟩ (.int .i64 0) = wz at *
      clear Hb Hblk Hcf
      go_loopw [6] (fun s wo => ∃ t : Nat, t ≤ 15 ∧ s = .int .i64 ((t : Int) + 1) ∧ (∃ v, Blk wo g 129 (tab (cntL (lsOf zs)) v) ∧ wo.ownsRow w.heap.size 3 1 v (ordUp (lsOf zs) t).length ((ordUp (lsOf zs) t).map natV)) ∧ Below w.heap.size w wo) (fun s _ => 17 - (intOf s).toNat)
      case atStart => exact ⟨0, Nat.zero_le _, rfl, ⟨_, Hblk1.out, ⟨rfl, .inl ⟨rfl, rfl⟩⟩⟩, Hb1.out⟩
      case round =>
        obtain ⟨t, ht, rfl, ⟨v, hblk, hown⟩, hb⟩ := hrel
        have Hblk := Lib.hid hblk
        have Hown := Lib.hid hown
        have Hb := Lib.hid hb
        clear hblk hb hown
        by_cases hlt : t < 15
        · have e15 : decide ((t : Int) + 1 ≤ 15) = true := by simp; omega
          go_wp2_with fail
          clear e15
          go_loopw [38] (fun i wx => ∃ j : Nat, j ≤ k ∧ i = .int .i64 (j : Int) ∧ (∃ v, Blk wx g 129 (tab (cntL (lsOf zs)) v) ∧ wx.ownsRow w.heap.size 3 1 v (ordUp (lsOf zs) t ++ ordN ((lsOf zs).take j) (t + 1)).length ((ordUp (lsOf zs) t ++ ordN ((lsOf zs).take j) (t + 1)).map natV)) ∧ Below w.heap.size w wx) (fun i _ => k - (intOf i).toNat)
          case atStart => exact ⟨0, Nat.zero_le _, rfl, ⟨v, Hblk.out, by simpa [ordN] using Hown.out⟩, Hb.out⟩
          case round =>
            obtain ⟨j, hj, rfl, ⟨v2, hblk, hown⟩, hb⟩ := hrel
            by_cases hjk : j < k
            · have hjl : j < zs.length := by rw [Hn.out]; exact hjk
              have hjl2 : j < (lsOf zs).length := by rw [Hl.out]; exact hjk
              obtain ⟨b, o, rfl, hcell⟩ := (HA.out.below hb).get hjl
              have hz := H5.out zs[j] (List.getElem_mem hjl)
              have Hd := Lib.hid (getD_of zs j hjl)
              have Ht := Lib.hid (ordN_take (lsOf zs) j (t + 1) hjl2)
              rw [Hd.out] at Ht
              have hN : (ordUp (lsOf zs) t ++ ordN ((lsOf zs).take j) (t + 1)).length ≤ 100000 := by
                rw [List.length_append]
                have h1 := ordUp_le (lsOf zs) t
                have h2 := ordN_len_le ((lsOf zs).take j) (t + 1)
                have h3 : ((lsOf zs).take j).length ≤ j := by simp; omega
                rw [Hl.out] at h1
                have h4 : t * k ≤ 15 * k := Nat.mul_le_mul_right _ ht
                omega
              generalize zs[j] = z at *
              obtain ⟨x, rfl⟩ := Int.eq_ofNat_of_zero_le hz.1
              rw [Int.toNat_natCast] at Ht
              generalize hys : ordUp (lsOf zs) t ++ ordN ((lsOf zs).take j) (t + 1) = ys at *
              have Hys := Lib.hid hys
              clear hys
              generalize hNN : ys.length = N at *
              have HN := Lib.hid hNN
              clear hNN
              by_cases hxt : x = t + 1
              · have e1 : ((x : Int) == (t : Int) + 1) = true := by simp; omega
                have Hr : Hid (ordUp (lsOf zs) t ++ ordN ((lsOf zs).take (j + 1)) (t + 1) = ys ++ [j]) := Lib.hid (by rw [Ht.out, if_pos hxt, ← List.append_assoc, Hys.out])
                clear Ht hxt
                have hc16 : wr.cell? ⟨g, 16, none⟩ = some v2 := by rw [hblk.cell, ← cntL_length (lsOf zs), tab_last]
                have Hown2 := Lib.hid (hown.alloc (.cells #[.int .i64 (j : Int)] 3))
                have Hsl := Lib.hid (slat_one wr 3 (.int .i64 (j : Int)))
                have Hblk2 := Lib.hid (hblk.alloc (.cells #[.int .i64 (j : Int)] 3))
                have Hb2 := Lib.hid (hb.alloc hb.size (.cells #[.int .i64 (j : Int)] 3))
                have Hbs := Lib.hid Hb2.out.size
                clear hblk hown hb
                go_wp2_with (at_builtin; refine wpList_app _ rfl (.tmp 50) (.tmp 52) _ rfl w.heap.size 3 _ 1 8 tyI v2 N (ys.map natV) rfl Hown2.out (some ⟨wr.heap.size, 0, none⟩) 1 1 [.int .i64 (j : Int)] rfl rfl Hsl.out (by simp [Value.oneCell']) (by simp) (by unfold maxLen; omega) (by omega) Hbs.out ?_; intro v3 w3 hown3 hg3 _; obtain ⟨g3, c3, hv3, _, _⟩ := hown3.form (by omega); subst hv3; have Ho3 := Lib.hid hown3; have Hb3 := Lib.hid (Hblk2.out.grown hg3 (own_ne Hown2.out Hblk2.out (by decide))); have Hk3 := Lib.hid (own_below Hown2.out hg3 Hb2.out Hbs.out); clear hown3 hg3; have hy16 := Hb3.out.frozen 16; have hd16 : w3.cell? ⟨g, 16, none⟩ = some v2 := (by rw [Hb3.out.cell, ← cntL_length (lsOf zs), tab_last]))
                go_roundw
                case rel =>
                  refine ⟨j + 1, by omega, by go_num, ⟨Go.Value.slice (some ⟨g3, 0, none⟩) (N + 1) c3, ?_, ?_⟩, ?_⟩
                  · have := tab_setv (cntL (lsOf zs)) v2 (Go.Value.slice (some ⟨g3, 0, none⟩) (N + 1) c3)
                    rw [cntL_length] at this
                    rw [← this]; exact Hb3.out.set_ 16 _
                  · rw [Hr.out, List.length_append, HN.out, List.map_append]
                    exact ownsRow_setCell_other Ho3.out (a := ⟨g, 16, none⟩) (by exact own_ne Ho3.out Hb3.out (by decide)) _
                  · exact Hk3.out.setCell (by show w.heap.size ≤ g; rw [Hg.out]; exact Nat.le_refl _) _
                case measure => simp [intOf]; omega
              · have e1 : ((x : Int) == (t : Int) + 1) = false := by simp; omega
                have Hr : Hid (ordUp (lsOf zs) t ++ ordN ((lsOf zs).take (j + 1)) (t + 1) = ys) := Lib.hid (by rw [Ht.out, if_neg hxt, List.append_nil, Hys.out])
                have Hblk := Lib.hid hblk
                have Hown := Lib.hid hown
                have Hb := Lib.hid hb
                clear Ht hxt hblk hown hb
                go_wp2_with fail
                go_roundw
                case rel => exact ⟨j + 1, by omega, by go_num, ⟨v2, Hblk.out, by rw [Hr.out, HN.out]; exact Hown.out⟩, Hb.out⟩
                case measure => simp [intOf]; omega
            · obtain rfl : j = k := by omega
              have Hall : Hid ((lsOf zs).take j = lsOf zs) := Lib.hid (List.take_of_length_le (by rw [Hl.out]; omega))
              have Hblk := Lib.hid hblk
              have Hown := Lib.hid hown
              have Hb := Lib.hid hb
              clear hblk hown hb
              rw [Hall.out, ← ordUp_succ] at Hown
              go_wp2_with fail
              go_roundw
              case rel => exact ⟨t + 1, by omega, by go_num, ⟨v2, Hblk.out, Hown.out⟩, Hb.out⟩
              case measure => simp [intOf]; omega
        · obtain rfl : t = 15 := by omega
          go_wp2_with fail
          go_ret
          exact ⟨⟨g, rfl, by rw [Hg.out]; exact Nat.le_refl _, v, Hblk.out, Hown.out⟩, Hb.out⟩
end Go.Proofs.Ythpdcnjaodjjmaa.Code

/- package code: Table.Read. -/
namespace Go.Proofs.Ythpdcnjaodjjmaa.Code
open Go Go.RowKit Go.Proofs.Ythpdcnjaodjjmaa Go.Proofs.Ythpdcnjaodjjmaa.Bits
set_option linter.unusedVariables false

theorem val_next (row : List Bool) (t : Nat) (h : t < row.length) : val (row.take (t + 1)) = 2 * val (row.take t) + num ((row.drop t).take 1) := by
  rw [take_snoc _ _ h, val_snoc, List.drop_eq_getElem_cons h]
  show 2 * _ + _ = 2 * _ + num [row[t]]
  simp [num]
theorem one_bit (l : List Bool) : num (l.take 1) ≤ 1 := by
  have := num_lt (l.take 1)
  have h2 : (l.take 1).length ≤ 1 := by rw [List.length_take]; omega
  have h3 : 2 ^ (l.take 1).length ≤ 2 ^ 1 := Nat.pow_le_pow_right (by omega) h2
  omega
theorem or_next (v b : Nat) (hv : v ≤ 1000000) (hb : b ≤ 1) : Go.bits .or .i64 (2 * (v : Int)) (b : Int) = ((2 * v + b : Nat) : Int) := by
  have := or64 (2 * v) b 1 (by omega) (by omega) (by omega)
  rwa [Int.natCast_mul] at this
theorem SlAt.keepsB {w w' : World} {A : Option Addr} {cs : List Value} {q : Nat} {T : List TypeId} (h : SlAt w A cs) (hk : Keeps q T w w') (hlt : ∀ b o, A = some ⟨b, o, none⟩ → 0 < cs.length → b < q) : SlAt w' A cs := fun hp => by
  obtain ⟨b, o, e, hc⟩ := h hp
  refine ⟨b, o, e, fun j v hj => ?_⟩
  rw [World.cell?_of_block (hk.block b (hlt b o e hp))]
  exact hc j v hj
/-- what Read of a table hands back -/
def NextPost (q : Nat) (A : Option Addr) (n c pos : Nat) (xs : List UInt8) (ls : List Nat) (w : World) (e : Ending) (w' : World) : Prop :=
  (∃ k m x, next ls ((bitsL xs).drop pos) = (k, m, x) ∧ e = .returned (.tuple #[.int .i64 (k : Int), .int .i64 x]) ∧ (x = 0 → SrcAt w' q A n c (pos + m) ∧ pos + m ≤ 8 * n)) ∧ Keeps q srcT w w'
theorem TabAt.keeps {w w' : World} {base p q : Nat} {ls : List Nat} (h : TabAt w base p ls) (hk : Keeps q srcT w w') : TabAt w' base p ls := by
  obtain ⟨h1, v, h2, h3⟩ := h
  exact ⟨h1, v, hk.blk h2 (by simp [srcT]), hk.own h3 (by simp [srcT])⟩
theorem TabAt.cnt {w : World} {base p : Nat} {ls : List Nat} (h : TabAt w base p ls) (s : Nat) (hs : s < 16) : w.cell? ⟨p, s, none⟩ = some (.int .i64 (cnt ls s : Int)) := by
  obtain ⟨h1, v, h2, h3⟩ := h
  rw [h2.cell, tab_get _ _ _ (by rw [cntL_length]; exact hs), cntL_get _ _ hs]
theorem TabAt.ord {w : World} {base p : Nat} {ls : List Nat} (h : TabAt w base p ls) : ∃ A cap, w.cell? ⟨p, 16, none⟩ = some (.slice A (ordUp ls 15).length cap) ∧ SlAt w A ((ordUp ls 15).map natV) := by
  obtain ⟨h1, v, h2, h3⟩ := h
  obtain ⟨A, cap, rfl, _, _, h4, _⟩ := own_slat h3
  exact ⟨A, cap, by rw [h2.cell, ← cntL_length ls, tab_last], h4⟩
set_option maxRecDepth 100000 in
set_option maxHeartbeats 1600000 in
theorem tread_any (base p q : Nat) (A : Option Addr) (n c pos : Nat) (xs : List UInt8) (ls : List Nat) (w : World) (hT : TabAt w base p ls) (hS : SrcAt w q A n c pos) (hn : xs.length = n) (hA : ByAt w A xs) (hp : pos ≤ 8 * n) (hnn : n ≤ 1099511627776)
    (hbx : ∀ b o, A = some ⟨b, o, none⟩ → 0 < n → b < q) (hl : ∀ x ∈ ls, x ≤ 15) (hr : room ls ≤ 32768) (hlen : ls.length ≤ 288) :
    Calls Try.prog 96 #[.pointer (some ⟨p, 0, none⟩), .pointer (some ⟨q, 0, none⟩)] w (NextPost q A n c pos xs ls w) := by
  have HT := Lib.hid hT
  have HS := Lib.hid hS
  have Hn := Lib.hid hn
  have HA := Lib.hid hA
  have Hbx := Lib.hid hbx
  have Hacc : Hid (∀ s, s ≤ 15 → first ls s + cnt ls s ≤ 32768) := Lib.hid (fun s hs => by
    have h1 := acc_le ls s hs hl hr
    have h2 : (2 : Nat) ^ s ≤ 2 ^ 15 := Nat.pow_le_pow_right (by omega) hs
    omega)
  have Hlen := Lib.hid hlen
  clear hT hS hn hA hbx hl hr
  go_enter Try.func96, Try.ntmps96
  go_wp2_with fail
  go_loopw [6, 7, 8, 9] (fun cd ft at_ sz wr => ∃ t : Nat, t ≤ 15 ∧ sz = .int .i64 ((t : Int) + 1) ∧ cd = .int .i64 ((2 * val (((bitsL xs).drop pos).take t) : Nat) : Int) ∧ ft = .int .i64 ((first ls (t + 1) : Nat) : Int) ∧ at_ = .int .i64 ((ordUp ls t).length : Int) ∧
    first ls (t + 1) ≤ 2 * val (((bitsL xs).drop pos).take t) ∧ pos + t ≤ 8 * n ∧ next ls ((bitsL xs).drop pos) = nxt ls ((bitsL xs).drop pos) (15 - t) (t + 1) ∧ SrcAt wr q A n c (pos + t) ∧ TabAt wr base p ls ∧ ByAt wr A xs ∧ Keeps q srcT w wr) (fun _ _ _ sz _ => 17 - (intOf sz).toNat)
  case atStart => exact ⟨0, Nat.zero_le _, rfl, rfl, rfl, rfl, by simp [first, cnt, val_nil], hp, rfl, HS.out, HT.out, HA.out, Keeps.refl _ _ _⟩
  case round =>
    obtain ⟨t, ht, rfl, rfl, rfl, rfl, hfi, hpt, hnx, hsrc, htab, hby, hk⟩ := hrel
    have Hnx := Lib.hid hnx
    have Htab := Lib.hid htab
    have Hk := Lib.hid hk
    have hrl : ((bitsL xs).drop pos).length = 8 * n - pos := by rw [List.length_drop, bitsL_length, Hn.out]
    have Hrl := Lib.hid hrl
    by_cases hlt : t < 15
    · have Hget := Lib.hid (get_any q A n c (pos + t) 1 xs wr hsrc Hn.out hby (by omega) hpt hnn (fun b o e h => Nat.ne_of_lt (Hbx.out b o e h)))
      have Hbyr := Lib.hid hby
      clear hsrc htab hby hk hnx hrl
      go_wp2_with fail
      refine (Hget.out).mono ?_
      rintro e w1 ⟨hg, hk1⟩
      have Hk1 := Lib.hid (Hk.out.trans hk1)
      have Htab1 := Lib.hid (Htab.out.keeps hk1)
      have Hby : Hid (ByAt w1 A xs) := Lib.hid (SlAt.keepsB Hbyr.out hk1 (fun b o e h => Hbx.out b o e (by rw [List.length_map, Hn.out] at h; exact h)))
      clear Hbyr
      clear hk1
      rcases hg with ⟨hfit, rfl, hs3⟩ | ⟨hno, rfl, q3, hs3⟩
      · have Hs3 := Lib.hid hs3
        clear hs3
        have htl : t < ((bitsL xs).drop pos).length := by rw [Hrl.out]; omega
        have Hval := Lib.hid (val_next _ t htl)
        rw [List.drop_drop] at Hval
        have hb1 := one_bit ((bitsL xs).drop (pos + t))
        have hvl := val_lt (((bitsL xs).drop pos).take t)
        have hv2 : val (((bitsL xs).drop pos).take t) ≤ 32768 := by
          have h1 : (((bitsL xs).drop pos).take t).length ≤ 15 := by rw [List.length_take]; omega
          have h2 : (2 : Nat) ^ (((bitsL xs).drop pos).take t).length ≤ 2 ^ 15 := Nat.pow_le_pow_right (by omega) h1
          omega
        generalize num (((bitsL xs).drop (pos + t)).take 1) = b at *
        generalize val (((bitsL xs).drop pos).take t) = v at *
        have hor := or_next v b (by omega) hb1
        have hcn := Htab1.out.cnt (t + 1) (by omega)
        have ha1 := Hacc.out (t + 1) (by omega)
        have hup : (ordUp ls t).length ≤ 5000 := by
          have h1 := ordUp_le ls t
          have h2 := Nat.mul_le_mul ht Hlen.out
          omega
        have Hff : Hid (first ls (t + 1 + 1) = 2 * (first ls (t + 1) + cnt ls (t + 1))) := Lib.hid rfl
        have Hupn : Hid ((ordUp ls (t + 1)).length = (ordUp ls t).length + cnt ls (t + 1)) := Lib.hid (by rw [ordUp_succ, List.length_append]; simp [cnt])
        clear hvl
        by_cases hit : 2 * v + b < first ls (t + 1) + cnt ls (t + 1)
        · obtain ⟨i, hi1, hi2⟩ := findC_some ls (t + 1) (val (((bitsL xs).drop pos).take (t + 1))) (by rw [Hval.out]; omega)
          have Hhit := Lib.hid (nxt_hit ls ((bitsL xs).drop pos) (14 - t) (t + 1) i (by omega) hi1)
          have Hpl := Lib.hid (ordUp_get ls t _ i hlt hi1)
          rw [Hval.out] at Hpl
          obtain ⟨B, cap, hB1, hB2⟩ := Htab1.out.ord
          have Hnn := Hnx.out
          rw [show 15 - t = 14 - t + 1 by omega, Hhit.out] at Hnn
          have hlk := (List.getElem?_eq_some_iff.1 Hpl.out).1
          obtain ⟨b2, o2, hBe, hBc⟩ := SlAt.get hB2 (k := (ordUp ls t).length + (2 * v + b - first ls (t + 1))) (by simpa using hlk)
          subst hBe
          have hcell : w1.cell? ⟨b2, o2 + ((ordUp ls t).length + (2 * v + b - first ls (t + 1))), none⟩ = some (.int .i64 (i : Int)) := by
            rw [hBc]
            have h1 := Hpl.out
            rw [List.getElem?_eq_getElem hlk] at h1
            injection h1 with h1
            simp [natV, h1]
          have Hdone := Lib.hid Hnn
          clear hBc hB2 hi1 hi2 Hnn Hhit Hpl Hval Hupn Hff
          generalize hix : (ordUp ls t).length + (2 * v + b - first ls (t + 1)) = ix at *
          have hixI : (((ordUp ls t).length : Nat) : Int) + ((2 * v + b : Nat) : Int) - ((first ls (t + 1) : Nat) : Int) = (ix : Int) := by omega
          generalize (ordUp ls 15).length = m15 at *
          generalize (ordUp ls t).length = ut at *
          generalize first ls (t + 1) = ff at *
          generalize cnt ls (t + 1) = cc at *
          generalize hvb : 2 * v + b = vb at *
          have hlt1 : ((vb : Nat) : Int) - (ff : Int) < (cc : Int) := by omega
          go_wp2_with fail
          go_ret2
          refine ⟨⟨i, t + 1, 0, Hdone.out, rfl, fun _ => ⟨?_, by omega⟩⟩, Hk1.out⟩
          rw [← Nat.add_assoc]; exact Hs3.out
        · have hno : ¬ (first ls (t + 1) ≤ val (((bitsL xs).drop pos).take (t + 1)) ∧ val (((bitsL xs).drop pos).take (t + 1)) < first ls (t + 1) + cnt ls (t + 1)) := by rw [Hval.out]; omega
          have Hmiss := Lib.hid (nxt_miss ls ((bitsL xs).drop pos) (14 - t) (t + 1) (by omega) (findC_none ls _ _ hno))
          have Hnn := Hnx.out
          rw [show 15 - t = 14 - t + 1 by omega, Hmiss.out] at Hnn
          have Hnx2 := Lib.hid Hnn
          clear hno Hmiss Hnn Hnx
          generalize hut : (ordUp ls t).length = ut at *
          generalize hff : first ls (t + 1) = ff at *
          generalize hcc : cnt ls (t + 1) = cc at *
          generalize hvb : 2 * v + b = vb at *
          have Hcc := Lib.hid hcc
          clear hcc hut hff
          have hlt1 : ¬ (((vb : Nat) : Int) - (ff : Int) < (cc : Int)) := by omega
          go_wp2_with fail
          go_roundw
          case rel =>
            refine ⟨t + 1, by omega, by go_num, int_eq (by rw [Hval.out]; omega), int_eq (by rw [Hff.out]; omega), int_eq (by rw [Hupn.out]; omega), by rw [Hval.out, Hff.out]; omega, by omega, ?_, ?_, Htab1.out, Hby.out, Hk1.out⟩
            · rw [Hnx2.out, show 15 - (t + 1) = 14 - t by omega]
            · rw [← Nat.add_assoc]; exact Hs3.out
          case measure => simp [intOf]; omega
      · have Ht := Lib.hid (nxt_torn ls ((bitsL xs).drop pos) (14 - t) (t + 1) (by rw [Hrl.out]; omega))
        have Hnn := Hnx.out
        rw [show 15 - t = 14 - t + 1 by omega, Ht.out] at Hnn
        have Hdone := Lib.hid Hnn
        clear Hnn Ht hs3
        go_wp2_with fail
        go_ret2
        exact ⟨⟨0, 0, 7, Hdone.out, rfl, fun h => by omega⟩, Hk1.out⟩
    · obtain rfl : t = 15 := by omega
      clear hsrc htab hby hk hnx hrl
      go_wp2_with fail
      go_ret2
      exact ⟨⟨0, 0, 8, by rw [Hnx.out]; rfl, rfl, fun h => by omega⟩, Hk.out⟩
end Go.Proofs.Ythpdcnjaodjjmaa.Code

/- package bits: a row that is written. -/
namespace Go.Proofs.Ythpdcnjaodjjmaa.Bits
open Go Go.RowKit Go.Proofs.Ythpdcnjaodjjmaa
set_option linter.unusedVariables false

/-- the types that a row's writing touches -/
def rowT : List TypeId := [5, 45]
/-- a row of bits at p, its memory from 'base' on -/
def RowAt (w : World) (base p : Nat) (l : List Bool) : Prop :=
  base ≤ p ∧ ∃ v, Blk w p 45 #[v, .int .i64 ((l.length % 8 : Nat) : Int)] ∧ w.ownsRow base 5 1 v (pack l).length ((pack l).map u8v)

theorem RowAt.below {w w' : World} {base p : Nat} {l : List Bool} (h : RowAt w base p l) (hb : Below w.heap.size w w') : RowAt w' base p l := by
  obtain ⟨h1, v, h2, h3⟩ := h
  exact ⟨h1, v, h2.below hb h2.lt, own_keep h3 hb⟩
theorem RowAt.lt {w : World} {base p : Nat} {l : List Bool} (h : RowAt w base p l) : p < w.heap.size := by
  obtain ⟨h1, v, h2, h3⟩ := h
  exact h2.lt
theorem RowAt.new (w : World) {base : Nat} (hb : base ≤ w.heap.size) : RowAt (w.alloc (.cells #[.slice none 0 0, .int .i64 0] 45)) base w.heap.size [] :=
  ⟨hb, .slice none 0 0, Blk.new w _ _, World.ownsRow_nil _ _ _ _⟩
theorem or_bit (y : UInt8) (b : Bool) (h : Nat) (hh : h < 8) : bits .or .u8 (n8 y) (bitI b % 256 * 2 ^ h % 256) = n8 (y ||| UInt8.ofNat (b.toNat * 2 ^ h)) := by
  have hy := y.toNat_lt
  have hb : b.toNat ≤ 1 := by cases b <;> simp
  have h2 : 2 ^ h ≤ 2 ^ 7 := Nat.pow_le_pow_right (by omega) (by omega)
  have hbb : b.toNat * 2 ^ h ≤ 1 * 2 ^ h := Nat.mul_le_mul_right _ hb
  have e : bitI b % 256 * 2 ^ h % 256 = ((b.toNat * 2 ^ h : Nat) : Int) := by
    unfold bitI
    rw [show (b.toNat : Int) % 256 = (b.toNat : Int) by omega]
    have : ((b.toNat : Int) * 2 ^ h) = ((b.toNat * 2 ^ h : Nat) : Int) := by simp
    rw [this, Int.emod_eq_of_lt (by omega) (by omega)]
  rw [e]
  unfold n8
  rw [u8_or_nat _ _ hy (by omega), UInt8.toNat_or, UInt8.toNat_ofNat', Nat.mod_eq_of_lt (by omega)]
theorem set_last (ys : List UInt8) (N : Nat) (x : UInt8) (h : ys.length = N) : (ys.map u8v ++ [Value.int .u8 0]).set N (.int .u8 (n8 x)) = (ys ++ [x]).map u8v := by
  subst h; simp [u8v]
theorem byte_one (b : Bool) (h : Nat) (hh : h = 0) (y : UInt8) (hy : y = 0) : y ||| UInt8.ofNat (b.toNat * 2 ^ h) = byteOf [b] := by
  subst hh hy; cases b <;> decide
theorem rowAt_mk {w : World} {base p g M cap h : Nat} {zs : List UInt8} {m : List Bool} (hbp : base ≤ p) (hB : Blk w p 45 #[.slice (some ⟨g, 0, none⟩) (M + 1) cap, .int .i64 (h : Int)]) (hh : h = m.length % 8)
    (hO : w.ownsRow base 5 1 (.slice (some ⟨g, 0, none⟩) (M + 1) cap) (M + 1) (zs.map u8v)) (hz : pack m = zs) : RowAt w base p m := by
  have hl : M + 1 = (pack m).length := by have := hO.1; simp at this; rw [hz]; omega
  rw [hl] at hB hO
  subst hh
  refine ⟨hbp, _, hB, ?_⟩
  rw [hz] at hO ⊢
  exact hO
set_option maxRecDepth 100000 in
set_option maxHeartbeats 800000 in
theorem put_any (base p n size : Nat) (l : List Bool) (w : World) (h : RowAt w base p l) (hn : n < 9223372036854775808) (hs : size ≤ 62) (hl : l.length + size ≤ 1099511627776) :
    Calls Try.prog 34 #[.pointer (some ⟨p, 0, none⟩), .int .i64 (n : Int), .int .i64 (size : Int)] w fun e w' => e = .returned (.tuple #[]) ∧ RowAt w' base p (l ++ numBits n size) ∧ Keeps base rowT w w' := by
  have H := Lib.hid h
  clear h
  go_enter Try.func34, Try.ntmps34
  go_wp2_with fail
  go_loopw [8] (fun i wr => ∃ k : Nat, k ≤ size ∧ i = .int .i64 k ∧ RowAt wr base p (l ++ numBits n k) ∧ Keeps base rowT w wr) (fun i _ => size - (intOf i).toNat)
  case atStart => exact ⟨0, Nat.zero_le _, rfl, by simpa [numBits] using H.out, Keeps.refl _ _ _⟩
  case round =>
    obtain ⟨k, hk, rfl, ⟨hbp, v, hblk, hown⟩, hkeep⟩ := hrel
    by_cases hlt : k < size
    · have Hs := Lib.hid (numBits_succ n k)
      have Hb := Lib.hid (and_bitI n k hn)
      have hlen : (l ++ numBits n k).length ≤ 1099511627776 := by simp [numBits_length]; omega
      generalize hm0 : l ++ numBits n k = m at *
      have Hm0 := Lib.hid hm0
      clear hm0
      have Hblk := Lib.hid hblk
      have hown' := hown
      have Hk := Lib.hid hkeep
      have hand := Hb.out
      generalize n.testBit k = b at *
      have hc0 : wr.cell? ⟨p, 0, none⟩ = some v := by rw [hblk.cell]; rfl
      have hc1 : wr.cell? ⟨p, 1, none⟩ = some (.int .i64 ((m.length % 8 : Nat) : Int)) := by rw [hblk.cell]; rfl
      have hz0 : wr.frozen? ⟨p, 0, none⟩ = false := hblk.frozen 0
      have hz1 : wr.frozen? ⟨p, 1, none⟩ = false := hblk.frozen 1
      clear hblk hown hkeep
      by_cases h8 : m.length % 8 = 0
      · have Hm := Lib.hid (pack_new m b h8)
        have Hp1 := Lib.hid hown'
        obtain ⟨h, hh⟩ : ∃ h, h = m.length % 8 := ⟨_, rfl⟩
        obtain ⟨y, hy0'⟩ : ∃ y : UInt8, y = 0 := ⟨_, rfl⟩
        have HY0 : Hid (Value.int .u8 0 = .int .u8 (n8 y)) := Lib.hid (by rw [hy0']; rfl)
        have hh8 : h < 8 := by omega
        have heq : (((h : Nat) : Int) == 0) = true := by simp; omega
        have Hb1 := Lib.hid (byte_one b h (by omega) y hy0')
        rw [← hh] at hc1 Hblk
        have Hh := Lib.hid hh
        clear hy0' hh
        have hpl : (pack m).length ≤ 1099511627776 := by rw [pack_length]; omega
        clear h8 hown'
        generalize pack m = ys at *
        generalize hN : ys.length = N at *
        have HN := Lib.hid hN
        clear hN
        have Hown2 := Lib.hid (Hp1.out.alloc (.cells #[.int .u8 0] 5))
        have Hsl := Lib.hid (slat_one wr 5 (.int .u8 0))
        have Hk2 := Lib.hid (Hk.out.alloc (Nat.le_trans hbp (Nat.le_of_lt Hblk.out.lt)) (.cells #[.int .u8 0] 5))
        have Hblk2 := Lib.hid (Hblk.out.alloc (.cells #[.int .u8 0] 5))
        have Hbs := Lib.hid (Nat.le_trans hbp (Nat.le_of_lt Hblk2.out.lt))
        go_wp2_with (at_builtin; refine wpList_app _ rfl (.tmp 20) (.tmp 21) _ rfl base 5 _ 1 1 ty8 v N (ys.map u8v) rfl Hown2.out (some ⟨wr.heap.size, 0, none⟩) 1 1 [.int .u8 0] rfl rfl Hsl.out (by simp [Value.oneCell']) (by simp) (by unfold maxLen; omega) (by omega) Hbs.out ?_; intro v2 w2 hown2 hg2 _; obtain ⟨g, cap, hv, hgb, hgl⟩ := hown2.form (by omega); subst hv; have Ho3 := Lib.hid hown2; have Hb3 := Lib.hid (Hblk2.out.grown hg2 (own_ne Hown2.out Hblk2.out (by decide))); have Hk3 := Lib.hid (Hk2.out.grown Hown2.out hg2 (by simp [rowT]) Hbs.out); clear hown2 hg2; have hd0 := Hb3.out.c0; have hd1 := Hb3.out.c1; have hy0 := Hb3.out.frozen 0)
        have HB := Lib.hid (Hb3.out.s0 (.slice (some ⟨g, 0, none⟩) (N + 1) cap))
        have HO := Lib.hid (ownsRow_setCell_other Ho3.out (a := ⟨p, 0, none⟩) (by have := own_ne Ho3.out Hb3.out (by decide); exact this) (.slice (some ⟨g, 0, none⟩) (N + 1) cap))
        have HK := Lib.hid (Hk3.out.setBlk Hb3.out (by simp [rowT]) hbp 0 (.slice (some ⟨g, 0, none⟩) (N + 1) cap))
        generalize w2.setCell ⟨p, 0, none⟩ (.slice (some ⟨g, 0, none⟩) (N + 1) cap) = W at *
        clear hd0 hd1 hy0 hc0 hc1 hz0 hz1
        have hcb : W.cell? ⟨g, N, none⟩ = some (.int .u8 (n8 y)) := by rw [HO.out.cellAt N (by omega), List.getElem?_append_right (by simp; have := HN.out; omega)]; simp [HN.out]; have := HY0.out; injection this
        have hzb : W.frozen? ⟨g, N, none⟩ = false := HO.out.frozenAt N
        have hor := or_bit y b h hh8
        have e0 := HB.out.c0
        have e1 := HB.out.c1
        generalize hx : y ||| UInt8.ofNat (b.toNat * 2 ^ h) = x at *
        have Hx := Lib.hid hx
        clear hx
        skip
        go_region
        have hpg : p ≠ g := by
          have := own_ne HO.out HB.out (by decide)
          intro hpg; subst hpg; exact this rfl
        have HB2 := Lib.hid ((HB.out.far (p := ⟨g, N, none⟩) hpg (.int .u8 (n8 x))).drew)
        have HO2 := Lib.hid (own_drew (HO.out.stored N (.int .u8 (n8 x))).1)
        have HK2 := Lib.hid ((HK.out.stored HO.out (by simp [rowT]) N (.int .u8 (n8 x))).drew)
        generalize (W.setCell ⟨g, N, none⟩ (.int .u8 (n8 x))).drew = W2 at *
        have f1 := HB2.out.c1
        have z1 := HB2.out.frozen 1
        clear hcb hzb hor e0 e1 hpg
        go_wp2_with fail
        go_roundw
        case rel =>
          refine ⟨k + 1, by omega, by go_num, ?_, HK2.out.setBlk HB2.out (by simp [rowT]) hbp 1 _⟩
          rw [Hs.out, ← List.append_assoc, Hm0.out]
          exact rowAt_mk (h := (h + 1) % 8) hbp (HB2.out.s1 _) (by have := Hh.out; simp; omega) (ownsRow_setCell_other (by have := HO2.out; rw [set_last ys N x HN.out] at this; exact this) (own_ne HO2.out HB2.out (by decide)) _) (zs := ys ++ [x]) (by rw [Hm.out, Hb1.out])
        case measure => simp [intOf]; omega
      · obtain ⟨h, hh⟩ : ∃ h, h = m.length % 8 := ⟨_, rfl⟩
        have hh0 : 0 < h := by omega
        have hh8 : h < 8 := by omega
        have hML : (pack m).length = m.length / 8 + 1 := by rw [pack_length]; omega
        have Hm := Lib.hid (pack_more m b h8)
        rw [← hh] at Hm hc1 Hblk
        have Hh := Lib.hid hh
        clear h8 hh
        obtain ⟨g, cap, hv, hgb, hgl⟩ := hown'.form (by omega)
        obtain ⟨M, hM⟩ : ∃ M, M = m.length / 8 := ⟨_, rfl⟩
        rw [← hM] at Hm hML
        have hy : ∃ y, (pack m).getD M 0 = y ∧ ((pack m).map u8v)[M]? = some (.int .u8 (n8 y)) := ⟨_, rfl, by
          rw [List.getElem?_map, List.getElem?_eq_getElem (by omega), List.getD_eq_getElem?_getD, List.getElem?_eq_getElem (by omega)]; rfl⟩
        obtain ⟨y, hy1, hy2⟩ := hy
        rw [hML] at hown' hv
        rw [hy1] at Hm
        have Hy2 := Lib.hid hy2
        have HML := Lib.hid hML
        generalize pack m = ys at *
        subst hv
        have HO := Lib.hid hown'
        have HB := Hblk
        have HK := Hk
        have hne : (((h : Nat) : Int) == 0) = false := by simp; omega
        have hMb : M ≤ 1099511627776 := by omega
        clear hown' hy1 hy2 hML hM hc0 hc1
        have hcb : wr.cell? ⟨g, M, none⟩ = some (.int .u8 (n8 y)) := by rw [HO.out.cellAt M (by omega)]; exact Hy2.out
        have hzb : wr.frozen? ⟨g, M, none⟩ = false := HO.out.frozenAt M
        have hor := or_bit y b h hh8
        have e0 := HB.out.c0
        have e1 := HB.out.c1
        generalize hx : y ||| UInt8.ofNat (b.toNat * 2 ^ h) = x at *
        have Hx := Lib.hid hx
        clear hx
        go_wp2_with fail
        go_region
        have hpg : p ≠ g := by
          have := own_ne HO.out HB.out (by decide)
          intro hpg; subst hpg; exact this rfl
        have HB2 := Lib.hid ((HB.out.far (p := ⟨g, M, none⟩) hpg (.int .u8 (n8 x))).drew)
        have HO2 := Lib.hid (own_drew (HO.out.stored M (.int .u8 (n8 x))).1)
        have HK2 := Lib.hid ((HK.out.stored HO.out (by simp [rowT]) M (.int .u8 (n8 x))).drew)
        generalize (wr.setCell ⟨g, M, none⟩ (.int .u8 (n8 x))).drew = W2 at *
        have f1 := HB2.out.c1
        have z1 := HB2.out.frozen 1
        clear hcb hzb hor e0 e1 hpg
        go_wp2_with fail
        go_roundw
        case rel =>
          refine ⟨k + 1, by omega, by go_num, ?_, HK2.out.setBlk HB2.out (by simp [rowT]) hbp 1 _⟩
          rw [Hs.out, ← List.append_assoc, Hm0.out]
          exact rowAt_mk (h := (h + 1) % 8) hbp (HB2.out.s1 _) (by have := Hh.out; simp; omega) (ownsRow_setCell_other (by rw [List.map_set]; exact HO2.out) (own_ne HO2.out HB2.out (by decide)) _) (zs := ys.set M x) Hm.out
        case measure => simp [intOf]; omega
    · obtain rfl : k = size := by omega
      have Hr := Lib.hid (show RowAt wr base p (l ++ numBits n k) from ⟨hbp, v, hblk, hown⟩)
      have Hk := Lib.hid hkeep
      clear hblk hown hkeep
      go_wp2_with fail
      go_end0
      exact ⟨rfl, Hr.out, Hk.out⟩
theorem bytes_any (p : Nat) (v x : Value) (w : World) (h : Blk w p 45 #[v, x]) :
    Calls Try.prog 23 #[.pointer (some ⟨p, 0, none⟩)] w fun e w' => e = .returned v ∧ w = w' := by
  have hv0 := h.c0
  have H := Lib.hid h
  clear h
  go_enter Try.func23, Try.ntmps23
  go_wp2
  go_ret
  exact ⟨rfl, rfl⟩
end Go.Proofs.Ythpdcnjaodjjmaa.Bits

/- package code: codes, Codes, Full. -/
namespace Go.Proofs.Ythpdcnjaodjjmaa.Code
open Go Go.RowKit Go.Proofs.Ythpdcnjaodjjmaa
set_option linter.unusedVariables false

set_option maxRecDepth 100000 in
set_option maxHeartbeats 1600000 in
theorem codes_any (A : Option Addr) (n c : Nat) (zs : List Int) (w : World) (hn : zs.length = n) (hA : InAt w A zs) (hc : chkL zs = 0) :
    Calls Try.prog 95 #[.slice A n c] w fun e w' => (∃ g, e = .returned (.slice (some ⟨g, 0, none⟩) n n) ∧ w.heap.size ≤ g ∧ Blk w' g 3 (nats (codesL (lsOf zs)))) ∧ Below w.heap.size w w' := by
  obtain ⟨f1, f2, f3, f4, f5⟩ := chk_fine zs hc
  have hx : n ≤ 288 := by omega
  have Hl := Lib.hid (lsOf_len zs)
  rw [hn] at Hl
  have Hacc : Hid (∀ s, s ≤ 15 → first (lsOf zs) s + cnt (lsOf zs) s ≤ 32768) := Lib.hid (fun s hs => by
    have h1 := acc_le (lsOf zs) s hs f4 f3
    have h2 : (2 : Nat) ^ s ≤ 2 ^ 15 := Nat.pow_le_pow_right (by omega) hs
    omega)
  have Hend := Lib.hid (cst_end (lsOf zs) f4)
  have H5 := Lib.hid f5
  have Hn := Lib.hid hn
  have HA := Lib.hid hA
  have hmk := make_ints n (by omega)
  have Hz := Lib.hid (nats_zero n)
  have Hcz := Lib.hid (cst_zero (lsOf zs))
  clear hn hA hc f1 f2 f3 f4 f5
  go_enter Try.func95, Try.ntmps95
  go_wp2_with fail
  clear hmk
  rw [Hz.out]
  generalize hg : w.heap.size = g at *
  have Hg := Lib.hid hg
  clear hg
  go_loopw [4, 5] (fun v s wr => ∃ t : Nat, t ≤ 15 ∧ s = .int .i64 ((t : Int) + 1) ∧ v = .int .i64 ((first (lsOf zs) t + cnt (lsOf zs) t : Nat) : Int) ∧ Blk wr g 3 (nats (cst (lsOf zs) (t + 1) 0)) ∧ Below w.heap.size w wr) (fun _ s _ => 17 - (intOf s).toNat)
  case atStart => exact ⟨0, Nat.zero_le _, rfl, rfl, by rw [Hcz.out, Hl.out]; have := Blk.new w 3 (nats (List.replicate n 0)); rw [Hg.out] at this; exact this, (Below.refl _ _).alloc (Nat.le_refl _) _⟩
  case round =>
    obtain ⟨t, ht, rfl, rfl, hblk, hb⟩ := hrel
    have Hblk := Lib.hid hblk
    have Hb := Lib.hid hb
    clear hblk hb
    by_cases hlt : t < 15
    · have hacc := Hacc.out t ht
      have Hf : Hid (first (lsOf zs) (t + 1) = 2 * (first (lsOf zs) t + cnt (lsOf zs) t)) := Lib.hid rfl
      generalize first (lsOf zs) t + cnt (lsOf zs) t = a at *
      go_wp2_with fail
      go_loopw [4, 19] (fun v i wx => ∃ k : Nat, k ≤ n ∧ i = .int .i64 (k : Int) ∧ v = .int .i64 ((first (lsOf zs) (t + 1) + (ordN ((lsOf zs).take k) (t + 1)).length : Nat) : Int) ∧ Blk wx g 3 (nats (cst (lsOf zs) (t + 1) k)) ∧ Below w.heap.size w wx) (fun _ i _ => n - (intOf i).toNat)
      case atStart => exact ⟨0, Nat.zero_le _, rfl, by rw [Hf.out]; simp [ordN]; omega, Hblk.out, Hb.out⟩
      case round =>
        obtain ⟨k, hk, rfl, rfl, hblk, hbx⟩ := hrel
        have Hbk := Lib.hid hblk
        have Hbx := Lib.hid hbx
        clear hblk hbx
        have hol : (ordN ((lsOf zs).take k) (t + 1)).length ≤ 288 := by
          have h1 := ordN_len_le ((lsOf zs).take k) (t + 1)
          have h2 : ((lsOf zs).take k).length ≤ k := by simp; omega
          omega
        by_cases hkn : k < n
        · have hkl : k < zs.length := by rw [Hn.out]; exact hkn
          have hkl2 : k < (lsOf zs).length := by rw [Hl.out]; exact hkn
          obtain ⟨b, o, rfl, hcell⟩ := (HA.out.below Hbx.out).get hkl
          have hz := H5.out zs[k] (List.getElem_mem hkl)
          have Hd := Lib.hid (getD_of zs k hkl)
          have Ht := Lib.hid (ordN_take (lsOf zs) k (t + 1) hkl2)
          have Hhit := Lib.hid (cst_hit (lsOf zs) (t + 1) k hkl2)
          have Hmiss := Lib.hid (cst_miss (lsOf zs) (t + 1) k)
          rw [Hd.out] at Ht Hhit Hmiss
          generalize zs[k] = z at *
          obtain ⟨x, rfl⟩ := Int.eq_ofNat_of_zero_le hz.1
          rw [Int.toNat_natCast] at Ht Hhit Hmiss
          have hclen : k < (cst (lsOf zs) (t + 1) k).length := by rw [cst_length]; exact hkl2
          have Hclen := Lib.hid (cst_length (lsOf zs) (t + 1) k)
          generalize first (lsOf zs) (t + 1) = ff at *
          generalize hol2 : (ordN ((lsOf zs).take k) (t + 1)).length = q at *
          have Hq := Lib.hid hol2
          clear hol2
          by_cases hxt : x = t + 1
          · have e1 : ((x : Int) == (t : Int) + 1) = true := by simp; omega
            have Hs := Lib.hid (Hhit.out hxt (by omega))
            have Hr : Hid ((ordN ((lsOf zs).take (k + 1)) (t + 1)).length = q + 1) := Lib.hid (by rw [Ht.out, if_pos hxt, List.length_append, Hq.out]; rfl)
            clear Hhit Hmiss Ht hxt
            have hfz := Hbk.out.frozen k
            have hff : ff + q ≤ 1000000 := by have := Hf.out; omega
            have hce : wr.cell? ⟨g, k, none⟩ = some (.int .i64 (((cst (lsOf zs) (t + 1) k)[k]'hclen : Nat) : Int)) := by rw [Hbk.out.cell, nats_get _ _ hclen]
            go_wp2_with fail
            go_roundw
            case rel =>
              refine ⟨k + 1, by omega, by go_num, by rw [Hr.out]; go_num, ?_, ?_⟩
              · rw [Hs.out, ← nats_set]; exact Hbk.out.set_ k _
              · exact Hbx.out.setCell (by show w.heap.size ≤ g; rw [Hg.out]; exact Nat.le_refl _) _
            case measure => simp [intOf]; omega
          · have e1 : ((x : Int) == (t : Int) + 1) = false := by simp; omega
            have Hs := Lib.hid (Hmiss.out hxt)
            have Hr : Hid ((ordN ((lsOf zs).take (k + 1)) (t + 1)).length = q) := Lib.hid (by rw [Ht.out, if_neg hxt, List.append_nil, Hq.out])
            clear Hhit Hmiss Ht hxt
            go_wp2_with fail
            go_roundw
            case rel => exact ⟨k + 1, by omega, by go_num, by rw [Hr.out], by rw [Hs.out]; exact Hbk.out, Hbx.out⟩
            case measure => simp [intOf]; omega
        · obtain rfl : k = n := by omega
          have Hall : Hid ((lsOf zs).take k = lsOf zs) := Lib.hid (List.take_of_length_le (by rw [Hl.out]; omega))
          have Hcn := Lib.hid (cst_next (lsOf zs) (t + 1))
          have Hcnt : Hid (cnt (lsOf zs) (t + 1) = (ordN (lsOf zs) (t + 1)).length) := Lib.hid (by unfold cnt; rw [if_neg (by omega)])
          rw [Hall.out, ← Hcnt.out]
          rw [Hl.out] at Hcn
          go_wp2_with fail
          go_roundw
          case rel => exact ⟨t + 1, by omega, by go_num, rfl, by rw [← Hcn.out]; exact Hbk.out, Hbx.out⟩
          case measure => simp [intOf]; omega
    · obtain rfl : t = 15 := by omega
      go_wp2_with fail
      go_ret
      exact ⟨⟨g, rfl, by rw [Hg.out]; exact Nat.le_refl _, by rw [← Hend.out]; exact Hblk.out⟩, Hb.out⟩
end Go.Proofs.Ythpdcnjaodjjmaa.Code

/- package bits: Row.Code; package code: Codes, Full. -/
namespace Go.Proofs.Ythpdcnjaodjjmaa.Code
open Go Go.RowKit Go.Proofs.Ythpdcnjaodjjmaa Go.Proofs.Ythpdcnjaodjjmaa.Bits
set_option linter.unusedVariables false

theorem hi_get (s n j : Nat) (h : j < s) : (hi s n)[j]'(by rw [hi_length]; exact h) = n.testBit (s - 1 - j) := by
  unfold hi numBits
  simp
theorem hi_step (s n m : Nat) (h : m + 1 ≤ s) : (hi s n).take (s - m) = (hi s n).take (s - (m + 1)) ++ numBits (n / 2 ^ m) 1 := by
  have e : s - m = (s - (m + 1)) + 1 := by omega
  rw [e, take_snoc _ _ (by rw [hi_length]; omega), hi_get _ _ _ (by omega)]
  congr 1
  simp [numBits]
  rw [show s - 1 - (s - (m + 1)) = m by omega, Nat.testBit]
  have h3 : n / 2 ^ m % 2 < 2 := Nat.mod_lt _ (by omega)
  rw [Nat.shiftRight_eq_div_pow]
  by_cases h1 : n / 2 ^ m % 2 = 1
  · simp [h1]
  · have : n / 2 ^ m % 2 = 0 := by omega
    simp [this]
set_option maxRecDepth 100000 in
set_option maxHeartbeats 800000 in
theorem code_any (base p n size : Nat) (l : List Bool) (w : World) (h : RowAt w base p l) (hn : n < 9223372036854775808) (hs : size ≤ 62) (hl : l.length + size ≤ 1099511627776) :
    Calls Try.prog 67 #[.pointer (some ⟨p, 0, none⟩), .int .i64 (n : Int), .int .i64 (size : Int)] w fun e w' => e = .returned (.tuple #[]) ∧ RowAt w' base p (l ++ hi size n) ∧ Keeps base rowT w w' := by
  have H := Lib.hid h
  clear h
  go_enter Try.func67, Try.ntmps67
  go_wp2_with fail
  go_loopw [6] (fun i wr => ∃ (m : Nat) (x : Int), m ≤ size ∧ x = (m : Int) - 1 ∧ i = .int .i64 x ∧ RowAt wr base p (l ++ (hi size n).take (size - m)) ∧ Keeps base rowT w wr) (fun i _ => (intOf i + 1).toNat)
  case atStart => exact ⟨size, _, Nat.le_refl _, rfl, rfl, by simpa using H.out, Keeps.refl _ _ _⟩
  case round =>
    obtain ⟨m, x, hm, hx, rfl, hrow, hk⟩ := hrel
    have Hrow := Lib.hid hrow
    have Hk := Lib.hid hk
    clear hrow hk
    rcases m with _ | m
    · have hx0 : x < 0 := by omega
      clear hx
      have Hf : Hid ((hi size n).take (size - 0) = hi size n) := Lib.hid (List.take_of_length_le (by rw [hi_length]; omega))
      rw [Hf.out] at Hrow
      go_wp2_with fail
      go_end0
      exact ⟨rfl, Hrow.out, Hk.out⟩
    · obtain rfl : x = (m : Int) := by omega
      clear hx
      have hnd : n / 2 ^ m < 9223372036854775808 := Nat.lt_of_le_of_lt (Nat.div_le_self _ _) hn
      have hput := put_any base p (n / 2 ^ m) 1 _ wr Hrow.out hnd (by omega) (by rw [List.length_append, List.length_take, hi_length]; omega)
      have Hst := Lib.hid (hi_step size n m hm)
      rw [List.append_assoc, ← Hst.out] at hput
      have hdd : (n : Int) / 2 ^ m = ((n / 2 ^ m : Nat) : Int) := by simp
      have Hput := Lib.hid hput
      clear hput
      generalize n / 2 ^ m = d at *
      go_wp2_with fail
      refine (Hput.out).mono ?_
      rintro e w1 ⟨rfl, hr1, hk1⟩
      have Hr1 := Lib.hid hr1
      have Hk1 := Lib.hid (Hk.out.trans hk1)
      clear hr1 hk1
      go_wp2_with fail
      go_roundw
      case rel => exact ⟨m, _, by omega, rfl, rfl, Hr1.out, Hk1.out⟩
      case measure => simp [intOf]
theorem bcodes_any (A : Option Addr) (n c : Nat) (zs : List Int) (w : World) (hn : zs.length = n) (hx : n ≤ maxLen) (hA : InAt w A zs) :
    Calls Try.prog 66 #[.slice A n c] w fun e w' => (chkL zs ≠ 0 ∧ e = .returned (.tuple #[.slice none 0 0, .int .i64 (chkL zs)]) ∨
      chkL zs = 0 ∧ ∃ g, e = .returned (.tuple #[.slice (some ⟨g, 0, none⟩) n n, .int .i64 0]) ∧ w.heap.size ≤ g ∧ Blk w' g 3 (nats (codesL (lsOf zs)))) ∧ Below w.heap.size w w' := by
  have Hc := Lib.hid (check_any A n c zs w hn hx hA)
  have Hd : Hid (chkL zs = 0 → _) := Lib.hid (codes_any A n c zs w hn hA)
  clear hn hx hA
  go_enter Try.func66, Try.ntmps66
  go_wp2_with fail
  refine (Hc.out).mono ?_
  rintro e w1 ⟨rfl, rfl⟩
  by_cases h0 : chkL zs = 0
  · have Hdd := Lib.hid (Hd.out h0)
    rw [h0]
    have H0 := Lib.hid h0
    clear h0
    go_wp2_with fail
    refine (Hdd.out).mono ?_
    rintro e w2 ⟨⟨g, rfl, hg, hb⟩, hbw⟩
    have Hb := Lib.hid hb
    have Hbw := Lib.hid hbw
    clear hb hbw
    go_wp2_with fail
    go_ret2
    exact ⟨.inr ⟨H0.out, g, rfl, hg, Hb.out⟩, Hbw.out⟩
  · have H0 := Lib.hid h0
    generalize hz : chkL zs = z at *
    have Hz := Lib.hid hz
    clear hz
    have h1 : (z == 0) = false := by simpa using h0
    go_wp2_with fail
    go_ret2
    exact ⟨.inl ⟨by rw [Hz.out]; exact h0, by rw [Hz.out]; rfl⟩, Below.refl _ _⟩
end Go.Proofs.Ythpdcnjaodjjmaa.Code

/- package block: lengths; weigh.Lengths and code.Codes of right numbers. -/
namespace Go.Proofs.Ythpdcnjaodjjmaa.Blk
open Go Go.RowKit Go.Proofs.Ythpdcnjaodjjmaa Go.Proofs.Ythpdcnjaodjjmaa.Bits Go.Proofs.Ythpdcnjaodjjmaa.Code Go.Proofs.Ythpdcnjaodjjmaa.Inf Go.Proofs.Ythpdcnjaodjjmaa.Match Go.Proofs.Ythpdcnjaodjjmaa.SP Go.Proofs.Ythpdcnjaodjjmaa.Rt
set_option linter.unusedVariables false

theorem natV_iv (ls : List Nat) : (zsOf ls).map iv = ls.map natV := by unfold zsOf; rw [List.map_map]; rfl
theorem natsOf_zs (ls : List Nat) : Weigh.natsOf (zsOf ls) = ls := lsOf_zsOf ls
theorem zs_len (ls : List Nat) : (zsOf ls).length = ls.length := by unfold zsOf; rw [List.length_map]
/-- weigh.Lengths of right numbers -/
theorem wlen_any (A : Option Addr) (n c : Nat) (ls : List Nat) (L : Nat) (w : World) (hn : ls.length = n) (hx : n ≤ 288) (hA : SlAt w A (ls.map natV)) (hb : ∀ x ∈ ls, x ≤ 1000000) (hL : 1 ≤ L) (hL2 : L ≤ 15) (ho : (ones ls).length ≤ 2 ^ L) :
    Calls Try.prog 62 #[.slice A n c, .int .i64 (L : Int)] w fun e w' => (∃ v, e = .returned (.tuple #[v, .int .i64 0]) ∧ w'.ownsRow w.heap.size 3 1 v n ((lengthsP ls L).map natV)) ∧ Below w.heap.size w w' := by
  have hc : Weigh.chkW (zsOf ls) (L : Int) = 0 := by
    unfold Weigh.chkW
    rw [if_neg (by rw [zs_len]; omega), if_neg, if_neg (by omega), if_neg]
    · rw [Weigh.used_ones, natsOf_zs, Int.toNat_natCast]; omega
    · rw [Bool.not_eq_true, List.any_eq_false]
      intro x hx
      obtain ⟨y, hy, rfl⟩ := List.mem_map.1 hx
      have := hb y hy
      have e : Int.ofNat y = (y : Int) := rfl
      rw [e]
      simp [Weigh.badWant]; omega
  refine (Weigh.lengths_any A n c (zsOf ls) (L : Int) w (by rw [zs_len]; exact hn) (by unfold maxLen; omega) (by unfold InAt; rw [natV_iv]; exact hA)).mono ?_
  rintro e w' ⟨h, hb'⟩
  rcases h with ⟨h1, _⟩ | ⟨_, v, rfl, ho'⟩
  · exact absurd hc h1
  · refine ⟨⟨v, rfl, ?_⟩, hb'⟩
    rw [zs_len, natsOf_zs, Int.toNat_natCast, hn] at ho'
    exact ho'
theorem ccodes_any (A : Option Addr) (n c : Nat) (ls : List Nat) (w : World) (hn : ls.length = n) (hx : n ≤ 288) (hA : SlAt w A (ls.map natV)) (hc : Cd ls) :
    Calls Try.prog 66 #[.slice A n c] w fun e w' => (∃ g, e = .returned (.tuple #[.slice (some ⟨g, 0, none⟩) n n, .int .i64 0]) ∧ w.heap.size ≤ g ∧ Blk w' g 3 (nats (codesL ls))) ∧ Below w.heap.size w w' := by
  have h0 : chkL (zsOf ls) = 0 := by
    have := table_ok ls hc (by omega)
    unfold tableR at this
    split at this
    · assumption
    · cases this
  refine (bcodes_any A n c (zsOf ls) w (by rw [zs_len]; exact hn) (by unfold maxLen; omega) (by unfold InAt; rw [natV_iv]; exact hA)).mono ?_
  rintro e w' ⟨h, hb'⟩
  rcases h with ⟨h1, _⟩ | ⟨_, g, rfl, hg, hB⟩
  · exact absurd h0 h1
  · rw [lsOf_zsOf] at hB
    exact ⟨⟨g, rfl, hg, hB⟩, hb'⟩
theorem nats_kat {w : World} {g : Nat} {l : List Nat} (h : Blk w g 3 (nats l)) : KAt w 3 (some ⟨g, 0, none⟩) (l.map natV) := by
  have := h.kat
  unfold nats at this
  rw [List.toList_toArray] at this
  exact this
set_option maxRecDepth 100000 in
set_option maxHeartbeats 1600000 in
theorem blens_any (A : Option Addr) (m c : Nat) (l : List Tok) (w : World) (hm : l.length = m) (hx : m ≤ 3000) (hA : SlAt w A (l.flatMap tokD)) (hf : ∀ t ∈ l, TokFine t) :
    Calls Try.prog 38 #[.slice A m c] w fun e w' => (∃ v1 v2, e = .returned (.tuple #[v1, v2]) ∧ w'.ownsRow w.heap.size 3 1 v1 286 ((lensP l).1.map natV) ∧ w'.ownsRow w.heap.size 3 1 v2 30 ((lensP l).2.map natV)) ∧ Below w.heap.size w w' := by
  obtain ⟨c1, c2⟩ := counts_len l
  obtain ⟨s1, s2⟩ := counts_small l
  have HC := Lib.hid (counts_any A m c l w hm hx hA hf)
  have HW1 := Lib.hid (fun g w' h => wlen_any (some ⟨g, 0, none⟩) 286 286 (countsP l).1 15 w' c1 (by omega) h (fun x hx => by have := s1 x hx; omega) (by omega) (by omega) (by have := Weigh.ones_le (countsP l).1; have p15 : (2 : Nat) ^ 15 = 32768 := rfl; omega))
  have HW2 := Lib.hid (fun g w' h => wlen_any (some ⟨g, 0, none⟩) 30 30 (countsP l).2 15 w' c2 (by omega) h (fun x hx => by have := s2 x hx; omega) (by omega) (by omega) (by have := Weigh.ones_le (countsP l).2; have p15 : (2 : Nat) ^ 15 = 32768 := rfl; omega))
  clear hm hA hf c1 c2 s1 s2
  go_enter Try.func38, Try.ntmps38
  go_wp2_with fail
  refine (HC.out).mono ?_
  rintro e w1 ⟨⟨g1, g2, rfl, hg1, hg2, hB1, hB2⟩, hb1⟩
  have H1 := Lib.hid hB1
  have H2 := Lib.hid hB2
  have Hb := Lib.hid hb1
  clear hB1 hB2 hb1 hg1 hg2 HC
  go_wp2_with fail
  refine (HW1.out g1 w1 (nats_kat H1.out).slat).mono ?_
  rintro e w2 ⟨⟨v1, rfl, ho1⟩, hb2⟩
  have H22 := Lib.hid (H2.out.below hb2 H2.out.lt)
  have Hb2 := Lib.hid (Hb.out.trans (hb2.mono Hb.out.size))
  have Ho1 := Lib.hid (own_base ho1 Hb.out.size)
  clear hb2 ho1 H1 H2 HW1
  go_wp2_with fail
  refine (HW2.out g2 w2 (nats_kat H22.out).slat).mono ?_
  rintro e w3 ⟨⟨v2, rfl, ho2⟩, hb3⟩
  have Ho1' := Lib.hid (own_keep Ho1.out hb3)
  have Hb3 := Lib.hid (Hb2.out.trans (hb3.mono Hb2.out.size))
  have Ho2 := Lib.hid (own_base ho2 Hb2.out.size)
  clear hb3 ho2 H22 HW2 Ho1
  go_wp2_with fail
  go_ret2
  exact ⟨⟨v1, v2, rfl, Ho1'.out, Ho2.out⟩, Hb3.out⟩
end Go.Proofs.Ythpdcnjaodjjmaa.Blk

/- package match: same, longest, Longest. -/
namespace Go.Proofs.Ythpdcnjaodjjmaa.Match
open Go Go.RowKit Go.Proofs.Ythpdcnjaodjjmaa
set_option linter.unusedVariables false

theorem drew2 (w : World) (a b : Nat) : ∃ d, (w.drewN a).drewN b = w.drewN d := ⟨_, World.drewN_drewN _ _ _⟩
theorem lay_sum (a b : Nat) (h : a + b ≤ 1000000000) : IntKind.i64.wrap ((a : Int) + (b : Int)) = (a : Int) + (b : Int) := IntWalk.i64_in _ (by omega)
set_option maxRecDepth 100000 in
set_option maxHeartbeats 800000 in
theorem same_any (A : Option Addr) (n c i k : Nat) (xs : List UInt8) (w : World) (hn : xs.length = n) (hx : n ≤ 1000000) (hA : ByAt w A xs) (hik : i ≤ k) (hk : k ≤ n) :
    Calls Try.prog 86 #[.slice A n c, .int .i64 (i : Int), .int .i64 (k : Int)] w fun e w' => e = .returned (.int .i64 ((sameN xs i k : Nat) : Int)) ∧ ∃ d, w' = w.drewN d := by
  have Hn := Lib.hid hn
  have HA := Lib.hid hA
  clear hn hA
  go_enter Try.func86, Try.ntmps86
  go_wp2_with fail
  go_loopw [7] (fun v wr => ∃ m : Nat, m ≤ sameN xs i k ∧ m ≤ 258 ∧ k + m ≤ n ∧ v = .int .i64 m ∧ ∃ d, wr = w.drewN d) (fun v _ => 258 - (intOf v).toNat)
  case atStart => exact ⟨0, Nat.zero_le _, by omega, by omega, rfl, 0, rfl⟩
  case round =>
    obtain ⟨m, hm, hm2, hkm, rfl, d, rfl⟩ := hrel
    have HS : Hid (∀ _ : True, True → (¬ (m < 258) ∨ ¬ (k + m < xs.length) ∨ ∃ (h : k + m < xs.length), xs[i + m]'(by omega) ≠ xs[k + m]) → sameN xs i k = m) := Lib.hid (fun _ _ h => same_stop xs i k m hik hm h)
    have HT : Hid (∀ (_ : True) (h1 : m < 258) (h2 : k + m < xs.length), xs[i + m]'(by omega) = xs[k + m] → m + 1 ≤ sameN xs i k) := Lib.hid (fun _ h1 h2 h3 => same_step xs i k m hik hm h1 h2 h3)
    have Hm := Lib.hid hm
    clear hm
    by_cases h1 : m < 258
    · have g1 : decide ((m : Int) < 258) = true := by simp; omega
      by_cases h2 : k + m < n
      · have g2 : decide ((k : Int) + (m : Int) < (n : Int)) = true := by simp; omega
        have h2' : k + m < xs.length := by rw [Hn.out]; exact h2
        have h3' : i + m < xs.length := by omega
        obtain ⟨b, o, rfl, hc1⟩ := HA.out.get h2'
        obtain ⟨b', o', hb, hc2⟩ := HA.out.get h3'
        injection hb with hb; injection hb with e1 e2 e3; subst e1 e2
        have s1 := lay_sum k m (by omega)
        have s2 := lay_sum i m (by omega)
        have p1 : (0 : Int) ≤ (k : Int) + (m : Int) := by omega
        have p2 : (0 : Int) ≤ (i : Int) + (m : Int) := by omega
        have q1 : ((k : Int) + (m : Int)).toNat = k + m := by omega
        have q2 : ((i : Int) + (m : Int)).toNat = i + m := by omega
        have r1 : (k : Int) + (m : Int) < (n : Int) := by omega
        have r2 : (i : Int) + (m : Int) < (n : Int) := by omega
        by_cases he : xs[i + m] = xs[k + m]
        · have Hst := Lib.hid (HT.out trivial h1 h2' he)
          have g3 : (n8 xs[i + m] == n8 xs[k + m]) = true := by rw [he]; simp
          have He := Lib.hid he
          clear he HS HT
          generalize xs[k + m] = x at *
          generalize xs[i + m] = y at *
          go_wp2_with fail
          go_quiet (fail)
          go_wp2_with fail
          go_roundw
          case rel => exact ⟨m + 1, Hst.out, by omega, by omega, by go_num, _, rfl⟩
          case measure => simp [intOf]; omega
        · have Hst := Lib.hid (HS.out trivial trivial (Or.inr (Or.inr ⟨h2', he⟩)))
          have g3 : (n8 xs[i + m] == n8 xs[k + m]) = false := by rw [n8_beq]; simpa using he
          have He := Lib.hid he
          clear he HS HT
          generalize xs[k + m] = x at *
          generalize xs[i + m] = y at *
          go_wp2_with fail
          go_quiet (fail)
          go_wp2_with fail
          go_ret
          exact ⟨ret_int (by rw [Hst.out]), drew2 w d _⟩
      · have g2 : decide ((k : Int) + (m : Int) < (n : Int)) = false := by simp; omega
        have s1 := lay_sum k m (by omega)
        have Hst := Lib.hid (HS.out trivial trivial (Or.inr (Or.inl (by rw [Hn.out]; exact h2))))
        clear HS HT
        go_wp2_with fail
        go_quiet (fail)
        go_wp2_with fail
        go_ret
        exact ⟨ret_int (by rw [Hst.out]), drew2 w d _⟩
    · have g1 : decide ((m : Int) < 258) = false := by simp; omega
      have Hst := Lib.hid (HS.out trivial trivial (Or.inl h1))
      clear HS HT
      go_wp2_with fail
      go_quiet (fail)
      go_wp2_with fail
      go_ret
      exact ⟨ret_int (by rw [Hst.out]), drew2 w d _⟩
end Go.Proofs.Ythpdcnjaodjjmaa.Match

/- package block: runs: the walk. -/
namespace Go.Proofs.Ythpdcnjaodjjmaa.Blk
open Go Go.RowKit Go.Proofs.Ythpdcnjaodjjmaa Go.Proofs.Ythpdcnjaodjjmaa.Bits Go.Proofs.Ythpdcnjaodjjmaa.Code Go.Proofs.Ythpdcnjaodjjmaa.Inf Go.Proofs.Ythpdcnjaodjjmaa.Match
set_option linter.unusedVariables false

theorem fillR_len (v : Nat) : ∀ f n : Nat, (fillR v f n).length ≤ n
  | 0, n => by simp [fillR]
  | f + 1, n => by
    unfold fillR
    by_cases h0 : n = 0
    · rw [if_pos h0]; simp
    · rw [if_neg h0]
      by_cases h1 : v = 0 ∧ 11 ≤ n
      · rw [if_pos h1, List.length_cons]; have := fillR_len v f (n - min n 138); omega
      · rw [if_neg h1]
        by_cases h2 : v = 0 ∧ 3 ≤ n
        · rw [if_pos h2, List.length_cons]; have := fillR_len v f (n - min n 10); omega
        · rw [if_neg h2]
          by_cases h3 : v ≠ 0 ∧ 3 ≤ n
          · rw [if_pos h3, List.length_cons]; have := fillR_len v f (n - min n 6); omega
          · rw [if_neg h3, List.length_cons]; have := fillR_len v f (n - 1); omega
theorem runsF_len (l : List Nat) : ∀ f i : Nat, (runsF l f i).length ≤ l.length - i
  | 0, i => by simp [runsF]
  | f + 1, i => by
    unfold runsF
    by_cases h0 : l.length ≤ i
    · rw [if_pos h0]; simp
    · have hr := runN_le l i (by omega)
      have h1 := runsF_len l f (i + Blk.runN l i)
      have h2 : (oneRun (l.getD i 0) (Blk.runN l i)).length ≤ Blk.runN l i := by
        unfold oneRun
        by_cases hv : l.getD i 0 = 0
        · rw [if_pos hv]; exact fillR_len _ _ _
        · rw [if_neg hv, List.length_cons]; have := fillR_len (l.getD i 0) (Blk.runN l i - 1) (Blk.runN l i - 1); omega
      rw [if_neg h0, List.length_append]; omega
theorem runsP_len (l : List Nat) : (runsP l).length ≤ l.length := by have := runsF_len l l.length 0; unfold runsP; omega
theorem runN_more (l : List Nat) (i c : Nat) (h1 : 1 ≤ c) (h2 : c ≤ Blk.runN l i) (h3 : i + c < l.length) (h4 : l[i + c] = l[i]'(by omega)) : c + 1 ≤ Blk.runN l i := by
  unfold Blk.runN at h2 ⊢
  have e : l.getD i 0 = l[i]'(by omega) := by rw [List.getD_eq_getElem?_getD, List.getElem?_eq_getElem (by omega)]; rfl
  have hd : (l.drop (i + 1))[c - 1]'(by rw [List.length_drop]; omega) = l[i + c] := by
    rw [List.getElem_drop]; congr 1; omega
  have := Match.tw_step (fun x => x == l.getD i 0) (l.drop (i + 1)) (c - 1) (by omega) (by rw [List.length_drop]; omega) (by rw [hd, h4, e]; simp)
  omega
theorem runN_stop (l : List Nat) (i c : Nat) (h1 : 1 ≤ c) (h2 : c ≤ Blk.runN l i) (hi : i < l.length) (h : i + c = l.length ∨ ∃ h3 : i + c < l.length, l[i + c] ≠ l[i]) : Blk.runN l i = c := by
  have hle := (runN_le l i hi).2
  rcases Nat.lt_or_ge c (Blk.runN l i) with hlt | hge
  · rcases h with h | ⟨h3, h4⟩
    · omega
    · unfold Blk.runN at hlt
      have e : l.getD i 0 = l[i] := by rw [List.getD_eq_getElem?_getD, List.getElem?_eq_getElem hi]; rfl
      obtain ⟨hn, hp⟩ := Match.tw_get (fun x => x == l.getD i 0) (l.drop (i + 1)) (c - 1) (by omega)
      have hd : (l.drop (i + 1))[c - 1]'hn = l[i + c] := by
        rw [List.getElem_drop]; congr 1; omega
      rw [hd, e] at hp
      exact absurd (by simpa using hp) h4
  · omega
theorem runN_get (l : List Nat) (i j : Nat) (hi : i < l.length) (h : j < Blk.runN l i) : ∃ h2 : i + j < l.length, l[i + j] = l[i] := by
  have hle := (runN_le l i hi).2
  have hij : i + j < l.length := by omega
  refine ⟨hij, ?_⟩
  rcases Nat.eq_zero_or_pos j with h0 | h0
  · subst h0; rfl
  · unfold Blk.runN at h
    have e : l.getD i 0 = l[i] := by rw [List.getD_eq_getElem?_getD, List.getElem?_eq_getElem hi]; rfl
    have h' : j - 1 < ((l.drop (i + 1)).takeWhile fun x => x == l.getD i 0).length := Nat.sub_lt_left_of_lt_add (by omega) h
    obtain ⟨hn, hp⟩ := Match.tw_get _ _ _ h'
    have hd : (l.drop (i + 1))[j - 1]'hn = l[i + j]'(by omega) := by
      rw [List.getElem_drop]; congr 1; omega
    rw [hd, e] at hp
    simpa using hp
def runC (x : Nat × Nat × Nat) : List Value := [.int .i64 (x.1 : Int), .int .i64 (x.2.1 : Int), .int .i64 (x.2.2 : Int)]
theorem runC_len (l : List (Nat × Nat × Nat)) : (l.flatMap runC).length = l.length * 3 := by
  induction l with
  | nil => rfl
  | cons a l ih => rw [List.flatMap_cons, List.length_append, ih, List.length_cons]; simp [runC]; omega
theorem tyRun : SliceTy Try.prog 111 114 (.agg #[.int .i64 0, .int .i64 0, .int .i64 0]) 3 24 := ⟨Try.underlying111, by kernel_rfl, rfl, by omega⟩
theorem snocC (ac : List (Nat × Nat × Nat)) (x : Nat × Nat × Nat) : (ac ++ [x]).flatMap runC = ac.flatMap runC ++ runC x := by rw [List.flatMap_append]; simp
theorem run_min2 {P : Program} (ts : Array TypeId) (t : TypeId) (a b : Int) (w : World) :
    (Builtin.min_ ts t #[.int .i64 a, .int .i64 b]).run P w = .ok (.int .i64 (min a b)) w := by
  simp [Builtin.min_, Builtin.min2]
  (repeat' split) <;> omega
set_option maxRecDepth 100000 in
set_option maxHeartbeats 4000000 in
theorem runs_any (A : Option Addr) (n c : Nat) (l : List Nat) (w : World) (hm : l.length = n) (hx : n ≤ 1000) (hA : SlAt w A (l.map natV)) (hv : ∀ x ∈ l, x ≤ 1000) :
    Calls Try.prog 64 #[.slice A n c] w fun e w' => (∃ v, e = .returned v ∧ w'.ownsRow w.heap.size 114 3 v (runsP l).length ((runsP l).flatMap runC)) ∧ Below w.heap.size w w' := by
  have HM := Lib.hid hm
  have HA := Lib.hid hA
  have HV := Lib.hid hv
  have HL := Lib.hid (runsP_len l)
  clear hm hA hv
  go_enter Try.func64, Try.ntmps64
  go_wp2_with fail
  go_loopw [3, 4] (fun vo vi wr => ∃ (i : Nat) (ac : List (Nat × Nat × Nat)), i ≤ n ∧ vi = .int .i64 (i : Int) ∧ ac ++ runsI l i = runsP l ∧ wr.ownsRow w.heap.size 114 3 vo ac.length (ac.flatMap runC) ∧ Below w.heap.size w wr) (fun _ vi _ => n - (intOf vi).toNat)
  case atStart => exact ⟨0, [], Nat.zero_le _, rfl, rfl, World.ownsRow_nil .., Below.refl _ _⟩
  case round =>
    obtain ⟨i, ac, hi, rfl, hac, ho, hb⟩ := hrel
    have Hac := Lib.hid hac
    have HO := Lib.hid ho
    have Hb := Lib.hid hb
    clear hac ho hb
    by_cases hlt : i < n
    · have hil : i < l.length := by rw [HM.out]; exact hlt
      obtain ⟨bA, oA, rfl, hc0'⟩ := (HA.out.below Hb.out).get (k := i) (by simpa using hil)
      have HC0 := Lib.hid hc0'
      obtain ⟨v, hv⟩ : ∃ v, v = l[i] := ⟨_, rfl⟩
      have Hv := Lib.hid hv
      have hvd : Hid (l.getD i 0 = v) := Lib.hid (by rw [List.getD_eq_getElem?_getD, List.getElem?_eq_getElem hil, hv]; rfl)
      have hv1 : v ≤ 1000 := by rw [hv]; exact HV.out _ (List.getElem_mem hil)
      clear hc0' hv
      obtain ⟨wo, hwo⟩ : ∃ wo, wo = wr := ⟨_, rfl⟩
      rw [← hwo] at HC0 HO Hb ⊢
      clear hwo wr
      go_wp2_with fail
      go_loopw [5] (fun vn wr => ∃ q : Nat, 1 ≤ q ∧ q ≤ Blk.runN l i ∧ i + q ≤ n ∧ vn = .int .i64 (q : Int) ∧ ∃ d, wr = wo.drewN d) (fun vn _ => n - (intOf vn).toNat)
      case atStart => exact ⟨1, Nat.le_refl _, (runN_le l i hil).1, by omega, rfl, 0, rfl⟩
      case round =>
        obtain ⟨q, hq1, hq2, hq3, rfl, d, rfl⟩ := hrel
        have HS : Hid (_ → Blk.runN l i = q) := Lib.hid (runN_stop l i q hq1 hq2 hil)
        have HT : Hid (∀ (h3 : i + q < l.length), l[i + q] = l[i] → q + 1 ≤ Blk.runN l i) := Lib.hid (fun h3 h4 => runN_more l i q hq1 hq2 h3 h4)
        have Hq2 := Lib.hid hq2
        clear hq2
        have s1 := lay_sum i q (by omega)
        by_cases h2 : i + q < n
        · have h3' : i + q < l.length := by rw [HM.out]; exact h2
          obtain ⟨b', o', hbb, hc1⟩ := (HA.out.below Hb.out).get (k := i + q) (by simpa using h3')
          injection hbb with hbb; injection hbb with e1 e2 e3; subst e1 e2
          have hc0 := HC0.out
          simp only [List.getElem_map, natV] at hc0 hc1
          rw [← Hv.out] at hc0
          have g2 : decide ((i : Int) + (q : Int) < (n : Int)) = true := by simp; omega
          have p1 : (0 : Int) ≤ (i : Int) + (q : Int) := by omega
          have q1 : ((i : Int) + (q : Int)).toNat = i + q := by omega
          have r1 : (i : Int) + (q : Int) < (n : Int) := by omega
          by_cases he : l[i + q] = v
          · have Hst := Lib.hid (HT.out h3' (he.trans Hv.out))
            rw [he] at hc1
            have g3 : ((v : Int) == (v : Int)) = true := by simp
            clear he HS HT
            go_wp2_with fail
            go_quiet (fail)
            go_wp2_with fail
            go_roundw
            case rel => exact ⟨q + 1, by omega, Hst.out, by omega, by go_num, _, rfl⟩
            case measure => simp [intOf]; omega
          · have Hst := Lib.hid (HS.out (Or.inr ⟨h3', fun h => he (h.trans Hv.out.symm)⟩))
            have g3 : ((l[i + q] : Int) == (v : Int)) = false := by rw [beq_eq_false_iff_ne]; omega
            generalize l[i + q] = x at *
            clear he HS HT
            go_wp2_with fail
            go_quiet (fail)
            have HO1 : Hid (((wo.drewN d).drewN nq).ownsRow w.heap.size 114 3 _ ac.length (ac.flatMap runC)) := HO
            have Hb1 := Lib.hid (below_drewN' (below_drewN' Hb.out d) nq)
            obtain ⟨k, hk⟩ : ∃ k, i + q = k + 1 := ⟨i + q - 1, by omega⟩
            obtain ⟨hk2, hk3⟩ := runN_get l i (q - 1) hil (by have := Hst.out; omega)
            have Hrun : Hid (runsI l i = (if v = 0 then fillN 0 q ++ runsI l (k + 1) else (v, 0, 0) :: (fillN v (q - 1) ++ runsI l (k + 1)))) := Lib.hid (by
              rw [runsI_step l i hil, Hst.out, oneRun_eq, hvd.out, hk]
              split <;> rfl)
            obtain ⟨b', o', hbb, hck⟩ := (HA.out.below Hb1.out).get (k := k) (by rw [List.length_map]; omega)
            injection hbb with hbb; injection hbb with e1 e2 e3; subst e1 e2
            have hkv : ∀ h : k < l.length, l[k] = v := fun h => by
              rw [Hv.out, ← hk3]; congr 1; omega
            simp only [List.getElem_map, natV] at hck
            rw [hkv (by omega)] at hck
            have hsk : IntKind.i64.wrap ((i : Int) + (q : Int)) = (k : Int) + 1 := by rw [show (i : Int) + (q : Int) = (k : Int) + 1 by omega]; exact IntWalk.i64_in _ (by omega)
            have hsk2 : IntKind.i64.wrap ((k : Int) + 1 - 1) = (k : Int) := by rw [show (k : Int) + 1 - 1 = (k : Int) by omega]; exact IntWalk.i64_in _ (by omega)
            have hkn : k < n := by omega
            have hik : i ≤ k := by omega
            generalize (wo.drewN d).drewN nq = w1 at *
            clear s1 hk hk2 hk3 hkv HC0 g2 HO Hb
            clear g3 hc0 hc1 p1 q1 r1
            by_cases hv0 : v = 0
            · have hz : ((v : Int) == 0) = true := by simp; omega
              have Hv0 := Lib.hid hv0
              clear hv0
              go_wp2_with fail
              go_loopw [3, 5] (fun vo vn wr => ∃ (q : Nat) (ac : List (Nat × Nat × Nat)), q ≤ n ∧ vn = .int .i64 (q : Int) ∧ ac ++ (fillN v q ++ runsI l (k + 1)) = runsP l ∧ wr.ownsRow w.heap.size 114 3 vo ac.length (ac.flatMap runC) ∧ Below w.heap.size w wr) (fun _ vn _ => (intOf vn).toNat)
              case atStart => exact ⟨q, ac, by omega, rfl, by have := Hac.out; rw [Hrun.out, if_pos Hv0.out] at this; rw [Hv0.out]; exact this, HO1.out, Hb1.out⟩
              case round =>
                clear HO1 Hb1
                have Hac1 := Hac
                clear Hac
                clear Hst hq1 hq3
                obtain ⟨q, ac, hq, rfl, hac, ho, hb⟩ := hrel
                have Hac := Lib.hid hac
                have HO := Lib.hid ho
                have Hb := Lib.hid hb
                have hacl : ac.length ≤ 1000 := by have h1 := congrArg List.length hac; rw [List.length_append] at h1; have h2 := HL.out; have h3 := HM.out; omega
                clear hac ho hb
                by_cases hq0 : 0 < q
                · have hq0' : (0 : Int) < (q : Int) := by omega
                  by_cases h11 : 11 ≤ q
                  · have h11' : (11 : Int) ≤ (q : Int) := by omega
                    obtain ⟨x, hx2⟩ : ∃ x, x = min q 138 - 11 := ⟨_, rfl⟩
                    obtain ⟨r, hr2⟩ : ∃ r, r = q - min q 138 := ⟨_, rfl⟩
                    have Hf : Hid (fillN v q = (18, x, 7) :: fillN v r) := Lib.hid (by rw [hx2, hr2]; rw [Hv0.out]; exact fillN_18 q h11)
                    have hmin : ∀ (ts : Array TypeId) (ty : TypeId) (W : World), (Builtin.min_ ts ty #[.int .i64 (q : Int), .int .i64 138]).run Try.prog W = .ok (.int .i64 ((x : Int) + 11)) W := fun ts ty W => by rw [run_min2, show min (q : Int) 138 = (x : Int) + 11 by omega]
                    have hs1 : IntKind.i64.wrap ((x : Int) + 11 - 11) = (x : Int) := by rw [show (x : Int) + 11 - 11 = (x : Int) by omega]; exact IntWalk.i64_in _ (by omega)
                    have hs2 : IntKind.i64.wrap ((q : Int) - ((x : Int) + 11)) = (r : Int) := by rw [show (q : Int) - ((x : Int) + 11) = (r : Int) by omega]; exact IntWalk.i64_in _ (by omega)
                    have hrq : r < q := by omega
                    have hx3 : x ≤ 1000 := by omega
                    clear hx2 hr2
                    have hba : Below wr.heap.size wr (wr.alloc (.cells #[.int .i64 18, .int .i64 (x : Int), .int .i64 7] 114)) := (Below.refl _ _).alloc (Nat.le_refl _) _
                    have HO2 := Lib.hid (own_keep HO.out hba)
                    have Hb2 := Lib.hid (Hb.out.trans (hba.mono Hb.out.size))
                    have HZ : Hid (SlAt (wr.alloc (.cells #[.int .i64 18, .int .i64 (x : Int), .int .i64 7] 114)) (some ⟨wr.heap.size, 0, none⟩) [.int .i64 18, .int .i64 (x : Int), .int .i64 7]) := Lib.hid (SlAt.of_heap (heap_alloc_new _ _) rfl)
                    clear hba
                    go_wp2_with (at_builtin; refine wpList_app _ rfl (.tmp 70) (.tmp 74) _ rfl w.heap.size 114 _ 3 24 tyRun _ ac.length (ac.flatMap runC) rfl HO2.out (some ⟨wr.heap.size, 0, none⟩) 1 1 [.int .i64 18, .int .i64 (x : Int), .int .i64 7] rfl rfl HZ.out (by simp [Value.oneCell']) (by simp) (by unfold maxLen; omega) (by omega) Hb2.out.size ?_; intro v8 w8 hown8 hg8 _; have Hb8 := Lib.hid (own_below HO2.out hg8 Hb2.out Hb2.out.size); have Ho8 := Lib.hid hown8; clear hown8 hg8)
                    go_roundw
                    case rel => exact ⟨r, ac ++ [(18, x, 7)], by omega, by go_num, by rw [← Hac.out, Hf.out]; simp, by rw [snocC, List.length_append]; exact Ho8.out, Hb8.out⟩
                    case measure => simp [intOf]; omega
                  · have h11' : ¬ (11 : Int) ≤ (q : Int) := by omega
                    by_cases h3 : 3 ≤ q
                    · have h3' : (3 : Int) ≤ (q : Int) := by omega
                      obtain ⟨x, hx2⟩ : ∃ x, x = min q 10 - 3 := ⟨_, rfl⟩
                      obtain ⟨r, hr2⟩ : ∃ r, r = q - min q 10 := ⟨_, rfl⟩
                      have Hf : Hid (fillN v q = (17, x, 3) :: fillN v r) := Lib.hid (by rw [hx2, hr2]; rw [Hv0.out]; exact fillN_17 q h3 (by omega))
                      have hmin : ∀ (ts : Array TypeId) (ty : TypeId) (W : World), (Builtin.min_ ts ty #[.int .i64 (q : Int), .int .i64 10]).run Try.prog W = .ok (.int .i64 ((x : Int) + 3)) W := fun ts ty W => by rw [run_min2, show min (q : Int) 10 = (x : Int) + 3 by omega]
                      have hs1 : IntKind.i64.wrap ((x : Int) + 3 - 3) = (x : Int) := by rw [show (x : Int) + 3 - 3 = (x : Int) by omega]; exact IntWalk.i64_in _ (by omega)
                      have hs2 : IntKind.i64.wrap ((q : Int) - ((x : Int) + 3)) = (r : Int) := by rw [show (q : Int) - ((x : Int) + 3) = (r : Int) by omega]; exact IntWalk.i64_in _ (by omega)
                      have hrq : r < q := by omega
                      have hx3 : x ≤ 1000 := by omega
                      clear hx2 hr2
                      have hba : Below wr.heap.size wr (wr.alloc (.cells #[.int .i64 17, .int .i64 (x : Int), .int .i64 3] 114)) := (Below.refl _ _).alloc (Nat.le_refl _) _
                      have HO2 := Lib.hid (own_keep HO.out hba)
                      have Hb2 := Lib.hid (Hb.out.trans (hba.mono Hb.out.size))
                      have HZ : Hid (SlAt (wr.alloc (.cells #[.int .i64 17, .int .i64 (x : Int), .int .i64 3] 114)) (some ⟨wr.heap.size, 0, none⟩) [.int .i64 17, .int .i64 (x : Int), .int .i64 3]) := Lib.hid (SlAt.of_heap (heap_alloc_new _ _) rfl)
                      clear hba
                      go_wp2_with (at_builtin; refine wpList_app _ rfl (.tmp 88) (.tmp 92) _ rfl w.heap.size 114 _ 3 24 tyRun _ ac.length (ac.flatMap runC) rfl HO2.out (some ⟨wr.heap.size, 0, none⟩) 1 1 [.int .i64 17, .int .i64 (x : Int), .int .i64 3] rfl rfl HZ.out (by simp [Value.oneCell']) (by simp) (by unfold maxLen; omega) (by omega) Hb2.out.size ?_; intro v8 w8 hown8 hg8 _; have Hb8 := Lib.hid (own_below HO2.out hg8 Hb2.out Hb2.out.size); have Ho8 := Lib.hid hown8; clear hown8 hg8)
                      go_roundw
                      case rel => exact ⟨r, ac ++ [(17, x, 3)], by omega, by go_num, by rw [← Hac.out, Hf.out]; simp, by rw [snocC, List.length_append]; exact Ho8.out, Hb8.out⟩
                      case measure => simp [intOf]; omega
                    · have h3' : ¬ (3 : Int) ≤ (q : Int) := by omega
                      obtain ⟨r, hr2⟩ : ∃ r, r = q - 1 := ⟨_, rfl⟩
                      have Hf : Hid (fillN v q = (v, 0, 0) :: fillN v r) := Lib.hid (by rw [hr2]; exact fillN_one v q (by omega) (by omega))
                      have hs2 : IntKind.i64.wrap ((q : Int) - 1) = (r : Int) := by rw [show (q : Int) - 1 = (r : Int) by omega]; exact IntWalk.i64_in _ (by omega)
                      have hrq : r < q := by omega
                      clear hr2
                      have hba : Below wr.heap.size wr (wr.alloc (.cells #[.int .i64 (v : Int), .int .i64 0, .int .i64 0] 114)) := (Below.refl _ _).alloc (Nat.le_refl _) _
                      have HO2 := Lib.hid (own_keep HO.out hba)
                      have Hb2 := Lib.hid (Hb.out.trans (hba.mono Hb.out.size))
                      have HZ : Hid (SlAt (wr.alloc (.cells #[.int .i64 (v : Int), .int .i64 0, .int .i64 0] 114)) (some ⟨wr.heap.size, 0, none⟩) [.int .i64 (v : Int), .int .i64 0, .int .i64 0]) := Lib.hid (SlAt.of_heap (heap_alloc_new _ _) rfl)
                      clear hba
                      go_wp2_with (at_builtin; refine wpList_app _ rfl (.tmp 54) (.tmp 57) _ rfl w.heap.size 114 _ 3 24 tyRun _ ac.length (ac.flatMap runC) rfl HO2.out (some ⟨wr.heap.size, 0, none⟩) 1 1 [.int .i64 (v : Int), .int .i64 0, .int .i64 0] rfl rfl HZ.out (by simp [Value.oneCell']) (by simp) (by unfold maxLen; omega) (by omega) Hb2.out.size ?_; intro v8 w8 hown8 hg8 _; have Hb8 := Lib.hid (own_below HO2.out hg8 Hb2.out Hb2.out.size); have Ho8 := Lib.hid hown8; clear hown8 hg8)
                      go_roundw
                      case rel => exact ⟨r, ac ++ [(v, 0, 0)], by omega, by go_num, by rw [← Hac.out, Hf.out]; simp, by rw [snocC, List.length_append]; exact Ho8.out, Hb8.out⟩
                      case measure => simp [intOf]; omega
                · obtain rfl : q = 0 := by omega
                  have Hac2 : Hid (ac ++ runsI l (k + 1) = runsP l) := Hac
                  go_wp2_with fail
                  go_roundw
                  case rel => exact ⟨k + 1, ac, by omega, by go_num, Hac2.out, HO.out, Hb.out⟩
                  case measure => simp [intOf]; omega
            · have hz : ((v : Int) == 0) = false := by rw [beq_eq_false_iff_ne]; omega
              have Hv0 := Lib.hid hv0
              obtain ⟨r0, hr0⟩ : ∃ r, r = q - 1 := ⟨_, rfl⟩
              have hs0 : IntKind.i64.wrap ((q : Int) - 1) = (r0 : Int) := by rw [show (q : Int) - 1 = (r0 : Int) by omega]; exact IntWalk.i64_in _ (by omega)
              have hacl : ac.length ≤ 1000 := by have h1 := congrArg List.length Hac.out; rw [List.length_append] at h1; have h2 := HL.out; have h3 := HM.out; omega
              have hba : Below w1.heap.size w1 (w1.alloc (.cells #[.int .i64 (v : Int), .int .i64 0, .int .i64 0] 114)) := (Below.refl _ _).alloc (Nat.le_refl _) _
              have HO2 := Lib.hid (own_keep HO1.out hba)
              have Hb2 := Lib.hid (Hb1.out.trans (hba.mono Hb1.out.size))
              have HZ : Hid (SlAt (w1.alloc (.cells #[.int .i64 (v : Int), .int .i64 0, .int .i64 0] 114)) (some ⟨w1.heap.size, 0, none⟩) [.int .i64 (v : Int), .int .i64 0, .int .i64 0]) := Lib.hid (SlAt.of_heap (heap_alloc_new _ _) rfl)
              clear hba hv0
              go_wp2_with (at_builtin; refine wpList_app _ rfl (.tmp 45) (.tmp 48) _ rfl w.heap.size 114 _ 3 24 tyRun _ ac.length (ac.flatMap runC) rfl HO2.out (some ⟨w1.heap.size, 0, none⟩) 1 1 [.int .i64 (v : Int), .int .i64 0, .int .i64 0] rfl rfl HZ.out (by simp [Value.oneCell']) (by simp) (by unfold maxLen; omega) (by omega) Hb2.out.size ?_; intro v8 w8 hown8 hg8 _; have Hb8 := Lib.hid (own_below HO2.out hg8 Hb2.out Hb2.out.size); have Ho8 := Lib.hid hown8; clear hown8 hg8)
              go_loopw [3, 5] (fun vo vn wr => ∃ (q : Nat) (ac : List (Nat × Nat × Nat)), q ≤ n ∧ vn = .int .i64 (q : Int) ∧ ac ++ (fillN v q ++ runsI l (k + 1)) = runsP l ∧ wr.ownsRow w.heap.size 114 3 vo ac.length (ac.flatMap runC) ∧ Below w.heap.size w wr) (fun _ vn _ => (intOf vn).toNat)
              case atStart => exact ⟨q - 1, ac ++ [(v, 0, 0)], by omega, by rw [show ((q - 1 : Nat) : Int) = (r0 : Int) by omega], by have := Hac.out; rw [Hrun.out, if_neg Hv0.out] at this; rw [← this]; simp, by rw [snocC, List.length_append]; exact Ho8.out, Hb8.out⟩
              case round =>
                clear HO1 Hb1
                have Hac1 := Hac
                clear Hac
                clear Hst hq1 hq3
                obtain ⟨q, ac, hq, rfl, hac, ho, hb⟩ := hrel
                have Hac := Lib.hid hac
                have HO := Lib.hid ho
                have Hb := Lib.hid hb
                have hacl : ac.length ≤ 1000 := by have h1 := congrArg List.length hac; rw [List.length_append] at h1; have h2 := HL.out; have h3 := HM.out; omega
                clear hac ho hb
                by_cases hq0 : 0 < q
                · have hq0' : (0 : Int) < (q : Int) := by omega
                  by_cases h3 : 3 ≤ q
                  · have h3' : (3 : Int) ≤ (q : Int) := by omega
                    obtain ⟨x, hx2⟩ : ∃ x, x = min q 6 - 3 := ⟨_, rfl⟩
                    obtain ⟨r, hr2⟩ : ∃ r, r = q - min q 6 := ⟨_, rfl⟩
                    have Hf : Hid (fillN v q = (16, x, 2) :: fillN v r) := Lib.hid (by rw [hx2, hr2]; exact fillN_16 v q Hv0.out h3)
                    have hmin : ∀ (ts : Array TypeId) (ty : TypeId) (W : World), (Builtin.min_ ts ty #[.int .i64 (q : Int), .int .i64 6]).run Try.prog W = .ok (.int .i64 ((x : Int) + 3)) W := fun ts ty W => by rw [run_min2, show min (q : Int) 6 = (x : Int) + 3 by omega]
                    have hs1 : IntKind.i64.wrap ((x : Int) + 3 - 3) = (x : Int) := by rw [show (x : Int) + 3 - 3 = (x : Int) by omega]; exact IntWalk.i64_in _ (by omega)
                    have hs2 : IntKind.i64.wrap ((q : Int) - ((x : Int) + 3)) = (r : Int) := by rw [show (q : Int) - ((x : Int) + 3) = (r : Int) by omega]; exact IntWalk.i64_in _ (by omega)
                    have hrq : r < q := by omega
                    have hx3 : x ≤ 1000 := by omega
                    clear hx2 hr2
                    have hba : Below wr.heap.size wr (wr.alloc (.cells #[.int .i64 16, .int .i64 (x : Int), .int .i64 2] 114)) := (Below.refl _ _).alloc (Nat.le_refl _) _
                    have HO2 := Lib.hid (own_keep HO.out hba)
                    have Hb2 := Lib.hid (Hb.out.trans (hba.mono Hb.out.size))
                    have HZ : Hid (SlAt (wr.alloc (.cells #[.int .i64 16, .int .i64 (x : Int), .int .i64 2] 114)) (some ⟨wr.heap.size, 0, none⟩) [.int .i64 16, .int .i64 (x : Int), .int .i64 2]) := Lib.hid (SlAt.of_heap (heap_alloc_new _ _) rfl)
                    clear hba
                    go_wp2_with (at_builtin; refine wpList_app _ rfl (.tmp 106) (.tmp 110) _ rfl w.heap.size 114 _ 3 24 tyRun _ ac.length (ac.flatMap runC) rfl HO2.out (some ⟨wr.heap.size, 0, none⟩) 1 1 [.int .i64 16, .int .i64 (x : Int), .int .i64 2] rfl rfl HZ.out (by simp [Value.oneCell']) (by simp) (by unfold maxLen; omega) (by omega) Hb2.out.size ?_; intro v8 w8 hown8 hg8 _; have Hb8 := Lib.hid (own_below HO2.out hg8 Hb2.out Hb2.out.size); have Ho8 := Lib.hid hown8; clear hown8 hg8)
                    go_roundw
                    case rel => exact ⟨r, ac ++ [(16, x, 2)], by omega, by go_num, by rw [← Hac.out, Hf.out]; simp, by rw [snocC, List.length_append]; exact Ho8.out, Hb8.out⟩
                    case measure => simp [intOf]; omega
                  · have h3' : ¬ (3 : Int) ≤ (q : Int) := by omega
                    obtain ⟨r, hr2⟩ : ∃ r, r = q - 1 := ⟨_, rfl⟩
                    have Hf : Hid (fillN v q = (v, 0, 0) :: fillN v r) := Lib.hid (by rw [hr2]; exact fillN_one v q (by omega) (by omega))
                    have hs2 : IntKind.i64.wrap ((q : Int) - 1) = (r : Int) := by rw [show (q : Int) - 1 = (r : Int) by omega]; exact IntWalk.i64_in _ (by omega)
                    have hrq : r < q := by omega
                    clear hr2
                    have hba : Below wr.heap.size wr (wr.alloc (.cells #[.int .i64 (v : Int), .int .i64 0, .int .i64 0] 114)) := (Below.refl _ _).alloc (Nat.le_refl _) _
                    have HO2 := Lib.hid (own_keep HO.out hba)
                    have Hb2 := Lib.hid (Hb.out.trans (hba.mono Hb.out.size))
                    have HZ : Hid (SlAt (wr.alloc (.cells #[.int .i64 (v : Int), .int .i64 0, .int .i64 0] 114)) (some ⟨wr.heap.size, 0, none⟩) [.int .i64 (v : Int), .int .i64 0, .int .i64 0]) := Lib.hid (SlAt.of_heap (heap_alloc_new _ _) rfl)
                    clear hba
                    go_wp2_with (at_builtin; refine wpList_app _ rfl (.tmp 54) (.tmp 57) _ rfl w.heap.size 114 _ 3 24 tyRun _ ac.length (ac.flatMap runC) rfl HO2.out (some ⟨wr.heap.size, 0, none⟩) 1 1 [.int .i64 (v : Int), .int .i64 0, .int .i64 0] rfl rfl HZ.out (by simp [Value.oneCell']) (by simp) (by unfold maxLen; omega) (by omega) Hb2.out.size ?_; intro v8 w8 hown8 hg8 _; have Hb8 := Lib.hid (own_below HO2.out hg8 Hb2.out Hb2.out.size); have Ho8 := Lib.hid hown8; clear hown8 hg8)
                    go_roundw
                    case rel => exact ⟨r, ac ++ [(v, 0, 0)], by omega, by go_num, by rw [← Hac.out, Hf.out]; simp, by rw [snocC, List.length_append]; exact Ho8.out, Hb8.out⟩
                    case measure => simp [intOf]; omega
                · obtain rfl : q = 0 := by omega
                  have Hac2 : Hid (ac ++ runsI l (k + 1) = runsP l) := Hac
                  go_wp2_with fail
                  go_roundw
                  case rel => exact ⟨k + 1, ac, by omega, by go_num, Hac2.out, HO.out, Hb.out⟩
                  case measure => simp [intOf]; omega
        · have g2 : decide ((i : Int) + (q : Int) < (n : Int)) = false := by simp; omega
          have Hst := Lib.hid (HS.out (Or.inl (by rw [HM.out]; omega)))
          clear HS HT
          go_wp2_with fail
          go_quiet (fail)
          have HO1 : Hid (((wo.drewN d).drewN nq).ownsRow w.heap.size 114 3 _ ac.length (ac.flatMap runC)) := HO
          have Hb1 := Lib.hid (below_drewN' (below_drewN' Hb.out d) nq)
          obtain ⟨k, hk⟩ : ∃ k, i + q = k + 1 := ⟨i + q - 1, by omega⟩
          obtain ⟨hk2, hk3⟩ := runN_get l i (q - 1) hil (by have := Hst.out; omega)
          have Hrun : Hid (runsI l i = (if v = 0 then fillN 0 q ++ runsI l (k + 1) else (v, 0, 0) :: (fillN v (q - 1) ++ runsI l (k + 1)))) := Lib.hid (by
            rw [runsI_step l i hil, Hst.out, oneRun_eq, hvd.out, hk]
            split <;> rfl)
          obtain ⟨b', o', hbb, hck⟩ := (HA.out.below Hb1.out).get (k := k) (by rw [List.length_map]; omega)
          injection hbb with hbb; injection hbb with e1 e2 e3; subst e1 e2
          have hkv : ∀ h : k < l.length, l[k] = v := fun h => by
            rw [Hv.out, ← hk3]; congr 1; omega
          simp only [List.getElem_map, natV] at hck
          rw [hkv (by omega)] at hck
          have hsk : IntKind.i64.wrap ((i : Int) + (q : Int)) = (k : Int) + 1 := by rw [show (i : Int) + (q : Int) = (k : Int) + 1 by omega]; exact IntWalk.i64_in _ (by omega)
          have hsk2 : IntKind.i64.wrap ((k : Int) + 1 - 1) = (k : Int) := by rw [show (k : Int) + 1 - 1 = (k : Int) by omega]; exact IntWalk.i64_in _ (by omega)
          have hkn : k < n := by omega
          have hik : i ≤ k := by omega
          generalize (wo.drewN d).drewN nq = w1 at *
          clear s1 hk hk2 hk3 hkv HC0 g2 HO Hb
          skip
          by_cases hv0 : v = 0
          · have hz : ((v : Int) == 0) = true := by simp; omega
            have Hv0 := Lib.hid hv0
            clear hv0
            go_wp2_with fail
            go_loopw [3, 5] (fun vo vn wr => ∃ (q : Nat) (ac : List (Nat × Nat × Nat)), q ≤ n ∧ vn = .int .i64 (q : Int) ∧ ac ++ (fillN v q ++ runsI l (k + 1)) = runsP l ∧ wr.ownsRow w.heap.size 114 3 vo ac.length (ac.flatMap runC) ∧ Below w.heap.size w wr) (fun _ vn _ => (intOf vn).toNat)
            case atStart => exact ⟨q, ac, by omega, rfl, by have := Hac.out; rw [Hrun.out, if_pos Hv0.out] at this; rw [Hv0.out]; exact this, HO1.out, Hb1.out⟩
            case round =>
              clear HO1 Hb1
              have Hac1 := Hac
              clear Hac
              clear Hst hq1 hq3
              obtain ⟨q, ac, hq, rfl, hac, ho, hb⟩ := hrel
              have Hac := Lib.hid hac
              have HO := Lib.hid ho
              have Hb := Lib.hid hb
              have hacl : ac.length ≤ 1000 := by have h1 := congrArg List.length hac; rw [List.length_append] at h1; have h2 := HL.out; have h3 := HM.out; omega
              clear hac ho hb
              by_cases hq0 : 0 < q
              · have hq0' : (0 : Int) < (q : Int) := by omega
                by_cases h11 : 11 ≤ q
                · have h11' : (11 : Int) ≤ (q : Int) := by omega
                  obtain ⟨x, hx2⟩ : ∃ x, x = min q 138 - 11 := ⟨_, rfl⟩
                  obtain ⟨r, hr2⟩ : ∃ r, r = q - min q 138 := ⟨_, rfl⟩
                  have Hf : Hid (fillN v q = (18, x, 7) :: fillN v r) := Lib.hid (by rw [hx2, hr2]; rw [Hv0.out]; exact fillN_18 q h11)
                  have hmin : ∀ (ts : Array TypeId) (ty : TypeId) (W : World), (Builtin.min_ ts ty #[.int .i64 (q : Int), .int .i64 138]).run Try.prog W = .ok (.int .i64 ((x : Int) + 11)) W := fun ts ty W => by rw [run_min2, show min (q : Int) 138 = (x : Int) + 11 by omega]
                  have hs1 : IntKind.i64.wrap ((x : Int) + 11 - 11) = (x : Int) := by rw [show (x : Int) + 11 - 11 = (x : Int) by omega]; exact IntWalk.i64_in _ (by omega)
                  have hs2 : IntKind.i64.wrap ((q : Int) - ((x : Int) + 11)) = (r : Int) := by rw [show (q : Int) - ((x : Int) + 11) = (r : Int) by omega]; exact IntWalk.i64_in _ (by omega)
                  have hrq : r < q := by omega
                  have hx3 : x ≤ 1000 := by omega
                  clear hx2 hr2
                  have hba : Below wr.heap.size wr (wr.alloc (.cells #[.int .i64 18, .int .i64 (x : Int), .int .i64 7] 114)) := (Below.refl _ _).alloc (Nat.le_refl _) _
                  have HO2 := Lib.hid (own_keep HO.out hba)
                  have Hb2 := Lib.hid (Hb.out.trans (hba.mono Hb.out.size))
                  have HZ : Hid (SlAt (wr.alloc (.cells #[.int .i64 18, .int .i64 (x : Int), .int .i64 7] 114)) (some ⟨wr.heap.size, 0, none⟩) [.int .i64 18, .int .i64 (x : Int), .int .i64 7]) := Lib.hid (SlAt.of_heap (heap_alloc_new _ _) rfl)
                  clear hba
                  go_wp2_with (at_builtin; refine wpList_app _ rfl (.tmp 70) (.tmp 74) _ rfl w.heap.size 114 _ 3 24 tyRun _ ac.length (ac.flatMap runC) rfl HO2.out (some ⟨wr.heap.size, 0, none⟩) 1 1 [.int .i64 18, .int .i64 (x : Int), .int .i64 7] rfl rfl HZ.out (by simp [Value.oneCell']) (by simp) (by unfold maxLen; omega) (by omega) Hb2.out.size ?_; intro v8 w8 hown8 hg8 _; have Hb8 := Lib.hid (own_below HO2.out hg8 Hb2.out Hb2.out.size); have Ho8 := Lib.hid hown8; clear hown8 hg8)
                  go_roundw
                  case rel => exact ⟨r, ac ++ [(18, x, 7)], by omega, by go_num, by rw [← Hac.out, Hf.out]; simp, by rw [snocC, List.length_append]; exact Ho8.out, Hb8.out⟩
                  case measure => simp [intOf]; omega
                · have h11' : ¬ (11 : Int) ≤ (q : Int) := by omega
                  by_cases h3 : 3 ≤ q
                  · have h3' : (3 : Int) ≤ (q : Int) := by omega
                    obtain ⟨x, hx2⟩ : ∃ x, x = min q 10 - 3 := ⟨_, rfl⟩
                    obtain ⟨r, hr2⟩ : ∃ r, r = q - min q 10 := ⟨_, rfl⟩
                    have Hf : Hid (fillN v q = (17, x, 3) :: fillN v r) := Lib.hid (by rw [hx2, hr2]; rw [Hv0.out]; exact fillN_17 q h3 (by omega))
                    have hmin : ∀ (ts : Array TypeId) (ty : TypeId) (W : World), (Builtin.min_ ts ty #[.int .i64 (q : Int), .int .i64 10]).run Try.prog W = .ok (.int .i64 ((x : Int) + 3)) W := fun ts ty W => by rw [run_min2, show min (q : Int) 10 = (x : Int) + 3 by omega]
                    have hs1 : IntKind.i64.wrap ((x : Int) + 3 - 3) = (x : Int) := by rw [show (x : Int) + 3 - 3 = (x : Int) by omega]; exact IntWalk.i64_in _ (by omega)
                    have hs2 : IntKind.i64.wrap ((q : Int) - ((x : Int) + 3)) = (r : Int) := by rw [show (q : Int) - ((x : Int) + 3) = (r : Int) by omega]; exact IntWalk.i64_in _ (by omega)
                    have hrq : r < q := by omega
                    have hx3 : x ≤ 1000 := by omega
                    clear hx2 hr2
                    have hba : Below wr.heap.size wr (wr.alloc (.cells #[.int .i64 17, .int .i64 (x : Int), .int .i64 3] 114)) := (Below.refl _ _).alloc (Nat.le_refl _) _
                    have HO2 := Lib.hid (own_keep HO.out hba)
                    have Hb2 := Lib.hid (Hb.out.trans (hba.mono Hb.out.size))
                    have HZ : Hid (SlAt (wr.alloc (.cells #[.int .i64 17, .int .i64 (x : Int), .int .i64 3] 114)) (some ⟨wr.heap.size, 0, none⟩) [.int .i64 17, .int .i64 (x : Int), .int .i64 3]) := Lib.hid (SlAt.of_heap (heap_alloc_new _ _) rfl)
                    clear hba
                    go_wp2_with (at_builtin; refine wpList_app _ rfl (.tmp 88) (.tmp 92) _ rfl w.heap.size 114 _ 3 24 tyRun _ ac.length (ac.flatMap runC) rfl HO2.out (some ⟨wr.heap.size, 0, none⟩) 1 1 [.int .i64 17, .int .i64 (x : Int), .int .i64 3] rfl rfl HZ.out (by simp [Value.oneCell']) (by simp) (by unfold maxLen; omega) (by omega) Hb2.out.size ?_; intro v8 w8 hown8 hg8 _; have Hb8 := Lib.hid (own_below HO2.out hg8 Hb2.out Hb2.out.size); have Ho8 := Lib.hid hown8; clear hown8 hg8)
                    go_roundw
                    case rel => exact ⟨r, ac ++ [(17, x, 3)], by omega, by go_num, by rw [← Hac.out, Hf.out]; simp, by rw [snocC, List.length_append]; exact Ho8.out, Hb8.out⟩
                    case measure => simp [intOf]; omega
                  · have h3' : ¬ (3 : Int) ≤ (q : Int) := by omega
                    obtain ⟨r, hr2⟩ : ∃ r, r = q - 1 := ⟨_, rfl⟩
                    have Hf : Hid (fillN v q = (v, 0, 0) :: fillN v r) := Lib.hid (by rw [hr2]; exact fillN_one v q (by omega) (by omega))
                    have hs2 : IntKind.i64.wrap ((q : Int) - 1) = (r : Int) := by rw [show (q : Int) - 1 = (r : Int) by omega]; exact IntWalk.i64_in _ (by omega)
                    have hrq : r < q := by omega
                    clear hr2
                    have hba : Below wr.heap.size wr (wr.alloc (.cells #[.int .i64 (v : Int), .int .i64 0, .int .i64 0] 114)) := (Below.refl _ _).alloc (Nat.le_refl _) _
                    have HO2 := Lib.hid (own_keep HO.out hba)
                    have Hb2 := Lib.hid (Hb.out.trans (hba.mono Hb.out.size))
                    have HZ : Hid (SlAt (wr.alloc (.cells #[.int .i64 (v : Int), .int .i64 0, .int .i64 0] 114)) (some ⟨wr.heap.size, 0, none⟩) [.int .i64 (v : Int), .int .i64 0, .int .i64 0]) := Lib.hid (SlAt.of_heap (heap_alloc_new _ _) rfl)
                    clear hba
                    go_wp2_with (at_builtin; refine wpList_app _ rfl (.tmp 54) (.tmp 57) _ rfl w.heap.size 114 _ 3 24 tyRun _ ac.length (ac.flatMap runC) rfl HO2.out (some ⟨wr.heap.size, 0, none⟩) 1 1 [.int .i64 (v : Int), .int .i64 0, .int .i64 0] rfl rfl HZ.out (by simp [Value.oneCell']) (by simp) (by unfold maxLen; omega) (by omega) Hb2.out.size ?_; intro v8 w8 hown8 hg8 _; have Hb8 := Lib.hid (own_below HO2.out hg8 Hb2.out Hb2.out.size); have Ho8 := Lib.hid hown8; clear hown8 hg8)
                    go_roundw
                    case rel => exact ⟨r, ac ++ [(v, 0, 0)], by omega, by go_num, by rw [← Hac.out, Hf.out]; simp, by rw [snocC, List.length_append]; exact Ho8.out, Hb8.out⟩
                    case measure => simp [intOf]; omega
              · obtain rfl : q = 0 := by omega
                have Hac2 : Hid (ac ++ runsI l (k + 1) = runsP l) := Hac
                go_wp2_with fail
                go_roundw
                case rel => exact ⟨k + 1, ac, by omega, by go_num, Hac2.out, HO.out, Hb.out⟩
                case measure => simp [intOf]; omega
          · have hz : ((v : Int) == 0) = false := by rw [beq_eq_false_iff_ne]; omega
            have Hv0 := Lib.hid hv0
            obtain ⟨r0, hr0⟩ : ∃ r, r = q - 1 := ⟨_, rfl⟩
            have hs0 : IntKind.i64.wrap ((q : Int) - 1) = (r0 : Int) := by rw [show (q : Int) - 1 = (r0 : Int) by omega]; exact IntWalk.i64_in _ (by omega)
            have hacl : ac.length ≤ 1000 := by have h1 := congrArg List.length Hac.out; rw [List.length_append] at h1; have h2 := HL.out; have h3 := HM.out; omega
            have hba : Below w1.heap.size w1 (w1.alloc (.cells #[.int .i64 (v : Int), .int .i64 0, .int .i64 0] 114)) := (Below.refl _ _).alloc (Nat.le_refl _) _
            have HO2 := Lib.hid (own_keep HO1.out hba)
            have Hb2 := Lib.hid (Hb1.out.trans (hba.mono Hb1.out.size))
            have HZ : Hid (SlAt (w1.alloc (.cells #[.int .i64 (v : Int), .int .i64 0, .int .i64 0] 114)) (some ⟨w1.heap.size, 0, none⟩) [.int .i64 (v : Int), .int .i64 0, .int .i64 0]) := Lib.hid (SlAt.of_heap (heap_alloc_new _ _) rfl)
            clear hba hv0
            go_wp2_with (at_builtin; refine wpList_app _ rfl (.tmp 45) (.tmp 48) _ rfl w.heap.size 114 _ 3 24 tyRun _ ac.length (ac.flatMap runC) rfl HO2.out (some ⟨w1.heap.size, 0, none⟩) 1 1 [.int .i64 (v : Int), .int .i64 0, .int .i64 0] rfl rfl HZ.out (by simp [Value.oneCell']) (by simp) (by unfold maxLen; omega) (by omega) Hb2.out.size ?_; intro v8 w8 hown8 hg8 _; have Hb8 := Lib.hid (own_below HO2.out hg8 Hb2.out Hb2.out.size); have Ho8 := Lib.hid hown8; clear hown8 hg8)
            go_loopw [3, 5] (fun vo vn wr => ∃ (q : Nat) (ac : List (Nat × Nat × Nat)), q ≤ n ∧ vn = .int .i64 (q : Int) ∧ ac ++ (fillN v q ++ runsI l (k + 1)) = runsP l ∧ wr.ownsRow w.heap.size 114 3 vo ac.length (ac.flatMap runC) ∧ Below w.heap.size w wr) (fun _ vn _ => (intOf vn).toNat)
            case atStart => exact ⟨q - 1, ac ++ [(v, 0, 0)], by omega, by rw [show ((q - 1 : Nat) : Int) = (r0 : Int) by omega], by have := Hac.out; rw [Hrun.out, if_neg Hv0.out] at this; rw [← this]; simp, by rw [snocC, List.length_append]; exact Ho8.out, Hb8.out⟩
            case round =>
              clear HO1 Hb1
              have Hac1 := Hac
              clear Hac
              clear Hst hq1 hq3
              obtain ⟨q, ac, hq, rfl, hac, ho, hb⟩ := hrel
              have Hac := Lib.hid hac
              have HO := Lib.hid ho
              have Hb := Lib.hid hb
              have hacl : ac.length ≤ 1000 := by have h1 := congrArg List.length hac; rw [List.length_append] at h1; have h2 := HL.out; have h3 := HM.out; omega
              clear hac ho hb
              by_cases hq0 : 0 < q
              · have hq0' : (0 : Int) < (q : Int) := by omega
                by_cases h3 : 3 ≤ q
                · have h3' : (3 : Int) ≤ (q : Int) := by omega
                  obtain ⟨x, hx2⟩ : ∃ x, x = min q 6 - 3 := ⟨_, rfl⟩
                  obtain ⟨r, hr2⟩ : ∃ r, r = q - min q 6 := ⟨_, rfl⟩
                  have Hf : Hid (fillN v q = (16, x, 2) :: fillN v r) := Lib.hid (by rw [hx2, hr2]; exact fillN_16 v q Hv0.out h3)
                  have hmin : ∀ (ts : Array TypeId) (ty : TypeId) (W : World), (Builtin.min_ ts ty #[.int .i64 (q : Int), .int .i64 6]).run Try.prog W = .ok (.int .i64 ((x : Int) + 3)) W := fun ts ty W => by rw [run_min2, show min (q : Int) 6 = (x : Int) + 3 by omega]
                  have hs1 : IntKind.i64.wrap ((x : Int) + 3 - 3) = (x : Int) := by rw [show (x : Int) + 3 - 3 = (x : Int) by omega]; exact IntWalk.i64_in _ (by omega)
                  have hs2 : IntKind.i64.wrap ((q : Int) - ((x : Int) + 3)) = (r : Int) := by rw [show (q : Int) - ((x : Int) + 3) = (r : Int) by omega]; exact IntWalk.i64_in _ (by omega)
                  have hrq : r < q := by omega
                  have hx3 : x ≤ 1000 := by omega
                  clear hx2 hr2
                  have hba : Below wr.heap.size wr (wr.alloc (.cells #[.int .i64 16, .int .i64 (x : Int), .int .i64 2] 114)) := (Below.refl _ _).alloc (Nat.le_refl _) _
                  have HO2 := Lib.hid (own_keep HO.out hba)
                  have Hb2 := Lib.hid (Hb.out.trans (hba.mono Hb.out.size))
                  have HZ : Hid (SlAt (wr.alloc (.cells #[.int .i64 16, .int .i64 (x : Int), .int .i64 2] 114)) (some ⟨wr.heap.size, 0, none⟩) [.int .i64 16, .int .i64 (x : Int), .int .i64 2]) := Lib.hid (SlAt.of_heap (heap_alloc_new _ _) rfl)
                  clear hba
                  go_wp2_with (at_builtin; refine wpList_app _ rfl (.tmp 106) (.tmp 110) _ rfl w.heap.size 114 _ 3 24 tyRun _ ac.length (ac.flatMap runC) rfl HO2.out (some ⟨wr.heap.size, 0, none⟩) 1 1 [.int .i64 16, .int .i64 (x : Int), .int .i64 2] rfl rfl HZ.out (by simp [Value.oneCell']) (by simp) (by unfold maxLen; omega) (by omega) Hb2.out.size ?_; intro v8 w8 hown8 hg8 _; have Hb8 := Lib.hid (own_below HO2.out hg8 Hb2.out Hb2.out.size); have Ho8 := Lib.hid hown8; clear hown8 hg8)
                  go_roundw
                  case rel => exact ⟨r, ac ++ [(16, x, 2)], by omega, by go_num, by rw [← Hac.out, Hf.out]; simp, by rw [snocC, List.length_append]; exact Ho8.out, Hb8.out⟩
                  case measure => simp [intOf]; omega
                · have h3' : ¬ (3 : Int) ≤ (q : Int) := by omega
                  obtain ⟨r, hr2⟩ : ∃ r, r = q - 1 := ⟨_, rfl⟩
                  have Hf : Hid (fillN v q = (v, 0, 0) :: fillN v r) := Lib.hid (by rw [hr2]; exact fillN_one v q (by omega) (by omega))
                  have hs2 : IntKind.i64.wrap ((q : Int) - 1) = (r : Int) := by rw [show (q : Int) - 1 = (r : Int) by omega]; exact IntWalk.i64_in _ (by omega)
                  have hrq : r < q := by omega
                  clear hr2
                  have hba : Below wr.heap.size wr (wr.alloc (.cells #[.int .i64 (v : Int), .int .i64 0, .int .i64 0] 114)) := (Below.refl _ _).alloc (Nat.le_refl _) _
                  have HO2 := Lib.hid (own_keep HO.out hba)
                  have Hb2 := Lib.hid (Hb.out.trans (hba.mono Hb.out.size))
                  have HZ : Hid (SlAt (wr.alloc (.cells #[.int .i64 (v : Int), .int .i64 0, .int .i64 0] 114)) (some ⟨wr.heap.size, 0, none⟩) [.int .i64 (v : Int), .int .i64 0, .int .i64 0]) := Lib.hid (SlAt.of_heap (heap_alloc_new _ _) rfl)
                  clear hba
                  go_wp2_with (at_builtin; refine wpList_app _ rfl (.tmp 54) (.tmp 57) _ rfl w.heap.size 114 _ 3 24 tyRun _ ac.length (ac.flatMap runC) rfl HO2.out (some ⟨wr.heap.size, 0, none⟩) 1 1 [.int .i64 (v : Int), .int .i64 0, .int .i64 0] rfl rfl HZ.out (by simp [Value.oneCell']) (by simp) (by unfold maxLen; omega) (by omega) Hb2.out.size ?_; intro v8 w8 hown8 hg8 _; have Hb8 := Lib.hid (own_below HO2.out hg8 Hb2.out Hb2.out.size); have Ho8 := Lib.hid hown8; clear hown8 hg8)
                  go_roundw
                  case rel => exact ⟨r, ac ++ [(v, 0, 0)], by omega, by go_num, by rw [← Hac.out, Hf.out]; simp, by rw [snocC, List.length_append]; exact Ho8.out, Hb8.out⟩
                  case measure => simp [intOf]; omega
              · obtain rfl : q = 0 := by omega
                have Hac2 : Hid (ac ++ runsI l (k + 1) = runsP l) := Hac
                go_wp2_with fail
                go_roundw
                case rel => exact ⟨k + 1, ac, by omega, by go_num, Hac2.out, HO.out, Hb.out⟩
                case measure => simp [intOf]; omega
    · obtain rfl : i = n := by omega
      have Hend : Hid (ac = runsP l) := Lib.hid (by have := Hac.out; rw [runsI_end l i (by rw [HM.out]; exact Nat.le_refl _), List.append_nil] at this; exact this)
      go_wp2_with fail
      go_ret
      exact ⟨⟨_, rfl, by rw [← Hend.out]; exact HO.out⟩, Hb.out⟩
end Go.Proofs.Ythpdcnjaodjjmaa.Blk

/- the head of a block whose codes are told is read; the plain law. No program in sight. -/
namespace Go.Proofs.Ythpdcnjaodjjmaa.Rt
open Go.Proofs.Ythpdcnjaodjjmaa.Bits Go.Proofs.Ythpdcnjaodjjmaa.Code Go.Proofs.Ythpdcnjaodjjmaa.Match Go.Proofs.Ythpdcnjaodjjmaa.SP Go.Proofs.Ythpdcnjaodjjmaa.Inf Go.Proofs.Ythpdcnjaodjjmaa.Blk
set_option linter.unusedVariables false

/-- a run told behind lengths -/
def runStep (l : List Nat) (x : Nat × Nat × Nat) : List Nat :=
  if x.1 = 16 then l ++ List.replicate (3 + x.2.1) (l.getLastD 0) else if x.1 = 17 then l ++ List.replicate (3 + x.2.1) 0 else if x.1 = 18 then l ++ List.replicate (11 + x.2.1) 0 else l ++ [x.1]
def RunFit (x : Nat × Nat × Nat) : Prop := (x.1 = 16 ∧ x.2.2 = 2 ∧ x.2.1 < 4) ∨ (x.1 = 17 ∧ x.2.2 = 3 ∧ x.2.1 < 8) ∨ (x.1 = 18 ∧ x.2.2 = 7 ∧ x.2.1 < 128) ∨ (x.1 ≤ 15 ∧ x.2.1 = 0 ∧ x.2.2 = 0)
theorem runStep_gt (l : List Nat) (x : Nat × Nat × Nat) : l.length < (runStep l x).length := by
  unfold runStep
  (repeat' split) <;> simp <;> omega
theorem runs_ge : ∀ (xs : List (Nat × Nat × Nat)) (l : List Nat), l.length ≤ (xs.foldl runStep l).length
  | [], l => Nat.le_refl _
  | x :: xs, l => Nat.le_trans (Nat.le_of_lt (runStep_gt l x)) (runs_ge xs _)
theorem again_ok (n : Nat) (l : List Nat) (v k : Nat) (h : l.length + k ≤ n) : againR n l v k = .ok (l ++ List.replicate k v) := by
  unfold againR; rw [if_neg (by omega)]
def runB (sz : List Nat) (x : Nat × Nat × Nat) : List Bool := codeB sz x.1 ++ numBits x.2.1 x.2.2
theorem step_has {row : List Bool} {sz l : List Nat} {p n : Nat} {x : Nat × Nat × Nat} (hc : Cd sz) (h : Has row p (runB sz x)) (h0 : sz.getD x.1 0 ≠ 0) (hx : RunFit x) (hl : l = [] → x.1 ≠ 16) (hn : (runStep l x).length ≤ n) :
    lenStep row sz n p l = .ok (p + (runB sz x).length, runStep l x) := by
  obtain ⟨a, b, c⟩ := x
  unfold runB at h ⊢
  unfold RunFit at hx
  unfold runStep at hn ⊢
  dsimp only at *
  have h1 := h.left
  have h2 := h.right
  rw [codeB_length] at h2
  rw [List.length_append, codeB_length, numBits_length]
  unfold lenStep
  rw [sym_has hc h1 h0, thn]
  dsimp only
  rcases hx with ⟨rfl, rfl, h3⟩ | ⟨rfl, rfl, h3⟩ | ⟨rfl, rfl, h3⟩ | ⟨h3, rfl, rfl⟩
  · rw [if_pos rfl] at hn ⊢
    rw [if_pos rfl, if_neg (fun e => hl e rfl), get_has h2 h3, thn]
    dsimp only
    rw [List.length_append, List.length_replicate] at hn
    rw [again_ok n l _ _ (by omega), thn, Nat.add_assoc]
  · rw [if_neg (by omega), if_pos rfl] at hn ⊢
    rw [if_neg (by omega), if_pos rfl, get_has h2 h3, thn]
    dsimp only
    rw [List.length_append, List.length_replicate] at hn
    rw [again_ok n l _ _ (by omega), thn, Nat.add_assoc]
  · rw [if_neg (by omega), if_neg (by omega), if_pos rfl] at hn ⊢
    rw [if_neg (by omega), if_neg (by omega), if_pos rfl, get_has h2 h3, thn]
    dsimp only
    rw [List.length_append, List.length_replicate] at hn
    rw [again_ok n l _ _ (by omega), thn, Nat.add_assoc]
  · rw [if_neg (by omega), if_neg (by omega), if_neg (by omega)] at hn ⊢
    rw [if_neg (by omega), if_neg (by omega), if_neg (by omega)]
    rw [List.length_append, List.length_singleton] at hn
    rw [again_ok n l _ _ (by omega), thn, Nat.add_zero]
    rfl
theorem lens_has {row : List Bool} {sz : List Nat} {n : Nat} (hc : Cd sz) : ∀ (xs : List (Nat × Nat × Nat)) (p : Nat) (l : List Nat) (fuel : Nat), Has row p (xs.flatMap (runB sz)) → (∀ x ∈ xs, sz.getD x.1 0 ≠ 0 ∧ RunFit x) → (l = [] → ∀ x, xs.head? = some x → x.1 ≠ 16) →
    (xs.foldl runStep l).length = n → n ≤ fuel + l.length → lenR row sz n fuel p l = .ok (p + (xs.flatMap (runB sz)).length, xs.foldl runStep l)
  | [], p, l, 0, h, hx, hh, hn, hf => by simp [lenR]
  | [], p, l, f + 1, h, hx, hh, hn, hf => by
    have : l.length = n := hn
    unfold lenR
    rw [if_pos (by omega)]
    simp
  | x :: xs, p, l, 0, h, hx, hh, hn, hf => by
    rw [List.foldl_cons] at hn
    have h1 := runStep_gt l x
    have h2 := runs_ge xs (runStep l x)
    omega
  | x :: xs, p, l, f + 1, h, hx, hh, hn, hf => by
    rw [List.foldl_cons] at hn ⊢
    rw [List.flatMap_cons] at h ⊢
    have h1 := runStep_gt l x
    have h2 := runs_ge xs (runStep l x)
    obtain ⟨h3, h4⟩ := hx x List.mem_cons_self
    unfold lenR
    rw [if_neg (by omega), step_has hc h.left h3 h4 (fun e => hh e x rfl) (by omega), thn]
    dsimp only
    rw [lens_has hc xs _ _ f h.right (fun y hy => hx y (List.mem_cons_of_mem _ hy)) (fun e => by rw [e] at h1; simp at h1) hn (by omega), List.length_append, Nat.add_assoc]
/-! what runs say -/
theorem getLastD_rep (l : List Nat) (v k : Nat) (h : 0 < k) : (l ++ List.replicate k v).getLastD 0 = v := by
  obtain ⟨j, rfl⟩ : ∃ j, k = j + 1 := ⟨k - 1, by omega⟩
  rw [List.replicate_succ', ← List.append_assoc]
  simp
theorem fill_said (v : Nat) (hv : v ≤ 15) : ∀ (f n : Nat) (l : List Nat), n ≤ f → (v ≠ 0 → l.getLastD 0 = v) → (fillR v f n).foldl runStep l = l ++ List.replicate n v
  | 0, n, l, h, _ => by
    obtain rfl : n = 0 := by omega
    simp [fillR]
  | f + 1, n, l, h, hl => by
    unfold fillR
    by_cases h0 : n = 0
    · rw [if_pos h0, h0]; simp
    · rw [if_neg h0]
      by_cases h1 : v = 0 ∧ 11 ≤ n
      · rw [if_pos h1, List.foldl_cons]
        obtain ⟨rfl, h1⟩ := h1
        have e : runStep l (18, min n 138 - 11, 7) = l ++ List.replicate (min n 138) 0 := by
          unfold runStep
          rw [if_neg (by dsimp only; omega), if_neg (by dsimp only; omega), if_pos rfl]
          dsimp only
          rw [show 11 + (min n 138 - 11) = min n 138 by omega]
        rw [e, fill_said 0 (by omega) f _ _ (by omega) (fun h => absurd rfl h), List.append_assoc, List.replicate_append_replicate]
        congr 2; omega
      · rw [if_neg h1]
        by_cases h2 : v = 0 ∧ 3 ≤ n
        · rw [if_pos h2, List.foldl_cons]
          obtain ⟨rfl, h2⟩ := h2
          have e : runStep l (17, min n 10 - 3, 3) = l ++ List.replicate (min n 10) 0 := by
            unfold runStep
            rw [if_neg (by dsimp only; omega), if_pos rfl]
            dsimp only
            rw [show 3 + (min n 10 - 3) = min n 10 by omega]
          rw [e, fill_said 0 (by omega) f _ _ (by omega) (fun h => absurd rfl h), List.append_assoc, List.replicate_append_replicate]
          congr 2; omega
        · rw [if_neg h2]
          by_cases h3 : v ≠ 0 ∧ 3 ≤ n
          · rw [if_pos h3, List.foldl_cons]
            have e : runStep l (16, min n 6 - 3, 2) = l ++ List.replicate (min n 6) v := by
              unfold runStep
              rw [if_pos rfl]
              dsimp only
              rw [show 3 + (min n 6 - 3) = min n 6 by omega, hl h3.1]
            rw [e, fill_said v hv f _ _ (by omega) (fun _ => getLastD_rep l v _ (by omega)), List.append_assoc, List.replicate_append_replicate]
            congr 2; omega
          · rw [if_neg h3, List.foldl_cons]
            have e : runStep l (v, 0, 0) = l ++ List.replicate 1 v := by
              unfold runStep
              dsimp only
              rw [if_neg (by omega), if_neg (by omega), if_neg (by omega)]; rfl
            rw [e, fill_said v hv f _ _ (by omega) (fun _ => getLastD_rep l v 1 (by omega)), List.append_assoc, List.replicate_append_replicate]
            congr 2; omega
theorem one_said (v n : Nat) (hv : v ≤ 15) (hn : 1 ≤ n) (l : List Nat) : (oneRun v n).foldl runStep l = l ++ List.replicate n v := by
  unfold oneRun
  by_cases h : v = 0
  · subst h
    rw [if_pos rfl, fill_said 0 (by omega) n n l (Nat.le_refl _) (fun h => absurd rfl h)]
  · rw [if_neg h, List.foldl_cons]
    have e : runStep l (v, 0, 0) = l ++ List.replicate 1 v := by
      unfold runStep
      dsimp only
      rw [if_neg (by omega), if_neg (by omega), if_neg (by omega)]; rfl
    rw [e, fill_said v hv _ _ _ (Nat.le_refl _) (fun _ => getLastD_rep l v 1 (by omega)), List.append_assoc, List.replicate_append_replicate]
    congr 2; omega
theorem tw_rep (l : List Nat) (v : Nat) : l.takeWhile (fun x => x == v) = List.replicate (l.takeWhile (fun x => x == v)).length v := by
  refine List.eq_replicate_iff.2 ⟨rfl, fun x hx => ?_⟩
  have := List.all_takeWhile (p := fun x => x == v) (l := l)
  rw [List.all_eq_true] at this
  simpa using this x hx
theorem take_run (l : List Nat) (i : Nat) (h : i < l.length) : l.take (i + Blk.runN l i) = l.take i ++ List.replicate (Blk.runN l i) (l.getD i 0) := by
  have e : l.getD i 0 = l[i] := by rw [List.getD_eq_getElem?_getD, List.getElem?_eq_getElem h]; rfl
  unfold Blk.runN
  rw [e, List.take_add, List.drop_eq_getElem_cons h, Nat.add_comm 1, List.take_succ_cons, List.replicate_succ]
  congr 2
  have hp := List.takeWhile_prefix (l := l.drop (i + 1)) fun x => x == l[i]
  rw [← List.prefix_iff_eq_take.1 hp]
  exact tw_rep _ _
theorem runs_said (l : List Nat) (hl : ∀ y ∈ l, y ≤ 15) : ∀ (f i : Nat), l.length ≤ f + i → i ≤ l.length → (runsF l f i).foldl runStep (l.take i) = l
  | 0, i, h, h2 => by
    obtain rfl : i = l.length := by omega
    simp [runsF]
  | f + 1, i, h, h2 => by
    unfold runsF
    by_cases h0 : l.length ≤ i
    · rw [if_pos h0]
      obtain rfl : i = l.length := by omega
      simp
    · have hr := runN_le l i (by omega)
      have hv : l.getD i 0 ≤ 15 := by
        rw [List.getD_eq_getElem?_getD, List.getElem?_eq_getElem (by omega : i < l.length)]
        exact hl _ (List.getElem_mem _)
      rw [if_neg h0, List.foldl_append, one_said _ _ hv hr.1, ← take_run l i (by omega), runs_said l hl f _ (by omega) hr.2]
theorem runs_all (l : List Nat) (hl : ∀ y ∈ l, y ≤ 15) : (runsP l).foldl runStep [] = l := by
  have := runs_said l hl l.length 0 (by omega) (by omega)
  rw [List.take_zero] at this
  exact this
theorem fillR_fit (v : Nat) (hv : v ≤ 15) : ∀ (f n : Nat), ∀ x ∈ fillR v f n, RunFit x
  | 0, n, x, h => by simp [fillR] at h
  | f + 1, n, x, h => by
    unfold fillR at h
    by_cases h0 : n = 0
    · rw [if_pos h0] at h; cases h
    · rw [if_neg h0] at h
      by_cases h1 : v = 0 ∧ 11 ≤ n
      · rw [if_pos h1] at h
        rcases List.mem_cons.1 h with rfl | h
        · (unfold RunFit; dsimp only; omega)
        · exact fillR_fit v hv f _ x h
      · rw [if_neg h1] at h
        by_cases h2 : v = 0 ∧ 3 ≤ n
        · rw [if_pos h2] at h
          rcases List.mem_cons.1 h with rfl | h
          · (unfold RunFit; dsimp only; omega)
          · exact fillR_fit v hv f _ x h
        · rw [if_neg h2] at h
          by_cases h3 : v ≠ 0 ∧ 3 ≤ n
          · rw [if_pos h3] at h
            rcases List.mem_cons.1 h with rfl | h
            · (unfold RunFit; dsimp only; omega)
            · exact fillR_fit v hv f _ x h
          · rw [if_neg h3] at h
            rcases List.mem_cons.1 h with rfl | h
            · (unfold RunFit; dsimp only; omega)
            · exact fillR_fit v hv f _ x h
theorem runsF_fit (l : List Nat) (hl : ∀ y ∈ l, y ≤ 15) : ∀ (f i : Nat), ∀ x ∈ runsF l f i, RunFit x
  | 0, i, x, h => by simp [runsF] at h
  | f + 1, i, x, h => by
    unfold runsF at h
    by_cases h0 : l.length ≤ i
    · rw [if_pos h0] at h; cases h
    · rw [if_neg h0] at h
      have hv : l.getD i 0 ≤ 15 := by
        rw [List.getD_eq_getElem?_getD, List.getElem?_eq_getElem (by omega : i < l.length)]
        exact hl _ (List.getElem_mem _)
      rcases List.mem_append.1 h with h | h
      · unfold oneRun at h
        by_cases h1 : l.getD i 0 = 0
        · rw [if_pos h1] at h; exact fillR_fit 0 (by omega) _ _ x h
        · rw [if_neg h1] at h
          rcases List.mem_cons.1 h with rfl | h
          · (unfold RunFit; dsimp only; omega)
          · exact fillR_fit _ hv _ _ x h
      · exact runsF_fit l hl f _ x h
theorem run_head (v n : Nat) (hv : v ≤ 15) (hn : 1 ≤ n) (r : List (Nat × Nat × Nat)) : ∀ x, (oneRun v n ++ r).head? = some x → x.1 ≠ 16 := by
  intro x hx
  unfold oneRun at hx
  by_cases h : v = 0
  · subst h
    rw [if_pos rfl] at hx
    obtain ⟨m, rfl⟩ : ∃ m, n = m + 1 := ⟨n - 1, by omega⟩
    unfold fillR at hx
    rw [if_neg (by omega)] at hx
    by_cases h1 : (0 : Nat) = 0 ∧ 11 ≤ m + 1
    · rw [if_pos h1, List.cons_append, List.head?_cons] at hx
      injection hx with hx
      rw [← hx]; dsimp only; omega
    · rw [if_neg h1] at hx
      by_cases h2 : (0 : Nat) = 0 ∧ 3 ≤ m + 1
      · rw [if_pos h2, List.cons_append, List.head?_cons] at hx
        injection hx with hx
        rw [← hx]; dsimp only; omega
      · rw [if_neg h2, if_neg (by omega), List.cons_append, List.head?_cons] at hx
        injection hx with hx
        rw [← hx]; dsimp only; omega
  · rw [if_neg h, List.cons_append, List.head?_cons] at hx
    injection hx with hx
    rw [← hx]; dsimp only; omega
theorem runs_head (l : List Nat) (hl : ∀ y ∈ l, y ≤ 15) : ∀ x, (runsP l).head? = some x → x.1 ≠ 16 := by
  intro x hx
  rw [runsI_all] at hx
  rcases Nat.eq_zero_or_pos l.length with h | h
  · rw [runsI_end l 0 (by omega)] at hx; cases hx
  · rw [runsI_step l 0 h] at hx
    refine run_head _ _ ?_ (runN_le l 0 h).1 _ x hx
    rw [List.getD_eq_getElem?_getD, List.getElem?_eq_getElem h]
    exact hl _ (List.getElem_mem _)
/-! how often each symbol of runs stands -/
theorem bump_get (l : List Nat) (i j : Nat) : (bump l i).getD j 0 = l.getD j 0 + if i = j ∧ j < l.length then 1 else 0 := by
  unfold bump
  simp only [List.getD_eq_getElem?_getD, List.getElem?_set]
  by_cases h : i = j
  · subst h
    by_cases hl : i < l.length
    · rw [if_pos rfl, if_pos hl, if_pos ⟨rfl, hl⟩]; rfl
    · rw [if_pos rfl, if_neg hl, if_neg (fun h => hl h.2), List.getElem?_eq_none (by omega)]; rfl
  · rw [if_neg h, if_neg (fun hh => h hh.1)]; rfl
theorem many_fold : ∀ (rs : List (Nat × Nat × Nat)) (m : List Nat) (j : Nat), m.length = 19 → (rs.foldl (fun m x => bump m x.1) m).length = 19 ∧ m.getD j 0 ≤ (rs.foldl (fun m x => bump m x.1) m).getD j 0 ∧ ((∃ x ∈ rs, x.1 = j) → j < 19 → 0 < (rs.foldl (fun m x => bump m x.1) m).getD j 0)
  | [], m, j, h => ⟨h, Nat.le_refl _, fun ⟨x, hx, _⟩ => by cases hx⟩
  | x :: rs, m, j, h => by
    obtain ⟨h1, h2, h3⟩ := many_fold rs (bump m x.1) j (by rw [bump_len]; exact h)
    rw [bump_get] at h2
    refine ⟨h1, ?_, ?_⟩
    · rw [List.foldl_cons]; omega
    · rintro ⟨y, hy, hj⟩ hlt
      rw [List.foldl_cons]
      rcases List.mem_cons.1 hy with rfl | hy
      · rw [if_pos ⟨hj, by omega⟩] at h2; omega
      · exact h3 ⟨y, hy, hj⟩ hlt
theorem many_len (rs : List (Nat × Nat × Nat)) : (manyP rs).length = 19 := (many_fold rs _ 0 List.length_replicate).1
theorem many_pos (rs : List (Nat × Nat × Nat)) (x : Nat × Nat × Nat) (h : x ∈ rs) (h19 : x.1 < 19) : (manyP rs).getD x.1 0 ≠ 0 := by
  have := (many_fold rs (List.replicate 19 0) x.1 List.length_replicate).2.2 ⟨x, h, rfl⟩ h19
  unfold manyP; omega
/-- the sizes of the code of lengths -/
def sizesP (rs : List (Nat × Nat × Nat)) : List Nat := lengthsP (manyP rs) 7
theorem sizes_fine (rs : List (Nat × Nat × Nat)) : (sizesP rs).length = 19 ∧ Cd (sizesP rs) ∧ (∀ x ∈ sizesP rs, x ≤ 7) ∧ ∀ i, (sizesP rs).getD i 0 = 0 ↔ (manyP rs).getD i 0 = 0 := by
  have h := Weigh.ones_le (manyP rs)
  rw [many_len] at h
  obtain ⟨h1, h2, h3, h4⟩ := lens_fine (manyP rs) 7 (by omega) (by omega) (by have : (2 : Nat) ^ 7 = 128 := rfl; omega)
  exact ⟨h1.trans (many_len rs), h2, h3, h4⟩
/-! the sizes that are told -/
theorem sizes_has {row : List Bool} {v : Nat → Nat} (hv : ∀ k, v k < 8) : ∀ (ks : List Nat) (p : Nat) (s : List Nat), Has row p ((ks.map v).flatMap fun n => numBits n 3) → sizesR row ks p s = .ok (p + 3 * ks.length, ks.foldl (fun s k => s.set k (v k)) s)
  | [], p, s, h => rfl
  | k :: ks, p, s, h => by
    rw [List.map_cons, List.flatMap_cons] at h
    have h2 := h.right
    rw [numBits_length] at h2
    show (getR row p 3).then_ _ = _
    rw [get_has h.left (hv k), thn]
    dsimp only
    rw [sizes_has hv ks _ _ h2, List.foldl_cons, List.length_cons]
    congr 2; omega
theorem set_get (l : List Nat) (i j x : Nat) (h : i < l.length) : (l.set i x).getD j 0 = if i = j then x else l.getD j 0 := by
  simp only [List.getD_eq_getElem?_getD, List.getElem?_set]
  by_cases e : i = j
  · subst e; rw [if_pos rfl, if_pos h, if_pos rfl]; rfl
  · rw [if_neg e, if_neg e]
theorem fold_set (v : Nat → Nat) : ∀ (ks s : List Nat) (j : Nat), (∀ k ∈ ks, k < s.length) → (ks.foldl (fun s k => s.set k (v k)) s).length = s.length ∧ (ks.foldl (fun s k => s.set k (v k)) s).getD j 0 = if j ∈ ks then v j else s.getD j 0
  | [], s, j, _ => ⟨rfl, by rw [if_neg (by simp)]; rfl⟩
  | k :: ks, s, j, h => by
    obtain ⟨h1, h2⟩ := fold_set v ks (s.set k (v k)) j (fun x hx => by rw [List.length_set]; exact h x (List.mem_cons_of_mem _ hx))
    rw [List.foldl_cons]
    refine ⟨by rw [h1, List.length_set], ?_⟩
    rw [h2, set_get _ _ _ _ (h k List.mem_cons_self)]
    by_cases e : k = j
    · subst e
      rw [if_pos rfl, if_pos (List.mem_cons_self)]
      split <;> rfl
    · rw [if_neg e]
      by_cases hj : j ∈ ks
      · rw [if_pos hj, if_pos (List.mem_cons_of_mem _ hj)]
      · rw [if_neg hj, if_neg (fun hm => by rcases List.mem_cons.1 hm with rfl | hm; exact e rfl; exact hj hm)]
theorem ext_getD (a b : List Nat) (h : a.length = b.length) (hg : ∀ j, a.getD j 0 = b.getD j 0) : a = b := by
  apply List.ext_getElem h
  intro i h1 h2
  have := hg i
  rw [List.getD_eq_getElem?_getD, List.getD_eq_getElem?_getD, List.getElem?_eq_getElem h1, List.getElem?_eq_getElem h2] at this
  exact this
theorem order_all : ∀ j < 19, ∃ q < 19, orderL.getD q 0 = j := by decide
theorem order_lt : ∀ k ∈ orderL, k < 19 := by decide
/-- the sizes that are told, the others nought, are the sizes -/
theorem told_all (S : List Nat) (h : S.length = 19) : (orderL.take (trimP (orderL.map fun k => S.getD k 0) 4).length).foldl (fun s k => s.set k (S.getD k 0)) (List.replicate 19 0) = S := by
  have hlen : (trimP (orderL.map fun k => S.getD k 0) 4).length = trimN (orderL.map fun k => S.getD k 0) 4 19 := by
    unfold trimP
    rw [List.length_take]
    have := trimN_le (orderL.map fun k => S.getD k 0) 4 19
    have e : (orderL.map fun k => S.getD k 0).length = 19 := by rw [List.length_map]; rfl
    rw [e]; omega
  have hz := trimN_zero (orderL.map fun k => S.getD k 0) 4 19
  rw [hlen]
  generalize trimN (orderL.map fun k => S.getD k 0) 4 19 = m at *
  have hf := fun j => fold_set (fun k => S.getD k 0) (orderL.take m) (List.replicate 19 0) j (fun k hk => by rw [List.length_replicate]; exact order_lt k (List.mem_of_mem_take hk))
  refine ext_getD _ _ ?_ (fun j => ?_)
  · rw [(hf 0).1, List.length_replicate, h]
  · rw [(hf j).2]
    by_cases hj : j ∈ orderL.take m
    · rw [if_pos hj]
    · rw [if_neg hj, rep_getD]
      by_cases h19 : j < 19
      · obtain ⟨q, hq, hqj⟩ := order_all j h19
        have hqm : m ≤ q := by
          rcases Nat.lt_or_ge q m with h1 | h1
          · exfalso
            apply hj
            rw [← hqj, List.getD_eq_getElem?_getD, List.getElem?_eq_getElem (show q < orderL.length from hq)]
            exact List.mem_take_iff_getElem.2 ⟨q, by show q < min m 19; omega, rfl⟩
          · exact h1
        have := hz q hqm hq
        rw [List.getD_eq_getElem?_getD, List.getElem?_map, List.getElem?_eq_getElem (show q < orderL.length from hq)] at this
        rw [List.getD_eq_getElem?_getD, List.getElem?_eq_getElem (show q < orderL.length from hq)] at hqj
        have e : orderL[q]'(show q < orderL.length from hq) = j := hqj
        rw [e] at this
        exact this.symm
      · rw [List.getD_eq_getElem?_getD, List.getElem?_eq_none (by omega)]; rfl
theorem headB_eq (lit far : List Nat) : headB lit far = numBits ((trimP lit 257).length - 257) 5 ++ numBits ((trimP far 1).length - 1) 5 ++
  numBits ((trimP (orderL.map fun k => (sizesP (runsP (trimP lit 257 ++ trimP far 1))).getD k 0) 4).length - 4) 4 ++
  (trimP (orderL.map fun k => (sizesP (runsP (trimP lit 257 ++ trimP far 1))).getD k 0) 4).flatMap (fun n => numBits n 3) ++
  (runsP (trimP lit 257 ++ trimP far 1)).flatMap (runB (sizesP (runsP (trimP lit 257 ++ trimP far 1)))) := rfl
/-- the head is read -/
theorem head_has {row : List Bool} {p : Nat} {lit far : List Nat} (hlit : Cd lit) (hfar : Cd far) (l1 : lit.length = 286) (l2 : far.length = 30) (he : lit.getD 256 0 ≠ 0) (h : Has row p (headB lit far)) :
    headR row p = .ok (p + (headB lit far).length, trimP lit 257, trimP far 1) := by
  rw [headB_eq] at h ⊢
  have tA := trim_len lit 257 (by omega)
  have tB := trim_len far 1 (by omega)
  have cA := trim_cd lit 257 hlit
  have cB := trim_cd far 1 hfar
  have eA := trim_getD lit 257 256
  rw [l1] at tA
  rw [l2] at tB
  generalize trimP lit 257 = A at *
  generalize trimP far 1 = B at *
  have h15 : ∀ y ∈ A ++ B, y ≤ 15 := fun y hy => by
    rcases List.mem_append.1 hy with hy | hy
    · exact cA.le y hy
    · exact cB.le y hy
  have hall := runs_all (A ++ B) h15
  have hhead := runs_head (A ++ B) h15
  have hfit : ∀ x ∈ runsP (A ++ B), RunFit x := runsF_fit (A ++ B) h15 _ _
  have hok := runs_ok (A ++ B) h15
  generalize runsP (A ++ B) = R at *
  obtain ⟨s1, s2, s3, s4⟩ := sizes_fine R
  have hmany := fun x hx => many_pos R x hx (hok x hx).1
  generalize sizesP R = S at *
  have hv : ∀ k, S.getD k 0 < 8 := fun k => by
    rw [List.getD_eq_getElem?_getD]
    rcases Nat.lt_or_ge k S.length with h1 | h1
    · rw [List.getElem?_eq_getElem h1]; have := s3 _ (List.getElem_mem h1); show S[k] < 8; omega
    · rw [List.getElem?_eq_none h1]; show 0 < 8; omega
  have htold := told_all S s1
  have hTle : 4 ≤ (trimP (orderL.map fun k => S.getD k 0) 4).length ∧ (trimP (orderL.map fun k => S.getD k 0) 4).length ≤ 19 := by
    have := trim_len (orderL.map fun k => S.getD k 0) 4 (by rw [List.length_map]; decide)
    rw [List.length_map] at this
    exact this
  have hT : trimP (orderL.map fun k => S.getD k 0) 4 = (orderL.take (trimP (orderL.map fun k => S.getD k 0) 4).length).map fun k => S.getD k 0 := by
    rw [List.map_take]
    conv => lhs; unfold trimP
    congr 1
    unfold trimP
    rw [List.length_take]
    have := trimN_le (orderL.map fun k => S.getD k 0) 4 (orderL.map fun k => S.getD k 0).length
    omega
  have a1 := h.left.left.left.left
  have a2 := h.left.left.left.right
  have a3 := h.left.left.right
  have a4 := h.left.right
  have a5 := h.right
  rw [hT] at a4
  simp only [List.length_append, numBits_length] at a2 a3 a4 a5 ⊢
  have hfl : ((trimP (orderL.map fun k => S.getD k 0) 4).flatMap fun n => numBits n 3).length = 3 * (trimP (orderL.map fun k => S.getD k 0) 4).length := by
    generalize trimP (orderL.map fun k => S.getD k 0) 4 = T
    induction T with
    | nil => rfl
    | cons a T ih => rw [List.flatMap_cons, List.length_append, ih, numBits_length, List.length_cons]; omega
  rw [hfl] at a5 ⊢
  generalize (trimP (orderL.map fun k => S.getD k 0) 4).length = m at *
  have p5 : (2 : Nat) ^ 5 = 32 := rfl
  have p4 : (2 : Nat) ^ 4 = 16 := rfl
  unfold headR
  rw [get_has a1 (by omega), thn]
  dsimp only
  rw [get_has a2 (by omega), thn]
  dsimp only
  rw [get_has (by rw [Nat.add_assoc]; exact a3) (by omega), thn]
  dsimp only
  rw [if_neg (by omega), show A.length - 257 + 257 = A.length by omega, show B.length - 1 + 1 = B.length by omega, show m - 4 + 4 = m by omega]
  have hor : (orderL.take m).length = m := by rw [List.length_take]; show min m 19 = m; omega
  rw [sizes_has hv (orderL.take m) _ _ (by rw [Nat.add_assoc, Nat.add_assoc]; rw [Nat.add_assoc] at a4; exact a4), thn]
  dsimp only
  rw [htold, table_ok S s2 (by omega), thn]
  have hlen : (R.foldl runStep []).length = A.length + B.length := by rw [hall, List.length_append]
  rw [lens_has s2 R _ [] (A.length + B.length) (by rw [hor]; simp only [Nat.add_assoc] at a5 ⊢; exact a5) (fun x hx => ⟨fun h0 => hmany x hx ((s4 x.1).1 h0), hfit x hx⟩) (fun _ => hhead) hlen (by simp), thn, hall]
  dsimp only
  have e256 : (A ++ B).getD 256 0 = A.getD 256 0 := by
    rw [List.getD_eq_getElem?_getD, List.getD_eq_getElem?_getD, List.getElem?_append_left (by omega)]
  rw [e256, eA, if_neg he, List.take_left, List.drop_left, table_ok A cA (by omega), thn, table_ok B cB (by omega), thn]
  rw [hor]
  simp only [Nat.add_assoc]
end Go.Proofs.Ythpdcnjaodjjmaa.Rt
