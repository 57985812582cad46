/- reliquarylaw.named: a closed fact. -/
import Derived.Test.YtdponlnfdjfljaaDoorName3
namespace Go.Proofs.YtdponlnfdjfljaaDoor.Name
open Go Go.RowKit Go.Proofs.YtdponlnfdjfljaaDoor
set_option linter.unusedVariables false

theorem below_drewN' {B : Nat} {a w : World} (h : Below B a w) (n : Nat) : Below B a (w.drewN n) := ⟨h.os, h.tape, h.output, h.size, h.block⟩
theorem named1 : nameE [97, 47, 98, 46, 99] = 0 ∧ parts [97, 47, 98, 46, 99] = [[97], [98, 46, 99]] := by decide
theorem named2 : joinR [97] [46, 46, 47, 97, 47, 46, 47, 98] = (1, []) := by decide
theorem named3 : joinR [97] [120, 47, 46, 46, 47, 98] = (0, [97, 47, 98]) := by decide
theorem cells_strs {w : World} {b o : Nat} {xs : List (List UInt8)} (h : ∀ j v, (xs.map sv)[j]? = some v → w.cell? ⟨b, o + j, none⟩ = some v) : ∀ j, j < (xs.map strB).length → w.cell? ⟨b, o + j, none⟩ = some (.string ((xs.map strB).getD j ByteArray.empty)) := by
  intro j hj
  rw [List.length_map] at hj
  rw [h j (sv xs[j]) (by rw [List.getElem?_map, List.getElem?_eq_getElem hj]; rfl)]
  simp [sv, List.getD_eq_getElem?_getD, hj]
theorem equal_strs (A B : Option Addr) (n c d : Nat) (xs ys : List (List UInt8)) (w : World) (hx : xs.length = n) (hy : ys.length = n) (hn : n ≤ 4000000) (hA : SlAt w A (xs.map sv)) (hB : SlAt w B (ys.map sv)) :
    Calls Tryd.prog 16 #[.slice A n c, .slice B n d] w fun e w' => e = .returned (.bool (decide (xs = ys))) ∧ ∃ q, w' = w.drewN q := by
  by_cases h0 : n = 0
  · subst h0
    have hx0 : xs = [] := List.eq_nil_of_length_eq_zero hx
    have hy0 : ys = [] := List.eq_nil_of_length_eq_zero hy
    subst hx0 hy0
    have cc : Calls Tryd.prog 16 #[.slice A 0 c, .slice B 0 d] w _ := Any.slices_Equal_string_empty YtdponlnfdjfljaaDoor.lays193 A B c 0 d w (by omega)
    refine cc.mono ?_
    rintro e w' ⟨rfl, rfl⟩
    exact ⟨ret_bool (by decide), 0, rfl⟩
  · obtain ⟨b1, o1, rfl, h1⟩ := hA (by rw [List.length_map]; omega)
    obtain ⟨b2, o2, rfl, h2⟩ := hB (by rw [List.length_map]; omega)
    have cc : Calls Tryd.prog 16 #[.slice (some ⟨b1, o1, none⟩) n c, .slice (some ⟨b2, o2, none⟩) n d] w _ :=
      Any.slices_Equal_string YtdponlnfdjfljaaDoor.lays193 b1 o1 n c b2 o2 n d (xs.map strB) (ys.map strB) w (by rw [List.length_map]; omega) (by rw [List.length_map]; omega) (by omega) (by omega) (cells_strs h1) (cells_strs h2)
    refine cc.mono ?_
    rintro e w' ⟨rfl, hq⟩
    refine ⟨ret_bool ?_, hq⟩
    rw [List.take_of_length_le (by rw [List.length_map]; omega), List.take_of_length_le (by rw [List.length_map]; omega)]
    apply decide_eq_decide.2
    constructor
    · intro h
      have := congrArg (List.map fun b : ByteArray => b.data.toList) h
      rw [List.map_map, List.map_map] at this
      have e : ∀ l : List (List UInt8), l.map ((fun b : ByteArray => b.data.toList) ∘ strB) = l := fun l => by
        conv => rhs; rw [← List.map_id l]
        apply List.map_congr_left
        intro x _; simp [strB]
      rwa [e, e] at this
    · intro h; rw [h]
set_option maxRecDepth 100000 in
set_option maxHeartbeats 1600000 in
theorem named_any (w : World) (hm : ML w) :
    Calls Tryd.prog 8 #[] w fun e w' => e = .returned (.bool true) ∧ Below w.heap.size w w' := by
  have Hm := Lib.hid hm
  clear hm
  go_enter Tryd.func8, Tryd.ntmps8
  go_wp2_with fail
  refine (parts_any [97, 47, 98, 46, 99] w (by decide) Hm.out).mono ?_
  intro e w1 hp
  have Hb1 := Lib.hid hp.2
  obtain ⟨A, n, rfl, _, h2⟩ := parts_tuple hp
  obtain ⟨rfl, g, rfl, hg, hblk⟩ := h2 named1.1
  rw [named1.2] at hblk ⊢
  rw [named1.1]
  have Hs := Lib.hid (blk_slat hblk)
  have Hblk := Lib.hid hblk
  clear hp h2 hblk
  go_wp2_with fail
  refine (joinN_any [97] [46, 46, 47, 97, 47, 46, 47, 98] w1 (by decide) (by decide) (by decide) (Hm.out.below Hb1.out)).mono ?_
  rintro e w2 ⟨rfl, hb2⟩
  have Hb2 := Lib.hid (stepN Hb1.out hb2)
  have Hblk2 := Lib.hid (Hblk.out.below hb2 Hblk.out.lt)
  clear hb2
  rw [named2]
  go_wp2_with fail
  refine (joinN_any [97] [120, 47, 46, 46, 47, 98] w2 (by decide) (by decide) (by decide) (Hm.out.below Hb2.out)).mono ?_
  rintro e w3 ⟨rfl, hb3⟩
  have Hb3 := Lib.hid (stepN Hb2.out hb3)
  have Hblk3 := Lib.hid (Hblk2.out.below hb3 Hblk2.out.lt)
  clear hb3
  rw [named3]
  have HA := Lib.hid (SlAt.alloc (blk_slat Hblk3.out) (.cells #[.string (strB [97]), .string (strB [98, 46, 99])] 9))
  have HB := Lib.hid (blk_slat (w := w3.alloc (.cells #[.string (strB [97]), .string (strB [98, 46, 99])] 9)) (cs := [[97], [98, 46, 99]].map sv) (Blk.new w3 9 #[.string (strB [97]), .string (strB [98, 46, 99])]))
  go_wp2_with fail
  refine (equal_strs _ _ 2 2 2 [[97], [98, 46, 99]] [[97], [98, 46, 99]] _ rfl rfl (by omega) HA.out HB.out).mono ?_
  rintro e w4 ⟨rfl, q, rfl⟩
  go_wp2_with fail
  go_ret
  exact ⟨rfl, below_drewN' (Hb3.out.alloc Hb3.out.size _) q⟩
end Go.Proofs.YtdponlnfdjfljaaDoor.Name
