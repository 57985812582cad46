/- package name: the library's functions by their contracts; letter, the parts of a name. -/
import Derived.Test.YtdoegpklephelaaGreatDoorNamePure
import Derived.Test.YtdoegpklephelaaGreatDoorShelfSplit
import Derived.Test.YtdoegpklephelaaGreatDoorApp
namespace Go.Proofs.YtdoegpklephelaaGreatDoor.Name
open Go Go.RowKit Go.Shelf Go.Proofs.YtdoegpklephelaaGreatDoor
set_option linter.unusedVariables false

/-- a part, a text, as a value -/
def sv (p : List UInt8) : Value := .string (strB p)
/-- the library's variable holds some number -/
def ML (w : World) : Prop := ∃ m, w.cell? ⟨0, 0, none⟩ = some (.int .i64 m)
theorem ML.below {w w' : World} (h : ML w) (hb : Below w.heap.size w w') : ML w' := by
  obtain ⟨m, hm⟩ := h
  exact ⟨m, cell_below hb hm⟩
theorem n8_back8 (c : UInt8) : (n8 c).toNat.toUInt8 = c := by unfold n8; simp
theorem split_any (l : List UInt8) (w : World) (hl : l.length ≤ 4000000) (hm : ML w) :
    Calls Tryz.prog 49 #[.string (strB l), .string (strB [47])] w fun e w' => e = .returned (.slice (some ⟨w.heap.size, 0, none⟩) (parts l).length (parts l).length) ∧ Blk w' w.heap.size 9 ((parts l).map sv).toArray ∧ Below w.heap.size w w' := by
  obtain ⟨m, hm⟩ := hm
  have c : Calls Tryz.prog 49 #[.string (strB l), .string (strB [47])] w _ := Any.strings_Split YtdoegpklephelaaGreatDoor.lays146 (by kernel_rfl) (strB l) (strB [47]) m w (by rw [strB_size]; omega) hm (by decide)
  refine c.mono ?_
  rintro e w' ⟨rfl, rfl⟩
  rw [split_parts l.length l (Nat.le_refl _), count_parts l]
  refine ⟨rfl, ?_, (Below.refl _ _).alloc (Nat.le_refl _) _⟩
  have e2 : ((parts l).map strB).map Value.string = (parts l).map sv := by rw [List.map_map]; rfl
  rw [e2]
  exact Blk.new w _ _
theorem indexByte_any (a : List UInt8) (x : UInt8) (w : World) :
    Calls Tryz.prog 101 #[.string (strB a), .int .u8 (n8 x)] w fun e w' => e = .returned (.int .i64 (Lib.indexByte a x)) ∧ w' = w := by
  have c : Calls Tryz.prog 101 #[.string (strB a), .int .u8 (n8 x)] w _ := Any.strings_IndexByte YtdoegpklephelaaGreatDoor.lays137 (strB a) (n8 x) w
  refine c.mono ?_
  rintro e w' ⟨rfl, rfl⟩
  rw [strB_data, n8_back8]
  exact ⟨rfl, rfl⟩
set_option maxRecDepth 100000 in
set_option maxHeartbeats 1600000 in
theorem letter_any (c : UInt8) (w : World) :
    Calls Tryz.prog 78 #[.int .u8 (n8 c)] w fun e w' => e = .returned (.bool (letterB c)) ∧ w' = w := by
  have Hc := Lib.hid (indexByte_any [46, 95, 45] c w)
  have HL : Hid (letterB c = ((decide (97 ≤ n8 c) && decide (n8 c ≤ 122)) || ((decide (65 ≤ n8 c) && decide (n8 c ≤ 90)) || ((decide (48 ≤ n8 c) && decide (n8 c ≤ 57)) || decide (0 ≤ Lib.indexByte [46, 95, 45] c))))) := Lib.hid (by
    unfold letterB n8
    congr 1
    · congr 1 <;> (apply decide_eq_decide.2; omega)
    · congr 1
      · congr 1 <;> (apply decide_eq_decide.2; omega)
      · congr 1
        congr 1 <;> (apply decide_eq_decide.2; omega))
  have hbd := n8_bd c
  generalize Lib.indexByte [46, 95, 45] c = r at *
  generalize letterB c = b at *
  generalize n8 c = x at *
  rcases (by omega : x < 48 ∨ (48 ≤ x ∧ x ≤ 57) ∨ (57 < x ∧ x < 65) ∨ (65 ≤ x ∧ x ≤ 90) ∨ (90 < x ∧ x < 97) ∨ (97 ≤ x ∧ x ≤ 122) ∨ 122 < x) with h | h | h | h | h | h | h
  · have d1 : decide (97 ≤ x) = false := by simp; omega
    have d2 : decide (x ≤ 122) = true := by simp; omega
    have d3 : decide (65 ≤ x) = false := by simp; omega
    have d4 : decide (x ≤ 90) = true := by simp; omega
    have d5 : decide (48 ≤ x) = false := by simp; omega
    have d6 : decide (x ≤ 57) = true := by simp; omega
    have Hb : Hid (b = decide (0 ≤ r)) := Lib.hid (by rw [HL.out, d1, d2, d3, d4, d5, d6]; simp)
    clear HL h
    go_enter Tryz.func78, Tryz.ntmps78
    go_wp2_with fail
    refine (Hc.out).mono ?_
    rintro e wx ⟨rfl, hw⟩
    have hw := hw.symm
    subst hw
    go_wp2_with fail
    go_ret
    exact ⟨by rw [Hb.out]; rfl, rfl⟩
  · have d1 : decide (97 ≤ x) = false := by simp; omega
    have d2 : decide (x ≤ 122) = true := by simp; omega
    have d3 : decide (65 ≤ x) = false := by simp; omega
    have d4 : decide (x ≤ 90) = true := by simp; omega
    have d5 : decide (48 ≤ x) = true := by simp; omega
    have d6 : decide (x ≤ 57) = true := by simp; omega
    have Hb : Hid (b = true) := Lib.hid (by rw [HL.out, d1, d2, d3, d4, d5, d6]; simp)
    clear HL h
    go_enter Tryz.func78, Tryz.ntmps78
    go_wp2_with fail
    go_ret
    exact ⟨by rw [Hb.out]; rfl, rfl⟩
  · have d1 : decide (97 ≤ x) = false := by simp; omega
    have d2 : decide (x ≤ 122) = true := by simp; omega
    have d3 : decide (65 ≤ x) = false := by simp; omega
    have d4 : decide (x ≤ 90) = true := by simp; omega
    have d5 : decide (48 ≤ x) = true := by simp; omega
    have d6 : decide (x ≤ 57) = false := by simp; omega
    have Hb : Hid (b = decide (0 ≤ r)) := Lib.hid (by rw [HL.out, d1, d2, d3, d4, d5, d6]; simp)
    clear HL h
    go_enter Tryz.func78, Tryz.ntmps78
    go_wp2_with fail
    refine (Hc.out).mono ?_
    rintro e wx ⟨rfl, hw⟩
    have hw := hw.symm
    subst hw
    go_wp2_with fail
    go_ret
    exact ⟨by rw [Hb.out]; rfl, rfl⟩
  · have d1 : decide (97 ≤ x) = false := by simp; omega
    have d2 : decide (x ≤ 122) = true := by simp; omega
    have d3 : decide (65 ≤ x) = true := by simp; omega
    have d4 : decide (x ≤ 90) = true := by simp; omega
    have d5 : decide (48 ≤ x) = true := by simp; omega
    have d6 : decide (x ≤ 57) = false := by simp; omega
    have Hb : Hid (b = true) := Lib.hid (by rw [HL.out, d1, d2, d3, d4, d5, d6]; simp)
    clear HL h
    go_enter Tryz.func78, Tryz.ntmps78
    go_wp2_with fail
    go_ret
    exact ⟨by rw [Hb.out]; rfl, rfl⟩
  · have d1 : decide (97 ≤ x) = false := by simp; omega
    have d2 : decide (x ≤ 122) = true := by simp; omega
    have d3 : decide (65 ≤ x) = true := by simp; omega
    have d4 : decide (x ≤ 90) = false := by simp; omega
    have d5 : decide (48 ≤ x) = true := by simp; omega
    have d6 : decide (x ≤ 57) = false := by simp; omega
    have Hb : Hid (b = decide (0 ≤ r)) := Lib.hid (by rw [HL.out, d1, d2, d3, d4, d5, d6]; simp)
    clear HL h
    go_enter Tryz.func78, Tryz.ntmps78
    go_wp2_with fail
    refine (Hc.out).mono ?_
    rintro e wx ⟨rfl, hw⟩
    have hw := hw.symm
    subst hw
    go_wp2_with fail
    go_ret
    exact ⟨by rw [Hb.out]; rfl, rfl⟩
  · have d1 : decide (97 ≤ x) = true := by simp; omega
    have d2 : decide (x ≤ 122) = true := by simp; omega
    have d3 : decide (65 ≤ x) = true := by simp; omega
    have d4 : decide (x ≤ 90) = false := by simp; omega
    have d5 : decide (48 ≤ x) = true := by simp; omega
    have d6 : decide (x ≤ 57) = false := by simp; omega
    have Hb : Hid (b = true) := Lib.hid (by rw [HL.out, d1, d2, d3, d4, d5, d6]; simp)
    clear HL h
    go_enter Tryz.func78, Tryz.ntmps78
    go_wp2_with fail
    go_ret
    exact ⟨by rw [Hb.out]; rfl, rfl⟩
  · have d1 : decide (97 ≤ x) = true := by simp; omega
    have d2 : decide (x ≤ 122) = false := by simp; omega
    have d3 : decide (65 ≤ x) = true := by simp; omega
    have d4 : decide (x ≤ 90) = false := by simp; omega
    have d5 : decide (48 ≤ x) = true := by simp; omega
    have d6 : decide (x ≤ 57) = false := by simp; omega
    have Hb : Hid (b = decide (0 ≤ r)) := Lib.hid (by rw [HL.out, d1, d2, d3, d4, d5, d6]; simp)
    clear HL h
    go_enter Tryz.func78, Tryz.ntmps78
    go_wp2_with fail
    refine (Hc.out).mono ?_
    rintro e wx ⟨rfl, hw⟩
    have hw := hw.symm
    subst hw
    go_wp2_with fail
    go_ret
    exact ⟨by rw [Hb.out]; rfl, rfl⟩
end Go.Proofs.YtdoegpklephelaaGreatDoor.Name
