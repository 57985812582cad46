/- package name: Under. -/
import Derived.Test.YtdponlnfdjfljaaDoorName2
import Derived.Test.YtdponlnfdjfljaaDoorShelfName
namespace Go.Proofs.YtdponlnfdjfljaaDoor.Name
open Go Go.RowKit Go.Shelf Go.Proofs.YtdponlnfdjfljaaDoor
set_option linter.unusedVariables false

theorem prefix_any (a b : List UInt8) (w : World) :
    Calls Tryd.prog 17 #[.string (strB a), .string (strB b)] w fun e w' => e = .returned (.bool (Lib.hasPrefix a b)) ∧ w' = w := by
  have c : Calls Tryd.prog 17 #[.string (strB a), .string (strB b)] w _ := Any.strings_HasPrefix YtdponlnfdjfljaaDoor.lays99 (strB a) (strB b) w
  refine c.mono ?_
  rintro e w' ⟨rfl, rfl⟩
  rw [strB_data, strB_data]
  exact ⟨rfl, rfl⟩
set_option maxRecDepth 100000 in
set_option maxHeartbeats 1600000 in
theorem under_any (s f : List UInt8) (w : World) (hs : s.length ≤ maxLen) (hf : f.length ≤ maxLen) (hm : ML w) :
    Calls Tryd.prog 10 #[.string (strB s), .string (strB f)] w fun e w' => e = .returned (.tuple #[.bool (underR s f).1, .int .i64 (underR s f).2]) ∧ Below w.heap.size w w' := by
  have HP1 : Hid (∀ w', Below w.heap.size w w' → Calls _ _ _ w' _) := Lib.hid (fun w' hb => checkN_any s w' hs (hm.below hb))
  have HP2 : Hid (∀ w', Below w.heap.size w w' → Calls _ _ _ w' _) := Lib.hid (fun w' hb => checkN_any f w' hf (hm.below hb))
  have Hpre := Lib.hid (fun w' => prefix_any s (f ++ [47]) w')
  have i0 : ∀ w, (Instr.index 38 (.agg #[.string (strB s), .string (strB f)]) (.int .i64 0)).run Tryd.prog w = .ok (.string (strB s)) w := fun _ => by kernel_rfl
  have i1 : ∀ w, (Instr.index 38 (.agg #[.string (strB s), .string (strB f)]) (.int .i64 1)).run Tryd.prog w = .ok (.string (strB f)) w := fun _ => by kernel_rfl
  have hz := strB_size f
  have hcat : strB f ++ { data := #[47] } = strB (f ++ [47]) := strB_app f [47]
  unfold maxLen at hs hf
  clear hm
  go_enter Tryd.func10, Tryd.ntmps10
  go_wp2_with fail
  go_loopw [12] (fun i wx => ∃ k : Nat, k ≤ 2 ∧ i = .int .i64 (k : Int) ∧ Below w.heap.size w wx ∧ (1 ≤ k → nameE s = 0) ∧ (2 ≤ k → nameE f = 0)) (fun i _ => 2 - (intOf i).toNat)
  case atStart => exact ⟨0, Nat.zero_le _, rfl, Below.refl _ _, by simp, by simp⟩
  case round =>
    obtain ⟨k, hk, rfl, hb, h1, h2⟩ := hrel
    have Hb := Lib.hid hb
    have H1 := Lib.hid h1
    have H2 := Lib.hid h2
    clear hb h1 h2
    rcases (by omega : k = 0 ∨ k = 1 ∨ k = 2) with rfl | rfl | rfl
    · go_wp2_with fail
      refine (HP1.out _ Hb.out).mono ?_
      rintro e wx ⟨rfl, hbx⟩
      have Hbx := Lib.hid (stepN Hb.out hbx)
      clear hbx
      by_cases he : nameE s = 0
      · rw [he]
        go_wp2_with fail
        go_roundw
        case rel => exact ⟨1, by omega, by go_num, Hbx.out, fun _ => he, by simp⟩
        case measure => simp [intOf]
      · have HU : Hid (underR s f = (false, nameE s)) := Lib.hid (by unfold underR; rw [if_pos he])
        generalize nameE s = z at *
        have hz1 : (z != 0) = true := by simpa using he
        go_wp2_with fail
        go_ret2
        exact ⟨by rw [HU.out]; rfl, Hbx.out⟩
    · have hs0 := H1.out (Nat.le_refl _)
      go_wp2_with fail
      refine (HP2.out _ Hb.out).mono ?_
      rintro e wx ⟨rfl, hbx⟩
      have Hbx := Lib.hid (stepN Hb.out hbx)
      clear hbx
      by_cases he : nameE f = 0
      · rw [he]
        go_wp2_with fail
        go_roundw
        case rel => exact ⟨2, by omega, by go_num, Hbx.out, fun _ => hs0, fun _ => he⟩
        case measure => simp [intOf]
      · have HU : Hid (underR s f = (false, nameE f)) := Lib.hid (by unfold underR; rw [if_neg (by rw [hs0]; simp), if_pos he])
        generalize nameE f = z at *
        have hz1 : (z != 0) = true := by simpa using he
        go_wp2_with fail
        go_ret2
        exact ⟨by rw [HU.out]; rfl, Hbx.out⟩
    · have HU := Lib.hid (under_ok (H1.out (by omega)) (H2.out (by omega)))
      have h40 := (nameE_fine (H2.out (by omega))).1
      go_wp2_with fail
      refine (Hpre.out _).mono ?_
      rintro e wx ⟨rfl, hw⟩
      have hw := hw.symm
      subst hw
      go_wp2_with fail
      go_ret2
      exact ⟨by rw [HU.out]; rfl, Hb.out⟩
end Go.Proofs.YtdponlnfdjfljaaDoor.Name
