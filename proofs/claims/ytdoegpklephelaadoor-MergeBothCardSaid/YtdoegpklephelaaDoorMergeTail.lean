/- files: what stands behind the first one. -/
import Derived.Test.YtdoegpklephelaaDoorFile
import Derived.Test.YtdoegpklephelaaDoorName2
namespace Go.Proofs.YtdoegpklephelaaDoor.Merge
open Go Go.RowKit Go.Proofs.YtdoegpklephelaaDoor Go.Proofs.YtdoegpklephelaaDoor.Name
set_option linter.unusedVariables false

theorem files_slice (A : Option Addr) (n c k : Nat) (hk : k ≤ n) (w : World) : (Instr.slice 22 (.slice A n c) (some (.int .i64 (k : Int))) none none).run Tryd.prog w = .ok (sliced A k n c 5) w := by
  have ht : Tryd.prog.underlying 22 = some (.slice (Tryd.prog.elem 22)) := by kernel_rfl
  have he : Tryd.prog.elem 22 = 33 := by kernel_rfl
  rw [run_slice_l _ _ _ _ _ ht .i64 (k : Int) (by omega) (by omega), he, Tryd.sizeOf33]
  simp [Result.andThen]
/-- where what stands behind the first lies -/
def adv (A : Option Addr) (c : Nat) : Option Addr := if c = 1 then A else A.map (·.add 5)
theorem files_tail {w : World} {A : Option Addr} {n c : Nat} {x : Fx} {l : List Fx} (h : IsFiles w (.slice A n c) (x :: l)) :
    (∀ w', (Instr.slice 22 (.slice A n c) (some (.int .i64 1)) none none).run Tryd.prog w' = .ok (.slice (adv A c) (n - 1) (c - 1)) w') ∧ IsFiles w (.slice (adv A c) (n - 1) (c - 1)) l ∧ n = l.length + 1 := by
  obtain ⟨A0, c0, e, h1, h2, h3, h4, h5⟩ := h
  injection e with e1 e2 e3
  subst e1 e2 e3
  refine ⟨fun w' => ?_, ?_, rfl⟩
  · have := files_slice A (x :: l).length c 1 (by simp) w'
    rw [show ((1 : Nat) : Int) = 1 from rfl] at this
    rw [this]
    rfl
  · refine ⟨adv A c, c - 1, by simp, by simp at h1; omega, by omega, ?_, ?_, fun y hy => h5 y (by simp [hy])⟩
    · by_cases hl : l = []
      · subst hl; exact SlAt.nil
      · have hlen := List.length_pos_iff.2 hl
        obtain ⟨b, o, e, _⟩ := h3 (by rw [fCs_len]; simp)
        subst e
        have hc : ¬ c = 1 := by simp at h1; omega
        unfold adv
        rw [if_neg hc]
        show SlAt w (some ((⟨b, o, none⟩ : Addr).add 5)) (l.flatMap fC)
        rw [addr_add]
        have := h3.drop 5
        rw [List.flatMap_cons, List.drop_append_of_le_length (by rw [fC_len]; exact Nat.le_refl _), List.drop_of_length_le (by rw [fC_len]; exact Nat.le_refl _)] at this
        exact this
    · intro e
      unfold adv at e
      split at e
      · cases h4 e
      · cases A with
        | none => cases h4 rfl
        | some a => cases e
end Go.Proofs.YtdoegpklephelaaDoor.Merge
