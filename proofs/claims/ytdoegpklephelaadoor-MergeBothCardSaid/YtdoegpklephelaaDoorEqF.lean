/- two rows held against each other: what slices.EqualFunc says. No program in sight. -/
import Derived.Test.YtdoegpklephelaaDoorApp
namespace Go.Proofs.YtdoegpklephelaaDoor.Merge
open Go Go.RowKit Go.Proofs.YtdoegpklephelaaDoor

def eqF {α β : Type} (p : α → β → Bool) (a : List α) (b : List β) : Bool := decide (a.length = b.length) && (a.zip b).all fun x => p x.1 x.2
theorem eqF_ne {α β : Type} {p : α → β → Bool} {a : List α} {b : List β} (h : a.length ≠ b.length) : eqF p a b = false := by
  unfold eqF; rw [decide_eq_false h]; rfl
theorem eqF_here {α β : Type} {p : α → β → Bool} {a : List α} {b : List β} {k : Nat} (hk : k < a.length) (hk2 : k < b.length) (h : p a[k] b[k] = false) : eqF p a b = false := by
  unfold eqF
  have : (a.zip b).all (fun x => p x.1 x.2) = false := by
    rw [List.all_eq_false]
    refine ⟨(a[k], b[k]), ?_, by simp [h]⟩
    rw [List.mem_iff_getElem]
    exact ⟨k, by rw [List.length_zip]; omega, by simp⟩
  rw [this, Bool.and_false]
theorem eqF_step {α β : Type} {p : α → β → Bool} {a : List α} {b : List β} {k : Nat} (hk : k < a.length) (hk2 : k < b.length) (h0 : ∀ x ∈ (a.zip b).take k, p x.1 x.2 = true) (h : p a[k] b[k] = true) : ∀ x ∈ (a.zip b).take (k + 1), p x.1 x.2 = true := by
  have hl : k < (a.zip b).length := by rw [List.length_zip]; omega
  rw [take_snoc _ _ hl]
  intro x hx
  rcases List.mem_append.1 hx with hx | hx
  · exact h0 x hx
  · simp at hx; subst hx; exact h
theorem eqF_end {α β : Type} {p : α → β → Bool} {a : List α} {b : List β} {k : Nat} (hl : a.length = b.length) (hk : k = a.length) (h0 : ∀ x ∈ (a.zip b).take k, p x.1 x.2 = true) : eqF p a b = true := by
  unfold eqF
  rw [List.take_of_length_le (by rw [List.length_zip]; omega)] at h0
  rw [decide_eq_true hl, Bool.true_and, List.all_eq_true]
  exact h0
theorem eqF_map {α β : Type} {p : α → α → Bool} {f : α → β} (hp : ∀ x y, p x y = true ↔ f x = f y) : ∀ a b : List α, eqF p a b = true ↔ a.map f = b.map f
  | [], [] => by simp [eqF]
  | [], y :: b => by simp [eqF]
  | x :: a, [] => by simp [eqF]
  | x :: a, y :: b => by
    have ih := eqF_map hp a b
    have : eqF p (x :: a) (y :: b) = true ↔ p x y = true ∧ eqF p a b = true := by simp [eqF]; constructor <;> (rintro ⟨h1, h2, h3⟩; exact ⟨h2, h1, h3⟩)
    rw [this, ih, hp, List.map_cons, List.map_cons, List.cons.injEq]
end Go.Proofs.YtdoegpklephelaaDoor.Merge
