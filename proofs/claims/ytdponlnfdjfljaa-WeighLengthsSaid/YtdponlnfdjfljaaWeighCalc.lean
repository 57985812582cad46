/- the stable sort as it can be reckoned; closed facts of package weigh. No program in sight. -/
import Derived.Test.YtdponlnfdjfljaaWeighBest
namespace Go.Proofs.Ytdponlnfdjfljaa.SP
set_option linter.unusedVariables false
section
variable {α : Type} (key : α → Nat)
def ins (x : α) : List α → List α
  | [] => [x]
  | y :: l => if key y ≤ key x then y :: ins x l else x :: y :: l
def isort (l : List α) : List α := l.foldl (fun acc x => ins key x acc) []
def insT (x : α × Nat) : List (α × Nat) → List (α × Nat)
  | [] => [x]
  | y :: l => if key y.1 ≤ key x.1 then y :: insT x l else x :: y :: l
theorem insT_fst (x : α × Nat) (l : List (α × Nat)) : (insT key x l).map (·.1) = ins key x.1 (l.map (·.1)) := by
  induction l with
  | nil => rfl
  | cons y l ih =>
    unfold insT ins
    by_cases h : key y.1 ≤ key x.1
    · simp only [List.map_cons, h, if_true]; rw [ih]
    · simp only [List.map_cons, h, if_false]
theorem insT_perm (x : α × Nat) (l : List (α × Nat)) : (insT key x l).Perm (x :: l) := by
  induction l with
  | nil => exact List.Perm.refl _
  | cons y l ih =>
    unfold insT
    by_cases h : key y.1 ≤ key x.1
    · rw [if_pos h]; exact (ih.cons y).trans (List.Perm.swap x y l)
    · rw [if_neg h]
theorem insT_sorted (x : α × Nat) (l : List (α × Nat)) (h : l.Pairwise (lexP key)) (ht : ∀ y ∈ l, y.2 < x.2) : (insT key x l).Pairwise (lexP key) := by
  induction l with
  | nil => exact List.pairwise_singleton _ _
  | cons y l ih =>
    have h1 := List.pairwise_cons.1 h
    unfold insT
    by_cases hk : key y.1 ≤ key x.1
    · rw [if_pos hk, List.pairwise_cons]
      refine ⟨fun z hz => ?_, ih h1.2 (fun z hz => ht z (by simp [hz]))⟩
      rcases List.mem_cons.1 ((insT_perm key x l).mem_iff.1 hz) with rfl | hz
      · have := ht y (by simp)
        unfold lexP; omega
      · exact h1.1 z hz
    · rw [if_neg hk, List.pairwise_cons]
      refine ⟨fun z hz => ?_, h⟩
      rcases List.mem_cons.1 hz with rfl | hz
      · left; omega
      · have := h1.1 z hz
        unfold lexP at this
        left; omega
theorem stab_snoc (l : List α) (x : α) : stab key (l ++ [x]) = ins key x (stab key l) := by
  have hz : (l ++ [x]).zipIdx = l.zipIdx ++ [(x, l.length)] := by
    rw [List.zipIdx_append]; simp
  have h1 : (insT key (x, l.length) (stabT key l)).Perm (l ++ [x]).zipIdx := by
    rw [hz]
    refine (insT_perm key _ _).trans ?_
    refine ((stabT_perm key l).cons _).trans ?_
    exact (List.perm_append_singleton _ _).symm
  have h2 := insT_sorted key (x, l.length) (stabT key l) (stabT_sorted key l) (fun y hy => by
    have := (stabT_perm key l).mem_iff.1 hy
    have := List.snd_lt_of_mem_zipIdx this
    simpa using this)
  rw [← stab_unique key _ _ h1 h2, insT_fst]
  rfl
theorem stab_isort (l : List α) : stab key l = isort key l := by
  have : ∀ n, ∀ l : List α, l.length = n → stab key l = isort key l := by
    intro n
    induction n with
    | zero =>
      intro l hl
      rw [List.eq_nil_of_length_eq_zero hl]
      exact List.eq_nil_of_length_eq_zero (by rw [stab_length]; rfl)
    | succ n ih =>
      intro l hl
      have hne : l ≠ [] := fun e => by rw [e] at hl; simp at hl
      rw [← List.dropLast_concat_getLast hne, stab_snoc, ih _ (by simp [hl])]
      unfold isort
      rw [List.foldl_append]; rfl
  exact this _ l rfl
end
def rowsI (one : List Pk) : Nat → List Pk
  | 0 => one
  | t + 1 => isort pkey (one ++ pairs (rowsI one t))
theorem rows_I (one : List Pk) (t : Nat) : rowsP one t = rowsI one t := by
  induction t with
  | zero => rfl
  | succ t ih => show stab pkey _ = isort pkey _; rw [stab_isort, ih]
def lengthsI (ls : List Nat) (most : Nat) : List Nat :=
  if (ones ls).length = 0 then List.replicate ls.length 0
  else if (ones ls).length = 1 then ((ones ls).getD 0 (0, [])).2
  else addAll ls.length ((rowsI (isort pkey (ones ls)) (most - 1)).take (2 * (ones ls).length - 2))
theorem lengths_I (ls : List Nat) (L : Nat) : lengthsP ls L = lengthsI ls L := by
  unfold lengthsP lengthsI
  rw [rows_I, stab_isort]
theorem fact_two : lengthsP [1, 1, 2, 4] 2 = [2, 2, 2, 2] := by rw [lengths_I]; decide +kernel
theorem fact_more : lengthsP [1, 1, 2, 4] 15 = [3, 3, 2, 1] := by rw [lengths_I]; decide +kernel
end Go.Proofs.Ytdponlnfdjfljaa.SP
