/- package match: which token stands where, and that it is the nearest; the plain law. -/
import Derived.Test.YtoncjlbgheaabaaMatchPure
namespace Go.Proofs.Ytoncjlbgheaabaa.Match
set_option linter.unusedVariables false

theorem longD_first (b : List UInt8) (k d : Nat) (hd : d ≤ k) : (∀ e, 1 ≤ e → e ≤ d → sameN b (k - e) k ≤ (longD b k d).1) ∧ (∀ e, 1 ≤ e → e < (longD b k d).2 → sameN b (k - e) k < (longD b k d).1) := by
  induction d with
  | zero => exact ⟨fun e h1 h2 => by omega, fun e h1 h2 => by simp [longD] at h2⟩
  | succ d ih =>
    obtain ⟨h1, h2⟩ := ih (by omega)
    have hle := (longD_le b k d (by omega)).2.2.1
    by_cases h : (longD b k d).1 < sameN b (k - (d + 1)) k
    · have e1 : longD b k (d + 1) = (sameN b (k - (d + 1)) k, d + 1) := by
        show tryAt b k (longD b k d) (k - (d + 1)) = _
        unfold tryAt
        rw [if_pos h]
        have : k - (k - (d + 1)) = d + 1 := by omega
        rw [this]
      rw [e1]
      refine ⟨fun e g1 g2 => ?_, fun e g1 g2 => ?_⟩
      · rcases Nat.lt_or_ge d e with g | g
        · have : e = d + 1 := by omega
          subst this; exact Nat.le_refl _
        · have := h1 e g1 g; simp only; omega
      · simp only at g2 ⊢
        have := h1 e g1 (by omega); omega
    · have e1 : longD b k (d + 1) = longD b k d := by
        show tryAt b k (longD b k d) (k - (d + 1)) = _
        unfold tryAt
        rw [if_neg h]
      rw [e1]
      refine ⟨fun e g1 g2 => ?_, h2⟩
      rcases Nat.lt_or_ge d e with g | g
      · have : e = d + 1 := by omega
        subst this; omega
      · exact h1 e g1 g
theorem longest_first (b : List UInt8) (k e : Nat) (h1 : 1 ≤ e) (h2 : e < (longest b k).2) : sameN b (k - e) k < (longest b k).1 := by
  by_cases h : (longD b k k).1 < 3
  · have : longest b k = (0, 0) := by unfold longest cut3; rw [if_pos h]
    rw [this] at h2; simp at h2
  · have : longest b k = longD b k k := by unfold longest cut3; rw [if_neg h]
    rw [this] at h2 ⊢
    exact (longD_first b k k (Nat.le_refl _)).2 e h1 h2
/-- as many bytes from a place ahead as from here: then so many are the same -/
theorem same_of_take (b : List UInt8) (i k a : Nat) (hik : i ≤ k) (ha : a ≤ 258) (hk : k + a ≤ b.length) (h : (b.drop i).take a = (b.drop k).take a) : a ≤ sameN b i k := by
  have key : ∀ n, n ≤ a → n ≤ sameN b i k := by
    intro n
    induction n with
    | zero => intro _; exact Nat.zero_le _
    | succ n ih =>
      intro hn
      refine same_step b i k n hik (ih (by omega)) (by omega) (by omega) ?_
      have := congrArg (fun l => l[n]?) h
      simp only [List.getElem?_take, List.getElem?_drop] at this
      rw [if_pos (by omega), if_pos (by omega), List.getElem?_eq_getElem (by omega), List.getElem?_eq_getElem (by omega)] at this
      exact Option.some.inj this
  exact key a (Nat.le_refl _)
/-- the token at a place -/
def tokAt (b : List UInt8) (k : Nat) : Tok :=
  if (longest b k).1 = 0 ∨ (k + 1 < b.length ∧ (longest b k).1 < (longest b (k + 1)).1) then (b.getD k 0, 0, 0) else (0, ((longest b k).1 : Int), ((longest b k).2 : Int))
def stepAt (b : List UInt8) (k : Nat) : Nat :=
  if (longest b k).1 = 0 ∨ (k + 1 < b.length ∧ (longest b k).1 < (longest b (k + 1)).1) then 1 else (longest b k).1
theorem titer_step (b : List UInt8) (m : Nat) (h : (titer b m).1 < b.length) : titer b (m + 1) = ((titer b m).1 + stepAt b (titer b m).1, (titer b m).2 ++ [tokAt b (titer b m).1]) := by
  show tstep b (titer b m) = _
  unfold tstep stepAt tokAt
  rw [if_pos h]
  split
  · rfl
  · rfl
theorem titer_prefix (b : List UInt8) (m j : Nat) : ∃ l, (titer b (m + j)).2 = (titer b m).2 ++ l := by
  induction j with
  | zero => exact ⟨[], by simp⟩
  | succ j ih =>
    obtain ⟨l, hl⟩ := ih
    by_cases h : (titer b (m + j)).1 < b.length
    · rw [← Nat.add_assoc, titer_step b (m + j) h]
      exact ⟨l ++ [tokAt b (titer b (m + j)).1], by simp [hl]⟩
    · have : titer b (m + (j + 1)) = titer b (m + j) := by
        show tstep b (titer b (m + j)) = _
        exact tstep_done b _ (by omega)
      rw [this]; exact ⟨l, hl⟩
theorem titer_len (b : List UInt8) (m : Nat) : (titer b m).2.length ≤ m := by
  induction m with
  | zero => simp [titer]
  | succ m ih =>
    by_cases h : (titer b m).1 < b.length
    · rw [titer_step b m h]; simp; omega
    · have : titer b (m + 1) = titer b m := tstep_done b _ (by omega)
      rw [this]; omega
theorem near (b : List UInt8) (j : Nat) (hj : j ≤ (toks b).length) : (titer b j).2 = (toks b).take j ∧ (titer b j).2.length = j := by
  induction j with
  | zero => simp [titer]
  | succ j ih =>
    obtain ⟨h1, h2⟩ := ih (by omega)
    have hlt : (titer b j).1 < b.length := by
      rcases Nat.lt_or_ge (titer b j).1 b.length with h | h
      · exact h
      · have := titer_done b j h
        rw [← this] at hj; omega
    have h3 : (titer b (j + 1)).2.length = j + 1 := by rw [titer_step b j hlt]; simp [h2]
    refine ⟨?_, h3⟩
    have hle : j + 1 ≤ b.length := by
      have := toks_len b; omega
    obtain ⟨q, hq⟩ := Nat.exists_eq_add_of_le hle
    obtain ⟨l, hl⟩ := titer_prefix b (j + 1) q
    have e : toks b = (titer b (j + 1)).2 ++ l := by unfold toks; rw [hq]; exact hl
    rw [e, List.take_append_of_le_length (by omega), List.take_of_length_le (by omega)]
theorem near_lt (b : List UInt8) (j : Nat) (hj : j < (toks b).length) : (titer b j).1 < b.length ∧ (toks b)[j] = tokAt b (titer b j).1 := by
  obtain ⟨h1, h2⟩ := near b j (by omega)
  obtain ⟨h3, h4⟩ := near b (j + 1) (by omega)
  have hlt : (titer b j).1 < b.length := by
    rcases Nat.lt_or_ge (titer b j).1 b.length with h | h
    · exact h
    · have := titer_done b j h
      rw [← this] at hj; omega
  refine ⟨hlt, ?_⟩
  rw [titer_step b j hlt] at h3
  simp only at h3
  have := congrArg (fun l => l[j]?) h3
  simp only [List.getElem?_append_right (by omega : (titer b j).2.length ≤ j), h2, Nat.sub_self, List.getElem?_cons_zero] at this
  rw [List.getElem?_take, if_pos (by omega), List.getElem?_eq_getElem hj] at this
  exact (Option.some.inj this).symm
theorem near_end (b : List UInt8) : (titer b (toks b).length).1 = b.length := by
  obtain ⟨h1, h2⟩ := near b (toks b).length (Nat.le_refl _)
  have hle := (titer_le b (toks b).length).1
  rcases Nat.lt_or_ge (titer b (toks b).length).1 b.length with h | h
  · have h3 := titer_step b (toks b).length h
    have hl : (toks b).length + 1 ≤ b.length := by
      have h4 := (titer_le b (toks b).length).2.1
      omega
    obtain ⟨q, hq⟩ := Nat.exists_eq_add_of_le hl
    obtain ⟨l, hl2⟩ := titer_prefix b ((toks b).length + 1) q
    have e : toks b = (titer b ((toks b).length + 1)).2 ++ l := by
      conv => lhs; unfold toks
      rw [hq]; exact hl2
    have := congrArg List.length e
    rw [h3] at this
    simp [h2] at this
  · omega
end Go.Proofs.Ytoncjlbgheaabaa.Match
