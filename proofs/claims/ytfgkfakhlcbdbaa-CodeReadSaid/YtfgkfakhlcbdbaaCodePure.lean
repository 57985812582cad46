/- package code: codes that are told by how long they are; the plain law. No program in sight. -/
import Derived.Test.YtfgkfakhlcbdbaaBitsPure
namespace Go.Proofs.Ytfgkfakhlcbdbaa.Code
open Go.Proofs.Ytfgkfakhlcbdbaa.Bits
set_option linter.unusedVariables false


/-- the places of one length, in order -/
def ordN (ls : List Nat) (n : Nat) : List Nat := (List.range ls.length).filter fun i => ls.getD i 0 == n
def cnt (ls : List Nat) (n : Nat) : Nat := if n = 0 then 0 else (ordN ls n).length
/-- the first code of a length -/
def first (ls : List Nat) : Nat → Nat
  | 0 => 0
  | n + 1 => 2 * (first ls n + cnt ls n)
def rank (ls : List Nat) (i : Nat) : Nat := (ordN (ls.take i) (ls.getD i 0)).length
def codeOf (ls : List Nat) (i : Nat) : Nat := if ls.getD i 0 = 0 then 0 else first ls (ls.getD i 0) + rank ls i
def room (ls : List Nat) : Nat := (ls.map fun n => if n = 0 then 0 else 2 ^ (15 - n)).sum

theorem ordN_snoc (ls : List Nat) (x n : Nat) : ordN (ls ++ [x]) n = ordN ls n ++ if x = n then [ls.length] else [] := by
  unfold ordN
  rw [List.length_append, List.length_singleton, List.range_succ, List.filter_append]
  congr 1
  · apply List.filter_congr
    intro i hi
    simp at hi
    simp only [List.getD_eq_getElem?_getD]
    rw [List.getElem?_append_left hi]
  · simp only [List.filter_cons, List.filter_nil, List.getD_eq_getElem?_getD]
    rw [List.getElem?_append_right (Nat.le_refl _)]
    simp
theorem ordN_mem (ls : List Nat) (n i : Nat) : i ∈ ordN ls n ↔ i < ls.length ∧ ls.getD i 0 = n := by
  unfold ordN; simp
theorem ordN_take (ls : List Nat) (i n : Nat) (h : i < ls.length) : ordN (ls.take (i + 1)) n = ordN (ls.take i) n ++ if ls.getD i 0 = n then [i] else [] := by
  rw [List.take_succ_eq_append_getElem h, ordN_snoc]
  have : (ls.take i).length = i := by simp; omega
  rw [this]
  simp [List.getD_eq_getElem?_getD, List.getElem?_eq_getElem h]
theorem ordN_prefix (ls : List Nat) (i n : Nat) (h : i ≤ ls.length) : ∃ t, ordN ls n = ordN (ls.take i) n ++ t := by
  have key : ∀ d, i + d ≤ ls.length → ∃ t, ordN (ls.take (i + d)) n = ordN (ls.take i) n ++ t := by
    intro d
    induction d with
    | zero => intro _; exact ⟨[], by simp⟩
    | succ d ih =>
      intro hd
      obtain ⟨t, ht⟩ := ih (by omega)
      rw [← Nat.add_assoc, ordN_take ls (i + d) n (by omega), ht]
      exact ⟨t ++ _, by rw [List.append_assoc]⟩
  obtain ⟨t, ht⟩ := key (ls.length - i) (by omega)
  rw [show i + (ls.length - i) = ls.length by omega, List.take_length] at ht
  exact ⟨t, ht⟩
/-- a place stands among those of its length at its rank -/
theorem ordN_rank (ls : List Nat) (i : Nat) (h : i < ls.length) : (ordN ls (ls.getD i 0))[rank ls i]? = some i := by
  obtain ⟨t, ht⟩ := ordN_prefix ls (i + 1) (ls.getD i 0) (by omega)
  rw [ht, ordN_take ls i _ h, if_pos rfl]
  unfold rank
  rw [List.append_assoc, List.getElem?_append_right (Nat.le_refl _)]
  simp
theorem rank_lt (ls : List Nat) (i : Nat) (h : i < ls.length) : rank ls i < (ordN ls (ls.getD i 0)).length := by
  have := ordN_rank ls i h
  exact (List.getElem?_eq_some_iff.1 this).1
theorem rank_inj (ls : List Nat) (i k : Nat) (hi : i < ls.length) (hk : k < ls.length) (hl : ls.getD i 0 = ls.getD k 0) (h : rank ls i = rank ls k) : i = k := by
  have h1 := ordN_rank ls i hi
  have h2 := ordN_rank ls k hk
  rw [h, hl, h2] at h1
  injection h1 with h1; exact h1.symm
theorem codeOf_bd (ls : List Nat) (i : Nat) (h : i < ls.length) (h0 : ls.getD i 0 ≠ 0) : first ls (ls.getD i 0) ≤ codeOf ls i ∧ codeOf ls i < first ls (ls.getD i 0) + cnt ls (ls.getD i 0) := by
  have := rank_lt ls i h
  unfold codeOf cnt
  rw [if_neg h0, if_neg h0]; omega
/-- what is behind a length lies beyond all codes of it -/
theorem first_far (ls : List Nat) (m d : Nat) : 2 ^ (d + 1) * (first ls m + cnt ls m) ≤ first ls (m + d + 1) := by
  induction d with
  | zero => simp [first]
  | succ d ih =>
    have e : first ls (m + (d + 1) + 1) = 2 * (first ls (m + d + 1) + cnt ls (m + d + 1)) := rfl
    rw [e]
    have : 2 ^ (d + 1 + 1) * (first ls m + cnt ls m) = 2 * (2 ^ (d + 1) * (first ls m + cnt ls m)) := by rw [Nat.pow_succ 2 (d + 1), Nat.mul_comm (2 ^ (d + 1)) 2, Nat.mul_assoc]
    omega
theorem code_far (ls : List Nat) (k m : Nat) (hk : k < ls.length) (hm : m < ls.getD k 0) : first ls m + cnt ls m ≤ codeOf ls k / 2 ^ (ls.getD k 0 - m) := by
  obtain ⟨h1, h2⟩ := codeOf_bd ls k hk (by omega)
  have h3 := first_far ls m (ls.getD k 0 - m - 1)
  rw [show m + (ls.getD k 0 - m - 1) + 1 = ls.getD k 0 by omega, show ls.getD k 0 - m - 1 + 1 = ls.getD k 0 - m by omega] at h3
  rw [Nat.le_div_iff_mul_le (Nat.pow_pos (by omega)), Nat.mul_comm]
  omega
/-- no code begins another one -/
theorem prefix_free (ls : List Nat) (i k : Nat) (hi : i < ls.length) (hk : k < ls.length) (hik : i ≠ k) (h0 : ls.getD i 0 ≠ 0) (hn : ls.getD i 0 ≤ ls.getD k 0) : codeOf ls k / 2 ^ (ls.getD k 0 - ls.getD i 0) ≠ codeOf ls i := by
  obtain ⟨h1, h2⟩ := codeOf_bd ls i hi h0
  rcases Nat.lt_or_ge (ls.getD i 0) (ls.getD k 0) with h | h
  · have := code_far ls k (ls.getD i 0) hk h
    omega
  · have e : ls.getD i 0 = ls.getD k 0 := by omega
    rw [show ls.getD k 0 - ls.getD i 0 = 0 by omega]
    simp only [Nat.pow_zero, Nat.div_one]
    intro hc
    unfold codeOf at hc
    rw [if_neg (by omega), if_neg h0, ← e] at hc
    exact hik (rank_inj ls i k hi hk e (by omega))

/-! room -/
def wsum (ls : List Nat) (n : Nat) : Nat := ((List.range n).map fun k => cnt ls (k + 1) * 2 ^ (15 - (k + 1))).sum
theorem acc_eq (ls : List Nat) (n : Nat) (hn : n ≤ 15) : (first ls n + cnt ls n) * 2 ^ (15 - n) = wsum ls n := by
  induction n with
  | zero => simp [first, cnt, wsum]
  | succ n ih =>
    have ih := ih (by omega)
    unfold wsum at ih ⊢
    rw [List.range_succ, List.map_append, List.sum_append, ← ih]
    simp only [List.map_cons, List.map_nil, List.sum_cons, List.sum_nil, Nat.add_zero]
    have e : first ls (n + 1) = 2 * (first ls n + cnt ls n) := rfl
    rw [e, Nat.add_mul]
    congr 1
    have : 2 ^ (15 - n) = 2 * 2 ^ (15 - (n + 1)) := by rw [show 15 - n = (15 - (n + 1)) + 1 by omega, Nat.pow_succ, Nat.mul_comm]
    rw [this, Nat.mul_comm 2 (first ls n + cnt ls n), Nat.mul_assoc]
theorem wsum_snoc (ls : List Nat) (x n : Nat) : wsum (ls ++ [x]) n = wsum ls n + if 1 ≤ x ∧ x ≤ n then 2 ^ (15 - x) else 0 := by
  have hc : ∀ k, cnt (ls ++ [x]) (k + 1) = cnt ls (k + 1) + if x = k + 1 then 1 else 0 := by
    intro k
    unfold cnt
    rw [if_neg (by omega), if_neg (by omega), ordN_snoc]
    split <;> simp
  induction n with
  | zero => simp [wsum]; omega
  | succ n ih =>
    unfold wsum at ih ⊢
    rw [List.range_succ, List.map_append, List.sum_append, List.map_append, List.sum_append, ih]
    simp only [List.map_cons, List.map_nil, List.sum_cons, List.sum_nil, Nat.add_zero]
    rw [hc n]
    by_cases h1 : x = n + 1
    · subst h1
      rw [if_neg (by omega), if_pos rfl, if_pos ⟨by omega, by omega⟩, Nat.add_mul]; omega
    · rw [if_neg h1]
      by_cases h2 : 1 ≤ x ∧ x ≤ n
      · rw [if_pos h2, if_pos ⟨by omega, by omega⟩]; simp only [Nat.add_zero]; omega
      · rw [if_neg h2, if_neg (by omega)]; simp only [Nat.add_zero]
theorem wsum_nil (n : Nat) : wsum [] n = 0 := by
  induction n with
  | zero => rfl
  | succ n ih =>
    unfold wsum at ih ⊢
    rw [List.range_succ, List.map_append, List.sum_append, ih]
    simp [cnt, ordN]
theorem snoc_ind {P : List Nat → Prop} (h0 : P []) (hs : ∀ l x, P l → P (l ++ [x])) : ∀ l, P l := by
  intro l
  have : ∀ n, ∀ l : List Nat, l.length = n → P l := by
    intro n
    induction n with
    | zero => intro l hl; rw [List.eq_nil_of_length_eq_zero hl]; exact h0
    | succ n ih =>
      intro l hl
      have hne : l ≠ [] := fun h => by rw [h] at hl; simp at hl
      rw [← List.dropLast_concat_getLast hne]
      exact hs _ _ (ih _ (by simp [hl]))
  exact this _ l rfl
theorem room_wsum (ls : List Nat) : (∀ x ∈ ls, x ≤ 15) → room ls = wsum ls 15 := by
  refine snoc_ind (P := fun ls => (∀ x ∈ ls, x ≤ 15) → room ls = wsum ls 15) (fun _ => by rw [wsum_nil]; rfl) ?_ ls
  intro l x ih h
  have h1 := ih (fun y hy => h y (by simp [hy]))
  have h2 := h x (by simp)
  rw [wsum_snoc, ← h1]
  unfold room
  rw [List.map_append, List.sum_append]
  simp only [List.map_cons, List.map_nil, List.sum_cons, List.sum_nil, Nat.add_zero]
  by_cases h3 : x = 0
  · rw [if_pos h3, if_neg (by omega)]
  · rw [if_neg h3, if_pos ⟨by omega, h2⟩]
theorem wsum_mono (ls : List Nat) (n d : Nat) : wsum ls n ≤ wsum ls (n + d) := by
  induction d with
  | zero => exact Nat.le_refl _
  | succ d ih =>
    refine Nat.le_trans ih ?_
    unfold wsum
    rw [← Nat.add_assoc, List.range_succ, List.map_append, List.sum_append]
    exact Nat.le_add_right _ _
theorem acc_le (ls : List Nat) (n : Nat) (hn : n ≤ 15) (hl : ∀ x ∈ ls, x ≤ 15) (hr : room ls ≤ 32768) : first ls n + cnt ls n ≤ 2 ^ n := by
  have h1 := acc_eq ls n hn
  have h2 := wsum_mono ls n (15 - n)
  rw [show n + (15 - n) = 15 by omega, ← room_wsum ls hl, ← h1] at h2
  have h3 : (2 : Nat) ^ 15 = 2 ^ n * 2 ^ (15 - n) := by rw [← Nat.pow_add]; congr 1; omega
  have h4 : (first ls n + cnt ls n) * 2 ^ (15 - n) ≤ 2 ^ n * 2 ^ (15 - n) := by rw [← h3]; omega
  exact Nat.le_of_mul_le_mul_right h4 (Nat.pow_pos (by omega))
theorem acc_full (ls : List Nat) (hl : ∀ x ∈ ls, x ≤ 15) (hr : room ls = 32768) : first ls 15 + cnt ls 15 = 32768 := by
  have h1 := acc_eq ls 15 (by omega)
  rw [← room_wsum ls hl, hr] at h1
  simpa using h1
theorem codeOf_lt (ls : List Nat) (i : Nat) (h : i < ls.length) (h0 : ls.getD i 0 ≠ 0) (hl : ∀ x ∈ ls, x ≤ 15) (hr : room ls ≤ 32768) : codeOf ls i < 2 ^ ls.getD i 0 := by
  obtain ⟨h1, h2⟩ := codeOf_bd ls i h h0
  have h3 : ls.getD i 0 ≤ 15 := by
    rw [List.getD_eq_getElem?_getD, List.getElem?_eq_getElem h]
    exact hl _ (List.getElem_mem h)
  have := acc_le ls _ h3 hl hr
  omega


/-- the number of a row whose highest bit stands first -/
def val (l : List Bool) : Nat := num l.reverse
/-- so many bits of a number, the highest first -/
def hi (n c : Nat) : List Bool := (numBits c n).reverse
theorem hi_length (n c : Nat) : (hi n c).length = n := by simp [hi, numBits_length]
theorem val_hi (n c : Nat) (h : c < 2 ^ n) : val (hi n c) = c := by
  unfold val hi; rw [List.reverse_reverse, num_numBits, Nat.mod_eq_of_lt h]
theorem val_snoc (l : List Bool) (b : Bool) : val (l ++ [b]) = 2 * val l + b.toNat := by
  unfold val; rw [List.reverse_append]; simp [num]; omega
theorem val_lt (l : List Bool) : val l < 2 ^ l.length := by
  have := num_lt l.reverse
  simpa [val] using this
theorem val_nil : val [] = 0 := rfl
theorem hi_take (n c m : Nat) (h : m ≤ n) : (hi n c).take m = hi m (c / 2 ^ (n - m)) := by
  unfold hi
  rw [List.take_reverse, numBits_length]
  congr 1
  unfold numBits
  rw [List.map_drop.symm]
  apply List.ext_getElem
  · simp; omega
  · intro j h1 h2
    simp at h1 h2 ⊢
    rw [Nat.testBit_div_two_pow]
    congr 1; omega
/-- the place whose code of n bits is c -/
def findC (ls : List Nat) (n c : Nat) : Option Nat := if first ls n ≤ c ∧ c < first ls n + cnt ls n then (ordN ls n)[c - first ls n]? else none
theorem findC_none (ls : List Nat) (n c : Nat) (h : ¬ (first ls n ≤ c ∧ c < first ls n + cnt ls n)) : findC ls n c = none := by unfold findC; rw [if_neg h]
theorem cnt_pos (ls : List Nat) (n : Nat) (h : 0 < cnt ls n) : cnt ls n = (ordN ls n).length ∧ n ≠ 0 := by
  unfold cnt at h ⊢
  by_cases h0 : n = 0
  · rw [if_pos h0] at h; omega
  · rw [if_neg h0]; exact ⟨rfl, h0⟩
theorem findC_some (ls : List Nat) (n c : Nat) (h : first ls n ≤ c ∧ c < first ls n + cnt ls n) : ∃ i, findC ls n c = some i ∧ (ordN ls n)[c - first ls n]? = some i := by
  have h1 := cnt_pos ls n (by omega)
  have hlt : c - first ls n < (ordN ls n).length := by omega
  refine ⟨_, ?_, List.getElem?_eq_getElem hlt⟩
  unfold findC; rw [if_pos h, List.getElem?_eq_getElem hlt]
theorem findC_code (ls : List Nat) (i : Nat) (hi : i < ls.length) (h0 : ls.getD i 0 ≠ 0) : findC ls (ls.getD i 0) (codeOf ls i) = some i := by
  obtain ⟨h1, h2⟩ := codeOf_bd ls i hi h0
  unfold findC
  rw [if_pos ⟨h1, h2⟩]
  have : codeOf ls i - first ls (ls.getD i 0) = rank ls i := by unfold codeOf; rw [if_neg h0]; omega
  rw [this]; exact ordN_rank ls i hi
theorem findC_inv (ls : List Nat) (n c i : Nat) (h : findC ls n c = some i) : i < ls.length ∧ ls.getD i 0 = n ∧ n ≠ 0 ∧ codeOf ls i = c := by
  unfold findC at h
  split at h
  · rename_i h1
    have hm := List.mem_of_getElem? h
    rw [ordN_mem] at hm
    have hn := (cnt_pos ls n (by omega)).2
    refine ⟨hm.1, hm.2, hn, ?_⟩
    have h3 := ordN_rank ls i hm.1
    rw [hm.2] at h3
    have hnd : (ordN ls n).Nodup := List.Pairwise.filter _ List.nodup_range
    have h4 : (ordN ls n)[rank ls i]? = (ordN ls n)[c - first ls n]? := by rw [h3, h]
    have h5 := (List.getElem?_inj (by exact (List.getElem?_eq_some_iff.1 h3).1) hnd).1 h4
    unfold codeOf; rw [hm.2, if_neg hn]; omega
  · cases h
/-- from n bits on: a place, how many bits it takes, what is wrong (7: too few bits, 8: none) -/
def nxt (ls : List Nat) (row : List Bool) : Nat → Nat → Nat × Nat × Int
  | 0, _ => (0, 0, 8)
  | k + 1, n => if row.length < n then (0, 0, 7) else match findC ls n (val (row.take n)) with
    | some i => (i, n, 0)
    | none => nxt ls row k (n + 1)
def next (ls : List Nat) (row : List Bool) : Nat × Nat × Int := nxt ls row 15 1
theorem nxt_torn (ls : List Nat) (row : List Bool) (k n : Nat) (h : row.length < n) : nxt ls row (k + 1) n = (0, 0, 7) := by unfold nxt; rw [if_pos h]
theorem nxt_hit (ls : List Nat) (row : List Bool) (k n i : Nat) (h : n ≤ row.length) (hf : findC ls n (val (row.take n)) = some i) : nxt ls row (k + 1) n = (i, n, 0) := by
  unfold nxt; rw [if_neg (by omega), hf]
theorem nxt_miss (ls : List Nat) (row : List Bool) (k n : Nat) (h : n ≤ row.length) (hf : findC ls n (val (row.take n)) = none) : nxt ls row (k + 1) n = nxt ls row k (n + 1) := by
  conv => lhs; unfold nxt
  rw [if_neg (by omega), hf]
/-- what is written is read -/
theorem next_code (ls : List Nat) (i : Nat) (rest : List Bool) (hi' : i < ls.length) (h0 : ls.getD i 0 ≠ 0) (hl : ∀ x ∈ ls, x ≤ 15) (hr : room ls ≤ 32768) : next ls (hi (ls.getD i 0) (codeOf ls i) ++ rest) = (i, ls.getD i 0, 0) := by
  have hlt := codeOf_lt ls i hi' h0 hl hr
  have h15 : ls.getD i 0 ≤ 15 := by
    rw [List.getD_eq_getElem?_getD, List.getElem?_eq_getElem hi']
    exact hl _ (List.getElem_mem hi')
  have key : ∀ d k, d < ls.getD i 0 → k + (ls.getD i 0 - d) = 16 → 1 ≤ ls.getD i 0 - d → nxt ls (hi (ls.getD i 0) (codeOf ls i) ++ rest) k (ls.getD i 0 - d) = (i, ls.getD i 0, 0) := by
    intro d
    induction d with
    | zero =>
      intro k h1 h2 h3
      obtain ⟨k, rfl⟩ : ∃ j, k = j + 1 := ⟨k - 1, by omega⟩
      rw [Nat.sub_zero]
      refine nxt_hit ls _ k _ i (by simp [hi_length]) ?_
      rw [List.take_append_of_le_length (by rw [hi_length]; exact Nat.le_refl _), List.take_of_length_le (by rw [hi_length]; exact Nat.le_refl _), val_hi _ _ hlt]
      exact findC_code ls i hi' h0
    | succ d ih =>
      intro k h1 h2 h3
      obtain ⟨k, rfl⟩ : ∃ j, k = j + 1 := ⟨k - 1, by omega⟩
      rw [nxt_miss ls _ k _ (by simp [hi_length]; omega)]
      · rw [show ls.getD i 0 - (d + 1) + 1 = ls.getD i 0 - d by omega]
        exact ih k (by omega) (by omega) (by omega)
      · rw [List.take_append_of_le_length (by rw [hi_length]; omega), hi_take _ _ _ (by omega)]
        have hd : codeOf ls i / 2 ^ (ls.getD i 0 - (ls.getD i 0 - (d + 1))) < 2 ^ (ls.getD i 0 - (d + 1)) := by
          rw [Nat.div_lt_iff_lt_mul (Nat.pow_pos (by omega)), ← Nat.pow_add]
          rw [show ls.getD i 0 - (d + 1) + (ls.getD i 0 - (ls.getD i 0 - (d + 1))) = ls.getD i 0 by omega]
          exact hlt
        rw [val_hi _ _ hd]
        refine findC_none ls _ _ (fun h => ?_)
        have := code_far ls i (ls.getD i 0 - (d + 1)) hi' (by omega)
        omega
  have := key (ls.getD i 0 - 1) 15 (by omega) (by omega) (by omega)
  rw [show ls.getD i 0 - (ls.getD i 0 - 1) = 1 by omega] at this
  exact this
/-- a code that leaves no room always says something -/
theorem next_full (ls : List Nat) (row : List Bool) (hl : ∀ x ∈ ls, x ≤ 15) (hr : room ls = 32768) : (next ls row).2.2 ≠ 8 := by
  have hacc := acc_full ls hl hr
  have key : ∀ k n, 1 ≤ n → k + n = 16 → n ≤ row.length + 1 → first ls (n - 1) + cnt ls (n - 1) ≤ val (row.take (n - 1)) → (nxt ls row k n).2.2 ≠ 8 := by
    intro k
    induction k with
    | zero =>
      intro n h1 h2 hrow h4
      have hn : n = 16 := by omega
      subst hn
      exfalso
      have h5 := val_lt (row.take 15)
      have h6 : (row.take 15).length = 15 := by simp; omega
      rw [h6] at h5
      simp only [Nat.reduceSub] at h4
      omega
    | succ k ih =>
      intro n h1 h2 hr1 h4
      by_cases hrow : row.length < n
      · rw [nxt_torn _ _ _ _ hrow]; simp
      · by_cases hf : first ls n ≤ val (row.take n) ∧ val (row.take n) < first ls n + cnt ls n
        · obtain ⟨i, hi, _⟩ := findC_some ls n _ hf
          rw [nxt_hit ls row k n i (by omega) hi]; simp
        · rw [nxt_miss ls row k n (by omega) (findC_none ls n _ hf)]
          refine ih (n + 1) (by omega) (by omega) (by omega) ?_
          rw [Nat.add_sub_cancel]
          have h5 : ∃ b : Bool, val (row.take n) = 2 * val (row.take (n - 1)) + b.toNat := by
            obtain ⟨m, rfl⟩ : ∃ m, n = m + 1 := ⟨n - 1, by omega⟩
            exact ⟨row[m]'(by omega), by rw [List.take_succ_eq_append_getElem (by omega), val_snoc, Nat.add_sub_cancel]⟩
          obtain ⟨b, h5⟩ := h5
          have h6 : first ls n = 2 * (first ls (n - 1) + cnt ls (n - 1)) := by
            obtain ⟨m, rfl⟩ : ∃ m, n = m + 1 := ⟨n - 1, by omega⟩
            rfl
          omega
  refine key 15 1 (by omega) (by omega) (by omega) ?_
  simp [first, cnt]


/-- so many places read one behind the other: the places, the rest, what is wrong -/
def rstep (ls : List Nat) (s : List Nat × List Bool × Int) : List Nat × List Bool × Int :=
  if s.2.2 ≠ 0 then s else if (next ls s.2.1).2.2 ≠ 0 then (s.1, s.2.1, (next ls s.2.1).2.2) else (s.1 ++ [(next ls s.2.1).1], s.2.1.drop (next ls s.2.1).2.1, 0)
def riter (ls : List Nat) (row : List Bool) : Nat → List Nat × List Bool × Int
  | 0 => ([], row, 0)
  | m + 1 => rstep ls (riter ls row m)
theorem riter_ok (ls : List Nat) (row r : List Bool) (m k n : Nat) (o : List Nat) (h : riter ls row m = (o, r, 0)) (hn : next ls r = (k, n, 0)) : riter ls row (m + 1) = (o ++ [k], r.drop n, 0) := by
  show rstep ls (riter ls row m) = _
  rw [h]; unfold rstep; simp [hn]
theorem riter_bad (ls : List Nat) (row r : List Bool) (m k n : Nat) (e : Int) (o : List Nat) (h : riter ls row m = (o, r, 0)) (hn : next ls r = (k, n, e)) (he : e ≠ 0) : riter ls row (m + 1) = (o, r, e) := by
  show rstep ls (riter ls row m) = _
  rw [h]; unfold rstep; simp [hn, he]
theorem riter_stays (ls : List Nat) (row : List Bool) (m j : Nat) (h : (riter ls row m).2.2 ≠ 0) : riter ls row (m + j) = riter ls row m := by
  induction j with
  | zero => rfl
  | succ j ih => show rstep ls (riter ls row (m + j)) = _; rw [ih]; unfold rstep; rw [if_pos h]
theorem riter_len (ls : List Nat) (row : List Bool) (m : Nat) (h : (riter ls row m).2.2 = 0) : (riter ls row m).1.length = m := by
  induction m with
  | zero => rfl
  | succ m ih =>
    have h0 : (riter ls row m).2.2 = 0 := by
      rcases Int.decEq (riter ls row m).2.2 0 with g | g
      · have := riter_stays ls row m 1 g
        rw [this] at h; exact absurd h g
      · exact g
    have h1 := ih h0
    have e : riter ls row (m + 1) = rstep ls (riter ls row m) := rfl
    rw [e] at h ⊢
    unfold rstep at h ⊢
    rw [if_neg (by simpa using h0)] at h ⊢
    by_cases h2 : (next ls (riter ls row m).2.1).2.2 ≠ 0
    · rw [if_pos h2] at h; exact absurd h h2
    · rw [if_neg h2]; simp [h1]
/-- the bits of places -/
def wbits (ls : List Nat) (ps : List Nat) : List Bool := ps.flatMap fun k => hi (ls.getD k 0) (codeOf ls k)
theorem riter_wbits (ls : List Nat) (ps : List Nat) (rest : List Bool) (hp : ∀ k ∈ ps, k < ls.length ∧ ls.getD k 0 ≠ 0) (hl : ∀ x ∈ ls, x ≤ 15) (hr : room ls ≤ 32768) (m : Nat) (hm : m ≤ ps.length) :
    riter ls (wbits ls ps ++ rest) m = (ps.take m, wbits ls (ps.drop m) ++ rest, 0) := by
  induction m with
  | zero => simp [riter]
  | succ m ih =>
    have hm' : m < ps.length := by omega
    have h1 := hp ps[m] (List.getElem_mem hm')
    have e : wbits ls (ps.drop m) ++ rest = hi (ls.getD ps[m] 0) (codeOf ls ps[m]) ++ (wbits ls (ps.drop (m + 1)) ++ rest) := by
      rw [List.drop_eq_getElem_cons hm']
      unfold wbits
      rw [List.flatMap_cons, List.append_assoc]
    have h2 := next_code ls ps[m] (wbits ls (ps.drop (m + 1)) ++ rest) h1.1 h1.2 hl hr
    rw [← e] at h2
    rw [riter_ok ls _ _ m _ _ _ (ih (by omega)) h2, e, List.drop_append_of_le_length (by rw [hi_length]; exact Nat.le_refl _), List.drop_of_length_le (by rw [hi_length]; exact Nat.le_refl _), List.nil_append, List.take_succ_eq_append_getElem hm']
/-- what was written is read -/
theorem riter_back (ls : List Nat) (ps : List Nat) (hp : ∀ k ∈ ps, k < ls.length ∧ ls.getD k 0 ≠ 0) (hl : ∀ x ∈ ls, x ≤ 15) (hr : room ls ≤ 32768) : ∃ r, riter ls (bitsL (pack (wbits ls ps))) ps.length = (ps, r, 0) := by
  rw [bitsL_pack]
  exact ⟨_, by rw [riter_wbits ls ps _ hp hl hr ps.length (Nat.le_refl _), List.take_length]⟩
theorem nxt_err (ls : List Nat) (row : List Bool) (k n : Nat) : (nxt ls row k n).2.2 = 0 ∨ (nxt ls row k n).2.2 = 7 ∨ (nxt ls row k n).2.2 = 8 := by
  induction k generalizing n with
  | zero => simp [nxt]
  | succ k ih =>
    unfold nxt
    split
    · simp
    · split
      · simp
      · exact ih _
theorem riter_err (ls : List Nat) (row : List Bool) (m : Nat) : (riter ls row m).2.2 = 0 ∨ (riter ls row m).2.2 = 7 ∨ (riter ls row m).2.2 = 8 := by
  induction m with
  | zero => simp [riter]
  | succ m ih =>
    have e : riter ls row (m + 1) = rstep ls (riter ls row m) := rfl
    rw [e]
    unfold rstep
    split
    · exact ih
    · split
      · exact nxt_err ls _ 15 1
      · simp
theorem riter_full (ls : List Nat) (row : List Bool) (m : Nat) (hl : ∀ x ∈ ls, x ≤ 15) (hr : room ls = 32768) : (riter ls row m).2.2 ≠ 8 := by
  induction m with
  | zero => simp [riter]
  | succ m ih =>
    show (rstep ls (riter ls row m)).2.2 ≠ 8
    unfold rstep
    split
    · exact ih
    · split
      · exact next_full ls _ hl hr
      · simp
/-! what the code keeps while it goes -/
def cst (ls : List Nat) (s i : Nat) : List Nat := (List.range ls.length).map fun j => if ls.getD j 0 ≠ 0 ∧ (ls.getD j 0 < s ∨ (ls.getD j 0 = s ∧ j < i)) then codeOf ls j else 0
theorem cst_length (ls : List Nat) (s i : Nat) : (cst ls s i).length = ls.length := by simp [cst]
theorem cst_zero (ls : List Nat) : cst ls 1 0 = List.replicate ls.length 0 := by
  unfold cst
  apply List.ext_getElem
  · simp
  · intro j h1 h2
    simp only [List.getElem_map, List.getElem_range, List.getElem_replicate]
    rw [if_neg (by omega)]
theorem cst_hit (ls : List Nat) (s i : Nat) (hi : i < ls.length) (hs : ls.getD i 0 = s) (h0 : s ≠ 0) : cst ls s (i + 1) = (cst ls s i).set i (first ls s + (ordN (ls.take i) s).length) := by
  apply List.ext_getElem
  · simp [cst]
  · intro j h1 h2
    rw [List.getElem_set]
    simp only [cst, List.getElem_map, List.getElem_range]
    by_cases hij : i = j
    · subst hij
      rw [if_pos rfl, if_pos (by omega)]
      unfold codeOf rank
      rw [if_neg (by omega), hs]
    · rw [if_neg hij]
      by_cases hc : ls.getD j 0 ≠ 0 ∧ (ls.getD j 0 < s ∨ (ls.getD j 0 = s ∧ j < i))
      · rw [if_pos hc, if_pos (by omega)]
      · rw [if_neg hc, if_neg (by omega)]
theorem cst_miss (ls : List Nat) (s i : Nat) (hs : ls.getD i 0 ≠ s) : cst ls s (i + 1) = cst ls s i := by
  unfold cst
  apply List.map_congr_left
  intro j hj
  by_cases hij : i = j
  · subst hij
    by_cases hc : ls.getD i 0 ≠ 0 ∧ (ls.getD i 0 < s ∨ (ls.getD i 0 = s ∧ i < i))
    · rw [if_pos hc, if_pos (by omega)]
    · rw [if_neg hc, if_neg (by omega)]
  · by_cases hc : ls.getD j 0 ≠ 0 ∧ (ls.getD j 0 < s ∨ (ls.getD j 0 = s ∧ j < i))
    · rw [if_pos hc, if_pos (by omega)]
    · rw [if_neg hc, if_neg (by omega)]
theorem cst_next (ls : List Nat) (s : Nat) : cst ls s ls.length = cst ls (s + 1) 0 := by
  unfold cst
  apply List.map_congr_left
  intro j hj
  simp at hj
  by_cases hc : ls.getD j 0 ≠ 0 ∧ (ls.getD j 0 < s ∨ (ls.getD j 0 = s ∧ j < ls.length))
  · rw [if_pos hc, if_pos (by omega)]
  · rw [if_neg hc, if_neg (by omega)]
def codesL (ls : List Nat) : List Nat := (List.range ls.length).map (codeOf ls)
theorem cst_end (ls : List Nat) (hl : ∀ x ∈ ls, x ≤ 15) : cst ls 16 0 = codesL ls := by
  unfold cst codesL
  apply List.map_congr_left
  intro j hj
  simp at hj
  have : ls.getD j 0 ≤ 15 := by
    rw [List.getD_eq_getElem?_getD, List.getElem?_eq_getElem hj]; exact hl _ (List.getElem_mem hj)
  by_cases h0 : ls.getD j 0 = 0
  · rw [if_neg (by omega)]; unfold codeOf; rw [if_pos h0]
  · rw [if_pos (by omega)]
/-- the places by length, up to one length -/
def ordUp (ls : List Nat) (s : Nat) : List Nat := (List.range s).flatMap fun k => ordN ls (k + 1)
theorem ordUp_succ (ls : List Nat) (s : Nat) : ordUp ls (s + 1) = ordUp ls s ++ ordN ls (s + 1) := by
  unfold ordUp; rw [List.range_succ, List.flatMap_append]; simp
theorem ordUp_len (ls : List Nat) (s : Nat) : (ordUp ls s).length = ((List.range s).map fun k => cnt ls (k + 1)).sum := by
  induction s with
  | zero => rfl
  | succ s ih => rw [ordUp_succ, List.length_append, ih, List.range_succ, List.map_append, List.sum_append]; simp [cnt]
theorem ordUp_prefix (ls : List Nat) (s d : Nat) : ∃ t, ordUp ls (s + d) = ordUp ls s ++ t := by
  induction d with
  | zero => exact ⟨[], by simp⟩
  | succ d ih =>
    obtain ⟨t, ht⟩ := ih
    rw [← Nat.add_assoc, ordUp_succ, ht]
    exact ⟨t ++ _, by rw [List.append_assoc]⟩
/-- the place that a table tells -/
theorem ordUp_get (ls : List Nat) (n c i : Nat) (hn : n < 15) (hf : findC ls (n + 1) c = some i) : (ordUp ls 15)[(ordUp ls n).length + (c - first ls (n + 1))]? = some i := by
  have h1 : first ls (n + 1) ≤ c ∧ c < first ls (n + 1) + cnt ls (n + 1) := by
    rcases Classical.em (first ls (n + 1) ≤ c ∧ c < first ls (n + 1) + cnt ls (n + 1)) with h | h
    · exact h
    · rw [findC_none ls _ _ h] at hf; cases hf
  have h2 : (ordN ls (n + 1))[c - first ls (n + 1)]? = some i := by
    unfold findC at hf; rw [if_pos h1] at hf; exact hf
  have h3 := (List.getElem?_eq_some_iff.1 h2).1
  obtain ⟨t, ht⟩ := ordUp_prefix ls (n + 1) (14 - n)
  rw [show n + 1 + (14 - n) = 15 by omega] at ht
  rw [ht, ordUp_succ, List.append_assoc, List.getElem?_append_right (by omega), List.getElem?_append_left (by omega)]
  rw [← h2]; congr 1; omega
theorem ordN_len_le (ls : List Nat) (n : Nat) : (ordN ls n).length ≤ ls.length := by
  have := List.length_filter_le (fun i => ls.getD i 0 == n) (List.range ls.length)
  simpa [ordN] using this

/-! lengths as they come in -/
def badLen (x : Int) : Bool := decide (x < 0) || decide (15 < x)
def lsOf (zs : List Int) : List Nat := zs.map Int.toNat
/-- what is wrong with lengths -/
def chkL (zs : List Int) : Int := if 288 < zs.length then 2 else if zs.any badLen = true then 3 else if 32768 < room (lsOf zs) then 8 else 0
theorem room_snoc (ls : List Nat) (x : Nat) : room (ls ++ [x]) = room ls + if x = 0 then 0 else 2 ^ (15 - x) := by
  unfold room; rw [List.map_append, List.sum_append]; simp
theorem lsOf_take (zs : List Int) (k : Nat) (h : k < zs.length) : lsOf (zs.take (k + 1)) = lsOf (zs.take k) ++ [zs[k].toNat] := by
  unfold lsOf; rw [List.take_succ_eq_append_getElem h, List.map_append]; rfl
theorem room_take (zs : List Int) (k : Nat) (h : k < zs.length) : room (lsOf (zs.take (k + 1))) = room (lsOf (zs.take k)) + if zs[k].toNat = 0 then 0 else 2 ^ (15 - zs[k].toNat) := by
  rw [lsOf_take zs k h, room_snoc]
theorem room_le (ls : List Nat) : room ls ≤ 32768 * ls.length := by
  induction ls with
  | nil => simp [room]
  | cons x ls ih =>
    have e : room (x :: ls) = (if x = 0 then 0 else 2 ^ (15 - x)) + room ls := by simp [room]
    have h : (if x = 0 then 0 else 2 ^ (15 - x)) ≤ 32768 := by
      split
      · omega
      · exact Nat.le_trans (Nat.pow_le_pow_right (by omega) (by omega : 15 - x ≤ 15)) (by decide)
    rw [e, List.length_cons]; omega
theorem chk_fine (zs : List Int) (h : chkL zs = 0) : zs.length ≤ 288 ∧ zs.any badLen = false ∧ room (lsOf zs) ≤ 32768 ∧ (∀ x ∈ lsOf zs, x ≤ 15) ∧ ∀ x ∈ zs, 0 ≤ x ∧ x ≤ 15 := by
  unfold chkL at h
  by_cases h1 : 288 < zs.length
  · rw [if_pos h1] at h; simp at h
  · rw [if_neg h1] at h
    by_cases h2 : zs.any badLen = true
    · rw [if_pos h2] at h; simp at h
    · rw [if_neg h2] at h
      by_cases h3 : 32768 < room (lsOf zs)
      · rw [if_pos h3] at h; simp at h
      · have hb : zs.any badLen = false := by simpa using h2
        have hall : ∀ x ∈ zs, 0 ≤ x ∧ x ≤ 15 := fun x hx => by
          have := (List.any_eq_false.1 hb) x hx
          simp [badLen] at this; omega
        refine ⟨by omega, hb, by omega, ?_, hall⟩
        intro x hx
        obtain ⟨z, hz, rfl⟩ := List.mem_map.1 hx
        have := hall z hz; omega
end Go.Proofs.Ytfgkfakhlcbdbaa.Code
