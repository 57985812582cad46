/- package weigh: the shortest lengths; the plain law of the statements. -/
import Derived.Test.YtdponlnfdjfljaaWeighBd
namespace Go.Proofs.Ytdponlnfdjfljaa.SP
set_option linter.unusedVariables false

def ValidZ (ps : List (Nat × Nat)) (L : Nat) : Prop := (∀ p ∈ ps, 0 < p.1 → 1 ≤ p.2 ∧ p.2 ≤ L) ∧ (ps.map fun p => if 0 < p.1 then 2 ^ (L - p.2) else 0).sum ≤ 2 ^ L
def costZ (ps : List (Nat × Nat)) : Nat := (ps.map fun p => p.1 * p.2).sum
theorem zip_range {β : Type} (g : Nat × Nat → β) (ls ms : List Nat) (h : ms.length = ls.length) : (ls.zip ms).map g = (List.range ls.length).map fun i => g (ls.getD i 0, ms.getD i 0) := by
  apply List.ext_getElem
  · simp [h]
  · intro i h1 h2
    simp at h1 h2
    simp [List.getD_eq_getElem?_getD, h2, h]
theorem costZ_cost (ls ms : List Nat) (h : ms.length = ls.length) : costZ (ls.zip ms) = cost ls ms := by
  unfold costZ cost
  rw [zip_range _ ls ms h]
theorem cost_used (ls ms : List Nat) : cost ls ms = ((used ls).map fun i => ls.getD i 0 * ms.getD i 0).sum := sum_used ls _ (fun i _ h => by rw [h]; simp)
theorem wide_used (ls ms : List Nat) (f : Nat → Nat) (h : ms.length = ls.length) : ((ls.zip ms).map fun p => if 0 < p.1 then f p.2 else 0).sum = ((used ls).map fun i => f (ms.getD i 0)).sum := by
  rw [zip_range _ ls ms h, sum_used ls _ (fun i _ h => by show (if 0 < ls.getD i 0 then _ else 0) = 0; rw [h]; rfl)]
  congr 1
  apply List.map_congr_left
  intro i hi
  have := (used_mem ls i).1 hi
  rw [if_pos this.2]
theorem zip_mem_get (ls ms : List Nat) (h : ms.length = ls.length) (p : Nat × Nat) (hp : p ∈ ls.zip ms) : ∃ i, i < ls.length ∧ p = (ls.getD i 0, ms.getD i 0) := by
  obtain ⟨i, hi, rfl⟩ := List.mem_iff_getElem.1 hp
  rw [List.length_zip] at hi
  have h1 : i < ls.length := by omega
  have h2 : i < ms.length := by omega
  exact ⟨i, h1, by simp [List.getD_eq_getElem?_getD, h1, h2]⟩
theorem get_zip_mem (ls ms : List Nat) (h : ms.length = ls.length) (i : Nat) (hi : i < ls.length) : (ls.getD i 0, ms.getD i 0) ∈ ls.zip ms := by
  rw [List.mem_iff_getElem]
  have h2 : i < ms.length := by omega
  exact ⟨i, by rw [List.length_zip]; omega, by simp [List.getD_eq_getElem?_getD, hi, h2]⟩
theorem validZ_used (ls ms : List Nat) (L : Nat) (h : ms.length = ls.length) : ValidZ (ls.zip ms) L ↔ (∀ i ∈ used ls, 1 ≤ ms.getD i 0 ∧ ms.getD i 0 ≤ L) ∧ ((used ls).map fun i => 2 ^ (L - ms.getD i 0)).sum ≤ 2 ^ L := by
  unfold ValidZ
  rw [wide_used ls ms (fun x => 2 ^ (L - x)) h]
  constructor
  · rintro ⟨h1, h2⟩
    refine ⟨fun i hi => ?_, h2⟩
    have := (used_mem ls i).1 hi
    exact h1 _ (get_zip_mem ls ms h i this.1) this.2
  · rintro ⟨h1, h2⟩
    refine ⟨fun p hp h0 => ?_, h2⟩
    obtain ⟨i, hi, rfl⟩ := zip_mem_get ls ms h p hp
    exact h1 i ((used_mem ls i).2 ⟨hi, h0⟩)
/-- the lengths that are found: a code's, and none better -/
theorem best (ls : List Nat) (L : Nat) (hL : 1 ≤ L) (hn : (ones ls).length ≤ 2 ^ L) : (lengthsP ls L).length = ls.length ∧ ValidZ (ls.zip (lengthsP ls L)) L ∧ (∀ x ∈ lengthsP ls L, x ≤ L) ∧
    ∀ ms : List Nat, ms.length = ls.length → ValidZ (ls.zip ms) L → costZ (ls.zip (lengthsP ls L)) ≤ costZ (ls.zip ms) := by
  by_cases h2 : 2 ≤ (ones ls).length
  · obtain ⟨h3, h4, h5, _⟩ := lengths_many ls L hL h2 hn
    refine ⟨h3, (validZ_used ls _ L h3).2 ⟨fun i hi => ?_, Nat.le_of_eq h5⟩, fun x hx => ?_, fun ms hm hv => ?_⟩
    · have hu := (used_mem ls i).1 hi
      have := h4 i hu.1
      refine ⟨?_, this.2⟩
      rcases Nat.eq_zero_or_pos ((lengthsP ls L).getD i 0) with h | h
      · have := this.1.1 h; omega
      · exact h
    · obtain ⟨i, hi, rfl⟩ := List.mem_iff_getElem.1 hx
      have := (h4 i (by omega)).2
      simpa [List.getD_eq_getElem?_getD, hi] using this
    · rw [costZ_cost _ _ h3, costZ_cost _ _ hm]
      obtain ⟨v1, v2⟩ := (validZ_used ls ms L hm).1 hv
      exact lengths_best ls ms L hL h2 hn (fun i hi => (v1 i hi).2) v2
  · by_cases h0 : (ones ls).length = 0
    · have hu : used ls = [] := List.eq_nil_of_length_eq_zero (by rw [← used_len]; exact h0)
      have hl : lengthsP ls L = List.replicate ls.length 0 := by unfold lengthsP; rw [if_pos h0]
      have h3 : (lengthsP ls L).length = ls.length := by rw [hl]; simp
      refine ⟨h3, (validZ_used ls _ L h3).2 ⟨by rw [hu]; simp, by rw [hu]; simp⟩, fun x hx => ?_, fun ms hm hv => ?_⟩
      · rw [hl] at hx
        have := (List.mem_replicate.1 hx).2
        omega
      · rw [costZ_cost _ _ h3, cost_used, hu]; simp
    · have h1 : (ones ls).length = 1 := by omega
      have hul : (used ls).length = 1 := by rw [← used_len]; exact h1
      obtain ⟨i, hu⟩ := List.length_eq_one_iff.1 hul
      have him := (used_mem ls i).1 (by rw [hu]; simp)
      have hl : lengthsP ls L = unit ls.length i := by
        unfold lengthsP
        rw [if_neg h0, if_pos h1]
        unfold ones
        rw [hu]; rfl
      have h3 : (lengthsP ls L).length = ls.length := by rw [hl, unit_len]
      have hg : (lengthsP ls L).getD i 0 = 1 := by rw [hl, unit_get _ _ _ him.1, if_pos rfl]
      refine ⟨h3, (validZ_used ls _ L h3).2 ⟨?_, ?_⟩, fun x hx => ?_, fun ms hm hv => ?_⟩
      · rw [hu]; intro j hj; simp at hj; subst hj; rw [hg]; omega
      · rw [hu]
        simp only [List.map_cons, List.map_nil, List.sum_cons, List.sum_nil, Nat.add_zero, hg]
        exact Nat.pow_le_pow_right (by omega) (by omega)
      · rw [hl] at hx
        obtain ⟨j, hj, rfl⟩ := List.mem_iff_getElem.1 hx
        have : (unit ls.length i).getD j 0 ≤ 1 := by rw [unit_get _ _ _ (by simpa [unit] using hj)]; split <;> omega
        rw [List.getD_eq_getElem?_getD, List.getElem?_eq_getElem hj] at this
        simp at this; omega
      · rw [costZ_cost _ _ h3, costZ_cost _ _ hm, cost_used, cost_used, hu]
        simp only [List.map_cons, List.map_nil, List.sum_cons, List.sum_nil, Nat.add_zero, hg]
        have hv1 := ((validZ_used ls ms L hm).1 hv).1 i (by rw [hu]; simp)
        exact Nat.mul_le_mul_left _ hv1.1
theorem zip_rev (xs ys : List Nat) (h : ys.length = xs.length) : xs.reverse.zip ys.reverse = (xs.zip ys).reverse := by
  rw [List.zip_eq_zipWith, List.zip_eq_zipWith, List.reverse_zipWith h.symm]
theorem validZ_rev (ps : List (Nat × Nat)) (L : Nat) (h : ValidZ ps L) : ValidZ ps.reverse L := by
  obtain ⟨h1, h2⟩ := h
  refine ⟨fun p hp => h1 p (List.mem_reverse.1 hp), ?_⟩
  rw [List.map_reverse, List.sum_reverse]; exact h2
theorem costZ_rev (ps : List (Nat × Nat)) : costZ ps.reverse = costZ ps := by
  unfold costZ; rw [List.map_reverse, List.sum_reverse]
theorem cost_turned (ls : List Nat) (L : Nat) (hL : 1 ≤ L) (hn : (ones ls).length ≤ 2 ^ L) (hn2 : (ones ls.reverse).length ≤ 2 ^ L) : costZ (ls.reverse.zip (lengthsP ls.reverse L)) = costZ (ls.zip (lengthsP ls L)) := by
  obtain ⟨a1, a2, a3, a4⟩ := best ls L hL hn
  obtain ⟨b1, b2, b3, b4⟩ := best ls.reverse L hL hn2
  rw [List.length_reverse] at b1 b4
  apply Nat.le_antisymm
  · have e := zip_rev ls (lengthsP ls L) a1
    have := b4 (lengthsP ls L).reverse (by rw [List.length_reverse]; exact a1) (by rw [e]; exact validZ_rev _ _ a2)
    rw [e, costZ_rev] at this
    exact this
  · have e := zip_rev ls.reverse (lengthsP ls.reverse L) (by rw [List.length_reverse]; exact b1)
    rw [List.reverse_reverse] at e
    have := a4 (lengthsP ls.reverse L).reverse (by rw [List.length_reverse]; exact b1) (by rw [e]; exact validZ_rev _ _ b2)
    rw [e, costZ_rev] at this
    exact this
theorem zip_scale (ls ms : List Nat) (k : Nat) : (ls.map (· * k)).zip ms = (ls.zip ms).map fun p => (p.1 * k, p.2) := by
  rw [List.zip_map_left]; rfl
theorem validZ_scale (ps : List (Nat × Nat)) (k L : Nat) (hk : 1 ≤ k) : ValidZ (ps.map fun p => (p.1 * k, p.2)) L ↔ ValidZ ps L := by
  have h0 : ∀ p : Nat × Nat, 0 < p.1 * k ↔ 0 < p.1 := fun p => ⟨fun h => by
    rcases Nat.eq_zero_or_pos p.1 with e | e
    · rw [e, Nat.zero_mul] at h; omega
    · exact e, fun h => Nat.mul_pos h hk⟩
  unfold ValidZ
  rw [List.map_map]
  have e : (ps.map ((fun p : Nat × Nat => if 0 < p.1 then 2 ^ (L - p.2) else 0) ∘ fun p => (p.1 * k, p.2))) = ps.map fun p => if 0 < p.1 then 2 ^ (L - p.2) else 0 := by
    apply List.map_congr_left
    intro p _
    simp only [Function.comp, h0]
  rw [e]
  constructor
  · rintro ⟨h1, h2⟩
    exact ⟨fun p hp hp0 => h1 (p.1 * k, p.2) (List.mem_map.2 ⟨p, hp, rfl⟩) ((h0 p).2 hp0), h2⟩
  · rintro ⟨h1, h2⟩
    refine ⟨fun q hq hq0 => ?_, h2⟩
    obtain ⟨p, hp, rfl⟩ := List.mem_map.1 hq
    exact h1 p hp ((h0 p).1 hq0)
theorem costZ_scale (ps : List (Nat × Nat)) (k : Nat) : costZ (ps.map fun p => (p.1 * k, p.2)) = k * costZ ps := by
  unfold costZ
  induction ps with
  | nil => simp
  | cons p ps ih =>
    simp only [List.map_cons, List.sum_cons] at ih ⊢
    rw [ih, Nat.mul_add]
    congr 1
    rw [Nat.mul_right_comm, Nat.mul_comm]
theorem cost_scaled (ls : List Nat) (L k : Nat) (hL : 1 ≤ L) (hk : 1 ≤ k) (hn : (ones ls).length ≤ 2 ^ L) (hn2 : (ones (ls.map (· * k))).length ≤ 2 ^ L) : costZ ((ls.map (· * k)).zip (lengthsP (ls.map (· * k)) L)) = k * costZ (ls.zip (lengthsP ls L)) := by
  obtain ⟨a1, a2, a3, a4⟩ := best ls L hL hn
  obtain ⟨b1, b2, b3, b4⟩ := best (ls.map (· * k)) L hL hn2
  rw [List.length_map] at b1 b4
  apply Nat.le_antisymm
  · have := b4 (lengthsP ls L) a1 (by rw [zip_scale]; exact (validZ_scale _ k L hk).2 a2)
    rw [zip_scale ls (lengthsP ls L), costZ_scale] at this
    exact this
  · rw [zip_scale] at b2 ⊢
    rw [costZ_scale]
    exact Nat.mul_le_mul_left _ (a4 _ b1 ((validZ_scale _ k L hk).1 b2))
theorem validZ_up (ps : List (Nat × Nat)) (L : Nat) (h : ValidZ ps L) : ValidZ ps (L + 1) := by
  obtain ⟨h1, h2⟩ := h
  refine ⟨fun p hp h0 => by have := h1 p hp h0; omega, ?_⟩
  have e : (ps.map fun p => if 0 < p.1 then 2 ^ (L + 1 - p.2) else 0).sum = 2 * (ps.map fun p => if 0 < p.1 then 2 ^ (L - p.2) else 0).sum := by
    clear h2
    induction ps with
    | nil => simp
    | cons p ps ih =>
      simp only [List.map_cons, List.sum_cons]
      rw [ih (fun q hq => h1 q (by simp [hq])), Nat.mul_add]
      congr 1
      by_cases h0 : 0 < p.1
      · have := h1 p (by simp) h0
        rw [if_pos h0, if_pos h0, show L + 1 - p.2 = (L - p.2) + 1 by omega, Nat.pow_succ]; omega
      · rw [if_neg h0, if_neg h0]
  rw [e, Nat.pow_succ]; omega
theorem cost_more (ls : List Nat) (L : Nat) (hL : 1 ≤ L) (hn : (ones ls).length ≤ 2 ^ L) : costZ (ls.zip (lengthsP ls (L + 1))) ≤ costZ (ls.zip (lengthsP ls L)) := by
  obtain ⟨a1, a2, a3, a4⟩ := best ls L hL hn
  have hp : (2 : Nat) ^ L ≤ 2 ^ (L + 1) := Nat.pow_le_pow_right (by omega) (by omega)
  obtain ⟨b1, b2, b3, b4⟩ := best ls (L + 1) (by omega) (by omega)
  exact b4 _ a1 (validZ_up _ _ a2)
end Go.Proofs.Ytdponlnfdjfljaa.SP
