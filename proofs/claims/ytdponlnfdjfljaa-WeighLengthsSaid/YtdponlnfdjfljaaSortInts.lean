/- sort.Ints, by the kit's contract; what the document's answer reckons: the plain law. -/
import Derived.Test.YtdponlnfdjfljaaShelfSort
import Derived.Sort.OwnSortedInts
import Derived.Test.YtdponlnfdjfljaaWeighFact
namespace Go.Proofs.Ytdponlnfdjfljaa.Weigh
open Go Go.RowKit Go.Sort Go.Proofs.Ytdponlnfdjfljaa Go.Proofs.Ytdponlnfdjfljaa.SP
set_option linter.unusedVariables false
theorem ints_nat (zs : List Int) (h : ∀ x ∈ zs, 0 ≤ x) : (zs.map Int.toNat).map nv = zs.map (Value.int .i64) := by
  rw [List.map_map]
  apply List.map_congr_left
  intro x hx
  have := h x hx
  simp [nv, Function.comp]; omega
theorem sortInts_own (base g n cap : Nat) (ks : List Nat) (w : World) (h : w.ownsRow base 3 1 (.slice (some ⟨g, 0, none⟩) n cap) n (ks.map nv)) (hn : n ≤ 1000000) :
    Calls Try.prog 65 #[.slice (some ⟨g, 0, none⟩) n cap] w fun e w' => e = .returned (.tuple #[]) ∧ (∃ ts : List Nat, ts.Perm ks ∧ ts.Pairwise (· ≤ ·) ∧ w'.ownsRow base 3 1 (.slice (some ⟨g, 0, none⟩) n cap) n (ts.map nv)) ∧ w.grownBy w' (some g) := by
  have hl : ks.length = n := by have := h.1; simpa using this
  rcases h.2 with ⟨h1, _⟩ | ⟨g', cap', cur, hv, hbg, hgb, hnc, hcm, hcs, htk⟩
  · cases h1
  injection hv with v1 v2 v3
  injection v1 with v1
  injection v1 with v1
  subst v1 v3
  have hzl : (ks.map Int.ofNat).length = n := by simpa using hl
  have hmap : (ks.map Int.ofNat).map (Value.int .i64) = ks.map nv := by rw [List.map_map]; rfl
  have hH := holds_of_blockI (ss := ks.map Int.ofNat) hgb (by rw [hzl, hmap]; rw [Nat.mul_one] at htk; exact htk)
  have hc := Any.sort_Ints Ytdponlnfdjfljaa.lays191 g 0 cap (ks.map Int.ofNat) w hH (lt_of_block hgb) (by omega)
  rw [hzl] at hc
  refine hc.mono ?_
  rintro e w' ⟨rfl, m, os, rfl⟩
  have hp := List.mergeSort_perm (ks.map Int.ofNat) (fun x y => decide (x ≤ y))
  have hs := List.pairwise_mergeSort (le := fun x y : Int => decide (x ≤ y)) (fun a b c h1 h2 => by simp at *; omega) (fun a b => by simp; omega) (ks.map Int.ofNat)
  generalize (ks.map Int.ofNat).mergeSort (fun x y => decide (x ≤ y)) = ts at *
  have h0 : ∀ x ∈ ts, 0 ≤ x := fun x hx => by
    obtain ⟨y, _, rfl⟩ := List.mem_map.1 (hp.mem_iff.1 hx)
    exact Int.natCast_nonneg y
  refine ⟨rfl, ⟨ts.map Int.toNat, ?_, ?_, ?_⟩, grownBy_sortedI _⟩
  · have := hp.map Int.toNat
    rw [List.map_map] at this
    refine this.trans (List.Perm.of_eq ?_)
    conv => rhs; rw [← List.map_id ks]
    apply List.map_congr_left
    intro x _; simp [Function.comp]
  · rw [List.pairwise_map]
    exact hs.imp (fun h => by simp at h; omega)
  · rw [ints_nat ts h0]
    have := ownsRow_sortedI (ss := ks.map Int.ofNat) (ts := ts) (os := os) (n := m) hp.length_eq hbg hgb (by rw [hzl]; exact hnc) hcm hcs
    rw [hzl] at this
    exact this
/-- sums of pairs -/
def kpairs : List Nat → List Nat
  | a :: b :: l => (a + b) :: kpairs l
  | _ => []
theorem kpairs_keys (l : List Pk) : (pairs l).map pkey = kpairs (l.map pkey) := by
  have : ∀ n, ∀ l : List Pk, l.length ≤ n → (pairs l).map pkey = kpairs (l.map pkey) := by
    intro n
    induction n with
    | zero => intro l hl; rw [List.eq_nil_of_length_eq_zero (by omega : l.length = 0)]; rfl
    | succ n ih =>
      intro l hl
      rcases l with _ | ⟨x, _ | ⟨y, l⟩⟩
      · rfl
      · rfl
      · simp only [pairs, List.map_cons, kpairs]
        rw [ih l (by simp at hl; omega)]; rfl
  exact this _ l (Nat.le_refl _)
theorem kpairs_two (l : List Nat) (a b j : Nat) (h : l.length = 2 * j) : kpairs (l ++ [a, b]) = kpairs l ++ [a + b] := by
  induction j generalizing l with
  | zero =>
    have : l = [] := List.eq_nil_of_length_eq_zero (by omega)
    subst this; rfl
  | succ j ih =>
    rcases l with _ | ⟨x, _ | ⟨y, l⟩⟩
    · simp at h
    · simp at h; omega
    · simp only [List.cons_append, kpairs]
      rw [ih l (by simp at h; omega)]
theorem kpairs_cut (l : List Nat) (j : Nat) (h1 : l.length ≤ 2 * j + 1) (h2 : 2 * j ≤ l.length) : kpairs (l.take (2 * j)) = kpairs l := by
  induction j generalizing l with
  | zero =>
    rcases l with _ | ⟨x, _ | ⟨y, l⟩⟩
    · rfl
    · rfl
    · simp at h1
  | succ j ih =>
    rcases l with _ | ⟨x, _ | ⟨y, l⟩⟩
    · simp at h2
    · simp at h2; omega
    · have e : 2 * (j + 1) = 2 * j + 1 + 1 := by omega
      rw [e, List.take_succ_cons, List.take_succ_cons]
      simp only [kpairs]
      rw [ih l (by simp at h1; omega) (by simp at h2; omega)]
theorem kpairs_len (l : List Nat) : (kpairs l).length = l.length / 2 := by
  have : ∀ n, ∀ l : List Nat, l.length ≤ n → (kpairs l).length = l.length / 2 := by
    intro n
    induction n with
    | zero => intro l hl; rw [List.eq_nil_of_length_eq_zero (by omega : l.length = 0)]; rfl
    | succ n ih =>
      intro l hl
      rcases l with _ | ⟨x, _ | ⟨y, l⟩⟩
      · rfl
      · simp [kpairs]
      · simp only [kpairs, List.length_cons]
        rw [ih l (by simp at hl; omega)]; omega
  exact this _ l (Nat.le_refl _)
theorem nat_sorted_unique (l m : List Nat) (p : l.Perm m) (hl : l.Pairwise (· ≤ ·)) (hm : m.Pairwise (· ≤ ·)) : l = m :=
  List.Perm.eq_of_pairwise (fun a b _ _ h1 h2 => Nat.le_antisymm h1 h2) hl hm p
/-- the keys of a row -/
def kr (one : List Pk) (t : Nat) : List Nat := (rowsP one t).map pkey
theorem stab_keys (l : List Pk) (ts : List Nat) (p : ts.Perm (l.map pkey)) (hs : ts.Pairwise (· ≤ ·)) : ts = (stab pkey l).map pkey := by
  refine nat_sorted_unique _ _ (p.trans ((stab_perm pkey l).map pkey).symm) hs ?_
  rw [List.pairwise_map]
  exact stab_sorted pkey l
theorem kr_next (one : List Pk) (t : Nat) (ts : List Nat) (p : ts.Perm (one.map pkey ++ kpairs (kr one t))) (hs : ts.Pairwise (· ≤ ·)) : ts = kr one (t + 1) := by
  refine stab_keys (one ++ pairs (rowsP one t)) ts ?_ hs
  rw [List.map_append, kpairs_keys]; exact p
theorem ones_keys (ls : List Nat) : (ones ls).map pkey = ls.filter (fun x => decide (0 < x)) := by
  have e : ls = (List.range ls.length).map (fun i => ls.getD i 0) := by
    apply List.ext_getElem
    · simp
    · intro i h1 h2
      simp [List.getD_eq_getElem?_getD, h1]
  unfold ones used
  rw [List.map_map]
  conv => rhs; rw [e]
  rw [List.filter_map]; rfl
/-- the document's row, so many rounds on -/
def rk (one : List Pk) (t : Nat) : List Nat := if t = 0 then [] else kr one (t - 1)
theorem rk_next (one : List Pk) (t : Nat) (ts : List Nat) (p : ts.Perm (one.map pkey ++ kpairs (rk one t))) (hs : ts.Pairwise (· ≤ ·)) (ho : (one.map pkey).Pairwise (· ≤ ·)) : ts = rk one (t + 1) := by
  cases t with
  | zero =>
    have e : rk one 1 = one.map pkey := rfl
    rw [e]
    refine nat_sorted_unique _ _ ?_ hs ho
    have : kpairs (rk one 0) = [] := rfl
    rw [this, List.append_nil] at p
    exact p
  | succ t => exact kr_next one t ts p hs
theorem rk_len (one : List Pk) (t : Nat) : (rk one t).length ≤ 2 * one.length := by
  unfold rk
  split
  · simp
  · unfold kr; rw [List.length_map]; exact (rows_big one _).1
theorem rk_bd (one : List Pk) (h : ∀ p ∈ one, BdP 0 p) (t : Nat) (ht : t ≤ 16) : ∀ x ∈ rk one t, x ≤ 40000000000 := by
  intro x hx
  unfold rk at hx
  split at hx
  · simp at hx
  · unfold kr at hx
    obtain ⟨p, hp, rfl⟩ := List.mem_map.1 hx
    have := (rows_bd one h (t - 1) p hp).1
    have h2 : (2 : Nat) ^ (t - 1) ≤ 2 ^ 15 := Nat.pow_le_pow_right (by omega) (by omega)
    unfold pkey
    omega
/-- how few bits there can be -/
def leastN (ls : List Nat) (L : Nat) : Nat := if (ones ls).length = 0 then 0 else if (ones ls).length = 1 then ((ones ls).map pkey).getD 0 0 else ((kr (stab pkey (ones ls)) (L - 1)).take (2 * (ones ls).length - 2)).sum
theorem least_cost (ls : List Nat) (L : Nat) (hL : 1 ≤ L) (hn : (ones ls).length ≤ 2 ^ L) : costZ (ls.zip (lengthsP ls L)) = leastN ls L := by
  obtain ⟨h3, h4, _, _⟩ := best ls L hL hn
  rw [costZ_cost _ _ h3]
  unfold leastN
  by_cases h0 : (ones ls).length = 0
  · rw [if_pos h0, cost_used]
    have hu : used ls = [] := List.eq_nil_of_length_eq_zero (by rw [← used_len]; exact h0)
    rw [hu]; rfl
  · rw [if_neg h0]
    by_cases h1 : (ones ls).length = 1
    · rw [if_pos h1]
      have hul : (used ls).length = 1 := by rw [← used_len]; exact h1
      obtain ⟨i, hu⟩ := List.length_eq_one_iff.1 hul
      have him := (used_mem ls i).1 (by rw [hu]; simp)
      have hl : lengthsP ls L = unit ls.length i := by
        unfold lengthsP
        rw [if_neg h0, if_pos h1]
        unfold ones
        rw [hu]; rfl
      rw [cost_used, hl]
      unfold ones
      rw [hu]
      simp only [List.map_cons, List.map_nil, List.sum_cons, List.sum_nil, Nat.add_zero]
      rw [unit_get _ _ _ him.1, if_pos rfl, Nat.mul_one]; rfl
    · rw [if_neg h1, lengths_cost ls L hL (by omega) hn]
      unfold wt kr
      rw [List.map_take]
end Go.Proofs.Ytdponlnfdjfljaa.Weigh
