/- package reliquaryref: codes in the order of places; the plain law. No program in sight. -/
import Derived.Test.YtfgkfakhlcbdbaaCodePure
import Derived.Test.YtfgkfakhlcbdbaaSortPure
namespace Go.Proofs.Ytfgkfakhlcbdbaa.Cds
open Go.Proofs.Ytfgkfakhlcbdbaa.Bits Go.Proofs.Ytfgkfakhlcbdbaa.Code Go.Proofs.Ytfgkfakhlcbdbaa.SP
set_option linter.unusedVariables false

/-- the places that have a code: their lengths, where they stand -/
def placesL (ls : List Nat) : List (Nat × Nat) := ls.zipIdx.filter fun p => p.1 != 0
def skey (e : Nat × Nat) : Nat := e.1
theorem placesL_take (ls : List Nat) (k : Nat) (h : k < ls.length) : placesL (ls.take (k + 1)) = placesL (ls.take k) ++ if ls[k] = 0 then [] else [(ls[k], k)] := by
  unfold placesL
  rw [List.take_succ_eq_append_getElem h, List.zipIdx_append, List.filter_append, List.length_take, Nat.min_eq_left (by omega)]
  congr 1
  by_cases h0 : ls[k] = 0
  · simp [h0]
  · simp [h0]
theorem placesL_len (ls : List Nat) : (placesL ls).length ≤ ls.length := by
  unfold placesL
  refine Nat.le_trans (List.length_filter_le _ _) ?_
  simp
theorem placesL_mem (ls : List Nat) (p : Nat × Nat) : p ∈ placesL ls ↔ p.2 < ls.length ∧ ls.getD p.2 0 = p.1 ∧ p.1 ≠ 0 := by
  unfold placesL
  rw [List.mem_filter, List.mem_zipIdx_iff_getElem?]
  constructor
  · rintro ⟨h1, h2⟩
    have h3 := (List.getElem?_eq_some_iff.1 h1)
    obtain ⟨h4, h5⟩ := h3
    refine ⟨h4, ?_, by simpa using h2⟩
    rw [List.getD_eq_getElem?_getD, h1]; rfl
  · rintro ⟨h1, h2, h3⟩
    refine ⟨?_, by simpa using h3⟩
    rw [List.getD_eq_getElem?_getD, List.getElem?_eq_getElem h1] at h2
    rw [List.getElem?_eq_getElem h1]
    simpa using h2
/-- by length, then by place -/
def lePl (x y : Nat × Nat) : Prop := x.1 < y.1 ∨ (x.1 = y.1 ∧ x.2 ≤ y.2)
theorem lePl_anti (x y : Nat × Nat) (h : lePl x y) (k : lePl y x) : x = y := by
  obtain ⟨a, b⟩ := x
  obtain ⟨c, d⟩ := y
  unfold lePl at h k
  simp only at h k
  have h1 : a = c := by omega
  have h2 : b = d := by omega
  rw [h1, h2]
theorem placesL_rise (ls : List Nat) : (placesL ls).Pairwise (fun x y => x.2 < y.2) := by
  unfold placesL
  refine List.Pairwise.filter _ ?_
  have := rise_zip ls 0
  exact this
theorem ordN_rise (ls : List Nat) (n : Nat) : (ordN ls n).Pairwise (· < ·) := by
  unfold ordN
  exact List.Pairwise.filter _ List.pairwise_lt_range
theorem stab_le (l : List (Nat × Nat)) (h : l.Pairwise (fun x y => x.2 < y.2)) : (stab skey l).Pairwise lePl := by
  unfold stab
  rw [List.pairwise_map]
  have hs := stabT_sorted skey l
  have hm : ∀ t ∈ stabT skey l, ∃ hh : t.2 < l.length, l[t.2] = t.1 := by
    intro t ht
    have := (stabT_perm skey l).mem_iff.1 ht
    rw [List.mem_zipIdx_iff_getElem?] at this
    obtain ⟨h1, h2⟩ := List.getElem?_eq_some_iff.1 this
    exact ⟨h1, h2⟩
  refine List.Pairwise.imp_of_mem ?_ hs
  intro x y hx hy hxy
  obtain ⟨h1, h2⟩ := hm x hx
  obtain ⟨h3, h4⟩ := hm y hy
  unfold lexP skey at hxy
  unfold lePl
  rcases hxy with h5 | ⟨h5, h6⟩
  · exact .inl h5
  · refine .inr ⟨h5, ?_⟩
    rcases Nat.lt_or_ge x.2 y.2 with h7 | h7
    · have := List.pairwise_iff_getElem.1 h x.2 y.2 h1 h3 h7
      rw [h2, h4] at this
      omega
    · have e : x.2 = y.2 := by omega
      have : x.1 = y.1 := by rw [← h2, ← h4]; simp [e]
      rw [this]
      exact Nat.le_refl _
theorem ordUp_mem (ls : List Nat) (s i : Nat) : i ∈ ordUp ls s ↔ i < ls.length ∧ ls.getD i 0 ≠ 0 ∧ ls.getD i 0 ≤ s := by
  unfold ordUp
  simp only [List.mem_flatMap, List.mem_range, ordN_mem]
  constructor
  · rintro ⟨k, h1, h2, h3⟩
    exact ⟨h2, by omega, by omega⟩
  · rintro ⟨h1, h2, h3⟩
    exact ⟨ls.getD i 0 - 1, by omega, h1, by omega⟩
theorem ordUp_le_pl (ls : List Nat) : ∀ s, ((ordUp ls s).map fun i => (ls.getD i 0, i)).Pairwise lePl
  | 0 => by simp [ordUp]
  | s + 1 => by
    rw [ordUp_succ, List.map_append, List.pairwise_append]
    refine ⟨ordUp_le_pl ls s, ?_, ?_⟩
    · rw [List.pairwise_map]
      refine List.Pairwise.imp_of_mem ?_ (ordN_rise ls (s + 1))
      intro a b ha hb hab
      have h1 := (ordN_mem ls (s + 1) a).1 ha
      have h2 := (ordN_mem ls (s + 1) b).1 hb
      exact .inr ⟨by rw [h1.2, h2.2], Nat.le_of_lt hab⟩
    · intro x hx y hy
      obtain ⟨a, ha, rfl⟩ := List.mem_map.1 hx
      obtain ⟨b, hb, rfl⟩ := List.mem_map.1 hy
      have h1 := (ordUp_mem ls s a).1 ha
      have h2 := (ordN_mem ls (s + 1) b).1 hb
      exact .inl (by show ls.getD a 0 < ls.getD b 0; omega)
theorem nodup_of_le {l : List (Nat × Nat)} (h : l.Pairwise fun x y => x.2 < y.2) : l.Nodup := List.Pairwise.imp (fun hxy e => by rw [e] at hxy; omega) h
theorem ordUp_nodup (ls : List Nat) : ∀ s, (ordUp ls s).Nodup
  | 0 => by simp [ordUp]
  | s + 1 => by
    rw [ordUp_succ, List.nodup_append]
    refine ⟨ordUp_nodup ls s, List.Pairwise.imp (fun h e => by omega) (ordN_rise ls (s + 1)), ?_⟩
    intro a ha b hb e
    subst e
    have h1 := (ordUp_mem ls s a).1 ha
    have h2 := (ordN_mem ls (s + 1) a).1 hb
    omega
/-- sorted, they stand by length, then by place -/
theorem stab_places (ls : List Nat) (hl : ∀ x ∈ ls, x ≤ 15) : stab skey (placesL ls) = (ordUp ls 15).map fun i => (ls.getD i 0, i) := by
  refine sorted_unique (le := lePl) lePl_anti _ _ ?_ (stab_le _ (placesL_rise ls)) (ordUp_le_pl ls 15)
  refine (stab_perm skey (placesL ls)).trans ?_
  refine (List.perm_ext_iff_of_nodup (nodup_of_le (placesL_rise ls)) ?_).2 ?_
  · exact List.Pairwise.map _ (fun a b h e => h (by injection e)) (ordUp_nodup ls 15)
  · intro p
    rw [placesL_mem, List.mem_map]
    constructor
    · rintro ⟨h1, h2, h3⟩
      refine ⟨p.2, (ordUp_mem ls 15 p.2).2 ⟨h1, by rw [h2]; exact h3, ?_⟩, by rw [h2]⟩
      rw [List.getD_eq_getElem?_getD, List.getElem?_eq_getElem h1]
      exact hl _ (List.getElem_mem h1)
    · rintro ⟨i, hi, rfl⟩
      have := (ordUp_mem ls 15 i).1 hi
      exact ⟨this.1, rfl, this.2.1⟩
/-! ### the codes, one behind the other -/
def wt (ls : List Nat) (o : List Nat) : Nat := (o.map fun i => 2 ^ (15 - ls.getD i 0)).sum
theorem wt_append (ls a b : List Nat) : wt ls (a ++ b) = wt ls a + wt ls b := by unfold wt; rw [List.map_append, List.sum_append]
theorem wt_same (ls : List Nat) (n : Nat) : ∀ o : List Nat, (∀ i ∈ o, ls.getD i 0 = n) → wt ls o = o.length * 2 ^ (15 - n)
  | [], _ => by simp [wt]
  | i :: o, h => by
    have h1 := wt_same ls n o (fun j hj => h j (List.mem_cons_of_mem _ hj))
    unfold wt at h1 ⊢
    rw [List.map_cons, List.sum_cons, h1, h i List.mem_cons_self, List.length_cons, Nat.succ_mul]
    omega
theorem twice_pow (A c s : Nat) (hs : s + 1 ≤ 15) : A * 2 ^ (15 - s) + c * 2 ^ (15 - (s + 1)) = (2 * A + c) * 2 ^ (15 - (s + 1)) := by
  rw [show 15 - s = (15 - (s + 1)) + 1 by omega, Nat.pow_succ, Nat.add_mul, Nat.mul_comm 2 A, Nat.mul_assoc A 2, Nat.mul_comm 2 (2 ^ (15 - (s + 1)))]
theorem wt_up (ls : List Nat) : ∀ s, s ≤ 15 → wt ls (ordUp ls s) = (first ls s + cnt ls s) * 2 ^ (15 - s)
  | 0, _ => by simp [wt, ordUp, first, cnt]
  | s + 1, hs => by
    rw [ordUp_succ, wt_append, wt_up ls s (by omega), wt_same ls (s + 1) _ (fun i hi => ((ordN_mem ls (s + 1) i).1 hi).2)]
    have e : first ls (s + 1) = 2 * (first ls s + cnt ls s) := rfl
    have c : cnt ls (s + 1) = (ordN ls (s + 1)).length := rfl
    rw [e, c, twice_pow _ _ _ hs]
theorem nodup_at {l : List Nat} (h : l.Nodup) (i j : Nat) (hi : i < l.length) (hj : j < l.length) (e : l[i] = l[j]) : i = j := by
  have hp := List.pairwise_iff_getElem.1 h
  rcases Nat.lt_trichotomy i j with h1 | h1 | h1
  · exact absurd e (hp i j hi hj h1)
  · exact h1
  · exact absurd e.symm (hp j i hj hi h1)
theorem code_at (ls : List Nat) : ∀ (s : Nat), s ≤ 15 → ∀ (pre post : List Nat) (i : Nat), ordUp ls s = pre ++ i :: post → codeOf ls i * 2 ^ (15 - ls.getD i 0) = wt ls pre
  | 0, _, pre, post, i, h => by simp [ordUp] at h
  | s + 1, hs, pre, post, i, h => by
    rw [ordUp_succ] at h
    rcases List.append_eq_append_iff.1 h with ⟨a, h1, h2⟩ | ⟨a, h1, h2⟩
    · have hn : ls.getD i 0 = s + 1 := ((ordN_mem ls (s + 1) i).1 (by rw [h2]; simp)).2
      have hi : i < ls.length := ((ordN_mem ls (s + 1) i).1 (by rw [h2]; simp)).1
      have hr : rank ls i = a.length := by
        have h3 := ordN_rank ls i hi
        rw [hn, h2] at h3
        have hnd : (a ++ i :: post).Nodup := by rw [← h2]; exact List.Pairwise.imp (fun h e => by omega) (ordN_rise ls (s + 1))
        have h4 : (a ++ i :: post)[a.length]? = some i := by rw [List.getElem?_append_right (Nat.le_refl _), Nat.sub_self]; rfl
        obtain ⟨l1, e1⟩ := List.getElem?_eq_some_iff.1 h3
        obtain ⟨l2, e2⟩ := List.getElem?_eq_some_iff.1 h4
        exact nodup_at hnd _ _ l1 l2 (e1.trans e2.symm)
      have hc : codeOf ls i = first ls (s + 1) + a.length := by
        unfold codeOf
        rw [if_neg (by omega), hn, hr]
      rw [h1, wt_append, wt_up ls s (by omega), wt_same ls (s + 1) a (fun j hj => ((ordN_mem ls (s + 1) j).1 (by rw [h2]; exact List.mem_append_left _ hj)).2), hc, hn]
      have e : first ls (s + 1) = 2 * (first ls s + cnt ls s) := rfl
      rw [e, twice_pow _ _ _ hs]
    · cases a with
      | nil =>
        rw [List.nil_append] at h2
        rw [List.append_nil] at h1
        have hn : ls.getD i 0 = s + 1 := ((ordN_mem ls (s + 1) i).1 (by rw [← h2]; simp)).2
        have hi : i < ls.length := ((ordN_mem ls (s + 1) i).1 (by rw [← h2]; simp)).1
        have hr : rank ls i = 0 := by
          have h3 := ordN_rank ls i hi
          rw [hn, ← h2] at h3
          have hnd : (i :: post).Nodup := by rw [h2]; exact List.Pairwise.imp (fun h e => by omega) (ordN_rise ls (s + 1))
          have h4 : (i :: post)[0]? = some i := rfl
          obtain ⟨l1, e1⟩ := List.getElem?_eq_some_iff.1 h3
          obtain ⟨l2, e2⟩ := List.getElem?_eq_some_iff.1 h4
          exact nodup_at hnd _ _ l1 l2 (e1.trans e2.symm)
        have hc : codeOf ls i = first ls (s + 1) := by
          unfold codeOf
          rw [if_neg (by omega), hn, hr]; rfl
        rw [← h1, wt_up ls s (by omega), hc, hn]
        have e : first ls (s + 1) = 2 * (first ls s + cnt ls s) := rfl
        have := twice_pow (first ls s + cnt ls s) 0 s hs
        rw [Nat.zero_mul, Nat.add_zero, Nat.add_zero] at this
        rw [e, this]
      | cons b a =>
        rw [List.cons_append] at h2
        injection h2 with h3 h4
        subst h3
        exact code_at ls s (by omega) pre a i h1
/-- the code of a place, its highest bit first -/
def codeS (ls : List Nat) (i : Nat) : List Bool := hi (ls.getD i 0) (codeOf ls i)
theorem codeS_none (ls : List Nat) (i : Nat) (h : ls.getD i 0 = 0) : codeS ls i = [] := by unfold codeS; rw [h]; rfl
theorem hi_succ (n c : Nat) : hi (n + 1) c = hi n (c / 2) ++ [decide (c % 2 = 1)] := by
  unfold hi numBits
  rw [List.range_succ_eq_map, List.map_cons, List.reverse_cons, List.map_map]
  congr 1
  · congr 1
    apply List.map_congr_left
    intro k _
    show c.testBit (k + 1) = (c / 2).testBit k
    rw [Nat.testBit_succ]
  · rw [Nat.testBit_zero]
/-- one more: the last '0' turns, and all behind it -/
theorem hi_more : ∀ (n c : Nat), c + 1 < 2 ^ n → ∃ a t, hi n c = a ++ false :: List.replicate t true ∧ hi n (c + 1) = a ++ true :: List.replicate t false
  | 0, c, h => by simp at h
  | n + 1, c, h => by
    rw [Nat.pow_succ] at h
    rcases Nat.mod_two_eq_zero_or_one c with h0 | h0
    · refine ⟨hi n (c / 2), 0, ?_, ?_⟩
      · rw [hi_succ, h0]; rfl
      · rw [hi_succ, show (c + 1) / 2 = c / 2 by omega, show (c + 1) % 2 = 1 by omega]; rfl
    · obtain ⟨a, t, h1, h2⟩ := hi_more n (c / 2) (by omega)
      refine ⟨a, t + 1, ?_, ?_⟩
      · rw [hi_succ, h0, h1, List.replicate_succ']
        simp
      · rw [hi_succ, show (c + 1) / 2 = c / 2 + 1 by omega, show (c + 1) % 2 = 0 by omega, h2, List.replicate_succ']
        simp
theorem hi_far : ∀ (d n c : Nat), hi (n + d) (c * 2 ^ d) = hi n c ++ List.replicate d false
  | 0, n, c => by simp
  | d + 1, n, c => by
    rw [← Nat.add_assoc, hi_succ, Nat.pow_succ, ← Nat.mul_assoc, Nat.mul_div_cancel _ (by decide), hi_far d n c, Nat.mul_mod_left, List.replicate_succ']
    simp
/-- the first code -/
theorem codeS_first (ls : List Nat) (i : Nat) (post : List Nat) (h : ordUp ls 15 = i :: post) : codeS ls i = List.replicate (ls.getD i 0) false := by
  have h1 := code_at ls 15 (Nat.le_refl _) [] post i h
  have h0 : codeOf ls i = 0 := by
    rcases Nat.mul_eq_zero.1 (h1.trans (by rfl)) with h | h
    · exact h
    · exact absurd h (Nat.pos_iff_ne_zero.1 (Nat.two_pow_pos _))
  unfold codeS
  rw [h0]
  have := hi_far (ls.getD i 0) 0 0
  rw [Nat.zero_add, Nat.zero_mul] at this
  rw [this]; rfl
/-- the code behind a code -/
theorem codeS_next (ls : List Nat) (hl : ∀ x ∈ ls, x ≤ 15) (hr : room ls ≤ 32768) (pre post : List Nat) (i j : Nat) (h : ordUp ls 15 = pre ++ i :: j :: post) :
    ls.getD i 0 ≤ ls.getD j 0 ∧ ∃ a t, codeS ls i = a ++ false :: List.replicate t true ∧ codeS ls j = (a ++ true :: List.replicate t false) ++ List.replicate (ls.getD j 0 - ls.getD i 0) false := by
  have hi_ := (ordUp_mem ls 15 i).1 (by rw [h]; simp)
  have hj_ := (ordUp_mem ls 15 j).1 (by rw [h]; simp)
  have hle : ls.getD i 0 ≤ ls.getD j 0 := by
    have hp := ordUp_le_pl ls 15
    rw [h, List.map_append, List.pairwise_append] at hp
    have h2 := hp.2.1
    rw [List.map_cons, List.pairwise_cons] at h2
    have h3 := h2.1 (ls.getD j 0, j) (by simp)
    unfold lePl at h3
    simp only at h3
    omega
  have h1 := code_at ls 15 (Nat.le_refl _) pre (j :: post) i h
  have h2 := code_at ls 15 (Nat.le_refl _) (pre ++ [i]) post j (by rw [h]; simp)
  rw [wt_append, ← h1, show wt ls [i] = 2 ^ (15 - ls.getD i 0) by simp [wt]] at h2
  have hd : codeOf ls j = (codeOf ls i + 1) * 2 ^ (ls.getD j 0 - ls.getD i 0) := by
    have hp : (2 : Nat) ^ (15 - ls.getD i 0) = 2 ^ (ls.getD j 0 - ls.getD i 0) * 2 ^ (15 - ls.getD j 0) := by rw [← Nat.pow_add]; congr 1; omega
    have h3 : codeOf ls j * 2 ^ (15 - ls.getD j 0) = ((codeOf ls i + 1) * 2 ^ (ls.getD j 0 - ls.getD i 0)) * 2 ^ (15 - ls.getD j 0) := by
      rw [h2, hp, Nat.add_mul (codeOf ls i) 1, Nat.add_mul, Nat.one_mul, Nat.mul_assoc]
    exact Nat.eq_of_mul_eq_mul_right (Nat.two_pow_pos _) h3
  have hlt := codeOf_lt ls j hj_.1 hj_.2.1 hl hr
  have hlt2 : codeOf ls i + 1 < 2 ^ ls.getD i 0 := by
    rw [hd] at hlt
    have hp : (2 : Nat) ^ ls.getD j 0 = 2 ^ ls.getD i 0 * 2 ^ (ls.getD j 0 - ls.getD i 0) := by rw [← Nat.pow_add]; congr 1; omega
    rw [hp] at hlt
    exact Nat.lt_of_mul_lt_mul_right hlt
  obtain ⟨a, t, e1, e2⟩ := hi_more (ls.getD i 0) (codeOf ls i) hlt2
  refine ⟨hle, a, t, e1, ?_⟩
  unfold codeS
  rw [hd, ← e2]
  have := hi_far (ls.getD j 0 - ls.getD i 0) (ls.getD i 0) (codeOf ls i + 1)
  rw [show ls.getD i 0 + (ls.getD j 0 - ls.getD i 0) = ls.getD j 0 by omega] at this
  exact this
end Go.Proofs.Ytfgkfakhlcbdbaa.Cds
