/- package weigh: how great packs are; pairs, one behind the other. -/
import Derived.Test.YtdponlnfdjfljaaWeighRow
namespace Go.Proofs.Ytdponlnfdjfljaa.Weigh
open Go Go.RowKit Go.Proofs.Ytdponlnfdjfljaa Go.Proofs.Ytdponlnfdjfljaa.SP
set_option linter.unusedVariables false

/-- append onto a row of the call's own, as one step of a region that draws -/
theorem step_app {P : Program} {ops : Array Oper} {o : Oper} {a : Act} {w : World} {K : Act → World → Prop} {Q : Exit → Act → World → Prop} {E : Prop} (hgd : o.guard = none) (s x : Operand) (t : TypeId)
    (hop : o.op = .call { callee := .builtin .append, args := #[s, x], argTypes := #[t, t] })
    (base : Nat) (e : TypeId) (z : Value) (size bytes : Nat) (hT : SliceTy P t e z size bytes)
    (v : Value) (n : Nat) (xs : List Value) (hs : a.eval s = v) (hown : w.ownsRow base e size v n xs)
    (A : Option Addr) (m c : Nat) (news : List Value) (hx : a.eval x = .slice A m c) (hl : news.length = m * size) (hr : SlAt w A news) (h1 : ∀ u ∈ news, u.oneCell' = true)
    (hA : A = none → m = 0) (h63 : n + m ≤ maxLen) (hbytes : (n + m) * bytes ≤ 140737488355328) (hbase : base ≤ w.heap.size)
    (hK : ∀ v' w', w'.ownsRow base e size v' (n + m) (xs ++ news) → w.grownBy w' v.ownBlock → K (a.put o.dst v') w') :
    if Region.wanted o (yielded ops a.tmps) = true then Oper.wp P o a w K Q else E := by
  have hw : Region.wanted o (yielded ops a.tmps) = true := by simp [Region.wanted, hgd]
  rw [if_pos hw]
  obtain ⟨v', w', hrun, h2, h3, h4⟩ := run_app (P := P) w base t o.type e z size bytes hT v n xs hown A m c news hl hr h1 hA h63 hbytes hbase
  unfold Oper.wp
  simp [execOp, hop, resolve, invoke, builtin, hs, hx, hrun, Result.andThen]
  exact hK v' w' h2 h3
theorem own_low {w w' : World} {base el size n m c g : Nat} {xs : List Value} {B : Nat} (h : w.ownsRow base el size (.slice (some ⟨g, 0, none⟩) m c) n xs) (hb : Below B w w') (hg : g < B) : w'.ownsRow base el size (.slice (some ⟨g, 0, none⟩) m c) n xs := by
  refine ⟨h.1, ?_⟩
  rcases h.2 with h1 | ⟨g', cap, cur, hv, hbg, hgb, r⟩
  · exact .inl h1
  · refine .inr ⟨g', cap, cur, hv, hbg, ?_, r⟩
    have : g' = g := by injection hv with hv; injection hv with hv; injection hv with hv; exact hv.symm
    subst this
    rw [hb.block g' hg]; exact hgb
def BdP (t : Nat) (p : Pk) : Prop := p.1 ≤ 1000000 * 2 ^ t ∧ ∀ x ∈ p.2, x ≤ 2 ^ t
theorem BdP.up {t : Nat} {p : Pk} (h : BdP t p) : BdP (t + 1) p := by
  obtain ⟨h1, h2⟩ := h
  refine ⟨by rw [Nat.pow_succ]; omega, fun x hx => ?_⟩
  have := h2 x hx
  rw [Nat.pow_succ]; omega
theorem zip_mem (a b : List Nat) (x : Nat) (h : x ∈ List.zipWith (· + ·) a b) : ∃ y ∈ a, ∃ z ∈ b, x = y + z := by
  induction a generalizing b with
  | nil => simp at h
  | cons c a ih =>
    cases b with
    | nil => simp at h
    | cons d b =>
      rw [List.zipWith_cons_cons, List.mem_cons] at h
      rcases h with h | h
      · exact ⟨c, by simp, d, by simp, h⟩
      · obtain ⟨y, hy, z, hz, e⟩ := ih b h
        exact ⟨y, by simp [hy], z, by simp [hz], e⟩
theorem BdP.both {t : Nat} {p q : Pk} (h : BdP t p) (k : BdP t q) : BdP (t + 1) (both p q) := by
  obtain ⟨h1, h2⟩ := h
  obtain ⟨k1, k2⟩ := k
  refine ⟨by show p.1 + q.1 ≤ _; rw [Nat.pow_succ]; omega, fun x hx => ?_⟩
  obtain ⟨y, hy, z, hz, rfl⟩ := zip_mem _ _ _ hx
  have := h2 y hy
  have := k2 z hz
  rw [Nat.pow_succ]; omega
theorem pairs_two (l : List Pk) (a b : Pk) (j : Nat) (h : l.length = 2 * j) : pairs (l ++ [a, b]) = pairs l ++ [both a b] := by
  induction j generalizing l with
  | zero =>
    have : l = [] := List.eq_nil_of_length_eq_zero (by omega)
    subst this; rfl
  | succ j ih =>
    rcases l with _ | ⟨x, _ | ⟨y, l⟩⟩
    · simp at h
    · simp at h; omega
    · simp only [List.cons_append, pairs]
      rw [ih l (by simp at h; omega)]
theorem pairs_cut (l : List Pk) (j : Nat) (h1 : l.length ≤ 2 * j + 1) (h2 : 2 * j ≤ l.length) : pairs (l.take (2 * j)) = pairs l := by
  induction j generalizing l with
  | zero =>
    rcases l with _ | ⟨x, _ | ⟨y, l⟩⟩
    · rfl
    · rfl
    · simp at h1
  | succ j ih =>
    rcases l with _ | ⟨x, _ | ⟨y, l⟩⟩
    · simp at h2
    · simp at h2; omega
    · have e : 2 * (j + 1) = 2 * j + 1 + 1 := by omega
      rw [e, List.take_succ_cons, List.take_succ_cons]
      simp only [pairs]
      rw [ih l (by simp at h1; omega) (by simp at h2; omega)]
theorem pairs_mem (l : List Pk) (p : Pk) (h : p ∈ pairs l) : ∃ a ∈ l, ∃ b ∈ l, p = both a b := by
  have : ∀ n, ∀ l : List Pk, l.length ≤ n → p ∈ pairs l → ∃ a ∈ l, ∃ b ∈ l, p = both a b := by
    intro n
    induction n with
    | zero => intro l hl hp; rw [List.eq_nil_of_length_eq_zero (by omega : l.length = 0)] at hp; simp [pairs] at hp
    | succ n ih =>
      intro l hl hp
      rcases l with _ | ⟨x, _ | ⟨y, l⟩⟩
      · simp [pairs] at hp
      · simp [pairs] at hp
      · simp only [pairs, List.mem_cons] at hp
        rcases hp with hp | hp
        · exact ⟨x, by simp, y, by simp, hp⟩
        · obtain ⟨a, ha, b, hb, e⟩ := ih l (by simp at hl; omega) hp
          exact ⟨a, by simp [ha], b, by simp [hb], e⟩
  exact this _ l (Nat.le_refl _) h
theorem rows_bd (one : List Pk) (h : ∀ p ∈ one, BdP 0 p) (t : Nat) : ∀ p ∈ rowsP one t, BdP t p := by
  induction t with
  | zero => exact h
  | succ t ih =>
    intro p hp
    have h1 := (stab_perm pkey _).mem_iff.1 hp
    rcases List.mem_append.1 h1 with h2 | h2
    · have : ∀ s, BdP s p := fun s => by
        induction s with
        | zero => exact h p h2
        | succ s ih => exact ih.up
      exact this _
    · obtain ⟨a, ha, b, hb, rfl⟩ := pairs_mem _ p h2
      exact (ih a ha).both (ih b hb)
theorem ones_bd (ls : List Nat) (h : ∀ x ∈ ls, x ≤ 1000000) : ∀ p ∈ stab pkey (ones ls), BdP 0 p := by
  intro p hp
  have h1 := (stab_perm pkey _).mem_iff.1 hp
  unfold ones at h1
  obtain ⟨i, hi, rfl⟩ := List.mem_map.1 h1
  refine ⟨?_, fun x hx => ?_⟩
  · show ls.getD i 0 ≤ _
    rw [List.getD_eq_getElem?_getD]
    by_cases hl : i < ls.length
    · rw [List.getElem?_eq_getElem hl]
      have := h _ (List.getElem_mem hl)
      simp; omega
    · rw [List.getElem?_eq_none (by omega)]; simp
  · simp [unit] at hx
    obtain ⟨j, _, rfl⟩ := hx
    split <;> simp
theorem bd_row {t : Nat} {e : El} (h : BdP t (f2 e)) (ht : t ≤ 15) : e.1 ≤ 40000000000 ∧ ∀ x ∈ e.2.2, x ≤ 40000 := by
  have h2 : (2 : Nat) ^ t ≤ 2 ^ 15 := Nat.pow_le_pow_right (by omega) ht
  refine ⟨?_, fun x hx => ?_⟩
  · have := h.1
    show (f2 e).1 ≤ _
    omega
  · have := h.2 x hx
    omega
theorem cellsP_split (es : List El) (k : Nat) (h : k < es.length) : es.flatMap cellsP = (es.take k).flatMap cellsP ++ (nv es[k].1 :: slv es[k].2.1 :: (es.drop (k + 1)).flatMap cellsP) := by
  have e : es = es.take k ++ es[k] :: es.drop (k + 1) := by rw [← List.drop_eq_getElem_cons h, List.take_append_drop]
  conv => lhs; rw [e]
  rw [List.flatMap_append, List.flatMap_cons]; rfl
theorem cellsP_0 (es : List El) (k : Nat) (h : k < es.length) : (es.flatMap cellsP)[k * 2]? = some (nv es[k].1) := by
  have l : ((es.take k).flatMap cellsP).length = k * 2 := by rw [cellsP_len, List.length_take]; omega
  rw [cellsP_split es k h, List.getElem?_append_right (by omega), l]
  simp
theorem cellsP_1 (es : List El) (k : Nat) (h : k < es.length) : (es.flatMap cellsP)[k * 2 + 1]? = some (slv es[k].2.1) := by
  have l : ((es.take k).flatMap cellsP).length = k * 2 := by rw [cellsP_len, List.length_take]; omega
  rw [cellsP_split es k h, List.getElem?_append_right (by omega), l]
  simp
theorem addAll_snoc (n : Nat) (l : List Pk) (p : Pk) : addAll n (l ++ [p]) = List.zipWith (· + ·) (addAll n l) p.2 := by simp [addAll]
theorem addAll_len (n : Nat) (l : List Pk) (h : ∀ p ∈ l, p.2.length = n) : (addAll n l).length = n := by
  have : ∀ m, ∀ l : List Pk, l.length = m → (∀ p ∈ l, p.2.length = n) → (addAll n l).length = n := by
    intro m
    induction m with
    | zero => intro l hl _; rw [List.eq_nil_of_length_eq_zero hl]; simp [addAll]
    | succ m ih =>
      intro l hl hp
      have hne : l ≠ [] := fun e => by rw [e] at hl; simp at hl
      rw [← List.dropLast_concat_getLast hne, addAll_snoc, List.length_zipWith, ih _ (by simp [hl]) (fun p hp' => hp p ((List.dropLast_sublist l).subset hp')), hp _ (List.getLast_mem hne)]
      omega
  exact this _ l rfl h
theorem addAll_bd (n c : Nat) (l : List Pk) (h : ∀ p ∈ l, ∀ x ∈ p.2, x ≤ c) : ∀ x ∈ addAll n l, x ≤ c * l.length := by
  have : ∀ m, ∀ l : List Pk, l.length = m → (∀ p ∈ l, ∀ x ∈ p.2, x ≤ c) → ∀ x ∈ addAll n l, x ≤ c * l.length := by
    intro m
    induction m with
    | zero => intro l hl _ x hx; rw [List.eq_nil_of_length_eq_zero hl] at hx; simp [addAll] at hx; omega
    | succ m ih =>
      intro l hl hp x hx
      have hne : l ≠ [] := fun e => by rw [e] at hl; simp at hl
      rw [← List.dropLast_concat_getLast hne, addAll_snoc] at hx
      obtain ⟨y, hy, z, hz, rfl⟩ := zip_mem _ _ _ hx
      have h1 := ih l.dropLast (by simp [hl]) (fun p hp' => hp p ((List.dropLast_sublist l).subset hp')) y hy
      have h2 := hp _ (List.getLast_mem hne) z hz
      rw [List.length_dropLast, hl, Nat.add_sub_cancel] at h1
      rw [hl, Nat.mul_succ]; omega
  exact this _ l rfl h
theorem used_ones (zs : List Int) : usedI zs = (ones (natsOf zs)).length := by
  rw [used_len]
  unfold usedI used
  have e : natsOf zs = (List.range (natsOf zs).length).map (fun i => (natsOf zs).getD i 0) := by
    apply List.ext_getElem
    · simp
    · intro i h1 h2
      simp [List.getD_eq_getElem?_getD, h1]
  have h : ((natsOf zs).filter (fun x => decide (0 < x))).length = ((List.range (natsOf zs).length).filter fun i => decide (0 < (natsOf zs).getD i 0)).length := by
    conv => lhs; rw [e]
    rw [List.filter_map, List.length_map]; rfl
  rw [← h]
  unfold natsOf
  rw [List.filter_map, List.length_map]
  congr 1
  apply List.filter_congr
  intro x _
  simp [Function.comp]
theorem ones_le (ls : List Nat) : (ones ls).length ≤ ls.length := by
  rw [used_len]
  unfold used
  have := List.length_filter_le (fun i => decide (0 < ls.getD i 0)) (List.range ls.length)
  rwa [List.length_range] at this
end Go.Proofs.Ytdponlnfdjfljaa.Weigh
