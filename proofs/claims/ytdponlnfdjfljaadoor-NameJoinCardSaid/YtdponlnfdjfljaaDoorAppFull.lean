/- appending one element onto a slice that has no room: a new row. No program in sight. -/
import Derived.Test.YtdponlnfdjfljaaDoorApp
namespace Go.Proofs.YtdponlnfdjfljaaDoor
open Go Go.RowKit

section
variable {P : Program} (w : World)
theorem run_app_full (t ty e : TypeId) (z : Value) (bytes : Nat) (hT : SliceTy P t e z 1 bytes) (A : Option Addr) (n : Nat) (xs : List Value) (hl : xs.length = n) (hA : SlAt w A xs) (hA0 : A = none → n = 0)
    (b : Addr) (c : Nat) (u : Value) (hu : w.cell? (b.add 0) = some u) (h63 : n + 1 ≤ maxLen) (hbytes : (n + 1) * bytes ≤ 140737488355328) :
    ∃ v' w', (Builtin.append_ #[t, t] ty #[.slice A n (if A = none then 0 else n), .slice (some b) 1 c]).run P w = .ok v' w' ∧ w'.ownsRow w.heap.size e 1 v' (n + 1) (xs ++ [u]) ∧ Below w.heap.size w w' := by
  obtain ⟨ht, i, hi, hz, hsize, hby, hzs, hsz⟩ := hT.parts
  have hnews : ∀ j v, [u][j]? = some v → w.cell? (b.add j) = some v := by
    intro j v hj
    match j with
    | 0 => simp at hj; subst hj; exact hu
    | j + 1 => simp at hj
  have hlen : (xs ++ [u]).length = (n + 1) * 1 := by simp [hl]
  have grown : ∀ (old : Nat), old < n + 1 →
      (w.drew.alloc (.cells (xs.toArray ++ [u].toArray ++ Builtin.zeroCells z.cells (grownCap w (n + 1) old e - (n + 1))) e)).ownsRow w.heap.size e 1
        (.slice (some ⟨w.heap.size, 0, none⟩) (n + 1) (grownCap w (n + 1) old e)) (n + 1) (xs ++ [u]) ∧
      Below w.heap.size w (w.drew.alloc (.cells (xs.toArray ++ [u].toArray ++ Builtin.zeroCells z.cells (grownCap w (n + 1) old e - (n + 1))) e)) := by
    intro old ho
    have hge := grownCap_ge w (n + 1) old e
    have hcm : grownCap w (n + 1) old e ≤ maxLen := grownCap_le_maxLen w (n + 1) old e h63
    refine ⟨⟨hlen, .inr ⟨w.heap.size, _, _, rfl, Nat.le_refl _, heap_alloc_new w.drew _, hge, hcm, ?_, ?_⟩⟩, ⟨rfl, rfl, rfl, by simp, fun k hk => heap_alloc_old w.drew _ hk⟩⟩
    · simp only [Array.size_append, List.size_toArray, size_zeroCells, hzs, hl, List.length_cons, List.length_nil, Nat.mul_one]
      omega
    · simp only [Array.toList_append, List.append_assoc]
      rw [← List.append_assoc, ← hlen]
      exact List.take_left
  have hsm : n + 1 ≤ 9223372036854775807 := by unfold maxLen at h63; omega
  subst hby
  rcases A with _ | a
  · have hn := hA0 rfl
    subst hn
    have hx : xs = [] := List.eq_nil_of_length_eq_zero hl
    subst hx
    have hr := run_append_nil (P := P) w t ty e i z ht hi hz b 1 c [u] (by simp [hsize]) hnews (by omega) (by omega) (by simp at hbytes; omega)
    have hg := grown 0 (by omega)
    simp only [Nat.zero_add, List.nil_append, Array.empty_append] at hg ⊢
    exact ⟨_, _, hr, hg.1, hg.2⟩
  · have holds : ∀ j v, xs[j]? = some v → w.cell? (a.add j) = some v := by
      intro j v hj
      have hlt : 0 < xs.length := by
        rcases Nat.lt_or_ge j xs.length with h | h
        · omega
        · rw [List.getElem?_eq_none h] at hj; cases hj
      obtain ⟨g, o, e, hc⟩ := hA hlt
      injection e with e
      subst e
      have := hc j v hj
      unfold Addr.add
      split
      · subst_vars; exact this
      · exact this
    have hr := run_append_grow (P := P) w t ty e i z ht hi hz a n n xs (by simp [hsize, hl]) holds b 1 c [u] (by simp [hsize]) hnews (by omega) (by omega) (growslice_fits (by omega) hbytes)
    have hg := grown n (by omega)
    rw [if_neg (by simp)]
    exact ⟨_, _, hr, hg.1, hg.2⟩
theorem wpList_app_full {ops : Array Oper} {rest : List Oper} {o : Oper} {a : Act} {Q : Exit → Act → World → Prop} (hgd : o.guard = none) (s x : Operand) (t : TypeId)
    (ho : o.op = .call { callee := .builtin .append, args := #[s, x], argTypes := #[t, t] })
    (e : TypeId) (z : Value) (bytes : Nat) (hT : SliceTy P t e z 1 bytes) (A : Option Addr) (n k : Nat) (xs : List Value) (hs : a.eval s = .slice A n k) (hk : k = if A = none then 0 else n) (hl : xs.length = n) (hA : SlAt w A xs) (hA0 : A = none → n = 0)
    (b : Addr) (c : Nat) (u : Value) (hx : a.eval x = .slice (some b) 1 c) (hu : w.cell? (b.add 0) = some u) (h63 : n + 1 ≤ maxLen) (hbytes : (n + 1) * bytes ≤ 140737488355328)
    (h : ∀ v' w', w'.ownsRow w.heap.size e 1 v' (n + 1) (xs ++ [u]) → Below w.heap.size w w' → wpList P ops Q rest (a.put o.dst v') w') : wpList P ops Q (o :: rest) a w :=
  wpList_plain hgd fun _ hK => by
    subst hk
    obtain ⟨v', w', hrun, h2, h3⟩ := run_app_full (P := P) w t o.type e z bytes hT A n xs hl hA hA0 b c u hu h63 hbytes
    unfold Oper.wp execOp
    simp only [ho, resolve, invoke, builtin, Sem.run_bind, Sem.run_pure, Result.andThen_ok, List.map_toArray, List.map_cons, List.map_nil, hs, hx, hrun]
    exact hK _ _ (h v' w' h2 h3)
end
end Go.Proofs.YtdponlnfdjfljaaDoor
