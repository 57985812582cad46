/- two rows of the call's own, appended to in one statement that draws its order. No program in sight. -/
import Derived.Test.YthfbjgdophjelaaApp
import Derived.Deep.RegionLaw
namespace Go.Proofs.Ythfbjgdophjelaa
open Go Go.RowKit
set_option linter.unusedVariables false

/-- two rows of the call's own, apart, and one-element slices that lie apart from both -/
def Two (w0 w : World) (e : TypeId) (v1 v2 : Value) (xs ys : List Value) (l : List (Nat × TypeId × Array Value)) : Prop :=
  w.ownsRow w0.heap.size e 1 v1 xs.length xs ∧ w.ownsRow w0.heap.size e 1 v2 ys.length ys ∧ Below w0.heap.size w0 w ∧
  (∀ g, v1.ownBlock = some g → v2.ownBlock ≠ some g) ∧ ∀ p ∈ l, Blk w p.1 p.2.1 p.2.2 ∧ v1.ownBlock ≠ some p.1 ∧ v2.ownBlock ≠ some p.1
section
variable {w0 w : World} {e : TypeId} {v1 v2 : Value} {xs ys : List Value} {l : List (Nat × TypeId × Array Value)}
theorem Two.start (h : Below w0.heap.size w0 w) : Two w0 w e (.slice none 0 0) (.slice none 0 0) [] [] [] :=
  ⟨World.ownsRow_nil .., World.ownsRow_nil .., h, fun g hg => by simp [Value.ownBlock] at hg, fun p hp => by simp at hp⟩
theorem Two.symm (h : Two w0 w e v1 v2 xs ys l) : Two w0 w e v2 v1 ys xs l :=
  ⟨h.2.1, h.1, h.2.2.1, fun g h1 h2 => h.2.2.2.1 g h2 h1, fun p hp => ⟨(h.2.2.2.2 p hp).1, (h.2.2.2.2 p hp).2.2, (h.2.2.2.2 p hp).2.1⟩⟩
theorem Two.clear (h : Two w0 w e v1 v2 xs ys l) : Two w0 w e v1 v2 xs ys [] := ⟨h.1, h.2.1, h.2.2.1, h.2.2.2.1, fun p hp => by simp at hp⟩
theorem Two.drew (h : Two w0 w e v1 v2 xs ys l) : Two w0 w.drew e v1 v2 xs ys l := ⟨h.1, h.2.1, h.2.2.1.drew, h.2.2.2.1, h.2.2.2.2⟩
theorem Two.alloc (h : Two w0 w e v1 v2 xs ys l) (t : TypeId) (cs : Array Value) : Two w0 (w.alloc (.cells cs t)) e v1 v2 xs ys ((w.heap.size, t, cs) :: l) := by
  have hb := (Below.refl w.heap.size w).alloc (Nat.le_refl _) (.cells cs t)
  refine ⟨own_keep h.1 hb, own_keep h.2.1 hb, h.2.2.1.alloc h.2.2.1.size _, h.2.2.2.1, fun p hp => ?_⟩
  rcases List.mem_cons.1 hp with rfl | hp
  · exact ⟨Blk.new w t cs, fun hk => by have := (h.1.lt _ hk).2; omega, fun hk => by have := (h.2.1.lt _ hk).2; omega⟩
  · exact ⟨(h.2.2.2.2 p hp).1.alloc _, (h.2.2.2.2 p hp).2⟩
theorem Two.other (h : Two w0 w e v1 v2 xs ys l) (o : Obj) : Two w0 (w.alloc o) e v1 v2 xs ys l := by
  have hb := (Below.refl w.heap.size w).alloc (Nat.le_refl _) o
  exact ⟨own_keep h.1 hb, own_keep h.2.1 hb, h.2.2.1.alloc h.2.2.1.size _, h.2.2.2.1, fun p hp => ⟨(h.2.2.2.2 p hp).1.alloc _, (h.2.2.2.2 p hp).2⟩⟩
theorem Two.cell (h : Two w0 w e v1 v2 xs ys l) {g : Nat} {t : TypeId} {cs : Array Value} (hm : (g, t, cs) ∈ l) (i : Nat) : w.cell? ⟨g, i, none⟩ = cs[i]? := (h.2.2.2.2 _ hm).1.cell i
theorem Two.lt (h : Two w0 w e v1 v2 xs ys l) {g : Nat} {t : TypeId} {cs : Array Value} (hm : (g, t, cs) ∈ l) : g < w.heap.size := (h.2.2.2.2 _ hm).1.lt
theorem own_far {w' : World} {base size n : Nat} {v u : Value} {zs : List Value} (h : w.ownsRow base e size v n zs) (hg : w.grownBy w' u.ownBlock) (hd : ∀ g, u.ownBlock = some g → v.ownBlock ≠ some g) : w'.ownsRow base e size v n zs := by
  refine ⟨h.1, ?_⟩
  rcases h.2 with hn | ⟨g, cap, cur, rfl, hbg, hk, r⟩
  · exact .inl hn
  · refine .inr ⟨g, cap, cur, rfl, hbg, ?_, r⟩
    rw [hg.block g (lt_of_block hk) (fun hh => hd g hh.symm (by simp [Value.ownBlock]))]; exact hk
theorem Two.app {P : Program} {t ty : TypeId} {z : Value} {bytes : Nat} (h : Two w0 w e v1 v2 xs ys l) (hT : SliceTy P t e z 1 bytes) (g : Nat) (x : Value) (hm : (g, e, #[x]) ∈ l) (h1 : x.oneCell' = true)
    (h63 : xs.length + 1 ≤ maxLen) (hby : (xs.length + 1) * bytes ≤ 140737488355328) (c : Nat) :
    ∃ v' w', (Builtin.append_ #[t, t] ty #[v1, .slice (some ⟨g, 0, none⟩) 1 c]).run P w = .ok v' w' ∧ Two w0 w' e v' v2 (xs ++ [x]) ys l := by
  obtain ⟨ho1, ho2, hb, hd, hl⟩ := h
  obtain ⟨hk, hn1, hn2⟩ := hl _ hm
  obtain ⟨v', w', hrun, hown, hg, hloc⟩ := run_app (P := P) w w0.heap.size t ty e z 1 bytes hT v1 xs.length xs ho1 (some ⟨g, 0, none⟩) 1 c [x] rfl (SlAt.of_heap hk rfl) (by simpa using h1) (by simp) h63 hby hb.size
  refine ⟨v', w', hrun, by simpa using hown, own_far ho2 hg hd, own_below ho1 hg hb hb.size, fun k hk1 hk2 => ?_, fun p hp => ⟨?_, ?_, (hl p hp).2.2⟩⟩
  · rcases hloc with e1 | e1
    · exact hd k (by rw [← e1]; exact hk1) hk2
    · rw [e1] at hk1; injection hk1 with hk1; have := (ho2.lt _ hk2).2; omega
  · have := (hl p hp).1
    unfold Blk at this ⊢
    rw [hg.block p.1 (lt_of_block this) (fun hh => (hl p hp).2.1 hh.symm)]; exact this
  · rcases hloc with e1 | e1
    · rw [e1]; exact (hl p hp).2.1
    · rw [e1]; intro hh; injection hh with hh; have := lt_of_block (hl p hp).1; omega
end
theorem step_two {P : Program} {ops : Array Oper} {o : Oper} {a : Act} {w0 w : World} {K : Act → World → Prop} {Q : Exit → Act → World → Prop} {E : Prop}
    (hg : o.guard = none) (s x : Operand) (t : TypeId) (hop : o.op = Op.call { callee := Callee.builtin Builtin.append, args := #[s, x], argTypes := #[t, t] })
    {e : TypeId} {z : Value} {bytes : Nat} (hT : SliceTy P t e z 1 bytes) {v1 v2 : Value} {xs ys : List Value} {l : List (Nat × TypeId × Array Value)}
    (h : Two w0 w e v1 v2 xs ys l) (hs : a.eval s = v1) (g : Nat) (u : Value) (c : Nat) (hx : a.eval x = .slice (some ⟨g, 0, none⟩) 1 c) (hm : (g, e, #[u]) ∈ l) (h1 : u.oneCell' = true)
    (h63 : xs.length + 1 ≤ maxLen) (hby : (xs.length + 1) * bytes ≤ 140737488355328)
    (hK : ∀ v' w', Two w0 w' e v' v2 (xs ++ [u]) ys l → K (a.put o.dst v') w') :
    if Region.wanted o (yielded ops a.tmps) = true then Oper.wp P o a w K Q else E := by
  have hw : Region.wanted o (yielded ops a.tmps) = true := by simp [Region.wanted, hg]
  rw [if_pos hw]
  obtain ⟨v', w', hrun, r⟩ := h.app (ty := o.type) hT g u hm h1 h63 hby c
  unfold Oper.wp
  simp [execOp, hop, resolve, invoke, builtin, hs, hx, hrun, Result.andThen]
  exact hK v' w' r
end Go.Proofs.Ythfbjgdophjelaa
