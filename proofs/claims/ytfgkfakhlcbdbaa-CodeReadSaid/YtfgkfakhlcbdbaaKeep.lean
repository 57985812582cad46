/- what is kept while objects of certain types are written. No program in sight. -/
import Derived.Test.YtfgkfakhlcbdbaaApp
namespace Go.Proofs.Ytfgkfakhlcbdbaa
open Go Go.RowKit
set_option linter.unusedVariables false

/-- below 'base' nothing has turned, and no block but those of the element types T -/
structure Keeps (base : Nat) (T : List TypeId) (w w' : World) : Prop where
  os : w'.os = w.os
  tape : w'.tape = w.tape
  output : w'.output = w.output
  size : w.heap.size ≤ w'.heap.size
  block : ∀ k, k < base → w'.heap[k]? = w.heap[k]?
  other : ∀ (k : Nat) (o : Obj), w.heap[k]? = some o → (∀ cs t fr, o = Obj.cells cs t fr → t ∉ T) → w'.heap[k]? = some o

section
variable {base : Nat} {T : List TypeId} {w w' w'' : World}
theorem Keeps.refl (base : Nat) (T : List TypeId) (w : World) : Keeps base T w w := ⟨rfl, rfl, rfl, Nat.le_refl _, fun _ _ => rfl, fun _ _ h _ => h⟩
theorem Keeps.trans (h : Keeps base T w w') (k : Keeps base T w' w'') : Keeps base T w w'' :=
  ⟨k.os.trans h.os, k.tape.trans h.tape, k.output.trans h.output, Nat.le_trans h.size k.size, fun i hi => (k.block i hi).trans (h.block i hi), fun i o ho ht => k.other i o (h.other i o ho ht) ht⟩
theorem Keeps.mono (h : Keeps base T w w') {base' : Nat} {T' : List TypeId} (hb : base' ≤ base) (hT : ∀ t, t ∈ T → t ∈ T') : Keeps base' T' w w' :=
  ⟨h.os, h.tape, h.output, h.size, fun i hi => h.block i (by omega), fun i o ho ht => h.other i o ho fun cs t fr e ht' => ht cs t fr e (hT t ht')⟩
theorem Keeps.drew (h : Keeps base T w w') : Keeps base T w w'.drew := ⟨h.os, h.tape, h.output, h.size, h.block, h.other⟩
theorem Keeps.drewN (h : Keeps base T w w') (n : Nat) : Keeps base T w (w'.drewN n) := ⟨h.os, h.tape, h.output, h.size, h.block, h.other⟩
theorem Keeps.alloc (h : Keeps base T w w') (hb : base ≤ w'.heap.size) (o : Obj) : Keeps base T w (w'.alloc o) :=
  h.trans ⟨rfl, rfl, rfl, by simp, fun k hk => Below.heap_alloc _ _ _ (by omega), fun k x hx _ => by
    have hlt : k < w'.heap.size := by
      rcases Nat.lt_or_ge k w'.heap.size with h | h
      · exact h
      · rw [Array.getElem?_eq_none h] at hx; cases hx
    rw [Below.heap_alloc _ _ _ hlt]; exact hx⟩
/-- what turns nothing that was there -/
theorem Keeps.of_below (h : Below w.heap.size w w') (hb : base ≤ w.heap.size) : Keeps base T w w' :=
  ⟨h.os, h.tape, h.output, h.size, fun k hk => h.block k (by omega), fun k x hx _ => by
    have hlt : k < w.heap.size := by
      rcases Nat.lt_or_ge k w.heap.size with h | h
      · exact h
      · rw [Array.getElem?_eq_none h] at hx; cases hx
    rw [h.block k hlt]; exact hx⟩
theorem Keeps.setCell (h : Keeps base T w w') {p : Addr} {t : TypeId} {cs : Array Value} {fr : Nat × Nat} (hp : w'.heap[p.block]? = some (.cells cs t fr)) (ht : t ∈ T) (hb : base ≤ p.block) (u : Value) : Keeps base T w (w'.setCell p u) :=
  h.trans ⟨rfl, rfl, rfl, by simp [World.setCell], fun k hk => Below.heap_setCell _ _ _ _ (by omega), fun k x hx hn => by
    have hne : k ≠ p.block := by
      rintro rfl
      rw [hp] at hx
      injection hx with hx
      exact hn _ _ _ hx.symm ht
    rw [Below.heap_setCell _ _ _ _ hne]; exact hx⟩
theorem Keeps.grown (h : Keeps base T w w') {e : TypeId} {size n : Nat} {v : Value} {xs : List Value} (hown : w'.ownsRow base e size v n xs) (hg : w'.grownBy w'' v.ownBlock) (ht : e ∈ T) (hB : base ≤ w'.heap.size) : Keeps base T w w'' := by
  refine h.trans ⟨hg.os, hg.tape, hg.output, hg.size, fun k hk => hg.block k (by omega) (fun e => by have := (hown.lt k e.symm).1; omega), fun k x hx hn => ?_⟩
  have hlt : k < w'.heap.size := by
    rcases Nat.lt_or_ge k w'.heap.size with h | h
    · exact h
    · rw [Array.getElem?_eq_none h] at hx; cases hx
  rw [hg.block k hlt ?_]
  · exact hx
  · intro he
    rcases hown.2 with ⟨rfl, _⟩ | ⟨g, cap, cur, rfl, hbg, hgb, r⟩
    · simp [Value.ownBlock] at he
    · have : k = g := by simpa [Value.ownBlock] using he
      subst this
      rw [hgb] at hx
      injection hx with hx
      exact hn _ _ _ hx.symm ht
theorem Keeps.setBlk (h : Keeps base T w w') {g : Nat} {t : TypeId} {cs : Array Value} (hp : Blk w' g t cs) (ht : t ∈ T) (hb : base ≤ g) (i : Nat) (u : Value) : Keeps base T w (w'.setCell ⟨g, i, none⟩ u) :=
  h.setCell (p := ⟨g, i, none⟩) hp ht hb u
theorem Keeps.stored (h : Keeps base T w w') {e : TypeId} {size n m cap g : Nat} {xs : List Value} (hown : w'.ownsRow base e size (.slice (some ⟨g, 0, none⟩) m cap) n xs) (ht : e ∈ T) (i : Nat) (u : Value) : Keeps base T w (w'.setCell ⟨g, i, none⟩ u) := by
  rcases hown.2 with ⟨hv, _⟩ | ⟨g', cap', cur, hv, hbg, hg, r⟩
  · cases hv
  · injection hv with hv
    injection hv with hv
    injection hv with hv
    subst hv
    exact h.setCell (p := ⟨g, i, none⟩) hg ht hbg u
theorem Keeps.below (h : Keeps base T w w') : Below base w w' := ⟨h.os, h.tape, h.output, h.size, h.block⟩
theorem Keeps.blk (h : Keeps base T w w') {g : Nat} {t : TypeId} {cs : Array Value} (hb : Blk w g t cs) (ht : t ∉ T) : Blk w' g t cs :=
  h.other g _ hb fun cs' t' fr e => by injection e with e1 e2; rw [← e2]; exact ht
theorem Keeps.own (h : Keeps base T w w') {B : Nat} {e : TypeId} {size n : Nat} {v : Value} {xs : List Value} (hown : w.ownsRow B e size v n xs) (ht : e ∉ T) : w'.ownsRow B e size v n xs := by
  refine ⟨hown.1, ?_⟩
  rcases hown.2 with h1 | ⟨g, cap, cur, rfl, hbg, hg, r⟩
  · exact .inl h1
  · exact .inr ⟨g, cap, cur, rfl, hbg, h.other g _ hg fun cs' t' fr e => by injection e with e1 e2; rw [← e2]; exact ht, r⟩
end
theorem own_ne {w : World} {base : Nat} {e : TypeId} {size n : Nat} {v : Value} {xs : List Value} {g : Nat} {t : TypeId} {cs : Array Value} (h : w.ownsRow base e size v n xs) (hg : Blk w g t cs) (hne : e ≠ t) : v.ownBlock ≠ some g := by
  rcases h.2 with ⟨rfl, _⟩ | ⟨g', cap, cur, rfl, _, hh, _⟩
  · simp [Value.ownBlock]
  · intro he
    have : g' = g := by simpa [Value.ownBlock] using he
    subst this
    unfold Blk at hg
    rw [hh] at hg
    injection hg with hg
    injection hg with _ ht
    exact hne ht
theorem Blk.c0 {w : World} {g : Nat} {t : TypeId} {a b : Value} (h : Blk w g t #[a, b]) : w.cell? ⟨g, 0, none⟩ = some a := by rw [h.cell]; rfl
theorem Blk.c1 {w : World} {g : Nat} {t : TypeId} {a b : Value} (h : Blk w g t #[a, b]) : w.cell? ⟨g, 1, none⟩ = some b := by rw [h.cell]; rfl
theorem Blk.s0 {w : World} {g : Nat} {t : TypeId} {a b : Value} (h : Blk w g t #[a, b]) (u : Value) : Blk (w.setCell ⟨g, 0, none⟩ u) g t #[u, b] := h.set_ 0 u
theorem Blk.s1 {w : World} {g : Nat} {t : TypeId} {a b : Value} (h : Blk w g t #[a, b]) (u : Value) : Blk (w.setCell ⟨g, 1, none⟩ u) g t #[a, u] := h.set_ 1 u
/-- a block, kept while an own row of another element type grows -/
theorem Blk.grown {w w' : World} {g : Nat} {t : TypeId} {cs : Array Value} (hg : Blk w g t cs) {row : Option Nat} (h : w.grownBy w' row) (hne : row ≠ some g) : Blk w' g t cs := (h.block g hg.lt (fun e => hne e.symm)).trans hg
end Go.Proofs.Ytfgkfakhlcbdbaa
