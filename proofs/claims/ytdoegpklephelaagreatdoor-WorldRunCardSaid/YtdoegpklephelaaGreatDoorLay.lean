/- rows of cells that are laid over; the builtin clear. -/
import Derived.Test.YtdoegpklephelaaGreatDoorKeep
import Derived.Lib.SliceRun
namespace Go.Proofs.YtdoegpklephelaaGreatDoor
open Go Go.RowKit
set_option linter.unusedVariables false

/-- cells laid over a row from a place on -/
def layL : List Value → Nat → List Value → List Value
  | xs, _, [] => xs
  | xs, o, v :: vs => layL (xs.set o v) (o + 1) vs
theorem layL_mid (vs : List Value) : ∀ (p q r : List Value), q.length = vs.length → layL (p ++ q ++ r) p.length vs = p ++ vs ++ r := by
  induction vs with
  | nil => intro p q r h; cases q with
    | nil => simp [layL]
    | cons _ _ => simp at h
  | cons v vs ih =>
    intro p q r h
    cases q with
    | nil => simp at h
    | cons x q =>
      have e : (p ++ x :: q ++ r).set p.length v = (p ++ [v]) ++ q ++ r := by
        rw [List.append_assoc, List.set_append_right _ _ (Nat.le_refl _), Nat.sub_self]
        simp
      have := ih (p ++ [v]) q r (by simpa using h)
      rw [layL, e]
      rw [show p.length + 1 = (p ++ [v]).length by simp, this]
      simp
theorem own_setCells {base size n m cap g : Nat} {e : TypeId} : ∀ (vs : List Value) (o : Nat) {w : World} {xs : List Value}, w.ownsRow base e size (.slice (some ⟨g, 0, none⟩) m cap) n xs → n = m → (w.setCells g o vs).ownsRow base e size (.slice (some ⟨g, 0, none⟩) m cap) n (layL xs o vs)
  | [], _, _, _, h, _ => h
  | v :: vs, o, w, xs, h, hn => by
    subst hn
    exact own_setCells vs (o + 1) (h.stored o v).1 rfl
theorem keeps_setCells {base size n cap g : Nat} {e : TypeId} {T : List TypeId} {w : World} : ∀ (vs : List Value) (o : Nat) {w' : World} {xs : List Value}, Keeps base T w w' → w'.ownsRow base e size (.slice (some ⟨g, 0, none⟩) n cap) n xs → e ∈ T → Keeps base T w (w'.setCells g o vs)
  | [], _, _, _, h, _, _ => h
  | v :: vs, o, w', xs, h, hown, ht => keeps_setCells vs (o + 1) (h.stored hown ht o v) (hown.stored o v).1 ht
theorem below_setCells' {base g : Nat} {w : World} (hg : base ≤ g) : ∀ (vs : List Value) (o : Nat) {w' : World}, Below base w w' → Below base w (w'.setCells g o vs)
  | [], _, _, h => h
  | v :: vs, o, w', h => below_setCells' hg vs (o + 1) (h.setCell (show base ≤ (⟨g, o, none⟩ : Addr).block from hg) v)
theorem zc_size (z : Array Value) (n : Nat) : (Builtin.zeroCells z n).toList.length = n * z.size := by simp [Builtin.zeroCells]
theorem zc_one (z : Array Value) (n : Nat) (h : ∀ u ∈ z, u.oneCell' = true) (hz : 0 < z.size) : ∀ u ∈ (Builtin.zeroCells z n).toList, u.oneCell' = true := by
  intro u hu
  simp only [Builtin.zeroCells, Array.toList_map, List.mem_map] at hu
  obtain ⟨i, _, rfl⟩ := hu
  have hlt : i % z.size < z.size := Nat.mod_lt _ hz
  rw [getElem!_pos z _ hlt]
  exact h _ (Array.getElem_mem hlt)
theorem run_clear_any {P : Program} (w : World) (t e ty : TypeId) (z : Value) (ht : P.underlying t = some (.slice e)) (hv : ∀ w, (zeroValue e).run P w = .ok z w) (h1 : ∀ u ∈ z.cells, u.oneCell' = true) (hz : 0 < z.cells.size) (b o n c : Nat) (hn : 0 < n)
    (hc : ∀ j, j < n * z.cells.size → (w.cell? ⟨b, o + j, none⟩).isSome = true) (hf : ∀ j, j < n * z.cells.size → w.frozen? ⟨b, o + j, none⟩ = false) :
    (Builtin.clear_ #[t] ty #[.slice (some ⟨b, o, none⟩) n c]).run P w = .ok (.tuple #[]) (w.setCells b o (Builtin.zeroCells z.cells n).toList) := by
  have hst := run_storeCells_cells (P := P) b o (Builtin.zeroCells z.cells n).toList 0 w (by rw [zc_size]; simpa using hc) (by rw [zc_size]; simpa using hf) (zc_one _ _ h1 hz)
  simp only [Nat.add_zero] at hst
  obtain ⟨m, rfl⟩ : ∃ m, n = m + 1 := ⟨n - 1, by omega⟩
  simp [Builtin.clear_, run_underlying ht, hv, hst]
theorem run_clear_none {P : Program} (w : World) (t e ty : TypeId) (ht : P.underlying t = some (.slice e)) (A : Option Addr) (c : Nat) :
    (Builtin.clear_ #[t] ty #[.slice A 0 c]).run P w = .ok (.tuple #[]) w := by
  cases A <;> simp [Builtin.clear_, run_underlying ht]
end Go.Proofs.YtdoegpklephelaaGreatDoor
