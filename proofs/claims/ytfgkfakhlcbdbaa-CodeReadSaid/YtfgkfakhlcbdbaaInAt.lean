/- numbers that are read. -/
import Derived.Test.YtfgkfakhlcbdbaaApp
import Derived.Test.YtfgkfakhlcbdbaaProg
import Derived.WalkSpells
import Derived.Deep.QuietTactic
import Derived.BigQuiet
namespace Go.Proofs.Ytfgkfakhlcbdbaa
open Go Go.RowKit
set_option linter.unusedVariables false

def iv (x : Int) : Value := .int .i64 x
def InAt (w : World) (A : Option Addr) (xs : List Int) : Prop := SlAt w A (xs.map iv)
theorem InAt.below {w w' : World} {A : Option Addr} {xs : List Int} (h : InAt w A xs) (hb : Below w.heap.size w w') : InAt w' A xs := SlAt.below h hb
theorem InAt.get {w : World} {A : Option Addr} {xs : List Int} (h : InAt w A xs) {k : Nat} (hk : k < xs.length) :
    ∃ b o, A = some ⟨b, o, none⟩ ∧ w.cell? ⟨b, o + k, none⟩ = some (.int .i64 xs[k]) := by
  obtain ⟨b, o, e, hc⟩ := SlAt.get h (k := k) (by simpa using hk)
  exact ⟨b, o, e, by rw [hc]; simp [iv]⟩

theorem below_drewN' {B : Nat} {a w : World} (h : Below B a w) (n : Nat) : Below B a (w.drewN n) := ⟨h.os, h.tape, h.output, h.size, h.block⟩
theorem take_eq_succ {α : Type} [DecidableEq α] (xs ys : List α) (k : Nat) (h1 : k < xs.length) (h2 : k < ys.length) (h : xs.take k = ys.take k) (he : xs[k] = ys[k]) : xs.take (k + 1) = ys.take (k + 1) := by
  rw [take_snoc _ _ h1, take_snoc _ _ h2, h, he]
theorem ne_of_get {α : Type} (xs ys : List α) (k : Nat) (h1 : k < xs.length) (h2 : k < ys.length) (he : xs[k] ≠ ys[k]) : xs ≠ ys := by
  intro h; subst h; exact he rfl
end Go.Proofs.Ytfgkfakhlcbdbaa
