/- []int that came in. No program in sight. -/
import Derived.Test.YtfgkfakhlcbdbaaPairs
import Derived.Test.YtfgkfakhlcbdbaaEqual
namespace Go.Proofs.Ytfgkfakhlcbdbaa
open Go Go.RowKit
abbrev Ints (w : World) (v : Value) (l : List Int) : Prop := IsL w intC wfI v l
theorem flat_iv (l : List Int) : l.flatMap intC = l.map iv := by
  induction l with
  | nil => rfl
  | cons a l ih => rw [List.flatMap_cons, ih]; rfl
theorem ints_at {w : World} {A : Option Addr} {l : List Int} (h : SlAt w A (l.flatMap intC)) : InAt w A l := by
  unfold InAt; rw [← flat_iv]; exact h
end Go.Proofs.Ytfgkfakhlcbdbaa
