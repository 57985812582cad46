/- bits.Unpack of whatever is given. -/
import Derived.Test.YtoncjlbgheaabaaTurn
import Derived.Test.YtoncjlbgheaabaaPairs
namespace Go.Proofs.Ytoncjlbgheaabaa.Bits
open Go Go.RowKit Go.Proofs.Ytoncjlbgheaabaa
set_option linter.unusedVariables false

/-- what Unpack hands back, as a slice's parts -/
def UnpackC (xs : List UInt8) (zs : List Int) (w : World) (A : Option Addr) (q : Nat) (c : Int) : Prop :=
  ((6000 < xs.length ∨ 3000 < zs.length) ∧ c = 2 ∧ q = 0) ∨
  (xs.length ≤ 6000 ∧ zs.length ≤ 3000 ∧
    ((zs.any badSize = true ∧ c = 3 ∧ q = 0) ∨
     (zs.any badSize = false ∧ (zs.map Int.toNat).sum ≤ 8 * xs.length ∧ c = 0 ∧ q = zs.length ∧ SlAt w A ((unpackL (bitsL xs) (zs.map Int.toNat)).map natV)) ∨
     (zs.any badSize = false ∧ 8 * xs.length < (zs.map Int.toNat).sum ∧ c = 7 ∧ q = 0)))
set_option maxHeartbeats 800000 in
theorem unpack_many (A B : Option Addr) (n m ca cb : Nat) (w : World) (hx : n ≤ maxLen) (hm : m ≤ maxLen) (h : 6000 < n ∨ 3000 < m) :
    Calls Try.prog 27 #[.slice A n ca, .slice B m cb] w fun e w' => e = .returned (.tuple #[.slice none 0 0, .int .i64 2]) ∧ w' = w := by
  unfold maxLen at hx hm
  by_cases h1 : 6000 < n
  · have h1' : 6000 < (n : Int) := by omega
    clear h
    go_enter Try.func27, Try.ntmps27
    go_wp2_with fail
    go_ret2
    exact ⟨rfl, rfl⟩
  · have h1' : ¬ (6000 < (n : Int)) := by omega
    have h2' : 3000 < (m : Int) := by omega
    clear h
    go_enter Try.func27, Try.ntmps27
    go_wp2_with fail
    go_ret2
    exact ⟨rfl, rfl⟩
theorem unpack_all (A B : Option Addr) (n m ca cb : Nat) (xs : List UInt8) (zs : List Int) (w : World) (hn : xs.length = n) (hm : zs.length = m) (hx : n ≤ maxLen) (hy : m ≤ maxLen) (hA : ByAt w A xs) (hB : InAt w B zs) (hz : ∀ x ∈ zs, wfI x) :
    Calls Try.prog 27 #[.slice A n ca, .slice B m cb] w fun e w' => (∃ A1 q c1 c, e = .returned (.tuple #[.slice A1 q c1, .int .i64 c]) ∧ q ≤ c1 ∧ c1 ≤ maxLen ∧ UnpackC xs zs w' A1 q c) ∧ Below w.heap.size w w' := by
  by_cases h : 6000 < n ∨ 3000 < m
  · refine (unpack_many A B n m ca cb w hx hy h).mono ?_
    rintro e w' ⟨rfl, rfl⟩
    exact ⟨⟨none, 0, 0, 2, rfl, by omega, by unfold maxLen; omega, .inl ⟨by omega, rfl, rfl⟩⟩, Below.refl _ _⟩
  · refine (unpack_any A B n m ca cb xs zs w hn hm (by omega) (by omega) hA hB hz).mono ?_
    rintro e w' ⟨⟨h1, rfl⟩ | ⟨h1, h2, v, rfl, ho⟩ | ⟨h1, h2, rfl⟩, hb⟩
    · exact ⟨⟨none, 0, 0, 3, rfl, by omega, by unfold maxLen; omega, .inr ⟨by omega, by omega, .inl ⟨h1, rfl, rfl⟩⟩⟩, hb⟩
    · obtain ⟨A1, c1, rfl, g1, g2, g3, _⟩ := own_slat ho
      exact ⟨⟨A1, _, c1, 0, rfl, g1, g2, .inr ⟨by omega, by omega, .inr (.inl ⟨h1, h2, rfl, rfl, g3⟩)⟩⟩, hb⟩
    · exact ⟨⟨none, 0, 0, 7, rfl, by omega, by unfold maxLen; omega, .inr ⟨by omega, by omega, .inr (.inr ⟨h1, h2, rfl, rfl⟩)⟩⟩, hb⟩
end Go.Proofs.Ytoncjlbgheaabaa.Bits
