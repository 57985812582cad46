/- Pack of whatever many; Turn and what it says of turning again. -/
import Derived.Test.YtoncjlbgheaabaaBitsBackPure
namespace Go.Proofs.Ytoncjlbgheaabaa.Bits
open Go Go.RowKit Go.Proofs.Ytoncjlbgheaabaa
set_option linter.unusedVariables false

abbrev Pairs (w : World) (v : Value) (l : List (Int × Int)) : Prop := IsL w pairC (fun p => wfI p.1 ∧ wfI p.2) v l
/-- Pack, of whatever many -/
theorem pack_all (v : Value) (l : List (Int × Int)) (w : World) (h : Pairs w v l) :
    Calls Try.prog 24 #[v] w fun e w' => (∃ u c, e = .returned (.tuple #[u, .int .i64 c]) ∧
      (c = 0 ∧ l.length ≤ 3000 ∧ l.all fits = true ∧ w'.ownsRow w.heap.size 5 1 u (pack (bitsP l)).length ((pack (bitsP l)).map u8v) ∨ (u = .slice none 0 0 ∧ c ≠ 0 ∧ (c = 2 ∧ 3000 < l.length ∨ c = 3 ∧ l.length ≤ 3000 ∧ l.all fits = false)))) ∧ Below w.heap.size w w' := by
  obtain ⟨A, cap, rfl, hc1, hc2, hA, hnil, hdeep⟩ := h
  by_cases hl : l.length ≤ 3000
  · refine (pack_any A _ cap l w rfl hl hA hdeep).mono ?_
    rintro e w1 ⟨⟨hf, u, rfl, ho⟩ | ⟨hf, rfl⟩, hb⟩
    · exact ⟨⟨u, 0, rfl, .inl ⟨rfl, hl, hf, ho⟩⟩, hb⟩
    · exact ⟨⟨_, 3, rfl, .inr ⟨rfl, by omega, .inr ⟨rfl, hl, hf⟩⟩⟩, hb⟩
  · refine (pack_many A _ cap w (by omega) (by omega)).mono ?_
    rintro e w1 ⟨rfl, rfl⟩
    exact ⟨⟨_, 2, rfl, .inr ⟨rfl, by omega, .inl ⟨rfl, by omega⟩⟩⟩, Below.refl _ _⟩
/-- Turn, and what it says of turning again -/
theorem turn_back (n size : Int) (w : World) :
    Calls Try.prog 25 #[.int .i64 n, .int .i64 size] w fun e w' => (∃ m c, e = .returned (.tuple #[.int .i64 m, .int .i64 c]) ∧
      (c = 0 → ∀ w2, Calls Try.prog 25 #[.int .i64 m, .int .i64 size] w2 fun e w' => e = .returned (.tuple #[.int .i64 n, .int .i64 0]) ∧ w2 = w')) ∧ w = w' := by
  refine (turn_any n size w).mono ?_
  rintro e w1 ⟨⟨hf, rfl⟩ | ⟨hf, rfl⟩, rfl⟩
  · refine ⟨⟨_, 0, rfl, fun _ w2 => ?_⟩, rfl⟩
    refine (turn_any _ size w2).mono ?_
    rintro e w1 ⟨⟨hf2, rfl⟩ | ⟨hf2, _⟩, rfl⟩
    · obtain ⟨h1, h2, h3, h4⟩ := fits_lt hf
      rw [Int.toNat_natCast, turned_twice _ _ h4]
      exact ⟨ret_ints (by omega) rfl, rfl⟩
    · rw [fits_turned hf] at hf2; cases hf2
  · exact ⟨⟨_, 3, rfl, fun h => absurd h (by omega)⟩, rfl⟩

end Go.Proofs.Ytoncjlbgheaabaa.Bits
