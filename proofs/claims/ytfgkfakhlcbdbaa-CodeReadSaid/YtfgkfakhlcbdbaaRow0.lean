/- bits of numbers, as the machine reckons them. No program's text in sight. -/
import Derived.Test.YtfgkfakhlcbdbaaKeep
import Derived.Test.YtfgkfakhlcbdbaaBitsPure
import Derived.Test.YtfgkfakhlcbdbaaProg
import Derived.WalkSpells
namespace Go.Proofs.Ytfgkfakhlcbdbaa.Bits
open Go Go.RowKit Go.Proofs.Ytfgkfakhlcbdbaa
set_option linter.unusedVariables false

theorem ty8 : SliceTy Try.prog 23 5 (.int .u8 0) 1 1 := ⟨Try.underlying23, by kernel_rfl, rfl, by omega⟩
theorem and_bit64 (n k : Nat) (h : n < 9223372036854775808) : bits .and .i64 ((n : Int) / 2 ^ k) 1 = ((n.testBit k).toNat : Int) := by
  have h2 : (n : Int) / 2 ^ k = ((n / 2 ^ k : Nat) : Int) := by simp
  have hlt : n / 2 ^ k < 9223372036854775808 := Nat.lt_of_le_of_lt (Nat.div_le_self _ _) h
  have hx : BitVec.ofInt 64 ((n / 2 ^ k : Nat) : Int) = BitVec.ofNat 64 (n / 2 ^ k) := by rw [BitVec.ofInt_natCast]
  rw [h2]
  show IntKind.i64.wrap ((BitVec.ofInt 64 ((n / 2 ^ k : Nat) : Int) &&& BitVec.ofInt 64 (1 : Int)).toNat : Int) = _
  have h1 : (BitVec.ofInt 64 ((n / 2 ^ k : Nat) : Int) &&& BitVec.ofInt 64 (1 : Int)).toNat = (n / 2 ^ k) % 2 := by
    rw [hx, BitVec.toNat_and, BitVec.toNat_ofNat, Nat.mod_eq_of_lt (by omega), show (BitVec.ofInt 64 (1 : Int)).toNat = 1 from rfl, nat_mask1]
  rw [h1, Nat.toNat_testBit]; exact IntWalk.i64_in _ (by omega)
/-- one bit, closed to simp -/
def bitI (b : Bool) : Int := (b.toNat : Int)
theorem and_bitI (n k : Nat) (h : n < 9223372036854775808) : bits .and .i64 ((n : Int) / 2 ^ k) 1 = bitI (n.testBit k) := and_bit64 n k h

end Go.Proofs.Ytfgkfakhlcbdbaa.Bits
