/- the sum of what is turned together. -/
import Derived.Test.YtoncjlbgheaabaaSumPure
namespace Go.Proofs.Ytoncjlbgheaabaa.Sum
open Go Go.RowKit Go.Proofs.Ytoncjlbgheaabaa

def xor3 (a b c : List UInt8) : List UInt8 := List.zipWith (· ^^^ ·) (List.zipWith (· ^^^ ·) a b) c
theorem bitsOf_xor (x y : UInt8) : bitsOf (x ^^^ y) = List.zipWith xor (bitsOf x) (bitsOf y) := by
  unfold bitsOf
  rw [UInt8.toNat_xor]
  apply List.ext_getElem
  · simp
  · intro i h1 h2
    simp
theorem bitsL_xor (a b : List UInt8) (h : a.length = b.length) : bitsL (List.zipWith (· ^^^ ·) a b) = List.zipWith xor (bitsL a) (bitsL b) := by
  induction a generalizing b with
  | nil => cases b with
    | nil => rfl
    | cons y b => simp at h
  | cons x a ih =>
    cases b with
    | nil => simp at h
    | cons y b =>
      have e : ∀ (z : UInt8) (l : List UInt8), bitsL (z :: l) = bitsOf z ++ bitsL l := fun z l => rfl
      rw [List.zipWith_cons_cons, e, e, e, ih b (by simpa using h), bitsOf_xor]
      rw [List.zipWith_append (by rw [bitsOf_length, bitsOf_length])]
theorem not3 (a b c : W32) : ~~~a ^^^ ~~~b ^^^ ~~~c = ~~~(a ^^^ b ^^^ c) := by
  apply BitVec.eq_of_getLsbD_eq
  intro i hi
  simp only [BitVec.getLsbD_not, BitVec.getLsbD_xor, hi, decide_true, Bool.true_and]
  cases a.getLsbD i <;> cases b.getLsbD i <;> cases c.getLsbD i <;> rfl
theorem crc_xor3 (a b c : List UInt8) (h1 : a.length = b.length) (h2 : a.length = c.length) :
    crc 0#32 a ^^^ crc 0#32 b ^^^ crc 0#32 c = crc 0#32 (xor3 a b c) := by
  unfold crc xor3
  have hl : (List.zipWith (· ^^^ ·) a b).length = c.length := by rw [List.length_zipWith]; omega
  rw [crcL_bits, crcL_bits, crcL_bits, crcL_bits, bitsL_xor _ _ hl, bitsL_xor _ _ h1]
  have e1 := crcBits_xor (bitsL a) (bitsL b) (by rw [bitsL_length, bitsL_length, h1]) (~~~0#32) (~~~0#32)
  have e2 := crcBits_xor (List.zipWith xor (bitsL a) (bitsL b)) (bitsL c) (by rw [List.length_zipWith, bitsL_length, bitsL_length, bitsL_length]; omega) (~~~0#32 ^^^ ~~~0#32) (~~~0#32)
  rw [show (~~~0#32 : W32) = ~~~0#32 ^^^ ~~~0#32 ^^^ ~~~0#32 by decide] at *
  rw [show (~~~0#32 ^^^ ~~~0#32 ^^^ ~~~0#32 : W32) = ~~~0#32 by decide] at *
  rw [show (~~~0#32 ^^^ ~~~0#32 ^^^ ~~~0#32 : W32) = ~~~0#32 by decide] at e2
  rw [e2, e1]
  exact not3 _ _ _
theorem xor3_get (a b c : List UInt8) (k : Nat) (h1 : k < a.length) (h2 : k < b.length) (h3 : k < c.length) :
    (xor3 a b c)[k]? = some (a[k] ^^^ b[k] ^^^ c[k]) := by
  simp [xor3, List.getElem?_zipWith, h1, h2, h3]
theorem xor3_length (a b c : List UInt8) : (xor3 a b c).length = min (min a.length b.length) c.length := by simp [xor3]
end Go.Proofs.Ytoncjlbgheaabaa.Sum
