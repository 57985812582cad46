/- the product of two sums; moving on. -/
import Derived.Test.YtoncjlbgheaabaaSumXorPure
namespace Go.Proofs.Ytoncjlbgheaabaa.Sum
open Go Go.RowKit Go.Proofs.Ytoncjlbgheaabaa

/-- the product, the bits of a from the highest down, so many of them done -/
def prodK (a : W32) : Nat → W32 → W32
  | 0, _ => 0#32
  | i + 1, b => prodK a i b ^^^ (if a.getLsbD (31 - i) then stepN i b else 0#32)
def prod (a b : W32) : W32 := prodK a 32 b
def mask (i : Nat) : W32 := one >>> i
theorem prodK_step (a : W32) (i : Nat) (b : W32) : prodK a i (stepC b) = stepC (prodK a i b) := by
  induction i with
  | zero => simp [prodK, stepC_zero]
  | succ i ih =>
    unfold prodK
    rw [ih, stepC_xor]
    congr 1
    split
    · exact stepN_comm1 i b
    · exact stepC_zero.symm
theorem prod_stepN (a : W32) (n : Nat) (b : W32) : prod a (stepN n b) = stepN n (prod a b) := by
  induction n with
  | zero => rfl
  | succ n ih => unfold stepN; unfold prod at *; rw [prodK_step, ih]
theorem stepN_one (i : Nat) (h : i < 32) : stepN i one = one >>> i := by
  have : ∀ k : Fin 32, stepN k.val one = one >>> k.val := by decide
  exact this ⟨i, h⟩
theorem one_shr (i j : Nat) (h : i < 32) (hj : j < 32) : (one >>> i).getLsbD j = decide (j + i = 31) := by
  have : ∀ a b : Fin 32, (one >>> a.val).getLsbD b.val = decide (b.val + a.val = 31) := by decide +kernel
  exact this ⟨i, h⟩ ⟨j, hj⟩
theorem prodK_one (a : W32) (i : Nat) (hi : i ≤ 32) (j : Nat) (hj : j < 32) : (prodK a i one).getLsbD j = (decide (32 ≤ j + i) && a.getLsbD j) := by
  induction i with
  | zero =>
    have : decide (32 ≤ j + 0) = false := by simp; omega
    rw [this]; simp [prodK]
  | succ i ih =>
    have h31 : 31 - i < 32 := by omega
    unfold prodK
    rw [BitVec.getLsbD_xor, ih (by omega)]
    by_cases e : j + i = 31
    · have h2 : 31 - i = j := by omega
      rw [h2]
      have e1 : decide (32 ≤ j + i) = false := by simp; omega
      have e2 : decide (32 ≤ j + (i + 1)) = true := by simp; omega
      rw [e1, e2]
      cases hb : a.getLsbD j
      · simp
      · simp only [if_true, stepN_one i (by omega), one_shr i j (by omega) hj, e]; rfl
    · have e2 : decide (32 ≤ j + (i + 1)) = decide (32 ≤ j + i) := by rw [decide_eq_decide]; omega
      rw [e2]
      have : (if a.getLsbD (31 - i) then stepN i one else 0#32 : W32).getLsbD j = false := by
        split
        · rw [stepN_one i (by omega), one_shr i j (by omega) hj]; simpa using e
        · simp
      rw [this]; simp
theorem prod_one (a : W32) : prod a one = a := by
  apply BitVec.eq_of_getLsbD_eq
  intro j hj
  unfold prod
  rw [prodK_one a 32 (by omega) j hj]
  have : decide (32 ≤ j + 32) = true := by simp
  rw [this]; simp
theorem prod_on (a : W32) (n : Nat) : prod a (stepN n one) = stepN n a := by rw [prod_stepN, prod_one]
theorem eight : (8388608#32 : W32) = stepN 8 one := by decide
/-- two sums together -/
def both (a b : W32) (n : Nat) : W32 := stepN (8 * n) a ^^^ b
theorem crc_both (a b : List UInt8) : both (crc 0#32 a) (crc 0#32 b) b.length = crc 0#32 (a ++ b) := by
  unfold both crc
  rw [crcL_append, crcL_bits (l := b), crcL_bits (l := b)]
  generalize crcL (~~~0#32) a = s
  have hz := crcBits_xor (bitsL b) (List.replicate (bitsL b).length false) (by simp) (~~~0#32) (~~~s)
  have hb : List.zipWith xor (bitsL b) (List.replicate (bitsL b).length false) = bitsL b := by
    apply List.ext_getElem <;> simp
  rw [hb, crcBits_zeros, bitsL_length] at hz
  have hs : (~~~0#32 : W32) ^^^ ~~~s = s := by
    apply BitVec.eq_of_getLsbD_eq
    intro i hi
    simp only [BitVec.getLsbD_not, BitVec.getLsbD_xor, hi, decide_true, Bool.true_and]
    cases s.getLsbD i <;> simp
  rw [hs] at hz
  rw [hz]
  apply BitVec.eq_of_getLsbD_eq
  intro i hi
  simp only [BitVec.getLsbD_not, BitVec.getLsbD_xor, hi, decide_true, Bool.true_and]
  generalize (stepN (8 * b.length) (~~~s)).getLsbD i = x
  generalize (crcBits (~~~0#32) (bitsL b)).getLsbD i = y
  cases x <;> cases y <;> rfl
theorem crc_on (a b : List UInt8) : crc (crc 0#32 a) b = crc 0#32 (a ++ b) := by
  unfold crc; rw [crcL_append]; simp
end Go.Proofs.Ytoncjlbgheaabaa.Sum
