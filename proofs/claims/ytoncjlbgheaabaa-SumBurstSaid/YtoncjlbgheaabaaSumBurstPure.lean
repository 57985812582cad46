/- at most 32 bits that are turned change the sum. -/
import Derived.Test.YtoncjlbgheaabaaSumXorPure
namespace Go.Proofs.Ytoncjlbgheaabaa.Sum
open Go Go.RowKit Go.Proofs.Ytoncjlbgheaabaa

def bitU8 (r : Nat) : UInt8 := UInt8.ofNat (2 ^ r)
/-- one bit turned -/
def turn1 (l : List UInt8) (p : Nat) : List UInt8 := l.set (p / 8) (l.getD (p / 8) 0 ^^^ bitU8 (p % 8))
def turnK (t : W32) (at_ : Nat) : Nat → List UInt8 → List UInt8
  | 0, l => l
  | k + 1, l => if t.getLsbD k then turn1 (turnK t at_ k l) (at_ + k) else turnK t at_ k l
theorem turn1_length (l : List UInt8) (p : Nat) : (turn1 l p).length = l.length := by simp [turn1]
theorem turnK_length (t : W32) (at_ k : Nat) (l : List UInt8) : (turnK t at_ k l).length = l.length := by
  induction k with
  | zero => rfl
  | succ k ih => unfold turnK; split <;> simp [turn1_length, ih]
theorem bitsL_get (l : List UInt8) (i : Nat) (h : i < 8 * l.length) : (bitsL l)[i]? = some ((l.getD (i / 8) 0).toNat.testBit (i % 8)) := by
  induction l generalizing i with
  | nil => simp at h
  | cons x l ih =>
    have e : bitsL (x :: l) = bitsOf x ++ bitsL l := rfl
    rw [e]
    by_cases h8 : i < 8
    · rw [List.getElem?_append_left (by rw [bitsOf_length]; exact h8)]
      simp [bitsOf, h8, Nat.div_eq_of_lt h8, Nat.mod_eq_of_lt h8]
    · rw [List.getElem?_append_right (by rw [bitsOf_length]; omega), bitsOf_length, ih _ (by simp at h; omega)]
      have h1 : i / 8 = (i - 8) / 8 + 1 := by omega
      have h2 : i % 8 = (i - 8) % 8 := by omega
      rw [h1, h2]; simp
theorem bitU8_test (r j : Nat) (hr : r < 8) (hj : j < 8) : (bitU8 r).toNat.testBit j = decide (r = j) := by
  have h : ∀ a b : Fin 8, (bitU8 a.val).toNat.testBit b.val = decide (a.val = b.val) := by decide
  exact h ⟨r, hr⟩ ⟨j, hj⟩
theorem turn1_bit (l : List UInt8) (p i : Nat) (hp : p < 8 * l.length) (hi : i < 8 * l.length) :
    ((turn1 l p).getD (i / 8) 0).toNat.testBit (i % 8) = xor ((l.getD (i / 8) 0).toNat.testBit (i % 8)) (decide (p = i)) := by
  have hd : i / 8 < l.length := by omega
  have hpd : p / 8 < l.length := by omega
  unfold turn1
  by_cases e : p / 8 = i / 8
  · simp only [List.getD_eq_getElem?_getD, List.getElem?_set, e, hd, if_pos, Option.getD_some, UInt8.toNat_xor, Nat.testBit_xor]
    rw [bitU8_test _ _ (by omega) (by omega)]
    congr 1
    rw [decide_eq_decide]; omega
  · simp only [List.getD_eq_getElem?_getD, List.getElem?_set, e, if_false]
    have : decide (p = i) = false := by simp; intro h; subst h; exact e rfl
    rw [this]; simp
theorem turnK_bit (t : W32) (at_ k : Nat) (l : List UInt8) (hk : at_ + k ≤ 8 * l.length) (i : Nat) (hi : i < 8 * l.length) :
    ((turnK t at_ k l).getD (i / 8) 0).toNat.testBit (i % 8) = xor ((l.getD (i / 8) 0).toNat.testBit (i % 8)) (decide (at_ ≤ i) && (decide (i < at_ + k) && t.getLsbD (i - at_))) := by
  induction k with
  | zero =>
    have : (decide (at_ ≤ i) && (decide (i < at_ + 0) && t.getLsbD (i - at_))) = false := by
      by_cases h : at_ ≤ i
      · have : decide (i < at_ + 0) = false := by simp; omega
        rw [this]; simp
      · simp [h]
    rw [this]; simp [turnK]
  | succ k ih =>
    have ih := ih (by omega)
    unfold turnK
    by_cases hb : t.getLsbD k = true
    · rw [if_pos hb, turn1_bit _ _ _ (by rw [turnK_length]; omega) (by rw [turnK_length]; omega), ih, Bool.xor_assoc]
      congr 1
      by_cases e : at_ + k = i
      · subst e
        simp [hb]
      · have e1 : decide (at_ + k = i) = false := by simpa using e
        have e2 : decide (i < at_ + (k + 1)) = decide (i < at_ + k) := by rw [decide_eq_decide]; omega
        rw [e1, e2]; simp
    · rw [if_neg hb, ih]
      congr 1
      by_cases e : at_ + k = i
      · subst e
        have : t.getLsbD k = false := by simpa using hb
        simp [this]
      · have e2 : decide (i < at_ + (k + 1)) = decide (i < at_ + k) := by rw [decide_eq_decide]; omega
        rw [e2]
def bits32 (t : W32) : List Bool := (List.range 32).map fun k => t.getLsbD k
theorem bits32_ne (t : W32) (h : t ≠ 0#32) : true ∈ bits32 t := by
  apply Classical.byContradiction
  intro hn
  apply h
  apply BitVec.eq_of_getLsbD_eq
  intro i hi
  have : ¬ t.getLsbD i = true := fun h1 => hn (by unfold bits32; exact List.mem_map.2 ⟨i, List.mem_range.2 hi, h1⟩)
  simpa using this
theorem turn_bits (t : W32) (at_ : Nat) (l : List UInt8) (h : at_ + 32 ≤ 8 * l.length) :
    bitsL (turnK t at_ 32 l) = List.zipWith xor (bitsL l) (List.replicate at_ false ++ (bits32 t ++ List.replicate (8 * l.length - at_ - 32) false)) := by
  have hl : (bits32 t).length = 32 := by simp [bits32]
  apply List.ext_getElem?
  intro i
  by_cases hi : i < 8 * l.length
  · rw [bitsL_get _ _ (by rw [turnK_length]; exact hi), turnK_bit _ _ _ _ h _ hi, List.getElem?_zipWith, bitsL_get _ _ hi]
    have : (List.replicate at_ false ++ (bits32 t ++ List.replicate (8 * l.length - at_ - 32) false))[i]? = some (decide (at_ ≤ i) && (decide (i < at_ + 32) && t.getLsbD (i - at_))) := by
      by_cases h1 : i < at_
      · rw [List.getElem?_append_left (by simpa using h1), List.getElem?_replicate, if_pos h1]
        have : decide (at_ ≤ i) = false := by simp; omega
        rw [this]; rfl
      · rw [List.getElem?_append_right (by simp; omega), List.length_replicate]
        by_cases h2 : i < at_ + 32
        · rw [List.getElem?_append_left (by rw [hl]; omega)]
          have e1 : decide (at_ ≤ i) = true := by simp; omega
          have e2 : decide (i < at_ + 32) = true := by simpa using h2
          rw [e1, e2]
          simp [bits32, show i - at_ < 32 by omega]
        · rw [List.getElem?_append_right (by rw [hl]; omega), hl, List.getElem?_replicate, if_pos (by omega)]
          have e2 : decide (i < at_ + 32) = false := by simp; omega
          rw [e2]; simp
    rw [this]
  · rw [List.getElem?_eq_none (by rw [bitsL_length, turnK_length]; omega), List.getElem?_eq_none (by simp [bitsL_length, hl]; omega)]
theorem burst (t : W32) (ht : t ≠ 0#32) (at_ : Nat) (l : List UInt8) (h : at_ + 32 ≤ 8 * l.length) : crc 0#32 l ≠ crc 0#32 (turnK t at_ 32 l) := by
  intro he
  have hl : (bits32 t).length = 32 := by simp [bits32]
  have he : crcL (~~~0#32) l = crcL (~~~0#32) (turnK t at_ 32 l) := by
    have := congrArg (fun v : W32 => ~~~v) he
    simpa [crc] using this
  rw [crcL_bits, crcL_bits, turn_bits t at_ l h] at he
  have hx := crcBits_xor (bitsL l) (List.replicate at_ false ++ (bits32 t ++ List.replicate (8 * l.length - at_ - 32) false)) (by simp [bitsL_length, hl]; omega) (~~~0#32) 0#32
  rw [BitVec.xor_zero] at hx
  rw [hx] at he
  have h0 : crcBits 0#32 (List.replicate at_ false ++ (bits32 t ++ List.replicate (8 * l.length - at_ - 32) false)) = 0#32 := by
    have := congrArg (fun v : W32 => crcBits (~~~0#32) (bitsL l) ^^^ v) he
    simp only [← BitVec.xor_assoc, BitVec.xor_self, BitVec.zero_xor] at this
    exact this.symm
  rw [crcBits_append, crcBits_zeros, stepN_zero, crcBits_append, crcBits_zeros, crcBits_word _ (by rw [hl]; omega)] at h0
  refine stepN_ne _ _ (stepN_ne _ _ ?_) h0
  rw [BitVec.zero_xor]
  exact word_inj_ne _ (by rw [hl]; omega) (bits32_ne t ht)
end Go.Proofs.Ytoncjlbgheaabaa.Sum
