/- rows of bits in bytes: the plain law. No program in sight. -/
import Derived.Test.YtfgkfakhlcbdbaaApp
namespace Go.Proofs.Ytfgkfakhlcbdbaa.Bits
open Go Go.RowKit Go.Proofs.Ytfgkfakhlcbdbaa
set_option linter.unusedVariables false

/-- a number by its bits, the lowest first -/
def num : List Bool → Nat
  | [] => 0
  | b :: l => b.toNat + 2 * num l
def byteOf (l : List Bool) : UInt8 := UInt8.ofNat (num l)
/-- a row of bits in bytes -/
def pack (l : List Bool) : List UInt8 := (List.range ((l.length + 7) / 8)).map fun i => byteOf ((l.drop (8 * i)).take 8)
/-- the lowest bits of a number, the lowest first -/
def numBits (n size : Nat) : List Bool := (List.range size).map fun k => n.testBit k
/-- the bits of a byte, of bytes -/
def bitsOf (x : UInt8) : List Bool := numBits x.toNat 8
def bitsL (l : List UInt8) : List Bool := l.flatMap bitsOf

theorem num_lt (l : List Bool) : num l < 2 ^ l.length := by
  induction l with
  | nil => simp [num]
  | cons b l ih =>
    unfold num
    simp only [List.length_cons, Nat.pow_succ]
    cases b <;> simp <;> omega
theorem num_append (l m : List Bool) : num (l ++ m) = num l + 2 ^ l.length * num m := by
  induction l with
  | nil => simp [num]
  | cons b l ih =>
    simp only [List.cons_append, num, ih, List.length_cons, Nat.pow_succ]
    rw [Nat.mul_add, Nat.mul_comm (2 ^ l.length) 2, Nat.mul_assoc]; omega
theorem num_testBit (l : List Bool) (k : Nat) : (num l).testBit k = l.getD k false := by
  induction l generalizing k with
  | nil => simp [num]
  | cons b l ih =>
    cases k with
    | zero =>
      unfold num; rw [Nat.testBit_zero]
      cases b <;> simp [Nat.add_mod]
    | succ k =>
      unfold num
      rw [Nat.testBit_succ]
      have : (b.toNat + 2 * num l) / 2 = num l := by cases b <;> simp <;> omega
      rw [this, ih]; simp
theorem numBits_length (n size : Nat) : (numBits n size).length = size := by simp [numBits]
theorem numBits_num (l : List Bool) : numBits (num l) l.length = l := by
  apply List.ext_getElem
  · simp [numBits]
  · intro i h1 h2
    simp [numBits, num_testBit, List.getD, h2]
theorem num_numBits (n size : Nat) : num (numBits n size) = n % 2 ^ size := by
  apply Nat.eq_of_testBit_eq
  intro i
  rw [num_testBit, Nat.testBit_mod_two_pow]
  by_cases h : i < size
  · simp [numBits, h]
  · simp [numBits, h]
theorem numBits_succ (n k : Nat) : numBits n (k + 1) = numBits n k ++ [n.testBit k] := by
  simp [numBits, List.range_succ]
theorem bitsOf_length (x : UInt8) : (bitsOf x).length = 8 := numBits_length _ _
theorem bitsL_length (l : List UInt8) : (bitsL l).length = 8 * l.length := by
  induction l with
  | nil => rfl
  | cons x l ih => simp only [bitsL, List.flatMap_cons, List.length_append, bitsOf_length, List.length_cons] at *; omega
theorem bitsL_append (l m : List UInt8) : bitsL (l ++ m) = bitsL l ++ bitsL m := by simp [bitsL]
theorem bitsL_cons (x : UInt8) (l : List UInt8) : bitsL (x :: l) = bitsOf x ++ bitsL l := rfl
theorem byteOf_num (l : List Bool) (h : l.length ≤ 8) : (byteOf l).toNat = num l := by
  unfold byteOf; rw [UInt8.toNat_ofNat']
  have := num_lt l
  have h2 : 2 ^ l.length ≤ 2 ^ 8 := Nat.pow_le_pow_right (by omega) h
  exact Nat.mod_eq_of_lt (by omega)
theorem pack_length (l : List Bool) : (pack l).length = (l.length + 7) / 8 := by simp [pack]
theorem pack_nil : pack [] = [] := rfl
theorem pack_get (l : List Bool) (i : Nat) (h : i < (l.length + 7) / 8) : (pack l)[i]'(by rw [pack_length]; exact h) = byteOf ((l.drop (8 * i)).take 8) := by simp [pack]
/-- a bit onto a row that ends with a whole byte -/
theorem pack_new (l : List Bool) (b : Bool) (h : l.length % 8 = 0) : pack (l ++ [b]) = pack l ++ [byteOf [b]] := by
  apply List.ext_getElem
  · simp [pack_length]; omega
  · intro i h1 h2
    rw [pack_length] at h1
    simp at h1
    rw [pack_get _ _ (by simpa using h1)]
    by_cases hi : i < (l.length + 7) / 8
    · rw [List.getElem_append_left (by rw [pack_length]; exact hi), pack_get _ _ hi]
      rw [List.drop_append_of_le_length (by omega), List.take_append_of_le_length (by simp; omega)]
    · rw [List.getElem_append_right (by rw [pack_length]; omega)]
      have : i = (l.length + 7) / 8 := by omega
      subst this
      simp [pack_length]
      have e : 8 * ((l.length + 7) / 8) = l.length := by omega
      rw [e]; simp
/-- a bit onto a row whose last byte has room -/
theorem pack_more (l : List Bool) (b : Bool) (h : l.length % 8 ≠ 0) :
    pack (l ++ [b]) = (pack l).set (l.length / 8) ((pack l).getD (l.length / 8) 0 ||| UInt8.ofNat (b.toNat * 2 ^ (l.length % 8))) := by
  have hl : (l.length + 7) / 8 = l.length / 8 + 1 := by omega
  have h8 : (l.length + 1 + 7) / 8 = l.length / 8 + 1 := by omega
  apply List.ext_getElem
  · simp [pack_length]; omega
  · intro i h1 h2
    rw [pack_length] at h1
    simp at h1
    rw [pack_get _ _ (by simpa using h1), List.getElem_set]
    by_cases hi : i = l.length / 8
    · subst hi
      rw [if_pos rfl]
      have hg : (pack l).getD (l.length / 8) 0 = byteOf ((l.drop (8 * (l.length / 8))).take 8) := by
        rw [List.getD_eq_getElem?_getD, List.getElem?_eq_getElem (by rw [pack_length]; omega), Option.getD_some, pack_get _ _ (by omega)]
      rw [hg, List.drop_append_of_le_length (by omega)]
      have hd : (l.drop (8 * (l.length / 8))).length = l.length % 8 := by simp; omega
      generalize l.drop (8 * (l.length / 8)) = m at *
      have hm8 : m.length < 8 := by omega
      rw [List.take_of_length_le (by simp; omega), List.take_of_length_le (by omega)]
      apply UInt8.toNat_inj.1
      rw [UInt8.toNat_or, byteOf_num _ (by simp; omega), byteOf_num _ (by omega), UInt8.toNat_ofNat', ← hd, num_append]
      have hn := num_lt m
      have h2 : 2 ^ m.length ≤ 2 ^ 7 := Nat.pow_le_pow_right (by omega) (by omega)
      have hb : b.toNat ≤ 1 := by cases b <;> simp
      have hbb : b.toNat * 2 ^ m.length ≤ 1 * 2 ^ m.length := Nat.mul_le_mul_right _ hb
      have hmod : b.toNat * 2 ^ m.length % 2 ^ 8 = b.toNat * 2 ^ m.length := Nat.mod_eq_of_lt (by omega)
      rw [hmod, Nat.or_comm, nat_join m.length (b.toNat * 2 ^ m.length) (num m) (Nat.mul_mod_left _ _) hn]
      simp [num]
      rw [Nat.mul_comm]; omega
    · rw [if_neg (by omega), pack_get _ _ (by omega)]
      rw [List.drop_append_of_le_length (by omega), List.take_append_of_le_length (by simp; omega)]
/-- what is left of the last byte is 0 -/
theorem bitsL_get (l : List UInt8) (i : Nat) (h : i < 8 * l.length) : (bitsL l)[i]? = some ((l.getD (i / 8) 0).toNat.testBit (i % 8)) := by
  induction l generalizing i with
  | nil => simp at h
  | cons x l ih =>
    rw [bitsL_cons]
    by_cases h8 : i < 8
    · rw [List.getElem?_append_left (by rw [bitsOf_length]; exact h8)]
      simp [bitsOf, numBits, h8, Nat.div_eq_of_lt h8, Nat.mod_eq_of_lt h8]
    · rw [List.getElem?_append_right (by rw [bitsOf_length]; omega), bitsOf_length, ih _ (by simp at h; omega)]
      have h1 : i / 8 = (i - 8) / 8 + 1 := by omega
      have h2 : i % 8 = (i - 8) % 8 := by omega
      rw [h1, h2]; simp
theorem bitsL_pack (l : List Bool) : bitsL (pack l) = l ++ List.replicate (8 * ((l.length + 7) / 8) - l.length) false := by
  apply List.ext_getElem?
  intro i
  by_cases hi : i < 8 * ((l.length + 7) / 8)
  · rw [bitsL_get _ _ (by rw [pack_length]; exact hi)]
    have hd : i / 8 < (l.length + 7) / 8 := by omega
    have hg : (pack l).getD (i / 8) 0 = byteOf ((l.drop (8 * (i / 8))).take 8) := by
      rw [List.getD_eq_getElem?_getD, List.getElem?_eq_getElem (by rw [pack_length]; exact hd), Option.getD_some, pack_get _ _ hd]
    rw [hg, byteOf_num _ (by simp; omega), num_testBit]
    have hx : 8 * (i / 8) + i % 8 = i := by omega
    rw [List.getD_eq_getElem?_getD, List.getElem?_take, if_pos (by omega), List.getElem?_drop, hx]
    by_cases hl : i < l.length
    · rw [List.getElem?_append_left hl, List.getElem?_eq_getElem hl]; simp
    · rw [List.getElem?_append_right (by omega), List.getElem?_replicate, if_pos (by omega), List.getElem?_eq_none (by omega)]; simp
  · rw [List.getElem?_eq_none (by rw [bitsL_length, pack_length]; omega), List.getElem?_eq_none (by simp; omega)]
/-- a row of whole bytes -/
theorem pack_bitsL (l : List UInt8) : pack (bitsL l) = l := by
  apply List.ext_getElem
  · rw [pack_length, bitsL_length]; omega
  · intro i h1 h2
    rw [pack_get _ _ (by rw [bitsL_length]; omega)]
    apply UInt8.toNat_inj.1
    rw [byteOf_num _ (by simp; omega)]
    apply Nat.eq_of_testBit_eq
    intro j
    rw [num_testBit, List.getD_eq_getElem?_getD, List.getElem?_take]
    by_cases hj : j < 8
    · rw [if_pos hj, List.getElem?_drop, bitsL_get _ _ (by omega)]
      have e1 : (8 * i + j) / 8 = i := by omega
      have e2 : (8 * i + j) % 8 = j := by omega
      rw [e1, e2]; simp [List.getD, h2]
    · rw [if_neg hj]
      have : l[i].toNat < 2 ^ j := Nat.lt_of_lt_of_le l[i].toNat_lt (Nat.pow_le_pow_right (by omega) (by omega))
      rw [Nat.testBit_lt_two_pow this]; simp
/-- whole bytes ahead of a row -/
theorem pack_append (l m : List Bool) (h : l.length % 8 = 0) : pack (l ++ m) = pack l ++ pack m := by
  apply List.ext_getElem
  · simp [pack_length]; omega
  · intro i h1 h2
    rw [pack_length] at h1
    simp at h1
    rw [pack_get _ _ (by simpa using h1)]
    by_cases hi : i < (l.length + 7) / 8
    · rw [List.getElem_append_left (by rw [pack_length]; exact hi), pack_get _ _ hi]
      rw [List.drop_append_of_le_length (by omega), List.take_append_of_le_length (by simp; omega)]
    · rw [List.getElem_append_right (by rw [pack_length]; omega), pack_get _ _ (by rw [pack_length]; omega)]
      rw [List.drop_append, List.drop_of_length_le (by omega), List.nil_append, pack_length]
      congr 3
      omega
/-- noughts up to a whole byte -/
def pad (l : List Bool) : List Bool := l ++ List.replicate (8 * ((l.length + 7) / 8) - l.length) false
theorem pad_length (l : List Bool) : (pad l).length = 8 * ((l.length + 7) / 8) := by simp [pad]; omega
theorem pack_pad (l : List Bool) : pack (pad l) = pack l := by
  have h := bitsL_pack l
  rw [show l ++ List.replicate (8 * ((l.length + 7) / 8) - l.length) false = pad l from rfl] at h
  rw [← h, pack_bitsL]
end Go.Proofs.Ytfgkfakhlcbdbaa.Bits
