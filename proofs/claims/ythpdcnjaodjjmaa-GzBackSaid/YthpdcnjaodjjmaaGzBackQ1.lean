/- texts joined: SumPure GzPure SumCrc GzPk GzUn GzFact At2 GzBackWalk. -/
import Derived.Test.YthpdcnjaodjjmaaBaseQ1
import Derived.Test.YthpdcnjaodjjmaaBaseQ7
import Derived.Test.YthpdcnjaodjjmaaProg
import Derived.WalkSpells
import Derived.Test.YthpdcnjaodjjmaaBaseQ4
import Derived.Test.YthpdcnjaodjjmaaBaseQ8
import Derived.Lib.SlBytesConst
/- sums: the plain law of CRC-32, bit by bit, byte by byte, and of two rows. No program in sight. -/
namespace Go.Proofs.Ythpdcnjaodjjmaa.Sum
open Go Go.RowKit Go.Proofs.Ythpdcnjaodjjmaa

abbrev W32 := BitVec 32
def poly : W32 := 3988292384#32
def one : W32 := 2147483648#32
/-- one bit on -/
def stepC (c : W32) : W32 := (c >>> 1) ^^^ (3988292384#32 * (c &&& 1#32))
def stepN : Nat → W32 → W32
  | 0, c => c
  | n + 1, c => stepC (stepN n c)
def tab (k : Nat) : W32 := stepN 8 (BitVec.ofNat 32 k)
def low8 (c : W32) : UInt8 := UInt8.ofBitVec (c.setWidth 8)
def crcB (c : W32) (x : UInt8) : W32 := (c >>> 8) ^^^ tab (low8 c ^^^ x).toNat
def crcL (c : W32) (l : List UInt8) : W32 := l.foldl crcB c
def crc (before : W32) (l : List UInt8) : W32 := ~~~ crcL (~~~before) l

theorem mul_bit (c : W32) : 3988292384#32 * (c &&& 1#32) = if c.getLsbD 0 then poly else 0#32 := by
  have h : c &&& 1#32 = if c.getLsbD 0 then 1#32 else 0#32 := by
    apply BitVec.eq_of_getLsbD_eq
    intro i hi
    by_cases h0 : i = 0
    · subst h0; rw [BitVec.getLsbD_and]; cases h : c.getLsbD 0 <;> rfl
    · have h1 : (1#32).getLsbD i = false := by
        rw [BitVec.getLsbD_one]; simp; omega
      cases h : c.getLsbD 0 <;> simp [h1]
  rw [h]
  cases c.getLsbD 0 <;> simp [poly]
theorem stepC_if (c : W32) : stepC c = (c >>> 1) ^^^ (if c.getLsbD 0 then poly else 0#32) := by
  unfold stepC; rw [mul_bit]
theorem stepC_zero : stepC 0#32 = 0#32 := by decide
theorem stepC_xor (a b : W32) : stepC (a ^^^ b) = stepC a ^^^ stepC b := by
  simp only [stepC_if, BitVec.ushiftRight_xor_distrib, BitVec.getLsbD_xor]
  cases a.getLsbD 0 <;> cases b.getLsbD 0 <;> simp <;> ac_nf
  · rw [← BitVec.xor_assoc, ← BitVec.xor_assoc]; simp
theorem stepN_xor (n : Nat) (a b : W32) : stepN n (a ^^^ b) = stepN n a ^^^ stepN n b := by
  induction n with
  | zero => rfl
  | succ n ih => simp only [stepN, ih, stepC_xor]
theorem stepN_zero (n : Nat) : stepN n 0#32 = 0#32 := by
  induction n with
  | zero => rfl
  | succ n ih => simp only [stepN, ih, stepC_zero]
theorem stepN_add (m n : Nat) (c : W32) : stepN (m + n) c = stepN m (stepN n c) := by
  induction m with
  | zero => simp [stepN]
  | succ m ih => rw [show m + 1 + n = (m + n) + 1 by omega]; simp only [stepN, ih]
theorem stepN_comm1 (n : Nat) (c : W32) : stepN n (stepC c) = stepC (stepN n c) := by
  have h1 : stepN (n + 1) c = stepC (stepN n c) := rfl
  have h2 := stepN_add n 1 c
  rw [← h1, h2]; rfl
theorem poly_top : poly.getLsbD 31 = true := by decide
theorem stepC_ne (c : W32) (h : c ≠ 0#32) : stepC c ≠ 0#32 := by
  intro h0
  rw [stepC_if] at h0
  cases hb : c.getLsbD 0 with
  | true =>
    rw [hb] at h0
    have := congrArg (fun v : W32 => v.getLsbD 31) h0
    simp only [if_true, BitVec.getLsbD_xor, poly_top, BitVec.getLsbD_ushiftRight] at this
    rw [BitVec.getLsbD_of_ge _ _ (by omega)] at this
    cases this
  | false =>
    rw [hb] at h0
    simp at h0
    apply h
    apply BitVec.eq_of_getLsbD_eq
    intro i hi
    rcases Nat.eq_zero_or_pos i with rfl | hp
    · simpa using hb
    · have := congrArg (fun v : W32 => v.getLsbD (i - 1)) h0
      simp at this
      rw [show 1 + (i - 1) = i by omega] at this
      simpa using this
theorem stepN_ne (n : Nat) (c : W32) (h : c ≠ 0#32) : stepN n c ≠ 0#32 := by
  induction n with
  | zero => exact h
  | succ n ih => exact stepC_ne _ ih

/-- the bits of a byte, the lowest first -/
def bitsOf (x : UInt8) : List Bool := (List.range 8).map fun k => x.toNat.testBit k
def bitsL (l : List UInt8) : List Bool := l.flatMap bitsOf
def b32 (b : Bool) : W32 := if b then 1#32 else 0#32
def crcBit (c : W32) (b : Bool) : W32 := stepC (c ^^^ b32 b)
def crcBits (c : W32) (l : List Bool) : W32 := l.foldl crcBit c

theorem crcBits_nil (c : W32) : crcBits c [] = c := rfl
theorem crcBits_cons (c : W32) (b : Bool) (l : List Bool) : crcBits c (b :: l) = crcBits (crcBit c b) l := rfl
theorem crcBits_append (c : W32) (l m : List Bool) : crcBits c (l ++ m) = crcBits (crcBits c l) m := by
  simp [crcBits]
/-- a word of bits as a number, the first the lowest -/
def word : List Bool → W32
  | [] => 0#32
  | b :: l => b32 b ^^^ (word l <<< 1)
theorem shl_step (c : W32) (h : c.getLsbD 31 = false) : stepC (c <<< 1) = c := by
  have h0 : (c <<< 1).getLsbD 0 = false := by rw [BitVec.getLsbD_shiftLeft]; simp
  rw [stepC_if, h0]
  apply BitVec.eq_of_getLsbD_eq
  intro i hi
  simp only [Bool.false_eq_true, if_false, BitVec.xor_zero, BitVec.getLsbD_ushiftRight, BitVec.getLsbD_shiftLeft]
  by_cases h31 : i = 31
  · subst h31; rw [h]; rfl
  · rw [show 1 + i - 1 = i by omega]
    have h1 : decide (1 + i < 32) = true := by simp; omega
    have h2 : decide (1 + i < 1) = false := by simp
    rw [h1, h2]; simp
theorem word_top (l : List Bool) (n : Nat) (h : l.length ≤ n) : (word l).getLsbD n = false := by
  induction l generalizing n with
  | nil => simp [word]
  | cons b l ih =>
    have hn : 0 < n := by simp at h; omega
    have h1 := ih (n - 1) (by simp at h; omega)
    unfold word b32
    have hb : (if b then 1#32 else 0#32 : W32).getLsbD n = false := by
      cases b
      · simp
      · simp only [if_true]; rw [BitVec.getLsbD_one]; simp; omega
    rw [BitVec.getLsbD_xor, hb, BitVec.getLsbD_shiftLeft]
    simp [h1]
/-- so many bits at once: at most 32 of them -/
theorem crcBits_word (l : List Bool) (h : l.length ≤ 32) (c : W32) : crcBits c l = stepN l.length (c ^^^ word l) := by
  induction l generalizing c with
  | nil => simp [crcBits, word, stepN]
  | cons b l ih =>
    rw [crcBits_cons, ih (by simp at h; omega)]
    have ht : (word l).getLsbD 31 = false := word_top l 31 (by simp at h; omega)
    have e : crcBit c b ^^^ word l = stepC (c ^^^ word (b :: l)) := by
      show stepC (c ^^^ b32 b) ^^^ word l = stepC (c ^^^ (b32 b ^^^ (word l <<< 1)))
      rw [← BitVec.xor_assoc, stepC_xor (c ^^^ b32 b), shl_step _ ht]
    rw [e, stepN_comm1]
    simp [stepN]
theorem b32_xor (b e : Bool) : b32 (xor b e) = b32 b ^^^ b32 e := by cases b <;> cases e <;> decide
theorem crcBits_xor (l m : List Bool) (h : l.length = m.length) (c d : W32) :
    crcBits (c ^^^ d) (List.zipWith xor l m) = crcBits c l ^^^ crcBits d m := by
  induction l generalizing m c d with
  | nil =>
    cases m with
    | nil => rfl
    | cons e m => simp at h
  | cons b l ih =>
    cases m with
    | nil => simp at h
    | cons e m =>
      simp only [List.zipWith_cons_cons, crcBits_cons]
      rw [← ih m (by simpa using h)]
      congr 1
      show stepC ((c ^^^ d) ^^^ b32 (xor b e)) = stepC (c ^^^ b32 b) ^^^ stepC (d ^^^ b32 e)
      rw [← stepC_xor, b32_xor]
      congr 1
      ac_rfl
theorem crcBits_zeros (n : Nat) (c : W32) : crcBits c (List.replicate n false) = stepN n c := by
  induction n generalizing c with
  | zero => rfl
  | succ n ih =>
    rw [List.replicate_succ, crcBits_cons, ih]
    have e : crcBit c false = stepC c := by unfold crcBit b32; simp
    rw [e, stepN_comm1]; rfl
theorem word_inj_ne (l : List Bool) (h : l.length ≤ 32) (hb : true ∈ l) : word l ≠ 0#32 := by
  induction l with
  | nil => simp at hb
  | cons b l ih =>
    intro h0
    unfold word at h0
    cases b with
    | true =>
      have := congrArg (fun v : W32 => v.getLsbD 0) h0
      simp [b32] at this
    | false =>
      have hl : true ∈ l := by simpa using hb
      simp [b32] at h0
      have ht : (word l).getLsbD 31 = false := word_top l 31 (by simp at h; omega)
      apply ih (by simp at h; omega) hl
      have := shl_step (word l) ht
      rw [h0, stepC_zero] at this
      exact this.symm

/-- byte by byte is bit by bit -/
theorem bitsOf_length (x : UInt8) : (bitsOf x).length = 8 := by simp [bitsOf]
theorem bitsL_length (l : List UInt8) : (bitsL l).length = 8 * l.length := by
  induction l with
  | nil => rfl
  | cons x l ih => simp only [bitsL, List.flatMap_cons, List.length_append, bitsOf_length, List.length_cons] at *; omega
theorem word_bitsOf : ∀ x : UInt8, word (bitsOf x) = x.toBitVec.setWidth 32 := by
  intro x
  have h : ∀ n : Fin 256, word (bitsOf (UInt8.ofNat n.val)) = (UInt8.ofNat n.val).toBitVec.setWidth 32 := by decide +kernel
  have := h ⟨x.toNat, x.toNat_lt⟩
  simpa using this
theorem shr8_step (c : W32) (n : Nat) (h : ∀ i, i < n → c.getLsbD i = false) : stepN n c = c >>> n := by
  induction n generalizing c with
  | zero => simp [stepN]
  | succ n ih =>
    have e : stepN (n + 1) c = stepN n (stepC c) := by rw [stepN_comm1]; rfl
    rw [e, stepC_if, h 0 (by omega)]
    simp
    rw [ih _ (fun i hi => by simp; exact h (1 + i) (by omega))]
    rw [← BitVec.shiftRight_add, Nat.add_comm]
theorem m255 (j : Nat) : (255#32).getLsbD j = decide (j < 8) := by
  by_cases h : j < 32
  · have : ∀ k : Fin 32, (255#32).getLsbD k.val = decide (k.val < 8) := by decide
    exact this ⟨j, h⟩
  · rw [BitVec.getLsbD_of_ge _ _ (by omega)]; simp; omega
theorem crcB_bits (c : W32) (x : UInt8) : crcB c x = crcBits c (bitsOf x) := by
  rw [crcBits_word _ (by simp [bitsOf_length]), bitsOf_length, word_bitsOf]
  unfold crcB tab
  have h1 : BitVec.ofNat 32 (low8 c ^^^ x).toNat = (c ^^^ x.toBitVec.setWidth 32) &&& 255#32 := by
    apply BitVec.eq_of_toNat_eq
    rw [BitVec.toNat_ofNat, UInt8.toNat_xor, BitVec.toNat_and, BitVec.toNat_xor]
    have hx := x.toNat_lt
    have e1 : (low8 c).toNat = c.toNat % 256 := by simp [low8, ← UInt8.toNat_toBitVec]
    have e2 : (x.toBitVec.setWidth 32).toNat = x.toNat := by simp
    have hk : ∀ y : Nat, y &&& 255 = y % 256 := fun y => Nat.and_two_pow_sub_one_eq_mod y 8
    rw [e1, e2, show (255#32).toNat = 255 from rfl, hk]
    have hm : (c.toNat ^^^ x.toNat) % 256 = (c.toNat % 256) ^^^ (x.toNat % 256) := Nat.xor_mod_two_pow (n := 8)
    have hlt : (c.toNat % 256) ^^^ x.toNat < 256 := Nat.xor_lt_two_pow (n := 8) (by omega) (by omega)
    have hxx : x.toNat % 256 = x.toNat := by omega
    rw [hxx] at hm
    rw [hm]; omega
  generalize hz : c ^^^ x.toBitVec.setWidth 32 = z at *
  have h2 : c >>> 8 = stepN 8 (z ^^^ (z &&& 255#32)) := by
    rw [shr8_step]
    · apply BitVec.eq_of_getLsbD_eq
      intro i hi
      subst hz
      have hx : x.toBitVec.getLsbD (8 + i) = false := BitVec.getLsbD_of_ge _ _ (by omega)
      simp only [BitVec.getLsbD_ushiftRight, BitVec.getLsbD_xor, BitVec.getLsbD_and, m255, BitVec.getLsbD_setWidth, hx]
      have : decide (8 + i < 8) = false := by simp
      rw [this]; simp
    · intro i hi
      simp only [BitVec.getLsbD_xor, BitVec.getLsbD_and, m255]
      have : decide (i < 8) = true := by simpa using hi
      rw [this]; simp
  rw [h1, h2, ← stepN_xor, BitVec.xor_assoc, BitVec.xor_self, BitVec.xor_zero]
theorem crcL_bits (l : List UInt8) (c : W32) : crcL c l = crcBits c (bitsL l) := by
  induction l generalizing c with
  | nil => rfl
  | cons x l ih =>
    rw [show bitsL (x :: l) = bitsOf x ++ bitsL l from rfl, crcBits_append, ← crcB_bits, ← ih]
    rfl
theorem crcL_append (c : W32) (l m : List UInt8) : crcL c (l ++ m) = crcL (crcL c l) m := by simp [crcL]
theorem crcL_snoc (c : W32) (l : List UInt8) (x : UInt8) : crcL c (l ++ [x]) = crcB (crcL c l) x := by simp [crcL]

/-- one bit by the reference -/
def refBit (c : W32) (b : Bool) : W32 := (c >>> 1) ^^^ (if ((c &&& 1#32) ^^^ b32 b) = 1#32 then poly else 0#32)
theorem refBit_eq (c : W32) (b : Bool) : refBit c b = crcBit c b := by
  unfold refBit crcBit
  rw [stepC_if, BitVec.ushiftRight_xor_distrib]
  have h1 : (b32 b) >>> 1 = 0#32 := by cases b <;> decide
  have h2 : (c &&& 1#32) = b32 (c.getLsbD 0) := by
    have : c &&& 1#32 = if c.getLsbD 0 then 1#32 else 0#32 := by
      apply BitVec.eq_of_getLsbD_eq
      intro i hi
      by_cases h0 : i = 0
      · subst h0; rw [BitVec.getLsbD_and]; cases h : c.getLsbD 0 <;> rfl
      · have h1 : (1#32).getLsbD i = false := by
          rw [BitVec.getLsbD_one]; simp; omega
        cases h : c.getLsbD 0 <;> simp [h1]
    exact this
  rw [h1, h2, BitVec.xor_zero, ← b32_xor, BitVec.getLsbD_xor]
  have h3 : (b32 b).getLsbD 0 = b := by cases b <;> decide
  rw [h3]
  cases xor (c.getLsbD 0) b <;> rfl

/-- Adler -/
def adl (p : Nat × Nat) (x : UInt8) : Nat × Nat := ((p.1 + x.toNat) % 65521, (p.2 + (p.1 + x.toNat) % 65521) % 65521)
def adlL (l : List UInt8) : Nat × Nat := l.foldl adl (1, 0)
def raw (p : Nat × Nat) (x : UInt8) : Nat × Nat := (p.1 + x.toNat, p.2 + (p.1 + x.toNat))
def rawL (l : List UInt8) : Nat × Nat := l.foldl raw (1, 0)
theorem adlL_snoc (l : List UInt8) (x : UInt8) : adlL (l ++ [x]) = adl (adlL l) x := by simp [adlL]
theorem rawL_snoc (l : List UInt8) (x : UInt8) : rawL (l ++ [x]) = raw (rawL l) x := by simp [rawL]
theorem snocRec {α : Type} {p : List α → Prop} (h0 : p []) (h1 : ∀ l x, p l → p (l ++ [x])) (l : List α) : p l := by
  have : ∀ m : List α, p m.reverse := by
    intro m
    induction m with
    | nil => exact h0
    | cons x m ih => rw [List.reverse_cons]; exact h1 _ _ ih
  have h := this l.reverse
  rwa [List.reverse_reverse] at h
theorem adl_raw (l : List UInt8) : adlL l = ((rawL l).1 % 65521, (rawL l).2 % 65521) := by
  induction l using snocRec with
  | h0 => rfl
  | h1 l x ih => rw [adlL_snoc, rawL_snoc, ih]; unfold adl raw; simp only [Prod.mk.injEq]; omega
theorem adlL_lt (l : List UInt8) : (adlL l).1 < 65521 ∧ (adlL l).2 < 65521 := by rw [adl_raw]; simp only; omega
theorem rawL_lt (l : List UInt8) : 1 ≤ (rawL l).1 ∧ (rawL l).1 ≤ 1 + 255 * l.length ∧ (rawL l).2 ≤ l.length * (1 + 255 * l.length) := by
  induction l using snocRec with
  | h0 => simp [rawL]
  | h1 l x ih =>
    rw [rawL_snoc]; unfold raw; simp only [List.length_append, List.length_cons, List.length_nil]
    have hx := x.toNat_lt
    have h2 : (l.length + (0 + 1)) * (1 + 255 * (l.length + (0 + 1))) = l.length * (1 + 255 * l.length) + l.length * 255 + (1 + 255 * (l.length + 1)) := by
      simp only [Nat.zero_add, Nat.add_mul, Nat.mul_add, Nat.one_mul, Nat.mul_one]; omega
    rw [h2]; omega
end Go.Proofs.Ythpdcnjaodjjmaa.Sum

/- package gz: the plain law: there and back. No program's walk in sight. -/
namespace Go.Proofs.Ythpdcnjaodjjmaa.Gz
open Go Go.RowKit Go.Proofs.Ythpdcnjaodjjmaa Go.Proofs.Ythpdcnjaodjjmaa.Bits Go.Proofs.Ythpdcnjaodjjmaa.Inf Go.Proofs.Ythpdcnjaodjjmaa.Rt Go.Proofs.Ythpdcnjaodjjmaa.Blk
set_option linter.unusedVariables false

def hdr10 : List UInt8 := [31, 139, 8, 0, 0, 0, 0, 0, 0, 255]
/-- the sum, as a number -/
def sumN (xs : List UInt8) : Nat := (Sum.crc 0#32 xs).toNat
/-- the bits of the tail, number by number -/
def tailS (c n : Nat) : Nat → List Bool
  | 0 => []
  | 1 => (numBits (c % 65536) 16 ++ numBits (c / 65536) 16)
  | _ => (numBits (c % 65536) 16 ++ numBits (c / 65536) 16) ++ numBits (n % 65536) 16 ++ numBits (n / 65536) 16
def tl (xs : List UInt8) : List UInt8 := pack (tailS (sumN xs) xs.length 2)
def gzB (xs : List UInt8) : List UInt8 := (hdr10 ++ (bestK xs 3).1) ++ tl xs
theorem num16 (n : Nat) : numBits n 16 = bitsL [UInt8.ofNat n, UInt8.ofNat (n / 256)] := by
  unfold bitsL bitsOf
  rw [List.flatMap_cons, List.flatMap_cons, List.flatMap_nil, List.append_nil]
  apply List.ext_getElem
  · simp [numBits_length]
  · intro i h1 h2
    rw [numBits_length] at h1
    have e : ∀ m k (h : k < (numBits m 8).length), (numBits m 8)[k] = m.testBit k := fun m k h => by simp [numBits]
    rw [List.getElem_append]
    have hx : (numBits n 16)[i]'(by rw [numBits_length]; exact h1) = n.testBit i := by simp [numBits]
    rw [hx]
    split
    · rename_i h
      rw [numBits_length] at h
      rw [e, UInt8.toNat_ofNat', show (2 ^ 8 : Nat) = 2 ^ 8 from rfl, Nat.testBit_mod_two_pow]
      simp [h]
    · rename_i h
      rw [numBits_length] at h
      rw [e, numBits_length, UInt8.toNat_ofNat', Nat.testBit_mod_two_pow, show n / 256 = n / 2 ^ 8 from rfl, Nat.testBit_div_two_pow]
      have h8 : i - 8 < 8 := by omega
      simp only [h8, decide_true, Bool.true_and]
      congr 1; omega
theorem sumN_lt (xs : List UInt8) : sumN xs < 4294967296 := (Sum.crc 0#32 xs).isLt
/-- the tail's bytes -/
theorem tl_bytes (xs : List UInt8) (h : xs.length < 65536) :
    tl xs = [UInt8.ofNat (sumN xs), UInt8.ofNat (sumN xs / 256), UInt8.ofNat (sumN xs / 65536), UInt8.ofNat (sumN xs / 16777216), UInt8.ofNat xs.length, UInt8.ofNat (xs.length / 256), 0, 0] := by
  have ht : tl xs = pack ((numBits (sumN xs % 65536) 16 ++ numBits (sumN xs / 65536) 16) ++ numBits (xs.length % 65536) 16 ++ numBits (xs.length / 65536) 16) := rfl
  rw [ht, num16, num16, num16, num16, ← bitsL_append, ← bitsL_append, ← bitsL_append, pack_bitsL]
  have e : ∀ m k : Nat, UInt8.ofNat (m % 65536) = UInt8.ofNat m := fun m _ => by
    apply UInt8.toNat_inj.1; rw [UInt8.toNat_ofNat', UInt8.toNat_ofNat']; omega
  have e2 : ∀ m : Nat, UInt8.ofNat (m % 65536 / 256) = UInt8.ofNat (m / 256) := fun m => by
    apply UInt8.toNat_inj.1; rw [UInt8.toNat_ofNat', UInt8.toNat_ofNat']; omega
  rw [e _ 0, e _ 0, e2, e2, Nat.div_div_eq_div_mul, Nat.div_eq_of_lt h]
  rfl
theorem tl_len (xs : List UInt8) : (tl xs).length = 8 := by
  unfold tl; rw [pack_length]; unfold tailS; simp [numBits_length]
theorem hdr_len : hdr10.length = 10 := rfl
theorem gzB_len (xs : List UInt8) : (gzB xs).length = (bestK xs 3).1.length + 18 := by unfold gzB; rw [List.length_append, List.length_append, tl_len, hdr_len]; omega
theorem best_some (xs : List UInt8) : ∃ k, k ≤ 2 ∧ bestK xs 3 = (packB [xs] [k], k) := by
  have h1 : bestK xs 1 = (packB [xs] [0], 0) := bestK_yes xs 0 (.inl rfl)
  have step : ∀ j, j ≤ 2 → (∃ k, k ≤ 2 ∧ bestK xs j = (packB [xs] [k], k)) → ∃ k, k ≤ 2 ∧ bestK xs (j + 1) = (packB [xs] [k], k) := fun j hj h => by
    by_cases hc : j = 0 ∨ (packB [xs] [j]).length < (bestK xs j).1.length
    · exact ⟨j, hj, bestK_yes xs j hc⟩
    · rw [bestK_no xs j hc]; exact h
  exact step 2 (by omega) (step 1 (by omega) ⟨0, by omega, h1⟩)
theorem best_first (xs : List UInt8) : (bestK xs 3).1.length ≤ (packB [xs] [0]).length := by
  have h1 : bestK xs 1 = (packB [xs] [0], 0) := bestK_yes xs 0 (.inl rfl)
  have step : ∀ j, 1 ≤ j → (bestK xs (j + 1)).1.length ≤ (bestK xs j).1.length := fun j hj => by
    by_cases hc : j = 0 ∨ (packB [xs] [j]).length < (bestK xs j).1.length
    · rw [bestK_yes xs j hc]
      rcases hc with h | h
      · omega
      · show (packB [xs] [j]).length ≤ _; omega
    · rw [bestK_no xs j hc]; exact Nat.le_refl _
  have a := step 1 (by omega)
  have b := step 2 (by omega)
  rw [h1] at a
  exact Nat.le_trans b a
/-- what gz.Unpack says -/
def gunzR (b : List UInt8) : Inf.Rd (List UInt8) :=
  if 6000 < b.length then .bad 2
  else if ¬ (b.take 10 = hdr10) then .bad 4
  else (unpackR (b.drop 10)).then_ fun x =>
    if b.length - 10 - x.2.1 < 8 then .bad 7
    else if 8 < b.length - 10 - x.2.1 then .bad 4
    else if (b.drop 10).drop x.2.1 = tl x.1 then .ok x.1 else .bad 10
theorem best_back (xs more : List UInt8) (hx : xs.length ≤ 3000) (h6 : ((bestK xs 3).1 ++ more).length ≤ 6000) :
    ∃ k, unpackR ((bestK xs 3).1 ++ more) = .ok (xs, (bestK xs 3).1.length, [k]) := by
  obtain ⟨k, hk, h⟩ := best_some xs
  rw [h] at h6 ⊢
  have := unpack_pack [xs] [k] more (by simp) rfl (by simp; exact hk) (by simp; exact hx) h6
  exact ⟨k, by rw [this]; simp⟩
theorem gunz_of {b B more xs : List UInt8} {ks : List Nat} (hl : b.length = 10 + B.length + more.length) (h6 : b.length ≤ 6000) (ht : b.take 10 = hdr10) (hu : unpackR (b.drop 10) = .ok (xs, B.length, ks)) (hd : (b.drop 10).drop B.length = more) :
    gunzR b = if more.length < 8 then .bad 7 else if 8 < more.length then .bad 4 else if more = tl xs then .ok xs else .bad 10 := by
  have e1 : b.length - 10 - B.length = more.length := by omega
  have e2 : gunzR b = (unpackR (b.drop 10)).then_ fun x => if b.length - 10 - x.2.1 < 8 then .bad 7
    else if 8 < b.length - 10 - x.2.1 then .bad 4
    else if (b.drop 10).drop x.2.1 = tl x.1 then .ok x.1 else .bad 10 := by
    unfold gunzR
    rw [if_neg (by omega), if_neg (by simp only [ht, not_true_eq_false, not_false_eq_true])]
  rw [e2, hu]
  have e3 : ((Inf.Rd.ok (xs, B.length, ks)).then_ fun x => if b.length - 10 - x.2.1 < 8 then .bad 7
    else if 8 < b.length - 10 - x.2.1 then .bad 4
    else if (b.drop 10).drop x.2.1 = tl x.1 then .ok x.1 else .bad 10) = (if b.length - 10 - B.length < 8 then Inf.Rd.bad 7
    else if 8 < b.length - 10 - B.length then .bad 4
    else if (b.drop 10).drop B.length = tl xs then .ok xs else .bad 10) := rfl
  rw [e3, e1, hd]
/-- what is packed, with another tail -/
theorem gunz_tail (xs more : List UInt8) (hx : xs.length ≤ 3000) (h6 : (bestK xs 3).1.length + 10 + more.length ≤ 6000) :
    gunzR ((hdr10 ++ (bestK xs 3).1) ++ more) = if more.length < 8 then .bad 7 else if 8 < more.length then .bad 4 else if more = tl xs then .ok xs else .bad 10 := by
  obtain ⟨k, hk⟩ := best_back xs more hx (by rw [List.length_append]; omega)
  have hl : ((hdr10 ++ (bestK xs 3).1) ++ more).length = 10 + (bestK xs 3).1.length + more.length := by rw [List.length_append, List.length_append, hdr_len]
  have hd : ((hdr10 ++ (bestK xs 3).1) ++ more).drop 10 = (bestK xs 3).1 ++ more := by rw [List.append_assoc]; exact List.drop_left' hdr_len
  have ht : ((hdr10 ++ (bestK xs 3).1) ++ more).take 10 = hdr10 := by rw [List.append_assoc]; exact List.take_left' hdr_len
  exact gunz_of hl (by rw [hl]; omega) ht (by rw [hd]; exact hk) (by rw [hd, List.drop_left])
theorem gunz_back (xs : List UInt8) (hx : xs.length ≤ 3000) (h6 : (gzB xs).length ≤ 6000) : gunzR (gzB xs) = .ok xs := by
  rw [gzB_len] at h6
  unfold gzB
  rw [gunz_tail xs (tl xs) hx (by rw [tl_len]; omega), tl_len, if_neg (by omega), if_neg (by omega), if_pos rfl]
theorem gunz_torn (xs : List UInt8) (hx : xs.length ≤ 3000) (h6 : (gzB xs).length ≤ 6000) : gunzR ((gzB xs).take ((gzB xs).length - 1)) = .bad 7 := by
  rw [gzB_len] at h6 ⊢
  have e : (gzB xs).take ((bestK xs 3).1.length + 18 - 1) = (hdr10 ++ (bestK xs 3).1) ++ (tl xs).take 7 := by
    unfold gzB
    rw [List.take_append, List.take_of_length_le (by rw [List.length_append, hdr_len]; omega), List.length_append, hdr_len]
    congr 2; omega
  rw [e, gunz_tail xs _ hx (by rw [List.length_take, tl_len]; omega), List.length_take, tl_len, if_pos (by omega)]
theorem gunz_turned (xs : List UInt8) (i : Nat) (y : UInt8) (hx : xs.length ≤ 3000) (h6 : (gzB xs).length ≤ 6000) (hi : (gzB xs).length - 8 ≤ i) (hi2 : i < (gzB xs).length) (hy : y ≠ (gzB xs)[i]) : gunzR ((gzB xs).set i y) = .bad 10 := by
  have h7 := h6
  rw [gzB_len] at h6
  have hl := gzB_len xs
  have e : (gzB xs).set i y = (hdr10 ++ (bestK xs 3).1) ++ (tl xs).set (i - (10 + (bestK xs 3).1.length)) y := by
    unfold gzB
    rw [List.set_append, if_neg (by rw [List.length_append, hdr_len]; omega), List.length_append, hdr_len]
  have hk : i - (10 + (bestK xs 3).1.length) < (tl xs).length := by rw [tl_len]; omega
  have hne : ¬ ((tl xs).set (i - (10 + (bestK xs 3).1.length)) y = tl xs) := by
    intro h
    apply hy
    have h1 : ((tl xs).set (i - (10 + (bestK xs 3).1.length)) y)[i - (10 + (bestK xs 3).1.length)]'(by rw [List.length_set]; exact hk) = y := by simp
    have h2 : (gzB xs)[i] = (tl xs)[i - (10 + (bestK xs 3).1.length)] := by
      have e2 : gzB xs = (hdr10 ++ (bestK xs 3).1) ++ tl xs := rfl
      have e3 : (gzB xs)[i]? = (tl xs)[i - (10 + (bestK xs 3).1.length)]? := by
        rw [e2, List.getElem?_append_right (by rw [List.length_append, hdr_len]; omega), List.length_append, hdr_len]
      rw [List.getElem?_eq_getElem hi2, List.getElem?_eq_getElem hk] at e3
      exact Option.some.inj e3
    rw [h2, ← h1]
    congr 1
  rw [e, gunz_tail xs _ hx (by rw [List.length_set, tl_len]; omega), List.length_set, tl_len, if_neg (by omega), if_neg (by omega), if_neg hne]
end Go.Proofs.Ythpdcnjaodjjmaa.Gz

/- sums: the walk of sum.CRC. -/
namespace Go.Proofs.Ythpdcnjaodjjmaa.Sum
open Go Go.RowKit Go.Proofs.Ythpdcnjaodjjmaa

theorem tab_lt (k : Nat) (_h : k < 256) : IntKind.u32.wrap (k : Int) = n32 (stepN 0 (BitVec.ofNat 32 k)) := by
  rw [IntKind.wrap_u32']; unfold n32 stepN; simp
theorem tab_lt' (k : Nat) (h : k < 256) : (k : Int) = n32 (stepN 0 (BitVec.ofNat 32 k)) := by
  unfold n32 stepN; simp; omega
/-- the table's cells: the first so many made -/
def tabCs (k : Nat) : Array Value := ((List.range 256).map fun i => if i < k then Value.int .u32 (n32 (tab i)) else .int .u32 0).toArray
def tabV : Array Value := tabCs 256
theorem tabCs_size (k : Nat) : (tabCs k).size = 256 := by simp [tabCs]
theorem tabCs_zero : tabCs 0 = Try.zeroCells139 := by kernel_rfl
theorem tabCs_succ (k : Nat) (_h : k < 256) : (tabCs k).setIfInBounds k (.int .u32 (n32 (tab k))) = tabCs (k + 1) := by
  apply Array.ext
  · simp [tabCs]
  · intro i h1 h2
    simp [tabCs]
    by_cases e : k = i
    · subst e; simp
    · simp [e]; by_cases h3 : i < k
      · rw [if_pos h3, if_pos (by omega)]
      · rw [if_neg h3, if_neg (by omega)]
theorem tabV_get (k : Nat) (h : k < 256) : tabV[k]? = some (.int .u32 (n32 (tab k))) := by
  simp [tabV, tabCs, h]
theorem tabV_one : tabV.all (·.oneCell') = true := by
  simp [tabV, tabCs]; intro i hi; rw [if_pos hi]; rfl
attribute [local irreducible] tabCs
set_option maxRecDepth 100000 in
set_option maxHeartbeats 400000 in
theorem table_any (w : World) : Calls Try.prog 85 #[] w fun e w' => e = .returned (.agg tabV) ∧ Below w.heap.size w w' := by
  go_enter Try.func85, Try.ntmps85
  go_wp2
  go_loopw [4] (fun i wr => ∃ k : Nat, k ≤ 256 ∧ i = .int .i64 k ∧ Blk wr w.heap.size 139 (tabCs 0) ∧ Blk wr (w.heap.size + 1) 139 (tabCs k) ∧ Below w.heap.size w wr) (fun i _ => 256 - (intOf i).toNat)
  case atStart =>
    refine ⟨0, by omega, rfl, ?_, ?_, ?_⟩
    · rw [tabCs_zero]; exact (Blk.new w _ _).alloc _
    · rw [tabCs_zero]; have := Blk.new (w.alloc (.cells Try.zeroCells139 139)) 139 Try.zeroCells139; simpa using this
    · exact ((Below.refl _ _).alloc (Nat.le_refl _) _).alloc (by simp) _
  case round =>
    obtain ⟨k, hk, rfl, hb0, hb1, hbl⟩ := hrel
    by_cases hlt : k < 256
    · have hfz := hb1.frozen k
      obtain ⟨old, hold⟩ : ∃ old, (tabCs k)[k]? = some old := ⟨_, Array.getElem?_eq_getElem (by rw [tabCs_size]; exact hlt)⟩
      have hcell : wr.cell? ⟨w.heap.size + 1, k, none⟩ = some old := by rw [hb1.cell, hold]
      clear hold
      have Hst := Lib.hid (hb1.set_ k (.int .u32 (n32 (tab k))))
      have Hb0 := Lib.hid hb0
      have Hbl := Lib.hid hbl
      have H0 := Lib.hid (tab_lt' k hlt)
      have hbk := Lib.hid hb1.lt
      clear hb0 hb1 hbl
      go_wp2
      go_loop [3, 9] (fun c j => ∃ m : Nat, m ≤ 8 ∧ j = .int .i64 m ∧ c = .int .u32 (n32 (stepN m (BitVec.ofNat 32 k)))) (fun _ j => 8 - (intOf j).toNat)
      case atStart => exact ⟨0, by omega, rfl, int_eq H0.out⟩
      case round =>
        obtain ⟨m, hm, rfl, rfl⟩ := hrel
        by_cases hm8 : m < 8
        · have Hs : Hid (stepN (m + 1) (BitVec.ofNat 32 k) = (stepN m (BitVec.ofNat 32 k)) >>> 1 ^^^ (3988292384#32 * (stepN m (BitVec.ofNat 32 k) &&& 1#32))) := Lib.hid rfl
          generalize stepN m (BitVec.ofNat 32 k) = c at *
          go_wp2
          go_round
          case rel => exact ⟨m + 1, by omega, by go_num, by rw [Hs.out]⟩
          case measure => simp [intOf]; omega
        · obtain rfl : m = 8 := by omega
          have Ht : Hid (stepN 8 (BitVec.ofNat 32 k) = tab k) := Lib.hid rfl
          generalize stepN 8 (BitVec.ofNat 32 k) = c at *
          go_wp2
          go_roundw
          case rel =>
            refine ⟨k + 1, by omega, by go_num, ?_, ?_, ?_⟩
            · exact Hb0.out.far (by simp) _
            · rw [← tabCs_succ k hlt, Ht.out]; exact Hst.out
            · exact Hbl.out.setCell (by simp) _
          case measure => simp [intOf]; omega
    · obtain rfl : k = 256 := by omega
      have hi : (Try.prog.info? 139).map (·.size) = some (tabCs 256).size := by rw [tabCs_size]; kernel_rfl
      have hh1 : wr.heap[w.heap.size + 1]? = some (.cells (tabCs 256) 139 (0, 0)) := hb1
      have hh0 : wr.heap[w.heap.size]? = some (.cells (tabCs 0) 139 (0, 0)) := hb0
      have Hh0 := Lib.hid hh0
      have Hh1 := Lib.hid hh1
      have Hi := Lib.hid hi
      have Hbl := Lib.hid hbl
      clear hi hh1 hh0 hb0 hb1 hbl
      have Ho := Lib.hid (show (tabCs 0).size = (tabCs 256).size by rw [tabCs_size, tabCs_size])
      go_wp2_with (first | (refine wpList_load_row rfl 139 (.tmp 1) rfl (w.heap.size + 1) rfl 139 _ (0, 0) _ Hh1.out Try.underlying139 rfl Hi.out ?_) | (refine wpList_store_row rfl 139 (.tmp 0) (.tmp 22) rfl w.heap.size (tabCs 256) rfl rfl 139 (tabCs 0) Hh0.out Hi.out Ho.out tabV_one ?_))
      refine bodyPost_ret (v := .agg (tabCs 256)) (results_cell_row rfl _ _ w.heap.size 139 (tabCs 256) (0, 0) _ rfl (setRow_heap _ _ _ _ _ _ Hh0.out) Try.underlying139 rfl Hi.out) rfl ⟨rfl, ?_⟩
      exact Hbl.out.trans ⟨rfl, rfl, rfl, by simp, fun k hk => setRow_other _ _ _ _ (by omega)⟩

theorem crcB_eq (c : W32) (x : UInt8) : n32 (c >>> 8 ^^^ tab ((UInt8.ofBitVec (BitVec.setWidth 8 c)) ^^^ x).toNat) = n32 (crcB c x) := rfl
set_option maxRecDepth 100000 in
set_option maxHeartbeats 400000 in
theorem crc_any (c : W32) (ci : Int) (hci : ci = n32 c) (A : Option Addr) (n cap : Nat) (xs : List UInt8) (w : World) (hn : xs.length = n) (hm : n ≤ 12000) (hc : ByAt w A xs) :
    Calls Try.prog 57 #[.int .u32 ci, .slice A n cap] w fun e w' => e = .returned (.tuple #[.int .u32 (n32 (crc c xs)), .int .i64 0]) ∧ Below w.heap.size w w' := by
  subst hci
  have Hn := Lib.hid hn
  have Hc := Lib.hid hc
  clear hn hc
  have h12 : ¬ (12000 < (n : Int)) := by omega
  have hi : (Try.prog.info? 139).map (·.size) = some tabV.size := by rw [show tabV.size = 256 from tabCs_size 256]; kernel_rfl
  have Hi := Lib.hid hi
  clear hi
  go_enter Try.func57, Try.ntmps57
  go_wp2_with (first | (go_at_call 85; refine (table_any _).mono ?_; rintro e w1 ⟨rfl, hb1⟩; have Hb1 := Lib.hid hb1; clear hb1) | (refine wpList_store_row rfl 139 (.tmp 6) (.tmp 13) rfl w1.heap.size tabV rfl rfl 139 _ (Blk.new w1 _ _) Hi.out (show _ = tabV.size from (tabCs_size 256).symm) tabV_one ?_))
  have hbW : Below w.heap.size w ((w1.alloc (.cells Try.zeroCells139 139)).setRow w1.heap.size tabV) :=
    (Hb1.out.alloc Hb1.out.size _).trans ⟨rfl, rfl, rfl, by simp, fun k hk => setRow_other _ _ _ _ (by have := Hb1.out.size; omega)⟩
  have hT : Blk ((w1.alloc (.cells Try.zeroCells139 139)).setRow w1.heap.size tabV) w1.heap.size 139 tabV := (Blk.new w1 _ _).setRow _
  generalize (w1.alloc (.cells Try.zeroCells139 139)).setRow w1.heap.size tabV = W at *
  have HT := Lib.hid hT
  have HW := Lib.hid hbW
  clear hT hbW
  generalize w1.heap.size = g at *
  go_loop [7, 18] (fun cc i => ∃ k : Nat, k ≤ n ∧ i = .int .i64 k ∧ cc = .int .u32 (n32 (crcL (~~~c) (xs.take k)))) (fun _ i => n - (intOf i).toNat)
  case atStart => exact ⟨0, Nat.zero_le _, rfl, rfl⟩
  case round =>
    obtain ⟨k, hk, rfl, rfl⟩ := hrel
    by_cases hlt : k < n
    · have hkx : k < xs.length := by rw [Hn.out]; exact hlt
      obtain ⟨b, o, rfl, hcell⟩ := (Hc.out.below HW.out).get hkx
      have Hs : Hid (n32 (crcL (~~~c) (xs.take (k + 1))) = n32 ((crcL (~~~c) (xs.take k)) >>> 8 ^^^ tab ((UInt8.ofBitVec (BitVec.setWidth 8 (crcL (~~~c) (xs.take k)))) ^^^ xs[k]).toNat)) := Lib.hid (by rw [take_snoc _ _ hkx, crcL_snoc, crcB_eq])
      generalize crcL (~~~c) (xs.take k) = d at *
      generalize xs[k] = x at *
      generalize hy0 : UInt8.ofBitVec (BitVec.setWidth 8 d) ^^^ x = y at *
      have hyb := n8_bd y
      have hc2 : W.cell? ⟨g, (n8 y).toNat, none⟩ = some (.int .u32 (n32 (tab y.toNat))) := by
        rw [HT.out.cell]; exact tabV_get _ y.toNat_lt
      go_wp2
      go_round
      case rel => exact ⟨k + 1, by omega, by go_num, int_eq (by rw [Hs.out])⟩
      case measure => simp [intOf]; omega
    · have Hk : Hid (xs.take k = xs) := Lib.hid (List.take_of_length_le (by rw [Hn.out]; omega))
      go_wp2
      go_ret2
      exact ⟨by rw [Hk.out]; rfl, HW.out⟩

theorem crc_big (ci : Int) (A : Option Addr) (n cap : Nat) (w : World) (hm : 12000 < n) (hx : n ≤ maxLen) :
    Calls Try.prog 57 #[.int .u32 ci, .slice A n cap] w fun e w' => e = .returned (.tuple #[.int .u32 0, .int .i64 2]) ∧ w = w' := by
  unfold maxLen at hx
  have h12 : (12000 < (n : Int)) := by omega
  go_enter Try.func57, Try.ntmps57
  go_wp2
  go_ret2
  exact ⟨rfl, rfl⟩
end Go.Proofs.Ythpdcnjaodjjmaa.Sum

/- package gz: head, tail, Pack: the walks. -/
namespace Go.Proofs.Ythpdcnjaodjjmaa.Gz
open Go Go.RowKit Go.Proofs.Ythpdcnjaodjjmaa Go.Proofs.Ythpdcnjaodjjmaa.Bits Go.Proofs.Ythpdcnjaodjjmaa.Inf Go.Proofs.Ythpdcnjaodjjmaa.Rt Go.Proofs.Ythpdcnjaodjjmaa.Blk
set_option linter.unusedVariables false

theorem and_low16 (n : Nat) (h : n < 9223372036854775808) : bits .and .i64 (n : Int) 65535 = ((n % 65536 : Nat) : Int) := by
  have hx : BitVec.ofInt 64 (n : Int) = BitVec.ofNat 64 n := by rw [BitVec.ofInt_natCast]
  show IntKind.i64.wrap ((BitVec.ofInt 64 (n : Int) &&& BitVec.ofInt 64 (65535 : Int)).toNat : Int) = _
  have h1 : (BitVec.ofInt 64 (n : Int) &&& BitVec.ofInt 64 (65535 : Int)).toNat = n % 65536 := by
    rw [hx, BitVec.toNat_and, BitVec.toNat_ofNat, Nat.mod_eq_of_lt (by omega), show (BitVec.ofInt 64 (65535 : Int)).toNat = 2 ^ 16 - 1 from rfl, Nat.and_two_pow_sub_one_eq_mod]
  rw [h1]; exact IntWalk.i64_in _ (by omega)
theorem hdr_row : (hdr10.map u8v) = [.int .u8 31, .int .u8 139, .int .u8 8, .int .u8 0, .int .u8 0, .int .u8 0, .int .u8 0, .int .u8 0, .int .u8 0, .int .u8 255] := by rfl
set_option maxRecDepth 100000 in
theorem head_any (w : World) : Calls Try.prog 31 #[] w fun e w' => (∃ v, e = .returned v ∧ w'.ownsRow w.heap.size 5 1 v 10 (hdr10.map u8v)) ∧ Below w.heap.size w w' := by
  go_enter Try.func31, Try.ntmps31
  go_wp2_with fail
  go_ret
  refine ⟨⟨_, rfl, ?_⟩, (Below.refl _ _).alloc (Nat.le_refl _) _⟩
  rw [hdr_row]
  exact World.ownsRow_lit (base := w.heap.size) (size := 1) (e := 5) w _ 10 (Nat.le_refl _) (by unfold maxLen; omega) rfl
theorem pair_index (a b : Int) (k : Nat) (h : k < 2) (W : World) : (Instr.index 98 (.agg #[.int .i64 a, .int .i64 b]) (.int .i64 (k : Int))).run Try.prog W = .ok (.int .i64 (if k = 0 then a else b)) W := by
  have hu := run_underlying (P := Try.prog) Try.underlying98
  obtain rfl | rfl : k = 0 ∨ k = 1 := by omega
  · simp [Instr.index, hu, asIntOf, go_sem]
  · simp [Instr.index, hu, asIntOf, go_sem]
theorem tailS_succ (c n k : Nat) (h : k < 2) : tailS c n (k + 1) = (tailS c n k ++ numBits ((if k = 0 then c else n) % 65536) 16) ++ numBits ((if k = 0 then c else n) / 65536) 16 := by
  obtain rfl | rfl : k = 0 ∨ k = 1 := by omega
  · rfl
  · rfl
theorem tailS_len (c n k : Nat) (h : k ≤ 2) : (tailS c n k).length ≤ 64 := by
  obtain rfl | rfl | rfl : k = 0 ∨ k = 1 ∨ k = 2 := by omega
  all_goals simp [tailS, numBits_length]
set_option maxRecDepth 100000 in
set_option maxHeartbeats 800000 in
theorem tail_any (A : Option Addr) (n c : Nat) (xs : List UInt8) (w : World) (hn : xs.length = n) (hx : n ≤ 12000) (hA : ByAt w A xs) :
    Calls Try.prog 32 #[.slice A n c] w fun e w' => (∃ v, e = .returned v ∧ w'.ownsRow w.heap.size 5 1 v (tl xs).length ((tl xs).map u8v)) ∧ Below w.heap.size w w' := by
  have HC := Lib.hid (Sum.crc_any 0#32 0 rfl A n c xs w hn hx hA)
  have Hn := Lib.hid hn
  have hS : n32 (Sum.crc 0#32 xs) = ((sumN xs : Nat) : Int) := rfl
  have hS2 := sumN_lt xs
  have HT : Hid (tl xs = pack (tailS (sumN xs) n 2)) := Lib.hid (by unfold tl; rw [hn])
  rw [hS] at HC
  generalize sumN xs = S at *
  clear hn hA hS
  go_enter Try.func32, Try.ntmps32
  go_wp2_with fail
  refine (HC.out).mono ?_
  rintro e w1 ⟨rfl, hb1⟩
  have HRow0 := Lib.hid (RowAt.new w1 (base := w1.heap.size) (Nat.le_refl _))
  have Hb1 := Lib.hid hb1
  have Hb0 := Lib.hid (hb1.alloc hb1.size (.cells #[.slice none 0 0, .int .i64 0] 45))
  have Hi64 : Hid (IntKind.i64.wrap (S : Int) = (S : Int)) := Lib.hid (IntWalk.i64_in _ (by omega))
  clear hb1 HC
  go_wp2_with fail
  generalize hw3 : w1.alloc (.cells #[.slice none 0 0, .int .i64 0] 45) = w3 at *
  generalize hp0 : w1.heap.size = p0 at *
  have Hp0 := Lib.hid hp0
  have Hw0 : Hid (w.heap.size ≤ p0) := Lib.hid (by rw [← hp0]; exact Hb1.out.size)
  clear hw3 hp0
  go_loopw [18] (fun i wr => ∃ k : Nat, k ≤ 2 ∧ i = .int .i64 (k : Int) ∧ RowAt wr p0 p0 (tailS S n k) ∧ Keeps p0 rowT w3 wr) (fun i _ => 2 - (intOf i).toNat)
  case atStart => exact ⟨0, by omega, rfl, HRow0.out, Keeps.refl _ _ _⟩
  case round =>
    clear HRow0
    obtain ⟨k, hk, rfl, hrow, hkp⟩ := hrel
    have HRow := Lib.hid hrow
    have HKp := Lib.hid hkp
    have hln := tailS_len S n k hk
    clear hrow hkp
    by_cases hlt : k < 2
    · have hidx := pair_index (S : Int) (n : Int) k hlt
      obtain ⟨v, hv⟩ : ∃ v : Nat, v = if k = 0 then S else n := ⟨_, rfl⟩
      have hvi : (if k = 0 then (S : Int) else (n : Int)) = (v : Int) := by rw [hv]; split <;> rfl
      have hvl : v < 4294967296 := by rw [hv]; split <;> omega
      have Hst : Hid (tailS S n (k + 1) = (tailS S n k ++ numBits (v % 65536) 16) ++ numBits (v / 65536) 16) := Lib.hid (by rw [hv]; exact tailS_succ S n k hlt)
      rw [hvi] at hidx
      have hand := and_low16 v (by omega)
      have hshr : (v : Int) / 65536 = ((v / 65536 : Nat) : Int) := by simp
      obtain ⟨lo, hlo⟩ : ∃ lo, lo = v % 65536 := ⟨_, rfl⟩
      obtain ⟨hi, hhi⟩ : ∃ hi, hi = v / 65536 := ⟨_, rfl⟩
      rw [← hlo] at hand Hst
      rw [← hhi] at hshr Hst
      have hlo2 : lo < 65536 := by omega
      have hhi2 : hi < 65536 := by omega
      have HP1 := Lib.hid (put_any p0 p0 lo 16 (tailS S n k) wr HRow.out (by omega) (by omega) (by omega))
      have hl2 : (tailS S n k ++ numBits lo 16).length ≤ 80 := by rw [List.length_append, numBits_length]; omega
      clear hv hvi hlo hhi
      go_wp2_with fail
      refine (HP1.out).mono ?_
      rintro e w5 ⟨rfl, hr5, hk5⟩
      have HP2 := Lib.hid (put_any p0 p0 hi 16 (tailS S n k ++ numBits lo 16) w5 hr5 (by omega) (by omega) (by omega))
      have HK5 := Lib.hid (HKp.out.trans hk5)
      clear hr5 hk5 HP1 HRow HKp
      go_wp2_with fail
      refine (HP2.out).mono ?_
      rintro e w6 ⟨rfl, hr6, hk6⟩
      have HR6 : Hid (RowAt w6 p0 p0 (tailS S n (k + 1))) := Lib.hid (by rw [Hst.out]; exact hr6)
      have HK6 := Lib.hid (HK5.out.trans hk6)
      clear hr6 hk6 HP2 HK5
      go_wp2_with fail
      go_roundw
      case rel => exact ⟨k + 1, by omega, by go_num, HR6.out, HK6.out⟩
      case measure => simp [intOf]; omega
    · obtain rfl : k = 2 := by omega
      obtain ⟨hpp, v, hv1, hv2⟩ := HRow.out
      have hby := Lib.hid (bytes_any p0 v _ wr hv1)
      have Hv2 := Lib.hid hv2
      have Hbk := Lib.hid (Hb0.out.trans (HKp.out.below.mono Hw0.out))
      clear hv1 hv2 hpp HRow HKp
      go_wp2_with fail
      refine (hby.out).mono ?_
      rintro e w5 ⟨rfl, rfl⟩
      go_wp2_with fail
      go_ret
      exact ⟨⟨v, rfl, by rw [HT.out]; exact own_base Hv2.out Hw0.out⟩, Hbk.out⟩
def GPost (n : Nat) (xs : List UInt8) (w : World) (e : Ending) (w' : World) : Prop :=
  (3000 < n ∧ e = .returned (.tuple #[.slice none 0 0, .int .i64 2]) ∨
   n ≤ 3000 ∧ ∃ v, e = .returned (.tuple #[v, .int .i64 0]) ∧ w'.ownsRow w.heap.size 5 1 v (gzB xs).length ((gzB xs).map u8v)) ∧ Below w.heap.size w w'
theorem pack0_len (xs : List UInt8) (h : xs.length ≤ 3000) : (packB [xs] [0]).length ≤ 100000 := by
  unfold packB
  rw [pack_length]
  have := packK_len [xs] [0] (by simp; exact h) [xs].length
  simp only [List.length_cons, List.length_nil] at this ⊢
  omega
set_option maxRecDepth 100000 in
set_option maxHeartbeats 800000 in
theorem gzpack_any (A : Option Addr) (n c : Nat) (xs : List UInt8) (w : World) (hn : xs.length = n) (hnc : n ≤ c) (hcm : c ≤ maxLen) (hA : ByAt w A xs) :
    Calls Try.prog 17 #[.slice A n c] w (GPost n xs w) := by
  have HB := Lib.hid (best_any A n c xs w hn hnc hcm hA)
  have Hn := Lib.hid hn
  have HA := Lib.hid hA
  unfold maxLen at hcm
  clear hn hA
  go_enter Try.func17, Try.ntmps17
  go_wp2_with fail
  refine (HB.out).mono ?_
  rintro e w1 ⟨h, hb1⟩
  have Hb1 := Lib.hid hb1
  clear hb1 HB
  rcases h with ⟨h3, rfl⟩ | ⟨h3, v1, rfl, ho1⟩
  · go_wp2_with fail
    go_ret2
    exact ⟨.inl ⟨h3, rfl⟩, Hb1.out⟩
  · have HG : Hid (gzB xs = (hdr10 ++ (bestK xs 3).1) ++ tl xs) := Lib.hid rfl
    have hbl : (bestK xs 3).1.length ≤ 100000 := Nat.le_trans (best_first xs) (pack0_len xs (by rw [Hn.out]; exact h3))
    generalize (bestK xs 3).1 = B at *
    generalize (bestK xs 3).2 = kd at *
    obtain ⟨A1, c1, rfl, _, _, hs1, hz1⟩ := own_slat ho1
    have HS1 : Hid (ByAt w1 A1 B) := Lib.hid hs1
    have HZ1 := Lib.hid hz1
    obtain ⟨nb, hnb⟩ : ∃ nb, nb = B.length := ⟨_, rfl⟩
    rw [← hnb] at hbl HZ1 ⊢
    have Hnb := Lib.hid hnb.symm
    clear ho1 hs1 hz1 hnb
    go_wp2_with fail
    refine (head_any _).mono ?_
    rintro e w2 ⟨⟨v2, rfl, ho2⟩, hb2⟩
    have HO2 := Lib.hid (own_base ho2 Hb1.out.size)
    have Hb2 := Lib.hid (Hb1.out.trans (hb2.mono Hb1.out.size))
    have HS2 := Lib.hid (ByAt.below HS1.out hb2)
    have Hl : Hid ((B.map u8v).length = nb * 1) := Lib.hid (by rw [List.length_map, Hnb.out, Nat.mul_one])
    have Hone := Lib.hid (u8s_one B)
    clear ho2 hb2 HS1 Hb1
    go_wp2_with (at_builtin; refine wpList_appb rfl (.tmp 16) (.tmp 17) _ rfl 5 _ 1 1 ty8 _ 10 _ rfl HO2.out Hb2.out A1 nb c1 (B.map u8v) rfl Hl.out HS2.out Hone.out HZ1.out (by unfold maxLen; omega) (by omega) ?_; intro v3 w3 hown3 hb3 _ _; have HO3 := Lib.hid hown3; have Hb3 := Lib.hid hb3; clear hown3 hb3)
    refine (tail_any A n c xs w3 Hn.out (by omega) (ByAt.below HA.out Hb3.out)).mono ?_
    rintro e w4 ⟨⟨v4, rfl, ho4⟩, hb4⟩
    have HO4 := Lib.hid (own_keep HO3.out hb4)
    have Hb4 := Lib.hid (Hb3.out.trans (hb4.mono Hb3.out.size))
    rw [tl_len] at ho4
    obtain ⟨A4, c4, rfl, _, _, hs4, hz4⟩ := own_slat ho4
    have HS4 : Hid (SlAt w4 A4 ((tl xs).map u8v)) := Lib.hid hs4
    have HZ4 := Lib.hid hz4
    have Hl4 : Hid (((tl xs).map u8v).length = 8 * 1) := Lib.hid (by rw [List.length_map, tl_len])
    have Hone4 := Lib.hid (u8s_one (tl xs))
    clear ho4 hs4 hz4 hb4 HO3 Hb3 HO2 Hb2 HS2
    go_wp2_with (at_builtin; refine wpList_appb rfl (.tmp 18) (.tmp 20) _ rfl 5 _ 1 1 ty8 _ (10 + nb) _ rfl HO4.out Hb4.out A4 8 c4 ((tl xs).map u8v) rfl Hl4.out HS4.out Hone4.out HZ4.out (by unfold maxLen; omega) (by omega) ?_; intro v5 w5 hown5 hb5 _ _; have HO5 := Lib.hid hown5; have Hb5 := Lib.hid hb5; clear hown5 hb5)
    go_ret2
    refine ⟨.inr ⟨h3, v5, rfl, ?_⟩, Hb5.out⟩
    rw [HG.out]
    have e1 : ((hdr10 ++ B) ++ tl xs).length = 10 + nb + 8 := by rw [List.length_append, List.length_append, tl_len, hdr_len, Hnb.out]
    rw [e1, List.map_append, List.map_append]
    exact HO5.out
end Go.Proofs.Ythpdcnjaodjjmaa.Gz

/- package gz: Unpack: the walk. -/
namespace Go.Proofs.Ythpdcnjaodjjmaa.Gz
open Go Go.RowKit Go.Proofs.Ythpdcnjaodjjmaa Go.Proofs.Ythpdcnjaodjjmaa.Bits Go.Proofs.Ythpdcnjaodjjmaa.Inf Go.Proofs.Ythpdcnjaodjjmaa.Rt Go.Proofs.Ythpdcnjaodjjmaa.Blk
set_option linter.unusedVariables false

set_option maxHeartbeats 400000 in
theorem hasPre_any (A B : Option Addr) (n m ca cb : Nat) (xs ys : List UInt8) (w : World) (hn : xs.length = n) (hm : ys.length = m) (hnc : n ≤ ca) (hx : ca ≤ 9223372036854775807) (hmx : m ≤ 140737488355328) (ha : ByAt w A xs) (hb : ByAt w B ys) :
    Calls Try.prog 58 #[.slice A n ca, .slice B m cb] w fun e w' => e = .returned (.bool (decide (xs.take m = ys))) ∧ w' = w := by
  have Hn := Lib.hid hn
  have Hm := Lib.hid hm
  have HA := Lib.hid (ByAt.take ha m)
  have HB := Lib.hid hb
  clear hn hm ha hb
  go_enter Try.func58, Try.ntmps58
  by_cases hmn : m ≤ n
  · have h1 : (m : Int) ≤ (n : Int) := by omega
    have h2 : (m : Int) ≤ (ca : Int) := by omega
    have h3 : ¬ ((n : Int) < (m : Int)) := by omega
    go_wp2_with fail
    refine (equal_bytes A B m m ca cb (xs.take m) ys w (by rw [List.length_take, Hn.out]; omega) Hm.out HA.out HB.out).mono ?_
    rintro e w' ⟨rfl, rfl⟩
    go_wp2_with fail
    go_ret
    exact ⟨rfl, rfl⟩
  · have h1 : ¬ (m : Int) ≤ (n : Int) := by omega
    have h3 : ((n : Int) < (m : Int)) := by omega
    have Hd : Hid (decide (xs.take m = ys) = false) := Lib.hid (by
      rw [decide_eq_false_iff_not]; intro h
      have := congrArg List.length h
      rw [List.length_take, Hn.out, Hm.out] at this
      omega)
    clear hmn
    go_wp2_with fail
    go_ret
    exact ⟨by rw [Hd.out]; rfl, rfl⟩
def CutPost (A : Option Addr) (n ca : Nat) (xs : List UInt8) (w : World) (e : Ending) : Prop :=
  (¬ (xs.take 10 = hdr10) ∧ e = .returned (.tuple #[.slice A n ca, .bool false])) ∨
  (xs.take 10 = hdr10 ∧ 10 ≤ n ∧ ∃ b o, e = .returned (.tuple #[.slice (some ⟨b, o, none⟩) (n - 10) (ca - 10), .bool true]) ∧ ByAt w (some ⟨b, o, none⟩) (xs.drop 10))
set_option maxRecDepth 100000 in
set_option maxHeartbeats 400000 in
theorem cut_any (A B : Option Addr) (n ca cb : Nat) (xs : List UInt8) (w : World) (hn : xs.length = n) (hnc : n ≤ ca) (hx : ca ≤ 9223372036854775807) (ha : ByAt w A xs) (hb : ByAt w B hdr10) :
    Calls Try.prog 33 #[.slice A n ca, .slice B 10 cb] w fun e w' => CutPost A n ca xs w e ∧ w' = w := by
  have Hn := Lib.hid hn
  have HA := Lib.hid ha
  have HP := Lib.hid (hasPre_any A B n 10 ca cb xs hdr10 w hn rfl hnc hx (by omega) ha hb)
  clear hn ha hb
  go_enter Try.func33, Try.ntmps33
  go_wp2_with fail
  refine (HP.out).mono ?_
  rintro e w1 ⟨rfl, rfl⟩
  by_cases h : xs.take 10 = hdr10
  · have h10 : 10 ≤ n := by
      have := congrArg List.length h
      rw [List.length_take, Hn.out, hdr_len] at this
      omega
    have H := Lib.hid h
    rw [show decide (xs.take 10 = hdr10) = true from by simp [h]]
    obtain ⟨b, o, rfl, hc0⟩ := HA.out.get (k := 0) (by rw [Hn.out]; omega)
    have HD := Lib.hid (ByAt.drop HA.out 10)
    have h10a : (10 : Int) ≤ (n : Int) := by omega
    have h10b : (10 : Int) ≤ (ca : Int) := by omega
    have hh : 10 ≤ ca := by omega
    have HN0 : Hid (ca = 10 → ByAt w1 (some ⟨b, o, none⟩) (xs.drop 10)) := Lib.hid (fun e => by
      have hz : xs.drop 10 = [] := List.drop_eq_nil_iff.2 (by rw [Hn.out]; omega)
      rw [hz]; exact SlAt.nil)
    clear h HP hc0
    by_cases hca : ca = 10
    · have HN1 := Lib.hid (HN0.out hca)
      clear HN0
      subst hca
      obtain rfl : n = 10 := by omega
      go_wp2_with fail
      go_ret2
      exact ⟨.inr ⟨H.out, h10, _, _, rfl, HN1.out⟩, rfl⟩
    · go_wp2_with fail
      go_ret2
      exact ⟨.inr ⟨H.out, h10, _, _, rfl, HD.out⟩, rfl⟩
  · have H := Lib.hid h
    rw [show decide (xs.take 10 = hdr10) = false from by simp [h]]
    clear h HP
    go_wp2_with fail
    go_ret2
    exact ⟨.inl ⟨H.out, rfl⟩, rfl⟩

/-- what gz.Unpack leaves behind -/
def ZPost (xs : List UInt8) (w : World) (e : Ending) (w' : World) : Prop := match gunzR xs with
  | .bad z => e = .returned (.tuple #[.slice none 0 0, .int .i64 z])
  | .ok out => out.length ≤ 3000 ∧ ∃ v, e = .returned (.tuple #[v, .int .i64 0]) ∧ w'.ownsRow w.heap.size 5 1 v out.length (out.map u8v)
theorem zpost_bad {xs : List UInt8} {w w' : World} {z : Int} (h : gunzR xs = .bad z) : ZPost xs w (.returned (.tuple #[.slice none 0 0, .int .i64 z])) w' := by unfold ZPost; rw [h]
theorem zpost_ok {xs out : List UInt8} {w w' : World} {v : Value} (h : gunzR xs = .ok out) (h3 : out.length ≤ 3000) (ho : w'.ownsRow w.heap.size 5 1 v out.length (out.map u8v)) : ZPost xs w (.returned (.tuple #[v, .int .i64 0])) w' := by unfold ZPost; rw [h]; exact ⟨h3, v, rfl, ho⟩
theorem gunz_long {b : List UInt8} (h : 6000 < b.length) : gunzR b = .bad 2 := by unfold gunzR; rw [if_pos h]
theorem gunz_form {b : List UInt8} (h : ¬ 6000 < b.length) (ht : ¬ (b.take 10 = hdr10)) : gunzR b = .bad 4 := by unfold gunzR; rw [if_neg h, if_pos ht]
theorem gunz_go {b : List UInt8} (h : ¬ 6000 < b.length) (ht : b.take 10 = hdr10) : gunzR b = (unpackR (b.drop 10)).then_ fun x => if b.length - 10 - x.2.1 < 8 then .bad 7
    else if 8 < b.length - 10 - x.2.1 then .bad 4
    else if (b.drop 10).drop x.2.1 = tl x.1 then .ok x.1 else .bad 10 := by
  unfold gunzR; rw [if_neg h, if_neg (fun h => h ht)]
theorem gunz_bad {b : List UInt8} {z : Int} (h : ¬ 6000 < b.length) (ht : b.take 10 = hdr10) (hu : unpackR (b.drop 10) = .bad z) : gunzR b = .bad z := by rw [gunz_go h ht, hu]; rfl
theorem gunz_fin {b out : List UInt8} {used : Nat} {ks : List Nat} (h : ¬ 6000 < b.length) (ht : b.take 10 = hdr10) (hu : unpackR (b.drop 10) = .ok (out, used, ks)) : gunzR b = if b.length - 10 - used < 8 then .bad 7
    else if 8 < b.length - 10 - used then .bad 4
    else if (b.drop 10).drop used = tl out then .ok out else .bad 10 := by rw [gunz_go h ht, hu]; rfl
set_option maxRecDepth 100000 in
set_option maxHeartbeats 1600000 in
theorem gunz_any (A : Option Addr) (n c : Nat) (xs : List UInt8) (w : World) (hn : xs.length = n) (hnc : n ≤ c) (hcm : c ≤ maxLen) (hA : ByAt w A xs) :
    Calls Try.prog 20 #[.slice A n c] w fun e w' => ZPost xs w e w' ∧ Below w.heap.size w w' := by
  have Hn := Lib.hid hn
  have HA := Lib.hid hA
  have Hcm := Lib.hid hcm
  unfold maxLen at hcm
  clear hn hA
  go_enter Try.func20, Try.ntmps20
  by_cases h6 : 6000 < n
  · have h6' : (6000 : Int) < (n : Int) := by omega
    have Hz := Lib.hid (gunz_long (b := xs) (by rw [Hn.out]; exact h6))
    clear h6
    go_wp2_with fail
    go_ret2
    exact ⟨zpost_bad Hz.out, Below.refl _ _⟩
  · have h6' : ¬ (6000 : Int) < (n : Int) := by omega
    have H6 : Hid (¬ 6000 < xs.length) := Lib.hid (by rw [Hn.out]; exact h6)
    go_wp2_with fail
    refine (head_any _).mono ?_
    rintro e w1 ⟨⟨v1, rfl, ho1⟩, hb1⟩
    have Hb1 := Lib.hid hb1
    obtain ⟨A1, c1, rfl, _, _, hs1, hz1⟩ := own_slat ho1
    have HC := Lib.hid (cut_any A A1 n c c1 xs w1 Hn.out hnc (by omega) (HA.out.below hb1) hs1)
    clear ho1 hs1 hz1 hb1
    go_wp2_with fail
    refine (HC.out).mono ?_
    rintro e w2 ⟨hp, rfl⟩
    rcases hp with ⟨ht, rfl⟩ | ⟨ht, h10, b, o, rfl, hd⟩
    · have Hz := Lib.hid (gunz_form H6.out ht)
      clear ht HC
      go_wp2_with fail
      go_ret2
      exact ⟨zpost_bad Hz.out, Hb1.out⟩
    · have HD := Lib.hid hd
      have Ht := Lib.hid ht
      have hl10 : (xs.drop 10).length = n - 10 := by rw [List.length_drop, Hn.out]
      have HU := Lib.hid (unpack_any (some ⟨b, o, none⟩) (n - 10) (c - 10) (xs.drop 10) w2 hl10 (by unfold maxLen; omega) hd)
      have Hl10 := Lib.hid hl10
      clear hd ht HC hl10
      go_wp2_with fail
      refine (HU.out).mono ?_
      rintro e w3 ⟨hu, hb3⟩
      have Hb3 := Lib.hid (Hb1.out.trans (hb3.mono Hb1.out.size))
      have HD3 := Lib.hid (HD.out.below hb3)
      unfold UPost at hu
      rcases hr : unpackR (xs.drop 10) with z | ⟨out, used, ks⟩
      · rw [hr] at hu
        obtain rfl := hu
        have Hz := Lib.hid (gunz_bad H6.out Ht.out hr)
        have hzz : (z == 0) = false := by rw [beq_eq_false_iff_ne]; exact nz_unpack _ z hr
        have hzn : (z != 0) = true := by rw [bne, hzz]; rfl
        clear hr hb3 HU
        go_wp2_with fail
        go_ret2
        exact ⟨zpost_bad Hz.out, Hb3.out⟩
      · rw [hr] at hu
        obtain ⟨hu3, Ao, co, Ak, ck, rfl, hoo, hok⟩ := hu
        dsimp only at hu3 hoo hok ⊢
        have hub : used ≤ (xs.drop 10).length := (unpack_take hr).2.1
        rw [Hl10.out] at hub
        have Hz := Lib.hid (gunz_fin H6.out Ht.out hr)
        rw [Hn.out] at Hz
        have Ho := Lib.hid (own_base hoo Hb1.out.size)
        obtain ⟨_, _, e1, hco, hcox, so, _⟩ := own_slat hoo
        injection e1 with e1 _ e2
        subst e1 e2
        have HO := Lib.hid so
        have Hol : Hid (out.length = out.length) := Lib.hid rfl
        obtain ⟨no, hno⟩ : ∃ no, no = out.length := ⟨_, rfl⟩
        rw [← hno] at hu3 ⊢
        generalize ks.length = nk at *
        have Hno := Lib.hid hno.symm
        clear hr hb3 HU hoo hok so hno hco hcox Hol
        by_cases hr8 : n - 10 - used < 8
        · have Hz2 : Hid (gunzR xs = .bad 7) := Lib.hid (by rw [Hz.out, if_pos hr8])
          have hr8' : ((n - 10 - used : Nat) : Int) < 8 := by omega
          clear hr8 Hz
          go_wp2_with fail
          all_goals (go_ret2; exact ⟨zpost_bad Hz2.out, Hb3.out⟩)
        · have hr8' : ¬ ((n - 10 - used : Nat) : Int) < 8 := by omega
          have hcu : ¬ (c - 10 = used) := by omega
          by_cases hr9 : 8 < n - 10 - used
          · have Hz2 : Hid (gunzR xs = .bad 4) := Lib.hid (by rw [Hz.out, if_neg hr8, if_pos hr9])
            have hr9' : (8 : Int) < ((n - 10 - used : Nat) : Int) := by omega
            clear hr8 hr9 Hz
            go_wp2_with fail
            go_ret2
            exact ⟨zpost_bad Hz2.out, Hb3.out⟩
          · have hr9' : ¬ (8 : Int) < ((n - 10 - used : Nat) : Int) := by omega
            have Hz2 : Hid (gunzR xs = if (xs.drop 10).drop used = tl out then .ok out else .bad 10) := Lib.hid (by rw [Hz.out, if_neg hr8, if_neg hr9])
            have HR : Hid (ByAt w3 (some ⟨b, o + used, none⟩) ((xs.drop 10).drop used)) := Lib.hid (ByAt.drop HD3.out used)
            have Hrl : Hid (((xs.drop 10).drop used).length = n - 10 - used) := Lib.hid (by rw [List.length_drop, Hl10.out])
            have hq : n - 10 - used = 8 := by omega
            generalize (xs.drop 10).drop used = R at *
            clear hr8 hr9 Hz HD3
            go_wp2_with fail
            refine (tail_any Ao no co out w3 Hno.out (by omega) HO.out).mono ?_
            rintro e w4 ⟨⟨v4, rfl, ho4⟩, hb4⟩
            rw [tl_len] at ho4
            obtain ⟨A4, c4, rfl, _, _, hs4, _⟩ := own_slat ho4
            have HE := Lib.hid (equal_bytes (some ⟨b, o + used, none⟩) A4 8 8 (c - 10 - used) c4 R (tl out) w4 (by rw [Hrl.out]; exact hq) (tl_len out) (HR.out.below hb4) hs4)
            have HO4 := Lib.hid (own_keep Ho.out hb4)
            have Hb4 := Lib.hid (Hb3.out.trans (hb4.mono Hb3.out.size))
            clear ho4 hs4 hb4 HR Hb3 Ho HO
            try rw [hq]
            go_wp2_with fail
            refine (HE.out).mono ?_
            rintro e w5 ⟨rfl, hw5⟩
            have HO5 : Hid (w5.ownsRow w.heap.size 5 1 (.slice Ao no co) no (out.map u8v)) := Lib.hid (by rw [hw5, ← Hno.out]; exact HO4.out)
            have Hb5 : Hid (Below w.heap.size w w5) := Lib.hid (by rw [hw5]; exact Hb4.out)
            clear hw5 HE HO4 Hb4
            by_cases he : R = tl out
            · have Hz3 : Hid (gunzR xs = .ok out) := Lib.hid (by rw [Hz2.out, if_pos he])
              rw [show decide (R = tl out) = true from by simp [he]]
              clear he
              go_wp2_with fail
              go_ret2
              exact ⟨zpost_ok Hz3.out (by rw [Hno.out]; exact hu3) (by rw [Hno.out]; exact HO5.out), Hb5.out⟩
            · have Hz3 : Hid (gunzR xs = .bad 10) := Lib.hid (by rw [Hz2.out, if_neg he])
              rw [show decide (R = tl out) = false from by simp [he]]
              clear he
              go_wp2_with fail
              go_ret2
              exact ⟨zpost_bad Hz3.out, Hb5.out⟩
end Go.Proofs.Ythpdcnjaodjjmaa.Gz

/- reliquarylaw.zipped: a closed fact. -/
namespace Go.Proofs.Ythpdcnjaodjjmaa.Gz
open Go Go.RowKit Go.Proofs.Ythpdcnjaodjjmaa Go.Proofs.Ythpdcnjaodjjmaa.Bits Go.Proofs.Ythpdcnjaodjjmaa.Inf Go.Proofs.Ythpdcnjaodjjmaa.Rt Go.Proofs.Ythpdcnjaodjjmaa.Blk
set_option linter.unusedVariables false

def hello : List UInt8 := [104, 101, 108, 108, 111, 32, 104, 101, 108, 108, 111, 32, 104, 101, 108, 108, 111]
theorem hello0 : (packB [hello] [0]).length ≤ 100 := by decide +kernel
theorem best_pos (xs : List UInt8) (hx : xs.length ≤ 3000) (h6 : (bestK xs 3).1.length ≤ 6000) : 1 ≤ (bestK xs 3).1.length := by
  obtain ⟨k, hk⟩ := best_back xs [] hx (by rw [List.append_nil]; exact h6)
  exact (unpack_take hk).1
theorem gzB_at0 (xs : List UInt8) : (gzB xs)[0]? = some 31 := by
  unfold gzB hdr10; rfl
set_option maxRecDepth 100000 in
set_option maxHeartbeats 1600000 in
theorem zipped_any (w : World) : Calls Try.prog 18 #[] w fun e w' => e = .returned (.bool true) ∧ Below w.heap.size w w' := by
  have hb0 : Below w.heap.size w (w.alloc (.cells #[.int .u8 104, .int .u8 101, .int .u8 108, .int .u8 108, .int .u8 111, .int .u8 32, .int .u8 104, .int .u8 101, .int .u8 108, .int .u8 108, .int .u8 111, .int .u8 32, .int .u8 104, .int .u8 101, .int .u8 108, .int .u8 108, .int .u8 111] 5 (17, 18))) := (Below.refl _ _).alloc (Nat.le_refl _) _
  have HP := gzpack_any (some ⟨w.heap.size, 0, none⟩) 17 17 hello (w.alloc (.cells #[.int .u8 104, .int .u8 101, .int .u8 108, .int .u8 108, .int .u8 111, .int .u8 32, .int .u8 104, .int .u8 101, .int .u8 108, .int .u8 108, .int .u8 111, .int .u8 32, .int .u8 104, .int .u8 101, .int .u8 108, .int .u8 108, .int .u8 111] 5 (17, 18))) rfl (by omega) (by unfold maxLen; omega) (ByAt.of_new _ _ _ (17, 18) rfl)
  have hbl : (bestK hello 3).1.length ≤ 100 := Nat.le_trans (best_first hello) hello0
  have hbp : 1 ≤ (bestK hello 3).1.length := best_pos hello (by decide) (by omega)
  have hl := gzB_len hello
  have Hz := Lib.hid (gunz_back hello (by decide) (by omega))
  have H0 := Lib.hid (gzB_at0 hello)
  have Hb0 := Lib.hid hb0
  have HP := Lib.hid HP
  obtain ⟨N, hN⟩ : ∃ N, N = (gzB hello).length := ⟨_, rfl⟩
  have HN := Lib.hid hN.symm
  have hN1 : 18 < N := by omega
  have hN2 : N ≤ 200 := by omega
  clear hb0 hbl hbp hl hN
  have kk := fun (w : World) (C : Array Value) (n c : Nat) => Lib.run_convert_bytes_const (P := Try.prog) w 22 5 C n c Try.underlying22 Try.underlying5
  go_enter Try.func18, Try.ntmps18
  go_wp2_with fail
  refine (HP.out).mono ?_
  rintro e w1 ⟨h, hb1⟩
  rcases h with ⟨h, _⟩ | ⟨_, v1, rfl, ho1⟩
  · omega
  have Hb1 : Hid (Below w.heap.size w w1) := Lib.hid (Hb0.out.trans (hb1.mono (by rw [World.size_alloc]; omega)))
  rw [HN.out] at ho1
  obtain ⟨A1, c1, rfl, hc1, hcm1, hs1, _⟩ := own_slat ho1
  have HS1 : Hid (ByAt w1 A1 (gzB hello)) := Lib.hid hs1
  have HU := Lib.hid (gunz_any A1 N c1 (gzB hello) w1 HN.out hc1 hcm1 hs1)
  clear ho1 hs1 hb1 HP Hb0 kk hcm1
  go_wp2_with fail
  refine (HU.out).mono ?_
  rintro e w2 ⟨hz, hb2⟩
  unfold ZPost at hz
  rw [Hz.out] at hz
  obtain ⟨_, v2, rfl, ho2⟩ := hz
  have Hb2 := Lib.hid (Hb1.out.trans (hb2.mono Hb1.out.size))
  obtain ⟨b, o, rfl, hc0⟩ := (HS1.out.below hb2).get (k := 0) (by rw [HN.out]; omega)
  have h31 : (gzB hello)[0]'(by rw [HN.out]; omega) = 31 := by
    have := H0.out
    rw [List.getElem?_eq_getElem (by rw [HN.out]; omega)] at this
    exact Option.some.inj this
  rw [h31] at hc0
  obtain ⟨A2, c2, rfl, _, _, hs2, _⟩ := own_slat ho2
  have hcv : (convert 22 9 (.slice A2 17 c2)).run Try.prog w2 = .ok (.string ⟨#[104, 101, 108, 108, 111, 32, 104, 101, 108, 108, 111, 32, 104, 101, 108, 108, 111]⟩) w2 := conv_bytes A2 17 c2 hello w2 rfl hs2
  have hc0' : w2.cell? ⟨b, o, none⟩ = some (.int .u8 31) := hc0
  have h18 : (18 : Int) < (N : Int) := by omega
  have hN0 : 0 < N := by omega
  rw [show hello.length = 17 from rfl]
  clear ho2 hs2 hb2 Hb1 HS1 HU hc0 h31
  go_wp2_with fail
  go_ret
  exact ⟨rfl, Hb2.out⟩
end Go.Proofs.Ythpdcnjaodjjmaa.Gz

/- at2: a number brought within bounds. -/
namespace Go.Proofs.Ythpdcnjaodjjmaa
open Go Go.RowKit
set_option linter.unusedVariables false
theorem at2_any (k n : Int) (w : World) (h0 : -9223372036854775808 ≤ k) (h1 : k ≤ 9223372036854775807) (hn : 0 < n) (hn2 : n ≤ 4611686018427387904) :
    Calls Try.prog 21 #[.int .i64 k, .int .i64 n] w fun e w' => e = .returned (.int .i64 (k % n)) ∧ w = w' := by
  have hne : (n == 0) = false := by simp; omega
  have hb1 : k.tmod n < n := Int.tmod_lt_of_pos _ hn
  have hb2 : -n < k.tmod n := by
    have := Int.tmod_lt_of_pos (-k) hn
    rw [Int.neg_tmod] at this; omega
  by_cases hneg : k.tmod n < 0
  · have Hf : Hid (k.tmod n + n = k % n) := Lib.hid (by
      have h2 := Int.tmod_add_mul_tdiv k n
      have h3 : (k.tmod n + n + n * (k.tdiv n - 1)) = k := by rw [Int.mul_sub, Int.mul_one]; omega
      conv => rhs; rw [← h3]
      rw [Int.add_mul_emod_self_left, Int.emod_eq_of_lt (by omega) (by omega)])
    go_enter Try.func21, Try.ntmps21
    go_wp2
    go_ret
    exact ⟨ret_int Hf.out, rfl⟩
  · have hneg : 0 ≤ k.tmod n := by omega
    have Hf : Hid (k.tmod n = k % n) := Lib.hid (by
      have h2 := Int.tmod_add_mul_tdiv k n
      conv => rhs; rw [← h2]
      rw [Int.add_mul_emod_self_left, Int.emod_eq_of_lt (by omega) (by omega)])
    go_enter Try.func21, Try.ntmps21
    go_wp2
    go_ret
    exact ⟨ret_int Hf.out, rfl⟩
end Go.Proofs.Ythpdcnjaodjjmaa

/- reliquarylaw.GzBack: the walk. -/
namespace Go.Proofs.Ythpdcnjaodjjmaa.GzBack
open Go Go.RowKit Go.Proofs.Ythpdcnjaodjjmaa Go.Proofs.Ythpdcnjaodjjmaa.Bits Go.Proofs.Ythpdcnjaodjjmaa.Inf Go.Proofs.Ythpdcnjaodjjmaa.Rt Go.Proofs.Ythpdcnjaodjjmaa.Blk Go.Proofs.Ythpdcnjaodjjmaa.Gz
set_option linter.unusedVariables false

def bit8 (r : Nat) : UInt8 := UInt8.ofNat (2 ^ r)
theorem shl_one (r : Nat) (hr : r < 8) : (2 : Int) ^ r % 256 = n8 (bit8 r) := by
  have h : ∀ a : Fin 8, (2 : Int) ^ a.val % 256 = n8 (bit8 a.val) := by decide
  exact h ⟨r, hr⟩
theorem turn_ne (r : Nat) (hr : r < 8) (x : UInt8) : x ^^^ bit8 r ≠ x := by
  intro h
  have h1 : (x ^^^ bit8 r) ^^^ x = 0 := by rw [h, UInt8.xor_self]
  have h2 : (x ^^^ bit8 r) ^^^ x = bit8 r := by rw [UInt8.xor_comm x, UInt8.xor_assoc, UInt8.xor_self, UInt8.xor_zero]
  rw [h2] at h1
  have h : ∀ a : Fin 8, bit8 a.val ≠ 0 := by decide
  exact h ⟨r, hr⟩ h1
set_option maxRecDepth 100000 in
set_option maxHeartbeats 3000000 in
theorem walk (W : World) (v0 : Value) (xs : List UInt8) (h0 : IsBytes W v0 xs) (p0 : Int) (hp : (Lit.int .i64 p0).wf = true) :
    Calls Try.prog 7 #[v0, .int .i64 p0] W fun e W' => e = .returned (.bool true) ∧ Below W.heap.size W W' := by
  obtain ⟨i0, i1⟩ := wf_i64 hp
  obtain ⟨A, c, rfl, hnc, hcm, hA⟩ := h0
  clear hp
  have HA := Lib.hid hA
  obtain ⟨n, hn⟩ : ∃ n, n = xs.length := ⟨_, rfl⟩
  rw [← hn] at hnc ⊢
  have Hn := Lib.hid hn.symm
  have HG := Lib.hid (gzpack_any A n c xs W hn.symm hnc hcm hA)
  have Hcm := Lib.hid hcm
  unfold maxLen at hcm
  clear hA hn
  go_enter Try.func7, Try.ntmps7
  go_wp2_with fail
  refine (HG.out).mono ?_
  rintro e w1 ⟨h, hb1⟩
  have Hb1 := Lib.hid hb1
  clear hb1 HG
  rcases h with ⟨h3, rfl⟩ | ⟨h3, v1, rfl, ho1⟩
  · clear h3
    go_wp2_with fail
    refine (zipped_any _).mono ?_
    rintro e w3 ⟨rfl, hb3⟩
    have Hb3 := Lib.hid (Hb1.out.trans (hb3.mono Hb1.out.size))
    clear hb3 Hb1
    go_wp2_with fail
    refine (zipped_any _).mono ?_
    rintro e w4 ⟨rfl, hb4⟩
    have Hb4 := Lib.hid (Hb3.out.trans (hb4.mono Hb3.out.size))
    clear hb4 Hb3
    go_wp2_with fail
    go_ret
    exact ⟨rfl, Hb4.out⟩
  · have hbl : (bestK xs 3).1.length ≤ 100000 := Nat.le_trans (best_first xs) (pack0_len xs (by rw [Hn.out]; exact h3))
    have hl := gzB_len xs
    have Hun := fun h => gunz_back xs (by rw [Hn.out]; exact h3) h
    have Htorn := fun h => gunz_torn xs (by rw [Hn.out]; exact h3) h
    have Hturn := fun i y h => gunz_turned xs i y (by rw [Hn.out]; exact h3) h
    have HUn := Lib.hid Hun
    have HTorn := Lib.hid Htorn
    have HTurn := Lib.hid Hturn
    clear Hun Htorn Hturn
    generalize (bestK xs 3).1 = B at *
    generalize gzB xs = G at *
    obtain ⟨N, hN⟩ : ∃ N, N = G.length := ⟨_, rfl⟩
    rw [← hN] at ho1 hl HUn HTorn
    have HN := Lib.hid hN.symm
    have hN18 : 18 ≤ N := by omega
    have hNx : N ≤ 100018 := by omega
    clear hl hN hbl
    obtain ⟨A1, c1, rfl, hc1, hcm1, hs1, hz1⟩ := own_slat ho1
    have HS1 : Hid (ByAt w1 A1 G) := Lib.hid hs1
    have HZ1 := Lib.hid hz1
    have HC1 := Lib.hid hcm1
    unfold maxLen at hcm1
    clear ho1 hs1 hz1
    have h18 : (18 : Int) ≤ (N : Int) := by omega
    have h8 : ¬ (N : Int) < 8 := by omega
    by_cases h6 : N ≤ 6000
    · have h6' : ¬ (6000 : Int) < (N : Int) := by omega
      go_wp2_with fail
      refine (zipped_any _).mono ?_
      rintro e w2 ⟨rfl, hb2⟩
      have Hb2 := Lib.hid (Hb1.out.trans (hb2.mono Hb1.out.size))
      have HS2 := Lib.hid (HS1.out.below hb2)
      have HU := Lib.hid (gunz_any A1 N c1 G w2 HN.out hc1 HC1.out (HS1.out.below hb2))
      clear hb2 HS1 Hb1
      go_wp2_with fail
      refine (HU.out).mono ?_
      rintro e w3 ⟨hz, hb3⟩
      unfold ZPost at hz
      rw [HUn.out h6] at hz
      obtain ⟨_, v3, rfl, ho3⟩ := hz
      obtain ⟨A3, c3, rfl, _, _, hs3, _⟩ := own_slat ho3
      have Hb3 := Lib.hid (Hb2.out.trans (hb3.mono Hb2.out.size))
      have HS3 := Lib.hid (HS2.out.below hb3)
      rw [Hn.out]
      have HE := Lib.hid (equal_bytes A3 A n n c3 c xs xs w3 Hn.out Hn.out hs3 (HA.out.below Hb3.out))
      rw [show decide (xs = xs) = true from by simp] at HE
      clear ho3 hs3 hb3 HS2 Hb2 HU
      go_wp2_with fail
      refine (HE.out).mono ?_
      rintro e w4 ⟨rfl, hw4⟩
      have HS4 : Hid (ByAt w4 A1 G) := Lib.hid (by rw [hw4]; exact HS3.out)
      have Hb4 : Hid (Below W.heap.size W w4) := Lib.hid (by rw [hw4]; exact Hb3.out)
      clear hw4 HE HS3 Hb3
      go_wp2_with fail
      refine (at2_any p0 64 _ i0 i1 (by omega) (by omega)).mono ?_
      rintro e w5 ⟨rfl, rfl⟩
      have q0 : 0 ≤ p0 % 64 := Int.emod_nonneg _ (by omega)
      have q1 : p0 % 64 < 64 := Int.emod_lt_of_pos _ (by omega)
      generalize p0 % 64 = p1 at *
      obtain ⟨p, rfl⟩ := Int.eq_ofNat_of_zero_le q0
      have hp64 : p < 64 := by omega
      have Hlit := Lib.hid (World.ownsRow_lit (base := w4.heap.size) (size := 1) (e := 5) w4 #[] 0 (Nat.le_refl _) (by unfold maxLen; omega) rfl)
      have Hlen : Hid ((G.map u8v).length = N * 1) := Lib.hid (by simp; exact HN.out)
      have Hsl : Hid (SlAt (w4.alloc (.cells #[] 5)) A1 (G.map u8v)) := Lib.hid (SlAt.below HS4.out ((Below.refl _ _).alloc (Nat.le_refl _) _))
      have Hb4' := Lib.hid ((Below.refl w4.heap.size w4).alloc (Nat.le_refl _) (.cells #[] 5))
      have hf8 : ((p : Int) / 8) = ((p / 8 : Nat) : Int) := by omega
      have hm8 : ((p : Int) % 8) = ((p % 8 : Nat) : Int) := by omega
      clear q0 q1 i0 i1
      go_wp2_with (at_builtin; refine wpList_appb rfl (.tmp 57) (.tmp 58) _ rfl 5 _ 1 1 ty8 (.slice (some ⟨w4.heap.size, 0, none⟩) 0 0) 0 [] rfl Hlit.out Hb4'.out A1 N c1 (G.map u8v) rfl Hlen.out Hsl.out (u8s_one G) HZ1.out (by unfold maxLen; omega) (by omega) ?_; intro v5 w5 hown5 hb5 _ _)
      simp only [Nat.zero_add, List.nil_append] at hown5
      obtain ⟨g, cap5, hv, hgb, hgl⟩ := hown5.form (by omega)
      subst hv
      obtain ⟨q, hq⟩ : ∃ q, q = p / 8 := ⟨_, rfl⟩
      obtain ⟨r, hr⟩ : ∃ r, r = p % 8 := ⟨_, rfl⟩
      have hq8 : q < 8 := by omega
      have hr8 : r < 8 := by omega
      have hdiv : ((p : Int) / 8) = (q : Int) := by omega
      have hmod : ((p : Int) % 8) = (r : Int) := by omega
      obtain ⟨M, hM⟩ : ∃ M, N = M + 8 := ⟨N - 8, by omega⟩
      obtain ⟨ix, hix⟩ : ∃ ix, ix = M + q := ⟨_, rfl⟩
      have hsub : (N : Int) - 8 = (M : Int) := by omega
      have hadd : (M : Int) + (q : Int) = (ix : Int) := by omega
      have hixN : ix < N := by omega
      have hixG : ix < G.length := by rw [HN.out]; exact hixN
      have hixi : (ix : Int) < (N : Int) := by omega
      have hixM : N - 8 ≤ ix := by omega
      have HT := Lib.hid (HTurn.out ix (G[ix] ^^^ bit8 r) (by rw [HN.out]; exact h6) (by rw [HN.out]; exact hixM) hixG (turn_ne r hr8 _))
      have hcell : w5.cell? ⟨g, ix, none⟩ = some (.int .u8 (n8 G[ix])) := by
        rw [hown5.cellAt ix (by rw [Nat.mul_one]; exact hixN), List.getElem?_map, List.getElem?_eq_getElem hixG]; rfl
      have hfz := hown5.frozenAt ix
      have Hst := Lib.hid (hown5.stored ix (.int .u8 (n8 (G[ix] ^^^ bit8 r))))
      generalize G[ix] = y at *
      have hsh := shl_one r hr8
      have HS5 := Lib.hid (HS4.out)
      have hse : (G.map u8v).set ix (.int .u8 (n8 (y ^^^ bit8 r))) = (G.set ix (y ^^^ bit8 r)).map u8v := (List.map_set).symm
      rw [hse] at Hst
      have Hb5 := Lib.hid hb5
      clear hq hr hf8 hm8 hM hix hown5 hb5 Hlit Hsl Hb4' Hlen
      go_region
      go_wp2_with fail
      have Hb6 : Hid (Below w4.heap.size w4 (w5.setCell ⟨g, ix, none⟩ (.int .u8 (n8 (y ^^^ bit8 r)))).drew) := Lib.hid ((Hb5.out.setCell (p := ⟨g, ix, none⟩) hgb _).drew)
      have HO6 : Hid ((w5.setCell ⟨g, ix, none⟩ (.int .u8 (n8 (y ^^^ bit8 r)))).drew.ownsRow w4.heap.size 5 1 (.slice (some ⟨g, 0, none⟩) N cap5) N ((G.set ix (y ^^^ bit8 r)).map u8v)) := Lib.hid (own_drew Hst.out.1)
      generalize (w5.setCell ⟨g, ix, none⟩ (.int .u8 (n8 (y ^^^ bit8 r)))).drew = w6 at *
      obtain ⟨A6, c6, hv6, hn6, hm6, hs6, _⟩ := own_slat HO6.out
      injection hv6 with e1 _ e2
      subst e1 e2
      have HSa : Hid (ByAt w6 A1 G) := Lib.hid (ByAt.below HS5.out Hb6.out)
      have Hbw6 := Lib.hid (Hb4.out.trans (Hb6.out.mono Hb4.out.size))
      have HU1 := Lib.hid (gunz_any (some ⟨g, 0, none⟩) N cap5 (G.set ix (y ^^^ bit8 r)) w6 (by rw [List.length_set]; exact HN.out) hn6 hm6 hs6)
      clear HO6 hs6 Hst hcell hfz Hb6 HS5 HS4 Hb5 hm6 hse
      refine (HU1.out).mono ?_
      rintro e w7 ⟨hz, hb7⟩
      unfold ZPost at hz
      rw [HT.out] at hz
      obtain rfl := hz
      have Hb7 := Lib.hid (Hbw6.out.trans (hb7.mono Hbw6.out.size))
      have HS7 := Lib.hid (HSa.out.below hb7)
      have hN1 : (N : Int) - 1 = ((N - 1 : Nat) : Int) := by omega
      obtain ⟨N1, hN1e⟩ : ∃ x, x = N - 1 := ⟨_, rfl⟩
      rw [← hN1e] at hN1
      have HU2 := Lib.hid (gunz_any A1 (N - 1) c1 (G.take (N - 1)) w7 (by rw [List.length_take, HN.out]; omega) (by omega) HC1.out (HS7.out.take _))
      have HT2 := Lib.hid (HTorn.out h6)
      obtain ⟨bb, oo, rfl, _⟩ := HS7.out.get (k := 0) (by rw [HN.out]; omega)
      have hN1c : (N1 : Int) ≤ (c1 : Int) := by omega
      clear hb7 HU1 HSa Hbw6 HT
      go_wp2_with fail
      refine (HU2.out).mono ?_
      rintro e w8 ⟨hz, hb8⟩
      unfold ZPost at hz
      rw [HT2.out] at hz
      obtain rfl := hz
      have Hb8 := Lib.hid (Hb7.out.trans (hb8.mono Hb7.out.size))
      clear hb8 HU2 Hb7
      go_wp2_with fail
      go_ret
      exact ⟨rfl, Hb8.out⟩
    · have h6' : (6000 : Int) < (N : Int) := by omega
      clear h6
      go_wp2_with fail
      refine (zipped_any _).mono ?_
      rintro e w3 ⟨rfl, hb3⟩
      have Hb3 := Lib.hid (Hb1.out.trans (hb3.mono Hb1.out.size))
      clear hb3 Hb1
      go_wp2_with fail
      refine (zipped_any _).mono ?_
      rintro e w4 ⟨rfl, hb4⟩
      have Hb4 := Lib.hid (Hb3.out.trans (hb4.mono Hb3.out.size))
      clear hb4 Hb3
      go_wp2_with fail
      go_ret
      exact ⟨rfl, Hb4.out⟩
end Go.Proofs.Ythpdcnjaodjjmaa.GzBack
