/- sums: the plain law of CRC-32, bit by bit, byte by byte, and of two rows. No program in sight. -/
import Derived.Test.YtoncjlbgheaabaaMem
namespace Go.Proofs.Ytoncjlbgheaabaa.Sum
open Go Go.RowKit Go.Proofs.Ytoncjlbgheaabaa

abbrev W32 := BitVec 32
def poly : W32 := 3988292384#32
def one : W32 := 2147483648#32
/-- one bit on -/
def stepC (c : W32) : W32 := (c >>> 1) ^^^ (3988292384#32 * (c &&& 1#32))
def stepN : Nat → W32 → W32
  | 0, c => c
  | n + 1, c => stepC (stepN n c)
def tab (k : Nat) : W32 := stepN 8 (BitVec.ofNat 32 k)
def low8 (c : W32) : UInt8 := UInt8.ofBitVec (c.setWidth 8)
def crcB (c : W32) (x : UInt8) : W32 := (c >>> 8) ^^^ tab (low8 c ^^^ x).toNat
def crcL (c : W32) (l : List UInt8) : W32 := l.foldl crcB c
def crc (before : W32) (l : List UInt8) : W32 := ~~~ crcL (~~~before) l

theorem mul_bit (c : W32) : 3988292384#32 * (c &&& 1#32) = if c.getLsbD 0 then poly else 0#32 := by
  have h : c &&& 1#32 = if c.getLsbD 0 then 1#32 else 0#32 := by
    apply BitVec.eq_of_getLsbD_eq
    intro i hi
    by_cases h0 : i = 0
    · subst h0; rw [BitVec.getLsbD_and]; cases h : c.getLsbD 0 <;> rfl
    · have h1 : (1#32).getLsbD i = false := by
        rw [BitVec.getLsbD_one]; simp; omega
      cases h : c.getLsbD 0 <;> simp [h1]
  rw [h]
  cases c.getLsbD 0 <;> simp [poly]
theorem stepC_if (c : W32) : stepC c = (c >>> 1) ^^^ (if c.getLsbD 0 then poly else 0#32) := by
  unfold stepC; rw [mul_bit]
theorem stepC_zero : stepC 0#32 = 0#32 := by decide
theorem stepC_xor (a b : W32) : stepC (a ^^^ b) = stepC a ^^^ stepC b := by
  simp only [stepC_if, BitVec.ushiftRight_xor_distrib, BitVec.getLsbD_xor]
  cases a.getLsbD 0 <;> cases b.getLsbD 0 <;> simp <;> ac_nf
  · rw [← BitVec.xor_assoc, ← BitVec.xor_assoc]; simp
theorem stepN_xor (n : Nat) (a b : W32) : stepN n (a ^^^ b) = stepN n a ^^^ stepN n b := by
  induction n with
  | zero => rfl
  | succ n ih => simp only [stepN, ih, stepC_xor]
theorem stepN_zero (n : Nat) : stepN n 0#32 = 0#32 := by
  induction n with
  | zero => rfl
  | succ n ih => simp only [stepN, ih, stepC_zero]
theorem stepN_add (m n : Nat) (c : W32) : stepN (m + n) c = stepN m (stepN n c) := by
  induction m with
  | zero => simp [stepN]
  | succ m ih => rw [show m + 1 + n = (m + n) + 1 by omega]; simp only [stepN, ih]
theorem stepN_comm1 (n : Nat) (c : W32) : stepN n (stepC c) = stepC (stepN n c) := by
  have h1 : stepN (n + 1) c = stepC (stepN n c) := rfl
  have h2 := stepN_add n 1 c
  rw [← h1, h2]; rfl
theorem poly_top : poly.getLsbD 31 = true := by decide
theorem stepC_ne (c : W32) (h : c ≠ 0#32) : stepC c ≠ 0#32 := by
  intro h0
  rw [stepC_if] at h0
  cases hb : c.getLsbD 0 with
  | true =>
    rw [hb] at h0
    have := congrArg (fun v : W32 => v.getLsbD 31) h0
    simp only [if_true, BitVec.getLsbD_xor, poly_top, BitVec.getLsbD_ushiftRight] at this
    rw [BitVec.getLsbD_of_ge _ _ (by omega)] at this
    cases this
  | false =>
    rw [hb] at h0
    simp at h0
    apply h
    apply BitVec.eq_of_getLsbD_eq
    intro i hi
    rcases Nat.eq_zero_or_pos i with rfl | hp
    · simpa using hb
    · have := congrArg (fun v : W32 => v.getLsbD (i - 1)) h0
      simp at this
      rw [show 1 + (i - 1) = i by omega] at this
      simpa using this
theorem stepN_ne (n : Nat) (c : W32) (h : c ≠ 0#32) : stepN n c ≠ 0#32 := by
  induction n with
  | zero => exact h
  | succ n ih => exact stepC_ne _ ih

/-- the bits of a byte, the lowest first -/
def bitsOf (x : UInt8) : List Bool := (List.range 8).map fun k => x.toNat.testBit k
def bitsL (l : List UInt8) : List Bool := l.flatMap bitsOf
def b32 (b : Bool) : W32 := if b then 1#32 else 0#32
def crcBit (c : W32) (b : Bool) : W32 := stepC (c ^^^ b32 b)
def crcBits (c : W32) (l : List Bool) : W32 := l.foldl crcBit c

theorem crcBits_nil (c : W32) : crcBits c [] = c := rfl
theorem crcBits_cons (c : W32) (b : Bool) (l : List Bool) : crcBits c (b :: l) = crcBits (crcBit c b) l := rfl
theorem crcBits_append (c : W32) (l m : List Bool) : crcBits c (l ++ m) = crcBits (crcBits c l) m := by
  simp [crcBits]
/-- a word of bits as a number, the first the lowest -/
def word : List Bool → W32
  | [] => 0#32
  | b :: l => b32 b ^^^ (word l <<< 1)
theorem shl_step (c : W32) (h : c.getLsbD 31 = false) : stepC (c <<< 1) = c := by
  have h0 : (c <<< 1).getLsbD 0 = false := by rw [BitVec.getLsbD_shiftLeft]; simp
  rw [stepC_if, h0]
  apply BitVec.eq_of_getLsbD_eq
  intro i hi
  simp only [Bool.false_eq_true, if_false, BitVec.xor_zero, BitVec.getLsbD_ushiftRight, BitVec.getLsbD_shiftLeft]
  by_cases h31 : i = 31
  · subst h31; rw [h]; rfl
  · rw [show 1 + i - 1 = i by omega]
    have h1 : decide (1 + i < 32) = true := by simp; omega
    have h2 : decide (1 + i < 1) = false := by simp
    rw [h1, h2]; simp
theorem word_top (l : List Bool) (n : Nat) (h : l.length ≤ n) : (word l).getLsbD n = false := by
  induction l generalizing n with
  | nil => simp [word]
  | cons b l ih =>
    have hn : 0 < n := by simp at h; omega
    have h1 := ih (n - 1) (by simp at h; omega)
    unfold word b32
    have hb : (if b then 1#32 else 0#32 : W32).getLsbD n = false := by
      cases b
      · simp
      · simp only [if_true]; rw [BitVec.getLsbD_one]; simp; omega
    rw [BitVec.getLsbD_xor, hb, BitVec.getLsbD_shiftLeft]
    simp [h1]
/-- so many bits at once: at most 32 of them -/
theorem crcBits_word (l : List Bool) (h : l.length ≤ 32) (c : W32) : crcBits c l = stepN l.length (c ^^^ word l) := by
  induction l generalizing c with
  | nil => simp [crcBits, word, stepN]
  | cons b l ih =>
    rw [crcBits_cons, ih (by simp at h; omega)]
    have ht : (word l).getLsbD 31 = false := word_top l 31 (by simp at h; omega)
    have e : crcBit c b ^^^ word l = stepC (c ^^^ word (b :: l)) := by
      show stepC (c ^^^ b32 b) ^^^ word l = stepC (c ^^^ (b32 b ^^^ (word l <<< 1)))
      rw [← BitVec.xor_assoc, stepC_xor (c ^^^ b32 b), shl_step _ ht]
    rw [e, stepN_comm1]
    simp [stepN]
theorem b32_xor (b e : Bool) : b32 (xor b e) = b32 b ^^^ b32 e := by cases b <;> cases e <;> decide
theorem crcBits_xor (l m : List Bool) (h : l.length = m.length) (c d : W32) :
    crcBits (c ^^^ d) (List.zipWith xor l m) = crcBits c l ^^^ crcBits d m := by
  induction l generalizing m c d with
  | nil =>
    cases m with
    | nil => rfl
    | cons e m => simp at h
  | cons b l ih =>
    cases m with
    | nil => simp at h
    | cons e m =>
      simp only [List.zipWith_cons_cons, crcBits_cons]
      rw [← ih m (by simpa using h)]
      congr 1
      show stepC ((c ^^^ d) ^^^ b32 (xor b e)) = stepC (c ^^^ b32 b) ^^^ stepC (d ^^^ b32 e)
      rw [← stepC_xor, b32_xor]
      congr 1
      ac_rfl
theorem crcBits_zeros (n : Nat) (c : W32) : crcBits c (List.replicate n false) = stepN n c := by
  induction n generalizing c with
  | zero => rfl
  | succ n ih =>
    rw [List.replicate_succ, crcBits_cons, ih]
    have e : crcBit c false = stepC c := by unfold crcBit b32; simp
    rw [e, stepN_comm1]; rfl
theorem word_inj_ne (l : List Bool) (h : l.length ≤ 32) (hb : true ∈ l) : word l ≠ 0#32 := by
  induction l with
  | nil => simp at hb
  | cons b l ih =>
    intro h0
    unfold word at h0
    cases b with
    | true =>
      have := congrArg (fun v : W32 => v.getLsbD 0) h0
      simp [b32] at this
    | false =>
      have hl : true ∈ l := by simpa using hb
      simp [b32] at h0
      have ht : (word l).getLsbD 31 = false := word_top l 31 (by simp at h; omega)
      apply ih (by simp at h; omega) hl
      have := shl_step (word l) ht
      rw [h0, stepC_zero] at this
      exact this.symm

/-- byte by byte is bit by bit -/
theorem bitsOf_length (x : UInt8) : (bitsOf x).length = 8 := by simp [bitsOf]
theorem bitsL_length (l : List UInt8) : (bitsL l).length = 8 * l.length := by
  induction l with
  | nil => rfl
  | cons x l ih => simp only [bitsL, List.flatMap_cons, List.length_append, bitsOf_length, List.length_cons] at *; omega
theorem word_bitsOf : ∀ x : UInt8, word (bitsOf x) = x.toBitVec.setWidth 32 := by
  intro x
  have h : ∀ n : Fin 256, word (bitsOf (UInt8.ofNat n.val)) = (UInt8.ofNat n.val).toBitVec.setWidth 32 := by decide +kernel
  have := h ⟨x.toNat, x.toNat_lt⟩
  simpa using this
theorem shr8_step (c : W32) (n : Nat) (h : ∀ i, i < n → c.getLsbD i = false) : stepN n c = c >>> n := by
  induction n generalizing c with
  | zero => simp [stepN]
  | succ n ih =>
    have e : stepN (n + 1) c = stepN n (stepC c) := by rw [stepN_comm1]; rfl
    rw [e, stepC_if, h 0 (by omega)]
    simp
    rw [ih _ (fun i hi => by simp; exact h (1 + i) (by omega))]
    rw [← BitVec.shiftRight_add, Nat.add_comm]
theorem m255 (j : Nat) : (255#32).getLsbD j = decide (j < 8) := by
  by_cases h : j < 32
  · have : ∀ k : Fin 32, (255#32).getLsbD k.val = decide (k.val < 8) := by decide
    exact this ⟨j, h⟩
  · rw [BitVec.getLsbD_of_ge _ _ (by omega)]; simp; omega
theorem crcB_bits (c : W32) (x : UInt8) : crcB c x = crcBits c (bitsOf x) := by
  rw [crcBits_word _ (by simp [bitsOf_length]), bitsOf_length, word_bitsOf]
  unfold crcB tab
  have h1 : BitVec.ofNat 32 (low8 c ^^^ x).toNat = (c ^^^ x.toBitVec.setWidth 32) &&& 255#32 := by
    apply BitVec.eq_of_toNat_eq
    rw [BitVec.toNat_ofNat, UInt8.toNat_xor, BitVec.toNat_and, BitVec.toNat_xor]
    have hx := x.toNat_lt
    have e1 : (low8 c).toNat = c.toNat % 256 := by simp [low8, ← UInt8.toNat_toBitVec]
    have e2 : (x.toBitVec.setWidth 32).toNat = x.toNat := by simp
    have hk : ∀ y : Nat, y &&& 255 = y % 256 := fun y => Nat.and_two_pow_sub_one_eq_mod y 8
    rw [e1, e2, show (255#32).toNat = 255 from rfl, hk]
    have hm : (c.toNat ^^^ x.toNat) % 256 = (c.toNat % 256) ^^^ (x.toNat % 256) := Nat.xor_mod_two_pow (n := 8)
    have hlt : (c.toNat % 256) ^^^ x.toNat < 256 := Nat.xor_lt_two_pow (n := 8) (by omega) (by omega)
    have hxx : x.toNat % 256 = x.toNat := by omega
    rw [hxx] at hm
    rw [hm]; omega
  generalize hz : c ^^^ x.toBitVec.setWidth 32 = z at *
  have h2 : c >>> 8 = stepN 8 (z ^^^ (z &&& 255#32)) := by
    rw [shr8_step]
    · apply BitVec.eq_of_getLsbD_eq
      intro i hi
      subst hz
      have hx : x.toBitVec.getLsbD (8 + i) = false := BitVec.getLsbD_of_ge _ _ (by omega)
      simp only [BitVec.getLsbD_ushiftRight, BitVec.getLsbD_xor, BitVec.getLsbD_and, m255, BitVec.getLsbD_setWidth, hx]
      have : decide (8 + i < 8) = false := by simp
      rw [this]; simp
    · intro i hi
      simp only [BitVec.getLsbD_xor, BitVec.getLsbD_and, m255]
      have : decide (i < 8) = true := by simpa using hi
      rw [this]; simp
  rw [h1, h2, ← stepN_xor, BitVec.xor_assoc, BitVec.xor_self, BitVec.xor_zero]
theorem crcL_bits (l : List UInt8) (c : W32) : crcL c l = crcBits c (bitsL l) := by
  induction l generalizing c with
  | nil => rfl
  | cons x l ih =>
    rw [show bitsL (x :: l) = bitsOf x ++ bitsL l from rfl, crcBits_append, ← crcB_bits, ← ih]
    rfl
theorem crcL_append (c : W32) (l m : List UInt8) : crcL c (l ++ m) = crcL (crcL c l) m := by simp [crcL]
theorem crcL_snoc (c : W32) (l : List UInt8) (x : UInt8) : crcL c (l ++ [x]) = crcB (crcL c l) x := by simp [crcL]

/-- one bit by the reference -/
def refBit (c : W32) (b : Bool) : W32 := (c >>> 1) ^^^ (if ((c &&& 1#32) ^^^ b32 b) = 1#32 then poly else 0#32)
theorem refBit_eq (c : W32) (b : Bool) : refBit c b = crcBit c b := by
  unfold refBit crcBit
  rw [stepC_if, BitVec.ushiftRight_xor_distrib]
  have h1 : (b32 b) >>> 1 = 0#32 := by cases b <;> decide
  have h2 : (c &&& 1#32) = b32 (c.getLsbD 0) := by
    have : c &&& 1#32 = if c.getLsbD 0 then 1#32 else 0#32 := by
      apply BitVec.eq_of_getLsbD_eq
      intro i hi
      by_cases h0 : i = 0
      · subst h0; rw [BitVec.getLsbD_and]; cases h : c.getLsbD 0 <;> rfl
      · have h1 : (1#32).getLsbD i = false := by
          rw [BitVec.getLsbD_one]; simp; omega
        cases h : c.getLsbD 0 <;> simp [h1]
    exact this
  rw [h1, h2, BitVec.xor_zero, ← b32_xor, BitVec.getLsbD_xor]
  have h3 : (b32 b).getLsbD 0 = b := by cases b <;> decide
  rw [h3]
  cases xor (c.getLsbD 0) b <;> rfl

/-- Adler -/
def adl (p : Nat × Nat) (x : UInt8) : Nat × Nat := ((p.1 + x.toNat) % 65521, (p.2 + (p.1 + x.toNat) % 65521) % 65521)
def adlL (l : List UInt8) : Nat × Nat := l.foldl adl (1, 0)
def raw (p : Nat × Nat) (x : UInt8) : Nat × Nat := (p.1 + x.toNat, p.2 + (p.1 + x.toNat))
def rawL (l : List UInt8) : Nat × Nat := l.foldl raw (1, 0)
theorem adlL_snoc (l : List UInt8) (x : UInt8) : adlL (l ++ [x]) = adl (adlL l) x := by simp [adlL]
theorem rawL_snoc (l : List UInt8) (x : UInt8) : rawL (l ++ [x]) = raw (rawL l) x := by simp [rawL]
theorem snocRec {α : Type} {p : List α → Prop} (h0 : p []) (h1 : ∀ l x, p l → p (l ++ [x])) (l : List α) : p l := by
  have : ∀ m : List α, p m.reverse := by
    intro m
    induction m with
    | nil => exact h0
    | cons x m ih => rw [List.reverse_cons]; exact h1 _ _ ih
  have h := this l.reverse
  rwa [List.reverse_reverse] at h
theorem adl_raw (l : List UInt8) : adlL l = ((rawL l).1 % 65521, (rawL l).2 % 65521) := by
  induction l using snocRec with
  | h0 => rfl
  | h1 l x ih => rw [adlL_snoc, rawL_snoc, ih]; unfold adl raw; simp only [Prod.mk.injEq]; omega
theorem adlL_lt (l : List UInt8) : (adlL l).1 < 65521 ∧ (adlL l).2 < 65521 := by rw [adl_raw]; simp only; omega
theorem rawL_lt (l : List UInt8) : 1 ≤ (rawL l).1 ∧ (rawL l).1 ≤ 1 + 255 * l.length ∧ (rawL l).2 ≤ l.length * (1 + 255 * l.length) := by
  induction l using snocRec with
  | h0 => simp [rawL]
  | h1 l x ih =>
    rw [rawL_snoc]; unfold raw; simp only [List.length_append, List.length_cons, List.length_nil]
    have hx := x.toNat_lt
    have h2 : (l.length + (0 + 1)) * (1 + 255 * (l.length + (0 + 1))) = l.length * (1 + 255 * l.length) + l.length * 255 + (1 + 255 * (l.length + 1)) := by
      simp only [Nat.zero_add, Nat.add_mul, Nat.mul_add, Nat.one_mul, Nat.mul_one]; omega
    rw [h2]; omega
end Go.Proofs.Ytoncjlbgheaabaa.Sum
