/- words: the operations on uint32 in BitVec's own words, on bytes in UInt8's; no program in sight. -/
import Derived.WalkKit
namespace Go.Proofs.YtabdianhoabhhaaGreatDoor
open Go

/-- a uint32, a byte, as the walk holds it: closed to simp -/
def n32 (a : BitVec 32) : Int := (a.toNat : Int)
def n8 (x : UInt8) : Int := (x.toNat : Int)
theorem n32_bd (a : BitVec 32) : 0 ≤ n32 a ∧ n32 a < 4294967296 := by unfold n32; have := a.isLt; omega
theorem n8_bd (x : UInt8) : 0 ≤ n8 x ∧ n8 x < 256 := by unfold n8; have := x.toNat_lt; omega
theorem n32_inj {a b : BitVec 32} (h : n32 a = n32 b) : a = b := by apply BitVec.eq_of_toNat_eq; unfold n32 at h; omega
theorem n8_inj {a b : UInt8} (h : n8 a = n8 b) : a = b := by apply UInt8.toNat_inj.1; unfold n8 at h; omega
theorem n32_beq (a b : BitVec 32) : (n32 a == n32 b) = decide (a = b) := by
  rw [Bool.eq_iff_iff]; simp; exact ⟨n32_inj, fun h => by rw [h]⟩
theorem n8_beq (a b : UInt8) : (n8 a == n8 b) = decide (a = b) := by
  rw [Bool.eq_iff_iff]; simp; exact ⟨n8_inj, fun h => by rw [h]⟩
theorem ofInt32 (a : BitVec 32) : BitVec.ofInt 32 (a.toNat : Int) = a := by
  rw [BitVec.ofInt_natCast]; simp
theorem u32_back (a : BitVec 32) : IntKind.u32.wrap (a.toNat : Int) = (a.toNat : Int) := by
  have := a.isLt
  rw [IntKind.wrap_u32']; omega
theorem u32_xor_bv (a b : BitVec 32) : bits .xor .u32 (a.toNat : Int) (b.toNat : Int) = ((a ^^^ b).toNat : Int) := by
  show IntKind.u32.wrap ((BitVec.ofInt 32 (a.toNat : Int) ^^^ BitVec.ofInt 32 (b.toNat : Int)).toNat : Int) = _
  rw [ofInt32, ofInt32, u32_back]
theorem u32_and_bv (a b : BitVec 32) : bits .and .u32 (a.toNat : Int) (b.toNat : Int) = ((a &&& b).toNat : Int) := by
  show IntKind.u32.wrap ((BitVec.ofInt 32 (a.toNat : Int) &&& BitVec.ofInt 32 (b.toNat : Int)).toNat : Int) = _
  rw [ofInt32, ofInt32, u32_back]
theorem u32_or_bv (a b : BitVec 32) : bits .or .u32 (a.toNat : Int) (b.toNat : Int) = ((a ||| b).toNat : Int) := by
  show IntKind.u32.wrap ((BitVec.ofInt 32 (a.toNat : Int) ||| BitVec.ofInt 32 (b.toNat : Int)).toNat : Int) = _
  rw [ofInt32, ofInt32, u32_back]
theorem u32_and_one (a : BitVec 32) : bits .and .u32 (a.toNat : Int) 1 = ((a &&& 1#32).toNat : Int) := u32_and_bv a 1#32
theorem u32_xor_poly (a : BitVec 32) : bits .xor .u32 (a.toNat : Int) 3988292384 = ((a ^^^ 3988292384#32).toNat : Int) := u32_xor_bv a 3988292384#32
theorem u32_poly_mul (a : BitVec 32) : IntKind.u32.wrap (3988292384 * (a.toNat : Int)) = ((3988292384#32 * a).toNat : Int) := by
  rw [IntKind.wrap_u32', BitVec.toNat_mul]; simp
theorem u32_not (c : BitVec 32) : Op.unary .xor (.int .u32 (c.toNat : Int)) = pure (.int .u32 ((~~~c).toNat : Int)) := by
  have h : bits .xor .u32 4294967295 (c.toNat : Int) = ((~~~c).toNat : Int) := by
    have := u32_xor_bv 4294967295#32 c
    rw [show ((4294967295#32 : BitVec 32).toNat : Int) = 4294967295 from rfl] at this
    rw [this, show (4294967295#32) = BitVec.allOnes 32 from rfl, BitVec.allOnes_xor]
  rw [unary_xor]
  have e : (if IntKind.u32.signed = true then (-1 : Int) else IntKind.u32.max) = 4294967295 := by decide
  rw [e, ← h]; rfl
theorem u32_shr (a : BitVec 32) (yk : IntKind) (n : Nat) (hn : n ≤ 32) : Op.shift .shr .u32 (a.toNat : Int) yk (n : Int) = pure (.int .u32 ((a >>> n).toNat : Int)) := by
  rw [shift_shr_any _ _ _ _ (by omega)]
  have : min (n : Int).toNat IntKind.u32.bits = n := by simp [IntKind.bits]; omega
  rw [this, BitVec.toNat_ushiftRight, Nat.shiftRight_eq_div_pow]; simp
theorem u32_shr1 (a : BitVec 32) (yk : IntKind) : Op.shift .shr .u32 (a.toNat : Int) yk 1 = pure (.int .u32 ((a >>> 1).toNat : Int)) := u32_shr a yk 1 (by omega)
theorem u32_shr8 (a : BitVec 32) (yk : IntKind) : Op.shift .shr .u32 (a.toNat : Int) yk 8 = pure (.int .u32 ((a >>> 8).toNat : Int)) := u32_shr a yk 8 (by omega)
theorem u32_of_u8 (x : UInt8) : IntKind.u32.wrap (x.toNat : Int) = ((x.toBitVec.setWidth 32).toNat : Int) := by
  have := x.toNat_lt
  rw [IntKind.wrap_u32']; simp [UInt8.toNat_toBitVec]; omega
theorem u8_of_u32 (c : BitVec 32) : IntKind.u8.wrap (c.toNat : Int) = ((UInt8.ofBitVec (c.setWidth 8)).toNat : Int) := by
  rw [IntKind.wrap_u8']; simp [← UInt8.toNat_toBitVec]
theorem ofInt8 (a : UInt8) : BitVec.ofInt 8 (a.toNat : Int) = a.toBitVec := by
  rw [BitVec.ofInt_natCast]; apply BitVec.eq_of_toNat_eq; simp
theorem u8_back (a : UInt8) : IntKind.u8.wrap (a.toNat : Int) = (a.toNat : Int) := by
  have := a.toNat_lt
  rw [IntKind.wrap_u8']; omega
theorem u8_xor_b (a b : UInt8) : bits .xor .u8 (a.toNat : Int) (b.toNat : Int) = ((a ^^^ b).toNat : Int) := by
  show IntKind.u8.wrap ((BitVec.ofInt 8 (a.toNat : Int) ^^^ BitVec.ofInt 8 (b.toNat : Int)).toNat : Int) = _
  rw [ofInt8, ofInt8, ← u8_back]; rfl
theorem u8_bit (x : UInt8) (k : Nat) (_hk : k < 8) : bits .and .u8 ((x.toNat : Int) / 2 ^ k) 1 = (((x.toNat.testBit k).toNat : Nat) : Int) := by
  have hx := x.toNat_lt
  have h2 : (x.toNat : Int) / 2 ^ k = ((x.toNat / 2 ^ k : Nat) : Int) := by simp
  have hlt : x.toNat / 2 ^ k < 256 := Nat.lt_of_le_of_lt (Nat.div_le_self _ _) hx
  rw [h2, show (1 : Int) = ((1 : Nat) : Int) from rfl, u8_and_nat _ _ hlt (by omega), nat_mask1, Nat.toNat_testBit]

theorem n32_xor (a b : BitVec 32) : bits .xor .u32 (n32 a) (n32 b) = n32 (a ^^^ b) := u32_xor_bv a b
theorem n32_and (a b : BitVec 32) : bits .and .u32 (n32 a) (n32 b) = n32 (a &&& b) := u32_and_bv a b
theorem n32_or (a b : BitVec 32) : bits .or .u32 (n32 a) (n32 b) = n32 (a ||| b) := u32_or_bv a b
theorem n32_and_one (a : BitVec 32) : bits .and .u32 (n32 a) 1 = n32 (a &&& 1#32) := u32_and_bv a 1#32
theorem n32_xor_poly (a : BitVec 32) : bits .xor .u32 (n32 a) 3988292384 = n32 (a ^^^ 3988292384#32) := u32_xor_bv a 3988292384#32
theorem n32_poly_mul (a : BitVec 32) : IntKind.u32.wrap (3988292384 * n32 a) = n32 (3988292384#32 * a) := u32_poly_mul a
theorem n32_not (c : BitVec 32) : Op.unary .xor (.int .u32 (n32 c)) = pure (.int .u32 (n32 (~~~c))) := u32_not c
theorem n32_shr1 (a : BitVec 32) (yk : IntKind) : Op.shift .shr .u32 (n32 a) yk 1 = pure (.int .u32 (n32 (a >>> 1))) := u32_shr1 a yk
theorem n32_shr8 (a : BitVec 32) (yk : IntKind) : Op.shift .shr .u32 (n32 a) yk 8 = pure (.int .u32 (n32 (a >>> 8))) := u32_shr8 a yk
theorem n32_of8 (x : UInt8) : IntKind.u32.wrap (n8 x) = n32 (x.toBitVec.setWidth 32) := u32_of_u8 x
theorem n8_of32 (c : BitVec 32) : IntKind.u8.wrap (n32 c) = n8 (UInt8.ofBitVec (c.setWidth 8)) := u8_of_u32 c
theorem n8_xor (a b : UInt8) : bits .xor .u8 (n8 a) (n8 b) = n8 (a ^^^ b) := u8_xor_b a b
theorem n32_back (a : BitVec 32) : IntKind.u32.wrap (n32 a) = n32 a := u32_back a
theorem n8_back (a : UInt8) : IntKind.u8.wrap (n8 a) = n8 a := u8_back a
theorem n8_int (a : UInt8) : IntKind.i64.wrap (n8 a) = n8 a := IntWalk.i64_in _ (by have := n8_bd a; omega)
theorem n32_int (a : BitVec 32) : IntKind.i64.wrap (n32 a) = n32 a := IntWalk.i64_in _ (by have := n32_bd a; omega)
theorem n32_of8' (x : UInt8) : n8 x % 4294967296 = n32 (x.toBitVec.setWidth 32) := by rw [← IntKind.wrap_u32', n32_of8]
theorem n8_of32' (c : BitVec 32) : n32 c % 256 = n8 (UInt8.ofBitVec (c.setWidth 8)) := by rw [← IntKind.wrap_u8', n8_of32]
theorem n32_div2 (a : BitVec 32) : n32 a / (2 : Int) = n32 (a >>> 1) := by
  unfold n32; rw [BitVec.toNat_ushiftRight, Nat.shiftRight_eq_div_pow]; omega
theorem n32_div256 (a : BitVec 32) : n32 a / (256 : Int) = n32 (a >>> 8) := by
  unfold n32; rw [BitVec.toNat_ushiftRight, Nat.shiftRight_eq_div_pow]; omega
theorem n32_signed : IntKind.u32.signed = false := rfl
theorem n32_max (c : BitVec 32) : bits .xor .u32 IntKind.u32.max (n32 c) = n32 (~~~c) := by
  have := u32_not c
  rw [unary_xor] at this
  have e : (if IntKind.u32.signed = true then (-1 : Int) else IntKind.u32.max) = IntKind.u32.max := by decide
  rw [e] at this
  have h2 := congrArg (fun s : Sem Value => match s with | .pure (.int _ n) => n | _ => 0) this
  exact h2
attribute [go_sem] n32_of8' n8_of32' n32_xor n32_and n32_or n32_and_one n32_xor_poly n32_poly_mul n32_of8 n8_of32 n8_xor n32_back n8_back n8_int n32_int
attribute [go_sem] n32_not n32_shr1 n32_shr8 n32_div2 n32_div256 n32_signed n32_max
end Go.Proofs.YtabdianhoabhhaaGreatDoor
