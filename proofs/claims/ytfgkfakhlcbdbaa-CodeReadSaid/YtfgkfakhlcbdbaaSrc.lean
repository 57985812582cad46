/- package bits: bits that are read. -/
import Derived.Test.YtfgkfakhlcbdbaaRow0
import Derived.Deep.QuietTactic
import Derived.BigQuiet
namespace Go.Proofs.Ytfgkfakhlcbdbaa.Bits
open Go Go.RowKit Go.Proofs.Ytfgkfakhlcbdbaa
set_option linter.unusedVariables false

/-- a source at p: its bytes' place, which bit is next -/
def SrcAt (w : World) (p : Nat) (A : Option Addr) (n c : Nat) (pos : Nat) : Prop := Blk w p 105 #[.slice A n c, .int .i64 (pos : Int)]
def srcT : List TypeId := [105]

theorem u8_and_bitI (x : UInt8) (r : Nat) : bits .and .u8 (n8 x / 2 ^ r) 1 = bitI (x.toNat.testBit r) := by
  have hx := x.toNat_lt
  have hlt : x.toNat / 2 ^ r < 256 := Nat.lt_of_le_of_lt (Nat.div_le_self _ _) hx
  have h2 : n8 x / 2 ^ r = ((x.toNat / 2 ^ r : Nat) : Int) := by unfold n8; simp
  rw [h2, show (1 : Int) = ((1 : Nat) : Int) from rfl, u8_and_nat _ _ hlt (by omega), nat_mask1]
  unfold bitI; rw [Nat.toNat_testBit]
theorem bitI_bd (b : Bool) : 0 ≤ bitI b ∧ bitI b ≤ 1 := by cases b <;> decide
theorem or64 (a b i : Nat) (ha : a % 2 ^ i = 0) (hb : b < 2 ^ i) (hs : a + b < 9223372036854775808) : bits .or .i64 (a : Int) (b : Int) = ((a + b : Nat) : Int) := by
  have h1 : BitVec.ofInt 64 (a : Int) = BitVec.ofNat 64 a := by rw [BitVec.ofInt_natCast]
  have h2 : BitVec.ofInt 64 (b : Int) = BitVec.ofNat 64 b := by rw [BitVec.ofInt_natCast]
  show IntKind.i64.wrap ((BitVec.ofInt 64 (a : Int) ||| BitVec.ofInt 64 (b : Int)).toNat : Int) = _
  rw [h1, h2, BitVec.toNat_or, BitVec.toNat_ofNat, BitVec.toNat_ofNat, Nat.mod_eq_of_lt (by omega), Nat.mod_eq_of_lt (by omega), nat_join i a b ha hb]
  exact IntWalk.i64_in _ (by omega)
theorem or_comm64 (a b : Int) : bits .or .i64 a b = bits .or .i64 b a := by
  show IntKind.i64.wrap ((BitVec.ofInt 64 a ||| BitVec.ofInt 64 b).toNat : Int) = IntKind.i64.wrap ((BitVec.ofInt 64 b ||| BitVec.ofInt 64 a).toNat : Int)
  rw [BitVec.or_comm]
theorem or_bit64 (n k : Nat) (b : Bool) (hn : n < 2 ^ k) (hk : k ≤ 61) : bits .or .i64 (n : Int) (wrap64 (bitI b * 2 ^ k)) = ((n + b.toNat * 2 ^ k : Nat) : Int) := by
  have h2 : 2 ^ k ≤ 2 ^ 61 := Nat.pow_le_pow_right (by omega) hk
  have hb : b.toNat ≤ 1 := by cases b <;> simp
  have hbb : b.toNat * 2 ^ k ≤ 1 * 2 ^ k := Nat.mul_le_mul_right _ hb
  have e : bitI b * 2 ^ k = ((b.toNat * 2 ^ k : Nat) : Int) := by unfold bitI; simp
  have e2 : wrap64 ((b.toNat * 2 ^ k : Nat) : Int) = ((b.toNat * 2 ^ k : Nat) : Int) := by unfold wrap64; omega
  rw [e, e2, or_comm64, or64 _ _ k (Nat.mul_mod_left _ _) hn (by omega), Nat.add_comm]
theorem slat_setCell {w : World} {A : Option Addr} {cs : List Value} (h : SlAt w A cs) {p : Addr} (hne : ∀ b o, A = some ⟨b, o, none⟩ → 0 < cs.length → b ≠ p.block) (u : Value) : SlAt (w.setCell p u) A cs := fun hp => by
  obtain ⟨b, o, e, hc⟩ := h hp
  refine ⟨b, o, e, fun j v hj => ?_⟩
  rw [World.cell?_of_block (Below.heap_setCell w p u b (hne b o e hp))]
  exact hc j v hj
theorem num_take_snoc (l : List Bool) (k : Nat) (h : k < l.length) : num (l.take (k + 1)) = num (l.take k) + l[k].toNat * 2 ^ k := by
  rw [take_snoc _ _ h, num_append]
  simp [num, Nat.min_eq_left (Nat.le_of_lt h)]
  exact Nat.mul_comm _ _

theorem of_any (A : Option Addr) (n c : Nat) (w : World) :
    Calls Try.prog 39 #[.slice A n c] w fun e w' => e = .returned (.pointer (some ⟨w.heap.size, 0, none⟩)) ∧ SrcAt w' w.heap.size A n c 0 ∧ Below w.heap.size w w' := by
  go_enter Try.func39, Try.ntmps39
  go_wp2
  go_ret
  exact ⟨rfl, Blk.new w _ _, (Below.refl _ _).alloc (Nat.le_refl _) _⟩

/-- what Get hands back: a number and true, or nothing and false -/
def GetPost (p : Nat) (A : Option Addr) (n c pos size : Nat) (xs : List UInt8) (w : World) (e : Ending) (w' : World) : Prop :=
  (pos + size ≤ 8 * n ∧ e = .returned (.tuple #[.int .i64 (num (((bitsL xs).drop pos).take size) : Nat), .bool true]) ∧ SrcAt w' p A n c (pos + size) ∨
   8 * n < pos + size ∧ e = .returned (.tuple #[.int .i64 0, .bool false]) ∧ ∃ q, SrcAt w' p A n c q) ∧ Keeps p srcT w w'

set_option maxRecDepth 100000 in
set_option maxHeartbeats 1600000 in
theorem get_any (p : Nat) (A : Option Addr) (n c pos size : Nat) (xs : List UInt8) (w : World) (h : SrcAt w p A n c pos) (hn : xs.length = n) (hA : ByAt w A xs) (hs : size ≤ 61) (hp : pos ≤ 8 * n) (hnn : n ≤ 1099511627776) (hbx : ∀ b o, A = some ⟨b, o, none⟩ → 0 < n → b ≠ p) :
    Calls Try.prog 55 #[.pointer (some ⟨p, 0, none⟩), .int .i64 (size : Int)] w (GetPost p A n c pos size xs w) := by
  have H := Lib.hid h
  have Hn := Lib.hid hn
  have HA := Lib.hid hA
  have Hbx := Lib.hid hbx
  clear h hn hA hbx
  go_enter Try.func55, Try.ntmps55
  go_wp2_with fail
  go_loopw [6, 9] (fun a i wr => ∃ k : Nat, k ≤ size ∧ pos + k ≤ 8 * n ∧ i = .int .i64 k ∧ a = .int .i64 (num (((bitsL xs).drop pos).take k) : Nat) ∧ SrcAt wr p A n c (pos + k) ∧ Keeps p srcT w wr ∧ ByAt wr A xs) (fun _ i _ => size - (intOf i).toNat)
  case atStart => exact ⟨0, Nat.zero_le _, hp, rfl, rfl, H.out, Keeps.refl _ _ _, HA.out⟩
  case round =>
    obtain ⟨k, hk, hpk, rfl, rfl, hsrc, hkeep, hby⟩ := hrel
    have Hsrc := Lib.hid hsrc
    have Hkeep := Lib.hid hkeep
    have Hby := Lib.hid hby
    have e0 := hsrc.c0
    have e1 := hsrc.c1
    have z1 := hsrc.frozen 1
    obtain ⟨q, hq⟩ : ∃ q, q = pos + k := ⟨_, rfl⟩
    rw [← hq] at e1 hpk Hsrc
    have Hq := Lib.hid hq
    clear hsrc hkeep hby hq
    by_cases hlt : k < size
    · by_cases hin : q < 8 * n
      · have hql : q < (bitsL xs).length := by rw [bitsL_length, Hn.out]; exact hin
        have hkd : k < ((bitsL xs).drop pos).length := by rw [List.length_drop]; have := Hq.out; omega
        have hx : q / 8 < xs.length := by rw [Hn.out]; omega
        obtain ⟨b, o, rfl, hc⟩ := Hby.out.get hx
        have Hnum := Lib.hid (num_take_snoc ((bitsL xs).drop pos) k hkd)
        have hbit : ((bitsL xs).drop pos)[k] = xs[q / 8].toNat.testBit (q % 8) := by
          have h1 := bitsL_get xs q (by rw [Hn.out]; exact hin)
          rw [List.getElem_drop]
          have h2 : (bitsL xs)[pos + k]? = (bitsL xs)[q]? := by rw [Hq.out]
          rw [h1] at h2
          have h3 : (bitsL xs)[pos + k]'(by have := Hq.out; omega) = xs[q / 8].toNat.testBit (q % 8) := by
            have h4 := List.getElem?_eq_getElem (l := bitsL xs) (i := pos + k) (by have := Hq.out; omega)
            rw [h4] at h2
            injection h2 with h2
            rw [h2]; simp [List.getD, hx]
          exact h3
        rw [hbit] at Hnum
        have hnlt : num (((bitsL xs).drop pos).take k) < 2 ^ k := by
          have := num_lt (((bitsL xs).drop pos).take k)
          rwa [List.length_take, Nat.min_eq_left (by omega)] at this
        have hor := or_bit64 _ k (xs[q / 8].toNat.testBit (q % 8)) hnlt (by omega)
        have hand := u8_and_bitI xs[q / 8] (q % 8)
        generalize num (((bitsL xs).drop pos).take k) = m at *
        generalize xs[q / 8] = x at *
        generalize x.toNat.testBit (q % 8) = bb at *
        have hbb := bitI_bd bb
        have hr8 : q % 8 < 8 := by omega
        have hge : ¬ (8 * (n : Int) ≤ (q : Int)) := by omega
        clear hbit hx
        go_wp2_with fail
        go_quiet (fail)
        go_wp2_with fail
        go_quiet (fail)
        go_wp2_with fail
        go_roundw
        case rel =>
          refine ⟨k + 1, by omega, by have := Hq.out; omega, by go_num, int_eq (by rw [Hnum.out]; simp), ?_, ?_, ?_⟩
          · have h2 : ((pos + (k + 1) : Nat) : Int) = (q : Int) + 1 := by have := Hq.out; omega
            unfold SrcAt
            rw [h2]; exact Blk.s1 (Blk.drewN Hsrc.out _) _
          · exact (Hkeep.out.drewN _).setBlk (Hsrc.out.drewN _) (by simp [srcT]) (Nat.le_refl _) 1 _
          · exact slat_setCell (Hby.out) (fun b' o' e _ => Hbx.out b' o' e (by omega)) _
        case measure => simp [intOf]; omega
      · have hge : 8 * (n : Int) ≤ (q : Int) := by omega
        go_wp2_with fail
        go_quiet (fail)
        go_wp2_with fail
        go_ret2
        exact ⟨.inr ⟨by have := Hq.out; omega, rfl, q, Hsrc.out⟩, Hkeep.out.drewN _⟩
    · have hk2 : k = size := by omega
      have Hk2 := Lib.hid hk2
      clear hk2
      go_wp2_with fail
      go_ret2
      refine ⟨.inl ⟨by have := Hq.out; have := Hk2.out; omega, by rw [← Hk2.out]; rfl, ?_⟩, Hkeep.out⟩
      have h1 := Hsrc.out
      rw [Hq.out, Hk2.out] at h1
      exact h1
end Go.Proofs.Ytfgkfakhlcbdbaa.Bits
