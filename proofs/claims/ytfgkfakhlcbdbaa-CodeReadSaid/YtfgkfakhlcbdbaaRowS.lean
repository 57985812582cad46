/- reliquaryref: RowOf, Turned. -/
import Derived.Test.YtfgkfakhlcbdbaaNumP
import Derived.Test.YtfgkfakhlcbdbaaBuild
namespace Go.Proofs.Ytfgkfakhlcbdbaa.Bits
open Go Go.RowKit Go.Proofs.Ytfgkfakhlcbdbaa
set_option linter.unusedVariables false

theorem bitsL_take (xs : List UInt8) (k : Nat) (h : k < xs.length) : bitsL (xs.take (k + 1)) = bitsL (xs.take k) ++ bitsOf xs[k] := by
  rw [take_snoc _ _ h, bitsL_append]; simp [bitsL]
theorem bitsOf_take (x : UInt8) (j : Nat) (h : j < 8) : (bitsOf x).take (j + 1) = (bitsOf x).take j ++ [x.toNat.testBit j] := by
  rw [take_snoc _ _ (by rw [bitsOf_length]; exact h)]
  simp [bitsOf, numBits]
theorem ch_bit (x : UInt8) (j : Nat) : 48 + bitI (x.toNat.testBit j) = n8 (ch (x.toNat.testBit j)) := by
  cases x.toNat.testBit j <;> rfl
set_option maxRecDepth 100000 in
set_option maxHeartbeats 800000 in
theorem rowOf_any (A : Option Addr) (n c : Nat) (xs : List UInt8) (w : World) (hn : xs.length = n) (hx : n ≤ 1000000000) (hA : ByAt w A xs) :
    Calls Try.prog 18 #[.slice A n c] w fun e w' => e = .returned (rowV (bitsL xs)) ∧ Below w.heap.size w w' := by
  have Hn := Lib.hid hn
  have HA := Lib.hid hA
  clear hn hA
  go_enter Try.func18, Try.ntmps18
  go_wp2_with fail
  go_loopw [9] (fun i wr => ∃ k : Nat, k ≤ n ∧ i = .int .i64 k ∧ Bld w.heap.size w.heap.size (rowS (bitsL (xs.take k))) wr ∧ Below w.heap.size w wr) (fun i _ => n - (intOf i).toNat)
  case atStart => exact ⟨0, Nat.zero_le _, rfl, Bld.new w, (Below.refl _ w).alloc (Nat.le_refl _) _⟩
  case round =>
    obtain ⟨k, hk, rfl, hB, hb⟩ := hrel
    have HB := Lib.hid hB
    have Hb := Lib.hid hb
    clear hB hb
    by_cases hlt : k < n
    · have hkl : k < xs.length := by rw [Hn.out]; exact hlt
      obtain ⟨b, o, rfl, hc⟩ := (HA.out.below Hb.out).get hkl
      have Htk := Lib.hid (bitsL_take xs k hkl)
      have hlen : (bitsL (xs.take k)).length ≤ 8000000000 := by rw [bitsL_length]; simp; omega
      generalize xs[k] = x at *
      generalize bitsL (xs.take k) = bs at *
      go_wp2_with fail
      go_loopw [13] (fun i wx => ∃ j : Nat, j ≤ 8 ∧ i = .int .i64 j ∧ Bld w.heap.size w.heap.size (rowS (bs ++ (bitsOf x).take j)) wx ∧ Below w.heap.size w wx) (fun i _ => 8 - (intOf i).toNat)
      case atStart => exact ⟨0, Nat.zero_le _, rfl, by simpa using HB.out, Hb.out⟩
      case round =>
        obtain ⟨j, hj, rfl, hB, hb⟩ := hrel
        have HB2 := Lib.hid hB
        have Hb2 := Lib.hid hb
        clear hB hb
        by_cases hj8 : j < 8
        · have hq := u8_and_bitI x j
          have hbd := bitI_bd (x.toNat.testBit j)
          have Hch := Lib.hid (ch_bit x j)
          have Hto := Lib.hid (bitsOf_take x j hj8)
          have hlen2 : ((bitsOf x).take j).length ≤ 8 := by simp; omega
          generalize x.toNat.testBit j = bb at *
          go_wp2_with fail
          rw [Hch.out]
          refine (HB2.out.byte (ch bb) (by rw [rowS_length, List.length_append]; omega)).mono ?_
          rintro e w3 ⟨rfl, hB3, hb3⟩
          have HB3 := Lib.hid hB3
          have Hb3 := Lib.hid (Hb2.out.trans hb3)
          clear hB3 hb3
          go_wp2_with fail
          go_roundw
          case rel =>
            refine ⟨j + 1, by omega, by go_num, ?_, Hb3.out⟩
            have := HB3.out
            rw [Hto.out, ← List.append_assoc, rowS_append]
            exact this
          case measure => simp [intOf]; omega
        · obtain rfl : j = 8 := by omega
          have Hfull := Lib.hid (List.take_of_length_le (by rw [bitsOf_length]; omega : (bitsOf x).length ≤ 8))
          go_wp2_with fail
          go_roundw
          case rel =>
            refine ⟨k + 1, by omega, by go_num, ?_, Hb2.out⟩
            have := HB2.out
            rw [Hfull.out] at this
            rw [Htk.out]; exact this
          case measure => simp [intOf]; omega
    · have Hall := Lib.hid (List.take_of_length_le (by rw [Hn.out]; omega : xs.length ≤ k))
      go_wp2_with fail
      refine (Bld.done HB.out).mono ?_
      rintro e w3 ⟨rfl, hb3⟩
      have Hb3 := Lib.hid (Hb.out.trans hb3)
      clear hb3
      go_wp2_with fail
      go_ret
      refine ⟨?_, Hb3.out⟩
      rw [Hall.out]; rfl
end Go.Proofs.Ytfgkfakhlcbdbaa.Bits
