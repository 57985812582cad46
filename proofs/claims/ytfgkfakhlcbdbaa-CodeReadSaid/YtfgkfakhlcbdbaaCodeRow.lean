/- package bits: Row.Code; package code: Codes, Full. -/
import Derived.Test.YtfgkfakhlcbdbaaCodeNext
import Derived.Test.YtfgkfakhlcbdbaaRow
import Derived.Test.YtfgkfakhlcbdbaaCodeCodes0
namespace Go.Proofs.Ytfgkfakhlcbdbaa.Code
open Go Go.RowKit Go.Proofs.Ytfgkfakhlcbdbaa Go.Proofs.Ytfgkfakhlcbdbaa.Bits
set_option linter.unusedVariables false

theorem hi_get (s n j : Nat) (h : j < s) : (hi s n)[j]'(by rw [hi_length]; exact h) = n.testBit (s - 1 - j) := by
  unfold hi numBits
  simp
theorem hi_step (s n m : Nat) (h : m + 1 ≤ s) : (hi s n).take (s - m) = (hi s n).take (s - (m + 1)) ++ numBits (n / 2 ^ m) 1 := by
  have e : s - m = (s - (m + 1)) + 1 := by omega
  rw [e, take_snoc _ _ (by rw [hi_length]; omega), hi_get _ _ _ (by omega)]
  congr 1
  simp [numBits]
  rw [show s - 1 - (s - (m + 1)) = m by omega, Nat.testBit]
  have h3 : n / 2 ^ m % 2 < 2 := Nat.mod_lt _ (by omega)
  rw [Nat.shiftRight_eq_div_pow]
  by_cases h1 : n / 2 ^ m % 2 = 1
  · simp [h1]
  · have : n / 2 ^ m % 2 = 0 := by omega
    simp [this]
set_option maxRecDepth 100000 in
set_option maxHeartbeats 800000 in
theorem code_any (base p n size : Nat) (l : List Bool) (w : World) (h : RowAt w base p l) (hn : n < 9223372036854775808) (hs : size ≤ 62) (hl : l.length + size ≤ 1099511627776) :
    Calls Try.prog 30 #[.pointer (some ⟨p, 0, none⟩), .int .i64 (n : Int), .int .i64 (size : Int)] w fun e w' => e = .returned (.tuple #[]) ∧ RowAt w' base p (l ++ hi size n) ∧ Keeps base rowT w w' := by
  have H := Lib.hid h
  clear h
  go_enter Try.func30, Try.ntmps30
  go_wp2_with fail
  go_loopw [6] (fun i wr => ∃ (m : Nat) (x : Int), m ≤ size ∧ x = (m : Int) - 1 ∧ i = .int .i64 x ∧ RowAt wr base p (l ++ (hi size n).take (size - m)) ∧ Keeps base rowT w wr) (fun i _ => (intOf i + 1).toNat)
  case atStart => exact ⟨size, _, Nat.le_refl _, rfl, rfl, by simpa using H.out, Keeps.refl _ _ _⟩
  case round =>
    obtain ⟨m, x, hm, hx, rfl, hrow, hk⟩ := hrel
    have Hrow := Lib.hid hrow
    have Hk := Lib.hid hk
    clear hrow hk
    rcases m with _ | m
    · have hx0 : x < 0 := by omega
      clear hx
      have Hf : Hid ((hi size n).take (size - 0) = hi size n) := Lib.hid (List.take_of_length_le (by rw [hi_length]; omega))
      rw [Hf.out] at Hrow
      go_wp2_with fail
      go_end0
      exact ⟨rfl, Hrow.out, Hk.out⟩
    · obtain rfl : x = (m : Int) := by omega
      clear hx
      have hnd : n / 2 ^ m < 9223372036854775808 := Nat.lt_of_le_of_lt (Nat.div_le_self _ _) hn
      have hput := put_any base p (n / 2 ^ m) 1 _ wr Hrow.out hnd (by omega) (by rw [List.length_append, List.length_take, hi_length]; omega)
      have Hst := Lib.hid (hi_step size n m hm)
      rw [List.append_assoc, ← Hst.out] at hput
      have hdd : (n : Int) / 2 ^ m = ((n / 2 ^ m : Nat) : Int) := by simp
      have Hput := Lib.hid hput
      clear hput
      generalize n / 2 ^ m = d at *
      go_wp2_with fail
      refine (Hput.out).mono ?_
      rintro e w1 ⟨rfl, hr1, hk1⟩
      have Hr1 := Lib.hid hr1
      have Hk1 := Lib.hid (Hk.out.trans hk1)
      clear hr1 hk1
      go_wp2_with fail
      go_roundw
      case rel => exact ⟨m, _, by omega, rfl, rfl, Hr1.out, Hk1.out⟩
      case measure => simp [intOf]
theorem bcodes_any (A : Option Addr) (n c : Nat) (zs : List Int) (w : World) (hn : zs.length = n) (hx : n ≤ maxLen) (hA : InAt w A zs) :
    Calls Try.prog 21 #[.slice A n c] w fun e w' => (chkL zs ≠ 0 ∧ e = .returned (.tuple #[.slice none 0 0, .int .i64 (chkL zs)]) ∨
      chkL zs = 0 ∧ ∃ g, e = .returned (.tuple #[.slice (some ⟨g, 0, none⟩) n n, .int .i64 0]) ∧ w.heap.size ≤ g ∧ Blk w' g 3 (nats (codesL (lsOf zs)))) ∧ Below w.heap.size w w' := by
  have Hc := Lib.hid (check_any A n c zs w hn hx hA)
  have Hd : Hid (chkL zs = 0 → _) := Lib.hid (codes_any A n c zs w hn hA)
  clear hn hx hA
  go_enter Try.func21, Try.ntmps21
  go_wp2_with fail
  refine (Hc.out).mono ?_
  rintro e w1 ⟨rfl, rfl⟩
  by_cases h0 : chkL zs = 0
  · have Hdd := Lib.hid (Hd.out h0)
    rw [h0]
    have H0 := Lib.hid h0
    clear h0
    go_wp2_with fail
    refine (Hdd.out).mono ?_
    rintro e w2 ⟨⟨g, rfl, hg, hb⟩, hbw⟩
    have Hb := Lib.hid hb
    have Hbw := Lib.hid hbw
    clear hb hbw
    go_wp2_with fail
    go_ret2
    exact ⟨.inr ⟨H0.out, g, rfl, hg, Hb.out⟩, Hbw.out⟩
  · have H0 := Lib.hid h0
    generalize hz : chkL zs = z at *
    have Hz := Lib.hid hz
    clear hz
    have h1 : (z == 0) = false := by simpa using h0
    go_wp2_with fail
    go_ret2
    exact ⟨.inl ⟨by rw [Hz.out]; exact h0, by rw [Hz.out]; rfl⟩, Below.refl _ _⟩
end Go.Proofs.Ytfgkfakhlcbdbaa.Code
