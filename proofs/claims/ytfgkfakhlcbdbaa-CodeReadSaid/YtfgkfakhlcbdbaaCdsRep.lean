/- strings.Repeat of "0", strings.LastIndexByte. -/
import Derived.Test.YtfgkfakhlcbdbaaNumP
import Derived.Test.YtfgkfakhlcbdbaaShelfMul
import Derived.BigQuiet
namespace Go.Proofs.Ytfgkfakhlcbdbaa.Cds
open Go Go.RowKit Go.Proofs.Ytfgkfakhlcbdbaa Go.Proofs.Ytfgkfakhlcbdbaa.Bits
set_option linter.unusedVariables false
set_option linter.unusedSimpArgs false

set_option maxRecDepth 100000 in
set_option maxHeartbeats 1600000 in
theorem prefix_in (s : ByteArray) (w : World) (hs : s.size ≤ 1000) (h1 : 1 ≤ s.size) :
    Calls Try.prog 69 #[.string s, .string ⟨#[48]⟩] w fun e w' => (∃ b, e = .returned (.bool b) ∧ b = ((s.extract 0 1).toList == [48])) ∧ w' = w := by
  have hz : (⟨#[48]⟩ : ByteArray).size = 1 := rfl
  have i1 : (1 : Int) ≤ (s.size : Int) := by omega
  go_enter Try.func69, Try.ntmps69
  go_wp2_with fail
  go_ret
  exact ⟨⟨_, rfl, rfl⟩, rfl⟩
set_option maxRecDepth 100000 in
set_option maxHeartbeats 1600000 in
theorem hasPrefix_any (s : ByteArray) (w : World) (hs : s.size ≤ 1000) (h1 : 1 ≤ s.size) :
    Calls Try.prog 51 #[.string s, .string ⟨#[48]⟩] w fun e w' => (∃ b, e = .returned (.bool b) ∧ b = ((s.extract 0 1).toList == [48])) ∧ w' = w := by
  have HI := Lib.hid (prefix_in s w hs h1)
  go_enter Try.func51, Try.ntmps51
  go_wp2_with fail
  refine (HI.out).mono ?_
  rintro e w' ⟨⟨b, rfl, hb⟩, rfl⟩
  have Hb := Lib.hid hb
  clear hb
  go_wp2_with fail
  go_ret
  exact ⟨⟨_, rfl, Hb.out⟩, rfl⟩
theorem zeros_extract : ∀ k < 16, ByteArray.extract ⟨#[48, 48, 48, 48, 48, 48, 48, 48, 48, 48, 48, 48, 48, 48, 48, 48, 48, 48, 48, 48, 48, 48, 48, 48, 48, 48, 48, 48, 48, 48, 48, 48, 48, 48, 48, 48, 48, 48, 48, 48, 48, 48, 48, 48, 48, 48, 48, 48, 48, 48, 48, 48, 48, 48, 48, 48, 48, 48, 48, 48, 48, 48, 48, 48]⟩ 0 k = strB (List.replicate k 48) := by decide +kernel
set_option maxRecDepth 100000 in
set_option maxHeartbeats 1600000 in
/-- so many '0' -/
theorem repeat0_any (k : Nat) (w : World) (hk : k ≤ 15) :
    Calls Try.prog 36 #[.string ⟨#[48]⟩, .int .i64 (k : Int)] w fun e w' => e = .returned (.string (strB (List.replicate k 48))) ∧ w' = w := by
  rcases (by omega : k = 0 ∨ k = 1 ∨ 2 ≤ k) with h | h | h
  · subst h
    go_enter Try.func36, Try.ntmps36
    go_wp2_with fail
    go_ret
    exact ⟨rfl, rfl⟩
  · subst h
    go_enter Try.func36, Try.ntmps36
    go_wp2_with fail
    go_ret
    exact ⟨rfl, rfl⟩
  · have hv1 : k < 18446744073709551616 := by omega
    have HM : Hid (∀ W, Calls Try.prog 50 #[.int .u64 1, .int .u64 (k : Int)] W fun e w' => e = .returned (.tuple #[.int .u64 0, .int .u64 (k : Int)]) ∧ w' = W) := Lib.hid (fun W => by
      have h := Any.bits_Mul Ytfgkfakhlcbdbaa.lays212 1 k (by omega) hv1 W
      rw [Nat.one_mul, Nat.div_eq_of_lt hv1, Nat.mod_eq_of_lt hv1] at h
      exact h)
    have hz : (⟨#[48]⟩ : ByteArray).size = 1 := rfl
    have e0 : ((k : Int) == 0) = false := by rw [beq_eq_false_iff_ne]; omega
    have e1 : ((k : Int) == 1) = false := by rw [beq_eq_false_iff_ne]; omega
    have i1 : (k : Int) ≤ 128 := by omega
    have i2 : (k : Int) ≤ 64 := by omega
    clear hv1
    go_enter Try.func36, Try.ntmps36
    go_wp2_with fail
    refine (HM.out _).mono ?_
    rintro e w2 ⟨rfl, hw2⟩
    cases hw2
    go_wp2_with fail
    refine (hasPrefix_any _ _ (by decide +kernel) (by decide +kernel)).mono ?_
    rintro e w3 ⟨⟨b, rfl, hb⟩, hw3⟩
    cases hw3
    obtain rfl : b = false := hb.trans (by decide +kernel)
    clear hb
    go_wp2_with fail
    refine (hasPrefix_any _ _ (by decide +kernel) (by decide +kernel)).mono ?_
    rintro e w4 ⟨⟨b, rfl, hb⟩, hw4⟩
    cases hw4
    obtain rfl : b = false := hb.trans (by decide +kernel)
    clear hb
    go_wp2_with fail
    refine (hasPrefix_any _ _ (by decide +kernel) (by decide +kernel)).mono ?_
    rintro e w5 ⟨⟨b, rfl, hb⟩, hw5⟩
    cases hw5
    obtain rfl : b = true := hb.trans (by decide +kernel)
    clear hb
    go_wp2_with fail
    go_ret
    exact ⟨congrArg (fun s => Ending.returned (.string s)) (zeros_extract k (by omega)), rfl⟩
/-- the last '0' of a row, and only true behind it -/
theorem last_zero (a : List Bool) (t : Nat) (j : Nat) (hj : j < (a ++ false :: List.replicate t true).length) : (a ++ false :: List.replicate t true)[j] = if j = a.length then false else if a.length < j then true else (a ++ false :: List.replicate t true)[j] := by
  split
  · subst_vars; simp
  · split
    · rw [List.getElem_append_right (by omega), List.getElem_cons, dif_neg (by omega), List.getElem_replicate]
    · rfl
set_option maxRecDepth 100000 in
set_option maxHeartbeats 1600000 in
theorem lastIn_any (a : List Bool) (t : Nat) (w : World) (hl : a.length + t ≤ 100) :
    Calls Try.prog 49 #[rowV (a ++ false :: List.replicate t true), .int .u8 48] w fun e w' => e = .returned (.int .i64 (a.length : Int)) ∧ w' = w := by
  obtain ⟨l, hl'⟩ : ∃ l, l = a ++ false :: List.replicate t true := ⟨_, rfl⟩
  have hlen : l.length = a.length + 1 + t := by rw [hl']; simp; omega
  have H1 : Hid (∀ (h : a.length < l.length), l[a.length] = false) := Lib.hid (fun h => by subst hl'; simp)
  have H2 : Hid (∀ j (h : j < l.length), a.length < j → l[j] = true) := Lib.hid (fun j h hj => by
    subst hl'
    rw [List.getElem_append_right (by omega), List.getElem_cons, dif_neg (by omega), List.getElem_replicate])
  rw [← hl']
  have hsz : (strB (rowS l)).size = l.length := by rw [strB_size, rowS_length]
  have hsz2 : (strB (rowS l)).size ≤ 101 := by omega
  have HSz := Lib.hid hsz
  have Hlen := Lib.hid hlen
  obtain ⟨n, hn⟩ : ∃ n, n = a.length := ⟨_, rfl⟩
  rw [← hn] at H1 H2 Hlen hl ⊢
  clear hl' hlen hsz hn
  unfold rowV
  go_enter Try.func49, Try.ntmps49
  go_wp2_with fail
  go_loopw [5] (fun i wr => ∃ k : Nat, n < k ∧ k ≤ l.length ∧ i = .int .i64 ((k : Int) - 1) ∧ wr = w) (fun i _ => ((intOf i) + 1).toNat)
  case atStart =>
    refine ⟨l.length, by have := Hlen.out; omega, Nat.le_refl _, ?_, rfl⟩
    rw [HSz.out]
  case round =>
    obtain ⟨k, hk1, hk2, rfl, rfl⟩ := hrel
    obtain ⟨j, rfl⟩ : ∃ j, k = j + 1 := ⟨k - 1, by omega⟩
    have e : (((j + 1 : Nat) : Int) - 1) = (j : Int) := by omega
    rw [e]
    clear e
    have hjs : j < (strB (rowS l)).size := by rw [HSz.out]; omega
    have hch := ch_get l j (by omega) (hs := hjs)
    have Hch := Lib.hid hch
    clear hch
    by_cases hjn : j = n
    · subst hjn
      have hb : l[j].toNat = 0 := by rw [H1.out (by omega)]; rfl
      have hc : (((strB (rowS l))[j]'hjs).toNat : Int) = 48 := by rw [Hch.out, hb]; rfl
      clear hb
      go_wp2_with fail
      go_ret
      exact ⟨rfl, rfl⟩
    · have hb : l[j].toNat = 1 := by rw [H2.out j (by omega) (by omega)]; rfl
      have hc : (((strB (rowS l))[j]'hjs).toNat : Int) = 49 := by rw [Hch.out, hb]; rfl
      have hw : IntKind.i64.wrap ((j : Int) - 1) = (j : Int) - 1 := IntWalk.i64_in _ (by omega)
      clear hb
      go_wp2_with fail
      go_roundw
      case rel => exact ⟨j, by omega, by omega, rfl, trivial⟩
      case measure => simp [intOf]
set_option maxRecDepth 100000 in
set_option maxHeartbeats 1600000 in
theorem last_any (a : List Bool) (t : Nat) (w : World) (hl : a.length + t ≤ 100) :
    Calls Try.prog 35 #[rowV (a ++ false :: List.replicate t true), .int .u8 48] w fun e w' => e = .returned (.int .i64 (a.length : Int)) ∧ w' = w := by
  have HI := Lib.hid (lastIn_any a t w hl)
  unfold rowV at *
  go_enter Try.func35, Try.ntmps35
  go_wp2_with fail
  refine (HI.out).mono ?_
  rintro e w' ⟨rfl, rfl⟩
  go_wp2_with fail
  go_ret
  exact ⟨rfl, rfl⟩
end Go.Proofs.Ytfgkfakhlcbdbaa.Cds
