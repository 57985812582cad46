/- package reliquaryref: Room, CheckLengths. -/
import Derived.Test.YtfgkfakhlcbdbaaCodeCheck
import Derived.Test.YtfgkfakhlcbdbaaInAt
namespace Go.Proofs.Ytfgkfakhlcbdbaa.Cds
open Go Go.RowKit Go.Proofs.Ytfgkfakhlcbdbaa Go.Proofs.Ytfgkfakhlcbdbaa.Code
set_option linter.unusedVariables false

theorem half_down (x : Nat) (h : x ≤ 15) : (32768 : Int) / 2 ^ x = ((2 ^ (15 - x) : Nat) : Int) := by
  have : ∀ x < 16, (32768 : Int) / 2 ^ x = ((2 ^ (15 - x) : Nat) : Int) := by decide
  exact this x (by omega)
set_option maxRecDepth 100000 in
set_option maxHeartbeats 1600000 in
theorem room_any (A : Option Addr) (n c : Nat) (zs : List Int) (w : World) (hn : zs.length = n) (hx : n ≤ 288) (hz : ∀ z ∈ zs, 0 ≤ z ∧ z ≤ 15) (hA : InAt w A zs) :
    Calls Try.prog 24 #[.slice A n c] w fun e w' => e = .returned (.int .i64 ((room (lsOf zs) : Nat) : Int)) ∧ w' = w := by
  have Hn := Lib.hid hn
  have HA := Lib.hid hA
  have HZ := Lib.hid hz
  clear hn hA hz
  go_enter Try.func24, Try.ntmps24
  go_wp2_with fail
  go_loop [3, 8] (fun r i => ∃ k : Nat, k ≤ n ∧ i = .int .i64 (k : Int) ∧ r = .int .i64 ((room (lsOf (zs.take k)) : Nat) : Int)) (fun _ i => n - (intOf i).toNat)
  case atStart => exact ⟨0, Nat.zero_le _, rfl, rfl⟩
  case round =>
    obtain ⟨k, hk, rfl, rfl⟩ := hrel
    have hroom : room (lsOf (zs.take k)) ≤ 9437184 := by
      have h1 := room_le (lsOf (zs.take k))
      have h2 : (lsOf (zs.take k)).length ≤ 288 := by unfold lsOf; rw [List.length_map, List.length_take]; omega
      omega
    by_cases hlt : k < n
    · have hkl : k < zs.length := by rw [Hn.out]; exact hlt
      obtain ⟨b, o, rfl, hc⟩ := HA.out.get hkl
      have Hr := Lib.hid (room_take zs k hkl)
      have hzk := HZ.out _ (List.getElem_mem hkl)
      generalize room (lsOf (zs.take k)) = r at *
      generalize zs[k] = z at *
      obtain ⟨x, rfl⟩ := Int.eq_ofNat_of_zero_le hzk.1
      rw [Int.toNat_natCast] at Hr
      by_cases h0 : x = 0
      · subst h0
        have Hr' : Hid (room (lsOf (zs.take (k + 1))) = r) := Lib.hid (by rw [Hr.out]; rfl)
        go_wp2_with fail
        go_round
        case rel => exact ⟨k + 1, by omega, by go_num, by rw [Hr'.out]⟩
        case measure => simp [intOf]; omega
      · have hx1 : 1 ≤ x := by omega
        have h0i : (0 : Int) < (x : Int) := by omega
        have Hr' : Hid (room (lsOf (zs.take (k + 1))) = r + 2 ^ (15 - x)) := Lib.hid (by rw [Hr.out, if_neg h0])
        have h3 : (2 : Nat) ^ (15 - x) ≤ 2 ^ 15 := Nat.pow_le_pow_right (by omega) (by omega)
        have ht := half_down x (by omega)
        generalize 2 ^ (15 - x) = y at *
        go_wp2_with fail
        go_round
        case rel => exact ⟨k + 1, by omega, by go_num, by rw [Hr'.out]; go_num⟩
        case measure => simp [intOf]; omega
    · obtain rfl : k = n := by omega
      have Htk := Lib.hid (List.take_of_length_le (by rw [Hn.out]; omega : zs.length ≤ k))
      rw [Htk.out] at hroom ⊢
      go_wp2_with fail
      go_ret
      exact ⟨rfl, rfl⟩
set_option maxRecDepth 100000 in
set_option maxHeartbeats 1600000 in
theorem lengths_few (A : Option Addr) (n c : Nat) (zs : List Int) (w : World) (hn : zs.length = n) (hx : n ≤ 288) (hA : InAt w A zs) :
    Calls Try.prog 7 #[.slice A n c] w fun e w' => e = .returned (.int .i64 (chkL zs)) ∧ w' = w := by
  have Hn := Lib.hid hn
  have HA := Lib.hid hA
  clear hn hA
  have hnm : ¬ (288 < (n : Int)) := by omega
  go_enter Try.func7, Try.ntmps7
  go_wp2_with fail
  go_loop [10] (fun i => ∃ k : Nat, k ≤ n ∧ i = .int .i64 (k : Int) ∧ (zs.take k).any badLen = false) (fun i => n - (intOf i).toNat)
  case atStart => exact ⟨0, Nat.zero_le _, rfl, rfl⟩
  case round =>
    obtain ⟨k, hk, rfl, hany⟩ := hrel
    have Hany := Lib.hid hany
    clear hany
    by_cases hlt : k < n
    · have hkl : k < zs.length := by rw [Hn.out]; exact hlt
      obtain ⟨b, o, rfl, hc⟩ := HA.out.get hkl
      have Hany2 := Lib.hid (any_take zs k hkl Hany.out)
      have Hbad := Lib.hid (chk_range zs k hkl (by rw [Hn.out]; exact hx))
      generalize zs[k] = z at *
      by_cases h1 : z < 0
      · have Hf := Lib.hid (Hbad.out (by simp [badLen, h1]))
        clear Hbad Hany2
        go_wp2_with fail
        go_ret
        exact ⟨ret_int Hf.out.symm, rfl⟩
      · by_cases h2 : 15 < z
        · have Hf := Lib.hid (Hbad.out (by simp [badLen, h2]))
          clear Hbad Hany2
          go_wp2_with fail
          go_ret
          exact ⟨ret_int Hf.out.symm, rfl⟩
        · have Ha := Lib.hid (Hany2.out (by simp [badLen]; omega))
          clear Hbad Hany2
          go_wp2_with fail
          go_round
          case rel => exact ⟨k + 1, by omega, by go_num, Ha.out⟩
          case measure => simp [intOf]; omega
    · obtain rfl : k = n := by omega
      have hal := Hany.out
      have Htk := Lib.hid (List.take_of_length_le (by rw [Hn.out]; omega : zs.length ≤ k))
      rw [Htk.out] at hal
      have Hf := Lib.hid (chk_done zs (by rw [Hn.out]; exact hx) hal)
      have hz : ∀ z ∈ zs, 0 ≤ z ∧ z ≤ 15 := fun z hz => by
        have := List.any_eq_false.1 hal z hz
        simp [badLen] at this; exact this
      have HR := Lib.hid (room_any A k c zs w Hn.out hx hz HA.out)
      have hroom : room (lsOf zs) ≤ 9437184 := by
        have h1 := room_le (lsOf zs)
        have h2 : (lsOf zs).length = k := by unfold lsOf; rw [List.length_map]; exact Hn.out
        omega
      clear hal hz
      go_wp2_with fail
      refine (HR.out).mono ?_
      rintro e w2 ⟨rfl, hw⟩
      cases hw
      generalize room (lsOf zs) = r at *
      by_cases h3 : 32768 < r
      · have Hr : Hid (chkL zs = 8) := Lib.hid (by rw [Hf.out, if_pos h3])
        go_wp2_with fail
        go_ret
        exact ⟨ret_int Hr.out.symm, rfl⟩
      · have Hr : Hid (chkL zs = 0) := Lib.hid (by rw [Hf.out, if_neg h3])
        go_wp2_with fail
        go_ret
        exact ⟨ret_int Hr.out.symm, rfl⟩
theorem lengths_any (A : Option Addr) (n c : Nat) (zs : List Int) (w : World) (hn : zs.length = n) (hx : n ≤ maxLen) (hA : InAt w A zs) :
    Calls Try.prog 7 #[.slice A n c] w fun e w' => e = .returned (.int .i64 (chkL zs)) ∧ w' = w := by
  by_cases h : n ≤ 288
  · exact lengths_few A n c zs w hn h hA
  · have hnm : 288 < (n : Int) := by omega
    have Hf : Hid (chkL zs = 2) := Lib.hid (by unfold chkL; rw [if_pos (by omega)])
    clear hn hA
    go_enter Try.func7, Try.ntmps7
    go_wp2_with fail
    go_ret
    exact ⟨ret_int Hf.out.symm, rfl⟩
end Go.Proofs.Ytfgkfakhlcbdbaa.Cds
