/- package code: Check. -/
import Derived.Test.YtfgkfakhlcbdbaaCodePure
import Derived.Test.YtfgkfakhlcbdbaaEqual
import Derived.Test.YtfgkfakhlcbdbaaOpen
namespace Go.Proofs.Ytfgkfakhlcbdbaa.Code
open Go Go.RowKit Go.Proofs.Ytfgkfakhlcbdbaa
set_option linter.unusedVariables false

theorem any_take (zs : List Int) (k : Nat) (h : k < zs.length) (h1 : (zs.take k).any badLen = false) (h2 : badLen zs[k] = false) : (zs.take (k + 1)).any badLen = false := by
  rw [take_snoc _ _ h, List.any_append, h1]; simp [h2]
theorem chk_range (zs : List Int) (k : Nat) (h : k < zs.length) (hl : zs.length ≤ 288) (h2 : badLen zs[k] = true) : chkL zs = 3 := by
  unfold chkL
  rw [if_neg (by omega), if_pos (List.any_eq_true.2 ⟨_, List.getElem_mem h, h2⟩)]
theorem chk_done (zs : List Int) (hl : zs.length ≤ 288) (h : zs.any badLen = false) : chkL zs = if 32768 < room (lsOf zs) then 8 else 0 := by
  unfold chkL
  rw [if_neg (by omega), if_neg (by rw [h]; simp)]
theorem two_up (m : Nat) : (2 : Int) ^ m = ((2 ^ m : Nat) : Int) := by simp
set_option maxRecDepth 100000 in
set_option maxHeartbeats 1600000 in
theorem check_few (A : Option Addr) (n c : Nat) (zs : List Int) (w : World) (hn : zs.length = n) (hx : n ≤ 288) (hA : InAt w A zs) :
    Calls Try.prog 23 #[.slice A n c] w fun e w' => e = .returned (.int .i64 (chkL zs)) ∧ w' = w := by
  have Hn := Lib.hid hn
  have HA := Lib.hid hA
  clear hn hA
  have hnm : ¬ (288 < (n : Int)) := by omega
  go_enter Try.func23, Try.ntmps23
  go_wp2_with fail
  go_loop [3, 11] (fun r i => ∃ k : Nat, k ≤ n ∧ i = .int .i64 (k : Int) ∧ (zs.take k).any badLen = false ∧ r = .int .i64 ((room (lsOf (zs.take k)) : Nat) : Int)) (fun _ i => n - (intOf i).toNat)
  case atStart => exact ⟨0, Nat.zero_le _, rfl, rfl, rfl⟩
  case round =>
    obtain ⟨k, hk, rfl, hany, rfl⟩ := hrel
    have Hany := Lib.hid hany
    clear hany
    have hroom : room (lsOf (zs.take k)) ≤ 9437184 := by
      have h1 := room_le (lsOf (zs.take k))
      have h2 : (lsOf (zs.take k)).length ≤ 288 := by unfold lsOf; rw [List.length_map, List.length_take]; omega
      omega
    by_cases hlt : k < n
    · have hkl : k < zs.length := by rw [Hn.out]; exact hlt
      obtain ⟨b, o, rfl, hc⟩ := HA.out.get hkl
      have Hr := Lib.hid (room_take zs k hkl)
      have Hany2 := Lib.hid (any_take zs k hkl Hany.out)
      have Hbad := Lib.hid (chk_range zs k hkl (by rw [Hn.out]; exact hx))
      generalize room (lsOf (zs.take k)) = r at *
      generalize zs[k] = z at *
      by_cases h1 : z < 0
      · have Hf := Lib.hid (Hbad.out (by simp [badLen, h1]))
        clear Hbad Hany2 Hr
        go_wp2_with fail
        go_ret
        exact ⟨ret_int Hf.out.symm, rfl⟩
      · by_cases h2 : 15 < z
        · have Hf := Lib.hid (Hbad.out (by simp [badLen, h2]))
          clear Hbad Hany2 Hr
          go_wp2_with fail
          go_ret
          exact ⟨ret_int Hf.out.symm, rfl⟩
        · obtain ⟨x, rfl⟩ := Int.eq_ofNat_of_zero_le (by omega : 0 ≤ z)
          have Ha := Lib.hid (Hany2.out (by simp [badLen]; omega))
          rw [Int.toNat_natCast] at Hr
          clear Hbad Hany2
          by_cases h0 : x = 0
          · subst h0
            have Hr' : Hid (room (lsOf (zs.take (k + 1))) = r) := Lib.hid (by rw [Hr.out]; rfl)
            go_wp2_with fail
            go_round
            case rel => exact ⟨k + 1, by omega, by go_num, Ha.out, by rw [Hr'.out]⟩
            case measure => simp [intOf]; omega
          · have hx1 : 1 ≤ x := by omega
            have h0i : (0 : Int) < (x : Int) := by omega
            have Hr' : Hid (room (lsOf (zs.take (k + 1))) = r + 2 ^ (15 - x)) := Lib.hid (by rw [Hr.out, if_neg h0])
            have h3 : (2 : Nat) ^ (15 - x) ≤ 2 ^ 15 := Nat.pow_le_pow_right (by omega) (by omega)
            have ht := two_up (15 - x)
            generalize 2 ^ (15 - x) = y at *
            go_wp2_with fail
            go_round
            case rel => exact ⟨k + 1, by omega, by go_num, Ha.out, by rw [Hr'.out]; go_num⟩
            case measure => simp [intOf]; omega
    · obtain rfl : k = n := by omega
      have hal := Hany.out
      have Htk := Lib.hid (List.take_of_length_le (by rw [Hn.out]; omega : zs.length ≤ k))
      rw [Htk.out] at hal hroom ⊢
      have Hf := Lib.hid (chk_done zs (by rw [Hn.out]; exact hx) hal)
      clear hal
      generalize room (lsOf zs) = r at *
      by_cases h3 : 32768 < r
      · have Hr : Hid (chkL zs = 8) := Lib.hid (by rw [Hf.out, if_pos h3])
        go_wp2_with fail
        go_ret
        exact ⟨ret_int Hr.out.symm, rfl⟩
      · have Hr : Hid (chkL zs = 0) := Lib.hid (by rw [Hf.out, if_neg h3])
        go_wp2_with fail
        go_ret
        exact ⟨ret_int Hr.out.symm, rfl⟩
theorem check_any (A : Option Addr) (n c : Nat) (zs : List Int) (w : World) (hn : zs.length = n) (hx : n ≤ maxLen) (hA : InAt w A zs) :
    Calls Try.prog 23 #[.slice A n c] w fun e w' => e = .returned (.int .i64 (chkL zs)) ∧ w' = w := by
  by_cases h : n ≤ 288
  · exact check_few A n c zs w hn h hA
  · have Hc : Hid (chkL zs = 2) := Lib.hid (by unfold chkL; rw [if_pos (by omega)])
    have hnm : 288 < (n : Int) := by omega
    unfold maxLen at hx
    clear hn hA
    go_enter Try.func23, Try.ntmps23
    go_wp2_with fail
    go_ret
    exact ⟨ret_int Hc.out.symm, rfl⟩
end Go.Proofs.Ytfgkfakhlcbdbaa.Code
