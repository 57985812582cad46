/- package weigh: check, Cost. -/
import Derived.Test.YtdponlnfdjfljaaWeighPure
import Derived.Test.YtdponlnfdjfljaaEqual
import Derived.Test.YtdponlnfdjfljaaProg
import Derived.WalkSpells
namespace Go.Proofs.Ytdponlnfdjfljaa.Weigh
open Go Go.RowKit Go.Proofs.Ytdponlnfdjfljaa
set_option linter.unusedVariables false

def badWant (x : Int) : Bool := decide (x < 0) || decide (1000000 < x)
def natsOf (zs : List Int) : List Nat := zs.map Int.toNat
def usedI (zs : List Int) : Nat := (zs.filter fun x => decide (0 < x)).length
/-- what check says -/
def chkW (zs : List Int) (most : Int) : Int := if 288 < zs.length then 2 else if zs.any badWant = true then 3 else if most < 1 ∨ 15 < most then 3 else if 2 ^ most.toNat < usedI zs then 11 else 0
theorem usedI_take (zs : List Int) (k : Nat) (h : k < zs.length) : usedI (zs.take (k + 1)) = usedI (zs.take k) + if 0 < zs[k] then 1 else 0 := by
  unfold usedI
  rw [take_snoc _ _ h, List.filter_append, List.length_append]
  congr 1
  by_cases h0 : 0 < zs[k] <;> simp [h0]
theorem usedI_le (zs : List Int) : usedI zs ≤ zs.length := List.length_filter_le _ _
theorem wany_take (zs : List Int) (k : Nat) (h : k < zs.length) (h1 : (zs.take k).any badWant = false) (h2 : badWant zs[k] = false) : (zs.take (k + 1)).any badWant = false := by
  rw [take_snoc _ _ h, List.any_append, h1]; simp [h2]
theorem chkW_bad (zs : List Int) (most : Int) (k : Nat) (h : k < zs.length) (hl : zs.length ≤ 288) (h2 : badWant zs[k] = true) : chkW zs most = 3 := by
  unfold chkW
  rw [if_neg (by omega), if_pos (List.any_eq_true.2 ⟨_, List.getElem_mem h, h2⟩)]
theorem chkW_done (zs : List Int) (most : Int) (hl : zs.length ≤ 288) (h : zs.any badWant = false) : chkW zs most = if most < 1 ∨ 15 < most then 3 else if 2 ^ most.toNat < usedI zs then 11 else 0 := by
  unfold chkW
  rw [if_neg (by omega), if_neg (by rw [h]; simp)]
theorem chkW_fine (zs : List Int) (most : Int) (h : chkW zs most = 0) : zs.length ≤ 288 ∧ (∀ x ∈ zs, 0 ≤ x ∧ x ≤ 1000000) ∧ 1 ≤ most ∧ most ≤ 15 ∧ usedI zs ≤ 2 ^ most.toNat := by
  unfold chkW at h
  by_cases h1 : 288 < zs.length
  · rw [if_pos h1] at h; omega
  · rw [if_neg h1] at h
    by_cases h2 : zs.any badWant = true
    · rw [if_pos h2] at h; omega
    · rw [if_neg h2] at h
      by_cases h3 : most < 1 ∨ 15 < most
      · rw [if_pos h3] at h; omega
      · rw [if_neg h3] at h
        by_cases h4 : 2 ^ most.toNat < usedI zs
        · rw [if_pos h4] at h; omega
        · refine ⟨by omega, fun x hx => ?_, by omega, by omega, by omega⟩
          rw [Bool.not_eq_true, List.any_eq_false] at h2
          have := h2 x hx
          simp [badWant] at this
          omega
set_option maxRecDepth 100000 in
set_option maxHeartbeats 1600000 in
theorem checkW_any (A : Option Addr) (n c : Nat) (zs : List Int) (most : Int) (w : World) (hn : zs.length = n) (hx : n ≤ maxLen) (hA : InAt w A zs) :
    Calls Try.prog 58 #[.slice A n c, .int .i64 most] w fun e w' => e = .returned (.int .i64 (chkW zs most)) ∧ w' = w := by
  by_cases hx2 : 288 < (n : Int)
  · have Hc : Hid (chkW zs most = 2) := Lib.hid (by unfold chkW; rw [if_pos (by omega)])
    unfold maxLen at hx
    clear hn hA
    go_enter Try.func58, Try.ntmps58
    go_wp2_with fail
    go_ret
    exact ⟨ret_int Hc.out.symm, rfl⟩
  · have Hn := Lib.hid hn
    have HA := Lib.hid hA
    clear hn hA hx
    go_enter Try.func58, Try.ntmps58
    go_wp2_with fail
    go_loop [5, 13] (fun u i => ∃ k : Nat, k ≤ n ∧ i = .int .i64 (k : Int) ∧ (zs.take k).any badWant = false ∧ u = .int .i64 (usedI (zs.take k) : Int)) (fun _ i => n - (intOf i).toNat)
    case atStart => exact ⟨0, Nat.zero_le _, rfl, rfl, rfl⟩
    case round =>
      obtain ⟨k, hk, rfl, hany, rfl⟩ := hrel
      have Hany := Lib.hid hany
      clear hany
      have hus := usedI_le (zs.take k)
      rw [List.length_take] at hus
      by_cases hlt : k < n
      · have hkl : k < zs.length := by rw [Hn.out]; exact hlt
        obtain ⟨b, o, rfl, hc⟩ := HA.out.get hkl
        have Hu := Lib.hid (usedI_take zs k hkl)
        have Hany2 := Lib.hid (wany_take zs k hkl Hany.out)
        have Hbad := Lib.hid (chkW_bad zs most k hkl (by rw [Hn.out]; omega))
        generalize usedI (zs.take k) = u at *
        generalize zs[k] = z at *
        by_cases h1 : z < 0
        · have Hf := Lib.hid (Hbad.out (by simp [badWant, h1]))
          clear Hbad Hany2 Hu
          go_wp2_with fail
          go_ret
          exact ⟨ret_int Hf.out.symm, rfl⟩
        · have d1 : decide (z < 0) = false := by simp; omega
          by_cases h2 : 1000000 < z
          · have Hf := Lib.hid (Hbad.out (by simp [badWant, h2]))
            clear Hbad Hany2 Hu
            go_wp2_with fail
            go_ret
            exact ⟨ret_int Hf.out.symm, rfl⟩
          · have Ha := Lib.hid (Hany2.out (by simp [badWant]; omega))
            clear Hbad Hany2
            by_cases h0 : 0 < z
            · rw [if_pos h0] at Hu
              go_wp2_with fail
              go_round
              case rel => exact ⟨k + 1, by omega, by go_num, Ha.out, by rw [Hu.out]; go_num⟩
              case measure => simp [intOf]; omega
            · rw [if_neg h0] at Hu
              go_wp2_with fail
              go_round
              case rel => exact ⟨k + 1, by omega, by go_num, Ha.out, by rw [Hu.out]; rfl⟩
              case measure => simp [intOf]; omega
      · obtain rfl : k = n := by omega
        have Htk := Lib.hid (List.take_of_length_le (by rw [Hn.out]; omega : zs.length ≤ k))
        have hal := Hany.out
        rw [Htk.out] at hal hus ⊢
        have Hf := Lib.hid (chkW_done zs most (by rw [Hn.out]; omega) hal)
        clear hal
        generalize usedI zs = u at *
        by_cases h1 : most < 1
        · rw [if_pos (.inl h1)] at Hf
          go_wp2_with fail
          go_ret
          exact ⟨ret_int Hf.out.symm, rfl⟩
        · have d1 : decide (most < 1) = false := by simp; omega
          by_cases h2 : 15 < most
          · rw [if_pos (.inr h2)] at Hf
            go_wp2_with fail
            go_ret
            exact ⟨ret_int Hf.out.symm, rfl⟩
          · rw [if_neg (by omega)] at Hf
            obtain ⟨L, rfl⟩ := Int.eq_ofNat_of_zero_le (by omega : 0 ≤ most)
            rw [Int.toNat_natCast] at Hf
            have h3 : (2 : Nat) ^ L ≤ 2 ^ 15 := Nat.pow_le_pow_right (by omega) (by omega)
            have ht : (2 : Int) ^ L = ((2 ^ L : Nat) : Int) := by simp
            generalize 2 ^ L = y at *
            by_cases h4 : y < u
            · rw [if_pos h4] at Hf
              go_wp2_with fail
              go_ret
              exact ⟨ret_int Hf.out.symm, rfl⟩
            · rw [if_neg h4] at Hf
              go_wp2_with fail
              go_ret
              exact ⟨ret_int Hf.out.symm, rfl⟩
end Go.Proofs.Ytdponlnfdjfljaa.Weigh
