/- slices.Max at []int. -/
import Derived.Test.YtdponlnfdjfljaaEqual
import Derived.Test.YtdponlnfdjfljaaProg
import Derived.WalkSpells
namespace Go.Proofs.Ytdponlnfdjfljaa
open Go Go.RowKit
set_option linter.unusedVariables false
set_option maxRecDepth 100000 in
set_option maxHeartbeats 800000 in
theorem max_any (A : Option Addr) (n c : Nat) (zs : List Int) (w : World) (hn : zs.length = n) (h1 : 1 ≤ n) (hx : n ≤ maxLen) (hA : InAt w A zs) :
    Calls Try.prog 39 #[.slice A n c] w fun e w' => (∃ m, e = .returned (.int .i64 m) ∧ m ∈ zs ∧ ∀ x ∈ zs, x ≤ m) ∧ w' = w := by
  have hx' : n ≤ 9223372036854775807 := by unfold maxLen at hx; omega
  have Hn := Lib.hid hn
  have HA := Lib.hid hA
  have h0 : 0 < zs.length := by omega
  obtain ⟨b, o, rfl, hc⟩ := HA.out.get h0
  have hnn : ¬ ((n : Int) < 1) := by omega
  have hn0 : 0 < n := by omega
  have hn2 : ¬ n < 1 := by omega
  have hn3 : ¬ n = 0 := by omega
  obtain ⟨z0, hz0⟩ : ∃ z0, zs[0] = z0 := ⟨_, rfl⟩
  rw [hz0, Nat.add_zero] at hc
  have Hz0 : Hid (z0 ∈ zs) := Lib.hid (by rw [← hz0]; exact List.getElem_mem h0)
  have Ht1 : Hid (zs.take 1 = [z0]) := Lib.hid (by rw [take_snoc _ _ h0, hz0]; rfl)
  clear hn hA hz0 hx h0
  go_enter Try.func39, Try.ntmps39
  go_wp2_with fail
  go_loop [3, 4] (fun mv i => ∃ (k : Nat) (m : Int), k ≤ n ∧ i = .int .i64 (k : Int) ∧ mv = .int .i64 m ∧ m ∈ zs ∧ ∀ x ∈ zs.take k, x ≤ m) (fun _ i => n - (intOf i).toNat)
  case atStart => exact ⟨1, z0, h1, rfl, rfl, Hz0.out, by rw [Ht1.out]; simp⟩
  case round =>
    obtain ⟨k, m, hk, rfl, rfl, hm, hall⟩ := hrel
    have Hm := Lib.hid hm
    have Hall := Lib.hid hall
    clear hm hall
    by_cases hlt : k < n
    · have hkl : k < zs.length := by rw [Hn.out]; exact hlt
      obtain ⟨b', o', he, hc2⟩ := HA.out.get hkl
      injection he with he
      injection he with he1 he2
      subst he1 he2
      have Hz := Lib.hid (List.getElem_mem hkl)
      have Htk := Lib.hid (take_snoc zs k hkl)
      generalize zs[k] = z at *
      by_cases hmz : z ≤ m
      · have hmx : max m z = m := Int.max_eq_left hmz
        go_wp2_with fail
        go_round
        case rel => exact ⟨k + 1, m, by omega, by go_num, rfl, Hm.out, fun x hx => by
          rw [Htk.out] at hx
          rcases List.mem_append.1 hx with hx | hx
          · exact Hall.out x hx
          · simp at hx; omega⟩
        case measure => simp [intOf]; omega
      · have hmx : max m z = z := Int.max_eq_right (by omega)
        go_wp2_with fail
        go_round
        case rel => exact ⟨k + 1, z, by omega, by go_num, rfl, Hz.out, fun x hx => by
          rw [Htk.out] at hx
          rcases List.mem_append.1 hx with hx | hx
          · have := Hall.out x hx; omega
          · simp at hx; omega⟩
        case measure => simp [intOf]; omega
    · obtain rfl : k = n := by omega
      have Hal : Hid (zs.take k = zs) := Lib.hid (List.take_of_length_le (by rw [Hn.out]; omega))
      go_wp2_with fail
      go_ret
      exact ⟨⟨m, rfl, Hm.out, by have := Hall.out; rwa [Hal.out] at this⟩, rfl⟩
end Go.Proofs.Ytdponlnfdjfljaa
