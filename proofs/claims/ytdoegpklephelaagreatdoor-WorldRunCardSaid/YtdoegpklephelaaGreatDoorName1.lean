/- package name: what is no part of a name. -/
import Derived.Test.YtdoegpklephelaaGreatDoorName0
namespace Go.Proofs.YtdoegpklephelaaGreatDoor.Name
open Go Go.RowKit Go.Proofs.YtdoegpklephelaaGreatDoor
set_option linter.unusedVariables false

theorem strB_get (p : List UInt8) (k : Nat) (h : k < (strB p).size) (h2 : k < p.length) : (strB p)[k] = p[k] := by
  show (p.toArray)[k]'h = p[k]
  exact List.getElem_toArray h
theorem strB_at (p : List UInt8) (k : Nat) (h2 : k < p.length) : ∃ h : k < (strB p).size, ((((strB p)[k]'h).toNat : Nat) : Int) = n8 (p[k]'h2) := by
  have h : k < (strB p).size := by rw [strB_size]; exact h2
  exact ⟨h, congrArg (fun u : UInt8 => ((u.toNat : Nat) : Int)) (strB_get p k h h2)⟩
attribute [go_sem] strB_toList
set_option maxRecDepth 100000 in
set_option maxHeartbeats 1600000 in
theorem bad_any (p : List UInt8) (w : World) (hp : p.length ≤ 4000000) :
    Calls Tryz.prog 77 #[.string (strB p)] w fun e w' => e = .returned (.bool (badPart p)) ∧ w' = w := by
  have Hz : Hid ((strB p).size = p.length) := Lib.hid (strB_size p)
  have hz := Hz.out
  go_enter Tryz.func77, Tryz.ntmps77
  go_wp2_with fail
  go_loop [6] (fun i => ∃ k : Nat, k ≤ p.length ∧ i = .int .i64 (k : Int) ∧ ∀ c ∈ p.take k, letterB c = true) (fun i => p.length - (intOf i).toNat)
  case atStart => exact ⟨0, Nat.zero_le _, rfl, by simp⟩
  case round =>
    obtain ⟨k, hk, rfl, hall⟩ := hrel
    have Hall := Lib.hid hall
    clear hall
    by_cases hlt : k < p.length
    · have HC := Lib.hid (letter_any p[k] w)
      have Hy : Hid (letterB p[k] = false → badPart p = true) := Lib.hid (fun h => by
        unfold badPart
        rw [Bool.or_eq_true]; left
        exact List.any_eq_true.2 ⟨_, List.getElem_mem hlt, by simp [h]⟩)
      have Hn : Hid (letterB p[k] = true → ∀ c ∈ p.take (k + 1), letterB c = true) := Lib.hid (fun h c hc => by
        rw [take_snoc _ _ hlt] at hc
        rcases List.mem_append.1 hc with hc | hc
        · exact Hall.out c hc
        · simp at hc; subst hc; exact h)
      obtain ⟨hks, hg⟩ := strB_at p k hlt
      generalize p[k]'hlt = x at *
      go_wp2_with fail
      refine (HC.out).mono ?_
      rintro e wx ⟨rfl, hw⟩
      have hw := hw.symm
      subst hw
      cases hL : letterB x with
      | true =>
        have Hn2 := Lib.hid (Hn.out hL)
        clear hL Hn Hy
        go_wp2_with fail
        go_round
        case rel => exact ⟨k + 1, by omega, by go_num, Hn2.out⟩
        case measure => simp [intOf]; omega
      | false =>
        have Hy2 := Lib.hid (Hy.out hL)
        clear hL Hn Hy
        go_wp2_with fail
        go_ret
        exact ⟨by rw [Hy2.out]; rfl, rfl⟩
    · obtain rfl : k = p.length := by omega
      have ha : p.any (fun c => !letterB c) = false := by
        rw [List.any_eq_false]
        intro c hc
        have := Hall.out c (by rw [List.take_of_length_le (Nat.le_refl _)]; exact hc)
        simp [this]
      have HB : Hid (badPart p = (decide (p = []) || (decide (p = [46]) || decide (p = [46, 46])))) := Lib.hid (by unfold badPart; rw [ha]; rfl)
      by_cases h1 : p = []
      · subst h1
        have Hb : Hid (badPart [] = true) := Lib.hid (by rw [HB.out]; rfl)
        clear HB ha
        go_wp2_with fail
        go_ret
        exact ⟨by rw [Hb.out]; rfl, rfl⟩
      · by_cases h2 : p = [46]
        · subst h2
          have Hb : Hid (badPart [46] = true) := Lib.hid (by rw [HB.out]; rfl)
          clear HB ha
          go_wp2_with fail
          go_ret
          exact ⟨by rw [Hb.out]; rfl, rfl⟩
        · by_cases h3 : p = [46, 46]
          · subst h3
            have Hb : Hid (badPart [46, 46] = true) := Lib.hid (by rw [HB.out]; rfl)
            clear HB ha
            go_wp2_with fail
            go_ret
            exact ⟨by rw [Hb.out]; rfl, rfl⟩
          · have Hb : Hid (badPart p = false) := Lib.hid (by rw [HB.out]; simp [h1, h2, h3])
            clear HB ha
            go_wp2_with fail
            go_ret
            exact ⟨by rw [Hb.out]; exact ret_bool (by simp [h1, h2, h3]), rfl⟩
end Go.Proofs.YtdoegpklephelaaGreatDoor.Name
