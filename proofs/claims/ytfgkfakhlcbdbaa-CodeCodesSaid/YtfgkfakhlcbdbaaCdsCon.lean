/- slices.Contains at a row of int; what 'full' says. -/
import Derived.Test.YtfgkfakhlcbdbaaCodeFact
import Derived.Test.YtfgkfakhlcbdbaaCodeRead0
import Derived.Test.YtfgkfakhlcbdbaaCodeWrite0
import Derived.Test.YtfgkfakhlcbdbaaInAt
namespace Go.Proofs.Ytfgkfakhlcbdbaa.Cds
open Go Go.RowKit Go.Proofs.Ytfgkfakhlcbdbaa Go.Proofs.Ytfgkfakhlcbdbaa.Code
set_option linter.unusedVariables false

theorem mem_take (zs : List Int) (k : Nat) (h : k < zs.length) (y : Int) (h1 : y ∉ zs.take k) (h2 : zs[k] ≠ y) : y ∉ zs.take (k + 1) := by
  rw [List.take_succ_eq_append_getElem h, List.mem_append]
  simp; exact ⟨h1, fun e => h2 e.symm⟩
set_option maxRecDepth 100000 in
set_option maxHeartbeats 1600000 in
theorem index_any (A : Option Addr) (n c : Nat) (zs : List Int) (y : Int) (w : World) (hn : zs.length = n) (hx : n ≤ 100000) (hA : InAt w A zs) :
    Calls Try.prog 42 #[.slice A n c, .int .i64 y] w fun e w' => (∃ r : Int, e = .returned (.int .i64 r) ∧ (0 ≤ r ↔ y ∈ zs)) ∧ w' = w := by
  have Hn := Lib.hid hn
  have HA := Lib.hid hA
  clear hn hA
  go_enter Try.func42, Try.ntmps42
  go_wp2_with fail
  go_loop [8] (fun i => ∃ k : Nat, k ≤ n ∧ i = .int .i64 (k : Int) ∧ y ∉ zs.take k) (fun i => n - (intOf i).toNat)
  case atStart => exact ⟨0, Nat.zero_le _, rfl, by simp⟩
  case round =>
    obtain ⟨k, hk, rfl, hno⟩ := hrel
    have Hno := Lib.hid hno
    clear hno
    by_cases hlt : k < n
    · have hkl : k < zs.length := by rw [Hn.out]; exact hlt
      obtain ⟨b, o, rfl, hc⟩ := HA.out.get hkl
      have Hm : Hid (zs[k] ∈ zs) := Lib.hid (List.getElem_mem hkl)
      have Ht := Lib.hid (mem_take zs k hkl y Hno.out)
      generalize zs[k] = z at *
      by_cases h : y = z
      · subst h
        go_wp2_with fail
        go_ret
        exact ⟨⟨_, rfl, ⟨fun _ => Hm.out, fun _ => by omega⟩⟩, rfl⟩
      · have hb : (y == z) = false := by simpa using h
        have Ht' := Lib.hid (Ht.out (fun e => h e.symm))
        clear Ht h
        go_wp2_with fail
        go_round
        case rel => exact ⟨k + 1, by omega, by go_num, Ht'.out⟩
        case measure => simp [intOf]; omega
    · obtain rfl : k = n := by omega
      have hno := Hno.out
      rw [List.take_of_length_le (by rw [Hn.out]; exact Nat.le_refl _)] at hno
      have Hno2 := Lib.hid hno
      clear hno
      go_wp2_with fail
      go_ret
      exact ⟨⟨_, rfl, ⟨fun h => absurd h (by decide), fun h => absurd h Hno2.out⟩⟩, rfl⟩
set_option maxRecDepth 100000 in
set_option maxHeartbeats 1600000 in
theorem contains_any (A : Option Addr) (n c : Nat) (zs : List Int) (y : Int) (w : World) (hn : zs.length = n) (hx : n ≤ 100000) (hA : InAt w A zs) :
    Calls Try.prog 25 #[.slice A n c, .int .i64 y] w fun e w' => e = .returned (.bool (decide (y ∈ zs))) ∧ w' = w := by
  have HI := Lib.hid (index_any A n c zs y w hn hx hA)
  clear hn hA
  go_enter Try.func25, Try.ntmps25
  go_wp2_with fail
  refine (HI.out).mono ?_
  rintro e w2 ⟨⟨r, rfl, hr⟩, hw⟩
  cases hw
  have Hr := Lib.hid hr
  clear hr
  go_wp2_with fail
  go_ret
  refine ⟨ret_bool ?_, rfl⟩
  rw [decide_eq_decide]
  exact Hr.out
theorem one_of (ls : List Nat) (h : usedN ls = 1) : oneN ls = 1 ↔ 1 ∈ ls := by
  unfold usedN at h
  unfold oneN
  have hs : (ls.filter fun x => decide (x = 1)) = (ls.filter fun x => decide (x ≠ 0)).filter fun x => decide (x = 1) := by
    rw [List.filter_filter]
    apply List.filter_congr
    intro x _
    by_cases e : x = 1
    · simp [e]
    · simp [e]
  constructor
  · intro h1
    have : 0 < (ls.filter fun x => decide (x = 1)).length := by omega
    obtain ⟨x, hx⟩ := List.exists_mem_of_length_pos this
    rw [List.mem_filter] at hx
    have := hx.2
    simp at this
    subst this
    exact hx.1
  · intro h1
    have h2 : 1 ∈ ls.filter fun x => decide (x = 1) := by simp [h1]
    have h3 := List.length_pos_of_mem h2
    have h4 := List.length_filter_le (fun x => decide (x = 1)) (ls.filter fun x => decide (x ≠ 0))
    rw [← hs] at h4
    omega
theorem one_of_in (zs : List Int) (hz : ∀ z ∈ zs, 0 ≤ z ∧ z ≤ 15) : (1 : Int) ∈ zs ↔ 1 ∈ lsOf zs := by
  unfold lsOf
  rw [List.mem_map]
  constructor
  · intro h; exact ⟨1, h, rfl⟩
  · rintro ⟨z, h, e⟩
    have := hz z h
    have : z = 1 := by omega
    rw [← this]; exact h
theorem full_says (zs : List Int) (hz : ∀ z ∈ zs, 0 ≤ z ∧ z ≤ 15) : fullB (lsOf zs) = (decide (room (lsOf zs) = 32768) || (decide (usedN (lsOf zs) = 1) && decide ((1 : Int) ∈ zs))) := by
  unfold fullB
  by_cases h1 : room (lsOf zs) = 32768
  · simp [h1]
  · by_cases h2 : usedN (lsOf zs) = 1
    · simp only [h1, h2, decide_false, decide_true, Bool.false_or, Bool.true_and]
      rw [decide_eq_decide, one_of_in zs hz]
      exact one_of _ h2
    · simp [h1, h2]
end Go.Proofs.Ytfgkfakhlcbdbaa.Cds
