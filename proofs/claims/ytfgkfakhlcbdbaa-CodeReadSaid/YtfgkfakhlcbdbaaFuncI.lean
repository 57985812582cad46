/- slices.IndexFunc, slices.ContainsFunc at []int. -/
import Derived.Test.YtfgkfakhlcbdbaaEqual
namespace Go.Proofs.Ytfgkfakhlcbdbaa
open Go Go.RowKit
set_option linter.unusedVariables false

/-- the first place at which p holds; -1: none -/
def idxI {α : Type} (p : α → Bool) (l : List α) : Int := match l.findIdx? p with | some i => (i : Int) | none => -1
theorem idxI_here {α : Type} (p : α → Bool) (l : List α) (k : Nat) (h : k < l.length) (h1 : ∀ x ∈ l.take k, p x = false) (h2 : p l[k] = true) : idxI p l = (k : Int) := by
  have : l.findIdx? p = some k := by
    rw [List.findIdx?_eq_some_iff_getElem]
    refine ⟨h, h2, fun j hj => ?_⟩
    have := h1 l[j] (by rw [List.mem_take_iff_getElem]; exact ⟨j, by omega, rfl⟩)
    simp [this]
  unfold idxI; rw [this]
theorem idxI_none {α : Type} (p : α → Bool) (l : List α) (h1 : ∀ x ∈ l, p x = false) : idxI p l = -1 := by
  have : l.findIdx? p = none := by rw [List.findIdx?_eq_none_iff]; exact h1
  unfold idxI; rw [this]
theorem idxI_any {α : Type} (p : α → Bool) (l : List α) : decide (0 ≤ idxI p l) = l.any p := by
  unfold idxI
  cases h : l.findIdx? p with
  | none =>
    rw [List.findIdx?_eq_none_iff] at h
    have : l.any p = false := by rw [List.any_eq_false]; intro x hx; simp [h x hx]
    rw [this]; rfl
  | some i =>
    rw [List.findIdx?_eq_some_iff_getElem] at h
    obtain ⟨h1, h2, _⟩ := h
    have : l.any p = true := by rw [List.any_eq_true]; exact ⟨l[i], List.getElem_mem h1, h2⟩
    rw [this]; simp
theorem not_take_succ {α : Type} (p : α → Bool) (l : List α) (k : Nat) (h : k < l.length) (h1 : ∀ x ∈ l.take k, p x = false) (h2 : p l[k] = false) : ∀ x ∈ l.take (k + 1), p x = false := by
  rw [take_snoc _ _ h]
  intro x hx
  rcases List.mem_append.1 hx with hx | hx
  · exact h1 x hx
  · simp at hx; subst hx; exact h2

set_option maxHeartbeats 400000 in
theorem indexFunc_ints (A : Option Addr) (n c : Nat) (xs : List Int) (g : FuncId) (cap : Array Value) (p : Int → Bool) (w : World) (hn : xs.length = n) (hx : n ≤ maxLen) (ha : InAt w A xs)
    (hcf : ∀ args w', (callFunc g args).run Try.prog w' = .ok (.enter g args) w')
    (hf : ∀ x ∈ xs, ∀ w', Below w.heap.size w w' → Calls Try.prog g (#[iv x] ++ cap) w' fun e w'' => e = .returned (.bool (p x)) ∧ Below w'.heap.size w' w'') :
    Calls Try.prog 32 #[.slice A n c, .func (.func g) #[] cap] w fun e w' => e = .returned (.int .i64 (idxI p xs)) ∧ Below w.heap.size w w' := by
  unfold maxLen at hx
  have Hn := Lib.hid hn
  have Ha := Lib.hid ha
  have Hf := Lib.hid hf
  clear hn ha hf
  go_enter Try.func32, Try.ntmps32
  go_wp2_with fail
  go_loopw [8] (fun i wr => ∃ k : Nat, k ≤ n ∧ i = .int .i64 k ∧ (∀ x ∈ xs.take k, p x = false) ∧ Below w.heap.size w wr) (fun i _ => n - (intOf i).toNat)
  case atStart => exact ⟨0, Nat.zero_le _, rfl, by simp, Below.refl _ _⟩
  case round =>
    obtain ⟨k, hk, rfl, hno, hbr⟩ := hrel
    have Hno := Lib.hid hno
    have Hbr := Lib.hid hbr
    clear hno
    by_cases hlt : k < n
    · have hkx : k < xs.length := by rw [Hn.out]; exact hlt
      obtain ⟨b, o, rfl, hc⟩ := (Ha.out.below hbr).get hkx
      have Hcall := Lib.hid (Hf.out xs[k] (List.getElem_mem hkx) wr hbr)
      have Hy := Lib.hid (idxI_here p xs k hkx Hno.out)
      have Hz := Lib.hid (not_take_succ p xs k hkx Hno.out)
      generalize xs[k] = x at *
      clear hbr
      go_wp2_with fail
      refine (Hcall.out).mono ?_
      rintro e w1 ⟨rfl, hb1⟩
      have Hb1 := Lib.hid (Hbr.out.trans (hb1.mono Hbr.out.size))
      clear hb1
      cases hp : p x with
      | true =>
        have Hi := Lib.hid (Hy.out hp)
        clear hp
        go_wp2_with fail
        go_ret
        exact ⟨ret_int Hi.out.symm, Hb1.out⟩
      | false =>
        have Hi := Lib.hid (Hz.out hp)
        clear hp
        go_wp2_with fail
        go_roundw
        case rel => exact ⟨k + 1, by omega, by go_num, Hi.out, Hb1.out⟩
        case measure => simp [intOf]; omega
    · have Hi := Lib.hid (idxI_none p xs (by have := Hno.out; rwa [List.take_of_length_le (by rw [Hn.out]; omega)] at this))
      clear hbr
      go_wp2_with fail
      go_ret
      exact ⟨ret_int Hi.out.symm, Hbr.out⟩
theorem containsFunc_ints (A : Option Addr) (n c : Nat) (xs : List Int) (g : FuncId) (cap : Array Value) (p : Int → Bool) (w : World) (hn : xs.length = n) (hx : n ≤ maxLen) (ha : InAt w A xs)
    (hcf : ∀ args w', (callFunc g args).run Try.prog w' = .ok (.enter g args) w')
    (hf : ∀ x ∈ xs, ∀ w', Below w.heap.size w w' → Calls Try.prog g (#[iv x] ++ cap) w' fun e w'' => e = .returned (.bool (p x)) ∧ Below w'.heap.size w' w'') :
    Calls Try.prog 8 #[.slice A n c, .func (.func g) #[] cap] w fun e w' => e = .returned (.bool (xs.any p)) ∧ Below w.heap.size w w' := by
  have Hany := Lib.hid (idxI_any p xs)
  have Hcon := Lib.hid (indexFunc_ints A n c xs g cap p w hn hx ha hcf hf)
  clear hn hx ha hcf hf
  go_enter Try.func8, Try.ntmps8
  go_wp2_with fail
  refine (Hcon.out).mono ?_
  rintro e w1 ⟨rfl, hb1⟩
  have Hb1 := Lib.hid hb1
  clear hb1
  go_wp2_with fail
  go_ret
  exact ⟨ret_bool (by rw [← Hany.out]), Hb1.out⟩
end Go.Proofs.Ytfgkfakhlcbdbaa
