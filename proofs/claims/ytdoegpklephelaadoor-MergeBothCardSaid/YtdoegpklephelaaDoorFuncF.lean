/- slices.IndexFunc, slices.ContainsFunc at []api.File. -/
import Derived.Test.YtdoegpklephelaaDoorMergeCopy
import Derived.Test.YtdoegpklephelaaDoorFuncS
namespace Go.Proofs.YtdoegpklephelaaDoor.Merge
open Go Go.RowKit Go.Proofs.YtdoegpklephelaaDoor Go.Proofs.YtdoegpklephelaaDoor.Name
set_option linter.unusedVariables false

theorem idxI_of {α : Type} (p : α → Bool) (l : List α) : (∃ k : Nat, ∃ h : k < l.length, idxI p l = (k : Int) ∧ p l[k] = true ∧ ∀ x ∈ l.take k, p x = false) ∨ (idxI p l = -1 ∧ ∀ x ∈ l, p x = false) := by
  unfold idxI
  cases h : l.findIdx? p with
  | none => rw [List.findIdx?_eq_none_iff] at h; exact .inr ⟨rfl, h⟩
  | some i =>
    rw [List.findIdx?_eq_some_iff_getElem] at h
    obtain ⟨h1, h2, h3⟩ := h
    refine .inl ⟨i, h1, rfl, h2, fun x hx => ?_⟩
    obtain ⟨j, hj, e⟩ := List.mem_take_iff_getElem.1 hx
    subst e
    have := h3 j (by omega)
    simpa using this
set_option maxRecDepth 100000 in
set_option maxHeartbeats 400000 in
theorem indexFunc_files (A : Option Addr) (n c : Nat) (xs : List Fx) (g : FuncId) (cap : Array Value) (p : Fx → Bool) (w : World) (hn : xs.length = n) (hx : n ≤ maxLen) (ha : SlAt w A (xs.flatMap fC))
    (hcf : ∀ args w', (callFunc g args).run Tryd.prog w' = .ok (.enter g args) w')
    (hf : ∀ x ∈ xs, ∀ w', Below w.heap.size w w' → Calls Tryd.prog g (#[fV x] ++ cap) w' fun e w'' => e = .returned (.bool (p x)) ∧ Below w'.heap.size w' w'') :
    Calls Tryd.prog 19 #[.slice A n c, .func (.func g) #[] cap] w fun e w' => e = .returned (.int .i64 (idxI p xs)) ∧ Below w.heap.size w w' := by
  unfold maxLen at hx
  have Hn := Lib.hid hn
  have Ha := Lib.hid ha
  have Hf := Lib.hid hf
  clear hn ha hf
  go_enter Tryd.func19, Tryd.ntmps19
  go_wp2_with fail
  go_loopw [8] (fun i wr => ∃ k : Nat, k ≤ n ∧ i = .int .i64 k ∧ (∀ x ∈ xs.take k, p x = false) ∧ Below w.heap.size w wr) (fun i _ => n - (intOf i).toNat)
  case atStart => exact ⟨0, Nat.zero_le _, rfl, by simp, Below.refl _ _⟩
  case round =>
    obtain ⟨k, hk, rfl, hno, hbr⟩ := hrel
    have Hno := Lib.hid hno
    have Hbr := Lib.hid hbr
    clear hno
    by_cases hlt : k < n
    · have hkx : k < xs.length := by rw [Hn.out]; exact hlt
      obtain ⟨b, o, rfl, hc⟩ := slat_elem (size := 5) fC_len (by omega) (Ha.out.below hbr) hkx
      have Hcall := Lib.hid (Hf.out xs[k] (List.getElem_mem hkx) wr hbr)
      have Hy := Lib.hid (idxI_here p xs k hkx Hno.out)
      have Hz := Lib.hid (not_take_succ p xs k hkx Hno.out)
      generalize xs[k] = x at *
      obtain ⟨⟨n1, b1, s1, d1, g1⟩, A1, l1, c1⟩ := x
      have c0 : wr.cell? ⟨b, o + k * 5, none⟩ = some (.string (strB n1)) := hc 0 _ rfl
      have c1' : wr.cell? ⟨b, o + k * 5 + 1, none⟩ = some (.slice A1 l1 c1) := hc 1 _ rfl
      have c2 : wr.cell? ⟨b, o + k * 5 + 2, none⟩ = some (.int .i64 s1) := hc 2 _ rfl
      have c3 : wr.cell? ⟨b, o + k * 5 + 3, none⟩ = some (.int .i64 d1) := hc 3 _ rfl
      have c4 : wr.cell? ⟨b, o + k * 5 + 4, none⟩ = some (.bool g1) := hc 4 _ rfl
      obtain ⟨pv, hpv⟩ : ∃ pv, p (⟨n1, b1, s1, d1, g1⟩, A1, l1, c1) = pv := ⟨_, rfl⟩
      rw [hpv] at Hcall Hy Hz
      clear hbr hc hpv
      go_wp2_with fail
      refine (Hcall.out).mono ?_
      rintro e w1 ⟨rfl, hb1⟩
      have Hb1 := Lib.hid (Hbr.out.trans (hb1.mono Hbr.out.size))
      clear hb1
      cases pv with
      | true =>
        have Hi := Lib.hid (Hy.out rfl)
        go_wp2_with fail
        go_ret
        exact ⟨ret_int Hi.out.symm, Hb1.out⟩
      | false =>
        have Hi := Lib.hid (Hz.out rfl)
        go_wp2_with fail
        go_roundw
        case rel => exact ⟨k + 1, by omega, by go_num, Hi.out, Hb1.out⟩
        case measure => simp [intOf]; omega
    · have Hi := Lib.hid (idxI_none p xs (by have := Hno.out; rwa [List.take_of_length_le (by rw [Hn.out]; omega)] at this))
      clear hbr
      go_wp2_with fail
      go_ret
      exact ⟨ret_int Hi.out.symm, Hbr.out⟩
theorem containsFunc_files (A : Option Addr) (n c : Nat) (xs : List Fx) (g : FuncId) (cap : Array Value) (p : Fx → Bool) (w : World) (hn : xs.length = n) (hx : n ≤ maxLen) (ha : SlAt w A (xs.flatMap fC))
    (hcf : ∀ args w', (callFunc g args).run Tryd.prog w' = .ok (.enter g args) w')
    (hf : ∀ x ∈ xs, ∀ w', Below w.heap.size w w' → Calls Tryd.prog g (#[fV x] ++ cap) w' fun e w'' => e = .returned (.bool (p x)) ∧ Below w'.heap.size w' w'') :
    Calls Tryd.prog 30 #[.slice A n c, .func (.func g) #[] cap] w fun e w' => e = .returned (.bool (xs.any p)) ∧ Below w.heap.size w w' := by
  have Hany := Lib.hid (idxI_any p xs)
  have Hcon := Lib.hid (indexFunc_files A n c xs g cap p w hn hx ha hcf hf)
  clear hn hx ha hcf hf
  go_enter Tryd.func30, Tryd.ntmps30
  go_wp2_with fail
  refine (Hcon.out).mono ?_
  rintro e w1 ⟨rfl, hb1⟩
  have Hb1 := Lib.hid hb1
  clear hb1
  go_wp2_with fail
  go_ret
  exact ⟨ret_bool (by rw [← Hany.out]), Hb1.out⟩
end Go.Proofs.YtdoegpklephelaaDoor.Merge
