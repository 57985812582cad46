/- reliquarylaw.NameWithin: the walk. -/
import Derived.Test.YtdponlnfdjfljaaDoorNamed
namespace Go.Proofs.YtdponlnfdjfljaaDoor.NameWithin
open Go Go.RowKit Go.Proofs.YtdponlnfdjfljaaDoor Go.Proofs.YtdponlnfdjfljaaDoor.Name
set_option linter.unusedVariables false

theorem within (folder s t : List UInt8) (h : joinR folder s = (0, t)) : nameE t = 0 ∧ t.length ≤ 40 ∧ (folder = [] → joinR [] t = (0, t)) ∧ (folder ≠ [] → underR t folder = (Lib.hasPrefix t (folder ++ [47]), 0) ∧ (t = folder ∨ Lib.hasPrefix t (folder ++ [47]) = true)) := by
  obtain ⟨h1, h2, h3, _⟩ := joinR_ok h
  refine ⟨h1, (nameE_fine h1).1, fun _ => join_again t h1, fun hf => ⟨?_, join_below hf h⟩⟩
  rcases h3 with h3 | h3
  · exact absurd h3 hf
  · exact under_ok h1 h3
set_option maxRecDepth 100000 in
set_option maxHeartbeats 4000000 in
theorem walk0 (W : World) (hML : ML W) (a b : List UInt8) (ha : a.length ≤ maxLen) (hb : b.length ≤ maxLen) (hs : a.length + b.length ≤ 9223372036854775807) :
    Calls Tryd.prog 3 #[.string (strB a), .string (strB b)] W fun e W' => e = .returned (.bool true) ∧ Below W.heap.size W W' := by
  have H1 := Lib.hid (joinN_any a b W ha hb hs hML)
  have HN : Hid (∀ w, Below W.heap.size W w → Calls _ _ _ w _) := Lib.hid (fun w h => named_any w (hML.below h))
  have HC : Hid (∀ t : List UInt8, t.length ≤ 40 → ∀ w, Below W.heap.size W w → Calls _ _ _ w _) := Lib.hid (fun t ht w h => checkN_any t w (by unfold maxLen; omega) (hML.below h))
  have HJ : Hid (∀ t : List UInt8, t.length ≤ 40 → ∀ w, Below W.heap.size W w → Calls _ _ _ w _) := Lib.hid (fun t ht w h => joinN_any [] t w (by decide) (by unfold maxLen; omega) (by simp; omega) (hML.below h))
  have HU : Hid (∀ t : List UInt8, t.length ≤ 40 → ∀ w, Below W.heap.size W w → Calls _ _ _ w _) := Lib.hid (fun t ht w h => under_any t a w (by unfold maxLen; omega) ha (hML.below h))
  have HW : Hid (∀ t, joinR a b = (0, t) → _) := Lib.hid (fun t h => within a b t h)
  clear hML ha hb hs
  go_enter Tryd.func3, Tryd.ntmps3
  go_wp2_with fail
  refine (H1.out).mono ?_
  rintro e w1 ⟨rfl, hb1⟩
  have Hb1 := Lib.hid hb1
  clear hb1 H1
  generalize joinR a b = r at *
  obtain ⟨e, t⟩ := r
  simp only
  go_wp2_with fail
  refine (HN.out _ Hb1.out).mono ?_
  rintro e2 w2 ⟨rfl, hb2⟩
  have Hb2 := Lib.hid (stepN Hb1.out hb2)
  clear hb2
  by_cases he : e = 0
  · subst he
    obtain ⟨q1, q2, q3, q4⟩ := HW.out t rfl
    have Q3 := Lib.hid q3
    have Q4 := Lib.hid q4
    have HC2 := Lib.hid (HC.out t q2)
    have HJ2 := Lib.hid (HJ.out t q2)
    have HU2 := Lib.hid (HU.out t q2)
    clear HW HC HJ HU q3 q4
    rw [q1] at HC2
    go_wp2_with fail
    refine (HC2.out _ Hb2.out).mono ?_
    rintro e3 w3 ⟨rfl, hb3⟩
    have Hb3 := Lib.hid (stepN Hb2.out hb3)
    clear hb3
    by_cases ha0 : a = []
    · have hj := Q3.out ha0
      rw [hj] at HJ2
      subst ha0
      clear Q3 Q4 hj
      go_wp2_with fail
      refine (HJ2.out _ Hb3.out).mono ?_
      rintro e4 w4 ⟨rfl, hb4⟩
      have Hb4 := Lib.hid (stepN Hb3.out hb4)
      clear hb4
      have htt : (t == t) = true := by simp
      go_wp2_with fail
      go_ret
      exact ⟨rfl, Hb4.out⟩
    · obtain ⟨hu, hor⟩ := Q4.out ha0
      rw [hu] at HU2
      have hae : a.isEmpty = false := by simpa using ha0
      clear Q3 Q4 hu
      by_cases hp : Lib.hasPrefix t (a ++ [47]) = true
      · rw [hp] at HU2
        clear hor hp
        go_wp2_with fail
        all_goals (first | (exact absurd (by assumption) ha0) | skip)
        refine (HU2.out _ Hb3.out).mono ?_
        rintro e4 w4 ⟨rfl, hb4⟩
        have Hb4 := Lib.hid (stepN Hb3.out hb4)
        clear hb4
        go_wp2_with fail
        go_ret
        exact ⟨rfl, Hb4.out⟩
      · have hta : t = a := by
          rcases hor with h | h
          · exact h
          · exact absurd h hp
        have hpf : Lib.hasPrefix t (a ++ [47]) = false := by simpa using hp
        rw [hpf] at HU2
        clear hor hp hpf
        subst hta
        go_wp2_with fail
        all_goals (first | (exact absurd (by assumption) ha0) | skip)
        refine (HU2.out _ Hb3.out).mono ?_
        rintro e4 w4 ⟨rfl, hb4⟩
        have Hb4 := Lib.hid (stepN Hb3.out hb4)
        clear hb4
        go_wp2_with fail
        go_ret
        exact ⟨rfl, Hb4.out⟩
  · have h1b : (e != 0) = true := by simpa using he
    go_wp2_with fail
    refine (HN.out _ Hb2.out).mono ?_
    rintro e3 w3 ⟨rfl, hb3⟩
    have Hb3 := Lib.hid (stepN Hb2.out hb3)
    clear hb3
    go_wp2_with fail
    go_ret
    exact ⟨rfl, Hb3.out⟩
theorem walk (W : World) (hML : ML W) (a : ByteArray) (ha : a.data.toList.length ≤ reachBytes) (b : ByteArray) (hb : b.data.toList.length ≤ reachBytes) :
    Calls Tryd.prog 3 #[.string a, .string b] W fun e W' => e = .returned (.bool true) ∧ Below W.heap.size W W' := by
  have h := walk0 W hML a.data.toList b.data.toList (by unfold reachBytes at ha; unfold maxLen; omega) (by unfold reachBytes at hb; unfold maxLen; omega) (by unfold reachBytes at ha hb; omega)
  simpa only [strB_back] using h
end Go.Proofs.YtdponlnfdjfljaaDoor.NameWithin
