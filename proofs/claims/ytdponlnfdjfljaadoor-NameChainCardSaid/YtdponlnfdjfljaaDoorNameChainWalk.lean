/- reliquarylaw.NameChain: the walk. -/
import Derived.Test.YtdponlnfdjfljaaDoorNamed
namespace Go.Proofs.YtdponlnfdjfljaaDoor.NameChain
open Go Go.RowKit Go.Proofs.YtdponlnfdjfljaaDoor Go.Proofs.YtdponlnfdjfljaaDoor.Name
set_option linter.unusedVariables false

set_option maxRecDepth 100000 in
set_option maxHeartbeats 4000000 in
theorem walk0 (W : World) (hML : ML W) (a b c : List UInt8) (ha : a.length ≤ maxLen) (hb : b.length ≤ maxLen) (hc : c.length ≤ maxLen) :
    Calls Tryd.prog 4 #[.string (strB a), .string (strB b), .string (strB c)] W fun e W' => e = .returned (.bool true) ∧ Below W.heap.size W W' := by
  have H1 : Hid (∀ w, Below W.heap.size W w → Calls _ _ _ w _) := Lib.hid (fun w h => under_any a b w ha hb (hML.below h))
  have H2 : Hid (∀ w, Below W.heap.size W w → Calls _ _ _ w _) := Lib.hid (fun w h => under_any b c w hb hc (hML.below h))
  have H3 : Hid (∀ w, Below W.heap.size W w → Calls _ _ _ w _) := Lib.hid (fun w h => under_any a c w ha hc (hML.below h))
  have H4 : Hid (∀ w, Below W.heap.size W w → Calls _ _ _ w _) := Lib.hid (fun w h => under_any a a w ha ha (hML.below h))
  have H5 : Hid (∀ w, Below W.heap.size W w → Calls _ _ _ w _) := Lib.hid (fun w h => under_any b a w hb ha (hML.below h))
  have HN : Hid (∀ w, Below W.heap.size W w → Calls _ _ _ w _) := Lib.hid (fun w h => named_any w (hML.below h))
  clear hML
  go_enter Tryd.func4, Tryd.ntmps4
  go_wp2_with fail
  refine (H1.out _ (Below.refl _ _)).mono ?_
  rintro e w1 ⟨rfl, hb1⟩
  have Hb1 := Lib.hid hb1
  clear hb1
  go_wp2_with fail
  refine (H2.out _ Hb1.out).mono ?_
  rintro e w2 ⟨rfl, hb2⟩
  have Hb2 := Lib.hid (stepN Hb1.out hb2)
  clear hb2
  go_wp2_with fail
  refine (H3.out _ Hb2.out).mono ?_
  rintro e w3 ⟨rfl, hb3⟩
  have Hb3 := Lib.hid (stepN Hb2.out hb3)
  clear hb3
  go_wp2_with fail
  refine (H4.out _ Hb3.out).mono ?_
  rintro e w4 ⟨rfl, hb4⟩
  have Hb4 := Lib.hid (stepN Hb3.out hb4)
  clear hb4
  go_wp2_with fail
  refine (HN.out _ Hb4.out).mono ?_
  rintro e w5 ⟨rfl, hb5⟩
  have Hb5 := Lib.hid (stepN Hb4.out hb5)
  clear hb5
  by_cases hok : nameE a = 0 ∧ nameE b = 0 ∧ nameE c = 0
  · obtain ⟨h1, h2, h3⟩ := hok
    rw [under_ok h1 h2, under_ok h2 h3, under_ok h1 h3, under_ok h1 h1]
    have E5 := Lib.hid (under_ok h2 h1)
    have hown : Lib.hasPrefix a (a ++ [47]) = false := by
      cases h : Lib.hasPrefix a (a ++ [47]) with
      | false => rfl
      | true => have := prefix_len h; omega
    rw [hown]
    have Hch : Hid (Lib.hasPrefix a (b ++ [47]) = true → Lib.hasPrefix b (c ++ [47]) = true → Lib.hasPrefix a (c ++ [47]) = true) := Lib.hid prefix_chain
    have Hbk : Hid (Lib.hasPrefix a (b ++ [47]) = true → Lib.hasPrefix b (a ++ [47]) = false) := Lib.hid (fun h => by
      cases h2 : Lib.hasPrefix b (a ++ [47]) with
      | false => rfl
      | true => have := prefix_len h; have := prefix_len h2; omega)
    clear h1 h2 h3 hown
    generalize Lib.hasPrefix a (b ++ [47]) = x at *
    generalize Lib.hasPrefix b (c ++ [47]) = y at *
    generalize Lib.hasPrefix a (c ++ [47]) = z at *
    generalize Lib.hasPrefix b (a ++ [47]) = k at *
    rcases (by cases x <;> simp : x = true ∨ x = false) with rfl | rfl
    · have hk := Hbk.out rfl
      subst hk
      rcases (by cases y <;> simp : y = true ∨ y = false) with rfl | rfl
      · have hz := Hch.out rfl rfl
        subst hz
        go_wp2_with fail
        refine (H5.out _ Hb5.out).mono ?_
        rintro e w6 ⟨rfl, hb6⟩
        have Hb6 := Lib.hid (stepN Hb5.out hb6)
        clear hb6
        rw [E5.out]
        go_wp2_with fail
        go_ret
        exact ⟨rfl, Hb6.out⟩
      · go_wp2_with fail
        refine (H5.out _ Hb5.out).mono ?_
        rintro e w6 ⟨rfl, hb6⟩
        have Hb6 := Lib.hid (stepN Hb5.out hb6)
        clear hb6
        rw [E5.out]
        go_wp2_with fail
        go_ret
        exact ⟨rfl, Hb6.out⟩
    · go_wp2_with fail
      refine (H5.out _ Hb5.out).mono ?_
      rintro e w6 ⟨rfl, hb6⟩
      have Hb6 := Lib.hid (stepN Hb5.out hb6)
      clear hb6
      rw [E5.out]
      go_wp2_with fail
      go_ret
      exact ⟨rfl, Hb6.out⟩
  · have hbad : (underR a b).2 ≠ 0 ∨ (underR b c).2 ≠ 0 := by
      rcases Classical.em ((underR a b).2 = 0) with h | h
      · right
        intro h2
        exact hok ⟨(under_err h).1, (under_err h).2, (under_err h2).2⟩
      · exact .inl h
    generalize underR a b = r1 at *
    generalize underR b c = r2 at *
    generalize underR a c = r3 at *
    generalize underR a a = r4 at *
    obtain ⟨p1, e1⟩ := r1
    obtain ⟨p2, e2⟩ := r2
    obtain ⟨p3, e3⟩ := r3
    obtain ⟨p4, e4⟩ := r4
    simp only at hbad ⊢
    by_cases h1 : e1 = 0
    · have h2 : e2 ≠ 0 := by
        rcases hbad with h | h
        · exact absurd h1 h
        · exact h
      subst h1
      have h2b : (e2 != 0) = true := by simpa using h2
      go_wp2_with fail
      refine (HN.out _ Hb5.out).mono ?_
      rintro e w6 ⟨rfl, hb6⟩
      have Hb6 := Lib.hid (stepN Hb5.out hb6)
      clear hb6
      go_wp2_with fail
      go_ret
      exact ⟨rfl, Hb6.out⟩
    · have h1b : (e1 != 0) = true := by simpa using h1
      go_wp2_with fail
      refine (HN.out _ Hb5.out).mono ?_
      rintro e w6 ⟨rfl, hb6⟩
      have Hb6 := Lib.hid (stepN Hb5.out hb6)
      clear hb6
      go_wp2_with fail
      go_ret
      exact ⟨rfl, Hb6.out⟩
theorem walk (W : World) (hML : ML W) (a : ByteArray) (ha : a.data.toList.length ≤ reachBytes) (b : ByteArray) (hb : b.data.toList.length ≤ reachBytes) (c : ByteArray) (hc : c.data.toList.length ≤ reachBytes) :
    Calls Tryd.prog 4 #[.string a, .string b, .string c] W fun e W' => e = .returned (.bool true) ∧ Below W.heap.size W W' := by
  have h := walk0 W hML a.data.toList b.data.toList c.data.toList (by unfold reachBytes at ha; unfold maxLen; omega) (by unfold reachBytes at hb; unfold maxLen; omega) (by unfold reachBytes at hc; unfold maxLen; omega)
  simpa only [strB_back] using h
end Go.Proofs.YtdponlnfdjfljaaDoor.NameChain
