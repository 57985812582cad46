/- reliquarylaw.NameParts: the walk. -/
import Derived.Test.YtdponlnfdjfljaaDoorNamed
import Derived.Test.YtdponlnfdjfljaaDoorNameRef
import Derived.Test.YtdponlnfdjfljaaDoorQuietTail
namespace Go.Proofs.YtdponlnfdjfljaaDoor.NameParts
open Go Go.RowKit Go.Proofs.YtdponlnfdjfljaaDoor Go.Proofs.YtdponlnfdjfljaaDoor.Name
set_option linter.unusedVariables false

theorem at47 (s : List UInt8) (k : Nat) (h : k < (strB s).size) (h2 : k < s.length) : (((((strB s)[k]'h).toNat : Nat) : Int) == 47) = decide (s.getD k 0 = 47) := by
  obtain ⟨h', e0⟩ := strB_at s k h2
  have e1 : ((((strB s)[k]'h).toNat : Nat) : Int) = n8 (s[k]'h2) := e0
  have e : s.getD k 0 = s[k]'h2 := by simp [List.getD_eq_getElem?_getD, h2]
  rw [e, e1, Bool.eq_iff_iff, decide_eq_true_iff]
  constructor
  · intro hh
    have h3 : (((s[k]'h2).toNat : Nat) : Int) = 47 := by simpa [n8] using hh
    have h4 : (s[k]'h2).toNat = (47 : UInt8).toNat := by show _ = 47; exact_mod_cast h3
    exact UInt8.toNat_inj.1 h4
  · intro hh; rw [hh]; rfl
/-- the parts of a text, twice told, are the same -/
theorem same_parts {s : List UInt8} {w : World} {A B : Option Addr} {n m : Nat} (hm : n = m) (h1 : SlAt w A ((if nameE s = 0 then parts s else []).map sv)) (h2 : SlAt w B ((if nameE s = 0 then parts s else []).map sv)) (hn : n = (if nameE s = 0 then parts s else []).length) (h40 : n ≤ 4000000) :
    Calls Tryd.prog 16 #[.slice A n n, .slice B m m] w fun e w' => e = .returned (.bool true) ∧ Below w.heap.size w w' := by
  subst hm
  refine (equal_strs A B n n n _ _ w hn.symm hn.symm h40 h1 h2).mono ?_
  rintro e w' ⟨rfl, q, rfl⟩
  exact ⟨ret_bool (by simp), below_drewN' (Below.refl _ _) q⟩
theorem parts_slat {s : List UInt8} {w : World} {e : Ending} {w' : World} (h : PartsPost s w e w') : ∃ A n, e = .returned (.tuple #[.slice A n n, .int .i64 (nameE s)]) ∧ n = (if nameE s = 0 then parts s else []).length ∧ SlAt w' A ((if nameE s = 0 then parts s else []).map sv) ∧ n ≤ 4000000 ∧ Below w.heap.size w w' := by
  obtain ⟨A, n, he, h1, h2⟩ := parts_tuple h
  refine ⟨A, n, he, ?_, ?_, ?_, h.2⟩
  · by_cases hz : nameE s = 0
    · rw [if_pos hz]; exact (h2 hz).1
    · rw [if_neg hz]; exact (h1 hz).2
  · by_cases hz : nameE s = 0
    · rw [if_pos hz]
      obtain ⟨_, g, rfl, _, hb⟩ := h2 hz
      exact blk_slat hb
    · rw [if_neg hz]; exact SlAt.nil
  · by_cases hz : nameE s = 0
    · rw [(h2 hz).1]
      have := (nameE_fine hz).1
      have := parts_len s
      omega
    · rw [(h1 hz).2]; omega
set_option maxRecDepth 100000 in
set_option maxHeartbeats 4000000 in
theorem walk0 (W : World) (hML : ML W) (s f : List UInt8) (hs : s.length ≤ 140737488351232) (hf : f.length ≤ 140737488351232) :
    Calls Tryd.prog 6 #[.string (strB s), .string (strB f)] W fun e W' => e = .returned (.bool true) ∧ Below W.heap.size W W' := by
  have hsm : s.length ≤ maxLen := by unfold maxLen; omega
  have hfm : f.length ≤ maxLen := by unfold maxLen; omega
  have HML := Lib.hid hML
  have HP := Lib.hid (parts_any s W hsm hML)
  have HU : Hid (∀ w, Below W.heap.size W w → Calls _ _ _ w _) := Lib.hid (fun w h => under_any s f w hsm hfm (hML.below h))
  have HR : Hid (∀ w, Below W.heap.size W w → Calls _ _ _ w _) := Lib.hid (fun w h => parted_any s w hsm (hML.below h))
  have HR2 : Hid (∀ w, Below W.heap.size W w → Calls _ _ _ w _) := Lib.hid (fun w h => parted_any f w hfm (hML.below h))
  have HN : Hid (∀ w, Below W.heap.size W w → Calls _ _ _ w _) := Lib.hid (fun w h => named_any w (hML.below h))
  have HC : Hid (∀ w, Below W.heap.size W w → Calls _ _ _ w _) := Lib.hid (fun w h => checkN_any s w hsm (hML.below h))
  have hzs := strB_size s
  have hzf := strB_size f
  obtain ⟨zs, hzs'⟩ : ∃ z, z = nameE s := ⟨_, rfl⟩
  have Hzs := Lib.hid hzs'
  rw [← hzs'] at HC
  clear hML hzs'
  go_enter Tryd.func6, Tryd.ntmps6
  go_wp2_with fail
  refine (HP.out).mono ?_
  intro e w1 hp
  obtain ⟨A1, n1, rfl, hn1, hl1, hm1, hb1⟩ := parts_slat hp
  rw [← Hzs.out]
  have Hn1 := Lib.hid hn1
  have Hl1 := Lib.hid hl1
  have Hm1 := Lib.hid hm1
  have Hb1 := Lib.hid hb1
  clear hp hn1 hl1 hm1 hb1 HP
  go_wp2_with fail
  refine (HU.out _ Hb1.out).mono ?_
  rintro e w2 ⟨rfl, hb2⟩
  obtain ⟨⟨ub, ue⟩, hu⟩ : ∃ u, u = underR s f := ⟨_, rfl⟩
  have Hu := Lib.hid hu
  rw [← hu]
  have Hb2 := Lib.hid (stepN Hb1.out hb2)
  have Hl12 := Lib.hid (Hl1.out.below hb2)
  clear hu hb2 HU
  (try dsimp only)
  go_wp2_with fail
  refine (HR.out _ Hb2.out).mono ?_
  intro e w3 hp
  obtain ⟨A3, n3, rfl, hn3, hl3, _, hb3⟩ := parts_slat hp
  rw [← Hzs.out]
  have Hn3 := Lib.hid hn3
  have Hl3 := Lib.hid hl3
  have Hb3 := Lib.hid (stepN Hb2.out hb3)
  have Hl13 := Lib.hid (Hl12.out.below hb3)
  clear hp hn3 hl3 hb3 HR
  go_wp2_with fail
  refine (HN.out _ Hb3.out).mono ?_
  rintro e w4 ⟨rfl, hb4⟩
  have Hb4 := Lib.hid (stepN Hb3.out hb4)
  have Hl14 := Lib.hid (Hl13.out.below hb4)
  have Hl34 := Lib.hid (Hl3.out.below hb4)
  clear hb4 HN Hl13 Hl3
  go_wp2_with fail
  refine (HC.out _ Hb4.out).mono ?_
  rintro e w5 ⟨rfl, hb5⟩
  have Hb5 := Lib.hid (stepN Hb4.out hb5)
  have Hl15 := Lib.hid (Hl14.out.below hb5)
  have Hl35 := Lib.hid (Hl34.out.below hb5)
  clear hb5 HC Hl14 Hl34
  have HEq := Lib.hid (same_parts (s := s) (w := w5) (Hn1.out.trans Hn3.out.symm) Hl15.out Hl35.out Hn1.out Hm1.out)
  go_wp2_with fail
  refine (HEq.out).mono ?_
  rintro e w6 ⟨rfl, hb6⟩
  have Hb6 := Lib.hid (stepN Hb5.out hb6)
  clear hb6 HEq Hl15 Hl35 Hn1 Hn3
  by_cases hz : zs = 0
  · have Hz : Hid (nameE s = 0) := Lib.hid (by rw [← Hzs.out]; exact hz)
    subst zs
    go_wp2_with fail
    refine (HR2.out _ Hb6.out).mono ?_
    intro e w7 hp
    obtain ⟨A7, n7, rfl, _, _⟩ := parts_tuple hp
    have Hb7 := Lib.hid (stepN Hb6.out hp.2)
    clear hp HR2
    by_cases hf0 : nameE f = 0
    · have hu := Hu.out
      rw [under_ok Hz.out hf0, prefix_at] at hu
      injection hu with u1 u2
      subst ue
      rw [hf0]
      clear hf0
      by_cases c1 : f.length < s.length
      · have c1i : (f.length : Int) < (s.length : Int) := by omega
        have hsl : f.length ≤ s.length := by omega
        have hx : (strB s).extract 0 f.length = strB (s.take f.length) := by rw [strB_extract]; simp
        have H47 := Lib.hid (at47 s f.length (by rw [strB_size]; exact c1) c1)
        by_cases c2 : s.take f.length = f
        · obtain ⟨q, hq⟩ : ∃ q, q = decide (s.getD f.length 0 = 47) := ⟨_, rfl⟩
          have hub : ub = q := by rw [u1, hq]; exact decide_eq_decide.2 ⟨fun h => h.2.2, fun h => ⟨c1, c2, h⟩⟩
          have HQ := Lib.hid hq
          clear u1 hq
          subst ub
          rw [← HQ.out] at H47
          cases q with
          | true =>
            go_wp2_with fail
            go_ret
            exact ⟨ret_bool H47.out, Hb7.out⟩
          | false =>
            go_wp2_with fail
            go_ret
            refine ⟨ret_bool ?_, Hb7.out⟩
            have h := H47.out
            simp only [h]
            rfl
        · have hub : ub = false := by rw [u1]; exact decide_eq_false (fun h => c2 h.2.1)
          clear u1
          subst ub
          have c2i : (s.take f.length == f) = false := by simpa using c2
          clear c2
          go_wp2_with fail
          go_ret
          exact ⟨rfl, Hb7.out⟩
      · have hub : ub = false := by rw [u1]; exact decide_eq_false (fun h => c1 h.1)
        clear u1
        subst ub
        have c1i : ¬ (f.length : Int) < (s.length : Int) := by omega
        go_wp2_with fail
        go_ret
        exact ⟨rfl, Hb7.out⟩
    · have hu := Hu.out
      unfold underR at hu
      rw [if_neg (by rw [Hz.out]; simp), if_pos hf0] at hu
      injection hu with u1 u2
      subst ub
      subst ue
      generalize nameE f = z at *
      have hz1 : (z != 0) = true := by simpa using hf0
      clear hf0
      go_wp2_with fail
      go_ret
      exact ⟨rfl, Hb7.out⟩
  · have hu := Hu.out
    unfold underR at hu
    rw [if_pos (by rw [← Hzs.out]; exact hz), ← Hzs.out] at hu
    injection hu with u1 u2
    subst ub
    subst ue
    have hz1 : (zs != 0) = true := by simpa using hz
    have hz2 : (zs == 0) = false := by simpa using hz
    clear hz
    go_wp2_with fail
    go_ret
    exact ⟨rfl, Hb6.out⟩
theorem walk (W : World) (hML : ML W) (a : ByteArray) (ha : a.data.toList.length ≤ reachBytes) (b : ByteArray) (hb : b.data.toList.length ≤ reachBytes) :
    Calls Tryd.prog 6 #[.string a, .string b] W fun e W' => e = .returned (.bool true) ∧ Below W.heap.size W W' := by
  have h := walk0 W hML a.data.toList b.data.toList (by unfold reachBytes at ha; omega) (by unfold reachBytes at hb; omega)
  simpa only [strB_back] using h
end Go.Proofs.YtdponlnfdjfljaaDoor.NameParts
