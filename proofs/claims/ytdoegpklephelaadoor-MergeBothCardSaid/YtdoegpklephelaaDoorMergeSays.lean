/- reliquarylaw.MergeBoth: its function value. -/
import Derived.Test.YtdoegpklephelaaDoorRefs
import Derived.Test.YtdoegpklephelaaDoorFs
namespace Go.Proofs.YtdoegpklephelaaDoor.Merge
open Go Go.RowKit Go.Proofs.YtdoegpklephelaaDoor Go.Proofs.YtdoegpklephelaaDoor.Name Go.Proofs.YtdoegpklephelaaDoor.Worlds
set_option linter.unusedVariables false

theorem tog_fs {xs : List Nx} {w w' : World} {e : Ending} (h : TogPost xs w e w') (hd : ∀ n ∈ xs, ∀ x ∈ n.2, FileAt w x) (hs : ∀ n ∈ xs, Srt (flOf n.2)) :
    ∃ v', e = .returned v' ∧ Fs w' v' (allB (xs.map fun x => flOf x.2)) ∧ Below w.heap.size w w' := by
  obtain ⟨v', l', rfl, ho, hm, he, hb⟩ := h
  refine ⟨v', rfl, ?_, hb⟩
  rw [← he hs]
  exact (own_files ho rfl (fun x hx => by
    obtain ⟨n, hn, hx2⟩ := hm x hx
    exact (hd n hn x hx2).below hb)).fs
theorem chkF_srt {l : List Fl} (h : chkF l = 0) : Srt l := (chkF_ok.1 h).2.2
set_option maxRecDepth 100000 in
set_option maxHeartbeats 4000000 in
theorem says_any (ga : Nat) (va vb vl : Value) (a b : List Fx) (w : World) (hml : ML w) (hc : w.cell? ⟨ga, 0, none⟩ = some va) (h1 : IsFiles w va a) (h2 : IsFiles w vb b) (er : Int) (ll : List Fl) (hr : (er, ll) = bothR (a.map Prod.fst) (b.map Prod.fst)) (hl : Fs w vl ll) :
    Calls Tryd.prog 25 #[vl, .int .i64 er, vb, .pointer (some ⟨ga, 0, none⟩)] w fun e w' => e = .returned (.bool true) ∧ Below w.heap.size w w' := by
  have HC1 := Lib.hid (refCheck_any va a w hml h1)
  have HC2 : Hid (∀ w', Below w.heap.size w w' → Calls _ _ _ w' _) := Lib.hid (fun w' hb => refCheck_any vb b w' (hml.below hb) (h2.below hb))
  have H1 := Lib.hid h1
  have H2 := Lib.hid h2
  have Hl := Lib.hid hl
  have Hr := Lib.hid hr
  obtain ⟨A, ca, rfl, _, _, _, _, hda⟩ := h1
  obtain ⟨B, cb_, rfl, _, _, _, _, hdb⟩ := h2
  have Hda := Lib.hid hda
  have Hdb := Lib.hid hdb
  obtain ⟨n, hn⟩ : ∃ n, n = a.length := ⟨_, rfl⟩
  obtain ⟨m, hm⟩ : ∃ m, m = b.length := ⟨_, rfl⟩
  have Hn := Lib.hid hn
  have Hm := Lib.hid hm
  obtain ⟨za, hza⟩ : ∃ z, z = chkF (a.map Prod.fst) := ⟨_, rfl⟩
  obtain ⟨zb, hzb⟩ : ∃ z, z = chkF (b.map Prod.fst) := ⟨_, rfl⟩
  have Hza := Lib.hid hza
  have Hzb := Lib.hid hzb
  rw [← hza] at HC1
  rw [← hzb] at HC2
  have hcl := block_lt_of_cell hc
  simp only at hcl
  rw [← hn] at hc HC1 H1
  rw [← hm] at HC2 H2 ⊢
  have Hc := Lib.hid hc
  clear hl hr hda hdb hn hm hza hzb
  go_enter Tryd.func25, Tryd.ntmps25
  go_wp2_with fail
  refine (HC1.out).mono ?_
  rintro e w1 ⟨rfl, hb1⟩
  have Hb1 := Lib.hid hb1
  have hc1 := cell_below hb1 Hc.out
  clear hc hb1 HC1
  by_cases hz : za = 0
  · have Hz : Hid (chkF (a.map Prod.fst) = 0) := Lib.hid (by rw [← Hza.out]; exact hz)
    subst za
    go_wp2_with fail
    refine (HC2.out _ Hb1.out).mono ?_
    rintro e w2 ⟨rfl, hb2⟩
    have Hb2 := Lib.hid (stepN Hb1.out hb2)
    have hc2 := cell_below Hb2.out Hc.out
    clear hb2 hc1
    by_cases hz2 : zb = 0
    · have Hz2 : Hid (chkF (b.map Prod.fst) = 0) := Lib.hid (by rw [← Hzb.out]; exact hz2)
      subst zb
      obtain ⟨w3, hw3⟩ : ∃ w3, w3 = w2.alloc (.cells #[.slice A n ca, .slice B m cb_] 22) := ⟨_, rfl⟩
      obtain ⟨g3, hg3⟩ : ∃ g, g = w2.heap.size := ⟨_, rfl⟩
      have hb3 : Below w2.heap.size w2 w3 := by rw [hw3]; exact (Below.refl _ _).alloc (Nat.le_refl _) _
      have Hb3 := Lib.hid (stepN Hb2.out hb3)
      have hsl : SlAt w3 (some ⟨g3, 0, none⟩) [.slice A n ca, .slice B m cb_] := by rw [hw3, hg3]; exact SlAt.of_heap (heap_alloc_new w2 _) rfl
      have hL : IsL w3 nC (NodeAt w3) (.slice (some ⟨g3, 0, none⟩) 2 2) [((A, n, ca), a), ((B, m, cb_), b)] := ⟨some ⟨g3, 0, none⟩, 2, rfl, Nat.le_refl _, (by show (2 : Nat) ≤ maxLen; unfold maxLen; omega), hsl, by simp, fun x hx => by
        simp only [List.mem_cons, List.not_mem_nil, or_false] at hx
        rcases hx with rfl | rfl
        · exact IsFiles.below H1.out Hb3.out
        · exact IsFiles.below H2.out Hb3.out⟩
      have hla : a.length ≤ 12 := by have := (chkF_ok.1 Hz.out).1; rwa [List.length_map] at this
      have hlb : b.length ≤ 12 := by have := (chkF_ok.1 Hz2.out).1; rwa [List.length_map] at this
      have HTg := Lib.hid (together_any _ _ w3 hL (by simp [totN]; omega))
      have Hw3 := Lib.hid hw3.symm
      have Hg3 := Lib.hid hg3.symm
      clear hw3 hg3 hb3 hsl hL hla hlb
      go_wp2_with fail
      rw [Hw3.out, Hg3.out]
      refine (HTg.out).mono ?_
      intro e w4 hp
      obtain ⟨v4, rfl, hf4, hb4⟩ := tog_fs hp (fun nd hnd x hx => by
        simp only [List.mem_cons, List.not_mem_nil, or_false] at hnd
        rcases hnd with rfl | rfl
        · exact (Hda.out x hx).below Hb3.out
        · exact (Hdb.out x hx).below Hb3.out) (fun nd hnd => by
        simp only [List.mem_cons, List.not_mem_nil, or_false] at hnd
        rcases hnd with rfl | rfl
        · exact chkF_srt Hz.out
        · exact chkF_srt Hz2.out)
      have hall : allB (List.map (fun x : Nx => flOf x.2) [((A, n, ca), a), ((B, m, cb_), b)]) = bothL (a.map Prod.fst) (b.map Prod.fst) := by
        show bothL (bothL [] (flOf a)) (flOf b) = _
        rw [both_nil]; rfl
      rw [hall] at hf4
      have Hb4 := Lib.hid (stepN Hb3.out hb4)
      have Hf4 := Lib.hid hf4
      obtain ⟨A4, c4, hv4⟩ := hf4.slice
      subst hv4
      have Hl4 := Lib.hid (Hl.out.below Hb4.out)
      obtain ⟨L, hL⟩ : ∃ L, L = bothL (a.map Prod.fst) (b.map Prod.fst) := ⟨_, rfl⟩
      rw [← hL] at Hf4 ⊢
      have HL := Lib.hid hL
      clear hp hb4 hf4 hall hL HTg hc2
      by_cases h12 : 12 < L.length
      · have hR := Hr.out
        rw [bothR_3 Hz.out Hz2.out (by rw [← HL.out]; exact h12)] at hR
        injection hR with e1 e2
        subst er
        subst ll
        obtain ⟨A5, c5, h5⟩ := Hl4.out.slice
        subst h5
        rw [List.length_nil]
        generalize L.length = k at *
        have h12i : (12 : Int) < (k : Int) := by omega
        go_wp2_with fail
        go_ret
        exact ⟨rfl, Hb4.out⟩
      · have hR := Hr.out
        rw [bothR_of Hz.out Hz2.out (by rw [← HL.out]; omega)] at hR
        injection hR with e1 e2
        subst er
        have HSa := Lib.hid (same_fs vl (.slice A4 L.length c4) ll L w4 Hl4.out Hf4.out)
        have he : sameL ll L = true := by rw [e2, ← HL.out]; exact sameL_self _
        rw [he] at HSa
        clear e2 he
        generalize L.length = k at *
        have h12i : ¬ (12 : Int) < (k : Int) := by omega
        go_wp2_with fail
        refine (HSa.out).mono ?_
        rintro e w5 ⟨rfl, hb5⟩
        have Hb5 := Lib.hid (stepN Hb4.out hb5)
        clear hb5
        go_wp2_with fail
        go_ret
        exact ⟨rfl, Hb5.out⟩
    · have hR := Hr.out
      rw [bothR_2 Hz.out (by rw [← Hzb.out]; exact hz2), ← Hzb.out] at hR
      injection hR with e1 e2
      subst er
      subst ll
      obtain ⟨A5, c5, h5⟩ := Hl.out.slice
      subst h5
      rw [List.length_nil]
      have hz3 : (zb != 0) = true := by simpa using hz2
      clear hz2
      go_wp2_with fail
      go_ret
      exact ⟨rfl, Hb2.out⟩
  · have hR := Hr.out
    rw [bothR_1 (by rw [← Hza.out]; exact hz), ← Hza.out] at hR
    injection hR with e1 e2
    subst er
    subst ll
    obtain ⟨A5, c5, h5⟩ := Hl.out.slice
    subst h5
    rw [List.length_nil]
    have hz3 : (za != 0) = true := by simpa using hz
    have hz4 : (za == 0) = false := by simpa using hz
    clear hz
    go_wp2_with fail
    go_ret
    exact ⟨rfl, Hb1.out⟩
end Go.Proofs.YtdoegpklephelaaDoor.Merge
