/- reliquarylaw.WorldNet: the walk. -/
import Derived.Test.YtdoegpklephelaaDoorWorldOrderWalk
namespace Go.Proofs.YtdoegpklephelaaDoor.WorldNet
open Go Go.RowKit Go.Proofs.YtdoegpklephelaaDoor Go.Proofs.YtdoegpklephelaaDoor.Name Go.Proofs.YtdoegpklephelaaDoor.Merge Go.Proofs.YtdoegpklephelaaDoor.Worlds Go.Proofs.YtdoegpklephelaaDoor.WorldOrder
set_option linter.unusedVariables false

theorem do_k (K : Int) (hK : wfI K) (x : Wx) (j : Int) (hj : wfI j) (w : World) (hml : ML w) (hx : IsWorld w x) :
    Calls Tryd.prog 27 #[wV x, .agg #[.int .i64 K, .int .i64 0, .int .i64 j, .string ⟨#[]⟩, .slice none 0 0]] w (DoPost (doR x.wd ⟨K, 0, j, [], []⟩) w) :=
  do_any x (⟨K, 0, j, [], []⟩, none, 0, 0) w hml hx ⟨hK, rfl, hj, Nat.zero_le _, rfl, Nat.le_refl _, Nat.zero_le _, SlAt.nil⟩
theorem okW {w v : Wd} {x : Hp} (hw : WOk w) (h : stepR w x = (0, v)) : WOk v := by
  have := step_ok (x := x) hw (by rw [h])
  rwa [h] at this
theorem half {w : World} {x : Wx} (h : IsWorld w x) : IsWorld w ⟨x.vn, x.nodes, x.vc, x.clock, .slice none 0 0, []⟩ := ⟨h.nodes, h.clock, (OwnW.none_ w 0).isWorld.net⟩
set_option maxRecDepth 100000 in
set_option maxHeartbeats 4000000 in
theorem walk0 (W : World) (hml : ML W) (x : Wx) (hx : IsWorld W x) (k : Int) (wk : wfI k) :
    Calls Tryd.prog 9 #[wV x, .int .i64 k] W fun e W' => e = .returned (.bool true) ∧ Below W.heap.size W W' := by
  have HX := Lib.hid hx
  have HML := Lib.hid hml
  obtain ⟨⟨An, cn, hvn, _⟩, ⟨Ac, cc, hvc, _⟩, ⟨At, ct, hvt, _⟩⟩ := hx
  obtain ⟨nl, hnl⟩ : ∃ nl, nl = x.nodes.length := ⟨_, rfl⟩
  obtain ⟨cl, hcl⟩ : ∃ cl, cl = x.clock.length := ⟨_, rfl⟩
  obtain ⟨q, hq⟩ : ∃ q, q = x.net.length := ⟨_, rfl⟩
  rw [← hnl] at hvn
  rw [← hcl] at hvc
  rw [← hq] at hvt
  have hV0 : wV x = .agg #[.slice An nl cn, .slice Ac cl cc, .slice At q ct] := by unfold wV; rw [hvn, hvc, hvt]
  have HV0 := Lib.hid hV0
  have Hq := Lib.hid hq
  have HT : Hid (∀ w, Below W.heap.size W w → Calls _ _ _ w _) := Lib.hid (fun w hb => told_any w (hml.below hb))
  have HCk : Hid (∀ w, Below W.heap.size W w → Calls _ _ _ w _) := Lib.hid (fun w hb => check_world x w (hml.below hb) (HX.out.below hb))
  rw [hV0] at HCk ⊢
  have hk := wfI_bd wk
  obtain ⟨w1, hw1⟩ : ∃ w1, w1 = W.alloc (.cells #[.slice An nl cn, .slice Ac cl cc, .slice At q ct] 46) := ⟨_, rfl⟩
  have hb1 : Below W.heap.size W w1 := by rw [hw1]; exact (Below.refl _ _).alloc (Nat.le_refl _) _
  have HB1 := Lib.hid (show Blk w1 W.heap.size 46 #[.slice An nl cn, .slice Ac cl cc, .slice At q ct] by rw [hw1]; exact Blk.new _ _ _)
  have Hb1 := Lib.hid hb1
  have Hw1 := Lib.hid hw1.symm
  clear hml hvn hvc hvt hnl hcl hq hV0 hw1 hb1
  go_enter Tryd.func9, Tryd.ntmps9
  go_wp2_with fail
  rw [Hw1.out]
  refine (HT.out _ Hb1.out).mono ?_
  rintro e w2 ⟨rfl, hb2⟩
  have Hb2 := Lib.hid (Hb1.out.trans (hb2.mono Hb1.out.size))
  have HB2 := Lib.hid (HB1.out.below hb2 HB1.out.lt)
  obtain ⟨x0, x1, x2⟩ := blk3 HB2.out
  clear hb2 HB1 Hw1
  go_wp2_with fail
  refine (HCk.out _ Hb2.out).mono ?_
  rintro e w3 ⟨rfl, hb3⟩
  have Hb3 := Lib.hid (Hb2.out.trans (hb3.mono Hb2.out.size))
  have HB3 := Lib.hid (HB2.out.below hb3 HB2.out.lt)
  clear hb3 x0 x1 x2 HB2 HCk
  obtain ⟨x0, x1, x2⟩ := blk3 HB3.out
  by_cases he : chkW x.wd = 0
  · rw [he]
    have HW := Lib.hid (chkW_ok.1 he)
    clear he
    by_cases h0 : q = 0
    · subst h0
      go_wp2_with fail
      refine (HT.out _ Hb3.out).mono ?_
      rintro e w4 ⟨rfl, hb4⟩
      have Hb4 := Lib.hid (Hb3.out.trans (hb4.mono Hb3.out.size))
      clear hb4
      go_wp2_with fail
      go_ret
      exact ⟨rfl, Hb4.out⟩
    · by_cases h20 : 20 ≤ q
      · have h20' : (20 : Int) ≤ (q : Int) := by omega
        have h0' : ((q : Int) == 0) = false := by rw [beq_eq_false_iff_ne]; omega
        have h0'' : ¬ (q : Int) = 0 := by omega
        go_wp2_with fail
        refine (HT.out _ Hb3.out).mono ?_
        rintro e w4 ⟨rfl, hb4⟩
        have Hb4 := Lib.hid (Hb3.out.trans (hb4.mono Hb3.out.size))
        clear hb4
        go_wp2_with fail
        go_ret
        exact ⟨rfl, Hb4.out⟩
      · have h20' : ¬ (20 : Int) ≤ (q : Int) := by omega
        have h0' : ((q : Int) == 0) = false := by rw [beq_eq_false_iff_ne]; omega
        have h0'' : ¬ (q : Int) = 0 := by omega
        obtain ⟨kk, hkk, hkq⟩ := nat_mod k q (by omega)
        have HA : Hid (∀ w, Calls Tryd.prog 32 #[.int .i64 k, .int .i64 (q : Int)] w fun e w' => e = .returned (.int .i64 (kk : Int)) ∧ w = w') := Lib.hid (fun w => (at2_any k (q : Int) w hk.1 hk.2 (by omega) (by omega)).mono (fun e w' h => ⟨by rw [h.1, hkk], h.2⟩))
        have hqn : x.wd.net.length = q := by simp only [Wx.wd, List.length_map]; exact Hq.out.symm
        obtain ⟨dd, ht1, ht2, ht3, ht4⟩ := twice HW.out kk (by rw [hqn]; exact hkq) (by rw [hqn]; omega)
        rw [hqn] at ht3 ht4
        have hWd : WOk dd := okW HW.out (ht1 ⟨6, 0, (kk : Int), [], []⟩ rfl rfl)
        have hqd : dd.net.length = q + 1 := by rw [ht2, ← hqn]; simp
        have HDd := Lib.hid (fun w (hb : Below W.heap.size W w) => do_k 6 rfl x (kk : Int) (wfI_nat kk (by omega)) w (HML.out.below hb) (HX.out.below hb))
        rw [HV0.out, do_2 (chkW_ok.2 HW.out), ht1 ⟨6, 0, (kk : Int), [], []⟩ rfl rfl] at HDd
        have HDl := Lib.hid (fun (y : Wx) (hy : y.wd = dd) w (hb : Below W.heap.size W w) (hw : IsWorld w y) => (show Calls _ _ _ w (DoPost (0, x.wd) w) from by
          have := do_k 5 rfl y (q : Int) (wfI_nat q (by omega)) w (HML.out.below hb) hw
          rwa [hy, do_2 (chkW_ok.2 hWd), ht3 ⟨5, 0, (q : Int), [], []⟩ rfl rfl] at this))
        have HDo := Lib.hid (fun w (hb : Below W.heap.size W w) => do_k 4 rfl x (kk : Int) (wfI_nat kk (by omega)) w (HML.out.below hb) (HX.out.below hb))
        rw [HV0.out, do_arr_eq HW.out kk (by rw [hqn]; exact hkq)] at HDo
        have Hhalf : Hid (dd.nodes = x.wd.nodes ∧ dd.clock = x.wd.clock) := Lib.hid (by rw [ht2]; exact ⟨rfl, rfl⟩)
        have HE := Lib.hid (arr_err x.wd kk)
        have HTw : Hid (∀ once, arriveR x.wd kk = (0, once) → ∃ t, WOk t ∧ t.net.length = q ∧ arriveR dd q = (0, t) ∧ arriveR t kk = (0, once)) := Lib.hid (fun once ho => by
          obtain ⟨t, h1, h2, h3⟩ := ht4 once ho
          exact ⟨t, arr_ok hWd q (by rw [hqd]; omega) h1, h2, h1, h3⟩)
        have HDt := Lib.hid (fun (y : Wx) (hy : y.wd = dd) t (ht : arriveR dd q = (0, t)) w (hb : Below W.heap.size W w) (hw : IsWorld w y) => (show Calls _ _ _ w (DoPost (0, t) w) from by
          have := do_k 4 rfl y (q : Int) (wfI_nat q (by omega)) w (HML.out.below hb) hw
          rwa [hy, do_arr_eq hWd q (by rw [hqd]; omega), ht] at this))
        have HDu := Lib.hid (fun (y : Wx) t (hy : y.wd = t) (hWt : WOk t) (hq : t.net.length = q) once (ht : arriveR t kk = (0, once)) w (hb : Below W.heap.size W w) (hw : IsWorld w y) => (show Calls _ _ _ w (DoPost (0, once) w) from by
          have := do_k 4 rfl y (kk : Int) (wfI_nat kk (by omega)) w (HML.out.below hb) hw
          rwa [hy, do_arr_eq hWt kk (by rw [hq]; exact hkq), ht] at this))
        clear hkk hk HT ht1 ht2 ht3 ht4 hqn hWd hqd h0
        go_wp2_with fail
        refine (HA.out _).mono ?_
        rintro e wA ⟨rfl, rfl⟩
        have HGx := HB3
        have HXx := Lib.hid (HX.out.below Hb3.out)
        go_wp2_with fail
        refine (HDd.out _ Hb3.out).mono ?_
        rintro e w5 ⟨yd, rfl, hyd, hydd, hb5⟩
        obtain ⟨A1, B1, C1, A2, B2, C2, A3, B3, C3, hVyd⟩ := Worlds.OwnW.agg' hyd
        have hba : Below w5.heap.size w5 (w5.alloc (.cells #[.slice A1 B1 C1, .slice A2 B2 C2, .slice A3 B3 C3] 46)) := (Below.refl _ _).alloc (Nat.le_refl _) _
        have Hb5 := Lib.hid ((Hb3.out.trans (hb5.mono Hb3.out.size)).trans (hba.mono (by have := Hb3.out.size; have := hb5.size; omega)))
        have HGxm := Lib.hid (HGx.out.below hb5 HGx.out.lt)
        have HGx := Lib.hid (HGxm.out.below hba HGxm.out.lt)
        have HYyd := Lib.hid ((hyd.below hba).base_ Hb3.out.size)
        have Hdyd := Lib.hid hydd
        have HVyd := Lib.hid hVyd
        have HG5 := Lib.hid (Blk.new w5 46 #[.slice A1 B1 C1, .slice A2 B2 C2, .slice A3 B3 C3])
        have Hl5 : Hid (W.heap.size ≤ w5.heap.size) := Lib.hid (by have := Hb3.out.size; have := hb5.size; omega)
        rw [hVyd]
        (try dsimp only)
        clear hyd hydd hb5 hba hVyd
        clear x0 x1 x2 HB3 HA HDd
        obtain ⟨x0, x1, x2⟩ := blk3 HGxm.out
        have HDl1 := Lib.hid (HDl.out yd Hdyd.out _ Hb5.out HYyd.out.isWorld)
        rw [HVyd.out] at HDl1
        have hl5 := HGxm.out.lt
        go_wp2_with fail
        refine (HDl1.out).mono ?_
        rintro e w7 ⟨yl, rfl, hyl, hyld, hb7⟩
        obtain ⟨D1, E1, F1, D2, E2, F2, D3, E3, F3, hVyl⟩ := Worlds.OwnW.agg' hyl
        have hba : Below w7.heap.size w7 (w7.alloc (.cells #[.slice D1 E1 F1, .slice D2 E2 F2, .slice D3 E3 F3] 46)) := (Below.refl _ _).alloc (Nat.le_refl _) _
        have Hb7 := Lib.hid ((Hb5.out.trans (hb7.mono Hb5.out.size)).trans (hba.mono (by have := Hb5.out.size; have := hb7.size; omega)))
        have HGxm := Lib.hid (HGx.out.below hb7 HGx.out.lt)
        have HGx := Lib.hid (HGxm.out.below hba HGxm.out.lt)
        have HG5m := Lib.hid (HG5.out.below hb7 HG5.out.lt)
        have HG5 := Lib.hid (HG5m.out.below hba HG5m.out.lt)
        have HYyd := Lib.hid ((HYyd.out.below hb7).below hba)
        have HYyl := Lib.hid ((hyl.below hba).base_ Hb5.out.size)
        have Hdyl := Lib.hid hyld
        have HVyl := Lib.hid hVyl
        have HG7 := Lib.hid (Blk.new w7 46 #[.slice D1 E1 F1, .slice D2 E2 F2, .slice D3 E3 F3])
        have Hl7 : Hid (W.heap.size ≤ w7.heap.size) := Lib.hid (by have := Hb5.out.size; have := hb7.size; omega)
        rw [hVyl]
        (try dsimp only)
        clear hyl hyld hb7 hba hVyl
        clear x0 x1 x2 hl5 HDl HDl1
        have hneg1 := HG5m.out.lt
        obtain ⟨g5, hg5⟩ : ∃ g, g = w5.heap.size := ⟨_, rfl⟩
        rw [← hg5] at HG5 HG5m Hl5 hneg1
        have Hg5 := Lib.hid hg5.symm
        clear hg5
        obtain ⟨x0, x1, x2⟩ := blk3 HGxm.out
        obtain ⟨u0, u1, u2⟩ := blk3 HG5m.out
        have HXx7 := Lib.hid (HX.out.below Hb7.out)
        have HS1 := Lib.hid (sameWorld_eq yl x _ HYyl.out.isWorld HXx7.out Hdyl.out)
        rw [HVyl.out, HV0.out] at HS1
        have hlx := HGxm.out.lt
        rw [Hg5.out]
        go_wp2_with fail
        refine (HS1.out).mono ?_
        rintro e w8 ⟨rfl, hb8⟩
        have Hb8 := Lib.hid (Hb7.out.trans (hb8.mono Hb7.out.size))
        have HGx := Lib.hid (HGx.out.below hb8 HGx.out.lt)
        have HG5 := Lib.hid (HG5.out.below hb8 HG5.out.lt)
        have HYyd := Lib.hid (HYyd.out.below hb8)
        have HXx8 := Lib.hid (HX.out.below Hb8.out)
        clear hb8 x0 x1 x2 u0 u1 u2 HS1 hlx hneg1 HGxm HG5m HXx7 HXx HG7 Hl7 HYyl Hdyl HVyl
        obtain ⟨x0, x1, x2⟩ := blk3 HGx.out
        obtain ⟨u0, u1, u2⟩ := blk3 HG5.out
        have HS2 := Lib.hid (sameWorld_eq ⟨yd.vn, yd.nodes, yd.vc, yd.clock, .slice none 0 0, []⟩ ⟨x.vn, x.nodes, x.vc, x.clock, .slice none 0 0, []⟩ w8 (half HYyd.out.isWorld) (half HXx8.out) (by
          have h1 := Hdyd.out
          have h2 := Hhalf.out
          rw [← h1] at h2
          simp only [Wx.wd] at h2 ⊢
          rw [h2.1, h2.2]))
        have hvd := HVyd.out
        have hvx := HV0.out
        unfold wV at hvd hvx
        injection hvd with hvd
        injection hvx with hvx
        simp only [Array.mk.injEq, List.cons.injEq, and_true] at hvd hvx
        unfold wV at HS2
        dsimp only at HS2
        rw [hvd.1, hvd.2.1, hvx.1, hvx.2.1] at HS2
        clear hvd hvx
        go_wp2_with fail
        refine (HS2.out).mono ?_
        rintro e w9 ⟨rfl, hb9⟩
        have Hb9 := Lib.hid (Hb8.out.trans (hb9.mono Hb8.out.size))
        have HGx := Lib.hid (HGx.out.below hb9 HGx.out.lt)
        have HG5 := Lib.hid (HG5.out.below hb9 HG5.out.lt)
        have HYyd := Lib.hid (HYyd.out.below hb9)
        clear hb9 x0 x1 x2 u0 u1 u2 HS2 Hhalf HXx8
        obtain ⟨⟨eo, do_⟩, hro⟩ : ∃ p, p = arriveR x.wd kk := ⟨_, rfl⟩
        rw [← hro] at HDo HE HTw
        clear hro
        obtain ⟨x0, x1, x2⟩ := blk3 HGx.out
        go_wp2_with fail
        refine (HDo.out _ Hb9.out).mono ?_
        rintro e w11 ⟨yo, rfl, hyo, hyod, hb11⟩
        obtain ⟨G1, H1, I1, G2, H2, I2, G3, H3, I3, hVyo⟩ := Worlds.OwnW.agg' hyo
        have hba : Below w11.heap.size w11 (w11.alloc (.cells #[.slice G1 H1 I1, .slice G2 H2 I2, .slice G3 H3 I3] 46)) := (Below.refl _ _).alloc (Nat.le_refl _) _
        have Hb11 := Lib.hid ((Hb9.out.trans (hb11.mono Hb9.out.size)).trans (hba.mono (by have := Hb9.out.size; have := hb11.size; omega)))
        have HGxm := Lib.hid (HGx.out.below hb11 HGx.out.lt)
        have HGx := Lib.hid (HGxm.out.below hba HGxm.out.lt)
        have HG5m := Lib.hid (HG5.out.below hb11 HG5.out.lt)
        have HG5 := Lib.hid (HG5m.out.below hba HG5m.out.lt)
        have HYyd := Lib.hid ((HYyd.out.below hb11).below hba)
        have HYyo := Lib.hid ((hyo.below hba).base_ Hb9.out.size)
        have Hdyo := Lib.hid hyod
        have HVyo := Lib.hid hVyo
        have HG9 := Lib.hid (Blk.new w11 46 #[.slice G1 H1 I1, .slice G2 H2 I2, .slice G3 H3 I3])
        have Hl9 : Hid (W.heap.size ≤ w11.heap.size) := Lib.hid (by have := Hb9.out.size; have := hb11.size; omega)
        rw [hVyo]
        (try dsimp only)
        clear hyo hyod hb11 hba hVyo
        clear x0 x1 x2 HDo
        rcases HE.out with he | he
        · (try dsimp only at he)
          subst he
          obtain ⟨t, hWt, hqt, ht1, ht2⟩ := HTw.out do_ rfl
          have HDt1 := Lib.hid (HDt.out yd Hdyd.out t ht1 _ Hb11.out HYyd.out.isWorld)
          rw [HVyd.out] at HDt1
          have Ht := Lib.hid (And.intro hWt (And.intro hqt ht2))
          have hl5 := HG5m.out.lt
          have hlx := HGxm.out.lt
          clear hWt hqt ht1 ht2 HTw HDt HE
          obtain ⟨u0, u1, u2⟩ := blk3 HG5m.out
          obtain ⟨x0, x1, x2⟩ := blk3 HGxm.out
          go_wp2_with fail
          refine (HDt1.out).mono ?_
          rintro e w13 ⟨yt, rfl, hyt, hytd, hb13⟩
          obtain ⟨J1, K1, L1, J2, K2, L2, J3, K3, L3, hVyt⟩ := Worlds.OwnW.agg' hyt
          have hba : Below w13.heap.size w13 (w13.alloc (.cells #[.slice J1 K1 L1, .slice J2 K2 L2, .slice J3 K3 L3] 46)) := (Below.refl _ _).alloc (Nat.le_refl _) _
          have Hb13 := Lib.hid ((Hb11.out.trans (hb13.mono Hb11.out.size)).trans (hba.mono (by have := Hb11.out.size; have := hb13.size; omega)))
          have HG9m := Lib.hid (HG9.out.below hb13 HG9.out.lt)
          have HG9 := Lib.hid (HG9m.out.below hba HG9m.out.lt)
          have HYyo := Lib.hid ((HYyo.out.below hb13).below hba)
          have HYyt := Lib.hid ((hyt.below hba).base_ Hb11.out.size)
          have Hdyt := Lib.hid hytd
          have HVyt := Lib.hid hVyt
          have HG10 := Lib.hid (Blk.new w13 46 #[.slice J1 K1 L1, .slice J2 K2 L2, .slice J3 K3 L3])
          have Hl10 : Hid (W.heap.size ≤ w13.heap.size) := Lib.hid (by have := Hb11.out.size; have := hb13.size; omega)
          rw [hVyt]
          (try dsimp only)
          clear hyt hytd hb13 hba hVyt
          clear u0 u1 u2 x0 x1 x2 hl5 hlx HDt1
          have HDu1 := Lib.hid (HDu.out yt t Hdyt.out Ht.out.1 Ht.out.2.1 do_ Ht.out.2.2 _ Hb13.out HYyt.out.isWorld)
          rw [HVyt.out] at HDu1
          obtain ⟨g9, hg9⟩ : ∃ g, g = w11.heap.size := ⟨_, rfl⟩
          obtain ⟨g10, hg10⟩ : ∃ g, g = w13.heap.size := ⟨_, rfl⟩
          have hne : g9 ≠ g10 := by have := HG9m.out.lt; omega
          rw [← hg9] at HG9 HG9m
          rw [← hg10] at HG10 Hl10
          have Hg9 := Lib.hid hg9.symm
          have Hg10 := Lib.hid hg10.symm
          clear hg9 hg10 HG9m
          go_wp2_with fail
          rw [Hg9.out, Hg10.out]
          refine (HDu1.out).mono ?_
          rintro e w15 ⟨yu, rfl, hyu, hyud, hb15⟩
          obtain ⟨M1, N1, O1, M2, N2, O2, M3, N3, O3, hVyu⟩ := Worlds.OwnW.agg' hyu
          have Hb15 := Lib.hid (Hb13.out.trans (hb15.mono Hb13.out.size))
          have HG9 := Lib.hid (HG9.out.below hb15 HG9.out.lt)
          have HG10 := Lib.hid (HG10.out.below hb15 HG10.out.lt)
          have HYyo := Lib.hid (HYyo.out.below hb15)
          have HYyu := Lib.hid (hyu.base_ Hb13.out.size)
          have HO16 := Lib.hid (own_set3 (a := .slice M1 N1 O1) (b := .slice M2 N2 O2) (c := .slice M3 N3 O3) HYyo.out HG10.out)
          have HU16 := Lib.hid (own_set3 (a := .slice M1 N1 O1) (b := .slice M2 N2 O2) (c := .slice M3 N3 O3) HYyu.out HG10.out)
          have Hb16 := Lib.hid (below_set3 (a := .slice M1 N1 O1) (b := .slice M2 N2 O2) (c := .slice M3 N3 O3) Hb15.out Hl10.out)
          have HS3 := Lib.hid (sameWorld_eq yo yu _ HO16.out.isWorld HU16.out.isWorld (by rw [Hdyo.out, hyud]))
          rw [HVyo.out, hVyu] at HS3
          rw [hVyu]
          (try dsimp only)
          clear hyu hyud hb15 hVyu HDu1
          obtain ⟨u0, u1, u2⟩ := blk3 HG9.out
          obtain ⟨v0, v1, v2⟩ := blk3 HG10.out
          have fv0 := HG10.out.frozen 0
          have fv1 := HG10.out.frozen 1
          have fv2 := HG10.out.frozen 2
          go_wp2_with fail
          refine (HS3.out).mono ?_
          rintro e w17 ⟨rfl, hb17⟩
          have Hb17 := Lib.hid (Hb16.out.trans (hb17.mono Hb16.out.size))
          clear hb17
          go_wp2_with fail
          go_ret
          exact ⟨rfl, Hb17.out⟩
        · obtain ⟨rfl, rfl⟩ := Prod.mk.inj he
          go_wp2_with fail
          go_ret
          exact ⟨rfl, Hb11.out⟩
  · obtain ⟨z, hz⟩ : ∃ z, z = chkW x.wd := ⟨_, rfl⟩
    rw [← hz] at he ⊢
    have hz1 : (z != 0) = true := by simpa using he
    clear hz he
    go_wp2_with fail
    refine (HT.out _ Hb3.out).mono ?_
    rintro e w4 ⟨rfl, hb4⟩
    have Hb4 := Lib.hid (Hb3.out.trans (hb4.mono Hb3.out.size))
    clear hb4
    go_wp2_with fail
    go_ret
    exact ⟨rfl, Hb4.out⟩
theorem walk (W : World) (hml : ML W) (v : Value) (x : Wx) (hx : v = wV x ∧ IsWorld W x) (k : Int) (wk : wfI k) :
    Calls Tryd.prog 9 #[v, .int .i64 k] W fun e W' => e = .returned (.bool true) ∧ Below W.heap.size W W' := by
  obtain ⟨rfl, hx⟩ := hx
  exact walk0 W hml x hx k wk
end Go.Proofs.YtdoegpklephelaaDoor.WorldNet
