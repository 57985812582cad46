/- reliquarylaw.WorldOrder: the walk. -/
import Derived.Test.YtdoegpklephelaaDoorWorldTop
import Derived.Test.YtdoegpklephelaaDoorAt2
namespace Go.Proofs.YtdoegpklephelaaDoor.WorldOrder
open Go Go.RowKit Go.Proofs.YtdoegpklephelaaDoor Go.Proofs.YtdoegpklephelaaDoor.Name Go.Proofs.YtdoegpklephelaaDoor.Merge Go.Proofs.YtdoegpklephelaaDoor.Worlds
set_option linter.unusedVariables false

theorem do_arr_eq {w : Wd} (hw : WOk w) (k : Nat) (hk : k < w.net.length) : doR w ⟨4, 0, (k : Int), [], []⟩ = arriveR w k := (do_2 (chkW_ok.2 hw)).trans (arr_eq w k hk _ rfl rfl)
theorem arr_ok {w a : Wd} (hw : WOk w) (k : Nat) (hk : k < w.net.length) (h : arriveR w k = (0, a)) : WOk a := by
  have e := arr_eq w k hk ⟨4, 0, (k : Int), [], []⟩ rfl rfl
  have := step_ok (x := ⟨4, 0, (k : Int), [], []⟩) hw (by rw [e, h])
  rwa [e, h] at this
theorem do_arr (x : Wx) (j : Int) (hj : wfI j) (w : World) (hml : ML w) (hx : IsWorld w x) :
    Calls Tryd.prog 27 #[wV x, .agg #[.int .i64 4, .int .i64 0, .int .i64 j, .string ⟨#[]⟩, .slice none 0 0]] w (DoPost (doR x.wd ⟨4, 0, j, [], []⟩) w) :=
  do_any x (⟨4, 0, j, [], []⟩, none, 0, 0) w hml hx ⟨rfl, rfl, hj, Nat.zero_le _, rfl, Nat.le_refl _, Nat.zero_le _, SlAt.nil⟩
theorem nat_mod (i : Int) (q : Nat) (hq : 0 < q) : ∃ ii : Nat, i % (q : Int) = (ii : Int) ∧ ii < q := by
  have h1 := Int.emod_nonneg i (show (q : Int) ≠ 0 by omega)
  have h2 := Int.emod_lt_of_pos i (show 0 < (q : Int) by omega)
  exact ⟨(i % (q : Int)).toNat, by omega, by omega⟩
theorem wfI_bd {i : Int} (h : wfI i) : -9223372036854775808 ≤ i ∧ i ≤ 9223372036854775807 := by
  simp only [wfI, Lit.wf, IntKind.min, IntKind.max, IntKind.signed, IntKind.bits] at h
  simp at h; omega
theorem wfI_nat (n : Nat) (h : n ≤ 1000000) : wfI (n : Int) := wf_mk (by omega) (by omega)
section
variable {w w0 : World} {base g g' : Nat} {a b c p q r : Value} {t' : TypeId} {cs : Array Value} {z : Wx}
theorem own_set3 (h : OwnW w base z) (hg : Blk w g 46 #[p, q, r]) : OwnW (((w.setCell ⟨g, 0, none⟩ a).setCell ⟨g, 1, none⟩ b).setCell ⟨g, 2, none⟩ c) base z :=
  ((h.set_ hg (by decide) (by decide) (by decide) (by decide) (by decide) 0 a).set_ (hg.set_ 0 a) (by decide) (by decide) (by decide) (by decide) (by decide) 1 b).set_ ((hg.set_ 0 a).set_ 1 b) (by decide) (by decide) (by decide) (by decide) (by decide) 2 c
theorem blk_set3 (hg : Blk w g 46 #[p, q, r]) : Blk (((w.setCell ⟨g, 0, none⟩ a).setCell ⟨g, 1, none⟩ b).setCell ⟨g, 2, none⟩ c) g 46 #[a, b, c] := ((hg.set_ 0 a).set_ 1 b).set_ 2 c
theorem blk_far3 (hg : Blk w g' t' cs) (hne : g' ≠ g) : Blk (((w.setCell ⟨g, 0, none⟩ a).setCell ⟨g, 1, none⟩ b).setCell ⟨g, 2, none⟩ c) g' t' cs := ((hg.far (p := ⟨g, 0, none⟩) hne a).far (p := ⟨g, 1, none⟩) hne b).far (p := ⟨g, 2, none⟩) hne c
theorem below_set3 (h : Below base w0 w) (hg : base ≤ g) : Below base w0 (((w.setCell ⟨g, 0, none⟩ a).setCell ⟨g, 1, none⟩ b).setCell ⟨g, 2, none⟩ c) :=
  ((h.setCell (show base ≤ (⟨g, 0, none⟩ : Addr).block from hg) a).setCell (show base ≤ (⟨g, 1, none⟩ : Addr).block from hg) b).setCell (show base ≤ (⟨g, 2, none⟩ : Addr).block from hg) c
end
theorem _root_.Go.Proofs.YtdoegpklephelaaDoor.Worlds.OwnW.agg' {w : World} {base : Nat} {y : Wx} (h : OwnW w base y) : ∃ A1 n1 c1 A2 n2 c2 A3 n3 c3, wV y = .agg #[.slice A1 n1 c1, .slice A2 n2 c2, .slice A3 n3 c3] := by
  obtain ⟨A1, c1, A2, c2, A3, c3, h1, h2, h3⟩ := h.sl
  exact ⟨A1, _, c1, A2, _, c2, A3, _, c3, by unfold wV; rw [h1, h2, h3]⟩
set_option maxRecDepth 100000 in
set_option maxHeartbeats 4000000 in
theorem walk0 (W : World) (hml : ML W) (x : Wx) (hx : IsWorld W x) (i k : Int) (wi : wfI i) (wk : wfI k) :
    Calls Tryd.prog 8 #[wV x, .int .i64 i, .int .i64 k] W fun e W' => e = .returned (.bool true) ∧ Below W.heap.size W W' := by
  have HX := Lib.hid hx
  have HML := Lib.hid hml
  obtain ⟨⟨An, cn, hvn, _⟩, ⟨Ac, cc, hvc, _⟩, ⟨At, ct, hvt, _⟩⟩ := hx
  obtain ⟨nl, hnl⟩ : ∃ nl, nl = x.nodes.length := ⟨_, rfl⟩
  obtain ⟨cl, hcl⟩ : ∃ cl, cl = x.clock.length := ⟨_, rfl⟩
  obtain ⟨q, hq⟩ : ∃ q, q = x.net.length := ⟨_, rfl⟩
  rw [← hnl] at hvn
  rw [← hcl] at hvc
  rw [← hq] at hvt
  have hV0 : wV x = .agg #[.slice An nl cn, .slice Ac cl cc, .slice At q ct] := by unfold wV; rw [hvn, hvc, hvt]
  have HV0 := Lib.hid hV0
  have Hq := Lib.hid hq
  have HT : Hid (∀ w, Below W.heap.size W w → Calls _ _ _ w _) := Lib.hid (fun w hb => told_any w (hml.below hb))
  have HCk : Hid (∀ w, Below W.heap.size W w → Calls _ _ _ w _) := Lib.hid (fun w hb => check_world x w (hml.below hb) (HX.out.below hb))
  rw [hV0] at HCk ⊢
  have hi := wfI_bd wi
  have hk := wfI_bd wk
  obtain ⟨w1, hw1⟩ : ∃ w1, w1 = W.alloc (.cells #[.slice An nl cn, .slice Ac cl cc, .slice At q ct] 46) := ⟨_, rfl⟩
  have hb1 : Below W.heap.size W w1 := by rw [hw1]; exact (Below.refl _ _).alloc (Nat.le_refl _) _
  have HB1 := Lib.hid (show Blk w1 W.heap.size 46 #[.slice An nl cn, .slice Ac cl cc, .slice At q ct] by rw [hw1]; exact Blk.new _ _ _)
  have Hb1 := Lib.hid hb1
  have Hw1 := Lib.hid hw1.symm
  clear hml hvn hvc hvt hnl hcl hq hV0 hw1 hb1
  go_enter Tryd.func8, Tryd.ntmps8
  go_wp2_with fail
  rw [Hw1.out]
  refine (HT.out _ Hb1.out).mono ?_
  rintro e w2 ⟨rfl, hb2⟩
  have Hb2 := Lib.hid (Hb1.out.trans (hb2.mono Hb1.out.size))
  have HB2 := Lib.hid (HB1.out.below hb2 HB1.out.lt)
  obtain ⟨x0, x1, x2⟩ := blk3 HB2.out
  clear hb2 HB1 Hw1
  go_wp2_with fail
  refine (HCk.out _ Hb2.out).mono ?_
  rintro e w3 ⟨rfl, hb3⟩
  have Hb3 := Lib.hid (Hb2.out.trans (hb3.mono Hb2.out.size))
  have HB3 := Lib.hid (HB2.out.below hb3 HB2.out.lt)
  clear hb3 x0 x1 x2 HB2 HCk
  obtain ⟨x0, x1, x2⟩ := blk3 HB3.out
  by_cases he : chkW x.wd = 0
  · rw [he]
    have HW := Lib.hid (chkW_ok.1 he)
    clear he
    by_cases h2 : q < 2
    · have h2' : (q : Int) < 2 := by omega
      go_wp2_with fail
      refine (HT.out _ Hb3.out).mono ?_
      rintro e w4 ⟨rfl, hb4⟩
      have Hb4 := Lib.hid (Hb3.out.trans (hb4.mono Hb3.out.size))
      clear hb4
      go_wp2_with fail
      go_ret
      exact ⟨rfl, Hb4.out⟩
    · have h2' : ¬ (q : Int) < 2 := by omega
      have hq20 : q ≤ 20 := by have := HW.out.net; simp only [Wx.wd, List.length_map] at this; rw [Hq.out]; exact this
      obtain ⟨ii, hii, hiq⟩ := nat_mod i q (by omega)
      obtain ⟨kk, hkk, hkq⟩ := nat_mod k q (by omega)
      have HA1 : Hid (∀ w, Calls Tryd.prog 32 #[.int .i64 i, .int .i64 (q : Int)] w fun e w' => e = .returned (.int .i64 (ii : Int)) ∧ w' = w) := Lib.hid (fun w => (at2_any i (q : Int) w hi.1 hi.2 (by omega) (by omega)).mono (fun e w' h => ⟨by rw [h.1, hii], h.2.symm⟩))
      have HA2 : Hid (∀ w, Calls Tryd.prog 32 #[.int .i64 k, .int .i64 (q : Int)] w fun e w' => e = .returned (.int .i64 (kk : Int)) ∧ w' = w) := Lib.hid (fun w => (at2_any k (q : Int) w hk.1 hk.2 (by omega) (by omega)).mono (fun e w' h => ⟨by rw [h.1, hkk], h.2.symm⟩))
      clear hii hkk hi hk HT
      have p2 := pcell HB3.out 2 _ rfl
      go_wp2_with fail
      refine wp_region_below (by kernel_rfl) (by kernel_rfl) ?_
      repeat (quiet_step (first | (with_reducible exact belowBy_same (HA1.out _)) | (with_reducible exact belowBy_same (HA2.out _))))
      refine wpQuiet_nil ?_
      intro w4 hq4
      have hb4 : Below w3.heap.size w3 w4 := by obtain ⟨p, hp⟩ := hq4; rw [hp]; exact p.h
      have Hb4 := Lib.hid (Hb3.out.trans (hb4.mono Hb3.out.size))
      have HB4 := Lib.hid (HB3.out.below hb4 HB3.out.lt)
      clear hq4 hb4 p2 HA1 HA2 Hb3 HB3 Hb2 Hb1 x0 x1 x2
      obtain ⟨x0, x1, x2⟩ := blk3 HB4.out
      by_cases hik : ii = kk
      · subst hik
        go_wp2_with fail
        go_ret
        exact ⟨rfl, Hb4.out⟩
      · have hik1 : ((ii : Int) == (kk : Int)) = false := by rw [beq_eq_false_iff_ne]; omega
        have hik2 : decide ((ii : Int) = (kk : Int)) = false := decide_eq_false (by omega)
        have hik3 : ¬ (ii : Int) = (kk : Int) := by omega
        obtain ⟨lo, hi, hlh, hhq, hcase⟩ : ∃ lo hi : Nat, lo < hi ∧ hi < q ∧ ((ii < kk ∧ lo = ii ∧ hi = kk) ∨ (kk < ii ∧ lo = kk ∧ hi = ii)) := by
          rcases Nat.lt_or_gt_of_ne hik with h | h
          · exact ⟨ii, kk, h, hkq, .inl ⟨h, rfl, rfl⟩⟩
          · exact ⟨kk, ii, h, hiq, .inr ⟨h, rfl, rfl⟩⟩
        have hloq : lo < x.wd.net.length := by simp only [Wx.wd, List.length_map]; rw [← Hq.out]; omega
        have hhiq : hi < x.wd.net.length := by simp only [Wx.wd, List.length_map]; rw [← Hq.out]; omega
        have HE1 := Lib.hid (do_arr_eq HW.out lo hloq)
        have HE2 := Lib.hid (do_arr_eq HW.out hi hhiq)
        have HOr := Lib.hid (fun a b h1 h2 => order (a := a) (b := b) HW.out lo hi hlh hhiq h1 h2)
        have HOa := Lib.hid (fun a h => arr_ok (a := a) HW.out lo hloq h)
        have HOb := Lib.hid (fun b h => arr_ok (a := b) HW.out hi hhiq h)
        have HR1 := Lib.hid (arr_err x.wd lo)
        have HR2 := Lib.hid (arr_err x.wd hi)
        have Hqn : Hid (x.wd.net.length = q) := Lib.hid (by simp only [Wx.wd, List.length_map]; exact Hq.out.symm)
        have HD1 := Lib.hid (fun w (hb : Below W.heap.size W w) => do_arr x lo (wfI_nat lo (by omega)) w (HML.out.below hb) (HX.out.below hb))
        have HD2 := Lib.hid (fun w (hb : Below W.heap.size W w) => do_arr x hi (wfI_nat hi (by omega)) w (HML.out.below hb) (HX.out.below hb))
        rw [HV0.out, HE1.out] at HD1
        rw [HV0.out, HE2.out] at HD2
        have hl4 := HB4.out.lt
        clear hloq hhiq hik HE1 HE2
        obtain ⟨⟨ea, da⟩, hra⟩ : ∃ p, p = arriveR x.wd lo := ⟨_, rfl⟩
        obtain ⟨⟨eb, db⟩, hrb⟩ : ∃ p, p = arriveR x.wd hi := ⟨_, rfl⟩
        rw [← hra] at HD1 HOr HOa HR1
        rw [← hrb] at HD2 HOr HOb HR2
        clear hra hrb
        rcases hcase with ⟨h, rfl, rfl⟩ | ⟨h, rfl, rfl⟩
        · have hgt : ¬ (hi : Int) < (lo : Int) := by omega
          go_wp2_with fail
          refine (HD1.out _ Hb4.out).mono ?_
          rintro e w5 ⟨y1, rfl, hy1, hyd1, hb5⟩
          obtain ⟨A1, n1, c1, A2, n2, c2, A3, n3, c3, hV1⟩ := Worlds.OwnW.agg' hy1
          have hb6 : Below w5.heap.size w5 (w5.alloc (.cells #[.slice A1 n1 c1, .slice A2 n2 c2, .slice A3 n3 c3] 46)) := (Below.refl _ _).alloc (Nat.le_refl _) _
          have Hb6 := Lib.hid ((Hb4.out.trans (hb5.mono Hb4.out.size)).trans (hb6.mono (by have := Hb4.out.size; have := hb5.size; omega)))
          have HB5 := Lib.hid (HB4.out.below hb5 HB4.out.lt)
          have HB6 := Lib.hid (HB5.out.below hb6 HB5.out.lt)
          have HY1 := Lib.hid ((hy1.below hb6).base_ Hb4.out.size)
          have Hyd1 := Lib.hid hyd1
          have HV1 := Lib.hid hV1
          have HG7 := Lib.hid (Blk.new w5 46 #[.slice A1 n1 c1, .slice A2 n2 c2, .slice A3 n3 c3])
          have HD2' := Lib.hid (HD2.out _ Hb6.out)
          have hl5 := HB5.out.lt
          have Hg7b : Hid (W.heap.size ≤ w5.heap.size) := Lib.hid (by have := Hb4.out.size; have := hb5.size; omega)
          rw [hV1]
          (try dsimp only at hyd1)
          (try dsimp only)
          clear hy1 hyd1 hb5 hb6 hV1 HD1 HD2 x0 x1 x2
          obtain ⟨x0, x1, x2⟩ := blk3 HB5.out
          go_wp2_with fail
          refine (HD2'.out).mono ?_
          rintro e w7 ⟨y2, rfl, hy2, hyd2, hb7⟩
          obtain ⟨B1, m1, d1, B2, m2, d2, B3, m3, d3, hV2⟩ := Worlds.OwnW.agg' hy2
          have hb8 : Below w7.heap.size w7 (w7.alloc (.cells #[.slice B1 m1 d1, .slice B2 m2 d2, .slice B3 m3 d3] 46)) := (Below.refl _ _).alloc (Nat.le_refl _) _
          have Hb8 := Lib.hid ((Hb6.out.trans (hb7.mono Hb6.out.size)).trans (hb8.mono (by have := Hb6.out.size; have := hb7.size; omega)))
          have HG77 := Lib.hid (HG7.out.below hb7 HG7.out.lt)
          have HG78 := Lib.hid (HG77.out.below hb8 HG77.out.lt)
          have HY18 := Lib.hid ((HY1.out.below hb7).below hb8)
          have HY2 := Lib.hid ((hy2.below hb8).base_ Hb6.out.size)
          have Hyd2 := Lib.hid hyd2
          have HV2 := Lib.hid hV2
          have HG9 := Lib.hid (Blk.new w7 46 #[.slice B1 m1 d1, .slice B2 m2 d2, .slice B3 m3 d3])
          have Hg79 : Hid (w5.heap.size ≠ w7.heap.size) := Lib.hid (by have := HG77.out.lt; omega)
          have Hg9b : Hid (W.heap.size ≤ w7.heap.size) := Lib.hid (by have := Hb6.out.size; have := hb7.size; omega)
          rw [hV2]
          (try dsimp only at hyd2)
          (try dsimp only)
          clear hy2 hyd2 hb7 hb8 hV2 HD2' x0 x1 x2 hl5
          obtain ⟨g7, hg7⟩ : ∃ g7, g7 = w5.heap.size := ⟨_, rfl⟩
          obtain ⟨g9, hg9⟩ : ∃ g9, g9 = w7.heap.size := ⟨_, rfl⟩
          rw [← hg7] at HG77 HG78 Hg79 Hg7b
          rw [← hg9] at HG9 Hg79 Hg9b
          have Hg7e := Lib.hid hg7.symm
          have Hg9e := Lib.hid hg9.symm
          clear hg7 hg9
          rcases HR1.out with h1 | h1
          · (try dsimp only at h1)
            subst h1
            rcases HR2.out with h2 | h2
            · (try dsimp only at h2)
              subst h2
              have HO := Lib.hid (HOr.out da db rfl rfl)
              have HWa := Lib.hid (HOa.out da rfl)
              have HWb := Lib.hid (HOb.out db rfl)
              clear HOr HOa HOb HR1 HR2
              have hcast : ((hi : Int) - 1) = (((hi - 1 : Nat)) : Int) := by omega
              have HE3 := Lib.hid (do_arr_eq HWa.out (hi - 1) (by rw [HO.out.2.1, Hqn.out]; omega))
              have HE4 := Lib.hid (do_arr_eq HWb.out lo (by rw [HO.out.2.2, Hqn.out]; omega))
              have HD3 := Lib.hid (fun w (hb : Below W.heap.size W w) (hw : IsWorld w y1) => do_arr y1 ((hi : Int) - 1) (by rw [hcast]; exact wfI_nat _ (by omega)) w (HML.out.below hb) hw)
              have HD4 := Lib.hid (fun w (hb : Below W.heap.size W w) (hw : IsWorld w y2) => do_arr y2 lo (wfI_nat lo (by omega)) w (HML.out.below hb) hw)
              rw [HV1.out, Hyd1.out, hcast, HE3.out, ← hcast] at HD3
              rw [HV2.out, Hyd2.out, HE4.out] at HD4
              have Heq := Lib.hid HO.out.1
              clear hcast HO HE3 HE4
              obtain ⟨rz, hrz⟩ : ∃ rz, rz = arriveR da (hi - 1) := ⟨_, rfl⟩
              rw [← hrz] at HD3 Heq
              rw [← Heq.out] at HD4
              obtain ⟨z, dz⟩ := rz
              clear hrz Heq
              obtain ⟨u0, u1, u2⟩ := blk3 HG77.out
              have hl7 := HG77.out.lt
              have hlo1 : 1 ≤ hi := by omega
              have HD3' := Lib.hid (HD3.out _ Hb8.out HY18.out.isWorld)
              rw [Hg7e.out]
              go_wp2_with fail
              refine (HD3'.out).mono ?_
              rintro e w10 ⟨y3, rfl, hy3, hyd3, hb10⟩
              obtain ⟨C1, k1, f1, C2, k2, f2, C3, k3, f3, hV3⟩ := Worlds.OwnW.agg' hy3
              have HG710 := Lib.hid (HG78.out.below hb10 HG78.out.lt)
              have HG910 := Lib.hid (HG9.out.below hb10 HG9.out.lt)
              have HY210 := Lib.hid (HY2.out.below hb10)
              have HY310 := Lib.hid (hy3.base_ Hb8.out.size)
              have Hb10 := Lib.hid (Hb8.out.trans (hb10.mono Hb8.out.size))
              have HG711 := Lib.hid (blk_set3 (a := .slice C1 k1 f1) (b := .slice C2 k2 f2) (c := .slice C3 k3 f3) HG710.out)
              have HG911 := Lib.hid (blk_far3 (g := g7) (a := .slice C1 k1 f1) (b := .slice C2 k2 f2) (c := .slice C3 k3 f3) HG910.out (Ne.symm Hg79.out))
              have HY211 := Lib.hid (own_set3 (a := .slice C1 k1 f1) (b := .slice C2 k2 f2) (c := .slice C3 k3 f3) HY210.out HG710.out)
              have HY311 := Lib.hid (own_set3 (a := .slice C1 k1 f1) (b := .slice C2 k2 f2) (c := .slice C3 k3 f3) HY310.out HG710.out)
              have Hb11 := Lib.hid (below_set3 (a := .slice C1 k1 f1) (b := .slice C2 k2 f2) (c := .slice C3 k3 f3) Hb10.out Hg7b.out)
              have Hyd3 := Lib.hid hyd3
              have HV3 := Lib.hid hV3
              rw [hV3]
              (try dsimp only at hyd3)
              (try dsimp only)
              clear hy3 hyd3 hV3 u0 u1 u2 HD3 HD3' hl7 hb10
              obtain ⟨u0, u1, u2⟩ := blk3 HG710.out
              have fu0 := HG710.out.frozen 0
              have fu1 := HG710.out.frozen 1
              have fu2 := HG710.out.frozen 2
              obtain ⟨v0, v1, v2⟩ := blk3 HG910.out
              have hne := Hg79.out
              have hne2 : g9 ≠ g7 := Ne.symm hne
              have HD4' := Lib.hid (HD4.out _ Hb11.out HY211.out.isWorld)
              rw [Hg9e.out]
              go_wp2_with fail
              refine (HD4'.out).mono ?_
              rintro e w12 ⟨y4, rfl, hy4, hyd4, hb12⟩
              obtain ⟨D1, l1, e1, D2, l2, e2, D3, l3, e3, hV4⟩ := Worlds.OwnW.agg' hy4
              have HG712 := Lib.hid (HG711.out.below hb12 HG711.out.lt)
              have HG912 := Lib.hid (HG911.out.below hb12 HG911.out.lt)
              have HY312 := Lib.hid (HY311.out.below hb12)
              have HY412 := Lib.hid (hy4.base_ Hb11.out.size)
              have Hb12 := Lib.hid (Hb11.out.trans (hb12.mono Hb11.out.size))
              have HY313 := Lib.hid (own_set3 (a := .slice D1 l1 e1) (b := .slice D2 l2 e2) (c := .slice D3 l3 e3) HY312.out HG912.out)
              have HY413 := Lib.hid (own_set3 (a := .slice D1 l1 e1) (b := .slice D2 l2 e2) (c := .slice D3 l3 e3) HY412.out HG912.out)
              have Hb13 := Lib.hid (below_set3 (a := .slice D1 l1 e1) (b := .slice D2 l2 e2) (c := .slice D3 l3 e3) Hb12.out Hg9b.out)
              have HSW := Lib.hid (sameWorld_eq y3 y4 _ HY313.out.isWorld HY413.out.isWorld (by rw [Hyd3.out, hyd4]))
              rw [HV3.out, hV4] at HSW
              rw [hV4]
              (try dsimp only)
              clear hy4 hyd4 hV4 u0 u1 u2 v0 v1 v2 fu0 fu1 fu2 HD4 HD4' hb12
              obtain ⟨u0, u1, u2⟩ := blk3 HG712.out
              obtain ⟨v0, v1, v2⟩ := blk3 HG912.out
              have fv0 := HG912.out.frozen 0
              have fv1 := HG912.out.frozen 1
              have fv2 := HG912.out.frozen 2
              go_wp2_with fail
              refine (HSW.out).mono ?_
              rintro e w14 ⟨rfl, hb14⟩
              have Hb14 := Lib.hid (Hb13.out.trans (hb14.mono Hb13.out.size))
              clear hb14
              go_wp2_with fail
              go_ret
              exact ⟨rfl, Hb14.out⟩
            · obtain ⟨rfl, rfl⟩ := Prod.mk.inj h2
              go_wp2_with fail
              go_ret
              exact ⟨rfl, Hb8.out⟩
          · obtain ⟨rfl, rfl⟩ := Prod.mk.inj h1
            rcases HR2.out with h2 | h2
            · (try dsimp only at h2)
              subst h2
              go_wp2_with fail
              go_ret
              exact ⟨rfl, Hb8.out⟩
            · obtain ⟨rfl, rfl⟩ := Prod.mk.inj h2
              go_wp2_with fail
              go_ret
              exact ⟨rfl, Hb8.out⟩
        · have hgt : (lo : Int) < (hi : Int) := by omega
          go_wp2_with fail
          refine (HD1.out _ Hb4.out).mono ?_
          rintro e w5 ⟨y1, rfl, hy1, hyd1, hb5⟩
          obtain ⟨A1, n1, c1, A2, n2, c2, A3, n3, c3, hV1⟩ := Worlds.OwnW.agg' hy1
          have hb6 : Below w5.heap.size w5 (w5.alloc (.cells #[.slice A1 n1 c1, .slice A2 n2 c2, .slice A3 n3 c3] 46)) := (Below.refl _ _).alloc (Nat.le_refl _) _
          have Hb6 := Lib.hid ((Hb4.out.trans (hb5.mono Hb4.out.size)).trans (hb6.mono (by have := Hb4.out.size; have := hb5.size; omega)))
          have HB5 := Lib.hid (HB4.out.below hb5 HB4.out.lt)
          have HB6 := Lib.hid (HB5.out.below hb6 HB5.out.lt)
          have HY1 := Lib.hid ((hy1.below hb6).base_ Hb4.out.size)
          have Hyd1 := Lib.hid hyd1
          have HV1 := Lib.hid hV1
          have HG7 := Lib.hid (Blk.new w5 46 #[.slice A1 n1 c1, .slice A2 n2 c2, .slice A3 n3 c3])
          have HD2' := Lib.hid (HD2.out _ Hb6.out)
          have hl5 := HB5.out.lt
          have Hg7b : Hid (W.heap.size ≤ w5.heap.size) := Lib.hid (by have := Hb4.out.size; have := hb5.size; omega)
          rw [hV1]
          (try dsimp only at hyd1)
          (try dsimp only)
          clear hy1 hyd1 hb5 hb6 hV1 HD1 HD2 x0 x1 x2
          obtain ⟨x0, x1, x2⟩ := blk3 HB5.out
          go_wp2_with fail
          refine (HD2'.out).mono ?_
          rintro e w7 ⟨y2, rfl, hy2, hyd2, hb7⟩
          obtain ⟨B1, m1, d1, B2, m2, d2, B3, m3, d3, hV2⟩ := Worlds.OwnW.agg' hy2
          have hb8 : Below w7.heap.size w7 (w7.alloc (.cells #[.slice B1 m1 d1, .slice B2 m2 d2, .slice B3 m3 d3] 46)) := (Below.refl _ _).alloc (Nat.le_refl _) _
          have Hb8 := Lib.hid ((Hb6.out.trans (hb7.mono Hb6.out.size)).trans (hb8.mono (by have := Hb6.out.size; have := hb7.size; omega)))
          have HG77 := Lib.hid (HG7.out.below hb7 HG7.out.lt)
          have HG78 := Lib.hid (HG77.out.below hb8 HG77.out.lt)
          have HY18 := Lib.hid ((HY1.out.below hb7).below hb8)
          have HY2 := Lib.hid ((hy2.below hb8).base_ Hb6.out.size)
          have Hyd2 := Lib.hid hyd2
          have HV2 := Lib.hid hV2
          have HG9 := Lib.hid (Blk.new w7 46 #[.slice B1 m1 d1, .slice B2 m2 d2, .slice B3 m3 d3])
          have Hg79 : Hid (w5.heap.size ≠ w7.heap.size) := Lib.hid (by have := HG77.out.lt; omega)
          have Hg9b : Hid (W.heap.size ≤ w7.heap.size) := Lib.hid (by have := Hb6.out.size; have := hb7.size; omega)
          rw [hV2]
          (try dsimp only at hyd2)
          (try dsimp only)
          clear hy2 hyd2 hb7 hb8 hV2 HD2' x0 x1 x2 hl5
          obtain ⟨g7, hg7⟩ : ∃ g7, g7 = w5.heap.size := ⟨_, rfl⟩
          obtain ⟨g9, hg9⟩ : ∃ g9, g9 = w7.heap.size := ⟨_, rfl⟩
          rw [← hg7] at HG77 HG78 Hg79 Hg7b
          rw [← hg9] at HG9 Hg79 Hg9b
          have Hg7e := Lib.hid hg7.symm
          have Hg9e := Lib.hid hg9.symm
          clear hg7 hg9
          rcases HR1.out with h1 | h1
          · (try dsimp only at h1)
            subst h1
            rcases HR2.out with h2 | h2
            · (try dsimp only at h2)
              subst h2
              have HO := Lib.hid (HOr.out da db rfl rfl)
              have HWa := Lib.hid (HOa.out da rfl)
              have HWb := Lib.hid (HOb.out db rfl)
              clear HOr HOa HOb HR1 HR2
              have hcast : ((hi : Int) - 1) = (((hi - 1 : Nat)) : Int) := by omega
              have HE3 := Lib.hid (do_arr_eq HWa.out (hi - 1) (by rw [HO.out.2.1, Hqn.out]; omega))
              have HE4 := Lib.hid (do_arr_eq HWb.out lo (by rw [HO.out.2.2, Hqn.out]; omega))
              have HD3 := Lib.hid (fun w (hb : Below W.heap.size W w) (hw : IsWorld w y1) => do_arr y1 ((hi : Int) - 1) (by rw [hcast]; exact wfI_nat _ (by omega)) w (HML.out.below hb) hw)
              have HD4 := Lib.hid (fun w (hb : Below W.heap.size W w) (hw : IsWorld w y2) => do_arr y2 lo (wfI_nat lo (by omega)) w (HML.out.below hb) hw)
              rw [HV1.out, Hyd1.out, hcast, HE3.out, ← hcast] at HD3
              rw [HV2.out, Hyd2.out, HE4.out] at HD4
              have Heq := Lib.hid HO.out.1
              clear hcast HO HE3 HE4
              obtain ⟨rz, hrz⟩ : ∃ rz, rz = arriveR da (hi - 1) := ⟨_, rfl⟩
              rw [← hrz] at HD3 Heq
              rw [← Heq.out] at HD4
              obtain ⟨z, dz⟩ := rz
              clear hrz Heq
              obtain ⟨u0, u1, u2⟩ := blk3 HG77.out
              have hl7 := HG77.out.lt
              have hlo1 : 1 ≤ hi := by omega
              have HD3' := Lib.hid (HD3.out _ Hb8.out HY18.out.isWorld)
              rw [Hg7e.out]
              go_wp2_with fail
              refine (HD3'.out).mono ?_
              rintro e w10 ⟨y3, rfl, hy3, hyd3, hb10⟩
              obtain ⟨C1, k1, f1, C2, k2, f2, C3, k3, f3, hV3⟩ := Worlds.OwnW.agg' hy3
              have HG710 := Lib.hid (HG78.out.below hb10 HG78.out.lt)
              have HG910 := Lib.hid (HG9.out.below hb10 HG9.out.lt)
              have HY210 := Lib.hid (HY2.out.below hb10)
              have HY310 := Lib.hid (hy3.base_ Hb8.out.size)
              have Hb10 := Lib.hid (Hb8.out.trans (hb10.mono Hb8.out.size))
              have HG711 := Lib.hid (blk_set3 (a := .slice C1 k1 f1) (b := .slice C2 k2 f2) (c := .slice C3 k3 f3) HG710.out)
              have HG911 := Lib.hid (blk_far3 (g := g7) (a := .slice C1 k1 f1) (b := .slice C2 k2 f2) (c := .slice C3 k3 f3) HG910.out (Ne.symm Hg79.out))
              have HY211 := Lib.hid (own_set3 (a := .slice C1 k1 f1) (b := .slice C2 k2 f2) (c := .slice C3 k3 f3) HY210.out HG710.out)
              have HY311 := Lib.hid (own_set3 (a := .slice C1 k1 f1) (b := .slice C2 k2 f2) (c := .slice C3 k3 f3) HY310.out HG710.out)
              have Hb11 := Lib.hid (below_set3 (a := .slice C1 k1 f1) (b := .slice C2 k2 f2) (c := .slice C3 k3 f3) Hb10.out Hg7b.out)
              have Hyd3 := Lib.hid hyd3
              have HV3 := Lib.hid hV3
              rw [hV3]
              (try dsimp only at hyd3)
              (try dsimp only)
              clear hy3 hyd3 hV3 u0 u1 u2 HD3 HD3' hl7 hb10
              obtain ⟨u0, u1, u2⟩ := blk3 HG710.out
              have fu0 := HG710.out.frozen 0
              have fu1 := HG710.out.frozen 1
              have fu2 := HG710.out.frozen 2
              obtain ⟨v0, v1, v2⟩ := blk3 HG910.out
              have hne := Hg79.out
              have hne2 : g9 ≠ g7 := Ne.symm hne
              have HD4' := Lib.hid (HD4.out _ Hb11.out HY211.out.isWorld)
              rw [Hg9e.out]
              go_wp2_with fail
              refine (HD4'.out).mono ?_
              rintro e w12 ⟨y4, rfl, hy4, hyd4, hb12⟩
              obtain ⟨D1, l1, e1, D2, l2, e2, D3, l3, e3, hV4⟩ := Worlds.OwnW.agg' hy4
              have HG712 := Lib.hid (HG711.out.below hb12 HG711.out.lt)
              have HG912 := Lib.hid (HG911.out.below hb12 HG911.out.lt)
              have HY312 := Lib.hid (HY311.out.below hb12)
              have HY412 := Lib.hid (hy4.base_ Hb11.out.size)
              have Hb12 := Lib.hid (Hb11.out.trans (hb12.mono Hb11.out.size))
              have HY313 := Lib.hid (own_set3 (a := .slice D1 l1 e1) (b := .slice D2 l2 e2) (c := .slice D3 l3 e3) HY312.out HG912.out)
              have HY413 := Lib.hid (own_set3 (a := .slice D1 l1 e1) (b := .slice D2 l2 e2) (c := .slice D3 l3 e3) HY412.out HG912.out)
              have Hb13 := Lib.hid (below_set3 (a := .slice D1 l1 e1) (b := .slice D2 l2 e2) (c := .slice D3 l3 e3) Hb12.out Hg9b.out)
              have HSW := Lib.hid (sameWorld_eq y3 y4 _ HY313.out.isWorld HY413.out.isWorld (by rw [Hyd3.out, hyd4]))
              rw [HV3.out, hV4] at HSW
              rw [hV4]
              (try dsimp only)
              clear hy4 hyd4 hV4 u0 u1 u2 v0 v1 v2 fu0 fu1 fu2 HD4 HD4' hb12
              obtain ⟨u0, u1, u2⟩ := blk3 HG712.out
              obtain ⟨v0, v1, v2⟩ := blk3 HG912.out
              have fv0 := HG912.out.frozen 0
              have fv1 := HG912.out.frozen 1
              have fv2 := HG912.out.frozen 2
              go_wp2_with fail
              refine (HSW.out).mono ?_
              rintro e w14 ⟨rfl, hb14⟩
              have Hb14 := Lib.hid (Hb13.out.trans (hb14.mono Hb13.out.size))
              clear hb14
              go_wp2_with fail
              go_ret
              exact ⟨rfl, Hb14.out⟩
            · obtain ⟨rfl, rfl⟩ := Prod.mk.inj h2
              go_wp2_with fail
              go_ret
              exact ⟨rfl, Hb8.out⟩
          · obtain ⟨rfl, rfl⟩ := Prod.mk.inj h1
            rcases HR2.out with h2 | h2
            · (try dsimp only at h2)
              subst h2
              go_wp2_with fail
              go_ret
              exact ⟨rfl, Hb8.out⟩
            · obtain ⟨rfl, rfl⟩ := Prod.mk.inj h2
              go_wp2_with fail
              go_ret
              exact ⟨rfl, Hb8.out⟩
  · obtain ⟨z, hz⟩ : ∃ z, z = chkW x.wd := ⟨_, rfl⟩
    rw [← hz] at he ⊢
    have hz1 : (z != 0) = true := by simpa using he
    clear hz he
    go_wp2_with fail
    refine (HT.out _ Hb3.out).mono ?_
    rintro e w4 ⟨rfl, hb4⟩
    have Hb4 := Lib.hid (Hb3.out.trans (hb4.mono Hb3.out.size))
    clear hb4
    go_wp2_with fail
    go_ret
    exact ⟨rfl, Hb4.out⟩
theorem walk (W : World) (hml : ML W) (v : Value) (x : Wx) (hx : v = wV x ∧ IsWorld W x) (i : Int) (wi : wfI i) (k : Int) (wk : wfI k) :
    Calls Tryd.prog 8 #[v, .int .i64 i, .int .i64 k] W fun e W' => e = .returned (.bool true) ∧ Below W.heap.size W W' := by
  obtain ⟨rfl, hx⟩ := hx
  exact walk0 W hml x hx i k wi wk
end Go.Proofs.YtdoegpklephelaaDoor.WorldOrder
