/- reliquaryref.StepOf: lose. -/
import Derived.Test.YtdoegpklephelaaGreatDoorStepParts
namespace Go.Proofs.YtdoegpklephelaaGreatDoor.Worlds
open Go Go.RowKit Go.Proofs.YtdoegpklephelaaGreatDoor Go.Proofs.YtdoegpklephelaaGreatDoor.Name Go.Proofs.YtdoegpklephelaaGreatDoor.Merge
set_option linter.unusedVariables false
set_option linter.unusedSimpArgs false

set_option maxRecDepth 100000 in
set_option maxHeartbeats 2000000 in
theorem stepOf_lose (x : Wx) (h : Hx) (w : World) (hml : ML w) (hx : IsWorld w x) (hwd : WdK sizedK x) (hok : WOk x.wd) (hh : HapAt w h) (b0 : Nat) (hb0 : b0 ≤ w.heap.size) (hlow : h.1.bytes ≠ [] → ∀ a, h.2.1 = some a → a.block < b0) (hkind : h.1.kind = 5) :
    Calls Tryz.prog 12 #[wV x, hV h] w (RStepPost b0 (stepR x.wd h.1) w) := by
  obtain ⟨r, hr⟩ : ∃ r, r = stepR x.wd h.1 := ⟨_, rfl⟩
  have HU := Lib.hid hr
  rw [← hr]
  clear hr
  have HML := Lib.hid hml
  have HX := Lib.hid hx
  have HH := Lib.hid hh
  have HOK := Lib.hid hok
  obtain ⟨⟨An, cn, hvn, _⟩, ⟨Ac, cc, hvc, _⟩, ⟨At, ct, hvt, _⟩⟩ := hx
  obtain ⟨nl, hnl⟩ : ∃ nl, nl = x.nodes.length := ⟨_, rfl⟩
  obtain ⟨cl, hcl⟩ : ∃ cl, cl = x.clock.length := ⟨_, rfl⟩
  obtain ⟨tl, htl⟩ : ∃ tl, tl = x.net.length := ⟨_, rfl⟩
  rw [← hnl] at hvn
  rw [← hcl] at hvc
  rw [← htl] at hvt
  have hV0 : wV x = .agg #[.slice An nl cn, .slice Ac cl cc, .slice At tl ct] := by unfold wV; rw [hvn, hvc, hvt]
  have HV0 := Lib.hid hV0
  rw [hV0]
  clear hml hvn hvc hvt hnl hcl htl hV0 hh hok
  obtain ⟨⟨kind, node, to_, nm, bytes⟩, Ab, nb, cb⟩ := h
  unfold hV slv
  dsimp only at HU HH hkind hlow ⊢
  have Hlow := Lib.hid hlow
  clear hlow
  subst hkind
  obtain ⟨g2, hg2⟩ : ∃ g2, g2 = w.heap.size := ⟨_, rfl⟩
  obtain ⟨w1, hw1⟩ : ∃ w1, w1 = ((w.alloc (.cells #[.slice An nl cn, .slice Ac cl cc, .slice At tl ct] 26)).alloc (.cells #[.int .i64 5, .int .i64 node, .int .i64 to_, .string (strB nm), .slice Ab nb cb] 29)).alloc (.cells #[.slice none 0 0, .slice none 0 0, .slice none 0 0] 26) := ⟨_, rfl⟩
  have hb1 : Below w.heap.size w w1 := by rw [hw1]; exact (((Below.refl _ _).alloc (Nat.le_refl _) _).alloc (by simp) _).alloc (by simp; omega) _
  have B2 : Blk w1 g2 26 #[.slice An nl cn, .slice Ac cl cc, .slice At tl ct] := by rw [hw1, hg2]; exact ((Blk.new _ _ _).alloc _).alloc _
  have B3 : Blk w1 (g2 + 1) 29 #[.int .i64 5, .int .i64 node, .int .i64 to_, .string (strB nm), .slice Ab nb cb] := by
    rw [hw1, hg2, show w.heap.size + 1 = (w.alloc (.cells #[.slice An nl cn, .slice Ac cl cc, .slice At tl ct] 26)).heap.size by simp]
    exact (Blk.new _ _ _).alloc _
  have B4 : Blk w1 (g2 + 2) 26 #[.slice none 0 0, .slice none 0 0, .slice none 0 0] := by
    rw [hw1, hg2, show w.heap.size + 2 = ((w.alloc (.cells #[.slice An nl cn, .slice Ac cl cc, .slice At tl ct] 26)).alloc (.cells #[.int .i64 5, .int .i64 node, .int .i64 to_, .string (strB nm), .slice Ab nb cb] 29)).heap.size by simp]
    exact Blk.new _ _ _
  have HB2 := Lib.hid B2
  have HB3 := Lib.hid B3
  have HB4 := Lib.hid B4
  have Hb1 := Lib.hid hb1
  have Hw1 := Lib.hid hw1.symm
  have Hg2 := Lib.hid hg2.symm
  have HC := Lib.hid (ownWorld_any x w1 (HX.out.below hb1) hwd)
  rw [HV0.out] at HC
  clear B2 B3 B4 hb1 hw1 hg2 HV0 hwd
  unfold WorldPost at HC
  unfold RStepPost
  obtain ⟨a0, a1, a2⟩ := blk3 HB2.out
  go_enter Tryz.func12, Tryz.ntmps12
  go_wp2_with fail
  rw [Hw1.out, Hg2.out]
  refine (HC.out).mono ?_
  rintro e w3 ⟨y, rfl, hy, hyd, hb3⟩
  have Hb3 := Lib.hid (Hb1.out.trans (hb3.mono Hb1.out.size))
  have hwg : w.heap.size ≤ g2 := by have := Hg2.out; omega
  have HB3 := Lib.hid (HB3.out.below hb3 HB3.out.lt)
  have HB4 := Lib.hid (HB4.out.below hb3 HB4.out.lt)
  have HB2 := Lib.hid (HB2.out.below hb3 HB2.out.lt)
  have HY := Lib.hid (hy.base_ Hb1.out.size)
  rw [← hyd] at HU HOK
  clear a0 a1 a2 HC hb3 hy hyd HX Hw1 Hg2 Hb1
  obtain ⟨yvn, ynodes, yvc, yclock, yvt, ynet⟩ := y
  have hsome : 1 ≤ ynodes.length := by have := HOK.out.some_; simpa [Wx.wd] using this
  have hcl : yclock.length = ynodes.length := by have := HOK.out.clock; simpa [Wx.wd] using this
  obtain ⟨gn, cn, h1, _, _, _, _⟩ := own_at HY.out.nodes (by show 0 < ynodes.length; omega)
  obtain ⟨gc, cc, h2, _, _, _, _⟩ := own_at HY.out.clock (by show 0 < yclock.length; omega)
  obtain ⟨At, ct, h3, _⟩ := own_slat HY.out.net
  dsimp only at h1 h2 h3
  subst h1 h2 h3
  have HY1 := Lib.hid (HY.out.set_ HB2.out (by decide) (by decide) (by decide) (by decide) (by decide) 0 (.slice (some ⟨gn, 0, none⟩) ynodes.length cn))
  have HD1 := Lib.hid (HB2.out.set_ 0 (.slice (some ⟨gn, 0, none⟩) ynodes.length cn))
  have HY2 := Lib.hid (HY1.out.set_ HD1.out (by decide) (by decide) (by decide) (by decide) (by decide) 1 (.slice (some ⟨gc, 0, none⟩) yclock.length cc))
  have HD2 := Lib.hid (HD1.out.set_ 1 (.slice (some ⟨gc, 0, none⟩) yclock.length cc))
  have HY3 := Lib.hid (HY2.out.set_ HD2.out (by decide) (by decide) (by decide) (by decide) (by decide) 2 (.slice At ynet.length ct))
  have HD3 := Lib.hid (HD2.out.set_ 2 (.slice At ynet.length ct))
  have Hb4 := Lib.hid (((Hb3.out.setCell (show w.heap.size ≤ (⟨g2, 0, none⟩ : Addr).block from hwg) (.slice (some ⟨gn, 0, none⟩) ynodes.length cn)).setCell (show w.heap.size ≤ (⟨g2, 1, none⟩ : Addr).block from hwg) (.slice (some ⟨gc, 0, none⟩) yclock.length cc)).setCell (show w.heap.size ≤ (⟨g2, 2, none⟩ : Addr).block from hwg) (.slice At ynet.length ct))
  have HE3 := Lib.hid (((HB3.out.far (p := ⟨g2, 0, none⟩) (show g2 + 1 ≠ g2 by omega) (.slice (some ⟨gn, 0, none⟩) ynodes.length cn)).far (p := ⟨g2, 1, none⟩) (show g2 + 1 ≠ g2 by omega) (.slice (some ⟨gc, 0, none⟩) yclock.length cc)).far (p := ⟨g2, 2, none⟩) (show g2 + 1 ≠ g2 by omega) (.slice At ynet.length ct))
  have HE4 := Lib.hid (((HB4.out.far (p := ⟨g2, 0, none⟩) (show g2 + 2 ≠ g2 by omega) (.slice (some ⟨gn, 0, none⟩) ynodes.length cn)).far (p := ⟨g2, 1, none⟩) (show g2 + 2 ≠ g2 by omega) (.slice (some ⟨gc, 0, none⟩) yclock.length cc)).far (p := ⟨g2, 2, none⟩) (show g2 + 2 ≠ g2 by omega) (.slice At ynet.length ct))
  obtain ⟨bb0, bb1, bb2⟩ := blk3 HB2.out
  have f0 := HB2.out.frozen 0
  have f1 := HB2.out.frozen 1
  have f2 := HB2.out.frozen 2
  have d0 : w3.cell? ⟨g2 + 1, 0, none⟩ = some (.int .i64 5) := by rw [HB3.out.cell]; rfl
  have d1 : w3.cell? ⟨g2 + 1, 1, none⟩ = some (.int .i64 node) := by rw [HB3.out.cell]; rfl
  have d2 : w3.cell? ⟨g2 + 1, 2, none⟩ = some (.int .i64 to_) := by rw [HB3.out.cell]; rfl
  obtain ⟨w4, hw4⟩ : ∃ w4, w4 = ((w3.setCell ⟨g2, 0, none⟩ (.slice (some ⟨gn, 0, none⟩) ynodes.length cn)).setCell ⟨g2, 1, none⟩ (.slice (some ⟨gc, 0, none⟩) yclock.length cc)).setCell ⟨g2, 2, none⟩ (.slice At ynet.length ct) := ⟨_, rfl⟩
  rw [← hw4] at HY3 HD3 Hb4 HE3 HE4
  have S4 := Lib.hid (show StR b0 w w4 g2 ⟨.slice (some ⟨gn, 0, none⟩) ynodes.length cn, ynodes, .slice (some ⟨gc, 0, none⟩) yclock.length cc, yclock, .slice At ynet.length ct, ynet⟩ (⟨5, node, to_, nm, bytes⟩, Ab, nb, cb) from ⟨Hb4.out, HD3.out, HE3.out, HE4.out, .of_own HY3.out⟩)
  have Hw4 := Lib.hid hw4.symm
  unfold wV
  dsimp only
  obtain ⟨y, hy⟩ : ∃ y : Wx, y = ⟨.slice (some ⟨gn, 0, none⟩) ynodes.length cn, ynodes, .slice (some ⟨gc, 0, none⟩) yclock.length cc, yclock, .slice At ynet.length ct, ynet⟩ := ⟨_, rfl⟩
  obtain ⟨n, hn⟩ : ∃ n, n = ynodes.length := ⟨_, rfl⟩
  obtain ⟨q, hq⟩ : ∃ q, q = ynet.length := ⟨_, rfl⟩
  have HVn : Hid (y.vn = .slice (some ⟨gn, 0, none⟩) n cn) := Lib.hid (by rw [hy, hn])
  have HVc : Hid (y.vc = .slice (some ⟨gc, 0, none⟩) n cc) := Lib.hid (by rw [hy, hn, ← hcl])
  have HVt : Hid (y.vt = .slice At q ct) := Lib.hid (by rw [hy, hq])
  have Hn : Hid (n = y.nodes.length) := Lib.hid (by rw [hy, hn])
  have Hq : Hid (q = y.net.length) := Lib.hid (by rw [hy, hq])
  have Hlen : Hid (y.clock.length = y.nodes.length) := Lib.hid (by rw [hy]; exact hcl)
  have Hnl : Hid (y.wd.nodes.length = n) := Lib.hid (by rw [hy, hn]; simp [Wx.wd])
  have Htl : Hid (y.wd.net.length = q) := Lib.hid (by rw [hy, hq]; simp [Wx.wd])
  have Hvn : Hid (y.vn = .slice (some ⟨gn, 0, none⟩) y.nodes.length cn) := Lib.hid (by rw [hy])
  have Hvc : Hid (y.vc = .slice (some ⟨gc, 0, none⟩) y.clock.length cc) := Lib.hid (by rw [hy])
  have hgn3 : gn ≠ g2 := fun e => own_ne HY.out.nodes HB2.out (by decide) (by rw [e]; rfl)
  have hgt3 : ∀ gt, At = some ⟨gt, 0, none⟩ → gt ≠ g2 := fun gt e1 e => own_ne HY.out.net HB2.out (by decide) (by rw [e1, e]; rfl)
  rw [← hy] at S4 HU HOK HY
  rw [← hn, hcl, ← hn, ← hq] at Hw4
  rw [← hn, hcl, ← hn, ← hq]
  rw [← hn] at hsome
  have hfew : n ≤ 4 := by rw [← Hnl.out]; exact HOK.out.few
  have hnet : q ≤ 20 := by rw [← Htl.out]; exact HOK.out.net
  have HB4 : Hid (Blk w4 g2 26 #[.slice (some ⟨gn, 0, none⟩) n cn, .slice (some ⟨gc, 0, none⟩) n cc, .slice At q ct]) := Lib.hid (by rw [← HVn.out, ← HVc.out, ← HVt.out]; exact S4.out.bw)
  clear hw4 HY1 HY2 HY3 HD1 HD2 HD3 HE3 HE4 Hb4 Hb3 HB2 HB3 hy hn hq hcl
  by_cases hbt : to_ < 0 ∨ (q : Int) ≤ to_
  · have HU := Lib.hid (HU.out.trans (sR_msg (by simp) (by simp) (by rw [Htl.out]; exact hbt)))
    rcases (by omega : to_ < 0 ∨ (¬ to_ < 0 ∧ (q : Int) ≤ to_)) with h1 | ⟨h1, h2⟩
    · clear hbt
      go_wp2_with fail
      rw [Hw4.out]
      clear bb0 bb1 bb2 f0 f1 f2 d0 d1 d2 Hw4
      refine (stepFail_any 5 _).mono ?_
      rintro e wf ⟨rfl, hbf⟩
      have SF := Lib.hid (S4.out.step hbf)
      clear hbf
      obtain ⟨k0, k1, k2⟩ := blk3 SF.out.br
      have kf0 := SF.out.br.frozen 0
      have kf1 := SF.out.br.frozen 1
      have kf2 := SF.out.br.frozen 2
      have HF3 := Lib.hid (((SF.out.br.set_ 0 (.slice none 0 0)).set_ 1 (.slice none 0 0)).set_ 2 (.slice none 0 0))
      have Hb6 := Lib.hid (((SF.out.below.setCell (show w.heap.size ≤ (⟨g2 + 2, 0, none⟩ : Addr).block from (by show w.heap.size ≤ g2 + 2; omega)) (.slice none 0 0)).setCell (show w.heap.size ≤ (⟨g2 + 2, 1, none⟩ : Addr).block from (by show w.heap.size ≤ g2 + 2; omega)) (.slice none 0 0)).setCell (show w.heap.size ≤ (⟨g2 + 2, 2, none⟩ : Addr).block from (by show w.heap.size ≤ g2 + 2; omega)) (.slice none 0 0))
      go_wp2_with fail
      refine bodyPost_ret (results_cell_row_tmp rfl _ _ (g2 + 2) 26 #[.slice none 0 0, .slice none 0 0, .slice none 0 0] (0, 0) _ rfl HF3.out Tryz.underlying26 rfl (by kernel_rfl)) rfl ?_
      rw [HU.out]
      exact RStepPost.fail _ Hb6.out
    · clear hbt
      go_wp2_with fail
      rw [Hw4.out]
      clear bb0 bb1 bb2 f0 f1 f2 d0 d1 d2 Hw4
      refine (stepFail_any 5 _).mono ?_
      rintro e wf ⟨rfl, hbf⟩
      have SF := Lib.hid (S4.out.step hbf)
      clear hbf
      obtain ⟨k0, k1, k2⟩ := blk3 SF.out.br
      have kf0 := SF.out.br.frozen 0
      have kf1 := SF.out.br.frozen 1
      have kf2 := SF.out.br.frozen 2
      have HF3 := Lib.hid (((SF.out.br.set_ 0 (.slice none 0 0)).set_ 1 (.slice none 0 0)).set_ 2 (.slice none 0 0))
      have Hb6 := Lib.hid (((SF.out.below.setCell (show w.heap.size ≤ (⟨g2 + 2, 0, none⟩ : Addr).block from (by show w.heap.size ≤ g2 + 2; omega)) (.slice none 0 0)).setCell (show w.heap.size ≤ (⟨g2 + 2, 1, none⟩ : Addr).block from (by show w.heap.size ≤ g2 + 2; omega)) (.slice none 0 0)).setCell (show w.heap.size ≤ (⟨g2 + 2, 2, none⟩ : Addr).block from (by show w.heap.size ≤ g2 + 2; omega)) (.slice none 0 0))
      go_wp2_with fail
      refine bodyPost_ret (results_cell_row_tmp rfl _ _ (g2 + 2) 26 #[.slice none 0 0, .slice none 0 0, .slice none 0 0] (0, 0) _ rfl HF3.out Tryz.underlying26 rfl (by kernel_rfl)) rfl ?_
      rw [HU.out]
      exact RStepPost.fail _ Hb6.out
  · obtain ⟨k, rfl⟩ : ∃ k : Nat, to_ = (k : Int) := ⟨to_.toNat, by omega⟩
    have hkq : k < q := by omega
    have hkQ : k < y.net.length := by rw [← Hq.out]; exact hkq
    have h1 : ¬ (k : Int) < 0 := by omega
    have h2 : ¬ (q : Int) ≤ (k : Int) := by omega
    obtain ⟨gt, ct', hvt', _, _, _, _⟩ := own_at S4.out.own.net (by rw [← Hq.out]; omega)
    have hvt2 := HVt.out
    rw [hvt2, ← Hq.out] at hvt'
    injection hvt' with e1 e2 e3
    subst e1 e3
    clear e2 hvt2 hbt
    have hgt3 : gt ≠ g2 := hgt3 gt rfl
    have HU : Hid (r = (0, ⟨y.wd.nodes, y.wd.clock, y.wd.net.eraseIdx k⟩)) := Lib.hid (by rw [HU.out.trans (sR_lose rfl (by show (0 : Int) ≤ (k : Int); omega) (by rw [Htl.out]; show (k : Int) < (q : Int); omega))]; simp only [Int.toNat_natCast])
    have Hct : Hid (q ≤ ct ∧ ct ≤ maxLen) := Lib.hid (by obtain ⟨_, _, e, h1, h2, _⟩ := own_slat (by have := S4.out.own.net; rw [HVt.out, ← Hq.out] at this; exact this); injection e with _ _ e; subst e; exact ⟨h1, h2⟩)
    obtain ⟨yE, hyE⟩ : ∃ yE : Wx, yE = y := ⟨_, rfl⟩
    obtain ⟨wE, hwE⟩ : ∃ wE, wE = w4 := ⟨_, rfl⟩
    go_wp2_with fail
    rw [Hw4.out]
    clear bb0 bb1 bb2 f0 f1 f2 d0 d1 d2 Hw4
    rw [← hyE] at S4 HVn HVc HVt Hq HU
    rw [← hwE] at S4 HB4 ⊢
    have SE := S4
    have BE := HB4
    have HVnE := HVn
    have HVcE := HVc
    have HVtE := HVt
    have HQE := Hq
    clear S4 HB4
    have hHo := fun (W : World) (hb : Below wE.heap.size wE W) => show W.cell? ⟨g2, 2, none⟩ = some (.slice (some ⟨gt, 0, none⟩) q ct) ∧ W.cell? ⟨g2 + 1, 2, none⟩ = some (.int .i64 (k : Int)) from ⟨by rw [(BE.out.below hb BE.out.lt).cell]; rfl, by rw [(SE.out.step hb).bx.cell]; rfl⟩
    have HHo := Lib.hid hHo
    clear hHo
    refine wp_region_S (fun W => W.cell? ⟨g2, 2, none⟩ = some (.slice (some ⟨gt, 0, none⟩) q ct) ∧ W.cell? ⟨g2 + 1, 2, none⟩ = some (.int .i64 (k : Int))) 15 (by kernel_rfl) ?_
    obtain ⟨w5, hw5⟩ : ∃ w5, w5 = wE.drew := ⟨_, rfl⟩
    have hb5 : Below wE.heap.size wE w5 := by rw [hw5]; exact (Below.refl _ _).drew
    have Hb5 := Lib.hid hb5
    have S5 := Lib.hid (SE.out.step hb5)
    have HB5 := Lib.hid (BE.out.below hb5 BE.out.lt)
    rw [← hw5]
    have hHeld := HHo.out w5 hb5
    have hwr : IntKind.i64.wrap ((k : Int) + 1) = (k : Int) + 1 := IntWalk.i64_in _ (by omega)
    have hk0 : (0 : Int) ≤ (k : Int) := by omega
    have hk1 : (0 : Int) ≤ (k : Int) + 1 := by omega
    have hkq' : (k : Int) + 1 ≤ (q : Int) := by omega
    have hkc' : (k : Int) ≤ (ct : Int) := by have := Hct.out; omega
    have hqc' : (q : Int) ≤ (ct : Int) := by have := Hct.out; omega
    have HO5 := Lib.hid (show w5.ownsRow w.heap.size 54 2 (.slice (some ⟨gt, 0, none⟩) q ct) q (yE.net.flatMap mC) by have := S5.out.own.net; rwa [HVtE.out, ← HQE.out] at this)
    obtain ⟨m, hm⟩ : ∃ m, m = q - (k + 1) := ⟨_, rfl⟩
    have Hm := Lib.hid hm
    have hct1 : ct ≤ maxLen := Hct.out.2
    have hct0 : q ≤ ct := Hct.out.1
    clear hw5 hb5 hm
    refine wpAnyS_take (i := 0) (v := ?vc0) (by kernel_rfl) rfl (by kernel_rfl) (by kernel_rfl) (by kernel_rfl) (fun _ _ _ h => h) (by rfl) (by assumption) ?hyc0 ?restc0
    case hyc0 => (intro W hSW; (try dsimp only at hSW); go_simp; try with_reducible rfl)
    (try simp only [Act.put, List.getElem_toArray, List.getElem_cons_zero, List.getElem_cons_succ, List.setIfInBounds_toArray, List.set_cons_zero, List.set_cons_succ])
    refine wpAnyS_take (i := 1) (v := ?vc1) (by kernel_rfl) rfl (by kernel_rfl) (by kernel_rfl) (by kernel_rfl) (fun _ _ _ h => h) (by rfl) (by assumption) ?hyc1 ?restc1
    case hyc1 => (intro W hSW; (try dsimp only at hSW); go_simp; try with_reducible rfl)
    (try simp only [Act.put, List.getElem_toArray, List.getElem_cons_zero, List.getElem_cons_succ, List.setIfInBounds_toArray, List.set_cons_zero, List.set_cons_succ])
    refine wpAnyS_take (i := 2) (v := ?vc2) (by kernel_rfl) rfl (by kernel_rfl) (by kernel_rfl) (by kernel_rfl) (fun _ _ _ h => h) (by rfl) (by assumption) ?hyc2 ?restc2
    case hyc2 => (intro W hSW; (try dsimp only at hSW); go_simp; try with_reducible rfl)
    (try simp only [Act.put, List.getElem_toArray, List.getElem_cons_zero, List.getElem_cons_succ, List.setIfInBounds_toArray, List.set_cons_zero, List.set_cons_succ])
    refine wpAnyS_take (i := 3) (v := ?vc3) (by kernel_rfl) rfl (by kernel_rfl) (by kernel_rfl) (by kernel_rfl) (fun _ _ _ h => h) (by rfl) (by assumption) ?hyc3 ?restc3
    case hyc3 => (intro W hSW; (try dsimp only at hSW); go_simp; try with_reducible rfl)
    (try simp only [Act.put, List.getElem_toArray, List.getElem_cons_zero, List.getElem_cons_succ, List.setIfInBounds_toArray, List.set_cons_zero, List.set_cons_succ])
    refine wpAnyS_take (i := 4) (v := ?vc4) (by kernel_rfl) rfl (by kernel_rfl) (by kernel_rfl) (by kernel_rfl) (fun _ _ _ h => h) (by rfl) (by assumption) ?hyc4 ?restc4
    case hyc4 => (intro W hSW; (try dsimp only at hSW); go_simp; try with_reducible rfl)
    (try simp only [Act.put, List.getElem_toArray, List.getElem_cons_zero, List.getElem_cons_succ, List.setIfInBounds_toArray, List.set_cons_zero, List.set_cons_succ])
    refine wpAnyS_take (i := 5) (v := ?vc5) (by kernel_rfl) rfl (by kernel_rfl) (by kernel_rfl) (by kernel_rfl) (fun _ _ _ h => h) (by rfl) (by assumption) ?hyc5 ?restc5
    case hyc5 => (intro W hSW; (try dsimp only at hSW); go_simp; try with_reducible rfl)
    (try simp only [Act.put, List.getElem_toArray, List.getElem_cons_zero, List.getElem_cons_succ, List.setIfInBounds_toArray, List.set_cons_zero, List.set_cons_succ])
    refine wpAnyS_take (i := 6) (v := ?vc6) (by kernel_rfl) rfl (by kernel_rfl) (by kernel_rfl) (by kernel_rfl) (fun _ _ _ h => h) (by rfl) (by assumption) ?hyc6 ?restc6
    case hyc6 => (intro W hSW; (try dsimp only at hSW); go_simp; try with_reducible rfl)
    (try simp only [Act.put, List.getElem_toArray, List.getElem_cons_zero, List.getElem_cons_succ, List.setIfInBounds_toArray, List.set_cons_zero, List.set_cons_succ])
    refine wpAnyS_take (i := 7) (v := ?vc7) (by kernel_rfl) rfl (by kernel_rfl) (by kernel_rfl) (by kernel_rfl) (fun _ _ _ h => h) (by rfl) (by assumption) ?hyc7 ?restc7
    case hyc7 => (intro W hSW; (try dsimp only at hSW); go_simp; try with_reducible rfl)
    (try simp only [Act.put, List.getElem_toArray, List.getElem_cons_zero, List.getElem_cons_succ, List.setIfInBounds_toArray, List.set_cons_zero, List.set_cons_succ])
    refine wpAnyS_take (i := 8) (v := ?vc8) (by kernel_rfl) rfl (by kernel_rfl) (by kernel_rfl) (by kernel_rfl) (fun _ _ _ h => h) (by rfl) (by assumption) ?hyc8 ?restc8
    case hyc8 => (intro W hSW; (try dsimp only at hSW); go_simp; try with_reducible rfl)
    (try simp only [Act.put, List.getElem_toArray, List.getElem_cons_zero, List.getElem_cons_succ, List.setIfInBounds_toArray, List.set_cons_zero, List.set_cons_succ])
    refine wpAnyS_take (i := 9) (v := ?vc9) (by kernel_rfl) rfl (by kernel_rfl) (by kernel_rfl) (by kernel_rfl) (fun _ _ _ h => h) (by rfl) (by assumption) ?hyc9 ?restc9
    case hyc9 => (intro W hSW; (try dsimp only at hSW); go_simp; try with_reducible rfl)
    (try simp only [Act.put, List.getElem_toArray, List.getElem_cons_zero, List.getElem_cons_succ, List.setIfInBounds_toArray, List.set_cons_zero, List.set_cons_succ])
    refine wpAnyS_take (i := 10) (v := ?vc10) (by kernel_rfl) rfl (by kernel_rfl) (by kernel_rfl) (by kernel_rfl) (fun _ _ _ h => h) (by rfl) (by assumption) ?hyc10 ?restc10
    case hyc10 => (intro W hSW; (try dsimp only at hSW); go_simp; try with_reducible rfl)
    (try simp only [Act.put, List.getElem_toArray, List.getElem_cons_zero, List.getElem_cons_succ, List.setIfInBounds_toArray, List.set_cons_zero, List.set_cons_succ])
    refine wpAnyS_take (i := 11) (v := ?vc11) (by kernel_rfl) rfl (by kernel_rfl) (by kernel_rfl) (by kernel_rfl) (fun _ _ _ h => h) (by rfl) (by assumption) ?hyc11 ?restc11
    case hyc11 => (intro W hSW; (try dsimp only at hSW); go_simp; try with_reducible rfl)
    (try simp only [Act.put, List.getElem_toArray, List.getElem_cons_zero, List.getElem_cons_succ, List.setIfInBounds_toArray, List.set_cons_zero, List.set_cons_succ])
    refine wpAnyS_take (i := 12) (v := ?vc12) (by kernel_rfl) rfl (by kernel_rfl) (by kernel_rfl) (by kernel_rfl) (fun _ _ _ h => h) (by rfl) (by assumption) ?hyc12 ?restc12
    case hyc12 => (intro W hSW; (try dsimp only at hSW); go_simp; try with_reducible rfl)
    (try simp only [Act.put, List.getElem_toArray, List.getElem_cons_zero, List.getElem_cons_succ, List.setIfInBounds_toArray, List.set_cons_zero, List.set_cons_succ])
    refine wpAnyS_only (i := 13) rfl (by kernel_rfl) (fun K hK => ?_)
    obtain ⟨_, cs5, hblk5⟩ := own_blk HO5.out
    refine step_cut rfl (.tmp 295) (.tmp 301) _ rfl 54 _ 2 32 tyM gt k m (ct - (k + 1)) (if ct = k + 1 then ⟨gt, 0, none⟩ else ⟨gt, (k + 1) * 2, none⟩) cs5 hblk5 ((yE.net.take k).flatMap mC) ((yE.net.drop (k + 1)).flatMap mC) (by simp [Act.eval])
      (by have := Hm.out; rw [mCs_len, List.length_take, ← HQE.out]; omega) (fun j v hj => own_cells HO5.out j v (cut_one _ _ _ _ hj)) (by simp [Act.eval, Hm.out]; split <;> rfl)
      (by have := Hm.out; rw [mCs_len, List.length_drop, ← HQE.out]; omega) (fun j v hj => by
        have hj1 := (List.getElem?_eq_some_iff.1 hj).1
        rw [mCs_len, List.length_drop, ← HQE.out] at hj1
        rw [if_neg (by omega), addr_add0']
        exact own_cells HO5.out _ v (cut_two _ _ (by rw [← HQE.out]; omega) _ _ hj)) (by have := Hm.out; unfold maxLen; omega) (by have := Hm.out; omega) ?_
    intro A8 d8 w8 h81 h82 hb8 hsl8
    have HB8 := Lib.hid (HB5.out.below hb8 HB5.out.lt)
    have HBr8 := Lib.hid (S5.out.br.below hb8 S5.out.br.lt)
    have Hb8 := Lib.hid (S5.out.step hb8).below
    have HM8 := Lib.hid (S5.out.step hb8).own
    have Hsl8 := Lib.hid hsl8
    have HS8' := HHo.out w8 (Hb5.out.trans (hb8.mono Hb5.out.size))
    clear hsl8 hb8 hHeld
    refine hK.out _ _ HS8' (fun hHeld => ?_)
    clear HS8'
    clear hK K
    (try simp only [Act.put, List.getElem_toArray, List.getElem_cons_zero, List.getElem_cons_succ, List.setIfInBounds_toArray, List.set_cons_zero, List.set_cons_succ])
    refine wpAnyS_only (i := 14) rfl (by kernel_rfl) (fun K hK => ?_)
    go_simp
    have hHeld' := hHeld
    clear hHeld
    refine hK.out _ _ hHeld' (fun hHeld => ?_)
    clear hHeld'
    clear hK K
    (try simp only [Act.put, List.getElem_toArray, List.getElem_cons_zero, List.getElem_cons_succ, List.setIfInBounds_toArray, List.set_cons_zero, List.set_cons_succ])
    have c8 := (blk3 HB8.out).2.2
    have f8 := HB8.out.frozen 2
    refine wpAnyS_last rfl (by kernel_rfl) (by kernel_rfl) (fun K hK => ?_)
    go_simp
    refine hK.out _ _ ?_
    clear hK K
    obtain ⟨y2, hy2⟩ : ∃ y2 : Wx, y2 = { yE with vt := .slice (some A8) (k + m) d8, net := yE.net.eraseIdx k } := ⟨_, rfl⟩
    obtain ⟨wF, hwF⟩ : ∃ wF, wF = World.setCell w8 ⟨g2, 2, none⟩ (.slice (some A8) (k + m) d8) := ⟨_, rfl⟩
    have hwg : w.heap.size ≤ g2 := by omega
    have HBF : Hid (Blk wF g2 26 #[.slice (some ⟨gn, 0, none⟩) n cn, .slice (some ⟨gc, 0, none⟩) n cc, .slice (some A8) (k + m) d8]) := Lib.hid (by rw [hwF]; exact HB8.out.set_ 2 _)
    have HKF : Hid (Keeps w.heap.size [26] w8 wF) := Lib.hid (by rw [hwF]; exact (Keeps.refl w.heap.size [26] _).setBlk HB8.out (by simp) hwg 2 _)
    have SF : Hid (FinR b0 w wF g2 y2) := Lib.hid ⟨by rw [hwF]; exact Hb8.out.setCell (show w.heap.size ≤ (⟨g2, 2, none⟩ : Addr).block from hwg) _,
      by rw [hy2]; dsimp only; rw [HVnE.out, HVcE.out]; exact HBF.out, by rw [hwF]; exact HBr8.out.far (p := ⟨g2, 2, none⟩) (show g2 + 2 ≠ g2 by omega) _,
      fun w' hk => by
        have hkk := (HKF.out.mono hb0 (fun t ht => by rw [List.mem_singleton] at ht; subst ht; simp [T0])).trans hk
        have hln : (yE.net.eraseIdx k).length = k + m := by rw [List.length_eraseIdx_of_lt (by rw [← HQE.out]; exact hkq), ← HQE.out]; have := Hm.out; omega
        have h3 := MixW.cutNet (HM8.out.lower hb0) hkk A8 d8 (yE.net.eraseIdx k) (by rw [hln]; exact h81) h82 (by rw [← drop_one, List.flatMap_append]; exact Hsl8.out _ _ w' hkk (by decide)) (fun z hz => List.mem_of_mem_eraseIdx hz)
        rw [hln] at h3
        rw [hy2]
        exact h3⟩
    have HwF := Lib.hid hwF.symm
    have HY2 := Lib.hid hy2
    clear hwF hy2
    rw [HwF.out]
    clear HwF HB8 HM8 HBr8 Hb8 Hsl8 HKF h81 h82 hHeld
    obtain ⟨e0, e1, e2⟩ := blk3 HBF.out
    obtain ⟨k0, k1, k2⟩ := blk3 SF.out.br
    have kf0 := SF.out.br.frozen 0
    have kf1 := SF.out.br.frozen 1
    have kf2 := SF.out.br.frozen 2
    have hwg2 : w.heap.size ≤ g2 + 2 := by omega
    have HF1 := Lib.hid (SF.out.br.set_ 0 (.slice (some ⟨gn, 0, none⟩) n cn))
    have HF2 := Lib.hid (HF1.out.set_ 1 (.slice (some ⟨gc, 0, none⟩) n cc))
    have HF3 := Lib.hid (HF2.out.set_ 2 (.slice (some A8) (k + m) d8))
    have HK := Lib.hid ((((Keeps.refl w.heap.size [26] _).setBlk SF.out.br (by simp) hwg2 0 (.slice (some ⟨gn, 0, none⟩) n cn)).setBlk HF1.out (by simp) hwg2 1 (.slice (some ⟨gc, 0, none⟩) n cc)).setBlk HF2.out (by simp) hwg2 2 (.slice (some A8) (k + m) d8))
    have Hb6 := Lib.hid (((SF.out.below.setCell (show w.heap.size ≤ (⟨g2 + 2, 0, none⟩ : Addr).block from hwg2) (.slice (some ⟨gn, 0, none⟩) n cn)).setCell (show w.heap.size ≤ (⟨g2 + 2, 1, none⟩ : Addr).block from hwg2) (.slice (some ⟨gc, 0, none⟩) n cc)).setCell (show w.heap.size ≤ (⟨g2 + 2, 2, none⟩ : Addr).block from hwg2) (.slice (some A8) (k + m) d8))
    go_wp2_with fail
    all_goals (
      skip
      refine bodyPost_ret (results_cell_row_tmp rfl _ _ (g2 + 2) 26 #[.slice (some ⟨gn, 0, none⟩) n cn, .slice (some ⟨gc, 0, none⟩) n cc, .slice (some A8) (k + m) d8] (0, 0) _ rfl HF3.out Tryz.underlying26 rfl (by kernel_rfl)) rfl ?_
      rw [HU.out]
      exact ⟨y2, by rw [HY2.out]; unfold wV; dsimp only; rw [HVnE.out, HVcE.out]; rfl, fun w'' hk => SF.out.lie _ ((HK.out.mono hb0 (fun t ht => by rw [List.mem_singleton] at ht; subst ht; simp [T0])).trans hk), by rw [HY2.out]; simp [Wx.wd, map_erase], Hb6.out⟩)
end Go.Proofs.YtdoegpklephelaaGreatDoor.Worlds
