/- reliquaryref.StepOf: another kind. -/
import Derived.Test.YtdoegpklephelaaGreatDoorStepParts
namespace Go.Proofs.YtdoegpklephelaaGreatDoor.Worlds
open Go Go.RowKit Go.Proofs.YtdoegpklephelaaGreatDoor Go.Proofs.YtdoegpklephelaaGreatDoor.Name Go.Proofs.YtdoegpklephelaaGreatDoor.Merge
set_option linter.unusedVariables false
set_option linter.unusedSimpArgs false

set_option maxRecDepth 100000 in
set_option maxHeartbeats 2000000 in
theorem stepOf_other (x : Wx) (h : Hx) (w : World) (hml : ML w) (hx : IsWorld w x) (hwd : WdK sizedK x) (hok : WOk x.wd) (hh : HapAt w h) (b0 : Nat) (hb0 : b0 ≤ w.heap.size) (hlow : h.1.bytes ≠ [] → ∀ a, h.2.1 = some a → a.block < b0) (hkind : h.1.kind < 1 ∨ 6 < h.1.kind) :
    Calls Tryz.prog 12 #[wV x, hV h] w (RStepPost b0 (stepR x.wd h.1) w) := by
  obtain ⟨r, hr⟩ : ∃ r, r = stepR x.wd h.1 := ⟨_, rfl⟩
  have HU := Lib.hid hr
  rw [← hr]
  clear hr
  have HML := Lib.hid hml
  have HX := Lib.hid hx
  have HH := Lib.hid hh
  have HOK := Lib.hid hok
  obtain ⟨⟨An, cn, hvn, _⟩, ⟨Ac, cc, hvc, _⟩, ⟨At, ct, hvt, _⟩⟩ := hx
  obtain ⟨nl, hnl⟩ : ∃ nl, nl = x.nodes.length := ⟨_, rfl⟩
  obtain ⟨cl, hcl⟩ : ∃ cl, cl = x.clock.length := ⟨_, rfl⟩
  obtain ⟨tl, htl⟩ : ∃ tl, tl = x.net.length := ⟨_, rfl⟩
  rw [← hnl] at hvn
  rw [← hcl] at hvc
  rw [← htl] at hvt
  have hV0 : wV x = .agg #[.slice An nl cn, .slice Ac cl cc, .slice At tl ct] := by unfold wV; rw [hvn, hvc, hvt]
  have HV0 := Lib.hid hV0
  rw [hV0]
  clear hml hvn hvc hvt hnl hcl htl hV0 hh hok
  obtain ⟨⟨kind, node, to_, nm, bytes⟩, Ab, nb, cb⟩ := h
  unfold hV slv
  dsimp only at HU HH hkind hlow ⊢
  have Hlow := Lib.hid hlow
  clear hlow
  have _ := hkind
  obtain ⟨g2, hg2⟩ : ∃ g2, g2 = w.heap.size := ⟨_, rfl⟩
  obtain ⟨w1, hw1⟩ : ∃ w1, w1 = ((w.alloc (.cells #[.slice An nl cn, .slice Ac cl cc, .slice At tl ct] 26)).alloc (.cells #[.int .i64 kind, .int .i64 node, .int .i64 to_, .string (strB nm), .slice Ab nb cb] 29)).alloc (.cells #[.slice none 0 0, .slice none 0 0, .slice none 0 0] 26) := ⟨_, rfl⟩
  have hb1 : Below w.heap.size w w1 := by rw [hw1]; exact (((Below.refl _ _).alloc (Nat.le_refl _) _).alloc (by simp) _).alloc (by simp; omega) _
  have B2 : Blk w1 g2 26 #[.slice An nl cn, .slice Ac cl cc, .slice At tl ct] := by rw [hw1, hg2]; exact ((Blk.new _ _ _).alloc _).alloc _
  have B3 : Blk w1 (g2 + 1) 29 #[.int .i64 kind, .int .i64 node, .int .i64 to_, .string (strB nm), .slice Ab nb cb] := by
    rw [hw1, hg2, show w.heap.size + 1 = (w.alloc (.cells #[.slice An nl cn, .slice Ac cl cc, .slice At tl ct] 26)).heap.size by simp]
    exact (Blk.new _ _ _).alloc _
  have B4 : Blk w1 (g2 + 2) 26 #[.slice none 0 0, .slice none 0 0, .slice none 0 0] := by
    rw [hw1, hg2, show w.heap.size + 2 = ((w.alloc (.cells #[.slice An nl cn, .slice Ac cl cc, .slice At tl ct] 26)).alloc (.cells #[.int .i64 kind, .int .i64 node, .int .i64 to_, .string (strB nm), .slice Ab nb cb] 29)).heap.size by simp]
    exact Blk.new _ _ _
  have HB2 := Lib.hid B2
  have HB3 := Lib.hid B3
  have HB4 := Lib.hid B4
  have Hb1 := Lib.hid hb1
  have Hw1 := Lib.hid hw1.symm
  have Hg2 := Lib.hid hg2.symm
  have HC := Lib.hid (ownWorld_any x w1 (HX.out.below hb1) hwd)
  rw [HV0.out] at HC
  clear B2 B3 B4 hb1 hw1 hg2 HV0 hwd
  unfold WorldPost at HC
  unfold RStepPost
  obtain ⟨a0, a1, a2⟩ := blk3 HB2.out
  go_enter Tryz.func12, Tryz.ntmps12
  go_wp2_with fail
  rw [Hw1.out, Hg2.out]
  refine (HC.out).mono ?_
  rintro e w3 ⟨y, rfl, hy, hyd, hb3⟩
  have Hb3 := Lib.hid (Hb1.out.trans (hb3.mono Hb1.out.size))
  have hwg : w.heap.size ≤ g2 := by have := Hg2.out; omega
  have HB3 := Lib.hid (HB3.out.below hb3 HB3.out.lt)
  have HB4 := Lib.hid (HB4.out.below hb3 HB4.out.lt)
  have HB2 := Lib.hid (HB2.out.below hb3 HB2.out.lt)
  have HY := Lib.hid (hy.base_ Hb1.out.size)
  rw [← hyd] at HU HOK
  clear a0 a1 a2 HC hb3 hy hyd HX Hw1 Hg2 Hb1
  obtain ⟨yvn, ynodes, yvc, yclock, yvt, ynet⟩ := y
  have hsome : 1 ≤ ynodes.length := by have := HOK.out.some_; simpa [Wx.wd] using this
  have hcl : yclock.length = ynodes.length := by have := HOK.out.clock; simpa [Wx.wd] using this
  obtain ⟨gn, cn, h1, _, _, _, _⟩ := own_at HY.out.nodes (by show 0 < ynodes.length; omega)
  obtain ⟨gc, cc, h2, _, _, _, _⟩ := own_at HY.out.clock (by show 0 < yclock.length; omega)
  obtain ⟨At, ct, h3, _⟩ := own_slat HY.out.net
  dsimp only at h1 h2 h3
  subst h1 h2 h3
  have HY1 := Lib.hid (HY.out.set_ HB2.out (by decide) (by decide) (by decide) (by decide) (by decide) 0 (.slice (some ⟨gn, 0, none⟩) ynodes.length cn))
  have HD1 := Lib.hid (HB2.out.set_ 0 (.slice (some ⟨gn, 0, none⟩) ynodes.length cn))
  have HY2 := Lib.hid (HY1.out.set_ HD1.out (by decide) (by decide) (by decide) (by decide) (by decide) 1 (.slice (some ⟨gc, 0, none⟩) yclock.length cc))
  have HD2 := Lib.hid (HD1.out.set_ 1 (.slice (some ⟨gc, 0, none⟩) yclock.length cc))
  have HY3 := Lib.hid (HY2.out.set_ HD2.out (by decide) (by decide) (by decide) (by decide) (by decide) 2 (.slice At ynet.length ct))
  have HD3 := Lib.hid (HD2.out.set_ 2 (.slice At ynet.length ct))
  have Hb4 := Lib.hid (((Hb3.out.setCell (show w.heap.size ≤ (⟨g2, 0, none⟩ : Addr).block from hwg) (.slice (some ⟨gn, 0, none⟩) ynodes.length cn)).setCell (show w.heap.size ≤ (⟨g2, 1, none⟩ : Addr).block from hwg) (.slice (some ⟨gc, 0, none⟩) yclock.length cc)).setCell (show w.heap.size ≤ (⟨g2, 2, none⟩ : Addr).block from hwg) (.slice At ynet.length ct))
  have HE3 := Lib.hid (((HB3.out.far (p := ⟨g2, 0, none⟩) (show g2 + 1 ≠ g2 by omega) (.slice (some ⟨gn, 0, none⟩) ynodes.length cn)).far (p := ⟨g2, 1, none⟩) (show g2 + 1 ≠ g2 by omega) (.slice (some ⟨gc, 0, none⟩) yclock.length cc)).far (p := ⟨g2, 2, none⟩) (show g2 + 1 ≠ g2 by omega) (.slice At ynet.length ct))
  have HE4 := Lib.hid (((HB4.out.far (p := ⟨g2, 0, none⟩) (show g2 + 2 ≠ g2 by omega) (.slice (some ⟨gn, 0, none⟩) ynodes.length cn)).far (p := ⟨g2, 1, none⟩) (show g2 + 2 ≠ g2 by omega) (.slice (some ⟨gc, 0, none⟩) yclock.length cc)).far (p := ⟨g2, 2, none⟩) (show g2 + 2 ≠ g2 by omega) (.slice At ynet.length ct))
  obtain ⟨bb0, bb1, bb2⟩ := blk3 HB2.out
  have f0 := HB2.out.frozen 0
  have f1 := HB2.out.frozen 1
  have f2 := HB2.out.frozen 2
  have d0 : w3.cell? ⟨g2 + 1, 0, none⟩ = some (.int .i64 kind) := by rw [HB3.out.cell]; rfl
  have d1 : w3.cell? ⟨g2 + 1, 1, none⟩ = some (.int .i64 node) := by rw [HB3.out.cell]; rfl
  have d2 : w3.cell? ⟨g2 + 1, 2, none⟩ = some (.int .i64 to_) := by rw [HB3.out.cell]; rfl
  obtain ⟨w4, hw4⟩ : ∃ w4, w4 = ((w3.setCell ⟨g2, 0, none⟩ (.slice (some ⟨gn, 0, none⟩) ynodes.length cn)).setCell ⟨g2, 1, none⟩ (.slice (some ⟨gc, 0, none⟩) yclock.length cc)).setCell ⟨g2, 2, none⟩ (.slice At ynet.length ct) := ⟨_, rfl⟩
  rw [← hw4] at HY3 HD3 Hb4 HE3 HE4
  have S4 := Lib.hid (show StR b0 w w4 g2 ⟨.slice (some ⟨gn, 0, none⟩) ynodes.length cn, ynodes, .slice (some ⟨gc, 0, none⟩) yclock.length cc, yclock, .slice At ynet.length ct, ynet⟩ (⟨kind, node, to_, nm, bytes⟩, Ab, nb, cb) from ⟨Hb4.out, HD3.out, HE3.out, HE4.out, .of_own HY3.out⟩)
  have Hw4 := Lib.hid hw4.symm
  unfold wV
  dsimp only
  obtain ⟨y, hy⟩ : ∃ y : Wx, y = ⟨.slice (some ⟨gn, 0, none⟩) ynodes.length cn, ynodes, .slice (some ⟨gc, 0, none⟩) yclock.length cc, yclock, .slice At ynet.length ct, ynet⟩ := ⟨_, rfl⟩
  obtain ⟨n, hn⟩ : ∃ n, n = ynodes.length := ⟨_, rfl⟩
  obtain ⟨q, hq⟩ : ∃ q, q = ynet.length := ⟨_, rfl⟩
  have HVn : Hid (y.vn = .slice (some ⟨gn, 0, none⟩) n cn) := Lib.hid (by rw [hy, hn])
  have HVc : Hid (y.vc = .slice (some ⟨gc, 0, none⟩) n cc) := Lib.hid (by rw [hy, hn, ← hcl])
  have HVt : Hid (y.vt = .slice At q ct) := Lib.hid (by rw [hy, hq])
  have Hn : Hid (n = y.nodes.length) := Lib.hid (by rw [hy, hn])
  have Hq : Hid (q = y.net.length) := Lib.hid (by rw [hy, hq])
  have Hlen : Hid (y.clock.length = y.nodes.length) := Lib.hid (by rw [hy]; exact hcl)
  have Hnl : Hid (y.wd.nodes.length = n) := Lib.hid (by rw [hy, hn]; simp [Wx.wd])
  have Htl : Hid (y.wd.net.length = q) := Lib.hid (by rw [hy, hq]; simp [Wx.wd])
  have Hvn : Hid (y.vn = .slice (some ⟨gn, 0, none⟩) y.nodes.length cn) := Lib.hid (by rw [hy])
  have Hvc : Hid (y.vc = .slice (some ⟨gc, 0, none⟩) y.clock.length cc) := Lib.hid (by rw [hy])
  have hgn3 : gn ≠ g2 := fun e => own_ne HY.out.nodes HB2.out (by decide) (by rw [e]; rfl)
  have hgt3 : ∀ gt, At = some ⟨gt, 0, none⟩ → gt ≠ g2 := fun gt e1 e => own_ne HY.out.net HB2.out (by decide) (by rw [e1, e]; rfl)
  rw [← hy] at S4 HU HOK HY
  rw [← hn, hcl, ← hn, ← hq] at Hw4
  rw [← hn, hcl, ← hn, ← hq]
  rw [← hn] at hsome
  have hfew : n ≤ 4 := by rw [← Hnl.out]; exact HOK.out.few
  have hnet : q ≤ 20 := by rw [← Htl.out]; exact HOK.out.net
  have HB4 : Hid (Blk w4 g2 26 #[.slice (some ⟨gn, 0, none⟩) n cn, .slice (some ⟨gc, 0, none⟩) n cc, .slice At q ct]) := Lib.hid (by rw [← HVn.out, ← HVc.out, ← HVt.out]; exact S4.out.bw)
  clear hw4 HY1 HY2 HY3 HD1 HD2 HD3 HE3 HE4 Hb4 Hb3 HB2 HB3 hy hn hq hcl
  have HU := Lib.hid (HU.out.trans (sR_kind hkind))
  rcases (by omega : kind < 1 ∨ (¬ kind < 1 ∧ 6 < kind)) with hk | ⟨hk, hk6⟩
  · clear hkind
    go_wp2_with fail
    rw [Hw4.out]
    clear bb0 bb1 bb2 f0 f1 f2 d0 d1 d2 Hw4
    refine (stepFail_any 3 _).mono ?_
    rintro e wf ⟨rfl, hbf⟩
    have SF := Lib.hid (S4.out.step hbf)
    clear hbf
    obtain ⟨k0, k1, k2⟩ := blk3 SF.out.br
    have kf0 := SF.out.br.frozen 0
    have kf1 := SF.out.br.frozen 1
    have kf2 := SF.out.br.frozen 2
    have HF3 := Lib.hid (((SF.out.br.set_ 0 (.slice none 0 0)).set_ 1 (.slice none 0 0)).set_ 2 (.slice none 0 0))
    have Hb6 := Lib.hid (((SF.out.below.setCell (show w.heap.size ≤ (⟨g2 + 2, 0, none⟩ : Addr).block from (by show w.heap.size ≤ g2 + 2; omega)) (.slice none 0 0)).setCell (show w.heap.size ≤ (⟨g2 + 2, 1, none⟩ : Addr).block from (by show w.heap.size ≤ g2 + 2; omega)) (.slice none 0 0)).setCell (show w.heap.size ≤ (⟨g2 + 2, 2, none⟩ : Addr).block from (by show w.heap.size ≤ g2 + 2; omega)) (.slice none 0 0))
    go_wp2_with fail
    refine bodyPost_ret (results_cell_row_tmp rfl _ _ (g2 + 2) 26 #[.slice none 0 0, .slice none 0 0, .slice none 0 0] (0, 0) _ rfl HF3.out Tryz.underlying26 rfl (by kernel_rfl)) rfl ?_
    rw [HU.out]
    exact RStepPost.fail _ Hb6.out
  · clear hkind
    go_wp2_with fail
    rw [Hw4.out]
    clear bb0 bb1 bb2 f0 f1 f2 d0 d1 d2 Hw4
    refine (stepFail_any 3 _).mono ?_
    rintro e wf ⟨rfl, hbf⟩
    have SF := Lib.hid (S4.out.step hbf)
    clear hbf
    obtain ⟨k0, k1, k2⟩ := blk3 SF.out.br
    have kf0 := SF.out.br.frozen 0
    have kf1 := SF.out.br.frozen 1
    have kf2 := SF.out.br.frozen 2
    have HF3 := Lib.hid (((SF.out.br.set_ 0 (.slice none 0 0)).set_ 1 (.slice none 0 0)).set_ 2 (.slice none 0 0))
    have Hb6 := Lib.hid (((SF.out.below.setCell (show w.heap.size ≤ (⟨g2 + 2, 0, none⟩ : Addr).block from (by show w.heap.size ≤ g2 + 2; omega)) (.slice none 0 0)).setCell (show w.heap.size ≤ (⟨g2 + 2, 1, none⟩ : Addr).block from (by show w.heap.size ≤ g2 + 2; omega)) (.slice none 0 0)).setCell (show w.heap.size ≤ (⟨g2 + 2, 2, none⟩ : Addr).block from (by show w.heap.size ≤ g2 + 2; omega)) (.slice none 0 0))
    go_wp2_with fail
    refine bodyPost_ret (results_cell_row_tmp rfl _ _ (g2 + 2) 26 #[.slice none 0 0, .slice none 0 0, .slice none 0 0] (0, 0) _ rfl HF3.out Tryz.underlying26 rfl (by kernel_rfl)) rfl ?_
    rw [HU.out]
    exact RStepPost.fail _ Hb6.out
end Go.Proofs.YtdoegpklephelaaGreatDoor.Worlds
