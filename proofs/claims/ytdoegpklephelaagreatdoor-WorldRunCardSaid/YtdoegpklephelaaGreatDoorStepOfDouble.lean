/- reliquaryref.StepOf: double. -/
import Derived.Test.YtdoegpklephelaaGreatDoorStepParts
namespace Go.Proofs.YtdoegpklephelaaGreatDoor.Worlds
open Go Go.RowKit Go.Proofs.YtdoegpklephelaaGreatDoor Go.Proofs.YtdoegpklephelaaGreatDoor.Name Go.Proofs.YtdoegpklephelaaGreatDoor.Merge
set_option linter.unusedVariables false
set_option linter.unusedSimpArgs false

set_option maxRecDepth 100000 in
set_option maxHeartbeats 2000000 in
theorem stepOf_double (x : Wx) (h : Hx) (w : World) (hml : ML w) (hx : IsWorld w x) (hwd : WdK sizedK x) (hok : WOk x.wd) (hh : HapAt w h) (b0 : Nat) (hb0 : b0 ≤ w.heap.size) (hlow : h.1.bytes ≠ [] → ∀ a, h.2.1 = some a → a.block < b0) (hkind : h.1.kind = 6) :
    Calls Tryz.prog 12 #[wV x, hV h] w (RStepPost b0 (stepR x.wd h.1) w) := by
  obtain ⟨r, hr⟩ : ∃ r, r = stepR x.wd h.1 := ⟨_, rfl⟩
  have HU := Lib.hid hr
  rw [← hr]
  clear hr
  have HML := Lib.hid hml
  have HX := Lib.hid hx
  have HH := Lib.hid hh
  have HOK := Lib.hid hok
  obtain ⟨⟨An, cn, hvn, _⟩, ⟨Ac, cc, hvc, _⟩, ⟨At, ct, hvt, _⟩⟩ := hx
  obtain ⟨nl, hnl⟩ : ∃ nl, nl = x.nodes.length := ⟨_, rfl⟩
  obtain ⟨cl, hcl⟩ : ∃ cl, cl = x.clock.length := ⟨_, rfl⟩
  obtain ⟨tl, htl⟩ : ∃ tl, tl = x.net.length := ⟨_, rfl⟩
  rw [← hnl] at hvn
  rw [← hcl] at hvc
  rw [← htl] at hvt
  have hV0 : wV x = .agg #[.slice An nl cn, .slice Ac cl cc, .slice At tl ct] := by unfold wV; rw [hvn, hvc, hvt]
  have HV0 := Lib.hid hV0
  rw [hV0]
  clear hml hvn hvc hvt hnl hcl htl hV0 hh hok
  obtain ⟨⟨kind, node, to_, nm, bytes⟩, Ab, nb, cb⟩ := h
  unfold hV slv
  dsimp only at HU HH hkind hlow ⊢
  have Hlow := Lib.hid hlow
  clear hlow
  subst hkind
  obtain ⟨g2, hg2⟩ : ∃ g2, g2 = w.heap.size := ⟨_, rfl⟩
  obtain ⟨w1, hw1⟩ : ∃ w1, w1 = ((w.alloc (.cells #[.slice An nl cn, .slice Ac cl cc, .slice At tl ct] 26)).alloc (.cells #[.int .i64 6, .int .i64 node, .int .i64 to_, .string (strB nm), .slice Ab nb cb] 29)).alloc (.cells #[.slice none 0 0, .slice none 0 0, .slice none 0 0] 26) := ⟨_, rfl⟩
  have hb1 : Below w.heap.size w w1 := by rw [hw1]; exact (((Below.refl _ _).alloc (Nat.le_refl _) _).alloc (by simp) _).alloc (by simp; omega) _
  have B2 : Blk w1 g2 26 #[.slice An nl cn, .slice Ac cl cc, .slice At tl ct] := by rw [hw1, hg2]; exact ((Blk.new _ _ _).alloc _).alloc _
  have B3 : Blk w1 (g2 + 1) 29 #[.int .i64 6, .int .i64 node, .int .i64 to_, .string (strB nm), .slice Ab nb cb] := by
    rw [hw1, hg2, show w.heap.size + 1 = (w.alloc (.cells #[.slice An nl cn, .slice Ac cl cc, .slice At tl ct] 26)).heap.size by simp]
    exact (Blk.new _ _ _).alloc _
  have B4 : Blk w1 (g2 + 2) 26 #[.slice none 0 0, .slice none 0 0, .slice none 0 0] := by
    rw [hw1, hg2, show w.heap.size + 2 = ((w.alloc (.cells #[.slice An nl cn, .slice Ac cl cc, .slice At tl ct] 26)).alloc (.cells #[.int .i64 6, .int .i64 node, .int .i64 to_, .string (strB nm), .slice Ab nb cb] 29)).heap.size by simp]
    exact Blk.new _ _ _
  have HB2 := Lib.hid B2
  have HB3 := Lib.hid B3
  have HB4 := Lib.hid B4
  have Hb1 := Lib.hid hb1
  have Hw1 := Lib.hid hw1.symm
  have Hg2 := Lib.hid hg2.symm
  have HC := Lib.hid (ownWorld_any x w1 (HX.out.below hb1) hwd)
  rw [HV0.out] at HC
  clear B2 B3 B4 hb1 hw1 hg2 HV0 hwd
  unfold WorldPost at HC
  unfold RStepPost
  obtain ⟨a0, a1, a2⟩ := blk3 HB2.out
  go_enter Tryz.func12, Tryz.ntmps12
  go_wp2_with fail
  rw [Hw1.out, Hg2.out]
  refine (HC.out).mono ?_
  rintro e w3 ⟨y, rfl, hy, hyd, hb3⟩
  have Hb3 := Lib.hid (Hb1.out.trans (hb3.mono Hb1.out.size))
  have hwg : w.heap.size ≤ g2 := by have := Hg2.out; omega
  have HB3 := Lib.hid (HB3.out.below hb3 HB3.out.lt)
  have HB4 := Lib.hid (HB4.out.below hb3 HB4.out.lt)
  have HB2 := Lib.hid (HB2.out.below hb3 HB2.out.lt)
  have HY := Lib.hid (hy.base_ Hb1.out.size)
  rw [← hyd] at HU HOK
  clear a0 a1 a2 HC hb3 hy hyd HX Hw1 Hg2 Hb1
  obtain ⟨yvn, ynodes, yvc, yclock, yvt, ynet⟩ := y
  have hsome : 1 ≤ ynodes.length := by have := HOK.out.some_; simpa [Wx.wd] using this
  have hcl : yclock.length = ynodes.length := by have := HOK.out.clock; simpa [Wx.wd] using this
  obtain ⟨gn, cn, h1, _, _, _, _⟩ := own_at HY.out.nodes (by show 0 < ynodes.length; omega)
  obtain ⟨gc, cc, h2, _, _, _, _⟩ := own_at HY.out.clock (by show 0 < yclock.length; omega)
  obtain ⟨At, ct, h3, _⟩ := own_slat HY.out.net
  dsimp only at h1 h2 h3
  subst h1 h2 h3
  have HY1 := Lib.hid (HY.out.set_ HB2.out (by decide) (by decide) (by decide) (by decide) (by decide) 0 (.slice (some ⟨gn, 0, none⟩) ynodes.length cn))
  have HD1 := Lib.hid (HB2.out.set_ 0 (.slice (some ⟨gn, 0, none⟩) ynodes.length cn))
  have HY2 := Lib.hid (HY1.out.set_ HD1.out (by decide) (by decide) (by decide) (by decide) (by decide) 1 (.slice (some ⟨gc, 0, none⟩) yclock.length cc))
  have HD2 := Lib.hid (HD1.out.set_ 1 (.slice (some ⟨gc, 0, none⟩) yclock.length cc))
  have HY3 := Lib.hid (HY2.out.set_ HD2.out (by decide) (by decide) (by decide) (by decide) (by decide) 2 (.slice At ynet.length ct))
  have HD3 := Lib.hid (HD2.out.set_ 2 (.slice At ynet.length ct))
  have Hb4 := Lib.hid (((Hb3.out.setCell (show w.heap.size ≤ (⟨g2, 0, none⟩ : Addr).block from hwg) (.slice (some ⟨gn, 0, none⟩) ynodes.length cn)).setCell (show w.heap.size ≤ (⟨g2, 1, none⟩ : Addr).block from hwg) (.slice (some ⟨gc, 0, none⟩) yclock.length cc)).setCell (show w.heap.size ≤ (⟨g2, 2, none⟩ : Addr).block from hwg) (.slice At ynet.length ct))
  have HE3 := Lib.hid (((HB3.out.far (p := ⟨g2, 0, none⟩) (show g2 + 1 ≠ g2 by omega) (.slice (some ⟨gn, 0, none⟩) ynodes.length cn)).far (p := ⟨g2, 1, none⟩) (show g2 + 1 ≠ g2 by omega) (.slice (some ⟨gc, 0, none⟩) yclock.length cc)).far (p := ⟨g2, 2, none⟩) (show g2 + 1 ≠ g2 by omega) (.slice At ynet.length ct))
  have HE4 := Lib.hid (((HB4.out.far (p := ⟨g2, 0, none⟩) (show g2 + 2 ≠ g2 by omega) (.slice (some ⟨gn, 0, none⟩) ynodes.length cn)).far (p := ⟨g2, 1, none⟩) (show g2 + 2 ≠ g2 by omega) (.slice (some ⟨gc, 0, none⟩) yclock.length cc)).far (p := ⟨g2, 2, none⟩) (show g2 + 2 ≠ g2 by omega) (.slice At ynet.length ct))
  obtain ⟨bb0, bb1, bb2⟩ := blk3 HB2.out
  have f0 := HB2.out.frozen 0
  have f1 := HB2.out.frozen 1
  have f2 := HB2.out.frozen 2
  have d0 : w3.cell? ⟨g2 + 1, 0, none⟩ = some (.int .i64 6) := by rw [HB3.out.cell]; rfl
  have d1 : w3.cell? ⟨g2 + 1, 1, none⟩ = some (.int .i64 node) := by rw [HB3.out.cell]; rfl
  have d2 : w3.cell? ⟨g2 + 1, 2, none⟩ = some (.int .i64 to_) := by rw [HB3.out.cell]; rfl
  obtain ⟨w4, hw4⟩ : ∃ w4, w4 = ((w3.setCell ⟨g2, 0, none⟩ (.slice (some ⟨gn, 0, none⟩) ynodes.length cn)).setCell ⟨g2, 1, none⟩ (.slice (some ⟨gc, 0, none⟩) yclock.length cc)).setCell ⟨g2, 2, none⟩ (.slice At ynet.length ct) := ⟨_, rfl⟩
  rw [← hw4] at HY3 HD3 Hb4 HE3 HE4
  have S4 := Lib.hid (show StR b0 w w4 g2 ⟨.slice (some ⟨gn, 0, none⟩) ynodes.length cn, ynodes, .slice (some ⟨gc, 0, none⟩) yclock.length cc, yclock, .slice At ynet.length ct, ynet⟩ (⟨6, node, to_, nm, bytes⟩, Ab, nb, cb) from ⟨Hb4.out, HD3.out, HE3.out, HE4.out, .of_own HY3.out⟩)
  have Hw4 := Lib.hid hw4.symm
  unfold wV
  dsimp only
  obtain ⟨y, hy⟩ : ∃ y : Wx, y = ⟨.slice (some ⟨gn, 0, none⟩) ynodes.length cn, ynodes, .slice (some ⟨gc, 0, none⟩) yclock.length cc, yclock, .slice At ynet.length ct, ynet⟩ := ⟨_, rfl⟩
  obtain ⟨n, hn⟩ : ∃ n, n = ynodes.length := ⟨_, rfl⟩
  obtain ⟨q, hq⟩ : ∃ q, q = ynet.length := ⟨_, rfl⟩
  have HVn : Hid (y.vn = .slice (some ⟨gn, 0, none⟩) n cn) := Lib.hid (by rw [hy, hn])
  have HVc : Hid (y.vc = .slice (some ⟨gc, 0, none⟩) n cc) := Lib.hid (by rw [hy, hn, ← hcl])
  have HVt : Hid (y.vt = .slice At q ct) := Lib.hid (by rw [hy, hq])
  have Hn : Hid (n = y.nodes.length) := Lib.hid (by rw [hy, hn])
  have Hq : Hid (q = y.net.length) := Lib.hid (by rw [hy, hq])
  have Hlen : Hid (y.clock.length = y.nodes.length) := Lib.hid (by rw [hy]; exact hcl)
  have Hnl : Hid (y.wd.nodes.length = n) := Lib.hid (by rw [hy, hn]; simp [Wx.wd])
  have Htl : Hid (y.wd.net.length = q) := Lib.hid (by rw [hy, hq]; simp [Wx.wd])
  have Hvn : Hid (y.vn = .slice (some ⟨gn, 0, none⟩) y.nodes.length cn) := Lib.hid (by rw [hy])
  have Hvc : Hid (y.vc = .slice (some ⟨gc, 0, none⟩) y.clock.length cc) := Lib.hid (by rw [hy])
  have hgn3 : gn ≠ g2 := fun e => own_ne HY.out.nodes HB2.out (by decide) (by rw [e]; rfl)
  have hgt3 : ∀ gt, At = some ⟨gt, 0, none⟩ → gt ≠ g2 := fun gt e1 e => own_ne HY.out.net HB2.out (by decide) (by rw [e1, e]; rfl)
  rw [← hy] at S4 HU HOK HY
  rw [← hn, hcl, ← hn, ← hq] at Hw4
  rw [← hn, hcl, ← hn, ← hq]
  rw [← hn] at hsome
  have hfew : n ≤ 4 := by rw [← Hnl.out]; exact HOK.out.few
  have hnet : q ≤ 20 := by rw [← Htl.out]; exact HOK.out.net
  have HB4 : Hid (Blk w4 g2 26 #[.slice (some ⟨gn, 0, none⟩) n cn, .slice (some ⟨gc, 0, none⟩) n cc, .slice At q ct]) := Lib.hid (by rw [← HVn.out, ← HVc.out, ← HVt.out]; exact S4.out.bw)
  clear hw4 HY1 HY2 HY3 HD1 HD2 HD3 HE3 HE4 Hb4 Hb3 HB2 HB3 hy hn hq hcl
  by_cases hbt : to_ < 0 ∨ (q : Int) ≤ to_
  · have HU := Lib.hid (HU.out.trans (sR_msg (by simp) (by simp) (by rw [Htl.out]; exact hbt)))
    rcases (by omega : to_ < 0 ∨ (¬ to_ < 0 ∧ (q : Int) ≤ to_)) with h1 | ⟨h1, h2⟩
    · clear hbt
      go_wp2_with fail
      rw [Hw4.out]
      clear bb0 bb1 bb2 f0 f1 f2 d0 d1 d2 Hw4
      refine (stepFail_any 5 _).mono ?_
      rintro e wf ⟨rfl, hbf⟩
      have SF := Lib.hid (S4.out.step hbf)
      clear hbf
      obtain ⟨k0, k1, k2⟩ := blk3 SF.out.br
      have kf0 := SF.out.br.frozen 0
      have kf1 := SF.out.br.frozen 1
      have kf2 := SF.out.br.frozen 2
      have HF3 := Lib.hid (((SF.out.br.set_ 0 (.slice none 0 0)).set_ 1 (.slice none 0 0)).set_ 2 (.slice none 0 0))
      have Hb6 := Lib.hid (((SF.out.below.setCell (show w.heap.size ≤ (⟨g2 + 2, 0, none⟩ : Addr).block from (by show w.heap.size ≤ g2 + 2; omega)) (.slice none 0 0)).setCell (show w.heap.size ≤ (⟨g2 + 2, 1, none⟩ : Addr).block from (by show w.heap.size ≤ g2 + 2; omega)) (.slice none 0 0)).setCell (show w.heap.size ≤ (⟨g2 + 2, 2, none⟩ : Addr).block from (by show w.heap.size ≤ g2 + 2; omega)) (.slice none 0 0))
      go_wp2_with fail
      refine bodyPost_ret (results_cell_row_tmp rfl _ _ (g2 + 2) 26 #[.slice none 0 0, .slice none 0 0, .slice none 0 0] (0, 0) _ rfl HF3.out Tryz.underlying26 rfl (by kernel_rfl)) rfl ?_
      rw [HU.out]
      exact RStepPost.fail _ Hb6.out
    · clear hbt
      go_wp2_with fail
      rw [Hw4.out]
      clear bb0 bb1 bb2 f0 f1 f2 d0 d1 d2 Hw4
      refine (stepFail_any 5 _).mono ?_
      rintro e wf ⟨rfl, hbf⟩
      have SF := Lib.hid (S4.out.step hbf)
      clear hbf
      obtain ⟨k0, k1, k2⟩ := blk3 SF.out.br
      have kf0 := SF.out.br.frozen 0
      have kf1 := SF.out.br.frozen 1
      have kf2 := SF.out.br.frozen 2
      have HF3 := Lib.hid (((SF.out.br.set_ 0 (.slice none 0 0)).set_ 1 (.slice none 0 0)).set_ 2 (.slice none 0 0))
      have Hb6 := Lib.hid (((SF.out.below.setCell (show w.heap.size ≤ (⟨g2 + 2, 0, none⟩ : Addr).block from (by show w.heap.size ≤ g2 + 2; omega)) (.slice none 0 0)).setCell (show w.heap.size ≤ (⟨g2 + 2, 1, none⟩ : Addr).block from (by show w.heap.size ≤ g2 + 2; omega)) (.slice none 0 0)).setCell (show w.heap.size ≤ (⟨g2 + 2, 2, none⟩ : Addr).block from (by show w.heap.size ≤ g2 + 2; omega)) (.slice none 0 0))
      go_wp2_with fail
      refine bodyPost_ret (results_cell_row_tmp rfl _ _ (g2 + 2) 26 #[.slice none 0 0, .slice none 0 0, .slice none 0 0] (0, 0) _ rfl HF3.out Tryz.underlying26 rfl (by kernel_rfl)) rfl ?_
      rw [HU.out]
      exact RStepPost.fail _ Hb6.out
  · obtain ⟨k, rfl⟩ : ∃ k : Nat, to_ = (k : Int) := ⟨to_.toNat, by omega⟩
    have hkq : k < q := by omega
    have hkQ : k < y.net.length := by rw [← Hq.out]; exact hkq
    have h1 : ¬ (k : Int) < 0 := by omega
    have h2 : ¬ (q : Int) ≤ (k : Int) := by omega
    obtain ⟨gt, ct', hvt', _, _, _, _⟩ := own_at S4.out.own.net (by rw [← Hq.out]; omega)
    have hvt2 := HVt.out
    rw [hvt2, ← Hq.out] at hvt'
    injection hvt' with e1 e2 e3
    subst e1 e3
    clear e2 hvt2 hbt
    have hgt3 : gt ≠ g2 := hgt3 gt rfl
    by_cases h20 : q = 20
    · have HU : Hid (r = (11, .none_)) := Lib.hid (HU.out.trans (sR_double rfl (by show (0 : Int) ≤ (k : Int); omega) (by rw [Htl.out]; show (k : Int) < (q : Int); omega) (by rw [Htl.out]; exact h20)))
      have h22 : ((q : Int) == 20) = true := by simp; omega
      have h23 : (q : Int) = 20 := by omega
      clear h20
      go_wp2_with fail
      rw [Hw4.out]
      clear bb0 bb1 bb2 f0 f1 f2 d0 d1 d2 Hw4
      refine (stepFail_any 11 _).mono ?_
      rintro e wf ⟨rfl, hbf⟩
      have SF := Lib.hid (S4.out.step hbf)
      clear hbf
      obtain ⟨k0, k1, k2⟩ := blk3 SF.out.br
      have kf0 := SF.out.br.frozen 0
      have kf1 := SF.out.br.frozen 1
      have kf2 := SF.out.br.frozen 2
      have HF3 := Lib.hid (((SF.out.br.set_ 0 (.slice none 0 0)).set_ 1 (.slice none 0 0)).set_ 2 (.slice none 0 0))
      have Hb6 := Lib.hid (((SF.out.below.setCell (show w.heap.size ≤ (⟨g2 + 2, 0, none⟩ : Addr).block from (by show w.heap.size ≤ g2 + 2; omega)) (.slice none 0 0)).setCell (show w.heap.size ≤ (⟨g2 + 2, 1, none⟩ : Addr).block from (by show w.heap.size ≤ g2 + 2; omega)) (.slice none 0 0)).setCell (show w.heap.size ≤ (⟨g2 + 2, 2, none⟩ : Addr).block from (by show w.heap.size ≤ g2 + 2; omega)) (.slice none 0 0))
      go_wp2_with fail
      refine bodyPost_ret (results_cell_row_tmp rfl _ _ (g2 + 2) 26 #[.slice none 0 0, .slice none 0 0, .slice none 0 0] (0, 0) _ rfl HF3.out Tryz.underlying26 rfl (by kernel_rfl)) rfl ?_
      rw [HU.out]
      exact RStepPost.fail _ Hb6.out
    · have hmD : msAt y.wd k = msOf y.net[k] := by simp [msAt, Wx.wd, List.getD_eq_getElem?_getD, hkQ]
      have HU : Hid (r = (0, ⟨y.wd.nodes, y.wd.clock, y.wd.net ++ [msOf y.net[k]]⟩)) := Lib.hid (by rw [HU.out.trans (sR_double' rfl (by show (0 : Int) ≤ (k : Int); omega) (by rw [Htl.out]; show (k : Int) < (q : Int); omega) (by rw [Htl.out]; exact h20))]; simp only [Int.toNat_natCast]; rw [hmD])
      have h22 : ((q : Int) == 20) = false := by simp; omega
      have h23 : ¬ (q : Int) = 20 := by omega
      have hcellM := own_msg (by have := S4.out.own.net; rw [HVt.out, ← Hq.out] at this; exact this) Hq.out.symm hkQ
      have HMix := Lib.hid (S4.out.own.ms y.net[k] (List.getElem_mem hkQ))
      obtain ⟨nd, hnd⟩ : ∃ nd, nd = y.net[k] := ⟨_, rfl⟩
      have Hnd : Hid (nd ∈ y.net) := Lib.hid (by rw [hnd]; exact List.getElem_mem hkQ)
      rw [← hnd] at HU hcellM HMix
      obtain ⟨tm, ⟨A', n', c'⟩, fl⟩ := nd
      simp only [slv] at hcellM HMix
      have HM0 := Lib.hid hcellM.1
      have HM1 := Lib.hid hcellM.2
      have HS : Hid (∀ W, Below w4.heap.size w4 W → W.cell? ⟨g2, 2, none⟩ = some (.slice (some ⟨gt, 0, none⟩) q ct) ∧ W.cell? ⟨g2 + 1, 2, none⟩ = some (.int .i64 (k : Int)) ∧ W.cell? ⟨gt, k * 2, none⟩ = some (.int .i64 tm) ∧ W.cell? ⟨gt, k * 2 + 1, none⟩ = some (.slice A' n' c')) := Lib.hid (fun W hb => ⟨by rw [(HB4.out.below hb HB4.out.lt).cell]; rfl, by rw [(S4.out.step hb).bx.cell]; rfl, cell_below hb HM0.out, cell_below hb HM1.out⟩)
      have HS8 : Hid (∀ W, Blk W g2 26 #[.slice (some ⟨gn, 0, none⟩) n cn, .slice (some ⟨gc, 0, none⟩) n cc, .slice (some ⟨gt, 0, none⟩) q ct] → W.cell? ⟨gt, k * 2, none⟩ = some (.int .i64 tm) → W.cell? ⟨gt, k * 2 + 1, none⟩ = some (.slice A' n' c') → (∀ g t cs, Blk w4 g t cs → t ∉ [54] → Blk W g t cs) → W.cell? ⟨g2, 2, none⟩ = some (.slice (some ⟨gt, 0, none⟩) q ct) ∧ W.cell? ⟨g2 + 1, 2, none⟩ = some (.int .i64 (k : Int)) ∧ W.cell? ⟨gt, k * 2, none⟩ = some (.int .i64 tm) ∧ W.cell? ⟨gt, k * 2 + 1, none⟩ = some (.slice A' n' c')) := Lib.hid (fun W hbw c0 c1 hb => ⟨by rw [hbw.cell]; rfl, by rw [(hb _ _ _ S4.out.bx (by decide)).cell]; rfl, c0, c1⟩)
      have hin := msg_in y.net hkQ
      rw [← hnd] at hin
      simp only [slv] at hin
      have HC0 := Lib.hid hin.1
      have HC1 := Lib.hid hin.2
      clear hin hmD h20 hnd hcellM
      go_wp2_with fail
      rw [Hw4.out]
      clear bb0 bb1 bb2 f0 f1 f2 d0 d1 d2 Hw4
      refine wp_region_S (fun W => W.cell? ⟨g2, 2, none⟩ = some (.slice (some ⟨gt, 0, none⟩) q ct) ∧ W.cell? ⟨g2 + 1, 2, none⟩ = some (.int .i64 (k : Int)) ∧ W.cell? ⟨gt, k * 2, none⟩ = some (.int .i64 tm) ∧ W.cell? ⟨gt, k * 2 + 1, none⟩ = some (.slice A' n' c')) 11 (by kernel_rfl) ?_
      obtain ⟨w5, hw5⟩ : ∃ w5, w5 = w4.drew := ⟨_, rfl⟩
      have hb5 : Below w4.heap.size w4 w5 := by rw [hw5]; exact (Below.refl _ _).drew
      have S5 := Lib.hid (S4.out.step hb5)
      have HB5 := Lib.hid (HB4.out.below hb5 HB4.out.lt)
      have HS := Lib.hid (fun W (hb : Below w5.heap.size w5 W) => HS.out W (hb5.trans (hb.mono hb5.size)))
      rw [← hw5]
      have hHeld := HS.out w5 (Below.refl _ _)
      have Hb5' := Lib.hid hb5
      clear hw5 hb5
      refine wpAnyS_take (i := 0) (v := ?v0) (by kernel_rfl) rfl (by kernel_rfl) (by kernel_rfl) (by kernel_rfl) (fun _ _ _ h => h) (by rfl) (by assumption) ?hy0 ?rest0
      case hy0 => (intro W hSW; (try dsimp only at hSW); go_simp; try with_reducible rfl)
      (try simp only [Act.put, List.getElem_toArray, List.getElem_cons_zero, List.getElem_cons_succ, List.setIfInBounds_toArray, List.set_cons_zero, List.set_cons_succ])
      refine wpAnyS_take (i := 1) (v := ?v1) (by kernel_rfl) rfl (by kernel_rfl) (by kernel_rfl) (by kernel_rfl) (fun _ _ _ h => h) (by rfl) (by assumption) ?hy1 ?rest1
      case hy1 => (intro W hSW; (try dsimp only at hSW); go_simp; try with_reducible rfl)
      (try simp only [Act.put, List.getElem_toArray, List.getElem_cons_zero, List.getElem_cons_succ, List.setIfInBounds_toArray, List.set_cons_zero, List.set_cons_succ])
      refine wpAnyS_take (i := 2) (v := ?v2) (by kernel_rfl) rfl (by kernel_rfl) (by kernel_rfl) (by kernel_rfl) (fun _ _ _ h => h) (by rfl) (by assumption) ?hy2 ?rest2
      case hy2 => (intro W hSW; (try dsimp only at hSW); go_simp; try with_reducible rfl)
      (try simp only [Act.put, List.getElem_toArray, List.getElem_cons_zero, List.getElem_cons_succ, List.setIfInBounds_toArray, List.set_cons_zero, List.set_cons_succ])
      refine wpAnyS_take (i := 3) (v := ?v3) (by kernel_rfl) rfl (by kernel_rfl) (by kernel_rfl) (by kernel_rfl) (fun _ _ _ h => h) (by rfl) (by assumption) ?hy3 ?rest3
      case hy3 => (intro W hSW; (try dsimp only at hSW); go_simp; try with_reducible rfl)
      (try simp only [Act.put, List.getElem_toArray, List.getElem_cons_zero, List.getElem_cons_succ, List.setIfInBounds_toArray, List.set_cons_zero, List.set_cons_succ])
      refine wpAnyS_take (i := 4) (v := ?v4) (by kernel_rfl) rfl (by kernel_rfl) (by kernel_rfl) (by kernel_rfl) (fun _ _ _ h => h) (by rfl) (by assumption) ?hy4 ?rest4
      case hy4 => (intro W hSW; (try dsimp only at hSW); go_simp; try with_reducible rfl)
      (try simp only [Act.put, List.getElem_toArray, List.getElem_cons_zero, List.getElem_cons_succ, List.setIfInBounds_toArray, List.set_cons_zero, List.set_cons_succ])
      refine wpAnyS_take (i := 5) (v := ?v5) (by kernel_rfl) rfl (by kernel_rfl) (by kernel_rfl) (by kernel_rfl) (fun _ _ _ h => h) (by rfl) (by assumption) ?hy5 ?rest5
      case hy5 => (intro W hSW; (try dsimp only at hSW); go_simp; try with_reducible rfl)
      (try simp only [Act.put, List.getElem_toArray, List.getElem_cons_zero, List.getElem_cons_succ, List.setIfInBounds_toArray, List.set_cons_zero, List.set_cons_succ])
      refine wpAnyS_take (i := 6) (v := ?v6) (by kernel_rfl) rfl (by kernel_rfl) (by kernel_rfl) (by kernel_rfl) (fun _ _ _ h => h) (by rfl) (by assumption) ?hy6 ?rest6
      case hy6 => (intro W hSW; (try dsimp only at hSW); go_simp; try with_reducible rfl)
      (try simp only [Act.put, List.getElem_toArray, List.getElem_cons_zero, List.getElem_cons_succ, List.setIfInBounds_toArray, List.set_cons_zero, List.set_cons_succ])
      refine wpAnyS_take (i := 7) (v := ?v7) (by kernel_rfl) rfl (by kernel_rfl) (by kernel_rfl) (by kernel_rfl) (fun _ _ _ h => h) (by rfl) (by assumption) ?hy7 ?rest7
      case hy7 => (intro W hSW; (try dsimp only at hSW); go_simp; try with_reducible rfl)
      (try simp only [Act.put, List.getElem_toArray, List.getElem_cons_zero, List.getElem_cons_succ, List.setIfInBounds_toArray, List.set_cons_zero, List.set_cons_succ])
      refine wpAnyS_only (i := 8) rfl (by kernel_rfl) (fun K hK => ?_)
      go_simp
      clear hHeld
      obtain ⟨w7, hw7⟩ : ∃ w7, w7 = w5.alloc (.cells #[.int .i64 tm, .slice A' n' c'] 54) := ⟨_, rfl⟩
      obtain ⟨g7, hg7⟩ : ∃ g7, g7 = w5.heap.size := ⟨_, rfl⟩
      have Hb7 : Hid (Below w5.heap.size w5 w7) := Lib.hid (by rw [hw7]; exact (Below.refl _ _).alloc (Nat.le_refl _) _)
      have Hs7 : Hid (SlAt w7 (some ⟨g7, 0, none⟩) [.int .i64 tm, .slice A' n' c']) := Lib.hid (by rw [hw7, hg7]; exact SlAt.of_heap (heap_alloc_new _ _) rfl)
      rw [← hw7, ← hg7]
      refine hK.out _ _ (HS.out _ Hb7.out) (fun hHeld => ?_)
      have S7 := Lib.hid (S5.out.step Hb7.out)
      have HB7 := Lib.hid (HB5.out.below Hb7.out HB5.out.lt)
      have Hbs7 : Hid (w.heap.size ≤ w7.heap.size) := Lib.hid S7.out.below.size
      have HO7 := Lib.hid (show w7.ownsRow w.heap.size 54 2 (.slice (some ⟨gt, 0, none⟩) q ct) q (y.net.flatMap mC) by have := S7.out.own.net; rwa [HVt.out, ← Hq.out] at this)
      clear hw7 hg7
      clear hK K
      (try simp only [Act.put, List.getElem_toArray, List.getElem_cons_zero, List.getElem_cons_succ, List.setIfInBounds_toArray, List.set_cons_zero, List.set_cons_succ])
      refine wpAnyS_only (i := 9) rfl (by kernel_rfl) (fun K hK => ?_)
      refine step_old rfl (.tmp 312) (.tmp 319) _ rfl w.heap.size 54 _ 2 32 tyM gt q ct (y.net.flatMap mC) (by simp [Act.eval]) HO7.out g7 1 1 [.int .i64 tm, .slice A' n' c'] (by simp [Act.eval]) rfl (fun j u hj => slat_cells Hs7.out j u hj) (by simp [Value.oneCell']) (by unfold maxLen; omega) (by omega) Hbs7.out ?_
      intro v8 w8 hown8 hg8 hold8
      obtain ⟨A8, d8, rfl, _⟩ := own_slat hown8
      have hKp : Keeps w.heap.size [54] w7 w8 := (Keeps.refl _ _ _).grown HO7.out hg8 (by simp) Hbs7.out
      have HKp := Lib.hid hKp
      have HB8 := Lib.hid (hKp.blk HB7.out (by decide))
      have HBr8 := Lib.hid (hKp.blk S7.out.br (by decide))
      have Hb8 : Hid (Below w.heap.size w w8) := Lib.hid (S7.out.below.trans hKp.below)
      have HM8 := Lib.hid (MixW.newNet S7.out.own hKp (.slice A8 (q + 1) d8) (y.net ++ [(tm, (A', n', c'), fl)]) (by simpa [mC, slv, ← Hq.out] using hown8) (fun m hm => by
        rcases List.mem_append.1 hm with h1 | h1
        · exact .inl h1
        · rw [List.mem_singleton] at h1
          subst h1
          exact .inl Hnd.out))
      have HS8' := HS8.out w8 HB8.out (hold8 _ _ HC0.out) (hold8 _ _ HC1.out) (fun g t cs h ht => hKp.blk ((h.below Hb5'.out h.lt).below Hb7.out (h.below Hb5'.out h.lt).lt) ht)
      clear hown8 hg8 hKp hHeld
      refine hK.out _ _ HS8' (fun hHeld => ?_)
      clear HS8'
      clear hK K
      (try simp only [Act.put, List.getElem_toArray, List.getElem_cons_zero, List.getElem_cons_succ, List.setIfInBounds_toArray, List.set_cons_zero, List.set_cons_succ])
      refine wpAnyS_only (i := 10) rfl (by kernel_rfl) (fun K hK => ?_)
      go_simp
      have hHeld' := hHeld
      clear hHeld
      refine hK.out _ _ hHeld' (fun hHeld => ?_)
      clear hHeld'
      clear hK K
      (try simp only [Act.put, List.getElem_toArray, List.getElem_cons_zero, List.getElem_cons_succ, List.setIfInBounds_toArray, List.set_cons_zero, List.set_cons_succ])
      have c8 := (blk3 HB8.out).2.2
      have f8 := HB8.out.frozen 2
      refine wpAnyS_last rfl (by kernel_rfl) (by kernel_rfl) (fun K hK => ?_)
      go_simp
      refine hK.out _ _ ?_
      clear hK K
      obtain ⟨y2, hy2⟩ : ∃ y2 : Wx, y2 = { y with vt := .slice A8 (q + 1) d8, net := y.net ++ [(tm, (A', n', c'), fl)] } := ⟨_, rfl⟩
      obtain ⟨wF, hwF⟩ : ∃ wF, wF = World.setCell w8 ⟨g2, 2, none⟩ (.slice A8 (q + 1) d8) := ⟨_, rfl⟩
      have hwg : w.heap.size ≤ g2 := by omega
      have HBF : Hid (Blk wF g2 26 #[.slice (some ⟨gn, 0, none⟩) n cn, .slice (some ⟨gc, 0, none⟩) n cc, .slice A8 (q + 1) d8]) := Lib.hid (by rw [hwF]; exact HB8.out.set_ 2 (.slice A8 (q + 1) d8))
      have HM2 : Hid (MixW wF w.heap.size b0 y2) := Lib.hid (by
        rw [hwF, hy2]
        exact HM8.out.keeps ((Keeps.refl w.heap.size [26] _).setBlk HB8.out (by simp) hwg 2 (.slice A8 (q + 1) d8)) (by decide) (by decide) (by decide) (by decide) (by decide))
      have SF : Hid (FinR b0 w wF g2 y2) := Lib.hid ⟨by rw [hwF]; exact Hb8.out.setCell (show w.heap.size ≤ (⟨g2, 2, none⟩ : Addr).block from hwg) _,
        by rw [hy2]; dsimp only; rw [HVn.out, HVc.out]; exact HBF.out, by rw [hwF]; exact HBr8.out.far (p := ⟨g2, 2, none⟩) (show g2 + 2 ≠ g2 by omega) _,
        fun w' hk => (HM2.out.lower hb0).stay hk⟩
      have HwF := Lib.hid hwF.symm
      have HY2 := Lib.hid hy2
      clear hwF hy2
      rw [HwF.out]
      clear HwF HB8 HM8 HBr8 Hb8
      obtain ⟨e0, e1, e2⟩ := blk3 HBF.out
      obtain ⟨k0, k1, k2⟩ := blk3 SF.out.br
      have kf0 := SF.out.br.frozen 0
      have kf1 := SF.out.br.frozen 1
      have kf2 := SF.out.br.frozen 2
      have hwg2 : w.heap.size ≤ g2 + 2 := by omega
      have HF1 := Lib.hid (SF.out.br.set_ 0 (.slice (some ⟨gn, 0, none⟩) n cn))
      have HF2 := Lib.hid (HF1.out.set_ 1 (.slice (some ⟨gc, 0, none⟩) n cc))
      have HF3 := Lib.hid (HF2.out.set_ 2 (.slice A8 (q + 1) d8))
      have HK := Lib.hid ((((Keeps.refl w.heap.size [26] _).setBlk SF.out.br (by simp) hwg2 0 (.slice (some ⟨gn, 0, none⟩) n cn)).setBlk HF1.out (by simp) hwg2 1 (.slice (some ⟨gc, 0, none⟩) n cc)).setBlk HF2.out (by simp) hwg2 2 (.slice A8 (q + 1) d8))
      have Hb6 := Lib.hid (((SF.out.below.setCell (show w.heap.size ≤ (⟨g2 + 2, 0, none⟩ : Addr).block from hwg2) (.slice (some ⟨gn, 0, none⟩) n cn)).setCell (show w.heap.size ≤ (⟨g2 + 2, 1, none⟩ : Addr).block from hwg2) (.slice (some ⟨gc, 0, none⟩) n cc)).setCell (show w.heap.size ≤ (⟨g2 + 2, 2, none⟩ : Addr).block from hwg2) (.slice A8 (q + 1) d8))
      go_wp2_with fail
      all_goals (
        skip
        refine bodyPost_ret (results_cell_row_tmp rfl _ _ (g2 + 2) 26 #[.slice (some ⟨gn, 0, none⟩) n cn, .slice (some ⟨gc, 0, none⟩) n cc, .slice A8 (q + 1) d8] (0, 0) _ rfl HF3.out Tryz.underlying26 rfl (by kernel_rfl)) rfl ?_
        rw [HU.out]
        exact ⟨y2, by rw [HY2.out]; unfold wV; dsimp only; rw [HVn.out, HVc.out]; rfl, fun w'' hk => SF.out.lie _ ((HK.out.mono hb0 (fun t ht => by rw [List.mem_singleton] at ht; subst ht; simp [T0])).trans hk), by rw [HY2.out]; simp [Wx.wd, msOf], Hb6.out⟩)
end Go.Proofs.YtdoegpklephelaaGreatDoor.Worlds
