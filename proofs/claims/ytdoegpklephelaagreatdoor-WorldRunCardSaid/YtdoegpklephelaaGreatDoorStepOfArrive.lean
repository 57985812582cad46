/- reliquaryref.StepOf: arrive. -/
import Derived.Test.YtdoegpklephelaaGreatDoorStepParts
namespace Go.Proofs.YtdoegpklephelaaGreatDoor.Worlds
open Go Go.RowKit Go.Proofs.YtdoegpklephelaaGreatDoor Go.Proofs.YtdoegpklephelaaGreatDoor.Name Go.Proofs.YtdoegpklephelaaGreatDoor.Merge
set_option linter.unusedVariables false
set_option linter.unusedSimpArgs false

set_option maxRecDepth 100000 in
set_option maxHeartbeats 2000000 in
theorem stepOf_arrive (x : Wx) (h : Hx) (w : World) (hml : ML w) (hx : IsWorld w x) (hwd : WdK sizedK x) (hok : WOk x.wd) (hh : HapAt w h) (b0 : Nat) (hb0 : b0 ≤ w.heap.size) (hlow : h.1.bytes ≠ [] → ∀ a, h.2.1 = some a → a.block < b0) (hkind : h.1.kind = 4) :
    Calls Tryz.prog 12 #[wV x, hV h] w (RStepPost b0 (stepR x.wd h.1) w) := by
  obtain ⟨r, hr⟩ : ∃ r, r = stepR x.wd h.1 := ⟨_, rfl⟩
  have HU := Lib.hid hr
  rw [← hr]
  clear hr
  have HML := Lib.hid hml
  have HX := Lib.hid hx
  have HH := Lib.hid hh
  have HOK := Lib.hid hok
  obtain ⟨⟨An, cn, hvn, _⟩, ⟨Ac, cc, hvc, _⟩, ⟨At, ct, hvt, _⟩⟩ := hx
  obtain ⟨nl, hnl⟩ : ∃ nl, nl = x.nodes.length := ⟨_, rfl⟩
  obtain ⟨cl, hcl⟩ : ∃ cl, cl = x.clock.length := ⟨_, rfl⟩
  obtain ⟨tl, htl⟩ : ∃ tl, tl = x.net.length := ⟨_, rfl⟩
  rw [← hnl] at hvn
  rw [← hcl] at hvc
  rw [← htl] at hvt
  have hV0 : wV x = .agg #[.slice An nl cn, .slice Ac cl cc, .slice At tl ct] := by unfold wV; rw [hvn, hvc, hvt]
  have HV0 := Lib.hid hV0
  rw [hV0]
  clear hml hvn hvc hvt hnl hcl htl hV0 hh hok
  obtain ⟨⟨kind, node, to_, nm, bytes⟩, Ab, nb, cb⟩ := h
  unfold hV slv
  dsimp only at HU HH hkind hlow ⊢
  have Hlow := Lib.hid hlow
  clear hlow
  subst hkind
  obtain ⟨g2, hg2⟩ : ∃ g2, g2 = w.heap.size := ⟨_, rfl⟩
  obtain ⟨w1, hw1⟩ : ∃ w1, w1 = ((w.alloc (.cells #[.slice An nl cn, .slice Ac cl cc, .slice At tl ct] 26)).alloc (.cells #[.int .i64 4, .int .i64 node, .int .i64 to_, .string (strB nm), .slice Ab nb cb] 29)).alloc (.cells #[.slice none 0 0, .slice none 0 0, .slice none 0 0] 26) := ⟨_, rfl⟩
  have hb1 : Below w.heap.size w w1 := by rw [hw1]; exact (((Below.refl _ _).alloc (Nat.le_refl _) _).alloc (by simp) _).alloc (by simp; omega) _
  have B2 : Blk w1 g2 26 #[.slice An nl cn, .slice Ac cl cc, .slice At tl ct] := by rw [hw1, hg2]; exact ((Blk.new _ _ _).alloc _).alloc _
  have B3 : Blk w1 (g2 + 1) 29 #[.int .i64 4, .int .i64 node, .int .i64 to_, .string (strB nm), .slice Ab nb cb] := by
    rw [hw1, hg2, show w.heap.size + 1 = (w.alloc (.cells #[.slice An nl cn, .slice Ac cl cc, .slice At tl ct] 26)).heap.size by simp]
    exact (Blk.new _ _ _).alloc _
  have B4 : Blk w1 (g2 + 2) 26 #[.slice none 0 0, .slice none 0 0, .slice none 0 0] := by
    rw [hw1, hg2, show w.heap.size + 2 = ((w.alloc (.cells #[.slice An nl cn, .slice Ac cl cc, .slice At tl ct] 26)).alloc (.cells #[.int .i64 4, .int .i64 node, .int .i64 to_, .string (strB nm), .slice Ab nb cb] 29)).heap.size by simp]
    exact Blk.new _ _ _
  have HB2 := Lib.hid B2
  have HB3 := Lib.hid B3
  have HB4 := Lib.hid B4
  have Hb1 := Lib.hid hb1
  have Hw1 := Lib.hid hw1.symm
  have Hg2 := Lib.hid hg2.symm
  have HC := Lib.hid (ownWorld_any x w1 (HX.out.below hb1) hwd)
  rw [HV0.out] at HC
  clear B2 B3 B4 hb1 hw1 hg2 HV0 hwd
  unfold WorldPost at HC
  unfold RStepPost
  obtain ⟨a0, a1, a2⟩ := blk3 HB2.out
  go_enter Tryz.func12, Tryz.ntmps12
  go_wp2_with fail
  rw [Hw1.out, Hg2.out]
  refine (HC.out).mono ?_
  rintro e w3 ⟨y, rfl, hy, hyd, hb3⟩
  have Hb3 := Lib.hid (Hb1.out.trans (hb3.mono Hb1.out.size))
  have hwg : w.heap.size ≤ g2 := by have := Hg2.out; omega
  have HB3 := Lib.hid (HB3.out.below hb3 HB3.out.lt)
  have HB4 := Lib.hid (HB4.out.below hb3 HB4.out.lt)
  have HB2 := Lib.hid (HB2.out.below hb3 HB2.out.lt)
  have HY := Lib.hid (hy.base_ Hb1.out.size)
  rw [← hyd] at HU HOK
  clear a0 a1 a2 HC hb3 hy hyd HX Hw1 Hg2 Hb1
  obtain ⟨yvn, ynodes, yvc, yclock, yvt, ynet⟩ := y
  have hsome : 1 ≤ ynodes.length := by have := HOK.out.some_; simpa [Wx.wd] using this
  have hcl : yclock.length = ynodes.length := by have := HOK.out.clock; simpa [Wx.wd] using this
  obtain ⟨gn, cn, h1, _, _, _, _⟩ := own_at HY.out.nodes (by show 0 < ynodes.length; omega)
  obtain ⟨gc, cc, h2, _, _, _, _⟩ := own_at HY.out.clock (by show 0 < yclock.length; omega)
  obtain ⟨At, ct, h3, _⟩ := own_slat HY.out.net
  dsimp only at h1 h2 h3
  subst h1 h2 h3
  have HY1 := Lib.hid (HY.out.set_ HB2.out (by decide) (by decide) (by decide) (by decide) (by decide) 0 (.slice (some ⟨gn, 0, none⟩) ynodes.length cn))
  have HD1 := Lib.hid (HB2.out.set_ 0 (.slice (some ⟨gn, 0, none⟩) ynodes.length cn))
  have HY2 := Lib.hid (HY1.out.set_ HD1.out (by decide) (by decide) (by decide) (by decide) (by decide) 1 (.slice (some ⟨gc, 0, none⟩) yclock.length cc))
  have HD2 := Lib.hid (HD1.out.set_ 1 (.slice (some ⟨gc, 0, none⟩) yclock.length cc))
  have HY3 := Lib.hid (HY2.out.set_ HD2.out (by decide) (by decide) (by decide) (by decide) (by decide) 2 (.slice At ynet.length ct))
  have HD3 := Lib.hid (HD2.out.set_ 2 (.slice At ynet.length ct))
  have Hb4 := Lib.hid (((Hb3.out.setCell (show w.heap.size ≤ (⟨g2, 0, none⟩ : Addr).block from hwg) (.slice (some ⟨gn, 0, none⟩) ynodes.length cn)).setCell (show w.heap.size ≤ (⟨g2, 1, none⟩ : Addr).block from hwg) (.slice (some ⟨gc, 0, none⟩) yclock.length cc)).setCell (show w.heap.size ≤ (⟨g2, 2, none⟩ : Addr).block from hwg) (.slice At ynet.length ct))
  have HE3 := Lib.hid (((HB3.out.far (p := ⟨g2, 0, none⟩) (show g2 + 1 ≠ g2 by omega) (.slice (some ⟨gn, 0, none⟩) ynodes.length cn)).far (p := ⟨g2, 1, none⟩) (show g2 + 1 ≠ g2 by omega) (.slice (some ⟨gc, 0, none⟩) yclock.length cc)).far (p := ⟨g2, 2, none⟩) (show g2 + 1 ≠ g2 by omega) (.slice At ynet.length ct))
  have HE4 := Lib.hid (((HB4.out.far (p := ⟨g2, 0, none⟩) (show g2 + 2 ≠ g2 by omega) (.slice (some ⟨gn, 0, none⟩) ynodes.length cn)).far (p := ⟨g2, 1, none⟩) (show g2 + 2 ≠ g2 by omega) (.slice (some ⟨gc, 0, none⟩) yclock.length cc)).far (p := ⟨g2, 2, none⟩) (show g2 + 2 ≠ g2 by omega) (.slice At ynet.length ct))
  obtain ⟨bb0, bb1, bb2⟩ := blk3 HB2.out
  have f0 := HB2.out.frozen 0
  have f1 := HB2.out.frozen 1
  have f2 := HB2.out.frozen 2
  have d0 : w3.cell? ⟨g2 + 1, 0, none⟩ = some (.int .i64 4) := by rw [HB3.out.cell]; rfl
  have d1 : w3.cell? ⟨g2 + 1, 1, none⟩ = some (.int .i64 node) := by rw [HB3.out.cell]; rfl
  have d2 : w3.cell? ⟨g2 + 1, 2, none⟩ = some (.int .i64 to_) := by rw [HB3.out.cell]; rfl
  obtain ⟨w4, hw4⟩ : ∃ w4, w4 = ((w3.setCell ⟨g2, 0, none⟩ (.slice (some ⟨gn, 0, none⟩) ynodes.length cn)).setCell ⟨g2, 1, none⟩ (.slice (some ⟨gc, 0, none⟩) yclock.length cc)).setCell ⟨g2, 2, none⟩ (.slice At ynet.length ct) := ⟨_, rfl⟩
  rw [← hw4] at HY3 HD3 Hb4 HE3 HE4
  have S4 := Lib.hid (show StR b0 w w4 g2 ⟨.slice (some ⟨gn, 0, none⟩) ynodes.length cn, ynodes, .slice (some ⟨gc, 0, none⟩) yclock.length cc, yclock, .slice At ynet.length ct, ynet⟩ (⟨4, node, to_, nm, bytes⟩, Ab, nb, cb) from ⟨Hb4.out, HD3.out, HE3.out, HE4.out, .of_own HY3.out⟩)
  have Hw4 := Lib.hid hw4.symm
  unfold wV
  dsimp only
  obtain ⟨y, hy⟩ : ∃ y : Wx, y = ⟨.slice (some ⟨gn, 0, none⟩) ynodes.length cn, ynodes, .slice (some ⟨gc, 0, none⟩) yclock.length cc, yclock, .slice At ynet.length ct, ynet⟩ := ⟨_, rfl⟩
  obtain ⟨n, hn⟩ : ∃ n, n = ynodes.length := ⟨_, rfl⟩
  obtain ⟨q, hq⟩ : ∃ q, q = ynet.length := ⟨_, rfl⟩
  have HVn : Hid (y.vn = .slice (some ⟨gn, 0, none⟩) n cn) := Lib.hid (by rw [hy, hn])
  have HVc : Hid (y.vc = .slice (some ⟨gc, 0, none⟩) n cc) := Lib.hid (by rw [hy, hn, ← hcl])
  have HVt : Hid (y.vt = .slice At q ct) := Lib.hid (by rw [hy, hq])
  have Hn : Hid (n = y.nodes.length) := Lib.hid (by rw [hy, hn])
  have Hq : Hid (q = y.net.length) := Lib.hid (by rw [hy, hq])
  have Hlen : Hid (y.clock.length = y.nodes.length) := Lib.hid (by rw [hy]; exact hcl)
  have Hnl : Hid (y.wd.nodes.length = n) := Lib.hid (by rw [hy, hn]; simp [Wx.wd])
  have Htl : Hid (y.wd.net.length = q) := Lib.hid (by rw [hy, hq]; simp [Wx.wd])
  have Hvn : Hid (y.vn = .slice (some ⟨gn, 0, none⟩) y.nodes.length cn) := Lib.hid (by rw [hy])
  have Hvc : Hid (y.vc = .slice (some ⟨gc, 0, none⟩) y.clock.length cc) := Lib.hid (by rw [hy])
  have hgn3 : gn ≠ g2 := fun e => own_ne HY.out.nodes HB2.out (by decide) (by rw [e]; rfl)
  have hgt3 : ∀ gt, At = some ⟨gt, 0, none⟩ → gt ≠ g2 := fun gt e1 e => own_ne HY.out.net HB2.out (by decide) (by rw [e1, e]; rfl)
  rw [← hy] at S4 HU HOK HY
  rw [← hn, hcl, ← hn, ← hq] at Hw4
  rw [← hn, hcl, ← hn, ← hq]
  rw [← hn] at hsome
  have hfew : n ≤ 4 := by rw [← Hnl.out]; exact HOK.out.few
  have hnet : q ≤ 20 := by rw [← Htl.out]; exact HOK.out.net
  have HB4 : Hid (Blk w4 g2 26 #[.slice (some ⟨gn, 0, none⟩) n cn, .slice (some ⟨gc, 0, none⟩) n cc, .slice At q ct]) := Lib.hid (by rw [← HVn.out, ← HVc.out, ← HVt.out]; exact S4.out.bw)
  clear hw4 HY1 HY2 HY3 HD1 HD2 HD3 HE3 HE4 Hb4 Hb3 HB2 HB3 hy hn hq hcl
  by_cases hbt : to_ < 0 ∨ (q : Int) ≤ to_
  · have HU := Lib.hid (HU.out.trans (sR_msg (by simp) (by simp) (by rw [Htl.out]; exact hbt)))
    rcases (by omega : to_ < 0 ∨ (¬ to_ < 0 ∧ (q : Int) ≤ to_)) with h1 | ⟨h1, h2⟩
    · clear hbt
      go_wp2_with fail
      rw [Hw4.out]
      clear bb0 bb1 bb2 f0 f1 f2 d0 d1 d2 Hw4
      refine (stepFail_any 5 _).mono ?_
      rintro e wf ⟨rfl, hbf⟩
      have SF := Lib.hid (S4.out.step hbf)
      clear hbf
      obtain ⟨k0, k1, k2⟩ := blk3 SF.out.br
      have kf0 := SF.out.br.frozen 0
      have kf1 := SF.out.br.frozen 1
      have kf2 := SF.out.br.frozen 2
      have HF3 := Lib.hid (((SF.out.br.set_ 0 (.slice none 0 0)).set_ 1 (.slice none 0 0)).set_ 2 (.slice none 0 0))
      have Hb6 := Lib.hid (((SF.out.below.setCell (show w.heap.size ≤ (⟨g2 + 2, 0, none⟩ : Addr).block from (by show w.heap.size ≤ g2 + 2; omega)) (.slice none 0 0)).setCell (show w.heap.size ≤ (⟨g2 + 2, 1, none⟩ : Addr).block from (by show w.heap.size ≤ g2 + 2; omega)) (.slice none 0 0)).setCell (show w.heap.size ≤ (⟨g2 + 2, 2, none⟩ : Addr).block from (by show w.heap.size ≤ g2 + 2; omega)) (.slice none 0 0))
      go_wp2_with fail
      refine bodyPost_ret (results_cell_row_tmp rfl _ _ (g2 + 2) 26 #[.slice none 0 0, .slice none 0 0, .slice none 0 0] (0, 0) _ rfl HF3.out Tryz.underlying26 rfl (by kernel_rfl)) rfl ?_
      rw [HU.out]
      exact RStepPost.fail _ Hb6.out
    · clear hbt
      go_wp2_with fail
      rw [Hw4.out]
      clear bb0 bb1 bb2 f0 f1 f2 d0 d1 d2 Hw4
      refine (stepFail_any 5 _).mono ?_
      rintro e wf ⟨rfl, hbf⟩
      have SF := Lib.hid (S4.out.step hbf)
      clear hbf
      obtain ⟨k0, k1, k2⟩ := blk3 SF.out.br
      have kf0 := SF.out.br.frozen 0
      have kf1 := SF.out.br.frozen 1
      have kf2 := SF.out.br.frozen 2
      have HF3 := Lib.hid (((SF.out.br.set_ 0 (.slice none 0 0)).set_ 1 (.slice none 0 0)).set_ 2 (.slice none 0 0))
      have Hb6 := Lib.hid (((SF.out.below.setCell (show w.heap.size ≤ (⟨g2 + 2, 0, none⟩ : Addr).block from (by show w.heap.size ≤ g2 + 2; omega)) (.slice none 0 0)).setCell (show w.heap.size ≤ (⟨g2 + 2, 1, none⟩ : Addr).block from (by show w.heap.size ≤ g2 + 2; omega)) (.slice none 0 0)).setCell (show w.heap.size ≤ (⟨g2 + 2, 2, none⟩ : Addr).block from (by show w.heap.size ≤ g2 + 2; omega)) (.slice none 0 0))
      go_wp2_with fail
      refine bodyPost_ret (results_cell_row_tmp rfl _ _ (g2 + 2) 26 #[.slice none 0 0, .slice none 0 0, .slice none 0 0] (0, 0) _ rfl HF3.out Tryz.underlying26 rfl (by kernel_rfl)) rfl ?_
      rw [HU.out]
      exact RStepPost.fail _ Hb6.out
  · obtain ⟨k, rfl⟩ : ∃ k : Nat, to_ = (k : Int) := ⟨to_.toNat, by omega⟩
    have hkq : k < q := by omega
    have hkQ : k < y.net.length := by rw [← Hq.out]; exact hkq
    have h1 : ¬ (k : Int) < 0 := by omega
    have h2 : ¬ (q : Int) ≤ (k : Int) := by omega
    obtain ⟨gt, ct', hvt', _, _, _, _⟩ := own_at S4.out.own.net (by rw [← Hq.out]; omega)
    have hvt2 := HVt.out
    rw [hvt2, ← Hq.out] at hvt'
    injection hvt' with e1 e2 e3
    subst e1 e3
    clear e2 hvt2 hbt
    have hgt3 : gt ≠ g2 := hgt3 gt rfl
    have hmD : msAt y.wd k = msOf y.net[k] := by simp [msAt, Wx.wd, List.getD_eq_getElem?_getD, hkQ]
    have hMs := HOK.out.ms (msOf y.net[k]) (by simp only [Wx.wd]; exact List.mem_map_of_mem (List.getElem_mem hkQ))
    have hU := HU.out.trans (sR_arrive rfl (by show (0 : Int) ≤ (k : Int); omega) (by rw [Htl.out]; show (k : Int) < (q : Int); omega))
    simp only [Int.toNat_natCast] at hU
    have hcellM := own_msg (by have := S4.out.own.net; rw [HVt.out, ← Hq.out] at this; exact this) Hq.out.symm hkQ
    obtain ⟨nd, hnd⟩ : ∃ nd, nd = y.net[k] := ⟨_, rfl⟩
    have Hmem : Hid (nd ∈ y.net) := Lib.hid (by rw [hnd]; exact List.getElem_mem hkQ)
    rw [← hnd] at hmD hMs hcellM
    rw [Hnl.out] at hMs
    obtain ⟨tm, ⟨Am, nmm, cm⟩, fm⟩ := nd
    simp only [slv] at hcellM
    obtain ⟨hMs1, hMs2, hMs3⟩ := hMs
    simp only [msOf] at hMs1 hMs2 hMs3 hmD
    obtain ⟨t, rfl⟩ : ∃ t : Nat, tm = (t : Int) := ⟨tm.toNat, by omega⟩
    have htn : t < n := by omega
    have htN : t < y.nodes.length := by rw [← Hn.out]; exact htn
    have htC : t < y.clock.length := by rw [Hlen.out]; exact htN
    have hcD : y.wd.clock.getD t 0 = y.clock[t] := by simp [Wx.wd, List.getD_eq_getElem?_getD, htC]
    have hlD : y.wd.nodes.getD t [] = flOf y.nodes[t].2 := by simp [Wx.wd, List.getD_eq_getElem?_getD, htN]
    have hNd := HOK.out.node t (flOf y.nodes[t].2) y.clock[t] (by simp [Wx.wd, htN]) (by simp [Wx.wd, htC])
    have hA : arriveR y.wd k = if 12 < (bothL (flOf y.nodes[t].2) (flOf fm)).length then (11, .none_) else (0, ⟨y.wd.nodes.set t (bothL (flOf y.nodes[t].2) (flOf fm)), y.wd.clock.set t (maxStamp y.clock[t] (flOf fm)), y.wd.net.eraseIdx k⟩) := by
      unfold arriveR
      rw [hmD]
      simp only [Int.toNat_natCast]
      rw [hlD, hcD]
    rw [hA] at hU
    have hcellN := own_node (by have := S4.out.own.nodes; rw [Hvn.out] at this; exact this) rfl htN
    have hcellC := own_clock (by have := S4.out.own.clock; rw [Hvc.out] at this; exact this) rfl htC
    have HMix := Lib.hid (fun W (hb : Below w4.heap.size w4 W) => (S4.out.step hb).own.node y.nodes[t] (List.getElem_mem htN))
    obtain ⟨c, hcE⟩ : ∃ c, c = y.clock[t] := ⟨_, rfl⟩
    obtain ⟨nd, hnd2⟩ : ∃ nd, nd = y.nodes[t] := ⟨_, rfl⟩
    have HcE : Hid (∀ h : t < y.clock.length, y.clock[t] = c) := Lib.hid (fun _ => hcE.symm)
    rw [← hcE] at hU hNd hcellC
    rw [← hnd2] at hU hNd hcellN HMix
    obtain ⟨⟨A', n', c'⟩, fl⟩ := nd
    simp only [slv] at hcellN HMix
    dsimp only at hU hNd
    have HU := Lib.hid hU
    have HNd := Lib.hid hNd
    have HMs := Lib.hid hMs1
    have hc0 := hNd.2.1
    have hc1 := hNd.2.2.1
    have HM0 := Lib.hid hcellM.1
    have HM1 := Lib.hid hcellM.2
    have HN4 := Lib.hid hcellN
    have HC4 := Lib.hid hcellC
    have hgn : gn ≠ g2 := fun e => own_ne S4.out.own.nodes S4.out.bw (by decide) (by rw [Hvn.out, e]; rfl)
    have hgc : gc ≠ g2 := fun e => own_ne S4.out.own.clock S4.out.bw (by decide) (by rw [Hvc.out, e]; rfl)
    have hgn1 : gn ≠ g2 + 1 := fun e => own_ne S4.out.own.nodes S4.out.bx (by decide) (by rw [Hvn.out, e]; rfl)
    have hgc1 : gc ≠ g2 + 1 := fun e => own_ne S4.out.own.clock S4.out.bx (by decide) (by rw [Hvc.out, e]; rfl)
    have hgn2 : gn ≠ g2 + 2 := fun e => own_ne S4.out.own.nodes S4.out.br (by decide) (by rw [Hvn.out, e]; rfl)
    have hgc2 : gc ≠ g2 + 2 := fun e => own_ne S4.out.own.clock S4.out.br (by decide) (by rw [Hvc.out, e]; rfl)
    have Hct : Hid (q ≤ ct ∧ ct ≤ maxLen) := Lib.hid (by obtain ⟨_, _, e, h1, h2, _⟩ := own_slat (by have := S4.out.own.net; rw [HVt.out, ← Hq.out] at this; exact this); injection e with _ _ e; subst e; exact ⟨h1, h2⟩)
    have hy0' := own_msg (by have := HY.out.net; rw [HVt.out, ← Hq.out] at this; exact this) Hq.out.symm hkQ
    rw [← hnd] at hy0'
    simp only [slv] at hy0'
    have hm0 := hy0'.1
    have hm1 := hy0'.2
    obtain ⟨w5, hw5⟩ : ∃ w5, w5 = w4.alloc (.cells #[.int .i64 (t : Int), .slice Am nmm cm] 54) := ⟨_, rfl⟩
    obtain ⟨gm, hgm⟩ : ∃ gm, gm = w4.heap.size := ⟨_, rfl⟩
    have hb5 : Below w4.heap.size w4 w5 := by rw [hw5]; exact (Below.refl _ _).alloc (Nat.le_refl _) _
    have HX5 := Lib.hid (show Blk w5 gm 54 #[.int .i64 (t : Int), .slice Am nmm cm] by rw [hw5, hgm]; exact Blk.new _ _ _)
    have Hgm4 : Hid (w4.heap.size ≤ gm) := Lib.hid (by omega)
    have Hw5 := Lib.hid hw5.symm
    have Hgm := Lib.hid (show w3.heap.size = gm by rw [hgm, ← Hw4.out]; simp)
    have Hgm' := Lib.hid hgm.symm
    have S5 := Lib.hid (S4.out.step hb5)
    have HB5 := Lib.hid (HB4.out.below hb5 HB4.out.lt)
    have HN5 := Lib.hid (cell_below hb5 HN4.out)
    have HC5 := Lib.hid (cell_below hb5 HC4.out)
    have HMix := Lib.hid (fun W (hb : Below w5.heap.size w5 W) => HMix.out W (hb5.trans (hb.mono hb5.size)))
    have hgnm : gn ≠ gm := by have := block_lt_of_cell HN4.out; simp only at this; have := Hgm'.out; omega
    have hgcm : gc ≠ gm := by have := block_lt_of_cell HC4.out; simp only at this; have := Hgm'.out; omega
    clear hmD hU hnd hcellM hMs1 hMs2 hMs3 hcD hlD hNd hA hcellN hcellC hcE hnd2 hw5 hgm hb5
    go_wp2_with fail
    rw [Hw4.out]
    clear bb0 bb1 bb2 f0 f1 f2 d0 d1 d2 Hw4
    rw [Hw5.out, Hgm.out]
    clear hm0 hm1 hy0' Hw5 Hgm HM0 HM1 HN4 HC4 S4 HB4 HY
    have HT := Lib.hid (fun W g (hb : Below w5.heap.size w5 W) (hrow : SlAt W (some ⟨g, 0, none⟩) [.slice A' n' c', .slice Am nmm cm]) =>
      tog_two (base := w.heap.size) (l1 := fl) (l2 := fm) hrow (HMix.out W hb).files ((S5.out.step hb).own.ms _ Hmem.out).2.files (HMix.out W hb).each ((S5.out.step hb).own.ms _ Hmem.out).2.each HNd.out.1 HMs.out (S5.out.step hb).below.size)
    have HS : Hid (∀ W, Below w5.heap.size w5 W → W.cell? ⟨g2, 0, none⟩ = some (.slice (some ⟨gn, 0, none⟩) n cn) ∧ W.cell? ⟨gm, 0, none⟩ = some (.int .i64 (t : Int)) ∧ W.cell? ⟨gm, 1, none⟩ = some (.slice Am nmm cm) ∧ W.cell? ⟨gn, t, none⟩ = some (.slice A' n' c')) := Lib.hid (fun W hb =>
      ⟨by rw [(HB5.out.below hb HB5.out.lt).cell]; rfl, (HX5.out.below hb HX5.out.lt).c0, (HX5.out.below hb HX5.out.lt).c1, cell_below hb HN5.out⟩)
    refine wp_region_S (fun W => W.cell? ⟨g2, 0, none⟩ = some (.slice (some ⟨gn, 0, none⟩) n cn) ∧ W.cell? ⟨gm, 0, none⟩ = some (.int .i64 (t : Int)) ∧ W.cell? ⟨gm, 1, none⟩ = some (.slice Am nmm cm) ∧ W.cell? ⟨gn, t, none⟩ = some (.slice A' n' c')) 10 (by kernel_rfl) ?_
    obtain ⟨u5, hu5⟩ : ∃ u5, u5 = w5.drew := ⟨_, rfl⟩
    have hbu5 : Below w5.heap.size w5 u5 := by rw [hu5]; exact (Below.refl _ _).drew
    have Hu5 := Lib.hid hbu5
    rw [← hu5]
    have hHeld := HS.out u5 hbu5
    clear hu5 hbu5
    refine wpAnyS_take (i := 0) (v := ?v0) (by kernel_rfl) rfl (by kernel_rfl) (by kernel_rfl) (by kernel_rfl) (fun _ _ _ h => h) (by rfl) (by assumption) ?hy0 ?rest0
    case hy0 => (intro W hSW; (try dsimp only at hSW); go_simp; try with_reducible rfl)
    (try simp only [Act.put, List.getElem_toArray, List.getElem_cons_zero, List.getElem_cons_succ, List.setIfInBounds_toArray, List.set_cons_zero, List.set_cons_succ])
    refine wpAnyS_take (i := 1) (v := ?v1) (by kernel_rfl) rfl (by kernel_rfl) (by kernel_rfl) (by kernel_rfl) (fun _ _ _ h => h) (by rfl) (by assumption) ?hy1 ?rest1
    case hy1 => (intro W hSW; (try dsimp only at hSW); go_simp; try with_reducible rfl)
    (try simp only [Act.put, List.getElem_toArray, List.getElem_cons_zero, List.getElem_cons_succ, List.setIfInBounds_toArray, List.set_cons_zero, List.set_cons_succ])
    refine wpAnyS_take (i := 2) (v := ?v2) (by kernel_rfl) rfl (by kernel_rfl) (by kernel_rfl) (by kernel_rfl) (fun _ _ _ h => h) (by rfl) (by assumption) ?hy2 ?rest2
    case hy2 => (intro W hSW; (try dsimp only at hSW); go_simp; try with_reducible rfl)
    (try simp only [Act.put, List.getElem_toArray, List.getElem_cons_zero, List.getElem_cons_succ, List.setIfInBounds_toArray, List.set_cons_zero, List.set_cons_succ])
    refine wpAnyS_take (i := 3) (v := ?v3) (by kernel_rfl) rfl (by kernel_rfl) (by kernel_rfl) (by kernel_rfl) (fun _ _ _ h => h) (by rfl) (by assumption) ?hy3 ?rest3
    case hy3 => (intro W hSW; (try dsimp only at hSW); go_simp; try with_reducible rfl)
    (try simp only [Act.put, List.getElem_toArray, List.getElem_cons_zero, List.getElem_cons_succ, List.setIfInBounds_toArray, List.set_cons_zero, List.set_cons_succ])
    refine wpAnyS_take (i := 4) (v := ?v4) (by kernel_rfl) rfl (by kernel_rfl) (by kernel_rfl) (by kernel_rfl) (fun _ _ _ h => h) (by rfl) (by assumption) ?hy4 ?rest4
    case hy4 => (intro W hSW; (try dsimp only at hSW); go_simp; try with_reducible rfl)
    (try simp only [Act.put, List.getElem_toArray, List.getElem_cons_zero, List.getElem_cons_succ, List.setIfInBounds_toArray, List.set_cons_zero, List.set_cons_succ])
    refine wpAnyS_take (i := 5) (v := ?v5) (by kernel_rfl) rfl (by kernel_rfl) (by kernel_rfl) (by kernel_rfl) (fun _ _ _ h => h) (by rfl) (by assumption) ?hy5 ?rest5
    case hy5 => (intro W hSW; (try dsimp only at hSW); go_simp; try with_reducible rfl)
    (try simp only [Act.put, List.getElem_toArray, List.getElem_cons_zero, List.getElem_cons_succ, List.setIfInBounds_toArray, List.set_cons_zero, List.set_cons_succ])
    refine wpAnyS_take (i := 6) (v := ?v6) (by kernel_rfl) rfl (by kernel_rfl) (by kernel_rfl) (by kernel_rfl) (fun _ _ _ h => h) (by rfl) (by assumption) ?hy6 ?rest6
    case hy6 => (intro W hSW; (try dsimp only at hSW); go_simp; try with_reducible rfl)
    (try simp only [Act.put, List.getElem_toArray, List.getElem_cons_zero, List.getElem_cons_succ, List.setIfInBounds_toArray, List.set_cons_zero, List.set_cons_succ])
    refine wpAnyS_take (i := 7) (v := ?v7) (by kernel_rfl) rfl (by kernel_rfl) (by kernel_rfl) (by kernel_rfl) (fun _ _ _ h => h) (by rfl) (by assumption) ?hy7 ?rest7
    case hy7 => (intro W hSW; (try dsimp only at hSW); go_simp; try with_reducible rfl)
    (try simp only [Act.put, List.getElem_toArray, List.getElem_cons_zero, List.getElem_cons_succ, List.setIfInBounds_toArray, List.set_cons_zero, List.set_cons_succ])
    refine wpAnyS_only (i := 8) rfl (by kernel_rfl) (fun K hK => ?_)
    go_simp
    clear hHeld
    obtain ⟨u7, hu7⟩ : ∃ u7, u7 = u5.alloc (.cells #[.slice A' n' c', .slice Am nmm cm] 46) := ⟨_, rfl⟩
    obtain ⟨g7, hg7⟩ : ∃ g7, g7 = u5.heap.size := ⟨_, rfl⟩
    have hbu7 : Below u5.heap.size u5 u7 := by rw [hu7]; exact (Below.refl _ _).alloc (Nat.le_refl _) _
    have Hu7 := Lib.hid (Hu5.out.trans (hbu7.mono Hu5.out.size))
    have HBr7 := Lib.hid (show Blk u7 g7 46 #[.slice A' n' c', .slice Am nmm cm] by rw [hu7, hg7]; exact Blk.new _ _ _)
    rw [← hu7, ← hg7]
    clear hu7 hg7 hbu7
    refine hK.out _ _ (HS.out _ Hu7.out) (fun hHeld => ?_)
    clear hK K
    (try simp only [Act.put, List.getElem_toArray, List.getElem_cons_zero, List.getElem_cons_succ, List.setIfInBounds_toArray, List.set_cons_zero, List.set_cons_succ])
    refine wpAnyS_only (i := 9) rfl (by kernel_rfl) (fun K hK => ?_)
    go_simp
    clear hHeld
    go_at_call 17
    refine (HT.out u7 g7 Hu7.out (SlAt.of_heap HBr7.out rfl)).mono ?_
    rintro e w9 ⟨A9, ln9, c9, l9, rfl, hl9, hm9, he9, hb9⟩
    have Hb9 := Lib.hid (Hu7.out.trans (hb9.mono Hu7.out.size))
    have Hl9 := Lib.hid hl9
    have Hm9 := Lib.hid hm9
    have He9 := Lib.hid he9
    clear hl9 hm9 he9 hb9
    refine hK.out _ _ (HS.out _ Hb9.out) (fun hHeld => ?_)
    clear hK K
    (try simp only [Act.put, List.getElem_toArray, List.getElem_cons_zero, List.getElem_cons_succ, List.setIfInBounds_toArray, List.set_cons_zero, List.set_cons_succ])
    refine wpAnyS_last rfl (by kernel_rfl) (by kernel_rfl) (fun K hK => ?_)
    go_simp
    refine hK.out _ _ ?_
    clear hK K
    clear hHeld Hu5 Hu7 HBr7
    have S9 := Lib.hid (S5.out.step Hb9.out)
    have HB9 := Lib.hid (HB5.out.below Hb9.out HB5.out.lt)
    have HX9 := Lib.hid (HX5.out.below Hb9.out HX5.out.lt)
    have HN9 := Lib.hid (cell_below Hb9.out HN5.out)
    have hln : ln9 = (bothL (flOf fl) (flOf fm)).length := by rw [Hl9.out, ← He9.out]; unfold flOf; rw [List.length_map]
    clear S5 HB5 HX5 HN5 HC5 HT HS Hb9 HMix
    by_cases h12 : 12 < (bothL (flOf fl) (flOf fm)).length
    · have HU := Lib.hid (by have := HU.out; rwa [if_pos h12] at this)
      rw [← hln] at h12
      have h12' : (12 : Int) < (ln9 : Int) := by omega
      clear hln
      go_wp2_with fail
      refine (stepFail_any 11 _).mono ?_
      rintro e wf ⟨rfl, hbf⟩
      have SF := Lib.hid (S9.out.step hbf)
      clear hbf
      obtain ⟨k0, k1, k2⟩ := blk3 SF.out.br
      have kf0 := SF.out.br.frozen 0
      have kf1 := SF.out.br.frozen 1
      have kf2 := SF.out.br.frozen 2
      have HF3 := Lib.hid (((SF.out.br.set_ 0 (.slice none 0 0)).set_ 1 (.slice none 0 0)).set_ 2 (.slice none 0 0))
      have Hb6 := Lib.hid (((SF.out.below.setCell (show w.heap.size ≤ (⟨g2 + 2, 0, none⟩ : Addr).block from (by show w.heap.size ≤ g2 + 2; omega)) (.slice none 0 0)).setCell (show w.heap.size ≤ (⟨g2 + 2, 1, none⟩ : Addr).block from (by show w.heap.size ≤ g2 + 2; omega)) (.slice none 0 0)).setCell (show w.heap.size ≤ (⟨g2 + 2, 2, none⟩ : Addr).block from (by show w.heap.size ≤ g2 + 2; omega)) (.slice none 0 0))
      go_wp2_with fail
      refine bodyPost_ret (results_cell_row_tmp rfl _ _ (g2 + 2) 26 #[.slice none 0 0, .slice none 0 0, .slice none 0 0] (0, 0) _ rfl HF3.out Tryz.underlying26 rfl (by kernel_rfl)) rfl ?_
      rw [HU.out]
      exact RStepPost.fail _ Hb6.out
    · have HU := Lib.hid (by have := HU.out; rwa [if_neg h12] at this)
      rw [← hln] at h12
      have h12' : ¬ (12 : Int) < (ln9 : Int) := by omega
      clear hln
      obtain ⟨v0, _, _⟩ := blk3 HB9.out
      have m0 := HX9.out.c0
      have m1 := HX9.out.c1
      have hN9 := HN9.out
      have fN : w9.frozen? ⟨gn, t, none⟩ = false := by have := S9.out.own.nodes; rw [Hvn.out] at this; exact this.frozenAt _
      obtain ⟨y1, hy1⟩ : ∃ y1 : Wx, y1 = { y with nodes := y.nodes.set t ((A9, ln9, c9), l9) } := ⟨_, rfl⟩
      obtain ⟨wA, hwA⟩ : ∃ wA, wA = w9.setCell ⟨gn, t, none⟩ (.slice A9 ln9 c9) := ⟨_, rfl⟩
      have hgnB : w.heap.size ≤ gn := by have := S9.out.own.nodes; rw [Hvn.out] at this; exact (own_blk this).1
      have hgcB : w.heap.size ≤ gc := by have := S9.out.own.clock; rw [Hvc.out] at this; exact (own_blk this).1
      have SA : Hid (StR b0 w wA g2 y1 (⟨4, node, (k : Int), nm, bytes⟩, Ab, nb, cb)) := Lib.hid (by
        rw [hwA, hy1]
        exact ⟨S9.out.below.setCell (show w.heap.size ≤ (⟨gn, t, none⟩ : Addr).block from hgnB) _, S9.out.bw.far (p := ⟨gn, t, none⟩) (Ne.symm hgn) _, S9.out.bx.far (p := ⟨gn, t, none⟩) (Ne.symm hgn1) _, S9.out.br.far (p := ⟨gn, t, none⟩) (Ne.symm hgn2) _,
          MixW.setNode (k := t) S9.out.own Hvn.out rfl (A9, ln9, c9) l9 Hm9.out⟩)
      have XA : Hid (Blk wA gm 54 #[.int .i64 (t : Int), .slice Am nmm cm]) := Lib.hid (by rw [hwA]; exact HX9.out.far (p := ⟨gn, t, none⟩) (Ne.symm hgnm) _)
      have HY1 : Hid (y1.vn = .slice (some ⟨gn, 0, none⟩) n cn ∧ y1.vc = .slice (some ⟨gc, 0, none⟩) n cc ∧ y1.vt = .slice (some ⟨gt, 0, none⟩) q ct ∧ q = y1.net.length ∧ y1.clock.length = n ∧ (((t : Int), (Am, nmm, cm), fm) : Mx) ∈ y1.net ∧ (∀ h : t < y1.clock.length, y1.clock[t] = c)) := Lib.hid (by
        subst hy1
        exact ⟨HVn.out, HVc.out, HVt.out, Hq.out, by rw [Hn.out]; exact Hlen.out, Hmem.out, HcE.out⟩)
      have HY1d : Hid ((∀ z, Wx.wd { y1 with clock := y1.clock.set t z } = ⟨y.wd.nodes.set t (bothL (flOf fl) (flOf fm)), y.wd.clock.set t z, y.wd.net⟩)) := Lib.hid (by
        subst hy1
        intro z
        simp only [Wx.wd, List.map_set]
        rw [He9.out])
      have HfL : Hid (nmm = fm.length) := Lib.hid (by obtain ⟨A8, c8, e8, _⟩ := (S9.out.own.ms _ Hmem.out).2.files; injection e8)
      have hnm : nmm ≤ 12 := by rw [HfL.out]; have := (chkF_ok.1 HMs.out).1; unfold flOf at this; rwa [List.length_map] at this
      have HSt := Lib.hid (stamp_bd HMs.out)
      have HwA := Lib.hid hwA.symm
      have htc1 : t < y1.clock.length := by rw [HY1.out.2.2.2.2.1]; exact htn
      clear hwA hy1 h12
      go_wp2_with fail
      rw [HwA.out]
      clear v0 m0 m1 hN9 fN HwA S9 HB9 HX9 HN9
      have hy0 : y1 = { y1 with clock := y1.clock.set t (maxStamp c (flOf (fm.take 0))) } := by
        have h := HY1.out.2.2.2.2.2.2 htc1
        have e : y1.clock.set t c = y1.clock := by rw [← h]; exact List.set_getElem_self _
        show y1 = { y1 with clock := y1.clock.set t c }
        rw [e]
      have HS0 : Hid (StR b0 w wA g2 { y1 with clock := y1.clock.set t (maxStamp c (flOf (fm.take 0))) } (⟨4, node, (k : Int), nm, bytes⟩, Ab, nb, cb)) := Lib.hid (by rw [← hy0]; exact SA.out)
      clear hy0 SA
      go_loopw [253] (fun vi wr => ∃ j : Nat, j ≤ nmm ∧ vi = .int .i64 (j : Int) ∧ StR b0 w wr g2 { y1 with clock := y1.clock.set t (maxStamp c (flOf (fm.take j))) } (⟨4, node, (k : Int), nm, bytes⟩, Ab, nb, cb) ∧ Blk wr gm 54 #[.int .i64 (t : Int), .slice Am nmm cm]) (fun vi _ => nmm - (intOf vi).toNat)
      case atStart => exact ⟨0, Nat.zero_le _, rfl, HS0.out, XA.out⟩
      case round =>
        obtain ⟨j, hj, rfl, hS, hX⟩ := hrel
        have HS := Lib.hid hS
        have HX := Lib.hid hX
        clear hS hX HS0 XA
        by_cases hlt : j < nmm
        · have hjl : j < fm.length := by rw [← HfL.out]; exact hlt
          have hfl : IsFiles wr (.slice Am nmm cm) fm := (HS.out.own.ms _ HY1.out.2.2.2.2.2.1).2.files
          obtain ⟨A8, c8, e8, _, _, hsl8, _, _⟩ := hfl
          injection e8 with e81 e82 e83
          subst e81 e83
          clear e82
          obtain ⟨b, o, rfl, ca0, ca1, ca2, ca3, ca4⟩ := files_cells hsl8 hjl
          have HT : Hid (maxStamp c (flOf (fm.take (j + 1))) = max (maxStamp c (flOf (fm.take j))) fm[j].1.stamp) := Lib.hid (by
            rw [take_snoc _ _ hjl]; unfold flOf; rw [List.map_append]; exact maxStamp_snoc _ _ _)
          have HTb : Hid (0 ≤ maxStamp c (flOf (fm.take (j + 1))) ∧ maxStamp c (flOf (fm.take (j + 1))) ≤ 1000000) := Lib.hid ⟨by have := (maxStamp_le c (flOf (fm.take (j + 1)))).1; omega, maxStamp_lub _ _ _ hc1 (fun f hf => by
            obtain ⟨z, hz, rfl⟩ := List.mem_map.1 hf
            exact (HSt.out z.1 (List.mem_map_of_mem (List.mem_of_mem_take hz))).2)⟩
          generalize fm[j] = fx at *
          obtain ⟨⟨n1, b1, s1, d1, g1⟩, A3, l3, c3⟩ := fx
          simp only [slv] at ca0 ca1 ca2 ca3 ca4
          obtain ⟨cur, hcur⟩ : ∃ cur, cur = maxStamp c (flOf (fm.take j)) := ⟨_, rfl⟩
          obtain ⟨nxt, hnxt⟩ : ∃ nxt, nxt = maxStamp c (flOf (fm.take (j + 1))) := ⟨_, rfl⟩
          have Hnxt := Lib.hid hnxt
          rw [← hcur] at HS HT
          rw [← hnxt] at HT HTb
          clear hcur hnxt
          have hsc := HS.out.own.clock
          dsimp only at hsc
          rw [HY1.out.2.1, List.length_set, HY1.out.2.2.2.2.1] at hsc
          have hcc : wr.cell? ⟨gc, t, none⟩ = some (.int .i64 cur) := by
            have := own_clock hsc (by rw [List.length_set]; exact HY1.out.2.2.2.2.1) (k := t) (by simpa using htc1)
            rw [this]
            simp
          have hfz : ∀ w', Below wr.heap.size wr w' → w'.frozen? ⟨gc, t, none⟩ = false := fun w' hb => by
            exact (own_keep hsc hb).frozenAt _
          have Hfz := Lib.hid hfz
          obtain ⟨w2, hw2⟩ : ∃ w2, w2 = wr.alloc (.cells #[.string (strB n1), .slice A3 l3 c3, .int .i64 s1, .int .i64 d1, .bool g1] 49) := ⟨_, rfl⟩
          obtain ⟨gf, hgf⟩ : ∃ gf, gf = wr.heap.size := ⟨_, rfl⟩
          have hb2 : Below wr.heap.size wr w2 := by rw [hw2]; exact (Below.refl _ _).alloc (Nat.le_refl _) _
          have HF2 := Lib.hid (show Blk w2 gf 49 #[.string (strB n1), .slice A3 l3 c3, .int .i64 s1, .int .i64 d1, .bool g1] by rw [hw2, hgf]; exact Blk.new _ _ _)
          have S2 := Lib.hid (HS.out.step hb2)
          have HX2 := Lib.hid (HX.out.below hb2 HX.out.lt)
          have Hb2 := Lib.hid hb2
          have HW2 : Hid (w2.cell? ⟨g2, 1, none⟩ = some (.slice (some ⟨gc, 0, none⟩) n cc)) := Lib.hid (by
            rw [S2.out.bw.cell]
            show some y1.vc = _
            rw [HY1.out.2.1])
          have HC2 := Lib.hid (cell_below hb2 hcc)
          have Hw2 := Lib.hid hw2.symm
          have Hgf := Lib.hid hgf.symm
          have Hsc := Lib.hid hsc
          clear hw2 hgf hb2 hcc hsc hfz hsl8
          go_wp2_with fail
          rw [Hw2.out, Hgf.out]
          have q1 := fun p : BelowBy w2 => BelowBy.cell HW2.out p
          have q2 := pcell HX2.out 0 _ rfl
          have q3 := fun p : BelowBy w2 => BelowBy.cell HC2.out p
          have q4 := pcell HF2.out 2 _ rfl
          have hmax := fun (ts : Array TypeId) (ty : TypeId) (W : World) => run_max2 (P := Tryz.prog) ts ty cur s1 W
          go_wp2_with fail
          refine wp_region_below_tail 14 (by kernel_rfl) (by kernel_rfl) ?_
          simp only [List.take_succ_cons, List.take_zero, List.drop_succ_cons, List.drop_zero]
          repeat (quiet_step (fail))
          refine wpQuiet_nil ?_
          intro w3 hq
          have hb3 : Below w2.heap.size w2 w3 := by obtain ⟨p, hp⟩ := hq; rw [hp]; exact p.h
          have S3 := Lib.hid (S2.out.step hb3)
          have hC3 := cell_below hb3 HC2.out
          have hf3 := Hfz.out w3 (Hb2.out.trans (hb3.mono Hb2.out.size))
          have SN : Hid (StR b0 w (w3.setCell ⟨gc, t, none⟩ (.int .i64 (max cur s1))) g2 { y1 with clock := y1.clock.set t nxt } (⟨4, node, (k : Int), nm, bytes⟩, Ab, nb, cb)) := Lib.hid (by
            rw [← HT.out]
            have h4 := MixW.setClock (k := t) S3.out.own (n := n) (c := cc) (g := gc) HY1.out.2.1 (by show (y1.clock.set t cur).length = n; rw [List.length_set]; exact HY1.out.2.2.2.2.1) nxt (wf_mk HTb.out.1 HTb.out.2)
            dsimp only at h4
            rw [List.set_set] at h4
            exact ⟨S3.out.below.setCell (show w.heap.size ≤ (⟨gc, t, none⟩ : Addr).block from hgcB) _, S3.out.bw.far (p := ⟨gc, t, none⟩) (Ne.symm hgc) _, S3.out.bx.far (p := ⟨gc, t, none⟩) (Ne.symm hgc1) _, S3.out.br.far (p := ⟨gc, t, none⟩) (Ne.symm hgc2) _, h4⟩)
          have XN : Hid (Blk (w3.setCell ⟨gc, t, none⟩ (.int .i64 (max cur s1))) gm 54 #[.int .i64 (t : Int), .slice (some ⟨b, o, none⟩) nmm cm]) := Lib.hid ((HX2.out.below hb3 HX2.out.lt).far (p := ⟨gc, t, none⟩) (Ne.symm hgcm) _)
          clear hq hb3 q1 q2 q3 q4 hmax HS S2 HC2 HW2 HF2 S3 Hfz Hsc HX HX2
          go_wp2_with fail
          go_roundw
          case rel => exact ⟨j + 1, by omega, by go_num, by rw [← Hnxt.out]; exact SN.out, XN.out⟩
          case measure => simp [intOf]; omega
        · obtain rfl : j = nmm := by omega
          have hall : fm.take j = fm := List.take_of_length_le (by rw [← HfL.out]; exact Nat.le_refl _)
          rw [hall] at HS
          obtain ⟨mx, hmx⟩ : ∃ mx, mx = maxStamp c (flOf fm) := ⟨_, rfl⟩
          rw [← hmx] at HS HU
          have HyD := Lib.hid (HY1d.out mx)
          obtain ⟨yE, hyE⟩ : ∃ yE : Wx, yE = { y1 with clock := y1.clock.set t mx } := ⟨_, rfl⟩
          have HVnE : Hid (yE.vn = .slice (some ⟨gn, 0, none⟩) n cn) := Lib.hid (by rw [hyE]; exact HY1.out.1)
          have HVcE : Hid (yE.vc = .slice (some ⟨gc, 0, none⟩) n cc) := Lib.hid (by rw [hyE]; exact HY1.out.2.1)
          have HVtE : Hid (yE.vt = .slice (some ⟨gt, 0, none⟩) q ct) := Lib.hid (by rw [hyE]; exact HY1.out.2.2.1)
          have HQE : Hid (q = yE.net.length) := Lib.hid (by rw [hyE]; exact HY1.out.2.2.2.1)
          rw [← hyE] at HS HyD
          obtain ⟨wE, rfl⟩ : ∃ wE, wE = wr := ⟨_, rfl⟩
          have SE := HS
          have BE : Hid (Blk wE g2 26 #[.slice (some ⟨gn, 0, none⟩) n cn, .slice (some ⟨gc, 0, none⟩) n cc, .slice (some ⟨gt, 0, none⟩) q ct]) := Lib.hid (by have := HS.out.bw; rwa [HVnE.out, HVcE.out, HVtE.out] at this)
          have HyN : Hid (yE.wd.net.eraseIdx k = (yE.net.eraseIdx k).map msOf) := Lib.hid (by simp [Wx.wd, map_erase])
          clear hall hmx hyE HS HX
          go_wp2_with fail
          have hHo := fun (W : World) (hb : Below wE.heap.size wE W) => show W.cell? ⟨g2, 2, none⟩ = some (.slice (some ⟨gt, 0, none⟩) q ct) ∧ W.cell? ⟨g2 + 1, 2, none⟩ = some (.int .i64 (k : Int)) from ⟨by rw [(BE.out.below hb BE.out.lt).cell]; rfl, by rw [(SE.out.step hb).bx.cell]; rfl⟩
          have HHo := Lib.hid hHo
          clear hHo
          refine wp_region_S (fun W => W.cell? ⟨g2, 2, none⟩ = some (.slice (some ⟨gt, 0, none⟩) q ct) ∧ W.cell? ⟨g2 + 1, 2, none⟩ = some (.int .i64 (k : Int))) 15 (by kernel_rfl) ?_
          obtain ⟨w5, hw5⟩ : ∃ w5, w5 = wE.drew := ⟨_, rfl⟩
          have hb5 : Below wE.heap.size wE w5 := by rw [hw5]; exact (Below.refl _ _).drew
          have Hb5 := Lib.hid hb5
          have S5 := Lib.hid (SE.out.step hb5)
          have HB5 := Lib.hid (BE.out.below hb5 BE.out.lt)
          rw [← hw5]
          have hHeld := HHo.out w5 hb5
          have hwr : IntKind.i64.wrap ((k : Int) + 1) = (k : Int) + 1 := IntWalk.i64_in _ (by omega)
          have hk0 : (0 : Int) ≤ (k : Int) := by omega
          have hk1 : (0 : Int) ≤ (k : Int) + 1 := by omega
          have hkq' : (k : Int) + 1 ≤ (q : Int) := by omega
          have hkc' : (k : Int) ≤ (ct : Int) := by have := Hct.out; omega
          have hqc' : (q : Int) ≤ (ct : Int) := by have := Hct.out; omega
          have HO5 := Lib.hid (show w5.ownsRow w.heap.size 54 2 (.slice (some ⟨gt, 0, none⟩) q ct) q (yE.net.flatMap mC) by have := S5.out.own.net; rwa [HVtE.out, ← HQE.out] at this)
          obtain ⟨m, hm⟩ : ∃ m, m = q - (k + 1) := ⟨_, rfl⟩
          have Hm := Lib.hid hm
          have hct1 : ct ≤ maxLen := Hct.out.2
          have hct0 : q ≤ ct := Hct.out.1
          clear hw5 hb5 hm
          refine wpAnyS_take (i := 0) (v := ?vc0) (by kernel_rfl) rfl (by kernel_rfl) (by kernel_rfl) (by kernel_rfl) (fun _ _ _ h => h) (by rfl) (by assumption) ?hyc0 ?restc0
          case hyc0 => (intro W hSW; (try dsimp only at hSW); go_simp; try with_reducible rfl)
          (try simp only [Act.put, List.getElem_toArray, List.getElem_cons_zero, List.getElem_cons_succ, List.setIfInBounds_toArray, List.set_cons_zero, List.set_cons_succ])
          refine wpAnyS_take (i := 1) (v := ?vc1) (by kernel_rfl) rfl (by kernel_rfl) (by kernel_rfl) (by kernel_rfl) (fun _ _ _ h => h) (by rfl) (by assumption) ?hyc1 ?restc1
          case hyc1 => (intro W hSW; (try dsimp only at hSW); go_simp; try with_reducible rfl)
          (try simp only [Act.put, List.getElem_toArray, List.getElem_cons_zero, List.getElem_cons_succ, List.setIfInBounds_toArray, List.set_cons_zero, List.set_cons_succ])
          refine wpAnyS_take (i := 2) (v := ?vc2) (by kernel_rfl) rfl (by kernel_rfl) (by kernel_rfl) (by kernel_rfl) (fun _ _ _ h => h) (by rfl) (by assumption) ?hyc2 ?restc2
          case hyc2 => (intro W hSW; (try dsimp only at hSW); go_simp; try with_reducible rfl)
          (try simp only [Act.put, List.getElem_toArray, List.getElem_cons_zero, List.getElem_cons_succ, List.setIfInBounds_toArray, List.set_cons_zero, List.set_cons_succ])
          refine wpAnyS_take (i := 3) (v := ?vc3) (by kernel_rfl) rfl (by kernel_rfl) (by kernel_rfl) (by kernel_rfl) (fun _ _ _ h => h) (by rfl) (by assumption) ?hyc3 ?restc3
          case hyc3 => (intro W hSW; (try dsimp only at hSW); go_simp; try with_reducible rfl)
          (try simp only [Act.put, List.getElem_toArray, List.getElem_cons_zero, List.getElem_cons_succ, List.setIfInBounds_toArray, List.set_cons_zero, List.set_cons_succ])
          refine wpAnyS_take (i := 4) (v := ?vc4) (by kernel_rfl) rfl (by kernel_rfl) (by kernel_rfl) (by kernel_rfl) (fun _ _ _ h => h) (by rfl) (by assumption) ?hyc4 ?restc4
          case hyc4 => (intro W hSW; (try dsimp only at hSW); go_simp; try with_reducible rfl)
          (try simp only [Act.put, List.getElem_toArray, List.getElem_cons_zero, List.getElem_cons_succ, List.setIfInBounds_toArray, List.set_cons_zero, List.set_cons_succ])
          refine wpAnyS_take (i := 5) (v := ?vc5) (by kernel_rfl) rfl (by kernel_rfl) (by kernel_rfl) (by kernel_rfl) (fun _ _ _ h => h) (by rfl) (by assumption) ?hyc5 ?restc5
          case hyc5 => (intro W hSW; (try dsimp only at hSW); go_simp; try with_reducible rfl)
          (try simp only [Act.put, List.getElem_toArray, List.getElem_cons_zero, List.getElem_cons_succ, List.setIfInBounds_toArray, List.set_cons_zero, List.set_cons_succ])
          refine wpAnyS_take (i := 6) (v := ?vc6) (by kernel_rfl) rfl (by kernel_rfl) (by kernel_rfl) (by kernel_rfl) (fun _ _ _ h => h) (by rfl) (by assumption) ?hyc6 ?restc6
          case hyc6 => (intro W hSW; (try dsimp only at hSW); go_simp; try with_reducible rfl)
          (try simp only [Act.put, List.getElem_toArray, List.getElem_cons_zero, List.getElem_cons_succ, List.setIfInBounds_toArray, List.set_cons_zero, List.set_cons_succ])
          refine wpAnyS_take (i := 7) (v := ?vc7) (by kernel_rfl) rfl (by kernel_rfl) (by kernel_rfl) (by kernel_rfl) (fun _ _ _ h => h) (by rfl) (by assumption) ?hyc7 ?restc7
          case hyc7 => (intro W hSW; (try dsimp only at hSW); go_simp; try with_reducible rfl)
          (try simp only [Act.put, List.getElem_toArray, List.getElem_cons_zero, List.getElem_cons_succ, List.setIfInBounds_toArray, List.set_cons_zero, List.set_cons_succ])
          refine wpAnyS_take (i := 8) (v := ?vc8) (by kernel_rfl) rfl (by kernel_rfl) (by kernel_rfl) (by kernel_rfl) (fun _ _ _ h => h) (by rfl) (by assumption) ?hyc8 ?restc8
          case hyc8 => (intro W hSW; (try dsimp only at hSW); go_simp; try with_reducible rfl)
          (try simp only [Act.put, List.getElem_toArray, List.getElem_cons_zero, List.getElem_cons_succ, List.setIfInBounds_toArray, List.set_cons_zero, List.set_cons_succ])
          refine wpAnyS_take (i := 9) (v := ?vc9) (by kernel_rfl) rfl (by kernel_rfl) (by kernel_rfl) (by kernel_rfl) (fun _ _ _ h => h) (by rfl) (by assumption) ?hyc9 ?restc9
          case hyc9 => (intro W hSW; (try dsimp only at hSW); go_simp; try with_reducible rfl)
          (try simp only [Act.put, List.getElem_toArray, List.getElem_cons_zero, List.getElem_cons_succ, List.setIfInBounds_toArray, List.set_cons_zero, List.set_cons_succ])
          refine wpAnyS_take (i := 10) (v := ?vc10) (by kernel_rfl) rfl (by kernel_rfl) (by kernel_rfl) (by kernel_rfl) (fun _ _ _ h => h) (by rfl) (by assumption) ?hyc10 ?restc10
          case hyc10 => (intro W hSW; (try dsimp only at hSW); go_simp; try with_reducible rfl)
          (try simp only [Act.put, List.getElem_toArray, List.getElem_cons_zero, List.getElem_cons_succ, List.setIfInBounds_toArray, List.set_cons_zero, List.set_cons_succ])
          refine wpAnyS_take (i := 11) (v := ?vc11) (by kernel_rfl) rfl (by kernel_rfl) (by kernel_rfl) (by kernel_rfl) (fun _ _ _ h => h) (by rfl) (by assumption) ?hyc11 ?restc11
          case hyc11 => (intro W hSW; (try dsimp only at hSW); go_simp; try with_reducible rfl)
          (try simp only [Act.put, List.getElem_toArray, List.getElem_cons_zero, List.getElem_cons_succ, List.setIfInBounds_toArray, List.set_cons_zero, List.set_cons_succ])
          refine wpAnyS_take (i := 12) (v := ?vc12) (by kernel_rfl) rfl (by kernel_rfl) (by kernel_rfl) (by kernel_rfl) (fun _ _ _ h => h) (by rfl) (by assumption) ?hyc12 ?restc12
          case hyc12 => (intro W hSW; (try dsimp only at hSW); go_simp; try with_reducible rfl)
          (try simp only [Act.put, List.getElem_toArray, List.getElem_cons_zero, List.getElem_cons_succ, List.setIfInBounds_toArray, List.set_cons_zero, List.set_cons_succ])
          refine wpAnyS_only (i := 13) rfl (by kernel_rfl) (fun K hK => ?_)
          obtain ⟨_, cs5, hblk5⟩ := own_blk HO5.out
          refine step_cut rfl (.tmp 278) (.tmp 284) _ rfl 54 _ 2 32 tyM gt k m (ct - (k + 1)) (if ct = k + 1 then ⟨gt, 0, none⟩ else ⟨gt, (k + 1) * 2, none⟩) cs5 hblk5 ((yE.net.take k).flatMap mC) ((yE.net.drop (k + 1)).flatMap mC) (by simp [Act.eval])
            (by have := Hm.out; rw [mCs_len, List.length_take, ← HQE.out]; omega) (fun j v hj => own_cells HO5.out j v (cut_one _ _ _ _ hj)) (by simp [Act.eval, Hm.out]; split <;> rfl)
            (by have := Hm.out; rw [mCs_len, List.length_drop, ← HQE.out]; omega) (fun j v hj => by
              have hj1 := (List.getElem?_eq_some_iff.1 hj).1
              rw [mCs_len, List.length_drop, ← HQE.out] at hj1
              rw [if_neg (by omega), addr_add0']
              exact own_cells HO5.out _ v (cut_two _ _ (by rw [← HQE.out]; omega) _ _ hj)) (by have := Hm.out; unfold maxLen; omega) (by have := Hm.out; omega) ?_
          intro A8 d8 w8 h81 h82 hb8 hsl8
          have HB8 := Lib.hid (HB5.out.below hb8 HB5.out.lt)
          have HBr8 := Lib.hid (S5.out.br.below hb8 S5.out.br.lt)
          have Hb8 := Lib.hid (S5.out.step hb8).below
          have HM8 := Lib.hid (S5.out.step hb8).own
          have Hsl8 := Lib.hid hsl8
          have HS8' := HHo.out w8 (Hb5.out.trans (hb8.mono Hb5.out.size))
          clear hsl8 hb8 hHeld
          refine hK.out _ _ HS8' (fun hHeld => ?_)
          clear HS8'
          clear hK K
          (try simp only [Act.put, List.getElem_toArray, List.getElem_cons_zero, List.getElem_cons_succ, List.setIfInBounds_toArray, List.set_cons_zero, List.set_cons_succ])
          refine wpAnyS_only (i := 14) rfl (by kernel_rfl) (fun K hK => ?_)
          go_simp
          have hHeld' := hHeld
          clear hHeld
          refine hK.out _ _ hHeld' (fun hHeld => ?_)
          clear hHeld'
          clear hK K
          (try simp only [Act.put, List.getElem_toArray, List.getElem_cons_zero, List.getElem_cons_succ, List.setIfInBounds_toArray, List.set_cons_zero, List.set_cons_succ])
          have c8 := (blk3 HB8.out).2.2
          have f8 := HB8.out.frozen 2
          refine wpAnyS_last rfl (by kernel_rfl) (by kernel_rfl) (fun K hK => ?_)
          go_simp
          refine hK.out _ _ ?_
          clear hK K
          obtain ⟨y2, hy2⟩ : ∃ y2 : Wx, y2 = { yE with vt := .slice (some A8) (k + m) d8, net := yE.net.eraseIdx k } := ⟨_, rfl⟩
          obtain ⟨wF, hwF⟩ : ∃ wF, wF = World.setCell w8 ⟨g2, 2, none⟩ (.slice (some A8) (k + m) d8) := ⟨_, rfl⟩
          have hwg : w.heap.size ≤ g2 := by omega
          have HBF : Hid (Blk wF g2 26 #[.slice (some ⟨gn, 0, none⟩) n cn, .slice (some ⟨gc, 0, none⟩) n cc, .slice (some A8) (k + m) d8]) := Lib.hid (by rw [hwF]; exact HB8.out.set_ 2 _)
          have HKF : Hid (Keeps w.heap.size [26] w8 wF) := Lib.hid (by rw [hwF]; exact (Keeps.refl w.heap.size [26] _).setBlk HB8.out (by simp) hwg 2 _)
          have SF : Hid (FinR b0 w wF g2 y2) := Lib.hid ⟨by rw [hwF]; exact Hb8.out.setCell (show w.heap.size ≤ (⟨g2, 2, none⟩ : Addr).block from hwg) _,
            by rw [hy2]; dsimp only; rw [HVnE.out, HVcE.out]; exact HBF.out, by rw [hwF]; exact HBr8.out.far (p := ⟨g2, 2, none⟩) (show g2 + 2 ≠ g2 by omega) _,
            fun w' hk => by
              have hkk := (HKF.out.mono hb0 (fun t ht => by rw [List.mem_singleton] at ht; subst ht; simp [T0])).trans hk
              have hln : (yE.net.eraseIdx k).length = k + m := by rw [List.length_eraseIdx_of_lt (by rw [← HQE.out]; exact hkq), ← HQE.out]; have := Hm.out; omega
              have h3 := MixW.cutNet (HM8.out.lower hb0) hkk A8 d8 (yE.net.eraseIdx k) (by rw [hln]; exact h81) h82 (by rw [← drop_one, List.flatMap_append]; exact Hsl8.out _ _ w' hkk (by decide)) (fun z hz => List.mem_of_mem_eraseIdx hz)
              rw [hln] at h3
              rw [hy2]
              exact h3⟩
          have HwF := Lib.hid hwF.symm
          have HY2 := Lib.hid hy2
          clear hwF hy2
          rw [HwF.out]
          clear HwF HB8 HM8 HBr8 Hb8 Hsl8 HKF h81 h82 hHeld
          obtain ⟨e0, e1, e2⟩ := blk3 HBF.out
          obtain ⟨k0, k1, k2⟩ := blk3 SF.out.br
          have kf0 := SF.out.br.frozen 0
          have kf1 := SF.out.br.frozen 1
          have kf2 := SF.out.br.frozen 2
          have hwg2 : w.heap.size ≤ g2 + 2 := by omega
          have HF1 := Lib.hid (SF.out.br.set_ 0 (.slice (some ⟨gn, 0, none⟩) n cn))
          have HF2 := Lib.hid (HF1.out.set_ 1 (.slice (some ⟨gc, 0, none⟩) n cc))
          have HF3 := Lib.hid (HF2.out.set_ 2 (.slice (some A8) (k + m) d8))
          have HK := Lib.hid ((((Keeps.refl w.heap.size [26] _).setBlk SF.out.br (by simp) hwg2 0 (.slice (some ⟨gn, 0, none⟩) n cn)).setBlk HF1.out (by simp) hwg2 1 (.slice (some ⟨gc, 0, none⟩) n cc)).setBlk HF2.out (by simp) hwg2 2 (.slice (some A8) (k + m) d8))
          have Hb6 := Lib.hid (((SF.out.below.setCell (show w.heap.size ≤ (⟨g2 + 2, 0, none⟩ : Addr).block from hwg2) (.slice (some ⟨gn, 0, none⟩) n cn)).setCell (show w.heap.size ≤ (⟨g2 + 2, 1, none⟩ : Addr).block from hwg2) (.slice (some ⟨gc, 0, none⟩) n cc)).setCell (show w.heap.size ≤ (⟨g2 + 2, 2, none⟩ : Addr).block from hwg2) (.slice (some A8) (k + m) d8))
          go_wp2_with fail
          all_goals (
            skip
            refine bodyPost_ret (results_cell_row_tmp rfl _ _ (g2 + 2) 26 #[.slice (some ⟨gn, 0, none⟩) n cn, .slice (some ⟨gc, 0, none⟩) n cc, .slice (some A8) (k + m) d8] (0, 0) _ rfl HF3.out Tryz.underlying26 rfl (by kernel_rfl)) rfl ?_
            rw [HU.out]
            exact ⟨y2, by rw [HY2.out]; unfold wV; dsimp only; rw [HVnE.out, HVcE.out]; rfl, fun w'' hk => SF.out.lie _ ((HK.out.mono hb0 (fun t ht => by rw [List.mem_singleton] at ht; subst ht; simp [T0])).trans hk), by rw [HY2.out]; show Wd.mk yE.wd.nodes yE.wd.clock ((yE.net.eraseIdx k).map msOf) = _; rw [← HyN.out, HyD.out], Hb6.out⟩)
end Go.Proofs.YtdoegpklephelaaGreatDoor.Worlds
