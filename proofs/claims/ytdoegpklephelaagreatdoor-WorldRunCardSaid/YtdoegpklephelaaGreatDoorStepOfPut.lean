/- reliquaryref.StepOf: put. -/
import Derived.Test.YtdoegpklephelaaGreatDoorStepParts
namespace Go.Proofs.YtdoegpklephelaaGreatDoor.Worlds
open Go Go.RowKit Go.Proofs.YtdoegpklephelaaGreatDoor Go.Proofs.YtdoegpklephelaaGreatDoor.Name Go.Proofs.YtdoegpklephelaaGreatDoor.Merge
set_option linter.unusedVariables false
set_option linter.unusedSimpArgs false

set_option maxRecDepth 100000 in
set_option maxHeartbeats 2000000 in
theorem stepOf_put (x : Wx) (h : Hx) (w : World) (hml : ML w) (hx : IsWorld w x) (hwd : WdK sizedK x) (hok : WOk x.wd) (hh : HapAt w h) (b0 : Nat) (hb0 : b0 ≤ w.heap.size) (hlow : h.1.bytes ≠ [] → ∀ a, h.2.1 = some a → a.block < b0) (hkind : h.1.kind = 1) :
    Calls Tryz.prog 12 #[wV x, hV h] w (RStepPost b0 (stepR x.wd h.1) w) := by
  obtain ⟨r, hr⟩ : ∃ r, r = stepR x.wd h.1 := ⟨_, rfl⟩
  have HU := Lib.hid hr
  rw [← hr]
  clear hr
  have HML := Lib.hid hml
  have HX := Lib.hid hx
  have HH := Lib.hid hh
  have HOK := Lib.hid hok
  obtain ⟨⟨An, cn, hvn, _⟩, ⟨Ac, cc, hvc, _⟩, ⟨At, ct, hvt, _⟩⟩ := hx
  obtain ⟨nl, hnl⟩ : ∃ nl, nl = x.nodes.length := ⟨_, rfl⟩
  obtain ⟨cl, hcl⟩ : ∃ cl, cl = x.clock.length := ⟨_, rfl⟩
  obtain ⟨tl, htl⟩ : ∃ tl, tl = x.net.length := ⟨_, rfl⟩
  rw [← hnl] at hvn
  rw [← hcl] at hvc
  rw [← htl] at hvt
  have hV0 : wV x = .agg #[.slice An nl cn, .slice Ac cl cc, .slice At tl ct] := by unfold wV; rw [hvn, hvc, hvt]
  have HV0 := Lib.hid hV0
  rw [hV0]
  clear hml hvn hvc hvt hnl hcl htl hV0 hh hok
  obtain ⟨⟨kind, node, to_, nm, bytes⟩, Ab, nb, cb⟩ := h
  unfold hV slv
  dsimp only at HU HH hkind hlow ⊢
  have Hlow := Lib.hid hlow
  clear hlow
  subst hkind
  obtain ⟨g2, hg2⟩ : ∃ g2, g2 = w.heap.size := ⟨_, rfl⟩
  obtain ⟨w1, hw1⟩ : ∃ w1, w1 = ((w.alloc (.cells #[.slice An nl cn, .slice Ac cl cc, .slice At tl ct] 26)).alloc (.cells #[.int .i64 1, .int .i64 node, .int .i64 to_, .string (strB nm), .slice Ab nb cb] 29)).alloc (.cells #[.slice none 0 0, .slice none 0 0, .slice none 0 0] 26) := ⟨_, rfl⟩
  have hb1 : Below w.heap.size w w1 := by rw [hw1]; exact (((Below.refl _ _).alloc (Nat.le_refl _) _).alloc (by simp) _).alloc (by simp; omega) _
  have B2 : Blk w1 g2 26 #[.slice An nl cn, .slice Ac cl cc, .slice At tl ct] := by rw [hw1, hg2]; exact ((Blk.new _ _ _).alloc _).alloc _
  have B3 : Blk w1 (g2 + 1) 29 #[.int .i64 1, .int .i64 node, .int .i64 to_, .string (strB nm), .slice Ab nb cb] := by
    rw [hw1, hg2, show w.heap.size + 1 = (w.alloc (.cells #[.slice An nl cn, .slice Ac cl cc, .slice At tl ct] 26)).heap.size by simp]
    exact (Blk.new _ _ _).alloc _
  have B4 : Blk w1 (g2 + 2) 26 #[.slice none 0 0, .slice none 0 0, .slice none 0 0] := by
    rw [hw1, hg2, show w.heap.size + 2 = ((w.alloc (.cells #[.slice An nl cn, .slice Ac cl cc, .slice At tl ct] 26)).alloc (.cells #[.int .i64 1, .int .i64 node, .int .i64 to_, .string (strB nm), .slice Ab nb cb] 29)).heap.size by simp]
    exact Blk.new _ _ _
  have HB2 := Lib.hid B2
  have HB3 := Lib.hid B3
  have HB4 := Lib.hid B4
  have Hb1 := Lib.hid hb1
  have Hw1 := Lib.hid hw1.symm
  have Hg2 := Lib.hid hg2.symm
  have HC := Lib.hid (ownWorld_any x w1 (HX.out.below hb1) hwd)
  rw [HV0.out] at HC
  clear B2 B3 B4 hb1 hw1 hg2 HV0 hwd
  unfold WorldPost at HC
  unfold RStepPost
  obtain ⟨a0, a1, a2⟩ := blk3 HB2.out
  go_enter Tryz.func12, Tryz.ntmps12
  go_wp2_with fail
  rw [Hw1.out, Hg2.out]
  refine (HC.out).mono ?_
  rintro e w3 ⟨y, rfl, hy, hyd, hb3⟩
  have Hb3 := Lib.hid (Hb1.out.trans (hb3.mono Hb1.out.size))
  have hwg : w.heap.size ≤ g2 := by have := Hg2.out; omega
  have HB3 := Lib.hid (HB3.out.below hb3 HB3.out.lt)
  have HB4 := Lib.hid (HB4.out.below hb3 HB4.out.lt)
  have HB2 := Lib.hid (HB2.out.below hb3 HB2.out.lt)
  have HY := Lib.hid (hy.base_ Hb1.out.size)
  rw [← hyd] at HU HOK
  clear a0 a1 a2 HC hb3 hy hyd HX Hw1 Hg2 Hb1
  obtain ⟨yvn, ynodes, yvc, yclock, yvt, ynet⟩ := y
  have hsome : 1 ≤ ynodes.length := by have := HOK.out.some_; simpa [Wx.wd] using this
  have hcl : yclock.length = ynodes.length := by have := HOK.out.clock; simpa [Wx.wd] using this
  obtain ⟨gn, cn, h1, _, _, _, _⟩ := own_at HY.out.nodes (by show 0 < ynodes.length; omega)
  obtain ⟨gc, cc, h2, _, _, _, _⟩ := own_at HY.out.clock (by show 0 < yclock.length; omega)
  obtain ⟨At, ct, h3, _⟩ := own_slat HY.out.net
  dsimp only at h1 h2 h3
  subst h1 h2 h3
  have HY1 := Lib.hid (HY.out.set_ HB2.out (by decide) (by decide) (by decide) (by decide) (by decide) 0 (.slice (some ⟨gn, 0, none⟩) ynodes.length cn))
  have HD1 := Lib.hid (HB2.out.set_ 0 (.slice (some ⟨gn, 0, none⟩) ynodes.length cn))
  have HY2 := Lib.hid (HY1.out.set_ HD1.out (by decide) (by decide) (by decide) (by decide) (by decide) 1 (.slice (some ⟨gc, 0, none⟩) yclock.length cc))
  have HD2 := Lib.hid (HD1.out.set_ 1 (.slice (some ⟨gc, 0, none⟩) yclock.length cc))
  have HY3 := Lib.hid (HY2.out.set_ HD2.out (by decide) (by decide) (by decide) (by decide) (by decide) 2 (.slice At ynet.length ct))
  have HD3 := Lib.hid (HD2.out.set_ 2 (.slice At ynet.length ct))
  have Hb4 := Lib.hid (((Hb3.out.setCell (show w.heap.size ≤ (⟨g2, 0, none⟩ : Addr).block from hwg) (.slice (some ⟨gn, 0, none⟩) ynodes.length cn)).setCell (show w.heap.size ≤ (⟨g2, 1, none⟩ : Addr).block from hwg) (.slice (some ⟨gc, 0, none⟩) yclock.length cc)).setCell (show w.heap.size ≤ (⟨g2, 2, none⟩ : Addr).block from hwg) (.slice At ynet.length ct))
  have HE3 := Lib.hid (((HB3.out.far (p := ⟨g2, 0, none⟩) (show g2 + 1 ≠ g2 by omega) (.slice (some ⟨gn, 0, none⟩) ynodes.length cn)).far (p := ⟨g2, 1, none⟩) (show g2 + 1 ≠ g2 by omega) (.slice (some ⟨gc, 0, none⟩) yclock.length cc)).far (p := ⟨g2, 2, none⟩) (show g2 + 1 ≠ g2 by omega) (.slice At ynet.length ct))
  have HE4 := Lib.hid (((HB4.out.far (p := ⟨g2, 0, none⟩) (show g2 + 2 ≠ g2 by omega) (.slice (some ⟨gn, 0, none⟩) ynodes.length cn)).far (p := ⟨g2, 1, none⟩) (show g2 + 2 ≠ g2 by omega) (.slice (some ⟨gc, 0, none⟩) yclock.length cc)).far (p := ⟨g2, 2, none⟩) (show g2 + 2 ≠ g2 by omega) (.slice At ynet.length ct))
  obtain ⟨bb0, bb1, bb2⟩ := blk3 HB2.out
  have f0 := HB2.out.frozen 0
  have f1 := HB2.out.frozen 1
  have f2 := HB2.out.frozen 2
  have d0 : w3.cell? ⟨g2 + 1, 0, none⟩ = some (.int .i64 1) := by rw [HB3.out.cell]; rfl
  have d1 : w3.cell? ⟨g2 + 1, 1, none⟩ = some (.int .i64 node) := by rw [HB3.out.cell]; rfl
  have d2 : w3.cell? ⟨g2 + 1, 2, none⟩ = some (.int .i64 to_) := by rw [HB3.out.cell]; rfl
  obtain ⟨w4, hw4⟩ : ∃ w4, w4 = ((w3.setCell ⟨g2, 0, none⟩ (.slice (some ⟨gn, 0, none⟩) ynodes.length cn)).setCell ⟨g2, 1, none⟩ (.slice (some ⟨gc, 0, none⟩) yclock.length cc)).setCell ⟨g2, 2, none⟩ (.slice At ynet.length ct) := ⟨_, rfl⟩
  rw [← hw4] at HY3 HD3 Hb4 HE3 HE4
  have S4 := Lib.hid (show StR b0 w w4 g2 ⟨.slice (some ⟨gn, 0, none⟩) ynodes.length cn, ynodes, .slice (some ⟨gc, 0, none⟩) yclock.length cc, yclock, .slice At ynet.length ct, ynet⟩ (⟨1, node, to_, nm, bytes⟩, Ab, nb, cb) from ⟨Hb4.out, HD3.out, HE3.out, HE4.out, .of_own HY3.out⟩)
  have Hw4 := Lib.hid hw4.symm
  unfold wV
  dsimp only
  obtain ⟨y, hy⟩ : ∃ y : Wx, y = ⟨.slice (some ⟨gn, 0, none⟩) ynodes.length cn, ynodes, .slice (some ⟨gc, 0, none⟩) yclock.length cc, yclock, .slice At ynet.length ct, ynet⟩ := ⟨_, rfl⟩
  obtain ⟨n, hn⟩ : ∃ n, n = ynodes.length := ⟨_, rfl⟩
  obtain ⟨q, hq⟩ : ∃ q, q = ynet.length := ⟨_, rfl⟩
  have HVn : Hid (y.vn = .slice (some ⟨gn, 0, none⟩) n cn) := Lib.hid (by rw [hy, hn])
  have HVc : Hid (y.vc = .slice (some ⟨gc, 0, none⟩) n cc) := Lib.hid (by rw [hy, hn, ← hcl])
  have HVt : Hid (y.vt = .slice At q ct) := Lib.hid (by rw [hy, hq])
  have Hn : Hid (n = y.nodes.length) := Lib.hid (by rw [hy, hn])
  have Hq : Hid (q = y.net.length) := Lib.hid (by rw [hy, hq])
  have Hlen : Hid (y.clock.length = y.nodes.length) := Lib.hid (by rw [hy]; exact hcl)
  have Hnl : Hid (y.wd.nodes.length = n) := Lib.hid (by rw [hy, hn]; simp [Wx.wd])
  have Htl : Hid (y.wd.net.length = q) := Lib.hid (by rw [hy, hq]; simp [Wx.wd])
  have Hvn : Hid (y.vn = .slice (some ⟨gn, 0, none⟩) y.nodes.length cn) := Lib.hid (by rw [hy])
  have Hvc : Hid (y.vc = .slice (some ⟨gc, 0, none⟩) y.clock.length cc) := Lib.hid (by rw [hy])
  have hgn3 : gn ≠ g2 := fun e => own_ne HY.out.nodes HB2.out (by decide) (by rw [e]; rfl)
  have hgt3 : ∀ gt, At = some ⟨gt, 0, none⟩ → gt ≠ g2 := fun gt e1 e => own_ne HY.out.net HB2.out (by decide) (by rw [e1, e]; rfl)
  rw [← hy] at S4 HU HOK HY
  rw [← hn, hcl, ← hn, ← hq] at Hw4
  rw [← hn, hcl, ← hn, ← hq]
  rw [← hn] at hsome
  have hfew : n ≤ 4 := by rw [← Hnl.out]; exact HOK.out.few
  have hnet : q ≤ 20 := by rw [← Htl.out]; exact HOK.out.net
  have HB4 : Hid (Blk w4 g2 26 #[.slice (some ⟨gn, 0, none⟩) n cn, .slice (some ⟨gc, 0, none⟩) n cc, .slice At q ct]) := Lib.hid (by rw [← HVn.out, ← HVc.out, ← HVt.out]; exact S4.out.bw)
  clear hw4 HY1 HY2 HY3 HD1 HD2 HD3 HE3 HE4 Hb4 Hb3 HB2 HB3 hy hn hq hcl
  have HNode := Lib.hid (stepNode_any g2 n cn (some ⟨gn, 0, none⟩) node w4 (blk3 HB4.out).1 (by omega))
  go_wp2_with fail
  rw [Hw4.out]
  clear bb0 bb1 bb2 f0 f1 f2 d0 d1 d2 Hw4
  have x0 : w4.cell? ⟨g2 + 1, 0, none⟩ = some (.int .i64 1) := by rw [S4.out.bx.cell]; rfl
  have x1 : w4.cell? ⟨g2 + 1, 1, none⟩ = some (.int .i64 node) := by rw [S4.out.bx.cell]; rfl
  have x2 : w4.cell? ⟨g2 + 1, 2, none⟩ = some (.int .i64 to_) := by rw [S4.out.bx.cell]; rfl
  obtain ⟨v0, v1, v2⟩ := blk3 HB4.out
  refine (HNode.out).mono ?_
  rintro e w5 ⟨rfl, hw5⟩
  rw [hw5]
  clear hw5 w5 HNode
  by_cases hb : 0 ≤ node ∧ node < (n : Int)
  · obtain ⟨k, rfl⟩ : ∃ k : Nat, node = (k : Int) := ⟨node.toNat, by omega⟩
    have hkn : k < n := by omega
    have hkN : k < y.nodes.length := by rw [← Hn.out]; exact hkn
    have hkC : k < y.clock.length := by rw [Hlen.out]; exact hkN
    have hd : decide (0 ≤ (k : Int) ∧ (k : Int) < (n : Int)) = true := decide_eq_true hb
    rw [hd]
    have hcD : y.wd.clock.getD k 0 = y.clock[k] := by simp [Wx.wd, List.getD_eq_getElem?_getD, hkC]
    have hlD : y.wd.nodes.getD k [] = flOf y.nodes[k].2 := by simp [Wx.wd, List.getD_eq_getElem?_getD, hkN]
    have hNd := HOK.out.node k (flOf y.nodes[k].2) y.clock[k] (by simp [Wx.wd, hkN]) (by simp [Wx.wd, hkC])
    have hfo := fileOf_ok (w := y.wd) (x := ⟨1, (k : Int), to_, nm, bytes⟩) (c := y.clock[k]) HOK.out.few (by show (0 : Int) ≤ (k : Int); omega) (by rw [Hnl.out]; exact hb.2) (by simp)
    obtain ⟨hR1, hR2, hR3, hR4, hR5, hR6⟩ := putR_cases y.wd ⟨1, (k : Int), to_, nm, bytes⟩ k _ _ rfl hcD hlD
    have hU := HU.out.trans (sR_put (by simp) (by show (0 : Int) ≤ (k : Int); omega) (by rw [Hnl.out]; exact hb.2))
    rw [← hU] at hR1 hR2 hR3 hR4 hR5 hR6
    have hcellN := own_node (by have := S4.out.own.nodes; rw [Hvn.out] at this; exact this) rfl hkN
    have hcellC := own_clock (by have := S4.out.own.clock; rw [Hvc.out] at this; exact this) rfl hkC
    have HMix := Lib.hid (fun W (hb : Below w4.heap.size w4 W) => (S4.out.step hb).own.node y.nodes[k] (List.getElem_mem hkN))
    obtain ⟨c, hcE⟩ : ∃ c, c = y.clock[k] := ⟨_, rfl⟩
    obtain ⟨nd, hnd⟩ : ∃ nd, nd = y.nodes[k] := ⟨_, rfl⟩
    rw [← hcE] at hR2 hR3 hR4 hR5 hR6 hNd hfo hcellC
    rw [← hnd] at hR4 hR5 hR6 hNd hcellN HMix
    have HcE := Lib.hid hcE.symm
    obtain ⟨⟨A', n', c'⟩, fl⟩ := nd
    simp only [slv] at hcellN HMix
    dsimp only at hR2 hR3 hR4 hR5 hR6 hNd
    have HR1 := Lib.hid hR1
    have HR2 := Lib.hid hR2
    have HR3 := Lib.hid hR3
    have HR4 := Lib.hid hR4
    have HR5 := Lib.hid hR5
    have HR6 := Lib.hid hR6
    have HNd := Lib.hid hNd
    have hc0 := hNd.2.1
    have hc1 := hNd.2.2.1
    have HFo := Lib.hid hfo
    have HN4 := Lib.hid hcellN
    have HC4 := Lib.hid hcellC
    have hgn : gn ≠ g2 := fun e => own_ne S4.out.own.nodes S4.out.bw (by decide) (by rw [Hvn.out, e]; rfl)
    have hgc : gc ≠ g2 := fun e => own_ne S4.out.own.clock S4.out.bw (by decide) (by rw [Hvc.out, e]; rfl)
    have hgnc : gn ≠ gc := fun e => by
      have h1 := S4.out.own.clock
      rw [Hvc.out] at h1
      obtain ⟨_, cs, h2⟩ := own_blk h1
      exact own_ne S4.out.own.nodes h2 (by decide) (by rw [Hvn.out, e]; rfl)
    have hgn1 : gn ≠ g2 + 1 := fun e => own_ne S4.out.own.nodes S4.out.bx (by decide) (by rw [Hvn.out, e]; rfl)
    have hgc1 : gc ≠ g2 + 1 := fun e => own_ne S4.out.own.clock S4.out.bx (by decide) (by rw [Hvc.out, e]; rfl)
    have hgn2 : gn ≠ g2 + 2 := fun e => own_ne S4.out.own.nodes S4.out.br (by decide) (by rw [Hvn.out, e]; rfl)
    have hgc2 : gc ≠ g2 + 2 := fun e => own_ne S4.out.own.clock S4.out.br (by decide) (by rw [Hvc.out, e]; rfl)
    have HPt := Lib.hid (parted_any nm w4 HH.out.name (HML.out.below S4.out.below))
    have x3 : w4.cell? ⟨g2 + 1, 3, none⟩ = some (.string (strB nm)) := by rw [S4.out.bx.cell]; rfl
    clear hb hd hcD hlD hNd hfo hR1 hR2 hR3 hR4 hR5 hR6 hU hcellN hcellC hcE hnd
    go_wp2_with fail
    refine (HPt.out).mono ?_
    rintro e w5 ⟨hcase, hb5⟩
    have S5 := Lib.hid (S4.out.step hb5)
    have HB5 := Lib.hid (HB4.out.below hb5 HB4.out.lt)
    have HN5 := Lib.hid (cell_below hb5 HN4.out)
    have HC5 := Lib.hid (cell_below hb5 HC4.out)
    have HMix := Lib.hid (fun W (hb : Below w5.heap.size w5 W) => HMix.out W (hb5.trans (hb.mono hb5.size)))
    clear hb5 v0 v1 v2 x0 x1 x2 x3 HPt S4 HB4 HN4 HC4
    rcases hcase with ⟨he, rfl⟩ | ⟨he, gp, rfl, _, _⟩
    · have HU := Lib.hid (HR1.out he)
      generalize Name.nameE nm = z at *
      have hz1 : (z != 0) = true := by simpa using he
      clear HR1 HR2 HR3 HR4 HR5 HR6 HFo
      go_wp2_with fail
      refine (stepFail_any z _).mono ?_
      rintro e wf ⟨rfl, hbf⟩
      have SF := Lib.hid (S5.out.step hbf)
      clear hbf
      obtain ⟨k0, k1, k2⟩ := blk3 SF.out.br
      have kf0 := SF.out.br.frozen 0
      have kf1 := SF.out.br.frozen 1
      have kf2 := SF.out.br.frozen 2
      have HF3 := Lib.hid (((SF.out.br.set_ 0 (.slice none 0 0)).set_ 1 (.slice none 0 0)).set_ 2 (.slice none 0 0))
      have Hb6 := Lib.hid (((SF.out.below.setCell (show w.heap.size ≤ (⟨g2 + 2, 0, none⟩ : Addr).block from (by show w.heap.size ≤ g2 + 2; omega)) (.slice none 0 0)).setCell (show w.heap.size ≤ (⟨g2 + 2, 1, none⟩ : Addr).block from (by show w.heap.size ≤ g2 + 2; omega)) (.slice none 0 0)).setCell (show w.heap.size ≤ (⟨g2 + 2, 2, none⟩ : Addr).block from (by show w.heap.size ≤ g2 + 2; omega)) (.slice none 0 0))
      go_wp2_with fail
      refine bodyPost_ret (results_cell_row_tmp rfl _ _ (g2 + 2) 26 #[.slice none 0 0, .slice none 0 0, .slice none 0 0] (0, 0) _ rfl HF3.out Tryz.underlying26 rfl (by kernel_rfl)) rfl ?_
      rw [HU.out]
      exact RStepPost.fail _ Hb6.out
    · have HR2 := Lib.hid (HR2.out he)
      have HR3 := Lib.hid (HR3.out he)
      have HR4 := Lib.hid (HR4.out he)
      have HR5 := Lib.hid (HR5.out he)
      have HR6 := Lib.hid (HR6.out he)
      have HFo := Lib.hid (HFo.out he hc0)
      clear HR1 he
      obtain ⟨v0, v1, v2⟩ := blk3 HB5.out
      have x1 : w5.cell? ⟨g2 + 1, 1, none⟩ = some (.int .i64 (k : Int)) := by rw [S5.out.bx.cell]; rfl
      have hcC := HC5.out
      by_cases hmx : c = 1000000
      · have HU := Lib.hid (HR2.out hmx)
        subst hmx
        clear HR2 HR3 HR4 HR5 HR6 HFo
        go_wp2_with fail
        refine (stepFail_any 11 _).mono ?_
        rintro e wf ⟨rfl, hbf⟩
        have SF := Lib.hid (S5.out.step hbf)
        clear hbf
        obtain ⟨k0, k1, k2⟩ := blk3 SF.out.br
        have kf0 := SF.out.br.frozen 0
        have kf1 := SF.out.br.frozen 1
        have kf2 := SF.out.br.frozen 2
        have HF3 := Lib.hid (((SF.out.br.set_ 0 (.slice none 0 0)).set_ 1 (.slice none 0 0)).set_ 2 (.slice none 0 0))
        have Hb6 := Lib.hid (((SF.out.below.setCell (show w.heap.size ≤ (⟨g2 + 2, 0, none⟩ : Addr).block from (by show w.heap.size ≤ g2 + 2; omega)) (.slice none 0 0)).setCell (show w.heap.size ≤ (⟨g2 + 2, 1, none⟩ : Addr).block from (by show w.heap.size ≤ g2 + 2; omega)) (.slice none 0 0)).setCell (show w.heap.size ≤ (⟨g2 + 2, 2, none⟩ : Addr).block from (by show w.heap.size ≤ g2 + 2; omega)) (.slice none 0 0))
        go_wp2_with fail
        refine bodyPost_ret (results_cell_row_tmp rfl _ _ (g2 + 2) 26 #[.slice none 0 0, .slice none 0 0, .slice none 0 0] (0, 0) _ rfl HF3.out Tryz.underlying26 rfl (by kernel_rfl)) rfl ?_
        rw [HU.out]
        exact RStepPost.fail _ Hb6.out
      · have HR3 := Lib.hid (HR3.out hmx)
        have HR4 := Lib.hid (HR4.out hmx)
        have HR5 := Lib.hid (HR5.out hmx)
        have HR6 := Lib.hid (HR6.out hmx)
        have hcl : c < 1000000 := by omega
        have HFo := Lib.hid (HFo.out hcl)
        have hdc : (c == 1000000) = false := by simpa using hmx
        have hdc2 : decide (c = 1000000) = false := decide_eq_false hmx
        have hwr : IntKind.i64.wrap (c + 1) = c + 1 := IntWalk.i64_in _ (by omega)
        clear HR2
        go_wp2_with fail
        have HS : Hid (∀ W, Below w5.heap.size w5 W → W.cell? ⟨g2 + 1, 3, none⟩ = some (.string (strB nm)) ∧ W.cell? ⟨g2, 1, none⟩ = some (.slice (some ⟨gc, 0, none⟩) n cc) ∧ W.cell? ⟨g2 + 1, 1, none⟩ = some (.int .i64 (k : Int)) ∧ W.cell? ⟨gc, k, none⟩ = some (.int .i64 c) ∧ W.cell? ⟨g2 + 1, 0, none⟩ = some (.int .i64 1)) := Lib.hid (fun W hb => ⟨by rw [(S5.out.step hb).bx.cell]; rfl, by rw [(HB5.out.below hb HB5.out.lt).cell]; rfl, by rw [(S5.out.step hb).bx.cell]; rfl, cell_below hb HC5.out, by rw [(S5.out.step hb).bx.cell]; rfl⟩)
        go_region_held3 (fun W => W.cell? ⟨g2 + 1, 3, none⟩ = some (.string (strB nm)) ∧ W.cell? ⟨g2, 1, none⟩ = some (.slice (some ⟨gc, 0, none⟩) n cc) ∧ W.cell? ⟨g2 + 1, 1, none⟩ = some (.int .i64 (k : Int)) ∧ W.cell? ⟨gc, k, none⟩ = some (.int .i64 c) ∧ W.cell? ⟨g2 + 1, 0, none⟩ = some (.int .i64 1)) (first | exact HS.out _ (Below.refl _ _).drew | exact HS.out _ ((Below.refl _ _).drew.alloc (Nat.le_refl _) _) | (refine HS.out _ ?_; repeat (first | exact Below.refl _ _ | apply Below.drew | refine Below.alloc ?_ (by simp) _ | refine Below.setCell ?_ (by simp) _))) ((fail))
        obtain ⟨w6, hw6⟩ : ∃ w6, w6 = (w5.alloc (.cells #[.string (strB nm), .slice none 0 0, .int .i64 (c + 1), .int .i64 (k : Int), .bool false] 49)).drew := ⟨_, rfl⟩
        obtain ⟨gf, hgf⟩ : ∃ gf, gf = w5.heap.size := ⟨_, rfl⟩
        have hb6 : Below w5.heap.size w5 w6 := by rw [hw6]; exact ((Below.refl _ _).alloc (Nat.le_refl _) _).drew
        have HF6 := Lib.hid (show Blk w6 gf 49 #[.string (strB nm), .slice none 0 0, .int .i64 (c + 1), .int .i64 (k : Int), .bool false] by rw [hw6, hgf]; exact Blk.new _ _ _)
        have Hgf5 : Hid (w5.heap.size ≤ gf) := Lib.hid (by omega)
        have Hw6 := Lib.hid hw6.symm
        have Hgf := Lib.hid hgf.symm
        have hfbase : w.heap.size ≤ gf := by have := S5.out.below.size; omega
        have S6 := Lib.hid (S5.out.step hb6)
        have Hb6 := Lib.hid hb6
        clear hw6 hgf hb6 v0 v1 v2 x1 hcC hwr HS
        have HnbL : Hid (nb = bytes.length) := Lib.hid HH.out.len
        by_cases hbl : 3000 < bytes.length
        · have HU := Lib.hid (HR3.out (by simp) hbl)
          have hbl2 : (3000 : Int) < (nb : Int) := by have := HnbL.out; omega
          rw [Hw6.out, Hgf.out]
          have x4 : w6.cell? ⟨g2 + 1, 4, none⟩ = some (.slice Ab nb cb) := by rw [S6.out.bx.cell]; rfl
          have x0 : w6.cell? ⟨g2 + 1, 0, none⟩ = some (.int .i64 1) := by rw [S6.out.bx.cell]; rfl
          clear HR3 HR4 HR5 HR6 HFo hbl
          go_wp2_with fail
          refine (stepFail_any 2 _).mono ?_
          rintro e wf ⟨rfl, hbf⟩
          have SF := Lib.hid (S6.out.step hbf)
          clear hbf
          obtain ⟨k0, k1, k2⟩ := blk3 SF.out.br
          have kf0 := SF.out.br.frozen 0
          have kf1 := SF.out.br.frozen 1
          have kf2 := SF.out.br.frozen 2
          have HF3 := Lib.hid (((SF.out.br.set_ 0 (.slice none 0 0)).set_ 1 (.slice none 0 0)).set_ 2 (.slice none 0 0))
          have Hb6 := Lib.hid (((SF.out.below.setCell (show w.heap.size ≤ (⟨g2 + 2, 0, none⟩ : Addr).block from (by show w.heap.size ≤ g2 + 2; omega)) (.slice none 0 0)).setCell (show w.heap.size ≤ (⟨g2 + 2, 1, none⟩ : Addr).block from (by show w.heap.size ≤ g2 + 2; omega)) (.slice none 0 0)).setCell (show w.heap.size ≤ (⟨g2 + 2, 2, none⟩ : Addr).block from (by show w.heap.size ≤ g2 + 2; omega)) (.slice none 0 0))
          go_wp2_with fail
          refine bodyPost_ret (results_cell_row_tmp rfl _ _ (g2 + 2) 26 #[.slice none 0 0, .slice none 0 0, .slice none 0 0] (0, 0) _ rfl HF3.out Tryz.underlying26 rfl (by kernel_rfl)) rfl ?_
          rw [HU.out]
          exact RStepPost.fail _ Hb6.out
        · have hbl2 : ¬ (3000 : Int) < (nb : Int) := by have := HnbL.out; omega
          have hnb3 : nb ≤ 3000 := by have := HnbL.out; omega
          have HFo := Lib.hid (HFo.out (fun g => hbl g.2))
          have HR5 := Lib.hid (HR5.out (fun g => hbl g.2) (fun g => by have := g.1; simp at this))
          have HR6 := Lib.hid (HR6.out (fun g => hbl g.2) (fun g => by have := g.1; simp at this))
          clear HR3 HR4 hbl
          rw [Hw6.out, Hgf.out]
          have x4 : w6.cell? ⟨g2 + 1, 4, none⟩ = some (.slice Ab nb cb) := by rw [S6.out.bx.cell]; rfl
          have x0 : w6.cell? ⟨g2 + 1, 0, none⟩ = some (.int .i64 1) := by rw [S6.out.bx.cell]; rfl
          have hgf1 : w6.cell? ⟨gf, 1, none⟩ = some (.slice none 0 0) := by rw [HF6.out.cell]; rfl
          have hgf1f := HF6.out.frozen 1
          obtain ⟨w7, hw7⟩ : ∃ w7, w7 = w6.setCell ⟨gf, 1, none⟩ (.slice Ab nb cb) := ⟨_, rfl⟩
          have hb7 : Below w5.heap.size w6 w7 := by rw [hw7]; exact (Below.refl _ _).setCell (show w5.heap.size ≤ (⟨gf, 1, none⟩ : Addr).block from Hgf5.out) _
          have HF7 := Lib.hid (show Blk w7 gf 49 #[.string (strB nm), .slice Ab nb cb, .int .i64 (c + 1), .int .i64 (k : Int), .bool false] by rw [hw7]; exact HF6.out.set_ 1 (.slice Ab nb cb))
          have Hw7 := Lib.hid hw7.symm
          clear hw7
          go_wp2_with fail
          rw [Hw7.out]
          clear hgf1 hgf1f x0 x4 Hw7 Hw6 Hgf HF6 S6
          have hb57 := Hb6.out.trans hb7
          have S7 := Lib.hid (S5.out.step hb57)
          have HB7 := Lib.hid (HB5.out.below hb57 HB5.out.lt)
          have HN7 := Lib.hid (cell_below hb57 HN5.out)
          have HC7 := Lib.hid (cell_below hb57 HC5.out)
          have HMix := Lib.hid (fun W (hb : Below w7.heap.size w7 W) => HMix.out W (hb57.trans (hb.mono hb57.size)))
          have HMf := Lib.hid (fun W (hb : Below w7.heap.size w7 W) => show MixF W w.heap.size b0 (⟨nm, bytes, c + 1, (k : Int), false⟩, Ab, nb, cb) from
            have hbo := (S7.out.step hb).below
            ⟨⟨HnbL.out, HH.out.room, HH.out.cap, HH.out.at_.below hbo, HH.out.name, show wfI (c + 1) from wf_mk (by omega) (by omega), HH.out.node⟩, .inr ⟨hb0, fun hne a ha => Hlow.out hne a ha⟩⟩)
          clear hb57 hb7 Hb6 S5 HB5 HN5 HC5
          have HfE : Hid (fileOf ⟨1, (k : Int), to_, nm, bytes⟩ c = ⟨nm, bytes, c + 1, (k : Int), false⟩) := Lib.hid rfl
          rw [HfE.out] at HR5 HR6 HFo
          have HT := Lib.hid (fun W g g' (hb : Below w7.heap.size w7 W) (hrow : SlAt W (some ⟨g, 0, none⟩) [.slice A' n' c', .slice (some ⟨g', 0, none⟩) 1 1]) (hf : SlAt W (some ⟨g', 0, none⟩) (fC (⟨nm, bytes, c + 1, (k : Int), false⟩, Ab, nb, cb))) =>
            tog_two (base := w.heap.size) (l1 := fl) (l2 := [(⟨nm, bytes, c + 1, (k : Int), false⟩, Ab, nb, cb)]) hrow (HMix.out W hb).files
              ⟨_, 1, rfl, Nat.le_refl _, by unfold maxLen; omega, by simpa using hf, by simp, fun x hx => by rw [List.mem_singleton] at hx; subst hx; exact (HMf.out W hb).at_⟩
              (HMix.out W hb).each (fun x hx => by rw [List.mem_singleton] at hx; subst hx; exact HMf.out W hb) HNd.out.1 (chk_one HFo.out) (S7.out.step hb).below.size)
          have HS : Hid (∀ W, Below w7.heap.size w7 W → W.cell? ⟨g2, 0, none⟩ = some (.slice (some ⟨gn, 0, none⟩) n cn) ∧ W.cell? ⟨g2 + 1, 1, none⟩ = some (.int .i64 (k : Int)) ∧ W.cell? ⟨gn, k, none⟩ = some (.slice A' n' c') ∧ W.cell? ⟨gf, 0, none⟩ = some (.string (strB nm)) ∧ W.cell? ⟨gf, 1, none⟩ = some (.slice Ab nb cb) ∧ W.cell? ⟨gf, 2, none⟩ = some (.int .i64 (c + 1)) ∧ W.cell? ⟨gf, 3, none⟩ = some (.int .i64 (k : Int)) ∧ W.cell? ⟨gf, 4, none⟩ = some (.bool false)) := Lib.hid (fun W hb =>
            ⟨by rw [(HB7.out.below hb HB7.out.lt).cell]; rfl, by rw [(S7.out.step hb).bx.cell]; rfl, cell_below hb HN7.out, by rw [(HF7.out.below hb HF7.out.lt).cell]; rfl, by rw [(HF7.out.below hb HF7.out.lt).cell]; rfl, by rw [(HF7.out.below hb HF7.out.lt).cell]; rfl, by rw [(HF7.out.below hb HF7.out.lt).cell]; rfl, by rw [(HF7.out.below hb HF7.out.lt).cell]; rfl⟩)
          refine wp_region_S (fun W => W.cell? ⟨g2, 0, none⟩ = some (.slice (some ⟨gn, 0, none⟩) n cn) ∧ W.cell? ⟨g2 + 1, 1, none⟩ = some (.int .i64 (k : Int)) ∧ W.cell? ⟨gn, k, none⟩ = some (.slice A' n' c') ∧ W.cell? ⟨gf, 0, none⟩ = some (.string (strB nm)) ∧ W.cell? ⟨gf, 1, none⟩ = some (.slice Ab nb cb) ∧ W.cell? ⟨gf, 2, none⟩ = some (.int .i64 (c + 1)) ∧ W.cell? ⟨gf, 3, none⟩ = some (.int .i64 (k : Int)) ∧ W.cell? ⟨gf, 4, none⟩ = some (.bool false)) 10 (by kernel_rfl) ?_
          obtain ⟨u5, hu5⟩ : ∃ u5, u5 = w7.drew := ⟨_, rfl⟩
          have hbu5 : Below w7.heap.size w7 u5 := by rw [hu5]; exact (Below.refl _ _).drew
          have Hu5 := Lib.hid hbu5
          rw [← hu5]
          have hHeld := HS.out u5 hbu5
          clear hu5 hbu5
          refine wpAnyS_take (i := 0) (v := ?v0) (by kernel_rfl) rfl (by kernel_rfl) (by kernel_rfl) (by kernel_rfl) (fun _ _ _ h => h) (by rfl) (by assumption) ?hy0 ?rest0
          case hy0 => (intro W hSW; (try dsimp only at hSW); go_simp; try with_reducible rfl)
          (try simp only [Act.put, List.getElem_toArray, List.getElem_cons_zero, List.getElem_cons_succ, List.setIfInBounds_toArray, List.set_cons_zero, List.set_cons_succ])
          refine wpAnyS_take (i := 1) (v := ?v1) (by kernel_rfl) rfl (by kernel_rfl) (by kernel_rfl) (by kernel_rfl) (fun _ _ _ h => h) (by rfl) (by assumption) ?hy1 ?rest1
          case hy1 => (intro W hSW; (try dsimp only at hSW); go_simp; try with_reducible rfl)
          (try simp only [Act.put, List.getElem_toArray, List.getElem_cons_zero, List.getElem_cons_succ, List.setIfInBounds_toArray, List.set_cons_zero, List.set_cons_succ])
          refine wpAnyS_take (i := 2) (v := ?v2) (by kernel_rfl) rfl (by kernel_rfl) (by kernel_rfl) (by kernel_rfl) (fun _ _ _ h => h) (by rfl) (by assumption) ?hy2 ?rest2
          case hy2 => (intro W hSW; (try dsimp only at hSW); go_simp; try with_reducible rfl)
          (try simp only [Act.put, List.getElem_toArray, List.getElem_cons_zero, List.getElem_cons_succ, List.setIfInBounds_toArray, List.set_cons_zero, List.set_cons_succ])
          refine wpAnyS_take (i := 3) (v := ?v3) (by kernel_rfl) rfl (by kernel_rfl) (by kernel_rfl) (by kernel_rfl) (fun _ _ _ h => h) (by rfl) (by assumption) ?hy3 ?rest3
          case hy3 => (intro W hSW; (try dsimp only at hSW); go_simp; try with_reducible rfl)
          (try simp only [Act.put, List.getElem_toArray, List.getElem_cons_zero, List.getElem_cons_succ, List.setIfInBounds_toArray, List.set_cons_zero, List.set_cons_succ])
          refine wpAnyS_take (i := 4) (v := ?v4) (by kernel_rfl) rfl (by kernel_rfl) (by kernel_rfl) (by kernel_rfl) (fun _ _ _ h => h) (by rfl) (by assumption) ?hy4 ?rest4
          case hy4 => (intro W hSW; (try dsimp only at hSW); go_simp; try with_reducible rfl)
          (try simp only [Act.put, List.getElem_toArray, List.getElem_cons_zero, List.getElem_cons_succ, List.setIfInBounds_toArray, List.set_cons_zero, List.set_cons_succ])
          refine wpAnyS_take (i := 5) (v := ?v5) (by kernel_rfl) rfl (by kernel_rfl) (by kernel_rfl) (by kernel_rfl) (fun _ _ _ h => h) (by rfl) (by assumption) ?hy5 ?rest5
          case hy5 => (intro W hSW; (try dsimp only at hSW); go_simp; try with_reducible rfl)
          (try simp only [Act.put, List.getElem_toArray, List.getElem_cons_zero, List.getElem_cons_succ, List.setIfInBounds_toArray, List.set_cons_zero, List.set_cons_succ])
          refine wpAnyS_take (i := 6) (v := ?v6) (by kernel_rfl) rfl (by kernel_rfl) (by kernel_rfl) (by kernel_rfl) (fun _ _ _ h => h) (by rfl) (by assumption) ?hy6 ?rest6
          case hy6 => (intro W hSW; (try dsimp only at hSW); go_simp; try with_reducible rfl)
          (try simp only [Act.put, List.getElem_toArray, List.getElem_cons_zero, List.getElem_cons_succ, List.setIfInBounds_toArray, List.set_cons_zero, List.set_cons_succ])
          refine wpAnyS_only (i := 7) rfl (by kernel_rfl) (fun K hK => ?_)
          go_simp
          clear hHeld
          obtain ⟨u6, hu6⟩ : ∃ u6, u6 = u5.alloc (.cells #[.string (strB nm), .slice Ab nb cb, .int .i64 (c + 1), .int .i64 (k : Int), .bool false] 49) := ⟨_, rfl⟩
          obtain ⟨g6, hg6⟩ : ∃ g6, g6 = u5.heap.size := ⟨_, rfl⟩
          have hbu6 : Below u5.heap.size u5 u6 := by rw [hu6]; exact (Below.refl _ _).alloc (Nat.le_refl _) _
          have Hu6 := Lib.hid (Hu5.out.trans (hbu6.mono Hu5.out.size))
          have HBu6 := Lib.hid (show Blk u6 g6 49 #[.string (strB nm), .slice Ab nb cb, .int .i64 (c + 1), .int .i64 (k : Int), .bool false] by rw [hu6, hg6]; exact Blk.new _ _ _)
          rw [← hu6, ← hg6]
          clear hu6 hg6 hbu6
          refine hK.out _ _ (HS.out _ Hu6.out) (fun hHeld => ?_)
          clear hK K
          (try simp only [Act.put, List.getElem_toArray, List.getElem_cons_zero, List.getElem_cons_succ, List.setIfInBounds_toArray, List.set_cons_zero, List.set_cons_succ])
          refine wpAnyS_only (i := 8) rfl (by kernel_rfl) (fun K hK => ?_)
          go_simp
          clear hHeld
          obtain ⟨u7, hu7⟩ : ∃ u7, u7 = u6.alloc (.cells #[.slice A' n' c', .slice (some ⟨g6, 0, none⟩) 1 1] 46) := ⟨_, rfl⟩
          obtain ⟨g7, hg7⟩ : ∃ g7, g7 = u6.heap.size := ⟨_, rfl⟩
          have hbu7 : Below u6.heap.size u6 u7 := by rw [hu7]; exact (Below.refl _ _).alloc (Nat.le_refl _) _
          have Hu7 := Lib.hid (Hu6.out.trans (hbu7.mono Hu6.out.size))
          have HBu7 := Lib.hid (HBu6.out.below hbu7 HBu6.out.lt)
          have HBr7 := Lib.hid (show Blk u7 g7 46 #[.slice A' n' c', .slice (some ⟨g6, 0, none⟩) 1 1] by rw [hu7, hg7]; exact Blk.new _ _ _)
          rw [← hu7, ← hg7]
          clear hu7 hg7 hbu7
          refine hK.out _ _ (HS.out _ Hu7.out) (fun hHeld => ?_)
          clear hK K
          (try simp only [Act.put, List.getElem_toArray, List.getElem_cons_zero, List.getElem_cons_succ, List.setIfInBounds_toArray, List.set_cons_zero, List.set_cons_succ])
          refine wpAnyS_only (i := 9) rfl (by kernel_rfl) (fun K hK => ?_)
          go_simp
          clear hHeld
          go_at_call 17
          refine (HT.out u7 g7 g6 Hu7.out (SlAt.of_heap HBr7.out rfl) (SlAt.of_heap HBu7.out rfl)).mono ?_
          rintro e w9 ⟨A9, ln9, c9, l9, rfl, hl9, hm9, he9, hb9⟩
          have Hb9 := Lib.hid (Hu7.out.trans (hb9.mono Hu7.out.size))
          have Hl9 := Lib.hid hl9
          have Hm9 := Lib.hid hm9
          have He9 := Lib.hid he9
          clear hl9 hm9 he9 hb9
          refine hK.out _ _ (HS.out _ Hb9.out) (fun hHeld => ?_)
          clear hK K
          (try simp only [Act.put, List.getElem_toArray, List.getElem_cons_zero, List.getElem_cons_succ, List.setIfInBounds_toArray, List.set_cons_zero, List.set_cons_succ])
          refine wpAnyS_last rfl (by kernel_rfl) (by kernel_rfl) (fun K hK => ?_)
          go_simp
          refine hK.out _ _ ?_
          clear hK K
          clear hHeld Hu5 Hu6 Hu7 HBu6 HBu7 HBr7
          have S9 := Lib.hid (S7.out.step Hb9.out)
          have HB9 := Lib.hid (HB7.out.below Hb9.out HB7.out.lt)
          have HN9 := Lib.hid (cell_below Hb9.out HN7.out)
          have HC9 := Lib.hid (cell_below Hb9.out HC7.out)
          rw [show flOf [((⟨nm, bytes, c + 1, (k : Int), false⟩, Ab, nb, cb) : Fx)] = [⟨nm, bytes, c + 1, (k : Int), false⟩] from rfl] at He9
          have hln : ln9 = (bothL (flOf fl) [(⟨nm, bytes, c + 1, (k : Int), false⟩ : Fl)]).length := by rw [Hl9.out, ← He9.out]; unfold flOf; rw [List.length_map]
          clear S7 HB7 HN7 HC7 HF7 HMf HT HS Hb9 HMix
          by_cases h12 : 12 < (bothL (flOf fl) [(⟨nm, bytes, c + 1, (k : Int), false⟩ : Fl)]).length
          · have HU := Lib.hid (HR5.out h12)
            rw [← hln] at h12
            have h12' : (12 : Int) < (ln9 : Int) := by omega
            clear hln HR5 HR6
            go_wp2_with fail
            refine (stepFail_any 11 _).mono ?_
            rintro e wf ⟨rfl, hbf⟩
            have SF := Lib.hid (S9.out.step hbf)
            clear hbf
            obtain ⟨k0, k1, k2⟩ := blk3 SF.out.br
            have kf0 := SF.out.br.frozen 0
            have kf1 := SF.out.br.frozen 1
            have kf2 := SF.out.br.frozen 2
            have HF3 := Lib.hid (((SF.out.br.set_ 0 (.slice none 0 0)).set_ 1 (.slice none 0 0)).set_ 2 (.slice none 0 0))
            have Hb6 := Lib.hid (((SF.out.below.setCell (show w.heap.size ≤ (⟨g2 + 2, 0, none⟩ : Addr).block from (by show w.heap.size ≤ g2 + 2; omega)) (.slice none 0 0)).setCell (show w.heap.size ≤ (⟨g2 + 2, 1, none⟩ : Addr).block from (by show w.heap.size ≤ g2 + 2; omega)) (.slice none 0 0)).setCell (show w.heap.size ≤ (⟨g2 + 2, 2, none⟩ : Addr).block from (by show w.heap.size ≤ g2 + 2; omega)) (.slice none 0 0))
            go_wp2_with fail
            refine bodyPost_ret (results_cell_row_tmp rfl _ _ (g2 + 2) 26 #[.slice none 0 0, .slice none 0 0, .slice none 0 0] (0, 0) _ rfl HF3.out Tryz.underlying26 rfl (by kernel_rfl)) rfl ?_
            rw [HU.out]
            exact RStepPost.fail _ Hb6.out
          · have HU := Lib.hid (HR6.out h12)
            rw [← hln] at h12
            have h12' : ¬ (12 : Int) < (ln9 : Int) := by omega
            clear hln HR5 HR6
            obtain ⟨v0, v1, v2⟩ := blk3 HB9.out
            have x0 : w9.cell? ⟨g2 + 1, 0, none⟩ = some (.int .i64 1) := by rw [S9.out.bx.cell]; rfl
            have x1 : w9.cell? ⟨g2 + 1, 1, none⟩ = some (.int .i64 (k : Int)) := by rw [S9.out.bx.cell]; rfl
            have hN9 := HN9.out
            have hC9 := HC9.out
            have fN : w9.frozen? ⟨gn, k, none⟩ = false := by have := S9.out.own.nodes; rw [Hvn.out] at this; exact this.frozenAt _
            have fC_ : w9.frozen? ⟨gc, k, none⟩ = false := by have := S9.out.own.clock; rw [Hvc.out] at this; exact this.frozenAt _
            have hwr : IntKind.i64.wrap (c + 1) = c + 1 := IntWalk.i64_in _ (by omega)
            obtain ⟨y2, hy2⟩ : ∃ y2 : Wx, y2 = { y with nodes := y.nodes.set k ((A9, ln9, c9), l9), clock := y.clock.set k (c + 1) } := ⟨_, rfl⟩
            obtain ⟨wF, hwF⟩ : ∃ wF, wF = (w9.setCell ⟨gn, k, none⟩ (.slice A9 ln9 c9)).setCell ⟨gc, k, none⟩ (.int .i64 (c + 1)) := ⟨_, rfl⟩
            have HM2 : Hid (MixW wF w.heap.size b0 y2) := Lib.hid (by
              rw [hwF, hy2]
              have h1 := MixW.setNode (k := k) S9.out.own Hvn.out rfl (A9, ln9, c9) l9 Hm9.out
              exact MixW.setClock (k := k) h1 Hvc.out rfl (c + 1) (show wfI (c + 1) from wf_mk (by omega) (by omega)))
            have hgnB : w.heap.size ≤ gn := by have := S9.out.own.nodes; rw [Hvn.out] at this; exact (own_blk this).1
            have hgcB : w.heap.size ≤ gc := by have := S9.out.own.clock; rw [Hvc.out] at this; exact (own_blk this).1
            have HBF : Hid (Blk wF g2 26 #[.slice (some ⟨gn, 0, none⟩) n cn, .slice (some ⟨gc, 0, none⟩) n cc, .slice At q ct]) := Lib.hid (by
              rw [hwF]
              exact (HB9.out.far (p := ⟨gn, k, none⟩) (Ne.symm hgn) _).far (p := ⟨gc, k, none⟩) (Ne.symm hgc) _)
            have SF : Hid (FinR b0 w wF g2 y2) := Lib.hid ⟨by rw [hwF]; exact (S9.out.below.setCell (show w.heap.size ≤ (⟨gn, k, none⟩ : Addr).block from hgnB) _).setCell (show w.heap.size ≤ (⟨gc, k, none⟩ : Addr).block from hgcB) _,
              by rw [hy2]; dsimp only; rw [HVn.out, HVc.out, HVt.out]; exact HBF.out, by rw [hwF]; exact (S9.out.br.far (p := ⟨gn, k, none⟩) (Ne.symm hgn2) _).far (p := ⟨gc, k, none⟩) (Ne.symm hgc2) _,
              fun w' hk => (HM2.out.lower hb0).stay hk⟩
            have HwF := Lib.hid hwF.symm
            have HY2 := Lib.hid hy2
            clear hwF hy2 h12
            obtain ⟨k0, k1, k2⟩ := blk3 S9.out.br
            have kf0 := S9.out.br.frozen 0
            have kf1 := S9.out.br.frozen 1
            have kf2 := S9.out.br.frozen 2
            have hgn' := Ne.symm hgn
            have hgc' := Ne.symm hgc
            have hgn1' := Ne.symm hgn1
            have hgc1' := Ne.symm hgc1
            have hgn2' := Ne.symm hgn2
            have hgc2' := Ne.symm hgc2
            have hgnc' := Ne.symm hgnc
            clear S9 HB9 HN9 HC9 HM2
            have hwg2 : w.heap.size ≤ g2 + 2 := by omega
            have HF1 := Lib.hid (SF.out.br.set_ 0 (.slice (some ⟨gn, 0, none⟩) n cn))
            have HF2 := Lib.hid (HF1.out.set_ 1 (.slice (some ⟨gc, 0, none⟩) n cc))
            have HF3 := Lib.hid (HF2.out.set_ 2 (.slice At q ct))
            have HK := Lib.hid ((((Keeps.refl w.heap.size [26] _).setBlk SF.out.br (by simp) hwg2 0 (.slice (some ⟨gn, 0, none⟩) n cn)).setBlk HF1.out (by simp) hwg2 1 (.slice (some ⟨gc, 0, none⟩) n cc)).setBlk HF2.out (by simp) hwg2 2 (.slice At q ct))
            have Hb6 := Lib.hid (((SF.out.below.setCell (show w.heap.size ≤ (⟨g2 + 2, 0, none⟩ : Addr).block from hwg2) (.slice (some ⟨gn, 0, none⟩) n cn)).setCell (show w.heap.size ≤ (⟨g2 + 2, 1, none⟩ : Addr).block from hwg2) (.slice (some ⟨gc, 0, none⟩) n cc)).setCell (show w.heap.size ≤ (⟨g2 + 2, 2, none⟩ : Addr).block from hwg2) (.slice At q ct))
            go_wp2_with fail
            all_goals (
              rw [HwF.out]
              refine bodyPost_ret (results_cell_row_tmp rfl _ _ (g2 + 2) 26 #[.slice (some ⟨gn, 0, none⟩) n cn, .slice (some ⟨gc, 0, none⟩) n cc, .slice At q ct] (0, 0) _ rfl HF3.out Tryz.underlying26 rfl (by kernel_rfl)) rfl ?_
              rw [HU.out]
              exact ⟨y2, by rw [HY2.out]; unfold wV; dsimp only; rw [HVn.out, HVc.out, HVt.out]; rfl, fun w'' hk => SF.out.lie _ ((HK.out.mono hb0 (fun t ht => by rw [List.mem_singleton] at ht; subst ht; simp [T0])).trans hk), by rw [HY2.out]; simp only [Wx.wd, List.map_set]; rw [He9.out], Hb6.out⟩)
  · have HU := Lib.hid (HU.out.trans (sR_node (by simp) (by simp) (by rw [Hnl.out]; show node < 0 ∨ (n : Int) ≤ node; omega)))
    have hd : decide (0 ≤ node ∧ node < (n : Int)) = false := decide_eq_false hb
    rw [hd]
    clear hb hd
    go_wp2_with fail
    refine (stepFail_any 5 _).mono ?_
    rintro e wf ⟨rfl, hbf⟩
    have SF := Lib.hid (S4.out.step hbf)
    clear hbf
    obtain ⟨k0, k1, k2⟩ := blk3 SF.out.br
    have kf0 := SF.out.br.frozen 0
    have kf1 := SF.out.br.frozen 1
    have kf2 := SF.out.br.frozen 2
    have HF3 := Lib.hid (((SF.out.br.set_ 0 (.slice none 0 0)).set_ 1 (.slice none 0 0)).set_ 2 (.slice none 0 0))
    have Hb6 := Lib.hid (((SF.out.below.setCell (show w.heap.size ≤ (⟨g2 + 2, 0, none⟩ : Addr).block from (by show w.heap.size ≤ g2 + 2; omega)) (.slice none 0 0)).setCell (show w.heap.size ≤ (⟨g2 + 2, 1, none⟩ : Addr).block from (by show w.heap.size ≤ g2 + 2; omega)) (.slice none 0 0)).setCell (show w.heap.size ≤ (⟨g2 + 2, 2, none⟩ : Addr).block from (by show w.heap.size ≤ g2 + 2; omega)) (.slice none 0 0))
    go_wp2_with fail
    refine bodyPost_ret (results_cell_row_tmp rfl _ _ (g2 + 2) 26 #[.slice none 0 0, .slice none 0 0, .slice none 0 0] (0, 0) _ rfl HF3.out Tryz.underlying26 rfl (by kernel_rfl)) rfl ?_
    rw [HU.out]
    exact RStepPost.fail _ Hb6.out
end Go.Proofs.YtdoegpklephelaaGreatDoor.Worlds
