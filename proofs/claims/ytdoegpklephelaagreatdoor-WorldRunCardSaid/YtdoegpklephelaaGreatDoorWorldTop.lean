/- package world: Do, New, Run; told; SameWorld. -/
import Derived.Test.YtdoegpklephelaaGreatDoorWorldStep2
import Derived.RegionTactic
import Derived.ChangeAlike
import Derived.Test.YtdoegpklephelaaGreatDoorInAt
import Derived.Test.YtdoegpklephelaaGreatDoorProg
import Derived.WalkSpells
import Derived.Deep.QuietTactic
import Derived.BigQuiet
import Derived.Test.YtdoegpklephelaaGreatDoorWorldSame5
import Derived.Test.YtdoegpklephelaaGreatDoorWorldChk3
import Derived.Test.YtdoegpklephelaaGreatDoorEqual
import Derived.Lib.SlBytesConst
/- package world: Do. -/
namespace Go.Proofs.YtdoegpklephelaaGreatDoor.Worlds
open Go Go.RowKit Go.Proofs.YtdoegpklephelaaGreatDoor Go.Proofs.YtdoegpklephelaaGreatDoor.Name Go.Proofs.YtdoegpklephelaaGreatDoor.Merge
set_option linter.unusedVariables false

theorem results_cell_row_tmp {P : Program} {fn : Func} {p u : Tmp} {ty : TypeId} (h : fn.results = #[.cell p ty, .tmp u]) (tmps : Array Value) (w : World) (g : Nat) (t : TypeId) (cs : Array Value) (fr : Nat × Nat) (d : TypeDesc)
    (hp : tmps.getD p undef = .pointer (some ⟨g, 0, none⟩)) (hg : w.heap[g]? = some (.cells cs t fr))
    (hu : P.underlying ty = some d) (hd : (match d with | .struct _ | .array _ _ => true | _ => false) = true) (hi : (P.info? ty).map (·.size) = some cs.size) :
    (results fn tmps).run P w = .ok (.tuple #[.agg cs, tmps.getD u undef]) w := by
  have hp' : tmps[p]?.getD undef = .pointer (some ⟨g, 0, none⟩) := by simpa using hp
  simp [results, h, hp', asAddr, run_loadVar_row w g t ty cs fr d hg hu hd hi]
/-- a world that is read, told by what it is alone -/
def Ws (w : World) (v : Value) (d : Wd) : Prop := ∃ y : Wx, v = wV y ∧ IsWorld w y ∧ y.wd = d
theorem Ws.below {w w' : World} {v : Value} {d : Wd} (h : Ws w v d) (hb : Below w.heap.size w w') : Ws w' v d := by
  obtain ⟨y, h1, h2, h3⟩ := h
  exact ⟨y, h1, h2.below hb, h3⟩
theorem OwnW.ws {w : World} {base : Nat} {y : Wx} (h : OwnW w base y) : Ws w (wV y) y.wd := ⟨y, rfl, h.isWorld, rfl⟩
def DoPost (r : Int × Wd) (w : World) (e : Ending) (w' : World) : Prop :=
  ∃ y : Wx, e = .returned (.tuple #[wV y, .int .i64 r.1]) ∧ OwnW w' w.heap.size y ∧ y.wd = r.2 ∧ Below w.heap.size w w'
theorem step_none (w : Wd) (x : Hp) : (stepR w x).1 ≠ 0 → (stepR w x).2 = .none_ := by
  unfold stepR putR arriveR
  repeat' split
  all_goals simp
theorem do_1 {w : Wd} {x : Hp} (h : chkW w ≠ 0) : doR w x = (chkW w, .none_) := by unfold doR; rw [if_pos h]
theorem do_2 {w : Wd} {x : Hp} (h : chkW w = 0) : doR w x = stepR w x := by unfold doR; rw [if_neg (by simpa using h)]
def wx0 : Wx := ⟨.slice none 0 0, [], .slice none 0 0, [], .slice none 0 0, []⟩
theorem wx0_ws (w : World) : Ws w (.agg #[.slice none 0 0, .slice none 0 0, .slice none 0 0]) .none_ := (OwnW.none_ w 0).ws
set_option maxRecDepth 100000 in
set_option maxHeartbeats 4000000 in
theorem do_any (x : Wx) (h : Hx) (w : World) (hml : ML w) (hx : IsWorld w x) (hh : HapAt w h) :
    Calls Tryz.prog 7 #[wV x, hV h] w (DoPost (doR x.wd h.1) w) := by
  obtain ⟨r, hr⟩ : ∃ r, r = doR x.wd h.1 := ⟨_, rfl⟩
  have HR1 := Lib.hid (fun h' => hr.trans (do_1 (w := x.wd) (x := h.1) h'))
  have HR2 := Lib.hid (fun h' => hr.trans (do_2 (w := x.wd) (x := h.1) h'))
  rw [← hr]
  clear hr
  have HML := Lib.hid hml
  have HX := Lib.hid hx
  have HH := Lib.hid hh
  obtain ⟨⟨An, cn, hvn, _⟩, ⟨Ac, cc, hvc, _⟩, ⟨At, ct, hvt, _⟩⟩ := hx
  obtain ⟨nl, hnl⟩ : ∃ nl, nl = x.nodes.length := ⟨_, rfl⟩
  obtain ⟨cl, hcl⟩ : ∃ cl, cl = x.clock.length := ⟨_, rfl⟩
  obtain ⟨tl, htl⟩ : ∃ tl, tl = x.net.length := ⟨_, rfl⟩
  rw [← hnl] at hvn
  rw [← hcl] at hvc
  rw [← htl] at hvt
  have hV0 : wV x = .agg #[.slice An nl cn, .slice Ac cl cc, .slice At tl ct] := by unfold wV; rw [hvn, hvc, hvt]
  have HV0 := Lib.hid hV0
  rw [hV0]
  clear hml hvn hvc hvt hnl hcl htl hV0 hh
  obtain ⟨⟨kind, node, to_, nm, bytes⟩, Ab, nb, cb⟩ := h
  unfold hV slv
  dsimp only
  obtain ⟨g2, hg2⟩ : ∃ g2, g2 = w.heap.size := ⟨_, rfl⟩
  obtain ⟨w1, hw1⟩ : ∃ w1, w1 = ((w.alloc (.cells #[.slice An nl cn, .slice Ac cl cc, .slice At tl ct] 26)).alloc (.cells #[.int .i64 kind, .int .i64 node, .int .i64 to_, .string (strB nm), .slice Ab nb cb] 29)).alloc (.cells #[.slice none 0 0, .slice none 0 0, .slice none 0 0] 26) := ⟨_, rfl⟩
  have hb1 : Below w.heap.size w w1 := by rw [hw1]; exact (((Below.refl _ _).alloc (Nat.le_refl _) _).alloc (by simp) _).alloc (by simp; omega) _
  have B2 : Blk w1 g2 26 #[.slice An nl cn, .slice Ac cl cc, .slice At tl ct] := by rw [hw1, hg2]; exact ((Blk.new _ _ _).alloc _).alloc _
  have B3 : Blk w1 (g2 + 1) 29 #[.int .i64 kind, .int .i64 node, .int .i64 to_, .string (strB nm), .slice Ab nb cb] := by
    rw [hw1, hg2, show w.heap.size + 1 = (w.alloc (.cells #[.slice An nl cn, .slice Ac cl cc, .slice At tl ct] 26)).heap.size by simp]
    exact (Blk.new _ _ _).alloc _
  have B4 : Blk w1 (g2 + 2) 26 #[.slice none 0 0, .slice none 0 0, .slice none 0 0] := by
    rw [hw1, hg2, show w.heap.size + 2 = ((w.alloc (.cells #[.slice An nl cn, .slice Ac cl cc, .slice At tl ct] 26)).alloc (.cells #[.int .i64 kind, .int .i64 node, .int .i64 to_, .string (strB nm), .slice Ab nb cb] 29)).heap.size by simp]
    exact Blk.new _ _ _
  have HB2 := Lib.hid B2
  have HB3 := Lib.hid B3
  have HB4 := Lib.hid B4
  have Hb1 := Lib.hid hb1
  have Hw1 := Lib.hid hw1.symm
  have Hg2 := Lib.hid hg2.symm
  have HC := Lib.hid (check_world x w1 (HML.out.below hb1) (HX.out.below hb1))
  rw [HV0.out] at HC
  clear B2 B3 B4 hb1 hw1 hg2
  unfold DoPost
  go_enter Tryz.func7, Tryz.ntmps7
  go_wp2_with fail
  rw [Hw1.out, Hg2.out]
  refine (HC.out).mono ?_
  rintro e w2 ⟨rfl, hb2⟩
  have Hb2 := Lib.hid (Hb1.out.trans (hb2.mono Hb1.out.size))
  have HX2 := Lib.hid (HX.out.below Hb2.out)
  have HB2 := Lib.hid (HB2.out.below hb2 HB2.out.lt)
  have HB3 := Lib.hid (HB3.out.below hb2 HB3.out.lt)
  have HB4 := Lib.hid (HB4.out.below hb2 HB4.out.lt)
  clear hb2 HC
  have hwg : w.heap.size ≤ g2 := by have := Hg2.out; omega
  by_cases he : chkW x.wd = 0
  · have HU := Lib.hid (HR2.out he)
    have HCp := Lib.hid (copied_any x w2 HX2.out (chkW_ok.1 he))
    have HWo := Lib.hid (chkW_ok.1 he)
    rw [HV0.out] at HCp
    rw [he]
    obtain ⟨b0, b1, b2⟩ := blk3 HB2.out
    clear he HR1 HR2
    go_wp2_with fail
    refine (HCp.out).mono ?_
    rintro e w3 ⟨y, rfl, hy, hyd, hb3⟩
    have Hb3 := Lib.hid (Hb2.out.trans (hb3.mono Hb2.out.size))
    have HB3 := Lib.hid (HB3.out.below hb3 HB3.out.lt)
    have HB4 := Lib.hid (HB4.out.below hb3 HB4.out.lt)
    have HB2 := Lib.hid (HB2.out.below hb3 HB2.out.lt)
    have HY := Lib.hid (hy.base_ Hb2.out.size)
    have Hyd := Lib.hid hyd
    clear b0 b1 b2 HCp hb3 hy hyd
    obtain ⟨yvn, ynodes, yvc, yclock, yvt, ynet⟩ := y
    obtain ⟨A1, c1, h1, _⟩ := own_slat HY.out.nodes
    obtain ⟨A2, c2, h2, _⟩ := own_slat HY.out.clock
    obtain ⟨A3, c3, h3, _⟩ := own_slat HY.out.net
    dsimp only at h1 h2 h3
    subst h1 h2 h3
    obtain ⟨l1, hl1⟩ : ∃ l, l = ynodes.length := ⟨_, rfl⟩
    obtain ⟨l2, hl2⟩ : ∃ l, l = yclock.length := ⟨_, rfl⟩
    obtain ⟨l3, hl3⟩ : ∃ l, l = ynet.length := ⟨_, rfl⟩
    have HY1 := Lib.hid (HY.out.set_ HB2.out (by decide) (by decide) (by decide) (by decide) (by decide) 0 (.slice A1 ynodes.length c1))
    have HD1 := Lib.hid (HB2.out.set_ 0 (.slice A1 ynodes.length c1))
    have HY2 := Lib.hid (HY1.out.set_ HD1.out (by decide) (by decide) (by decide) (by decide) (by decide) 1 (.slice A2 yclock.length c2))
    have HD2 := Lib.hid (HD1.out.set_ 1 (.slice A2 yclock.length c2))
    have HY3 := Lib.hid (HY2.out.set_ HD2.out (by decide) (by decide) (by decide) (by decide) (by decide) 2 (.slice A3 ynet.length c3))
    have HD3 := Lib.hid (HD2.out.set_ 2 (.slice A3 ynet.length c3))
    have Hb4 := Lib.hid (((Hb3.out.setCell (show w.heap.size ≤ (⟨g2, 0, none⟩ : Addr).block from hwg) (.slice A1 ynodes.length c1)).setCell (show w.heap.size ≤ (⟨g2, 1, none⟩ : Addr).block from hwg) (.slice A2 yclock.length c2)).setCell (show w.heap.size ≤ (⟨g2, 2, none⟩ : Addr).block from hwg) (.slice A3 ynet.length c3))
    have HE3 := Lib.hid (((HB3.out.far (p := ⟨g2, 0, none⟩) (show g2 + 1 ≠ g2 by omega) (.slice A1 ynodes.length c1)).far (p := ⟨g2, 1, none⟩) (show g2 + 1 ≠ g2 by omega) (.slice A2 yclock.length c2)).far (p := ⟨g2, 2, none⟩) (show g2 + 1 ≠ g2 by omega) (.slice A3 ynet.length c3))
    have HE4 := Lib.hid (((HB4.out.far (p := ⟨g2, 0, none⟩) (show g2 + 2 ≠ g2 by omega) (.slice A1 ynodes.length c1)).far (p := ⟨g2, 1, none⟩) (show g2 + 2 ≠ g2 by omega) (.slice A2 yclock.length c2)).far (p := ⟨g2, 2, none⟩) (show g2 + 2 ≠ g2 by omega) (.slice A3 ynet.length c3))
    obtain ⟨b0, b1, b2⟩ := blk3 HB2.out
    have f0 := HB2.out.frozen 0
    have f1 := HB2.out.frozen 1
    have f2 := HB2.out.frozen 2
    obtain ⟨w4, hw4⟩ : ∃ w4, w4 = ((w3.setCell ⟨g2, 0, none⟩ (.slice A1 ynodes.length c1)).setCell ⟨g2, 1, none⟩ (.slice A2 yclock.length c2)).setCell ⟨g2, 2, none⟩ (.slice A3 ynet.length c3) := ⟨_, rfl⟩
    rw [← hw4] at HY3 HD3 Hb4 HE3 HE4
    have Hw4 := Lib.hid hw4.symm
    have HS := Lib.hid (step_any w w4 g2 ⟨.slice A1 ynodes.length c1, ynodes, .slice A2 yclock.length c2, yclock, .slice A3 ynet.length c3, ynet⟩ (⟨kind, node, to_, nm, bytes⟩, Ab, nb, cb) HML.out Hb4.out hwg HD3.out HY3.out (by rw [Hyd.out]; exact HWo.out) HH.out)
    rw [Hyd.out] at HS
    unfold hV slv at HS
    dsimp only at HS
    rw [← hl1, ← hl2, ← hl3] at Hw4 ⊢
    have HN := Lib.hid (step_none x.wd ⟨kind, node, to_, nm, bytes⟩)
    rw [← HU.out] at HS HN
    have d0 : w3.cell? ⟨g2 + 1, 0, none⟩ = some (.int .i64 kind) := by rw [HB3.out.cell]; rfl
    have d1 : w3.cell? ⟨g2 + 1, 1, none⟩ = some (.int .i64 node) := by rw [HB3.out.cell]; rfl
    have d2 : w3.cell? ⟨g2 + 1, 2, none⟩ = some (.int .i64 to_) := by rw [HB3.out.cell]; rfl
    have d3 : w3.cell? ⟨g2 + 1, 3, none⟩ = some (.string (strB nm)) := by rw [HB3.out.cell]; rfl
    have d4 : w3.cell? ⟨g2 + 1, 4, none⟩ = some (.slice Ab nb cb) := by rw [HB3.out.cell]; rfl
    unfold wV
    dsimp only
    clear hw4 hl1 hl2 hl3 HY1 HY2 HD1 HD2
    go_wp2_with fail
    rw [Hw4.out]
    refine (HS.out).mono ?_
    rintro e w5 ⟨rfl, hb5, hy5, hk5⟩
    have Hb5 := Lib.hid hb5
    have HB5 := Lib.hid (hk5 (g2 + 2) _ (by omega) HE4.out)
    obtain ⟨z, hz⟩ : ∃ z, r.1 = z := ⟨_, rfl⟩
    rw [hz] at hy5 HN ⊢
    have Hz := Lib.hid hz
    have hw2 : w.heap.size ≤ g2 + 2 := by omega
    clear hb5 hk5 hz b0 b1 b2 f0 f1 f2 d0 d1 d2 d3 d4 HS Hw4
    by_cases h0 : z = 0
    · obtain ⟨y, hy1, hy2, hy3⟩ := hy5 h0
      subst h0
      have Hy1 := Lib.hid hy1
      obtain ⟨vn, nodes, vc, clock, vt, net⟩ := y
      obtain ⟨A5, c5, h1, _⟩ := own_slat hy3.nodes
      obtain ⟨A6, c6, h2, _⟩ := own_slat hy3.clock
      obtain ⟨A7, c7, h3, _⟩ := own_slat hy3.net
      dsimp only at h1 h2 h3
      subst h1 h2 h3
      have Hy2 := Lib.hid hy2
      have Hy3 := Lib.hid hy3
      have HO1 := Lib.hid (Hy3.out.set_ HB5.out (by decide) (by decide) (by decide) (by decide) (by decide) 0 (.slice A5 nodes.length c5))
      have HF1 := Lib.hid (HB5.out.set_ 0 (.slice A5 nodes.length c5))
      have HO2 := Lib.hid (HO1.out.set_ HF1.out (by decide) (by decide) (by decide) (by decide) (by decide) 1 (.slice A6 clock.length c6))
      have HF2 := Lib.hid (HF1.out.set_ 1 (.slice A6 clock.length c6))
      have HO3 := Lib.hid (HO2.out.set_ HF2.out (by decide) (by decide) (by decide) (by decide) (by decide) 2 (.slice A7 net.length c7))
      have HF3 := Lib.hid (HF2.out.set_ 2 (.slice A7 net.length c7))
      have Hb6 := Lib.hid (((Hb5.out.setCell (show w.heap.size ≤ (⟨g2 + 2, 0, none⟩ : Addr).block from hw2) (.slice A5 nodes.length c5)).setCell (show w.heap.size ≤ (⟨g2 + 2, 1, none⟩ : Addr).block from hw2) (.slice A6 clock.length c6)).setCell (show w.heap.size ≤ (⟨g2 + 2, 2, none⟩ : Addr).block from hw2) (.slice A7 net.length c7))
      obtain ⟨e0, e1, e2⟩ := blk3 Hy2.out
      obtain ⟨b0, b1, b2⟩ := blk3 HB5.out
      have f0 := HB5.out.frozen 0
      have f1 := HB5.out.frozen 1
      have f2 := HB5.out.frozen 2
      clear hy1 hy2 hy3 hy5
      go_wp2_with fail
      refine bodyPost_ret (results_cell_row_tmp rfl _ _ (g2 + 2) 26 #[.slice A5 nodes.length c5, .slice A6 clock.length c6, .slice A7 net.length c7] (0, 0) _ rfl HF3.out Tryz.underlying26 rfl (by kernel_rfl)) rfl ?_
      exact ⟨⟨.slice A5 nodes.length c5, nodes, .slice A6 clock.length c6, clock, .slice A7 net.length c7, net⟩, by rw [Hz.out]; rfl, HO3.out, Hy1.out, Hb6.out⟩
    · have hz1 : (z != 0) = true := by simpa using h0
      have HN2 : Hid (r.2 = .none_) := Lib.hid (HN.out h0)
      have HF3 := Lib.hid (((HB5.out.set_ 0 (.slice none 0 0)).set_ 1 (.slice none 0 0)).set_ 2 (.slice none 0 0))
      have Hb6 := Lib.hid (((Hb5.out.setCell (show w.heap.size ≤ (⟨g2 + 2, 0, none⟩ : Addr).block from hw2) (.slice none 0 0)).setCell (show w.heap.size ≤ (⟨g2 + 2, 1, none⟩ : Addr).block from hw2) (.slice none 0 0)).setCell (show w.heap.size ≤ (⟨g2 + 2, 2, none⟩ : Addr).block from hw2) (.slice none 0 0))
      obtain ⟨b0, b1, b2⟩ := blk3 HB5.out
      have f0 := HB5.out.frozen 0
      have f1 := HB5.out.frozen 1
      have f2 := HB5.out.frozen 2
      clear hy5
      go_wp2_with fail
      refine bodyPost_ret (results_cell_row_tmp rfl _ _ (g2 + 2) 26 #[.slice none 0 0, .slice none 0 0, .slice none 0 0] (0, 0) _ rfl HF3.out Tryz.underlying26 rfl (by kernel_rfl)) rfl ?_
      exact ⟨wx0, by rw [Hz.out]; rfl, OwnW.none_ _ _, by rw [HN2.out]; rfl, Hb6.out⟩
  · have HU := Lib.hid (HR1.out he)
    have HF3 := Lib.hid (((HB4.out.set_ 0 (.slice none 0 0)).set_ 1 (.slice none 0 0)).set_ 2 (.slice none 0 0))
    have hw2 : w.heap.size ≤ g2 + 2 := by omega
    have Hb6 := Lib.hid (((Hb2.out.setCell (show w.heap.size ≤ (⟨g2 + 2, 0, none⟩ : Addr).block from hw2) (.slice none 0 0)).setCell (show w.heap.size ≤ (⟨g2 + 2, 1, none⟩ : Addr).block from hw2) (.slice none 0 0)).setCell (show w.heap.size ≤ (⟨g2 + 2, 2, none⟩ : Addr).block from hw2) (.slice none 0 0))
    obtain ⟨b0, b1, b2⟩ := blk3 HB4.out
    have f0 := HB4.out.frozen 0
    have f1 := HB4.out.frozen 1
    have f2 := HB4.out.frozen 2
    obtain ⟨z, hz⟩ : ∃ z, z = chkW x.wd := ⟨_, rfl⟩
    rw [← hz] at HU he ⊢
    have hz1 : (z != 0) = true := by simpa using he
    clear hz he HR1 HR2
    go_wp2_with fail
    refine bodyPost_ret (results_cell_row_tmp rfl _ _ (g2 + 2) 26 #[.slice none 0 0, .slice none 0 0, .slice none 0 0] (0, 0) _ rfl HF3.out Tryz.underlying26 rfl (by kernel_rfl)) rfl ?_
    exact ⟨wx0, by rw [HU.out]; rfl, OwnW.none_ _ _, by rw [HU.out]; rfl, Hb6.out⟩
theorem results_cell_row_tmp2 {P : Program} {fn : Func} {p u v : Tmp} {ty : TypeId} (h : fn.results = #[.cell p ty, .tmp u, .tmp v]) (tmps : Array Value) (w : World) (g : Nat) (t : TypeId) (cs : Array Value) (fr : Nat × Nat) (d : TypeDesc)
    (hp : tmps.getD p undef = .pointer (some ⟨g, 0, none⟩)) (hg : w.heap[g]? = some (.cells cs t fr))
    (hu : P.underlying ty = some d) (hd : (match d with | .struct _ | .array _ _ => true | _ => false) = true) (hi : (P.info? ty).map (·.size) = some cs.size) :
    (results fn tmps).run P w = .ok (.tuple #[.agg cs, tmps.getD u undef, tmps.getD v undef]) w := by
  have hp' : tmps[p]?.getD undef = .pointer (some ⟨g, 0, none⟩) := by simpa using hp
  simp [results, h, hp', asAddr, run_loadVar_row w g t ty cs fr d hg hu hd hi]
theorem own_low {w : World} {base size n g : Nat} {e : TypeId} {v : Value} {xs : List Value} (h : w.ownsRow base e size v n xs) (hg : g < base) (i : Nat) (u : Value) : (w.setCell ⟨g, i, none⟩ u).ownsRow base e size v n xs :=
  ownsRow_setCell_other h (a := ⟨g, i, none⟩) (fun e => by have := (h.lt _ e).1; simp only at this; omega) u
theorem ownFs_low {w : World} {base g : Nat} {v : Value} {l : List Fx} (h : OwnFs w base v l) (hg : g < base) (i : Nat) (u : Value) : OwnFs (w.setCell ⟨g, i, none⟩ u) base v l :=
  ⟨own_low h.row hg i u, fun x hx => ⟨own_low (h.each x hx).own hg i u, (h.each x hx).name, (h.each x hx).stamp, (h.each x hx).node⟩⟩
theorem OwnW.low {w : World} {base g : Nat} {x : Wx} (h : OwnW w base x) (hg : g < base) (i : Nat) (u : Value) : OwnW (w.setCell ⟨g, i, none⟩ u) base x :=
  ⟨own_low h.nodes hg i u, fun n hn => ownFs_low (h.node n hn) hg i u, own_low h.clock hg i u, h.clk, own_low h.net hg i u, fun m hm => ⟨(h.ms m hm).1, ownFs_low (h.ms m hm).2 hg i u⟩⟩
/-- the rows of an own world as slices -/
theorem OwnW.sl {w : World} {base : Nat} {y : Wx} (h : OwnW w base y) : ∃ A1 c1 A2 c2 A3 c3, y.vn = .slice A1 y.nodes.length c1 ∧ y.vc = .slice A2 y.clock.length c2 ∧ y.vt = .slice A3 y.net.length c3 := by
  obtain ⟨A1, c1, h1, _⟩ := own_slat h.nodes
  obtain ⟨A2, c2, h2, _⟩ := own_slat h.clock
  obtain ⟨A3, c3, h3, _⟩ := own_slat h.net
  exact ⟨A1, c1, A2, c2, A3, c3, h1, h2, h3⟩
end Go.Proofs.YtdoegpklephelaaGreatDoor.Worlds

/- package world: New. -/
namespace Go.Proofs.YtdoegpklephelaaGreatDoor.Worlds
open Go Go.RowKit Go.Proofs.YtdoegpklephelaaGreatDoor Go.Proofs.YtdoegpklephelaaGreatDoor.Name Go.Proofs.YtdoegpklephelaaGreatDoor.Merge
set_option linter.unusedVariables false

theorem new_1 {n : Int} (h : n < 1 ∨ 4 < n) : newR n = (3, .none_) := by unfold newR; rw [if_pos h]
theorem new_2 {n : Int} (h : ¬ (n < 1 ∨ 4 < n)) : newR n = (0, ⟨List.replicate n.toNat [], List.replicate n.toNat 0, []⟩) := by unfold newR; rw [if_neg h]
theorem own_blkrow {w : World} {base g n : Nat} {e : TypeId} {cs : List Value} (h : Blk w g e cs.toArray) (hb : base ≤ g) (hn : cs.length = n) (hx : n ≤ 1000) : w.ownsRow base e 1 (.slice (some ⟨g, 0, none⟩) n n) n cs :=
  ⟨by omega, .inr ⟨g, n, cs.toArray, rfl, hb, h, Nat.le_refl _, by unfold maxLen; omega, by subst hn; simp, by subst hn; simp⟩⟩
theorem new_ws (W : World) (base X Y n : Nat) (hn : n ≤ 100) (hX : base ≤ X) (hY : base ≤ Y) (h1 : Blk W X 46 (List.replicate n (Value.slice none 0 0)).toArray) (h2 : Blk W Y 3 (List.replicate n (Value.int .i64 0)).toArray) :
    OwnW W base ⟨.slice (some ⟨X, 0, none⟩) n n, List.replicate n ((none, 0, 0), []), .slice (some ⟨Y, 0, none⟩) n n, List.replicate n 0, .slice none 0 0, []⟩ := by
  refine ⟨?_, ?_, ?_, ?_, World.ownsRow_nil .., by simp⟩
  · rw [nCs, List.map_replicate]
    simpa [slv] using own_blkrow (n := n) h1 hX (by simp) (by omega)
  · intro a ha
    rw [List.eq_of_mem_replicate ha]
    exact OwnFs.nil W base
  · rw [cCs, List.map_replicate]
    simpa using own_blkrow (n := n) h2 hY (by simp) (by omega)
  · intro a ha
    rw [List.eq_of_mem_replicate ha]
    rfl
set_option maxRecDepth 100000 in
set_option maxHeartbeats 1000000 in
theorem new_any (n : Int) (w : World) :
    Calls Tryz.prog 14 #[.int .i64 n] w (DoPost (newR n) w) := by
  have B1 : Blk (w.alloc (.cells #[.slice none 0 0, .slice none 0 0, .slice none 0 0] 26)) w.heap.size 26 #[.slice none 0 0, .slice none 0 0, .slice none 0 0] := Blk.new _ _ _
  have hb1 : Below w.heap.size w (w.alloc (.cells #[.slice none 0 0, .slice none 0 0, .slice none 0 0] 26)) := (Below.refl _ _).alloc (Nat.le_refl _) _
  obtain ⟨w1, hw1⟩ : ∃ w1, w1 = w.alloc (.cells #[.slice none 0 0, .slice none 0 0, .slice none 0 0] 26) := ⟨_, rfl⟩
  rw [← hw1] at B1 hb1
  obtain ⟨g, hg⟩ : ∃ g, g = w.heap.size := ⟨_, rfl⟩
  rw [← hg] at B1 hb1
  have HB1 := Lib.hid B1
  have Hb1 := Lib.hid hb1
  have Hw1 := Lib.hid hw1.symm
  have Hg := Lib.hid hg.symm
  clear B1 hb1 hw1 hg
  unfold DoPost
  rcases Classical.em (n < 1 ∨ 4 < n) with h | h
  · have HU := Lib.hid (new_1 h)
    rcases (by omega : n < 1 ∨ (¬ n < 1 ∧ 4 < n)) with h1 | ⟨h1, h2⟩
    all_goals (
      clear h
      go_enter Tryz.func14, Tryz.ntmps14
      go_wp2_with fail
      rw [Hw1.out, Hg.out]
      obtain ⟨b0, b1, b2⟩ := blk3 HB1.out
      have f0 := HB1.out.frozen 0
      have f1 := HB1.out.frozen 1
      have f2 := HB1.out.frozen 2
      go_wp2_with fail
      refine bodyPost_ret (results_cell_row_tmp rfl _ _ g 26 #[.slice none 0 0, .slice none 0 0, .slice none 0 0] (0, 0) _ rfl HB1.out Tryz.underlying26 rfl (by kernel_rfl)) rfl ?_
      exact ⟨wx0, by rw [HU.out]; rfl, OwnW.none_ _ _, by rw [HU.out]; rfl, Hb1.out⟩)
  have HU := Lib.hid (new_2 h)
  rcases (by omega : n = 1 ∨ n = 2 ∨ n = 3 ∨ n = 4) with rfl | rfl | rfl | rfl
  all_goals clear h
  · have m1 : ∀ w, (Instr.makeSlice 22 (.int .i64 1) (.int .i64 1)).run Tryz.prog w = .ok (.slice (some ⟨w.heap.size, 0, none⟩) 1 1) (w.alloc (.cells #[.slice none 0 0] 46)) := fun _ => by kernel_rfl
    have m2 : ∀ w, (Instr.makeSlice 23 (.int .i64 1) (.int .i64 1)).run Tryz.prog w = .ok (.slice (some ⟨w.heap.size, 0, none⟩) 1 1) (w.alloc (.cells #[.int .i64 0] 3)) := fun _ => by kernel_rfl
    obtain ⟨b0, b1, b2⟩ := blk3 HB1.out
    have f0 := HB1.out.frozen 0
    have f1 := HB1.out.frozen 1
    have f2 := HB1.out.frozen 2
    have hgl := HB1.out.lt
    go_enter Tryz.func14, Tryz.ntmps14
    go_wp2_with fail
    rw [Hw1.out, Hg.out]
    go_wp2_with fail
    go_region
    · have hA : Blk (((((w1.setCell ⟨g, 0, none⟩ (.slice (some ⟨w1.heap.size, 0, none⟩) 1 1)).setCell ⟨g, 1, none⟩ (.slice (some ⟨w1.heap.size + 1, 0, none⟩) 1 1)).setCell ⟨g, 2, none⟩ (.slice none 0 0)).alloc (.cells #[.slice none 0 0] 46)).alloc (.cells #[.int .i64 0] 3)) w1.heap.size 46 #[.slice none 0 0] := by
        have h1 := (Blk.new (((w1.setCell ⟨g, 0, none⟩ (.slice (some ⟨w1.heap.size, 0, none⟩) 1 1)).setCell ⟨g, 1, none⟩ (.slice (some ⟨w1.heap.size + 1, 0, none⟩) 1 1)).setCell ⟨g, 2, none⟩ (.slice none 0 0)) 46 #[.slice none 0 0]).alloc (.cells #[.int .i64 0] 3)
        simpa using h1
      have hC : Blk (((((w1.setCell ⟨g, 0, none⟩ (.slice (some ⟨w1.heap.size, 0, none⟩) 1 1)).setCell ⟨g, 1, none⟩ (.slice (some ⟨w1.heap.size + 1, 0, none⟩) 1 1)).setCell ⟨g, 2, none⟩ (.slice none 0 0)).alloc (.cells #[.slice none 0 0] 46)).alloc (.cells #[.int .i64 0] 3)) (w1.heap.size + 1) 3 #[.int .i64 0] := by
        have h1 := Blk.new ((((w1.setCell ⟨g, 0, none⟩ (.slice (some ⟨w1.heap.size, 0, none⟩) 1 1)).setCell ⟨g, 1, none⟩ (.slice (some ⟨w1.heap.size + 1, 0, none⟩) 1 1)).setCell ⟨g, 2, none⟩ (.slice none 0 0)).alloc (.cells #[.slice none 0 0] 46)) 3 #[.int .i64 0]
        simpa using h1
      have hB : Blk (((((w1.setCell ⟨g, 0, none⟩ (.slice (some ⟨w1.heap.size, 0, none⟩) 1 1)).setCell ⟨g, 1, none⟩ (.slice (some ⟨w1.heap.size + 1, 0, none⟩) 1 1)).setCell ⟨g, 2, none⟩ (.slice none 0 0)).alloc (.cells #[.slice none 0 0] 46)).alloc (.cells #[.int .i64 0] 3)) g 26 #[(.slice (some ⟨w1.heap.size, 0, none⟩) 1 1), (.slice (some ⟨w1.heap.size + 1, 0, none⟩) 1 1), .slice none 0 0] := ((((HB1.out.set_ 0 (.slice (some ⟨w1.heap.size, 0, none⟩) 1 1)).set_ 1 (.slice (some ⟨w1.heap.size + 1, 0, none⟩) 1 1)).set_ 2 (.slice none 0 0)).alloc (.cells #[.slice none 0 0] 46)).alloc (.cells #[.int .i64 0] 3)
      have hb := ((((Hb1.out.setCell (show g ≤ (⟨g, 0, none⟩ : Addr).block from Nat.le_refl g) (.slice (some ⟨w1.heap.size, 0, none⟩) 1 1)).setCell (show g ≤ (⟨g, 1, none⟩ : Addr).block from Nat.le_refl g) (.slice (some ⟨w1.heap.size + 1, 0, none⟩) 1 1)).setCell (show g ≤ (⟨g, 2, none⟩ : Addr).block from Nat.le_refl g) (.slice none 0 0)).alloc (by simp; omega) (.cells #[.slice none 0 0] 46)).alloc (by simp; omega) (.cells #[.int .i64 0] 3)
      have hw := (new_ws _ g (w1.heap.size) (w1.heap.size + 1) 1 (by omega) (by omega) (by omega) hA hC).drew
      have HA := Lib.hid (And.intro hB (And.intro hb.drew hw))
      clear hA hB hC hb hw
      go_wp2_with fail
      refine bodyPost_ret (results_cell_row_tmp rfl _ _ g 26 #[(.slice (some ⟨w1.heap.size, 0, none⟩) 1 1), (.slice (some ⟨w1.heap.size + 1, 0, none⟩) 1 1), .slice none 0 0] (0, 0) _ rfl HA.out.1 Tryz.underlying26 rfl (by kernel_rfl)) rfl ?_
      exact ⟨_, by rw [HU.out]; rfl, HA.out.2.2.base_ (Nat.le_of_eq Hg.out), by rw [HU.out]; rfl, HA.out.2.1.mono (Nat.le_of_eq Hg.out)⟩
    · have hA : Blk (((((w1.setCell ⟨g, 0, none⟩ (.slice (some ⟨w1.heap.size + 1, 0, none⟩) 1 1)).setCell ⟨g, 1, none⟩ (.slice (some ⟨w1.heap.size, 0, none⟩) 1 1)).setCell ⟨g, 2, none⟩ (.slice none 0 0)).alloc (.cells #[.int .i64 0] 3)).alloc (.cells #[.slice none 0 0] 46)) w1.heap.size 3 #[.int .i64 0] := by
        have h1 := (Blk.new (((w1.setCell ⟨g, 0, none⟩ (.slice (some ⟨w1.heap.size + 1, 0, none⟩) 1 1)).setCell ⟨g, 1, none⟩ (.slice (some ⟨w1.heap.size, 0, none⟩) 1 1)).setCell ⟨g, 2, none⟩ (.slice none 0 0)) 3 #[.int .i64 0]).alloc (.cells #[.slice none 0 0] 46)
        simpa using h1
      have hC : Blk (((((w1.setCell ⟨g, 0, none⟩ (.slice (some ⟨w1.heap.size + 1, 0, none⟩) 1 1)).setCell ⟨g, 1, none⟩ (.slice (some ⟨w1.heap.size, 0, none⟩) 1 1)).setCell ⟨g, 2, none⟩ (.slice none 0 0)).alloc (.cells #[.int .i64 0] 3)).alloc (.cells #[.slice none 0 0] 46)) (w1.heap.size + 1) 46 #[.slice none 0 0] := by
        have h1 := Blk.new ((((w1.setCell ⟨g, 0, none⟩ (.slice (some ⟨w1.heap.size + 1, 0, none⟩) 1 1)).setCell ⟨g, 1, none⟩ (.slice (some ⟨w1.heap.size, 0, none⟩) 1 1)).setCell ⟨g, 2, none⟩ (.slice none 0 0)).alloc (.cells #[.int .i64 0] 3)) 46 #[.slice none 0 0]
        simpa using h1
      have hB : Blk (((((w1.setCell ⟨g, 0, none⟩ (.slice (some ⟨w1.heap.size + 1, 0, none⟩) 1 1)).setCell ⟨g, 1, none⟩ (.slice (some ⟨w1.heap.size, 0, none⟩) 1 1)).setCell ⟨g, 2, none⟩ (.slice none 0 0)).alloc (.cells #[.int .i64 0] 3)).alloc (.cells #[.slice none 0 0] 46)) g 26 #[(.slice (some ⟨w1.heap.size + 1, 0, none⟩) 1 1), (.slice (some ⟨w1.heap.size, 0, none⟩) 1 1), .slice none 0 0] := ((((HB1.out.set_ 0 (.slice (some ⟨w1.heap.size + 1, 0, none⟩) 1 1)).set_ 1 (.slice (some ⟨w1.heap.size, 0, none⟩) 1 1)).set_ 2 (.slice none 0 0)).alloc (.cells #[.int .i64 0] 3)).alloc (.cells #[.slice none 0 0] 46)
      have hb := ((((Hb1.out.setCell (show g ≤ (⟨g, 0, none⟩ : Addr).block from Nat.le_refl g) (.slice (some ⟨w1.heap.size + 1, 0, none⟩) 1 1)).setCell (show g ≤ (⟨g, 1, none⟩ : Addr).block from Nat.le_refl g) (.slice (some ⟨w1.heap.size, 0, none⟩) 1 1)).setCell (show g ≤ (⟨g, 2, none⟩ : Addr).block from Nat.le_refl g) (.slice none 0 0)).alloc (by simp; omega) (.cells #[.int .i64 0] 3)).alloc (by simp; omega) (.cells #[.slice none 0 0] 46)
      have hw := (new_ws _ g (w1.heap.size + 1) (w1.heap.size) 1 (by omega) (by omega) (by omega) hC hA).drew
      have HA := Lib.hid (And.intro hB (And.intro hb.drew hw))
      clear hA hB hC hb hw
      go_wp2_with fail
      refine bodyPost_ret (results_cell_row_tmp rfl _ _ g 26 #[(.slice (some ⟨w1.heap.size + 1, 0, none⟩) 1 1), (.slice (some ⟨w1.heap.size, 0, none⟩) 1 1), .slice none 0 0] (0, 0) _ rfl HA.out.1 Tryz.underlying26 rfl (by kernel_rfl)) rfl ?_
      exact ⟨_, by rw [HU.out]; rfl, HA.out.2.2.base_ (Nat.le_of_eq Hg.out), by rw [HU.out]; rfl, HA.out.2.1.mono (Nat.le_of_eq Hg.out)⟩
  · have m1 : ∀ w, (Instr.makeSlice 22 (.int .i64 2) (.int .i64 2)).run Tryz.prog w = .ok (.slice (some ⟨w.heap.size, 0, none⟩) 2 2) (w.alloc (.cells #[.slice none 0 0, .slice none 0 0] 46)) := fun _ => by kernel_rfl
    have m2 : ∀ w, (Instr.makeSlice 23 (.int .i64 2) (.int .i64 2)).run Tryz.prog w = .ok (.slice (some ⟨w.heap.size, 0, none⟩) 2 2) (w.alloc (.cells #[.int .i64 0, .int .i64 0] 3)) := fun _ => by kernel_rfl
    obtain ⟨b0, b1, b2⟩ := blk3 HB1.out
    have f0 := HB1.out.frozen 0
    have f1 := HB1.out.frozen 1
    have f2 := HB1.out.frozen 2
    have hgl := HB1.out.lt
    go_enter Tryz.func14, Tryz.ntmps14
    go_wp2_with fail
    rw [Hw1.out, Hg.out]
    go_wp2_with fail
    go_region
    · have hA : Blk (((((w1.setCell ⟨g, 0, none⟩ (.slice (some ⟨w1.heap.size, 0, none⟩) 2 2)).setCell ⟨g, 1, none⟩ (.slice (some ⟨w1.heap.size + 1, 0, none⟩) 2 2)).setCell ⟨g, 2, none⟩ (.slice none 0 0)).alloc (.cells #[.slice none 0 0, .slice none 0 0] 46)).alloc (.cells #[.int .i64 0, .int .i64 0] 3)) w1.heap.size 46 #[.slice none 0 0, .slice none 0 0] := by
        have h1 := (Blk.new (((w1.setCell ⟨g, 0, none⟩ (.slice (some ⟨w1.heap.size, 0, none⟩) 2 2)).setCell ⟨g, 1, none⟩ (.slice (some ⟨w1.heap.size + 1, 0, none⟩) 2 2)).setCell ⟨g, 2, none⟩ (.slice none 0 0)) 46 #[.slice none 0 0, .slice none 0 0]).alloc (.cells #[.int .i64 0, .int .i64 0] 3)
        simpa using h1
      have hC : Blk (((((w1.setCell ⟨g, 0, none⟩ (.slice (some ⟨w1.heap.size, 0, none⟩) 2 2)).setCell ⟨g, 1, none⟩ (.slice (some ⟨w1.heap.size + 1, 0, none⟩) 2 2)).setCell ⟨g, 2, none⟩ (.slice none 0 0)).alloc (.cells #[.slice none 0 0, .slice none 0 0] 46)).alloc (.cells #[.int .i64 0, .int .i64 0] 3)) (w1.heap.size + 1) 3 #[.int .i64 0, .int .i64 0] := by
        have h1 := Blk.new ((((w1.setCell ⟨g, 0, none⟩ (.slice (some ⟨w1.heap.size, 0, none⟩) 2 2)).setCell ⟨g, 1, none⟩ (.slice (some ⟨w1.heap.size + 1, 0, none⟩) 2 2)).setCell ⟨g, 2, none⟩ (.slice none 0 0)).alloc (.cells #[.slice none 0 0, .slice none 0 0] 46)) 3 #[.int .i64 0, .int .i64 0]
        simpa using h1
      have hB : Blk (((((w1.setCell ⟨g, 0, none⟩ (.slice (some ⟨w1.heap.size, 0, none⟩) 2 2)).setCell ⟨g, 1, none⟩ (.slice (some ⟨w1.heap.size + 1, 0, none⟩) 2 2)).setCell ⟨g, 2, none⟩ (.slice none 0 0)).alloc (.cells #[.slice none 0 0, .slice none 0 0] 46)).alloc (.cells #[.int .i64 0, .int .i64 0] 3)) g 26 #[(.slice (some ⟨w1.heap.size, 0, none⟩) 2 2), (.slice (some ⟨w1.heap.size + 1, 0, none⟩) 2 2), .slice none 0 0] := ((((HB1.out.set_ 0 (.slice (some ⟨w1.heap.size, 0, none⟩) 2 2)).set_ 1 (.slice (some ⟨w1.heap.size + 1, 0, none⟩) 2 2)).set_ 2 (.slice none 0 0)).alloc (.cells #[.slice none 0 0, .slice none 0 0] 46)).alloc (.cells #[.int .i64 0, .int .i64 0] 3)
      have hb := ((((Hb1.out.setCell (show g ≤ (⟨g, 0, none⟩ : Addr).block from Nat.le_refl g) (.slice (some ⟨w1.heap.size, 0, none⟩) 2 2)).setCell (show g ≤ (⟨g, 1, none⟩ : Addr).block from Nat.le_refl g) (.slice (some ⟨w1.heap.size + 1, 0, none⟩) 2 2)).setCell (show g ≤ (⟨g, 2, none⟩ : Addr).block from Nat.le_refl g) (.slice none 0 0)).alloc (by simp; omega) (.cells #[.slice none 0 0, .slice none 0 0] 46)).alloc (by simp; omega) (.cells #[.int .i64 0, .int .i64 0] 3)
      have hw := (new_ws _ g (w1.heap.size) (w1.heap.size + 1) 2 (by omega) (by omega) (by omega) hA hC).drew
      have HA := Lib.hid (And.intro hB (And.intro hb.drew hw))
      clear hA hB hC hb hw
      go_wp2_with fail
      refine bodyPost_ret (results_cell_row_tmp rfl _ _ g 26 #[(.slice (some ⟨w1.heap.size, 0, none⟩) 2 2), (.slice (some ⟨w1.heap.size + 1, 0, none⟩) 2 2), .slice none 0 0] (0, 0) _ rfl HA.out.1 Tryz.underlying26 rfl (by kernel_rfl)) rfl ?_
      exact ⟨_, by rw [HU.out]; rfl, HA.out.2.2.base_ (Nat.le_of_eq Hg.out), by rw [HU.out]; rfl, HA.out.2.1.mono (Nat.le_of_eq Hg.out)⟩
    · have hA : Blk (((((w1.setCell ⟨g, 0, none⟩ (.slice (some ⟨w1.heap.size + 1, 0, none⟩) 2 2)).setCell ⟨g, 1, none⟩ (.slice (some ⟨w1.heap.size, 0, none⟩) 2 2)).setCell ⟨g, 2, none⟩ (.slice none 0 0)).alloc (.cells #[.int .i64 0, .int .i64 0] 3)).alloc (.cells #[.slice none 0 0, .slice none 0 0] 46)) w1.heap.size 3 #[.int .i64 0, .int .i64 0] := by
        have h1 := (Blk.new (((w1.setCell ⟨g, 0, none⟩ (.slice (some ⟨w1.heap.size + 1, 0, none⟩) 2 2)).setCell ⟨g, 1, none⟩ (.slice (some ⟨w1.heap.size, 0, none⟩) 2 2)).setCell ⟨g, 2, none⟩ (.slice none 0 0)) 3 #[.int .i64 0, .int .i64 0]).alloc (.cells #[.slice none 0 0, .slice none 0 0] 46)
        simpa using h1
      have hC : Blk (((((w1.setCell ⟨g, 0, none⟩ (.slice (some ⟨w1.heap.size + 1, 0, none⟩) 2 2)).setCell ⟨g, 1, none⟩ (.slice (some ⟨w1.heap.size, 0, none⟩) 2 2)).setCell ⟨g, 2, none⟩ (.slice none 0 0)).alloc (.cells #[.int .i64 0, .int .i64 0] 3)).alloc (.cells #[.slice none 0 0, .slice none 0 0] 46)) (w1.heap.size + 1) 46 #[.slice none 0 0, .slice none 0 0] := by
        have h1 := Blk.new ((((w1.setCell ⟨g, 0, none⟩ (.slice (some ⟨w1.heap.size + 1, 0, none⟩) 2 2)).setCell ⟨g, 1, none⟩ (.slice (some ⟨w1.heap.size, 0, none⟩) 2 2)).setCell ⟨g, 2, none⟩ (.slice none 0 0)).alloc (.cells #[.int .i64 0, .int .i64 0] 3)) 46 #[.slice none 0 0, .slice none 0 0]
        simpa using h1
      have hB : Blk (((((w1.setCell ⟨g, 0, none⟩ (.slice (some ⟨w1.heap.size + 1, 0, none⟩) 2 2)).setCell ⟨g, 1, none⟩ (.slice (some ⟨w1.heap.size, 0, none⟩) 2 2)).setCell ⟨g, 2, none⟩ (.slice none 0 0)).alloc (.cells #[.int .i64 0, .int .i64 0] 3)).alloc (.cells #[.slice none 0 0, .slice none 0 0] 46)) g 26 #[(.slice (some ⟨w1.heap.size + 1, 0, none⟩) 2 2), (.slice (some ⟨w1.heap.size, 0, none⟩) 2 2), .slice none 0 0] := ((((HB1.out.set_ 0 (.slice (some ⟨w1.heap.size + 1, 0, none⟩) 2 2)).set_ 1 (.slice (some ⟨w1.heap.size, 0, none⟩) 2 2)).set_ 2 (.slice none 0 0)).alloc (.cells #[.int .i64 0, .int .i64 0] 3)).alloc (.cells #[.slice none 0 0, .slice none 0 0] 46)
      have hb := ((((Hb1.out.setCell (show g ≤ (⟨g, 0, none⟩ : Addr).block from Nat.le_refl g) (.slice (some ⟨w1.heap.size + 1, 0, none⟩) 2 2)).setCell (show g ≤ (⟨g, 1, none⟩ : Addr).block from Nat.le_refl g) (.slice (some ⟨w1.heap.size, 0, none⟩) 2 2)).setCell (show g ≤ (⟨g, 2, none⟩ : Addr).block from Nat.le_refl g) (.slice none 0 0)).alloc (by simp; omega) (.cells #[.int .i64 0, .int .i64 0] 3)).alloc (by simp; omega) (.cells #[.slice none 0 0, .slice none 0 0] 46)
      have hw := (new_ws _ g (w1.heap.size + 1) (w1.heap.size) 2 (by omega) (by omega) (by omega) hC hA).drew
      have HA := Lib.hid (And.intro hB (And.intro hb.drew hw))
      clear hA hB hC hb hw
      go_wp2_with fail
      refine bodyPost_ret (results_cell_row_tmp rfl _ _ g 26 #[(.slice (some ⟨w1.heap.size + 1, 0, none⟩) 2 2), (.slice (some ⟨w1.heap.size, 0, none⟩) 2 2), .slice none 0 0] (0, 0) _ rfl HA.out.1 Tryz.underlying26 rfl (by kernel_rfl)) rfl ?_
      exact ⟨_, by rw [HU.out]; rfl, HA.out.2.2.base_ (Nat.le_of_eq Hg.out), by rw [HU.out]; rfl, HA.out.2.1.mono (Nat.le_of_eq Hg.out)⟩
  · have m1 : ∀ w, (Instr.makeSlice 22 (.int .i64 3) (.int .i64 3)).run Tryz.prog w = .ok (.slice (some ⟨w.heap.size, 0, none⟩) 3 3) (w.alloc (.cells #[.slice none 0 0, .slice none 0 0, .slice none 0 0] 46)) := fun _ => by kernel_rfl
    have m2 : ∀ w, (Instr.makeSlice 23 (.int .i64 3) (.int .i64 3)).run Tryz.prog w = .ok (.slice (some ⟨w.heap.size, 0, none⟩) 3 3) (w.alloc (.cells #[.int .i64 0, .int .i64 0, .int .i64 0] 3)) := fun _ => by kernel_rfl
    obtain ⟨b0, b1, b2⟩ := blk3 HB1.out
    have f0 := HB1.out.frozen 0
    have f1 := HB1.out.frozen 1
    have f2 := HB1.out.frozen 2
    have hgl := HB1.out.lt
    go_enter Tryz.func14, Tryz.ntmps14
    go_wp2_with fail
    rw [Hw1.out, Hg.out]
    go_wp2_with fail
    go_region
    · have hA : Blk (((((w1.setCell ⟨g, 0, none⟩ (.slice (some ⟨w1.heap.size, 0, none⟩) 3 3)).setCell ⟨g, 1, none⟩ (.slice (some ⟨w1.heap.size + 1, 0, none⟩) 3 3)).setCell ⟨g, 2, none⟩ (.slice none 0 0)).alloc (.cells #[.slice none 0 0, .slice none 0 0, .slice none 0 0] 46)).alloc (.cells #[.int .i64 0, .int .i64 0, .int .i64 0] 3)) w1.heap.size 46 #[.slice none 0 0, .slice none 0 0, .slice none 0 0] := by
        have h1 := (Blk.new (((w1.setCell ⟨g, 0, none⟩ (.slice (some ⟨w1.heap.size, 0, none⟩) 3 3)).setCell ⟨g, 1, none⟩ (.slice (some ⟨w1.heap.size + 1, 0, none⟩) 3 3)).setCell ⟨g, 2, none⟩ (.slice none 0 0)) 46 #[.slice none 0 0, .slice none 0 0, .slice none 0 0]).alloc (.cells #[.int .i64 0, .int .i64 0, .int .i64 0] 3)
        simpa using h1
      have hC : Blk (((((w1.setCell ⟨g, 0, none⟩ (.slice (some ⟨w1.heap.size, 0, none⟩) 3 3)).setCell ⟨g, 1, none⟩ (.slice (some ⟨w1.heap.size + 1, 0, none⟩) 3 3)).setCell ⟨g, 2, none⟩ (.slice none 0 0)).alloc (.cells #[.slice none 0 0, .slice none 0 0, .slice none 0 0] 46)).alloc (.cells #[.int .i64 0, .int .i64 0, .int .i64 0] 3)) (w1.heap.size + 1) 3 #[.int .i64 0, .int .i64 0, .int .i64 0] := by
        have h1 := Blk.new ((((w1.setCell ⟨g, 0, none⟩ (.slice (some ⟨w1.heap.size, 0, none⟩) 3 3)).setCell ⟨g, 1, none⟩ (.slice (some ⟨w1.heap.size + 1, 0, none⟩) 3 3)).setCell ⟨g, 2, none⟩ (.slice none 0 0)).alloc (.cells #[.slice none 0 0, .slice none 0 0, .slice none 0 0] 46)) 3 #[.int .i64 0, .int .i64 0, .int .i64 0]
        simpa using h1
      have hB : Blk (((((w1.setCell ⟨g, 0, none⟩ (.slice (some ⟨w1.heap.size, 0, none⟩) 3 3)).setCell ⟨g, 1, none⟩ (.slice (some ⟨w1.heap.size + 1, 0, none⟩) 3 3)).setCell ⟨g, 2, none⟩ (.slice none 0 0)).alloc (.cells #[.slice none 0 0, .slice none 0 0, .slice none 0 0] 46)).alloc (.cells #[.int .i64 0, .int .i64 0, .int .i64 0] 3)) g 26 #[(.slice (some ⟨w1.heap.size, 0, none⟩) 3 3), (.slice (some ⟨w1.heap.size + 1, 0, none⟩) 3 3), .slice none 0 0] := ((((HB1.out.set_ 0 (.slice (some ⟨w1.heap.size, 0, none⟩) 3 3)).set_ 1 (.slice (some ⟨w1.heap.size + 1, 0, none⟩) 3 3)).set_ 2 (.slice none 0 0)).alloc (.cells #[.slice none 0 0, .slice none 0 0, .slice none 0 0] 46)).alloc (.cells #[.int .i64 0, .int .i64 0, .int .i64 0] 3)
      have hb := ((((Hb1.out.setCell (show g ≤ (⟨g, 0, none⟩ : Addr).block from Nat.le_refl g) (.slice (some ⟨w1.heap.size, 0, none⟩) 3 3)).setCell (show g ≤ (⟨g, 1, none⟩ : Addr).block from Nat.le_refl g) (.slice (some ⟨w1.heap.size + 1, 0, none⟩) 3 3)).setCell (show g ≤ (⟨g, 2, none⟩ : Addr).block from Nat.le_refl g) (.slice none 0 0)).alloc (by simp; omega) (.cells #[.slice none 0 0, .slice none 0 0, .slice none 0 0] 46)).alloc (by simp; omega) (.cells #[.int .i64 0, .int .i64 0, .int .i64 0] 3)
      have hw := (new_ws _ g (w1.heap.size) (w1.heap.size + 1) 3 (by omega) (by omega) (by omega) hA hC).drew
      have HA := Lib.hid (And.intro hB (And.intro hb.drew hw))
      clear hA hB hC hb hw
      go_wp2_with fail
      refine bodyPost_ret (results_cell_row_tmp rfl _ _ g 26 #[(.slice (some ⟨w1.heap.size, 0, none⟩) 3 3), (.slice (some ⟨w1.heap.size + 1, 0, none⟩) 3 3), .slice none 0 0] (0, 0) _ rfl HA.out.1 Tryz.underlying26 rfl (by kernel_rfl)) rfl ?_
      exact ⟨_, by rw [HU.out]; rfl, HA.out.2.2.base_ (Nat.le_of_eq Hg.out), by rw [HU.out]; rfl, HA.out.2.1.mono (Nat.le_of_eq Hg.out)⟩
    · have hA : Blk (((((w1.setCell ⟨g, 0, none⟩ (.slice (some ⟨w1.heap.size + 1, 0, none⟩) 3 3)).setCell ⟨g, 1, none⟩ (.slice (some ⟨w1.heap.size, 0, none⟩) 3 3)).setCell ⟨g, 2, none⟩ (.slice none 0 0)).alloc (.cells #[.int .i64 0, .int .i64 0, .int .i64 0] 3)).alloc (.cells #[.slice none 0 0, .slice none 0 0, .slice none 0 0] 46)) w1.heap.size 3 #[.int .i64 0, .int .i64 0, .int .i64 0] := by
        have h1 := (Blk.new (((w1.setCell ⟨g, 0, none⟩ (.slice (some ⟨w1.heap.size + 1, 0, none⟩) 3 3)).setCell ⟨g, 1, none⟩ (.slice (some ⟨w1.heap.size, 0, none⟩) 3 3)).setCell ⟨g, 2, none⟩ (.slice none 0 0)) 3 #[.int .i64 0, .int .i64 0, .int .i64 0]).alloc (.cells #[.slice none 0 0, .slice none 0 0, .slice none 0 0] 46)
        simpa using h1
      have hC : Blk (((((w1.setCell ⟨g, 0, none⟩ (.slice (some ⟨w1.heap.size + 1, 0, none⟩) 3 3)).setCell ⟨g, 1, none⟩ (.slice (some ⟨w1.heap.size, 0, none⟩) 3 3)).setCell ⟨g, 2, none⟩ (.slice none 0 0)).alloc (.cells #[.int .i64 0, .int .i64 0, .int .i64 0] 3)).alloc (.cells #[.slice none 0 0, .slice none 0 0, .slice none 0 0] 46)) (w1.heap.size + 1) 46 #[.slice none 0 0, .slice none 0 0, .slice none 0 0] := by
        have h1 := Blk.new ((((w1.setCell ⟨g, 0, none⟩ (.slice (some ⟨w1.heap.size + 1, 0, none⟩) 3 3)).setCell ⟨g, 1, none⟩ (.slice (some ⟨w1.heap.size, 0, none⟩) 3 3)).setCell ⟨g, 2, none⟩ (.slice none 0 0)).alloc (.cells #[.int .i64 0, .int .i64 0, .int .i64 0] 3)) 46 #[.slice none 0 0, .slice none 0 0, .slice none 0 0]
        simpa using h1
      have hB : Blk (((((w1.setCell ⟨g, 0, none⟩ (.slice (some ⟨w1.heap.size + 1, 0, none⟩) 3 3)).setCell ⟨g, 1, none⟩ (.slice (some ⟨w1.heap.size, 0, none⟩) 3 3)).setCell ⟨g, 2, none⟩ (.slice none 0 0)).alloc (.cells #[.int .i64 0, .int .i64 0, .int .i64 0] 3)).alloc (.cells #[.slice none 0 0, .slice none 0 0, .slice none 0 0] 46)) g 26 #[(.slice (some ⟨w1.heap.size + 1, 0, none⟩) 3 3), (.slice (some ⟨w1.heap.size, 0, none⟩) 3 3), .slice none 0 0] := ((((HB1.out.set_ 0 (.slice (some ⟨w1.heap.size + 1, 0, none⟩) 3 3)).set_ 1 (.slice (some ⟨w1.heap.size, 0, none⟩) 3 3)).set_ 2 (.slice none 0 0)).alloc (.cells #[.int .i64 0, .int .i64 0, .int .i64 0] 3)).alloc (.cells #[.slice none 0 0, .slice none 0 0, .slice none 0 0] 46)
      have hb := ((((Hb1.out.setCell (show g ≤ (⟨g, 0, none⟩ : Addr).block from Nat.le_refl g) (.slice (some ⟨w1.heap.size + 1, 0, none⟩) 3 3)).setCell (show g ≤ (⟨g, 1, none⟩ : Addr).block from Nat.le_refl g) (.slice (some ⟨w1.heap.size, 0, none⟩) 3 3)).setCell (show g ≤ (⟨g, 2, none⟩ : Addr).block from Nat.le_refl g) (.slice none 0 0)).alloc (by simp; omega) (.cells #[.int .i64 0, .int .i64 0, .int .i64 0] 3)).alloc (by simp; omega) (.cells #[.slice none 0 0, .slice none 0 0, .slice none 0 0] 46)
      have hw := (new_ws _ g (w1.heap.size + 1) (w1.heap.size) 3 (by omega) (by omega) (by omega) hC hA).drew
      have HA := Lib.hid (And.intro hB (And.intro hb.drew hw))
      clear hA hB hC hb hw
      go_wp2_with fail
      refine bodyPost_ret (results_cell_row_tmp rfl _ _ g 26 #[(.slice (some ⟨w1.heap.size + 1, 0, none⟩) 3 3), (.slice (some ⟨w1.heap.size, 0, none⟩) 3 3), .slice none 0 0] (0, 0) _ rfl HA.out.1 Tryz.underlying26 rfl (by kernel_rfl)) rfl ?_
      exact ⟨_, by rw [HU.out]; rfl, HA.out.2.2.base_ (Nat.le_of_eq Hg.out), by rw [HU.out]; rfl, HA.out.2.1.mono (Nat.le_of_eq Hg.out)⟩
  · have m1 : ∀ w, (Instr.makeSlice 22 (.int .i64 4) (.int .i64 4)).run Tryz.prog w = .ok (.slice (some ⟨w.heap.size, 0, none⟩) 4 4) (w.alloc (.cells #[.slice none 0 0, .slice none 0 0, .slice none 0 0, .slice none 0 0] 46)) := fun _ => by kernel_rfl
    have m2 : ∀ w, (Instr.makeSlice 23 (.int .i64 4) (.int .i64 4)).run Tryz.prog w = .ok (.slice (some ⟨w.heap.size, 0, none⟩) 4 4) (w.alloc (.cells #[.int .i64 0, .int .i64 0, .int .i64 0, .int .i64 0] 3)) := fun _ => by kernel_rfl
    obtain ⟨b0, b1, b2⟩ := blk3 HB1.out
    have f0 := HB1.out.frozen 0
    have f1 := HB1.out.frozen 1
    have f2 := HB1.out.frozen 2
    have hgl := HB1.out.lt
    go_enter Tryz.func14, Tryz.ntmps14
    go_wp2_with fail
    rw [Hw1.out, Hg.out]
    go_wp2_with fail
    go_region
    · have hA : Blk (((((w1.setCell ⟨g, 0, none⟩ (.slice (some ⟨w1.heap.size, 0, none⟩) 4 4)).setCell ⟨g, 1, none⟩ (.slice (some ⟨w1.heap.size + 1, 0, none⟩) 4 4)).setCell ⟨g, 2, none⟩ (.slice none 0 0)).alloc (.cells #[.slice none 0 0, .slice none 0 0, .slice none 0 0, .slice none 0 0] 46)).alloc (.cells #[.int .i64 0, .int .i64 0, .int .i64 0, .int .i64 0] 3)) w1.heap.size 46 #[.slice none 0 0, .slice none 0 0, .slice none 0 0, .slice none 0 0] := by
        have h1 := (Blk.new (((w1.setCell ⟨g, 0, none⟩ (.slice (some ⟨w1.heap.size, 0, none⟩) 4 4)).setCell ⟨g, 1, none⟩ (.slice (some ⟨w1.heap.size + 1, 0, none⟩) 4 4)).setCell ⟨g, 2, none⟩ (.slice none 0 0)) 46 #[.slice none 0 0, .slice none 0 0, .slice none 0 0, .slice none 0 0]).alloc (.cells #[.int .i64 0, .int .i64 0, .int .i64 0, .int .i64 0] 3)
        simpa using h1
      have hC : Blk (((((w1.setCell ⟨g, 0, none⟩ (.slice (some ⟨w1.heap.size, 0, none⟩) 4 4)).setCell ⟨g, 1, none⟩ (.slice (some ⟨w1.heap.size + 1, 0, none⟩) 4 4)).setCell ⟨g, 2, none⟩ (.slice none 0 0)).alloc (.cells #[.slice none 0 0, .slice none 0 0, .slice none 0 0, .slice none 0 0] 46)).alloc (.cells #[.int .i64 0, .int .i64 0, .int .i64 0, .int .i64 0] 3)) (w1.heap.size + 1) 3 #[.int .i64 0, .int .i64 0, .int .i64 0, .int .i64 0] := by
        have h1 := Blk.new ((((w1.setCell ⟨g, 0, none⟩ (.slice (some ⟨w1.heap.size, 0, none⟩) 4 4)).setCell ⟨g, 1, none⟩ (.slice (some ⟨w1.heap.size + 1, 0, none⟩) 4 4)).setCell ⟨g, 2, none⟩ (.slice none 0 0)).alloc (.cells #[.slice none 0 0, .slice none 0 0, .slice none 0 0, .slice none 0 0] 46)) 3 #[.int .i64 0, .int .i64 0, .int .i64 0, .int .i64 0]
        simpa using h1
      have hB : Blk (((((w1.setCell ⟨g, 0, none⟩ (.slice (some ⟨w1.heap.size, 0, none⟩) 4 4)).setCell ⟨g, 1, none⟩ (.slice (some ⟨w1.heap.size + 1, 0, none⟩) 4 4)).setCell ⟨g, 2, none⟩ (.slice none 0 0)).alloc (.cells #[.slice none 0 0, .slice none 0 0, .slice none 0 0, .slice none 0 0] 46)).alloc (.cells #[.int .i64 0, .int .i64 0, .int .i64 0, .int .i64 0] 3)) g 26 #[(.slice (some ⟨w1.heap.size, 0, none⟩) 4 4), (.slice (some ⟨w1.heap.size + 1, 0, none⟩) 4 4), .slice none 0 0] := ((((HB1.out.set_ 0 (.slice (some ⟨w1.heap.size, 0, none⟩) 4 4)).set_ 1 (.slice (some ⟨w1.heap.size + 1, 0, none⟩) 4 4)).set_ 2 (.slice none 0 0)).alloc (.cells #[.slice none 0 0, .slice none 0 0, .slice none 0 0, .slice none 0 0] 46)).alloc (.cells #[.int .i64 0, .int .i64 0, .int .i64 0, .int .i64 0] 3)
      have hb := ((((Hb1.out.setCell (show g ≤ (⟨g, 0, none⟩ : Addr).block from Nat.le_refl g) (.slice (some ⟨w1.heap.size, 0, none⟩) 4 4)).setCell (show g ≤ (⟨g, 1, none⟩ : Addr).block from Nat.le_refl g) (.slice (some ⟨w1.heap.size + 1, 0, none⟩) 4 4)).setCell (show g ≤ (⟨g, 2, none⟩ : Addr).block from Nat.le_refl g) (.slice none 0 0)).alloc (by simp; omega) (.cells #[.slice none 0 0, .slice none 0 0, .slice none 0 0, .slice none 0 0] 46)).alloc (by simp; omega) (.cells #[.int .i64 0, .int .i64 0, .int .i64 0, .int .i64 0] 3)
      have hw := (new_ws _ g (w1.heap.size) (w1.heap.size + 1) 4 (by omega) (by omega) (by omega) hA hC).drew
      have HA := Lib.hid (And.intro hB (And.intro hb.drew hw))
      clear hA hB hC hb hw
      go_wp2_with fail
      refine bodyPost_ret (results_cell_row_tmp rfl _ _ g 26 #[(.slice (some ⟨w1.heap.size, 0, none⟩) 4 4), (.slice (some ⟨w1.heap.size + 1, 0, none⟩) 4 4), .slice none 0 0] (0, 0) _ rfl HA.out.1 Tryz.underlying26 rfl (by kernel_rfl)) rfl ?_
      exact ⟨_, by rw [HU.out]; rfl, HA.out.2.2.base_ (Nat.le_of_eq Hg.out), by rw [HU.out]; rfl, HA.out.2.1.mono (Nat.le_of_eq Hg.out)⟩
    · have hA : Blk (((((w1.setCell ⟨g, 0, none⟩ (.slice (some ⟨w1.heap.size + 1, 0, none⟩) 4 4)).setCell ⟨g, 1, none⟩ (.slice (some ⟨w1.heap.size, 0, none⟩) 4 4)).setCell ⟨g, 2, none⟩ (.slice none 0 0)).alloc (.cells #[.int .i64 0, .int .i64 0, .int .i64 0, .int .i64 0] 3)).alloc (.cells #[.slice none 0 0, .slice none 0 0, .slice none 0 0, .slice none 0 0] 46)) w1.heap.size 3 #[.int .i64 0, .int .i64 0, .int .i64 0, .int .i64 0] := by
        have h1 := (Blk.new (((w1.setCell ⟨g, 0, none⟩ (.slice (some ⟨w1.heap.size + 1, 0, none⟩) 4 4)).setCell ⟨g, 1, none⟩ (.slice (some ⟨w1.heap.size, 0, none⟩) 4 4)).setCell ⟨g, 2, none⟩ (.slice none 0 0)) 3 #[.int .i64 0, .int .i64 0, .int .i64 0, .int .i64 0]).alloc (.cells #[.slice none 0 0, .slice none 0 0, .slice none 0 0, .slice none 0 0] 46)
        simpa using h1
      have hC : Blk (((((w1.setCell ⟨g, 0, none⟩ (.slice (some ⟨w1.heap.size + 1, 0, none⟩) 4 4)).setCell ⟨g, 1, none⟩ (.slice (some ⟨w1.heap.size, 0, none⟩) 4 4)).setCell ⟨g, 2, none⟩ (.slice none 0 0)).alloc (.cells #[.int .i64 0, .int .i64 0, .int .i64 0, .int .i64 0] 3)).alloc (.cells #[.slice none 0 0, .slice none 0 0, .slice none 0 0, .slice none 0 0] 46)) (w1.heap.size + 1) 46 #[.slice none 0 0, .slice none 0 0, .slice none 0 0, .slice none 0 0] := by
        have h1 := Blk.new ((((w1.setCell ⟨g, 0, none⟩ (.slice (some ⟨w1.heap.size + 1, 0, none⟩) 4 4)).setCell ⟨g, 1, none⟩ (.slice (some ⟨w1.heap.size, 0, none⟩) 4 4)).setCell ⟨g, 2, none⟩ (.slice none 0 0)).alloc (.cells #[.int .i64 0, .int .i64 0, .int .i64 0, .int .i64 0] 3)) 46 #[.slice none 0 0, .slice none 0 0, .slice none 0 0, .slice none 0 0]
        simpa using h1
      have hB : Blk (((((w1.setCell ⟨g, 0, none⟩ (.slice (some ⟨w1.heap.size + 1, 0, none⟩) 4 4)).setCell ⟨g, 1, none⟩ (.slice (some ⟨w1.heap.size, 0, none⟩) 4 4)).setCell ⟨g, 2, none⟩ (.slice none 0 0)).alloc (.cells #[.int .i64 0, .int .i64 0, .int .i64 0, .int .i64 0] 3)).alloc (.cells #[.slice none 0 0, .slice none 0 0, .slice none 0 0, .slice none 0 0] 46)) g 26 #[(.slice (some ⟨w1.heap.size + 1, 0, none⟩) 4 4), (.slice (some ⟨w1.heap.size, 0, none⟩) 4 4), .slice none 0 0] := ((((HB1.out.set_ 0 (.slice (some ⟨w1.heap.size + 1, 0, none⟩) 4 4)).set_ 1 (.slice (some ⟨w1.heap.size, 0, none⟩) 4 4)).set_ 2 (.slice none 0 0)).alloc (.cells #[.int .i64 0, .int .i64 0, .int .i64 0, .int .i64 0] 3)).alloc (.cells #[.slice none 0 0, .slice none 0 0, .slice none 0 0, .slice none 0 0] 46)
      have hb := ((((Hb1.out.setCell (show g ≤ (⟨g, 0, none⟩ : Addr).block from Nat.le_refl g) (.slice (some ⟨w1.heap.size + 1, 0, none⟩) 4 4)).setCell (show g ≤ (⟨g, 1, none⟩ : Addr).block from Nat.le_refl g) (.slice (some ⟨w1.heap.size, 0, none⟩) 4 4)).setCell (show g ≤ (⟨g, 2, none⟩ : Addr).block from Nat.le_refl g) (.slice none 0 0)).alloc (by simp; omega) (.cells #[.int .i64 0, .int .i64 0, .int .i64 0, .int .i64 0] 3)).alloc (by simp; omega) (.cells #[.slice none 0 0, .slice none 0 0, .slice none 0 0, .slice none 0 0] 46)
      have hw := (new_ws _ g (w1.heap.size + 1) (w1.heap.size) 4 (by omega) (by omega) (by omega) hC hA).drew
      have HA := Lib.hid (And.intro hB (And.intro hb.drew hw))
      clear hA hB hC hb hw
      go_wp2_with fail
      refine bodyPost_ret (results_cell_row_tmp rfl _ _ g 26 #[(.slice (some ⟨w1.heap.size + 1, 0, none⟩) 4 4), (.slice (some ⟨w1.heap.size, 0, none⟩) 4 4), .slice none 0 0] (0, 0) _ rfl HA.out.1 Tryz.underlying26 rfl (by kernel_rfl)) rfl ?_
      exact ⟨_, by rw [HU.out]; rfl, HA.out.2.2.base_ (Nat.le_of_eq Hg.out), by rw [HU.out]; rfl, HA.out.2.1.mono (Nat.le_of_eq Hg.out)⟩
end Go.Proofs.YtdoegpklephelaaGreatDoor.Worlds

/- package world: Run. -/
namespace Go.Proofs.YtdoegpklephelaaGreatDoor.Worlds
open Go Go.RowKit Go.Proofs.YtdoegpklephelaaGreatDoor Go.Proofs.YtdoegpklephelaaGreatDoor.Name Go.Proofs.YtdoegpklephelaaGreatDoor.Merge
set_option linter.unusedVariables false

def runR (n : Int) (xs : List Hp) : Int × Wd × List Int :=
  if (newR n).1 ≠ 0 then ((newR n).1, .none_, []) else if 40 < xs.length then (2, .none_, []) else (0, (runL (newR n).2 xs).1, (runL (newR n).2 xs).2)
theorem run_1 {n : Int} {xs : List Hp} (h : (newR n).1 ≠ 0) : runR n xs = ((newR n).1, .none_, []) := by unfold runR; rw [if_pos h]
theorem run_2 {n : Int} {xs : List Hp} (h : (newR n).1 = 0) (h2 : 40 < xs.length) : runR n xs = (2, .none_, []) := by unfold runR; rw [if_neg (by simpa using h), if_pos h2]
theorem run_3 {n : Int} {xs : List Hp} (h : (newR n).1 = 0) (h2 : ¬ 40 < xs.length) : runR n xs = (0, (runL (newR n).2 xs).1, (runL (newR n).2 xs).2) := by unfold runR; rw [if_neg (by simpa using h), if_neg h2]
def RunPost (r : Int × Wd × List Int) (w : World) (e : Ending) (w' : World) : Prop :=
  ∃ (y : Wx) (s : Value), e = .returned (.tuple #[wV y, s, .int .i64 r.1]) ∧ OwnW w' w.heap.size y ∧ y.wd = r.2.1 ∧ w'.ownsRow w.heap.size 31 1 s r.2.2.length (r.2.2.flatMap intC) ∧ Below w.heap.size w w'
theorem tyE : SliceTy Tryz.prog 39 31 (.int .i64 0) 1 8 := ⟨Tryz.underlying39, by kernel_rfl, rfl, by omega⟩
theorem OwnW.keeps {w w' : World} {base B : Nat} {T : List TypeId} {x : Wx} (h : OwnW w base x) (hk : Keeps B T w w') (h1 : 49 ∉ T) (h2 : 5 ∉ T) (h3 : 46 ∉ T) (h4 : 3 ∉ T) (h5 : 54 ∉ T) : OwnW w' base x :=
  ⟨hk.own h.nodes h3, fun n hn => (h.node n hn).keeps hk h1 h2, hk.own h.clock h4, h.clk, hk.own h.net h5, fun m hm => ⟨(h.ms m hm).1, (h.ms m hm).2.keeps hk h1 h2⟩⟩
theorem hap_cells {w : World} {A : Option Addr} {l : List Hx} (h : SlAt w A (l.flatMap hC)) {k : Nat} (hk : k < l.length) : ∃ b o, A = some ⟨b, o, none⟩ ∧
    w.cell? ⟨b, o + k * 5, none⟩ = some (.int .i64 l[k].1.kind) ∧ w.cell? ⟨b, o + k * 5 + 1, none⟩ = some (.int .i64 l[k].1.node) ∧ w.cell? ⟨b, o + k * 5 + 2, none⟩ = some (.int .i64 l[k].1.to_) ∧
    w.cell? ⟨b, o + k * 5 + 3, none⟩ = some (.string (strB l[k].1.name)) ∧ w.cell? ⟨b, o + k * 5 + 4, none⟩ = some (slv l[k].2) := by
  obtain ⟨b, o, e, hc⟩ := slat_elem (size := 5) hC_len (by omega) h hk
  exact ⟨b, o, e, hc 0 _ rfl, hc 1 _ rfl, hc 2 _ rfl, hc 3 _ rfl, hc 4 _ rfl⟩
theorem new_err (n : Int) : (newR n).1 = 0 ∨ newR n = (3, .none_) := by unfold newR; split <;> simp
set_option maxRecDepth 100000 in
set_option maxHeartbeats 4000000 in
theorem run_any (n : Int) (v : Value) (xs : List Hx) (w : World) (hml : ML w) (hx : IsL w hC (HapAt w) v xs) :
    Calls Tryz.prog 13 #[.int .i64 n, v] w (RunPost (runR n (xs.map Prod.fst)) w) := by
  obtain ⟨r, hr⟩ : ∃ r, r = runR n (xs.map Prod.fst) := ⟨_, rfl⟩
  have HR1 := Lib.hid (fun h => hr.trans (run_1 (n := n) (xs := xs.map Prod.fst) h))
  have HR2 := Lib.hid (fun h h2 => hr.trans (run_2 (n := n) (xs := xs.map Prod.fst) h h2))
  have HR3 := Lib.hid (fun h h2 => hr.trans (run_3 (n := n) (xs := xs.map Prod.fst) h h2))
  rw [List.length_map] at HR2 HR3
  rw [← hr]
  clear hr
  obtain ⟨As, cs, rfl, s1, s2, s3, s4, s5⟩ := hx
  have HML := Lib.hid hml
  have HS3 := Lib.hid s3
  have HS5 := Lib.hid s5
  obtain ⟨m, hm⟩ : ∃ m, m = xs.length := ⟨_, rfl⟩
  rw [← hm] at s1 HR2 HR3 ⊢
  have Hm := Lib.hid hm
  unfold maxLen at s2
  have hm63 : m ≤ 9223372036854775807 := by omega
  clear hml s1 s2 s3 s4 s5 hm
  obtain ⟨w1, hw1⟩ : ∃ w1, w1 = w.alloc (.cells #[.slice none 0 0, .slice none 0 0, .slice none 0 0] 26) := ⟨_, rfl⟩
  have hb1 : Below w.heap.size w w1 := by rw [hw1]; exact (Below.refl _ _).alloc (Nat.le_refl _) _
  have HB4 := Lib.hid (show Blk w1 w.heap.size 26 #[.slice none 0 0, .slice none 0 0, .slice none 0 0] by rw [hw1]; exact Blk.new _ _ _)
  have Hb1 := Lib.hid hb1
  have Hw1 := Lib.hid hw1.symm
  have HN := Lib.hid (new_any n w1)
  have hwg : w.heap.size ≤ w.heap.size := Nat.le_refl _
  clear hb1 hw1
  unfold RunPost
  go_enter Tryz.func13, Tryz.ntmps13
  go_wp2_with fail
  rw [Hw1.out]
  refine (HN.out).mono ?_
  rintro e w2 ⟨y, rfl, hy, hyd, hb2⟩
  obtain ⟨A1, c1, A2, c2, A3, c3, h1, h2, h3⟩ := hy.sl
  have hV : wV y = .agg #[.slice A1 y.nodes.length c1, .slice A2 y.clock.length c2, .slice A3 y.net.length c3] := by unfold wV; rw [h1, h2, h3]
  have Hy := Lib.hid hy
  have Hyd := Lib.hid hyd
  have Hb2 := Lib.hid (Hb1.out.trans (hb2.mono Hb1.out.size))
  have HB4 := Lib.hid (HB4.out.below hb2 HB4.out.lt)
  have HH := Lib.hid (And.intro h1 (And.intro h2 h3))
  have HV := Lib.hid hV
  rw [hV]
  obtain ⟨q1, hq1⟩ : ∃ q, q = y.nodes.length := ⟨_, rfl⟩
  obtain ⟨q2, hq2⟩ : ∃ q, q = y.clock.length := ⟨_, rfl⟩
  obtain ⟨q3, hq3⟩ : ∃ q, q = y.net.length := ⟨_, rfl⟩
  rw [← hq1, ← hq2, ← hq3] at HH HV ⊢
  clear hy hyd hb2 h1 h2 h3 hV hq1 hq2 hq3 HN
  rcases new_err n with he | he
  · rw [he]
    by_cases h40 : 40 < m
    · have HU := Lib.hid (HR2.out he h40)
      have h40' : (40 : Int) < (m : Int) := by omega
      clear HR1 HR2 HR3 he
      have HF3 := Lib.hid ((((HB4.out.set_ 0 (.slice none 0 0)).set_ 1 (.slice none 0 0)).set_ 2 (.slice none 0 0)).alloc (.cells #[.slice A1 q1 c1, .slice A2 q2 c2, .slice A3 q3 c3] 26))
      have Hb6 := Lib.hid ((((Hb2.out.setCell (show w.heap.size ≤ (⟨w.heap.size, 0, none⟩ : Addr).block from hwg) (.slice none 0 0)).setCell (show w.heap.size ≤ (⟨w.heap.size, 1, none⟩ : Addr).block from hwg) (.slice none 0 0)).setCell (show w.heap.size ≤ (⟨w.heap.size, 2, none⟩ : Addr).block from hwg) (.slice none 0 0)).alloc (by simp; exact Hb2.out.size) (.cells #[.slice A1 q1 c1, .slice A2 q2 c2, .slice A3 q3 c3] 26))
      obtain ⟨b0, b1, b2⟩ := blk3 HB4.out
      have f0 := HB4.out.frozen 0
      have f1 := HB4.out.frozen 1
      have f2 := HB4.out.frozen 2
      have hl4 := HB4.out.lt
      go_wp2_with fail
      refine bodyPost_ret (results_cell_row_tmp2 rfl _ _ w.heap.size 26 #[.slice none 0 0, .slice none 0 0, .slice none 0 0] (0, 0) _ rfl HF3.out Tryz.underlying26 rfl (by kernel_rfl)) rfl ?_
      exact ⟨wx0, .slice none 0 0, by rw [HU.out]; rfl, OwnW.none_ _ _, by rw [HU.out]; rfl, by rw [HU.out]; exact World.ownsRow_nil .., Hb6.out⟩
    · have HU := Lib.hid (HR3.out he h40)
      have h40' : ¬ (40 : Int) < (m : Int) := by omega
      have hm40 : m ≤ 40 := by omega
      obtain ⟨d0, hd0⟩ : ∃ d, d = (newR n).2 := ⟨_, rfl⟩
      rw [← hd0] at HU Hyd
      clear HR1 HR2 HR3 he hd0 h40
      obtain ⟨w3, hw3⟩ : ∃ w3, w3 = w2.alloc (.cells #[.slice A1 q1 c1, .slice A2 q2 c2, .slice A3 q3 c3] 26) := ⟨_, rfl⟩
      obtain ⟨g7, hg7⟩ : ∃ g7, g7 = w2.heap.size := ⟨_, rfl⟩
      have hb3 : Below w2.heap.size w2 w3 := by rw [hw3]; exact (Below.refl _ _).alloc (Nat.le_refl _) _
      have HB73 := Lib.hid (show Blk w3 g7 26 #[y.vn, y.vc, y.vt] by rw [HH.out.1, HH.out.2.1, HH.out.2.2, hw3, hg7]; exact Blk.new _ _ _)
      have HB43 := Lib.hid (HB4.out.below hb3 HB4.out.lt)
      have HY3 := Lib.hid ((Hy.out.below hb3).base_ Hb1.out.size)
      have Hb3 := Lib.hid (Hb2.out.trans (hb3.mono Hb2.out.size))
      have Hw3 := Lib.hid hw3.symm
      have Hg7 := Lib.hid hg7.symm
      have hg47 : w.heap.size ≠ g7 := by have := HB4.out.lt; omega
      have hwg7 : w.heap.size ≤ g7 := by have := Hb2.out.size; omega
      clear hw3 hg7 hb3
      go_wp2_with fail
      rw [Hw3.out, Hg7.out]
      clear Hw3 Hg7 HH HV HB4 Hy
      go_loopw [9, 29] (fun vs vi wr => ∃ (k : Nat) (y : Wx) (sd : List Int), k ≤ m ∧ vi = .int .i64 (k : Int) ∧ Blk wr g7 26 #[y.vn, y.vc, y.vt] ∧ OwnW wr w.heap.size y ∧ wr.ownsRow w.heap.size 31 1 vs sd.length (sd.flatMap intC) ∧ (y.wd, sd) = runL d0 ((xs.map Prod.fst).take k) ∧ sd.length = k ∧ Blk wr w.heap.size 26 #[.slice none 0 0, .slice none 0 0, .slice none 0 0] ∧ Below w.heap.size w wr) (fun _ vi _ => m - (intOf vi).toNat)
      case atStart => exact ⟨0, y, [], Nat.zero_le _, rfl, HB73.out, HY3.out, World.ownsRow_nil .., by rw [Hyd.out]; rfl, rfl, HB43.out, Hb3.out⟩
      case round =>
        clear HB73 HB43 HY3 Hyd
        obtain ⟨k, y, sd, hk, rfl, hb7, hy, hsd, hrun, hsl, hb4, hb⟩ := hrel
        have HB7r := Lib.hid hb7
        have HYr := Lib.hid hy
        have Hsdr := Lib.hid hsd
        have Hrun := Lib.hid hrun
        have hsl40 : sd.length ≤ 40 := by omega
        have Hsl := Lib.hid hsl
        have HB4r := Lib.hid hb4
        have Hbr := Lib.hid hb
        obtain ⟨b0, b1, b2⟩ := blk3 hb7
        clear hb7 hy hsd hrun hsl hb4 hb
        by_cases hlt : k < m
        · have hkx : k < xs.length := by rw [← Hm.out]; exact hlt
          obtain ⟨b, o, rfl, ca0, ca1, ca2, ca3, ca4⟩ := hap_cells (HS3.out.below Hbr.out) hkx
          have HDo := Lib.hid (fun W (hb : Below wr.heap.size wr W) => do_any y xs[k] W (HML.out.below (Hbr.out.trans (hb.mono Hbr.out.size))) ((HYr.out.below hb).isWorld) ((HS5.out xs[k] (List.getElem_mem hkx)).below (Hbr.out.trans (hb.mono Hbr.out.size))))
          have HT : Hid (runL d0 ((xs.map Prod.fst).take (k + 1)) = stepRun (runL d0 ((xs.map Prod.fst).take k)) xs[k].1) := Lib.hid (by rw [runL_take _ _ _ (by rw [List.length_map]; exact hkx), List.getElem_map])
          generalize xs[k] = hx at *
          obtain ⟨⟨kind, node, to_, nm, bytes⟩, Ab, nb, cb⟩ := hx
          simp only [slv] at ca4
          dsimp only at ca0 ca1 ca2 ca3 HT HDo
          unfold hV slv at HDo
          dsimp only at HDo
          unfold wV at HDo
          have Hbx := Lib.hid ((Below.refl wr.heap.size wr).alloc (Nat.le_refl _) (.cells #[.int .i64 kind, .int .i64 node, .int .i64 to_, .string (strB nm), .slice Ab nb cb] 29))
          have hl7 := HB7r.out.lt
          have HDo2 := Lib.hid (HDo.out _ Hbx.out)
          go_wp2_with fail
          refine (HDo2.out).mono ?_
          rintro e w5 ⟨y2, rfl, hy2, hyd2, hb5⟩
          have hb5' := Hbx.out.trans (hb5.mono Hbx.out.size)
          have HB7 := Lib.hid (HB7r.out.below hb5' HB7r.out.lt)
          have HB45 := Lib.hid (HB4r.out.below hb5' HB4r.out.lt)
          have HY5 := Lib.hid (HYr.out.below hb5')
          have Hsd5 := Lib.hid (own_keep Hsdr.out hb5')
          have Hb5 := Lib.hid (Hbr.out.trans (hb5'.mono Hbr.out.size))
          have Hy2 := Lib.hid (hy2.base_ (show w.heap.size ≤ (wr.alloc (.cells #[.int .i64 kind, .int .i64 node, .int .i64 to_, .string (strB nm), .slice Ab nb cb] 29)).heap.size by have := Hbr.out.size; simp; omega))
          have Hyd2 := Lib.hid hyd2
          obtain ⟨B1, d1, B2, d2, B3, d3, h1, h2, h3⟩ := hy2.sl
          have hV : wV y2 = .agg #[.slice B1 y2.nodes.length d1, .slice B2 y2.clock.length d2, .slice B3 y2.net.length d3] := by unfold wV; rw [h1, h2, h3]
          rw [hV]
          have HH := Lib.hid (And.intro h1 (And.intro h2 h3))
          obtain ⟨p1, hp1⟩ : ∃ q, q = y2.nodes.length := ⟨_, rfl⟩
          obtain ⟨p2, hp2⟩ : ∃ q, q = y2.clock.length := ⟨_, rfl⟩
          obtain ⟨p3, hp3⟩ : ∃ q, q = y2.net.length := ⟨_, rfl⟩
          rw [← hp1, ← hp2, ← hp3] at HH ⊢
          obtain ⟨z, hz⟩ : ∃ z, (doR y.wd ⟨kind, node, to_, nm, bytes⟩).1 = z := ⟨_, rfl⟩
          have Hz := Lib.hid hz
          rw [hz]
          clear hy2 hyd2 hb5 hb5' h1 h2 h3 hV hp1 hp2 hp3 hz HB7r HB4r HYr Hsdr HDo HDo2 Hbx b0 b1 b2 ca0 ca1 ca2 ca3 ca4 hl7
          by_cases h0 : z = 0
          · subst h0
            have HX1 := Lib.hid (HB7.out.set_ 0 (.slice B1 p1 d1))
            have HX2 := Lib.hid (HX1.out.set_ 1 (.slice B2 p2 d2))
            have HX3 := Lib.hid (HX2.out.set_ 2 (.slice B3 p3 d3))
            have HO3 := Lib.hid (((Hy2.out.set_ HB7.out (by decide) (by decide) (by decide) (by decide) (by decide) 0 (.slice B1 p1 d1)).set_ HX1.out (by decide) (by decide) (by decide) (by decide) (by decide) 1 (.slice B2 p2 d2)).set_ HX2.out (by decide) (by decide) (by decide) (by decide) (by decide) 2 (.slice B3 p3 d3))
            have HS3' := Lib.hid (ownsRow_setCell_other (ownsRow_setCell_other (ownsRow_setCell_other Hsd5.out (a := ⟨g7, 0, none⟩) (own_ne Hsd5.out HB7.out (by decide)) (.slice B1 p1 d1)) (a := ⟨g7, 1, none⟩) (own_ne Hsd5.out HB7.out (by decide)) (.slice B2 p2 d2)) (a := ⟨g7, 2, none⟩) (own_ne Hsd5.out HB7.out (by decide)) (.slice B3 p3 d3))
            have HE3 := Lib.hid (((HB45.out.far (p := ⟨g7, 0, none⟩) hg47 (.slice B1 p1 d1)).far (p := ⟨g7, 1, none⟩) hg47 (.slice B2 p2 d2)).far (p := ⟨g7, 2, none⟩) hg47 (.slice B3 p3 d3))
            have Hb3 := Lib.hid (((Hb5.out.setCell (show w.heap.size ≤ (⟨g7, 0, none⟩ : Addr).block from hwg7) (.slice B1 p1 d1)).setCell (show w.heap.size ≤ (⟨g7, 1, none⟩ : Addr).block from hwg7) (.slice B2 p2 d2)).setCell (show w.heap.size ≤ (⟨g7, 2, none⟩ : Addr).block from hwg7) (.slice B3 p3 d3))
            obtain ⟨u0, u1, u2⟩ := blk3 HB7.out
            have f0 := HB7.out.frozen 0
            have f1 := HB7.out.frozen 1
            have f2 := HB7.out.frozen 2
            have hl7 := HB7.out.lt
            have hA1 : Below (((w5.setCell ⟨g7, 0, none⟩ (.slice B1 p1 d1)).setCell ⟨g7, 1, none⟩ (.slice B2 p2 d2)).setCell ⟨g7, 2, none⟩ (.slice B3 p3 d3)).heap.size (((w5.setCell ⟨g7, 0, none⟩ (.slice B1 p1 d1)).setCell ⟨g7, 1, none⟩ (.slice B2 p2 d2)).setCell ⟨g7, 2, none⟩ (.slice B3 p3 d3)) ((((w5.setCell ⟨g7, 0, none⟩ (.slice B1 p1 d1)).setCell ⟨g7, 1, none⟩ (.slice B2 p2 d2)).setCell ⟨g7, 2, none⟩ (.slice B3 p3 d3)).alloc (.cells #[.slice B1 p1 d1, .slice B2 p2 d2, .slice B3 p3 d3] 26)) := (Below.refl _ _).alloc (Nat.le_refl _) _
            have hA2 : Below (((w5.setCell ⟨g7, 0, none⟩ (.slice B1 p1 d1)).setCell ⟨g7, 1, none⟩ (.slice B2 p2 d2)).setCell ⟨g7, 2, none⟩ (.slice B3 p3 d3)).heap.size (((w5.setCell ⟨g7, 0, none⟩ (.slice B1 p1 d1)).setCell ⟨g7, 1, none⟩ (.slice B2 p2 d2)).setCell ⟨g7, 2, none⟩ (.slice B3 p3 d3)) (((((w5.setCell ⟨g7, 0, none⟩ (.slice B1 p1 d1)).setCell ⟨g7, 1, none⟩ (.slice B2 p2 d2)).setCell ⟨g7, 2, none⟩ (.slice B3 p3 d3)).alloc (.cells #[.slice B1 p1 d1, .slice B2 p2 d2, .slice B3 p3 d3] 26)).alloc (.cells #[.int .i64 0] 31)) := hA1.alloc hA1.size _
            have HZ := Lib.hid (show SlAt (((((w5.setCell ⟨g7, 0, none⟩ (.slice B1 p1 d1)).setCell ⟨g7, 1, none⟩ (.slice B2 p2 d2)).setCell ⟨g7, 2, none⟩ (.slice B3 p3 d3)).alloc (.cells #[.slice B1 p1 d1, .slice B2 p2 d2, .slice B3 p3 d3] 26)).alloc (.cells #[.int .i64 0] 31)) (some ⟨w5.heap.size + 1, 0, none⟩) [.int .i64 0] from by
              have h1 := SlAt.of_heap (heap_alloc_new ((((w5.setCell ⟨g7, 0, none⟩ (.slice B1 p1 d1)).setCell ⟨g7, 1, none⟩ (.slice B2 p2 d2)).setCell ⟨g7, 2, none⟩ (.slice B3 p3 d3)).alloc (.cells #[.slice B1 p1 d1, .slice B2 p2 d2, .slice B3 p3 d3] 26)) (.cells #[.int .i64 0] 31)) (xs := [.int .i64 0]) rfl
              simpa using h1)
            have HX7 := Lib.hid (HX3.out.below hA2 HX3.out.lt)
            have HO7 := Lib.hid (HO3.out.below hA2)
            have HS7 := Lib.hid (own_keep HS3'.out hA2)
            have HE7 := Lib.hid (HE3.out.below hA2 HE3.out.lt)
            have Hb7 := Lib.hid (Hb3.out.trans (hA2.mono Hb3.out.size))
            clear hA1 hA2
            go_wp2_with (at_builtin; refine wpList_app _ rfl (.tmp 42) (.tmp 44) _ rfl w.heap.size 31 _ 1 8 tyE _ sd.length (sd.flatMap intC) rfl HS7.out (some ⟨w5.heap.size + 1, 0, none⟩) 1 1 [.int .i64 0] rfl rfl HZ.out (by simp [Value.oneCell']) (by simp) (by unfold maxLen; omega) (by omega) Hb7.out.size ?_; intro v8 w8 hown8 hg8 _; have Ho8 := Lib.hid hown8; have Hg8 := Lib.hid hg8; clear hown8 hg8)
            have hkp : Keeps w.heap.size [31] (((((w5.setCell ⟨g7, 0, none⟩ (.slice B1 p1 d1)).setCell ⟨g7, 1, none⟩ (.slice B2 p2 d2)).setCell ⟨g7, 2, none⟩ (.slice B3 p3 d3)).alloc (.cells #[.slice B1 p1 d1, .slice B2 p2 d2, .slice B3 p3 d3] 26)).alloc (.cells #[.int .i64 0] 31)) w8 := (Keeps.refl _ _ _).grown HS7.out Hg8.out (by simp) Hb7.out.size
            have HX8 := Lib.hid (hkp.blk HX7.out (by decide))
            have HO8 := Lib.hid (HO7.out.keeps hkp (by decide) (by decide) (by decide) (by decide) (by decide))
            have HE8 := Lib.hid (hkp.blk HE7.out (by decide))
            have Hb8 := Lib.hid (own_below HS7.out Hg8.out Hb7.out Hb7.out.size)
            have HT2 : Hid (((y2).wd, sd ++ [0]) = runL d0 ((xs.map Prod.fst).take (k + 1))) := Lib.hid (by
              rw [HT.out, ← Hrun.out]
              unfold stepRun
              dsimp only
              rw [if_pos Hz.out, Hyd2.out])
            clear hkp HX7 HO7 HS7 HE7 Hb7 HZ Hg8
            go_roundw
            case rel => exact ⟨k + 1, y2, sd ++ [0], by omega, by go_num, by rw [HH.out.1, HH.out.2.1, HH.out.2.2]; exact HX8.out, HO8.out, by rw [List.length_append, List.flatMap_append]; exact Ho8.out, HT2.out, by rw [List.length_append, Hsl.out]; rfl, HE8.out, Hb8.out⟩
            case measure => simp [intOf]; omega
          · have hz1 : (z == 0) = false := by simpa using h0
            have HX3 := HB7
            have HO3 := Lib.hid (show OwnW w5 w.heap.size y from HY5.out)
            have HS3' := Hsd5
            have HE3 := HB45
            have Hb3 := Hb5
            have hA1 : Below (w5).heap.size (w5) ((w5).alloc (.cells #[.slice B1 p1 d1, .slice B2 p2 d2, .slice B3 p3 d3] 26)) := (Below.refl _ _).alloc (Nat.le_refl _) _
            have hA2 : Below (w5).heap.size (w5) (((w5).alloc (.cells #[.slice B1 p1 d1, .slice B2 p2 d2, .slice B3 p3 d3] 26)).alloc (.cells #[.int .i64 z] 31)) := hA1.alloc hA1.size _
            have HZ := Lib.hid (show SlAt (((w5).alloc (.cells #[.slice B1 p1 d1, .slice B2 p2 d2, .slice B3 p3 d3] 26)).alloc (.cells #[.int .i64 z] 31)) (some ⟨w5.heap.size + 1, 0, none⟩) [.int .i64 z] from by
              have h1 := SlAt.of_heap (heap_alloc_new ((w5).alloc (.cells #[.slice B1 p1 d1, .slice B2 p2 d2, .slice B3 p3 d3] 26)) (.cells #[.int .i64 z] 31)) (xs := [.int .i64 z]) rfl
              simpa using h1)
            have HX7 := Lib.hid (HX3.out.below hA2 HX3.out.lt)
            have HO7 := Lib.hid (HO3.out.below hA2)
            have HS7 := Lib.hid (own_keep HS3'.out hA2)
            have HE7 := Lib.hid (HE3.out.below hA2 HE3.out.lt)
            have Hb7 := Lib.hid (Hb3.out.trans (hA2.mono Hb3.out.size))
            clear hA1 hA2
            go_wp2_with (at_builtin; refine wpList_app _ rfl (.tmp 42) (.tmp 44) _ rfl w.heap.size 31 _ 1 8 tyE _ sd.length (sd.flatMap intC) rfl HS7.out (some ⟨w5.heap.size + 1, 0, none⟩) 1 1 [.int .i64 z] rfl rfl HZ.out (by simp [Value.oneCell']) (by simp) (by unfold maxLen; omega) (by omega) Hb7.out.size ?_; intro v8 w8 hown8 hg8 _; have Ho8 := Lib.hid hown8; have Hg8 := Lib.hid hg8; clear hown8 hg8)
            have hkp : Keeps w.heap.size [31] (((w5).alloc (.cells #[.slice B1 p1 d1, .slice B2 p2 d2, .slice B3 p3 d3] 26)).alloc (.cells #[.int .i64 z] 31)) w8 := (Keeps.refl _ _ _).grown HS7.out Hg8.out (by simp) Hb7.out.size
            have HX8 := Lib.hid (hkp.blk HX7.out (by decide))
            have HO8 := Lib.hid (HO7.out.keeps hkp (by decide) (by decide) (by decide) (by decide) (by decide))
            have HE8 := Lib.hid (hkp.blk HE7.out (by decide))
            have Hb8 := Lib.hid (own_below HS7.out Hg8.out Hb7.out Hb7.out.size)
            have HT2 : Hid (((y).wd, sd ++ [z]) = runL d0 ((xs.map Prod.fst).take (k + 1))) := Lib.hid (by
              rw [HT.out, ← Hrun.out]
              unfold stepRun
              dsimp only
              rw [Hz.out, if_neg h0])
            clear hkp HX7 HO7 HS7 HE7 Hb7 HZ Hg8
            go_roundw
            case rel => exact ⟨k + 1, y, sd ++ [z], by omega, by go_num, HX8.out, HO8.out, by rw [List.length_append, List.flatMap_append]; exact Ho8.out, HT2.out, by rw [List.length_append, Hsl.out]; rfl, HE8.out, Hb8.out⟩
            case measure => simp [intOf]; omega
        · obtain rfl : k = m := by omega
          have HF : Hid ((y.wd, sd) = runL d0 (xs.map Prod.fst)) := Lib.hid (by rw [Hrun.out, List.take_of_length_le (by rw [List.length_map, ← Hm.out]; exact Nat.le_refl _)])
          obtain ⟨B1, d1, B2, d2, B3, d3, h1, h2, h3⟩ := HYr.out.sl
          rw [h1] at b0
          rw [h2] at b1
          rw [h3] at b2
          have HYv := Lib.hid (And.intro h1 (And.intro h2 h3))
          obtain ⟨p1, hp1⟩ : ∃ q, q = y.nodes.length := ⟨_, rfl⟩
          obtain ⟨p2, hp2⟩ : ∃ q, q = y.clock.length := ⟨_, rfl⟩
          obtain ⟨p3, hp3⟩ : ∃ q, q = y.net.length := ⟨_, rfl⟩
          rw [← hp1] at b0 HYv
          rw [← hp2] at b1 HYv
          rw [← hp3] at b2 HYv
          have HX1 := Lib.hid (HB4r.out.set_ 0 (.slice B1 p1 d1))
          have HX2 := Lib.hid (HX1.out.set_ 1 (.slice B2 p2 d2))
          have HX3 := Lib.hid (HX2.out.set_ 2 (.slice B3 p3 d3))
          have HO3 := Lib.hid (((HYr.out.set_ HB4r.out (by decide) (by decide) (by decide) (by decide) (by decide) 0 (.slice B1 p1 d1)).set_ HX1.out (by decide) (by decide) (by decide) (by decide) (by decide) 1 (.slice B2 p2 d2)).set_ HX2.out (by decide) (by decide) (by decide) (by decide) (by decide) 2 (.slice B3 p3 d3))
          have HS3' := Lib.hid (ownsRow_setCell_other (ownsRow_setCell_other (ownsRow_setCell_other Hsdr.out (a := ⟨w.heap.size, 0, none⟩) (own_ne Hsdr.out HB4r.out (by decide)) (.slice B1 p1 d1)) (a := ⟨w.heap.size, 1, none⟩) (own_ne Hsdr.out HB4r.out (by decide)) (.slice B2 p2 d2)) (a := ⟨w.heap.size, 2, none⟩) (own_ne Hsdr.out HB4r.out (by decide)) (.slice B3 p3 d3))
          have Hb3' := Lib.hid (((Hbr.out.setCell (show w.heap.size ≤ (⟨w.heap.size, 0, none⟩ : Addr).block from hwg) (.slice B1 p1 d1)).setCell (show w.heap.size ≤ (⟨w.heap.size, 1, none⟩ : Addr).block from hwg) (.slice B2 p2 d2)).setCell (show w.heap.size ≤ (⟨w.heap.size, 2, none⟩ : Addr).block from hwg) (.slice B3 p3 d3))
          obtain ⟨e0, e1, e2⟩ := blk3 HB4r.out
          have f0 := HB4r.out.frozen 0
          have f1 := HB4r.out.frozen 1
          have f2 := HB4r.out.frozen 2
          clear h1 h2 h3 hp1 hp2 hp3
          go_wp2_with fail
          refine bodyPost_ret (results_cell_row_tmp2 rfl _ _ w.heap.size 26 #[.slice B1 p1 d1, .slice B2 p2 d2, .slice B3 p3 d3] (0, 0) _ rfl HX3.out Tryz.underlying26 rfl (by kernel_rfl)) rfl ?_
          have hr1 : y.wd = r.2.1 := by rw [HU.out]; exact congrArg Prod.fst HF.out
          have hr2 : sd = r.2.2 := by rw [HU.out]; exact congrArg Prod.snd HF.out
          refine ⟨y, _, ?_, HO3.out, hr1, by rw [← hr2]; exact HS3'.out, Hb3'.out⟩
          rw [HU.out]
          unfold wV
          rw [HYv.out.1, HYv.out.2.1, HYv.out.2.2]
          rfl
  · have HU := Lib.hid (HR1.out (by rw [he]; decide))
    rw [he] at HU ⊢
    dsimp only at HU ⊢
    clear HR1 HR2 HR3 he
    have HF3 := Lib.hid ((((HB4.out.set_ 0 (.slice none 0 0)).set_ 1 (.slice none 0 0)).set_ 2 (.slice none 0 0)).alloc (.cells #[.slice A1 q1 c1, .slice A2 q2 c2, .slice A3 q3 c3] 26))
    have Hb6 := Lib.hid ((((Hb2.out.setCell (show w.heap.size ≤ (⟨w.heap.size, 0, none⟩ : Addr).block from hwg) (.slice none 0 0)).setCell (show w.heap.size ≤ (⟨w.heap.size, 1, none⟩ : Addr).block from hwg) (.slice none 0 0)).setCell (show w.heap.size ≤ (⟨w.heap.size, 2, none⟩ : Addr).block from hwg) (.slice none 0 0)).alloc (by simp; exact Hb2.out.size) (.cells #[.slice A1 q1 c1, .slice A2 q2 c2, .slice A3 q3 c3] 26))
    obtain ⟨b0, b1, b2⟩ := blk3 HB4.out
    have f0 := HB4.out.frozen 0
    have f1 := HB4.out.frozen 1
    have f2 := HB4.out.frozen 2
    have hl4 := HB4.out.lt
    go_wp2_with fail
    refine bodyPost_ret (results_cell_row_tmp2 rfl _ _ w.heap.size 26 #[.slice none 0 0, .slice none 0 0, .slice none 0 0] (0, 0) _ rfl HF3.out Tryz.underlying26 rfl (by kernel_rfl)) rfl ?_
    exact ⟨wx0, .slice none 0 0, by rw [HU.out]; rfl, OwnW.none_ _ _, by rw [HU.out]; rfl, by rw [HU.out]; exact World.ownsRow_nil .., Hb6.out⟩
end Go.Proofs.YtdoegpklephelaaGreatDoor.Worlds

/- slices.Equal at []api.Errno. -/
namespace Go.Proofs.YtdoegpklephelaaGreatDoor
open Go Go.RowKit
set_option linter.unusedVariables false

set_option maxHeartbeats 400000 in
theorem equal_errs (A B : Option Addr) (n m ca cb : Nat) (xs ys : List Int) (w : World) (hn : xs.length = n) (hm : ys.length = m) (hx : n ≤ maxLen) (hy : m ≤ maxLen) (ha : InAt w A xs) (hb : InAt w B ys) :
    Calls Tryz.prog 15 #[.slice A n ca, .slice B m cb] w fun e w' => e = .returned (.bool (decide (xs = ys))) ∧ ∃ d, w' = w.drewN d := by
  unfold maxLen at hx hy
  by_cases hnm : n = m
  · subst hnm
    have hq : ((n : Int) != (n : Int)) = false := by simp
    have Hn := Lib.hid hn
    have Hm := Lib.hid hm
    have Ha := Lib.hid ha
    have Hb := Lib.hid hb
    clear hn hm ha hb
    go_enter Tryz.func15, Tryz.ntmps15
    go_wp2_with fail
    go_loopw [13] (fun i wr => ∃ k : Nat, k ≤ n ∧ i = .int .i64 k ∧ xs.take k = ys.take k ∧ ∃ d, wr = w.drewN d) (fun i _ => n - (intOf i).toNat)
    case atStart => exact ⟨0, Nat.zero_le _, rfl, rfl, 0, rfl⟩
    case round =>
      obtain ⟨k, hk, rfl, htk, d, rfl⟩ := hrel
      have Ht := Lib.hid htk
      clear htk
      by_cases hlt : k < n
      · have h1 : k < xs.length := by rw [Hn.out]; exact hlt
        have h2 : k < ys.length := by rw [Hm.out]; exact hlt
        obtain ⟨b1, o1, rfl, hc1⟩ := Ha.out.get h1
        obtain ⟨b2, o2, rfl, hc2⟩ := Hb.out.get h2
        have hI : (k : Int) < (n : Int) := by omega
        by_cases he : xs[k] = ys[k]
        · have Hs := Lib.hid (take_eq_succ xs ys k h1 h2 Ht.out he)
          have hne : (xs[k] != ys[k]) = false := by simp [he]
          have hne' : (xs[k] == ys[k]) = true := by simp [he]
          clear he
          generalize xs[k] = x at *
          generalize ys[k] = y at *
          go_wp2_with fail
          go_quiet (fail)
          go_wp2_with fail
          go_roundw
          case rel => exact ⟨k + 1, by omega, by go_num, Hs.out, _, rfl⟩
          case measure => simp [intOf]; omega
        · have hne : (xs[k] != ys[k]) = true := by simpa using he
          have hne' : (xs[k] == ys[k]) = false := by simpa using he
          have Hf : Hid (decide (xs = ys) = false) := Lib.hid (by simpa using ne_of_get xs ys k h1 h2 he)
          clear he
          generalize xs[k] = x at *
          generalize ys[k] = y at *
          go_wp2_with fail
          go_quiet (fail)
          go_wp2_with fail
          go_ret
          exact ⟨ret_bool Hf.out.symm, _, World.drewN_drewN _ _ _⟩
      · have Hf : Hid (decide (xs = ys) = true) := Lib.hid (by
          have e1 : xs.take k = xs := List.take_of_length_le (by rw [Hn.out]; omega)
          have e2 : ys.take k = ys := List.take_of_length_le (by rw [Hm.out]; omega)
          have := Ht.out; rw [e1, e2] at this; simpa using this)
        go_wp2_with fail
        go_ret
        exact ⟨ret_bool Hf.out.symm, _, rfl⟩
  · have hq : ((n : Int) != (m : Int)) = true := by simp; omega
    have Hf : Hid (decide (xs = ys) = false) := Lib.hid (by simp; intro h; subst h; omega)
    go_enter Tryz.func15, Tryz.ntmps15
    go_wp2_with fail
    go_ret
    exact ⟨ret_bool Hf.out.symm, 0, rfl⟩
end Go.Proofs.YtdoegpklephelaaGreatDoor

/- slices.EqualFunc at nodes. -/
namespace Go.Proofs.YtdoegpklephelaaGreatDoor.Worlds
open Go Go.RowKit Go.Proofs.YtdoegpklephelaaGreatDoor Go.Proofs.YtdoegpklephelaaGreatDoor.Name Go.Proofs.YtdoegpklephelaaGreatDoor.Merge
set_option linter.unusedVariables false
def nV (x : Nx) : Value := slv x.1

set_option maxRecDepth 100000 in
set_option maxHeartbeats 1600000 in
theorem equalFunc_nodes (A B : Option Addr) (n m ca cb : Nat) (xs ys : List (Nx)) (g : FuncId) (cap : Array Value) (p : Nx → Nx → Bool) (w : World) (hn : xs.length = n) (hm : ys.length = m) (hx : n ≤ maxLen) (hy : m ≤ maxLen)
    (ha : SlAt w A (xs.flatMap nC)) (hb : SlAt w B (ys.flatMap nC))
    (hcf : ∀ args w', (callFunc g args).run Tryz.prog w' = .ok (.enter g args) w')
    (hf : ∀ x ∈ xs, ∀ y ∈ ys, ∀ w', Below w.heap.size w w' → Calls Tryz.prog g (#[nV x, nV y] ++ cap) w' fun e w'' => e = .returned (.bool (p x y)) ∧ Below w'.heap.size w' w'') :
    Calls Tryz.prog 26 #[.slice A n ca, .slice B m cb, .func (.func g) #[] cap] w fun e w' => e = .returned (.bool (eqF p xs ys)) ∧ Below w.heap.size w w' := by
  unfold maxLen at hx hy
  have Hn := Lib.hid hn
  have Hm := Lib.hid hm
  have Ha := Lib.hid ha
  have Hb := Lib.hid hb
  have Hf := Lib.hid hf
  clear hn hm ha hb hf
  by_cases hnm : n = m
  · subst hnm
    go_enter Tryz.func26, Tryz.ntmps26
    go_wp2_with fail
    go_loopw [17] (fun i wr => ∃ k : Nat, k ≤ n ∧ i = .int .i64 (k : Int) ∧ (∀ x ∈ (xs.zip ys).take k, p x.1 x.2 = true) ∧ Below w.heap.size w wr) (fun i _ => n - (intOf i).toNat)
    case atStart => exact ⟨0, Nat.zero_le _, rfl, by simp, Below.refl _ _⟩
    case round =>
      obtain ⟨k, hk, rfl, hall, hbr⟩ := hrel
      have Hall := Lib.hid hall
      have Hbr := Lib.hid hbr
      clear hall hbr
      by_cases hlt : k < n
      · have hkx : k < xs.length := by rw [Hn.out]; exact hlt
        have hky : k < ys.length := by rw [Hm.out]; exact hlt
        obtain ⟨ba, oa, rfl, hca⟩ := slat_elem (size := 1) nC_len (by omega) (Ha.out.below Hbr.out) hkx
        obtain ⟨bb, ob, rfl, hcb⟩ := slat_elem (size := 1) nC_len (by omega) (Hb.out.below Hbr.out) hky
        have Hcall := Lib.hid (fun w' hb => Hf.out xs[k] (List.getElem_mem hkx) ys[k] (List.getElem_mem hky) w' hb)
        have Hy := Lib.hid (eqF_here (p := p) hkx hky)
        have Hz := Lib.hid (eqF_step (p := p) hkx hky Hall.out)
        generalize xs[k] = x at *
        generalize ys[k] = y at *
        obtain ⟨⟨A1, l1, c1⟩, f1⟩ := x
        obtain ⟨⟨A2, l2, c2⟩, f2⟩ := y
        have ca0 : wr.cell? ⟨ba, oa + k, none⟩ = some (.slice A1 l1 c1) := by have := hca 0 _ rfl; rwa [Nat.mul_one, Nat.add_zero] at this
        have cb0 : wr.cell? ⟨bb, ob + k, none⟩ = some (.slice A2 l2 c2) := by have := hcb 0 _ rfl; rwa [Nat.mul_one, Nat.add_zero] at this
        have HA2 := Lib.hid (Below.refl wr.heap.size wr)
        have la := block_lt_of_cell ca0
        have lb := block_lt_of_cell cb0
        clear hca hcb Hf
        obtain ⟨pv, hpv⟩ : ∃ pv, p ⟨⟨A1, l1, c1⟩, f1⟩ ⟨⟨A2, l2, c2⟩, f2⟩ = pv := ⟨_, rfl⟩
        rw [hpv] at Hcall Hy Hz
        clear hpv
        go_wp2_with fail
        refine (Hcall.out _ (Hbr.out.trans (HA2.out.mono Hbr.out.size))).mono ?_
        rintro e w1 ⟨rfl, hb1⟩
        have Hb1 := Lib.hid (Hbr.out.trans (stepN HA2.out hb1 |>.mono Hbr.out.size))
        clear hb1
        cases pv with
        | true =>
          have Hi := Lib.hid (Hz.out rfl)
          go_wp2_with fail
          go_roundw
          case rel => exact ⟨k + 1, by omega, by go_num, Hi.out, Hb1.out⟩
          case measure => simp [intOf]; omega
        | false =>
          have Hi := Lib.hid (Hy.out rfl)
          go_wp2_with fail
          go_ret
          exact ⟨ret_bool Hi.out.symm, Hb1.out⟩
      · have Hi := Lib.hid (eqF_end (p := p) (by rw [Hn.out, Hm.out]) (show k = xs.length by rw [Hn.out]; omega) Hall.out)
        go_wp2_with fail
        go_ret
        exact ⟨ret_bool Hi.out.symm, Hbr.out⟩
  · have Hi := Lib.hid (eqF_ne (p := p) (a := xs) (b := ys) (by rw [Hn.out, Hm.out]; exact hnm))
    have hne : decide ((n : Int) = (m : Int)) = false := decide_eq_false (by omega)
    have hni : ¬ (n : Int) = (m : Int) := by omega
    clear hnm
    go_enter Tryz.func26, Tryz.ntmps26
    go_wp2_with fail
    go_ret
    exact ⟨ret_bool Hi.out.symm, Below.refl _ _⟩
end Go.Proofs.YtdoegpklephelaaGreatDoor.Worlds

/- slices.EqualFunc at msgs. -/
namespace Go.Proofs.YtdoegpklephelaaGreatDoor.Worlds
open Go Go.RowKit Go.Proofs.YtdoegpklephelaaGreatDoor Go.Proofs.YtdoegpklephelaaGreatDoor.Name Go.Proofs.YtdoegpklephelaaGreatDoor.Merge
set_option linter.unusedVariables false
def mV (x : Mx) : Value := .agg #[.int .i64 x.1, slv x.2.1]

set_option maxRecDepth 100000 in
set_option maxHeartbeats 1600000 in
theorem equalFunc_msgs (A B : Option Addr) (n m ca cb : Nat) (xs ys : List (Mx)) (g : FuncId) (cap : Array Value) (p : Mx → Mx → Bool) (w : World) (hn : xs.length = n) (hm : ys.length = m) (hx : n ≤ maxLen) (hy : m ≤ maxLen)
    (ha : SlAt w A (xs.flatMap mC)) (hb : SlAt w B (ys.flatMap mC))
    (hcf : ∀ args w', (callFunc g args).run Tryz.prog w' = .ok (.enter g args) w')
    (hf : ∀ x ∈ xs, ∀ y ∈ ys, ∀ w', Below w.heap.size w w' → Calls Tryz.prog g (#[mV x, mV y] ++ cap) w' fun e w'' => e = .returned (.bool (p x y)) ∧ Below w'.heap.size w' w'') :
    Calls Tryz.prog 27 #[.slice A n ca, .slice B m cb, .func (.func g) #[] cap] w fun e w' => e = .returned (.bool (eqF p xs ys)) ∧ Below w.heap.size w w' := by
  unfold maxLen at hx hy
  have Hn := Lib.hid hn
  have Hm := Lib.hid hm
  have Ha := Lib.hid ha
  have Hb := Lib.hid hb
  have Hf := Lib.hid hf
  clear hn hm ha hb hf
  by_cases hnm : n = m
  · subst hnm
    go_enter Tryz.func27, Tryz.ntmps27
    go_wp2_with fail
    go_loopw [17] (fun i wr => ∃ k : Nat, k ≤ n ∧ i = .int .i64 (k : Int) ∧ (∀ x ∈ (xs.zip ys).take k, p x.1 x.2 = true) ∧ Below w.heap.size w wr) (fun i _ => n - (intOf i).toNat)
    case atStart => exact ⟨0, Nat.zero_le _, rfl, by simp, Below.refl _ _⟩
    case round =>
      obtain ⟨k, hk, rfl, hall, hbr⟩ := hrel
      have Hall := Lib.hid hall
      have Hbr := Lib.hid hbr
      clear hall hbr
      by_cases hlt : k < n
      · have hkx : k < xs.length := by rw [Hn.out]; exact hlt
        have hky : k < ys.length := by rw [Hm.out]; exact hlt
        obtain ⟨ba, oa, rfl, hca⟩ := slat_elem (size := 2) mC_len (by omega) (Ha.out.below Hbr.out) hkx
        obtain ⟨bb, ob, rfl, hcb⟩ := slat_elem (size := 2) mC_len (by omega) (Hb.out.below Hbr.out) hky
        have Hcall := Lib.hid (fun w' hb => Hf.out xs[k] (List.getElem_mem hkx) ys[k] (List.getElem_mem hky) w' hb)
        have Hy := Lib.hid (eqF_here (p := p) hkx hky)
        have Hz := Lib.hid (eqF_step (p := p) hkx hky Hall.out)
        generalize xs[k] = x at *
        generalize ys[k] = y at *
        obtain ⟨t1, ⟨A1, l1, c1⟩, f1⟩ := x
        obtain ⟨t2, ⟨A2, l2, c2⟩, f2⟩ := y
        have ca0 : wr.cell? ⟨ba, oa + k * 2, none⟩ = some (.int .i64 t1) := hca 0 _ rfl
        have cb0 : wr.cell? ⟨bb, ob + k * 2, none⟩ = some (.int .i64 t2) := hcb 0 _ rfl
        have ca1 : wr.cell? ⟨ba, oa + k * 2 + 1, none⟩ = some (.slice A1 l1 c1) := hca 1 _ rfl
        have cb1 : wr.cell? ⟨bb, ob + k * 2 + 1, none⟩ = some (.slice A2 l2 c2) := hcb 1 _ rfl
        have HA2 := Lib.hid (((Below.refl wr.heap.size wr).alloc (Nat.le_refl _) (.cells #[.int .i64 t1, .slice A1 l1 c1] 54)).alloc (by simp) (.cells #[.int .i64 t2, .slice A2 l2 c2] 54))
        have la := block_lt_of_cell ca0
        have lb := block_lt_of_cell cb0
        clear hca hcb Hf
        obtain ⟨pv, hpv⟩ : ∃ pv, p ⟨t1, ⟨A1, l1, c1⟩, f1⟩ ⟨t2, ⟨A2, l2, c2⟩, f2⟩ = pv := ⟨_, rfl⟩
        rw [hpv] at Hcall Hy Hz
        clear hpv
        go_wp2_with fail
        refine (Hcall.out _ (Hbr.out.trans (HA2.out.mono Hbr.out.size))).mono ?_
        rintro e w1 ⟨rfl, hb1⟩
        have Hb1 := Lib.hid (Hbr.out.trans (stepN HA2.out hb1 |>.mono Hbr.out.size))
        clear hb1
        cases pv with
        | true =>
          have Hi := Lib.hid (Hz.out rfl)
          go_wp2_with fail
          go_roundw
          case rel => exact ⟨k + 1, by omega, by go_num, Hi.out, Hb1.out⟩
          case measure => simp [intOf]; omega
        | false =>
          have Hi := Lib.hid (Hy.out rfl)
          go_wp2_with fail
          go_ret
          exact ⟨ret_bool Hi.out.symm, Hb1.out⟩
      · have Hi := Lib.hid (eqF_end (p := p) (by rw [Hn.out, Hm.out]) (show k = xs.length by rw [Hn.out]; omega) Hall.out)
        go_wp2_with fail
        go_ret
        exact ⟨ret_bool Hi.out.symm, Hbr.out⟩
  · have Hi := Lib.hid (eqF_ne (p := p) (a := xs) (b := ys) (by rw [Hn.out, Hm.out]; exact hnm))
    have hne : decide ((n : Int) = (m : Int)) = false := decide_eq_false (by omega)
    have hni : ¬ (n : Int) = (m : Int) := by omega
    clear hnm
    go_enter Tryz.func27, Tryz.ntmps27
    go_wp2_with fail
    go_ret
    exact ⟨ret_bool Hi.out.symm, Below.refl _ _⟩
end Go.Proofs.YtdoegpklephelaaGreatDoor.Worlds

/- reliquarylaw.told: a closed fact. -/
namespace Go.Proofs.YtdoegpklephelaaGreatDoor.Worlds
open Go Go.RowKit Go.Proofs.YtdoegpklephelaaGreatDoor Go.Proofs.YtdoegpklephelaaGreatDoor.Name Go.Proofs.YtdoegpklephelaaGreatDoor.Merge
set_option linter.unusedVariables false

theorem map_one' {l : List Fx} {f : Fl} (h : l.map Prod.fst = [f]) : ∃ s, l = [(f, s)] := by
  cases l with
  | nil => cases h
  | cons x l =>
    rw [List.map_cons, List.cons.injEq] at h
    obtain ⟨h1, h2⟩ := h
    have := List.map_eq_nil_iff.1 h2
    subst this
    exact ⟨x.2, by rw [← h1]⟩
instance decFl : DecidableEq Fl := fun a b => decidable_of_iff (sameF a b = true) (sameF_iff a b)
instance : DecidableEq Ms := fun a b => decidable_of_iff (a.to_ = b.to_ ∧ a.files = b.files) (by cases a; cases b; simp)
instance : DecidableEq Wd := fun a b => decidable_of_iff (a.nodes = b.nodes ∧ a.clock = b.clock ∧ a.net = b.net) (by cases a; cases b; simp)
def toldF : Fl := ⟨[97], [120], 1, 0, false⟩
def toldX : List Hp := [⟨1, 0, 0, [97], [120]⟩, ⟨3, 0, 1, [], []⟩, ⟨4, 0, 0, [], []⟩, ⟨4, 0, 0, [], []⟩]
theorem told_run : runR 2 toldX = (0, ⟨[[toldF], [toldF]], [1, 1], []⟩, [0, 0, 0, 5]) := by decide +kernel
theorem map_pair {α β : Type} {f : α → β} {l : List α} {x y : β} (h : l.map f = [x, y]) : ∃ a b, l = [a, b] ∧ f a = x ∧ f b = y := by
  match l, h with
  | [a, b], h => simp at h; exact ⟨a, b, rfl, h.1, h.2⟩
theorem intC_at {w : World} {A : Option Addr} {l : List Int} (h : SlAt w A (l.flatMap intC)) : InAt w A l := by
  unfold InAt; rw [cCs] at h; exact h
theorem own_sl {w : World} {base size n c g : Nat} {e : TypeId} {xs : List Value} (h : w.ownsRow base e size (.slice (some ⟨g, 0, none⟩) n c) n xs) : SlAt w (some ⟨g, 0, none⟩) xs := by
  obtain ⟨A, c', e, _, _, h4, _⟩ := own_slat h
  injection e with e
  subst e
  exact h4
def toldH (b0 : Nat) : List Hx := [(⟨1, 0, 0, [97], [120]⟩, some ⟨b0, 0, none⟩, 1, 1), (⟨3, 0, 1, [], []⟩, none, 0, 0), (⟨4, 0, 0, [], []⟩, none, 0, 0), (⟨4, 0, 0, [], []⟩, none, 0, 0)]
set_option maxRecDepth 100000 in
set_option maxHeartbeats 1000000 in
theorem told_any (w : World) (hml : ML w) :
    Calls Tryz.prog 9 #[] w fun e w' => e = .returned (.bool true) ∧ Below w.heap.size w w' := by
  obtain ⟨w1, hw1⟩ : ∃ w1, w1 = (w.alloc (.cells #[.int .u8 120] 5 (1, 2))).alloc (.cells #[.int .i64 1, .int .i64 0, .int .i64 0, .string ⟨#[97]⟩, .slice (some ⟨w.heap.size, 0, none⟩) 1 1, .int .i64 3, .int .i64 0, .int .i64 1, .string ⟨#[]⟩, .slice none 0 0, .int .i64 4, .int .i64 0, .int .i64 0, .string ⟨#[]⟩, .slice none 0 0, .int .i64 4, .int .i64 0, .int .i64 0, .string ⟨#[]⟩, .slice none 0 0] 29) := ⟨_, rfl⟩
  have hb1 : Below w.heap.size w w1 := by rw [hw1]; exact ((Below.refl _ _).alloc (Nat.le_refl _) _).alloc (by simp) _
  have B1 : Blk w1 (w.heap.size + 1) 29 ((toldH w.heap.size).flatMap hC).toArray := by
    rw [hw1]
    have := Blk.new (w.alloc (.cells #[.int .u8 120] 5 (1, 2))) 29 ((toldH w.heap.size).flatMap hC).toArray
    rw [show (w.alloc (.cells #[.int .u8 120] 5 (1, 2))).heap.size = w.heap.size + 1 by simp] at this
    exact this
  have hbs : ByAt w1 (some ⟨w.heap.size, 0, none⟩) [120] := by
    rw [hw1]
    exact SlAt.alloc (ByAt.of_new w 5 #[.int .u8 120] (1, 2) (xs := [120]) rfl) _
  have hx : IsL w1 hC (HapAt w1) (.slice (some ⟨w.heap.size + 1, 0, none⟩) 4 4) (toldH w.heap.size) := by
    refine ⟨_, 4, rfl, Nat.le_refl _, by unfold maxLen; omega, blk_slat B1, by simp, ?_⟩
    intro a ha
    simp [toldH] at ha
    rcases ha with rfl | rfl | rfl
    · exact ⟨rfl, rfl, rfl, by simp [maxLen], rfl, by simp, by simp [maxLen], hbs⟩
    · exact ⟨rfl, rfl, rfl, by simp [maxLen], rfl, by simp, by simp [maxLen], SlAt.nil⟩
    · exact ⟨rfl, rfl, rfl, by simp [maxLen], rfl, by simp, by simp [maxLen], SlAt.nil⟩
  have HR := Lib.hid (run_any 2 _ (toldH w.heap.size) w1 (hml.below hb1) hx)
  rw [show (toldH w.heap.size).map Prod.fst = toldX from rfl, told_run] at HR
  have Hw1 := Lib.hid hw1.symm
  have Hb1 := Lib.hid hb1
  clear hw1 hb1 B1 hbs hx
  have kk := fun (w : World) (C : Array Value) (n c : Nat) => Lib.run_convert_bytes_const (P := Tryz.prog) w 27 5 C n c Tryz.underlying27 Tryz.underlying5
  go_enter Tryz.func9, Tryz.ntmps9
  go_wp2_with fail
  rw [Hw1.out]
  refine (HR.out).mono ?_
  rintro e w2 ⟨y, s, rfl, hy, hyd, hs, hb2⟩
  dsimp only at hyd hs ⊢
  have hb2' : Below w.heap.size w w2 := Hb1.out.trans (hb2.mono Hb1.out.size)
  obtain ⟨vn, nodes, vc, clock, vt, net⟩ := y
  simp only [Wx.wd, Wd.mk.injEq] at hyd
  obtain ⟨hy1, hy2, hy3⟩ := hyd
  obtain ⟨na, nb, rfl, ha1, ha2⟩ := map_pair hy1
  obtain ⟨sa, hl⟩   := map_one' (show nb.2.map Prod.fst = [toldF] from ha2)
  subst hy2
  obtain ⟨rfl⟩ : net = [] := by simpa using hy3
  obtain ⟨gn, cn, hvn, _, _, _, _⟩ := own_at hy.nodes (by simp)
  obtain ⟨gc, cc, hvc, _, _, _, _⟩ := own_at hy.clock (by simp)
  obtain ⟨At, ct, hvt, _⟩ := own_slat hy.net
  obtain ⟨As, cs, hvs, _, _, hss, _⟩ := own_slat hs
  simp only [List.length_cons, List.length_nil] at hvn hvc hvt hvs
  subst hvn hvc hvt hvs
  obtain ⟨⟨A1, l1, c1⟩, f1⟩ := nb
  dsimp only at hl
  subst hl
  have Hy := Lib.hid hy
  have Hs := Lib.hid (intC_at hss)
  have Hb2 := Lib.hid hb2'
  have hlen1 : l1 = 1 := by
    obtain ⟨A, c, h, _⟩ := own_slat (hy.node _ (List.mem_cons_of_mem _ (List.mem_singleton.2 rfl))).row
    simp only [slv] at h
    injection h
  subst hlen1
  unfold wV
  dsimp only
  clear hy hs hb2 hb2' hss hy1 hy3 ha1 ha2 HR kk Hw1
  obtain ⟨W1, hW1⟩ : ∃ W1, W1 = (w2.alloc (.cells #[.slice (some ⟨gn, 0, none⟩) 2 cn, .slice (some ⟨gc, 0, none⟩) 2 cc, .slice At 0 ct] 26)).alloc (.cells #[.int .i64 0, .int .i64 0, .int .i64 0, .int .i64 5] 31) := ⟨_, rfl⟩
  obtain ⟨g1, hg1⟩ : ∃ g1, g1 = w2.heap.size := ⟨_, rfl⟩
  have hbW : Below w2.heap.size w2 W1 := by rw [hW1]; exact ((Below.refl _ _).alloc (Nat.le_refl _) _).alloc (by simp) _
  have HBw := Lib.hid (show Blk W1 g1 26 #[.slice (some ⟨gn, 0, none⟩) 2 cn, .slice (some ⟨gc, 0, none⟩) 2 cc, .slice At 0 ct] by rw [hW1, hg1]; exact (Blk.new _ _ _).alloc _)
  have HE := Lib.hid (show InAt W1 (some ⟨w2.heap.size + 1, 0, none⟩) [0, 0, 0, 5] from by
    rw [hW1]
    have h := SlAt.of_heap (heap_alloc_new (w2.alloc (.cells #[.slice (some ⟨gn, 0, none⟩) 2 cn, .slice (some ⟨gc, 0, none⟩) 2 cc, .slice At 0 ct] 26)) (.cells #[.int .i64 0, .int .i64 0, .int .i64 0, .int .i64 5] 31)) (xs := [0, 0, 0, 5].map iv) rfl
    rw [show (w2.alloc (.cells #[.slice (some ⟨gn, 0, none⟩) 2 cn, .slice (some ⟨gc, 0, none⟩) 2 cc, .slice At 0 ct] 26)).heap.size = w2.heap.size + 1 by simp] at h
    exact h)
  have HQ := Lib.hid (equal_errs As (some ⟨w2.heap.size + 1, 0, none⟩) 4 4 cs 4 [0, 0, 0, 5] [0, 0, 0, 5] W1 rfl rfl (by unfold maxLen; omega) (by unfold maxLen; omega) (SlAt.below Hs.out hbW) HE.out)
  have HbW := Lib.hid hbW
  have HW1 := Lib.hid hW1.symm
  have Hg1 := Lib.hid hg1.symm
  clear hW1 hg1 hbW HE Hs
  go_wp2_with fail
  rw [HW1.out]
  refine (HQ.out).mono ?_
  rintro e w4 ⟨rfl, d, hw4⟩
  have hb4 : Below W1.heap.size W1 w4 := by rw [hw4]; exact (Below.refl _ _).drewN' d
  have hb24 := HbW.out.trans (hb4.mono HbW.out.size)
  have HB4 := Lib.hid (HBw.out.below hb4 HBw.out.lt)
  have HY4 := Lib.hid (Hy.out.below hb24)
  have Hb4 := Lib.hid (Hb2.out.trans (hb24.mono Hb2.out.size))
  obtain ⟨b0, b1, b2⟩ := blk3 HB4.out
  have cn1 : w4.cell? ⟨gn, 1, none⟩ = some (.slice A1 1 c1) := own_node HY4.out.nodes rfl (k := 1) (by simp)
  obtain ⟨A9, c9, e9, _, _, hs9, _, hd9⟩ := (HY4.out.node _ (List.mem_cons_of_mem _ (List.mem_singleton.2 rfl))).files
  injection e9 with e91 e92 e93
  subst e91 e93
  obtain ⟨bb, oo, rfl, r0, r1, r2, r3, r4⟩ := files_cells hs9 (k := 0) (by simp)
  obtain ⟨A5, l5, c5⟩ := sa
  have hfa := hd9 _ (List.mem_singleton.2 rfl)
  have hl5 : l5 = 1 := hfa.len
  subst hl5
  have r1' : w4.cell? ⟨bb, oo + 1, none⟩ = some (.slice A5 1 c5) := by simpa [slv] using r1
  have kc := conv_bytes A5 1 c5 [120] w4 rfl hfa.at_
  have hstr : (strB [120]).toList = [120] := by rw [ByteArray.toList_eq]; simp [strB]
  clear hw4 hb4 hb24 HQ HBw Hy HbW HW1 hs9 hd9 e92 r0 r1 r2 r3 r4 hfa
  simp only [decide_true]
  rw [Hg1.out]
  have HA := Lib.hid ((Below.refl w4.heap.size w4).alloc (Nat.le_refl _) (.cells #[.int .i64 1, .int .i64 1] 3))
  have HI := Lib.hid (show InAt (w4.alloc (.cells #[.int .i64 1, .int .i64 1] 3)) (some ⟨w4.heap.size, 0, none⟩) [1, 1] from SlAt.of_heap (heap_alloc_new _ _) rfl)
  have HQ2 := Lib.hid (equal_ints _ (some ⟨w4.heap.size, 0, none⟩) 2 2 cc 2 [1, 1] [1, 1] _ rfl rfl (by unfold maxLen; omega) (by unfold maxLen; omega) (intC_at (own_sl (own_keep HY4.out.clock HA.out))) HI.out)
  go_wp2_with fail
  refine (HQ2.out).mono ?_
  rintro e w5 ⟨rfl, d2, hw5⟩
  have Hb5 : Hid (Below w.heap.size w w5) := Lib.hid (by
    rw [hw5]
    exact ((Hb4.out.trans (HA.out.mono Hb4.out.size))).drewN' d2)
  clear hw5
  simp only [decide_true]
  go_wp2_with fail
  go_ret
  exact ⟨rfl, Hb5.out⟩
end Go.Proofs.YtdoegpklephelaaGreatDoor.Worlds

/- reliquaryref.SameWorld, at worlds that are the same; reliquarylaw.at2. -/
namespace Go.Proofs.YtdoegpklephelaaGreatDoor.Worlds
open Go Go.RowKit Go.Proofs.YtdoegpklephelaaGreatDoor Go.Proofs.YtdoegpklephelaaGreatDoor.Name Go.Proofs.YtdoegpklephelaaGreatDoor.Merge
set_option linter.unusedVariables false

def pN (x y : Nx) : Bool := sameFs x.2 y.2
theorem pN_iff (x y : Nx) : pN x y = true ↔ flOf x.2 = flOf y.2 := sameFs_iff x.2 y.2
def pM (x y : Mx) : Bool := decide (x.1 = y.1) && sameFs x.2.2 y.2.2
theorem pM_iff (x y : Mx) : pM x y = true ↔ msOf x = msOf y := by
  unfold pM msOf
  rw [Bool.and_eq_true, decide_eq_true_eq, sameFs_iff]
  simp [flOf]
theorem esame : ∀ args w', (callFunc 28 args).run Tryz.prog w' = .ok (.enter 28 args) w' := enters_of Tryz.func28 (by kernel_rfl) rfl
set_option maxHeartbeats 1000000 in
theorem sameMs_any (x y : Mx) (w : World) (hx : IsFiles w (slv x.2.1) x.2.2) (hy : IsFiles w (slv y.2.1) y.2.2) :
    Calls Tryz.prog 28 #[mV x, mV y] w fun e w' => e = .returned (.bool (pM x y)) ∧ Below w.heap.size w w' := by
  obtain ⟨t1, ⟨A1, l1, c1⟩, f1⟩ := x
  obtain ⟨t2, ⟨A2, l2, c2⟩, f2⟩ := y
  unfold mV pM
  simp only [slv] at hx hy ⊢
  obtain ⟨w2, hw2⟩ : ∃ w2, w2 = (w.alloc (.cells #[.int .i64 t1, .slice A1 l1 c1] 54)).alloc (.cells #[.int .i64 t2, .slice A2 l2 c2] 54) := ⟨_, rfl⟩
  have hb2 : Below w.heap.size w w2 := by rw [hw2]; exact ((Below.refl _ _).alloc (Nat.le_refl _) _).alloc (by simp) _
  have HS := Lib.hid (sameFiles_any _ _ f1 f2 w2 (hx.below hb2) (hy.below hb2))
  have Hb2 := Lib.hid hb2
  have Hw2 := Lib.hid hw2.symm
  clear hx hy hb2 hw2
  by_cases h : t1 = t2
  · subst h
    rw [decide_eq_true rfl, Bool.true_and]
    go_enter Tryz.func28, Tryz.ntmps28
    go_wp2_with fail
    rw [Hw2.out]
    refine (HS.out).mono ?_
    rintro e w3 ⟨rfl, hb⟩
    have Hb := Lib.hid (stepN Hb2.out hb)
    clear hb
    obtain ⟨z, hz⟩ : ∃ z, sameFs f1 f2 = z := ⟨_, rfl⟩
    have Hz := Lib.hid hz
    rw [hz]
    clear hz HS
    go_wp2_with fail
    go_ret
    exact ⟨ret_bool Hz.out.symm, Hb.out⟩
  · have h1 : (t1 == t2) = false := by simpa using h
    rw [decide_eq_false h, Bool.false_and]
    clear h
    go_enter Tryz.func28, Tryz.ntmps28
    go_wp2_with fail
    rw [Hw2.out]
    go_ret
    exact ⟨rfl, Hb2.out⟩
set_option maxRecDepth 100000 in
set_option maxHeartbeats 2000000 in
theorem sameWorld_eq (x y : Wx) (w : World) (hx : IsWorld w x) (hy : IsWorld w y) (h : x.wd = y.wd) :
    Calls Tryz.prog 11 #[wV x, wV y] w fun e w' => e = .returned (.bool true) ∧ Below w.heap.size w w' := by
  obtain ⟨vn, nodes, vc, clock, vt, net⟩ := x
  obtain ⟨vn', nodes', vc', clock', vt', net'⟩ := y
  simp only [Wx.wd, Wd.mk.injEq] at h
  obtain ⟨h1, rfl, h3⟩ := h
  obtain ⟨xN, xC, xT⟩ := hx
  obtain ⟨yN, yC, yT⟩ := hy
  dsimp only at xN xC xT yN yC yT
  have HxN := Lib.hid xN
  have HxC := Lib.hid xC
  have HxT := Lib.hid xT
  have HyN := Lib.hid yN
  have HyC := Lib.hid yC
  have HyT := Lib.hid yT
  obtain ⟨A1, c1, rfl, a1, a2, _⟩ := xN
  obtain ⟨A2, c2, rfl, b1, b2, _⟩ := xC
  obtain ⟨A3, c3, rfl, d1, d2, _⟩ := xT
  obtain ⟨B1, e1, rfl, a3, a4, _⟩ := yN
  obtain ⟨B2, e2, rfl, b3, b4, _⟩ := yC
  obtain ⟨B3, e3, rfl, d3, d4, _⟩ := yT
  unfold wV
  dsimp only
  obtain ⟨w1, hw1⟩ : ∃ w1, w1 = (w.alloc (.cells #[.slice A1 nodes.length c1, .slice A2 clock.length c2, .slice A3 net.length c3] 26)).alloc (.cells #[.slice B1 nodes'.length e1, .slice B2 clock.length e2, .slice B3 net'.length e3] 26) := ⟨_, rfl⟩
  have hb1 : Below w.heap.size w w1 := by rw [hw1]; exact ((Below.refl _ _).alloc (Nat.le_refl _) _).alloc (by simp) _
  have BX := Lib.hid (show Blk w1 w.heap.size 26 #[.slice A1 nodes.length c1, .slice A2 clock.length c2, .slice A3 net.length c3] by rw [hw1]; exact (Blk.new _ _ _).alloc _)
  have BY := Lib.hid (show Blk w1 (w.heap.size + 1) 26 #[.slice B1 nodes'.length e1, .slice B2 clock.length e2, .slice B3 net'.length e3] by
    rw [hw1]
    have := Blk.new (w.alloc (.cells #[.slice A1 nodes.length c1, .slice A2 clock.length c2, .slice A3 net.length c3] 26)) 26 #[.slice B1 nodes'.length e1, .slice B2 clock.length e2, .slice B3 net'.length e3]
    simpa using this)
  have hNodes : eqF pN nodes nodes' = true := (eqF_map (f := fun x : Nx => flOf x.2) pN_iff nodes nodes').2 h1
  have hNet : eqF pM net net' = true := (eqF_map (f := msOf) pM_iff net net').2 h3
  have slof : ∀ {α : Type} {cells : α → List Value} {deep : α → Prop} {A : Option Addr} {n c : Nat} {l : List α} {W : World}, IsL W cells deep (.slice A n c) l → SlAt W A (l.flatMap cells) ∧ ∀ a ∈ l, deep a := fun h => by
    obtain ⟨A', c', e, _, _, k1, _, k2⟩ := h
    injection e with e _ _
    subst e
    exact ⟨k1, k2⟩
  have HC1 := Lib.hid (fun W (hb : Below w.heap.size w W) => equalFunc_nodes A1 B1 _ _ c1 e1 nodes nodes' 18 #[] pN W rfl rfl (by omega) (by omega) ((slof HxN.out).1.below hb) ((slof HyN.out).1.below hb) (enters_of Tryz.func18 (by kernel_rfl) rfl) (fun x hx y hy w' hb2 => sameFiles_any _ _ x.2 y.2 w' (((slof HxN.out).2 x hx).below hb |>.below hb2) (((slof HyN.out).2 y hy).below hb |>.below hb2)))
  have HC2 := Lib.hid (fun W (hb : Below w.heap.size w W) => equal_ints A2 B2 _ _ c2 e2 clock clock W rfl rfl (by omega) (by omega) (intC_at ((slof HxC.out).1.below hb)) (intC_at ((slof HyC.out).1.below hb)))
  have HC3 := Lib.hid (fun W (hb : Below w.heap.size w W) => equalFunc_msgs A3 B3 _ _ c3 e3 net net' 28 #[] pM W rfl rfl (by omega) (by omega) ((slof HxT.out).1.below hb) ((slof HyT.out).1.below hb) esame (fun x hx y hy w' hb2 => sameMs_any x y w' ((((slof HxT.out).2 x hx).below hb |>.below hb2).2) ((((slof HyT.out).2 y hy).below hb |>.below hb2).2)))
  rw [hNodes] at HC1
  rw [hNet] at HC3
  have HC2' : Hid (∀ W, Below w.heap.size w W → Calls _ _ _ W fun e w' => e = .returned (.bool true) ∧ ∃ d, w' = W.drewN d) := Lib.hid (fun W hb => by have := HC2.out W hb; rwa [decide_eq_true rfl] at this)
  have Hw1 := Lib.hid hw1.symm
  have Hb1 := Lib.hid hb1
  obtain ⟨n1, hn1⟩ : ∃ n, n = nodes.length := ⟨_, rfl⟩
  obtain ⟨n2, hn2⟩ : ∃ n, n = nodes'.length := ⟨_, rfl⟩
  obtain ⟨n3, hn3⟩ : ∃ n, n = clock.length := ⟨_, rfl⟩
  obtain ⟨n4, hn4⟩ : ∃ n, n = net.length := ⟨_, rfl⟩
  obtain ⟨n5, hn5⟩ : ∃ n, n = net'.length := ⟨_, rfl⟩
  rw [← hn1, ← hn2] at HC1
  rw [← hn3] at HC2'
  rw [← hn4, ← hn5] at HC3
  rw [← hn1, ← hn3, ← hn4] at BX
  rw [← hn2, ← hn3, ← hn5] at BY
  rw [← hn1, ← hn2, ← hn3, ← hn4, ← hn5] at Hw1 ⊢
  clear HC2 hw1 hb1 hNodes hNet slof a1 a2 b1 b2 d1 d2 a3 a4 b3 b4 d3 d4 hn1 hn2 hn3 hn4 hn5 HxN HxC HxT HyN HyC HyT h1 h3
  go_enter Tryz.func11, Tryz.ntmps11
  go_wp2_with fail
  rw [Hw1.out]
  refine (HC1.out _ Hb1.out).mono ?_
  rintro e w2 ⟨rfl, hb2⟩
  have Hb2 := Lib.hid (Hb1.out.trans (hb2.mono Hb1.out.size))
  have BX2 := Lib.hid (BX.out.below hb2 BX.out.lt)
  have BY2 := Lib.hid (BY.out.below hb2 BY.out.lt)
  obtain ⟨x0, x1, x2⟩ := blk3 BX2.out
  obtain ⟨y0, y1, y2⟩ := blk3 BY2.out
  clear hb2
  go_wp2_with fail
  refine (HC2'.out _ Hb2.out).mono ?_
  rintro e w3 ⟨rfl, d, hw3⟩
  have hb3 : Below w2.heap.size w2 w3 := by rw [hw3]; exact (Below.refl _ _).drewN' d
  have Hb3 := Lib.hid (Hb2.out.trans (hb3.mono Hb2.out.size))
  have BX3 := Lib.hid (BX2.out.below hb3 BX2.out.lt)
  have BY3 := Lib.hid (BY2.out.below hb3 BY2.out.lt)
  clear x0 x1 x2 y0 y1 y2 hw3 hb3
  obtain ⟨x0, x1, x2⟩ := blk3 BX3.out
  obtain ⟨y0, y1, y2⟩ := blk3 BY3.out
  go_wp2_with fail
  refine (HC3.out _ Hb3.out).mono ?_
  rintro e w4 ⟨rfl, hb4⟩
  have Hb4 := Lib.hid (Hb3.out.trans (hb4.mono Hb3.out.size))
  clear hb4
  go_wp2_with fail
  go_ret
  exact ⟨rfl, Hb4.out⟩
end Go.Proofs.YtdoegpklephelaaGreatDoor.Worlds
