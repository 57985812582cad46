/- reliquarylaw.WorldGrows: the walk. -/
import Derived.Test.YtdoegpklephelaaDoorWorldTop
import Derived.Test.YtdoegpklephelaaDoorSameFiles
import Derived.Test.YtdoegpklephelaaDoorMergeLaws
namespace Go.Proofs.YtdoegpklephelaaDoor.WorldGrows
open Go Go.RowKit Go.Proofs.YtdoegpklephelaaDoor Go.Proofs.YtdoegpklephelaaDoor.Name Go.Proofs.YtdoegpklephelaaDoor.Merge Go.Proofs.YtdoegpklephelaaDoor.Worlds
set_option linter.unusedVariables false

def Fs (w : World) (v : Value) (l : List Fl) : Prop := ∃ lx, IsFiles w v lx ∧ lx.map Prod.fst = l
/-- the same files -/
def sameL (a b : List Fl) : Bool := eqF sameF a b
theorem sameL_iff (a b : List Fl) : sameL a b = true ↔ a = b := by
  have := eqF_map (p := sameF) (f := id) sameF_iff a b
  rwa [List.map_id, List.map_id] at this
theorem sameL_self (a : List Fl) : sameL a a = true := (sameL_iff a a).2 rfl
theorem same_fs (v1 v2 : Value) (a b : List Fl) (w : World) (h1 : Fs w v1 a) (h2 : Fs w v2 b) :
    Calls Tryd.prog 14 #[v1, v2] w fun e w' => e = .returned (.bool (sameL a b)) ∧ Below w.heap.size w w' := by
  obtain ⟨x, k1, rfl⟩ := h1
  obtain ⟨y, k2, rfl⟩ := h2
  refine (sameFiles_any v1 v2 x y w k1 k2).mono ?_
  rintro e w' ⟨he, hb⟩
  refine ⟨?_, hb⟩
  rw [he]
  apply ret_bool
  rw [Bool.eq_iff_iff, sameFs_iff, sameL_iff]
/-- g stands for f, as it was or newer -/
def upB (f g : Fl) : Bool := decide (g.name = f.name) && decide (later f g ≤ 0)
theorem has_up {l : List Fx} {f : Fl} (h : Has (flOf l) f) : l.any (fun g => upB f g.1) = true := by
  obtain ⟨g, h1, h2⟩ := h
  have hm := lk_mem h1
  unfold flOf at hm
  obtain ⟨y, hy, rfl⟩ := List.mem_map.1 hm
  rw [List.any_eq_true]
  exact ⟨y, hy, by unfold upB; simp [lk_name h1, h2]⟩
/-- what a happening that is done leaves -/
structure Up (x y : Wx) (kd : Int) (K : Nat) : Prop where
  nodes : y.nodes.length = x.nodes.length
  clock : y.clock.length = x.nodes.length
  clock' : x.clock.length = x.nodes.length
  few : x.nodes.length ≤ 4
  ok : chkW y.wd = 0
  clk : ∀ i (h1 : i < x.clock.length) (h2 : i < y.clock.length), ¬ y.clock[i] < x.clock[i]
  has : ∀ i (h1 : i < x.nodes.length) (h2 : i < y.nodes.length), ∀ f ∈ x.nodes[i].2, y.nodes[i].2.any (fun g => upB f.1 g.1) = true
  one : ∀ i (h1 : i < x.nodes.length) (h2 : i < y.nodes.length), sameL (flOf x.nodes[i].2) (flOf y.nodes[i].2) = false → i = K ∧ (kd = 1 ∨ kd = 2 ∨ kd = 4)
theorem up_of {x y : Wx} {hp : Hp} {dd : Wd} (h : (0, dd) = doR x.wd hp) (hy : y.wd = dd) : ∃ K, Up x y hp.kind K := by
  have h0 : chkW x.wd = 0 := by
    apply Classical.byContradiction
    intro hc
    rw [do_1 hc] at h
    exact hc (Prod.mk.inj h).1.symm
  have hw := chkW_ok.1 h0
  have hs : stepR x.wd hp = (0, dd) := by rw [← do_2 h0]; exact h.symm
  obtain ⟨g1, g2, g3, g4, ⟨K, g5⟩, g6⟩ := grows hw hs
  have hd := step_ok (x := hp) hw (by rw [hs])
  rw [hs] at hd
  subst hy
  have n1 : y.nodes.length = x.nodes.length := by simpa [Wx.wd] using g1
  have c1 : y.clock.length = x.clock.length := g2
  have c2 : x.clock.length = x.nodes.length := by have := hw.clock; simpa [Wx.wd] using this
  have few : x.nodes.length ≤ 4 := by have := hw.few; simpa [Wx.wd] using this
  have e1 : ∀ (x : Wx) i (h1 : i < x.nodes.length), x.wd.nodes.getD i [] = flOf x.nodes[i].2 := by
    intro x i h1; simp [Wx.wd, List.getD_eq_getElem?_getD, h1]
  refine ⟨K, n1, c1.trans c2, c2, few, chkW_ok.2 hd, fun i h1 h2 => ?_, fun i h1 h2 f hf => ?_, fun i h1 h2 he => ?_⟩
  · have := g3 i
    rw [show x.wd.clock = x.clock from rfl, show y.wd.clock = y.clock from rfl] at this
    simp [List.getD_eq_getElem?_getD, h1, h2] at this
    omega
  · have := g4 i f.1 (by simpa [Wx.wd] using h1) (by rw [e1 x i h1]; exact List.mem_map_of_mem hf)
    rw [e1 y i h2] at this
    exact has_up this
  · constructor
    · apply Classical.byContradiction
      intro hne
      have := g5 i hne
      rw [e1 x i h1, e1 y i h2] at this
      rw [this, sameL_self] at he
      exact Bool.noConfusion he
    · apply Classical.byContradiction
      intro hk
      have : y.wd.nodes.getD i [] = x.wd.nodes.getD i [] := by rw [g6 hk]
      rw [e1 x i h1, e1 y i h2] at this
      rw [this, sameL_self] at he
      exact Bool.noConfusion he
set_option maxHeartbeats 400000 in
theorem gr1_any (x f : Fx) (gf : Nat) (w : World) (hg : Blk w gf 33 #[.string (strB f.1.name), slv f.2, .int .i64 f.1.stamp, .int .i64 f.1.node, .bool f.1.gone]) (hx : FileAt w x) (hf : FileAt w f) :
    Calls Tryd.prog 31 #[fV x, .pointer (some ⟨gf, 0, none⟩)] w fun e w' => e = .returned (.bool (upB f.1 x.1)) ∧ Below w.heap.size w w' := by
  have HN := Lib.hid (fun w' (hb : Below w.heap.size w w') => newer_any f x w' (hf.below hb) (hx.below hb))
  obtain ⟨z, hz⟩ : ∃ z, z = later f.1 x.1 := ⟨_, rfl⟩
  unfold upB
  rw [← hz] at HN ⊢
  clear hz hx hf
  obtain ⟨⟨n1, b1, s1, d1, g1⟩, A1, l1, c1⟩ := x
  obtain ⟨⟨n2, b2, s2, d2, g2⟩, A2, l2, c2⟩ := f
  unfold fV slv at HN
  unfold fV slv
  unfold slv at hg
  dsimp only at HN hg ⊢
  have h0 : w.cell? ⟨gf, 0, none⟩ = some (.string (strB n2)) := by rw [hg.cell]; rfl
  have h1 : w.cell? ⟨gf, 1, none⟩ = some (.slice A2 l2 c2) := by rw [hg.cell]; rfl
  have h2 : w.cell? ⟨gf, 2, none⟩ = some (.int .i64 s2) := by rw [hg.cell]; rfl
  have h3 : w.cell? ⟨gf, 3, none⟩ = some (.int .i64 d2) := by rw [hg.cell]; rfl
  have h4 : w.cell? ⟨gf, 4, none⟩ = some (.bool g2) := by rw [hg.cell]; rfl
  have hlt := hg.lt
  clear hg
  have Hb1 := Lib.hid (show Below w.heap.size w (w.alloc (.cells #[.string (strB n1), .slice A1 l1 c1, .int .i64 s1, .int .i64 d1, .bool g1] 33)) from (Below.refl _ _).alloc (Nat.le_refl _) _)
  by_cases hn : n1 = n2
  · subst hn
    go_enter Tryd.func31, Tryd.ntmps31
    go_wp2_with fail
    refine (HN.out _ Hb1.out).mono ?_
    rintro e w2 ⟨rfl, hb2⟩
    have Hb2 := Lib.hid (stepN Hb1.out hb2)
    clear hb2
    go_wp2_with fail
    go_ret
    exact ⟨ret_bool (by simp), Hb2.out⟩
  · have f1 : (n2 == n1) = false := by simp; exact fun h => hn h.symm
    have f1' : (n1 == n2) = false := by simp [hn]
    have f2 : decide (n1 = n2) = false := decide_eq_false hn
    rw [f2]
    clear hn f2
    go_enter Tryd.func31, Tryd.ntmps31
    go_wp2_with fail
    go_ret
    exact ⟨ret_bool (by simp), Hb1.out⟩
theorem egr1 : ∀ args w', (callFunc 31 args).run Tryd.prog w' = .ok (.enter 31 args) w' := enters_of Tryd.func31 (by kernel_rfl) rfl
set_option maxRecDepth 100000 in
set_option maxHeartbeats 4000000 in
theorem walk0 (W : World) (hml : ML W) (x : Wx) (hx : IsWorld W x) (h : Hx) (hh : HapAt W h) :
    Calls Tryd.prog 7 #[wV x, hV h] W fun e W' => e = .returned (.bool true) ∧ Below W.heap.size W W' := by
  have HX := Lib.hid hx
  have HML := Lib.hid hml
  have HDo : Hid (∀ w, Below W.heap.size W w → Calls _ _ _ w _) := Lib.hid (fun w hb => do_any x h w (hml.below hb) (hx.below hb) (hh.below hb))
  have HT : Hid (∀ w, Below W.heap.size W w → Calls _ _ _ w _) := Lib.hid (fun w hb => told_any w (hml.below hb))
  obtain ⟨⟨er, dd⟩, hr⟩ : ∃ p, p = doR x.wd h.1 := ⟨_, rfl⟩
  have Hr := Lib.hid hr
  rw [← hr] at HDo
  clear hr hh
  obtain ⟨⟨An, cn, hvn, _, _, xn3, _, xn5⟩, ⟨Ac, cc, hvc, _, _, xc3, _, _⟩, ⟨At, ct, hvt, _⟩⟩ := hx
  obtain ⟨nl, hnl⟩ : ∃ nl, nl = x.nodes.length := ⟨_, rfl⟩
  obtain ⟨cl, hcl⟩ : ∃ cl, cl = x.clock.length := ⟨_, rfl⟩
  obtain ⟨q, hq⟩ : ∃ q, q = x.net.length := ⟨_, rfl⟩
  rw [← hnl] at hvn
  rw [← hcl] at hvc
  rw [← hq] at hvt
  have hV0 : wV x = .agg #[.slice An nl cn, .slice Ac cl cc, .slice At q ct] := by unfold wV; rw [hvn, hvc, hvt]
  rw [hV0] at HDo ⊢
  obtain ⟨⟨kd, nd, to_, nm, bs⟩, Ab, nb, cb⟩ := h
  unfold hV slv at HDo
  unfold hV slv
  dsimp only at HDo Hr ⊢
  have HXn := Lib.hid xn3
  have HXd := Lib.hid xn5
  have HXc := Lib.hid xc3
  have Hnl := Lib.hid hnl
  have Hcl := Lib.hid hcl
  obtain ⟨w1, hw1⟩ : ∃ w1, w1 = (W.alloc (.cells #[.slice An nl cn, .slice Ac cl cc, .slice At q ct] 46)).alloc (.cells #[.int .i64 kd, .int .i64 nd, .int .i64 to_, .string (strB nm), .slice Ab nb cb] 48) := ⟨_, rfl⟩
  have hba : Below W.heap.size W (W.alloc (.cells #[.slice An nl cn, .slice Ac cl cc, .slice At q ct] 46)) := (Below.refl _ _).alloc (Nat.le_refl _) _
  have hb1 : Below W.heap.size W w1 := by rw [hw1]; exact hba.alloc hba.size _
  have HB1 := Lib.hid (show Blk w1 W.heap.size 46 #[.slice An nl cn, .slice Ac cl cc, .slice At q ct] by rw [hw1]; exact (Blk.new _ _ _).below ((Below.refl _ _).alloc (Nat.le_refl _) _) (Blk.new _ _ _).lt)
  have HH1 : Hid (Blk w1 (W.heap.size + 1) 48 #[.int .i64 kd, .int .i64 nd, .int .i64 to_, .string (strB nm), .slice Ab nb cb]) := Lib.hid (by
    have h := Blk.new (W.alloc (.cells #[.slice An nl cn, .slice Ac cl cc, .slice At q ct] 46)) 48 #[.int .i64 kd, .int .i64 nd, .int .i64 to_, .string (strB nm), .slice Ab nb cb]
    rw [show (W.alloc (.cells #[.slice An nl cn, .slice Ac cl cc, .slice At q ct] 46)).heap.size = W.heap.size + 1 by simp] at h
    rw [hw1]; exact h)
  have Hb1 := Lib.hid hb1
  have Hw1 := Lib.hid hw1.symm
  clear hml hvn hvc hvt hnl hcl hq hV0 hw1 hb1 hba xn3 xn5 xc3
  go_enter Tryd.func7, Tryd.ntmps7
  go_wp2_with fail
  rw [Hw1.out]
  refine (HDo.out _ Hb1.out).mono ?_
  rintro e w2 ⟨y, rfl, hyd, hydd, hb2⟩
  have Hydd := Lib.hid hydd
  have HY := Lib.hid hyd.isWorld
  obtain ⟨⟨Bn, dn, hyn, _, _, yn3, _, yn5⟩, ⟨Bc, dc, hyc, _, _, yc3, _, _⟩, ⟨Bt, dt, hyt, _⟩⟩ := hyd.isWorld
  obtain ⟨ny, hny⟩ : ∃ ny, ny = y.nodes.length := ⟨_, rfl⟩
  obtain ⟨cy, hcy⟩ : ∃ cy, cy = y.clock.length := ⟨_, rfl⟩
  obtain ⟨qy, hqy⟩ : ∃ qy, qy = y.net.length := ⟨_, rfl⟩
  rw [← hny] at hyn
  rw [← hcy] at hyc
  rw [← hqy] at hyt
  have hVy : wV y = .agg #[.slice Bn ny dn, .slice Bc cy dc, .slice Bt qy dt] := by unfold wV; rw [hyn, hyc, hyt]
  have HVy := Lib.hid hVy
  have HYn := Lib.hid yn3
  have HYd := Lib.hid yn5
  have HYc := Lib.hid yc3
  have Hny := Lib.hid hny
  have Hcy := Lib.hid hcy
  have Hb2 := Lib.hid (Hb1.out.trans (hb2.mono Hb1.out.size))
  have HB2 := Lib.hid (HB1.out.below hb2 HB1.out.lt)
  have HH2 := Lib.hid (HH1.out.below hb2 HH1.out.lt)
  obtain ⟨w3, hw3⟩ : ∃ w3, w3 = w2.alloc (.cells #[.slice Bn ny dn, .slice Bc cy dc, .slice Bt qy dt] 46) := ⟨_, rfl⟩
  obtain ⟨gv, hgv⟩ : ∃ gv, gv = w2.heap.size := ⟨_, rfl⟩
  have hb3 : Below w2.heap.size w2 w3 := by rw [hw3]; exact (Below.refl _ _).alloc (Nat.le_refl _) _
  have HV3 := Lib.hid (show Blk w3 gv 46 #[.slice Bn ny dn, .slice Bc cy dc, .slice Bt qy dt] by rw [hw3, hgv]; exact Blk.new _ _ _)
  have Hb3 := Lib.hid (Hb2.out.trans (hb3.mono Hb2.out.size))
  have HB3 := Lib.hid (HB2.out.below hb3 HB2.out.lt)
  have HH3 := Lib.hid (HH2.out.below hb3 HH2.out.lt)
  have Hb23 := Lib.hid hb3
  have Hw3 := Lib.hid hw3.symm
  have Hgv := Lib.hid hgv.symm
  rw [hVy]
  (try dsimp only)
  clear hyd hydd hb2 hyn hyc hyt hny hcy hqy hVy hw3 hgv hb3 HB1 HH1 Hw1 HDo yn3 yn5 yc3
  go_wp2_with fail
  rw [Hw3.out, Hgv.out]
  refine (HT.out _ Hb3.out).mono ?_
  rintro e w4 ⟨rfl, hb4⟩
  have Hb4 := Lib.hid (Hb3.out.trans (hb4.mono Hb3.out.size))
  have Hb24 := Lib.hid (Hb23.out.trans (hb4.mono Hb23.out.size))
  have HB4 := Lib.hid (HB3.out.below hb4 HB3.out.lt)
  have HH4 := Lib.hid (HH3.out.below hb4 HH3.out.lt)
  have HV4 := Lib.hid (HV3.out.below hb4 HV3.out.lt)
  clear hb4 HB2 HH2 HB3 HH3 HV3 Hw3 Hgv Hb23
  by_cases he : er = 0
  · subst he
    obtain ⟨K, hU⟩ := up_of Hr.out Hydd.out
    have HU := Lib.hid hU
    have hnn : nl = ny := by rw [Hnl.out, Hny.out, hU.nodes]
    have hcc : nl = cy := by rw [Hnl.out, Hcy.out, hU.clock]
    have hcl : nl = cl := by rw [Hnl.out, Hcl.out, hU.clock']
    have hn4 : nl ≤ 4 := by rw [Hnl.out]; exact hU.few
    subst hnn hcc hcl
    have HCk := Lib.hid (check_world y w4 (HML.out.below Hb4.out) (HY.out.below Hb24.out))
    rw [HVy.out, hU.ok] at HCk
    clear hU
    dsimp only at HU
    obtain ⟨x0, x1, x2⟩ := blk3 HB4.out
    obtain ⟨y0, y1, y2⟩ := blk3 HV4.out
    go_wp2_with fail
    refine (HCk.out).mono ?_
    rintro e w5 ⟨rfl, hb5⟩
    have Hb5 := Lib.hid (Hb4.out.trans (hb5.mono Hb4.out.size))
    have Hb25 := Lib.hid (Hb24.out.trans (hb5.mono Hb24.out.size))
    have HB5 := Lib.hid (HB4.out.below hb5 HB4.out.lt)
    have HH5 := Lib.hid (HH4.out.below hb5 HH4.out.lt)
    have HV5 := Lib.hid (HV4.out.below hb5 HV4.out.lt)
    clear hb5 x0 x1 x2 y0 y1 y2 HCk HB4 HH4 HV4
    obtain ⟨x0, x1, x2⟩ := blk3 HB5.out
    go_wp2_with fail
    go_loopw [49, 7] (fun vi ch wr => ∃ k c : Nat, k ≤ nl ∧ vi = .int .i64 (k : Int) ∧ ch = .int .i64 (c : Int) ∧ (c = 0 ∨ (c = 1 ∧ K < k ∧ (kd = 1 ∨ kd = 2 ∨ kd = 4))) ∧ Below w5.heap.size w5 wr) (fun vi _ _ => nl - (intOf vi).toNat)
    case atStart => exact ⟨0, 0, Nat.zero_le _, rfl, rfl, .inl rfl, Below.refl _ _⟩
    case round =>
      obtain ⟨k, c, hk, rfl, rfl, hc, hb⟩ := hrel
      obtain ⟨wo, rfl⟩ : ∃ wo, wo = wr := ⟨_, rfl⟩
      have Hc := Lib.hid hc
      have Hb := Lib.hid hb
      have HbW := Lib.hid (Hb5.out.trans (hb.mono Hb5.out.size))
      have Hb2r := Lib.hid (Hb25.out.trans (hb.mono Hb25.out.size))
      have HBr := Lib.hid (HB5.out.below hb HB5.out.lt)
      have HHr := Lib.hid (HH5.out.below hb HH5.out.lt)
      have HVr := Lib.hid (HV5.out.below hb HV5.out.lt)
      clear hc hb x0 x1 x2
      obtain ⟨x0, x1, x2⟩ := blk3 HBr.out
      obtain ⟨y0, y1, y2⟩ := blk3 HVr.out
      by_cases hlt : k < nl
      · have hkn : k < x.nodes.length := by rw [← Hnl.out]; exact hlt
        have hkc : k < x.clock.length := by rw [HU.out.clock']; exact hkn
        have hyn : k < y.nodes.length := by rw [HU.out.nodes]; exact hkn
        have hyc : k < y.clock.length := by rw [HU.out.clock]; exact hkn
        obtain ⟨b1, o1, rfl, nc⟩ := node_cell (HXn.out.below HbW.out) hkn
        obtain ⟨b2, o2, rfl, cc1⟩ := clock_cell (HXc.out.below HbW.out) hkc
        obtain ⟨b3, o3, rfl, nc2⟩ := node_cell (HYn.out.below Hb2r.out) hyn
        obtain ⟨b4, o4, rfl, cc2⟩ := clock_cell (HYc.out.below Hb2r.out) hyc
        have HND := Lib.hid ((HXd.out x.nodes[k] (List.getElem_mem hkn)).below HbW.out)
        have HND2 := Lib.hid ((HYd.out y.nodes[k] (List.getElem_mem hyn)).below Hb2r.out)
        have hclk := HU.out.clk k hkc hyc
        have HHas := Lib.hid (HU.out.has k hkn hyn)
        have HOne := Lib.hid (HU.out.one k hkn hyn)
        generalize x.nodes[k] = nd1 at *
        generalize y.nodes[k] = nd2 at *
        generalize x.clock[k] = k1 at *
        generalize y.clock[k] = k2 at *
        obtain ⟨⟨A', n', c'⟩, fl⟩ := nd1
        obtain ⟨⟨A2', n2', c2'⟩, fl2⟩ := nd2
        unfold NodeAt at HND HND2
        simp only [slv] at nc nc2 HND HND2
        dsimp only at HHas HOne
        have HSame : Hid (∀ w, Below wo.heap.size wo w → Calls _ _ _ w _) := Lib.hid (fun w hb => same_fs (.slice A' n' c') (.slice A2' n2' c2') (flOf fl) (flOf fl2) w ⟨fl, HND.out.below hb, rfl⟩ ⟨fl2, HND2.out.below hb, rfl⟩)
        obtain ⟨A'', c'', e0, f1, f2, f3, f4, f5⟩ := HND.out
        injection e0 with e1 e2 e3
        subst e1 e2 e3
        obtain ⟨A2'', c2'', e0', f1', f2', f3', f4', f5'⟩ := HND2.out
        injection e0' with e1' e2' e3'
        subst e1' e2' e3'
        have Hf3 := Lib.hid f3
        have Hf5 := Lib.hid f5
        have Hg3 := Lib.hid f3'
        have Hg5 := Lib.hid f5'
        have Hg2 := Lib.hid (show fl2.length ≤ maxLen by omega)
        have hm63 : fl.length ≤ 9223372036854775807 := by unfold maxLen at f2; omega
        obtain ⟨m, hm⟩ : ∃ m, m = fl.length := ⟨_, rfl⟩
        obtain ⟨m2, hm2⟩ : ∃ m, m = fl2.length := ⟨_, rfl⟩
        rw [← hm] at nc HSame hm63
        rw [← hm2] at nc2 HSame Hg2
        have Hm := Lib.hid hm
        have Hm2 := Lib.hid hm2
        obtain ⟨sv, hsv⟩ : ∃ sv, sv = sameL (flOf fl) (flOf fl2) := ⟨_, rfl⟩
        rw [← hsv] at HSame HOne
        clear f1 f2 f3 f4 f5 f1' f2' f3' f4' f5' hm hm2 HND HND2 hsv hkn hkc hyn hyc
        go_wp2_with fail
        go_quiet (fail)
        go_wp2_with fail
        have Hnc2 := Lib.hid nc2
        have hzv := HVr.out.lt
        have hz3 := block_lt_of_cell nc2
        simp only at hz3
        go_loopw [67] (fun vi wr => ∃ j : Nat, j ≤ m ∧ vi = .int .i64 (j : Int) ∧ Below wo.heap.size wo wr) (fun vi _ => m - (intOf vi).toNat)
        case atStart => exact ⟨0, Nat.zero_le _, rfl, (by first | exact Below.refl _ _ | exact below_drewN' (Below.refl _ _) _)⟩
        case round =>
          obtain ⟨j, hj, rfl, hbi⟩ := hrel
          have Hbi := Lib.hid hbi
          have nc2i := cell_below hbi Hnc2.out
          have HVi := Lib.hid (HVr.out.below hbi HVr.out.lt)
          have hsz := hbi.size
          clear hbi x0 x1 x2 y0 y1 y2 nc nc2 cc1 cc2
          obtain ⟨y0, y1, y2⟩ := blk3 HVi.out
          by_cases hjl : j < m
          · have hjf : j < fl.length := by rw [← Hm.out]; exact hjl
            obtain ⟨b5, o5, rfl, hc5⟩ := slat_elem (size := 5) fC_len (by omega) (Hf3.out.below Hbi.out) hjf
            have HFa := Lib.hid ((Hf5.out fl[j] (List.getElem_mem hjf)).below Hbi.out)
            have HAny := Lib.hid (HHas.out fl[j] (List.getElem_mem hjf))
            generalize fl[j] = f at *
            obtain ⟨⟨n1, bb1, s1, d1, gg1⟩, A1, l1, c1⟩ := f
            have p0 : wr.cell? ⟨b5, o5 + j * 5, none⟩ = some (.string (strB n1)) := hc5 0 _ rfl
            have p1 : wr.cell? ⟨b5, o5 + j * 5 + 1, none⟩ = some (.slice A1 l1 c1) := hc5 1 _ rfl
            have p2 : wr.cell? ⟨b5, o5 + j * 5 + 2, none⟩ = some (.int .i64 s1) := hc5 2 _ rfl
            have p3 : wr.cell? ⟨b5, o5 + j * 5 + 3, none⟩ = some (.int .i64 d1) := hc5 3 _ rfl
            have p4 : wr.cell? ⟨b5, o5 + j * 5 + 4, none⟩ = some (.bool gg1) := hc5 4 _ rfl
            obtain ⟨wj, hwj⟩ : ∃ wj, wj = wr.alloc (.cells #[.string (strB n1), .slice A1 l1 c1, .int .i64 s1, .int .i64 d1, .bool gg1] 33) := ⟨_, rfl⟩
            obtain ⟨gf, hgf⟩ : ∃ gf, gf = wr.heap.size := ⟨_, rfl⟩
            have hbj : Below wr.heap.size wr wj := by rw [hwj]; exact (Below.refl _ _).alloc (Nat.le_refl _) _
            have HFb := Lib.hid (show Blk wj gf 33 #[.string (strB n1), .slice A1 l1 c1, .int .i64 s1, .int .i64 d1, .bool gg1] by rw [hwj, hgf]; exact Blk.new _ _ _)
            have Hbj := Lib.hid (Hbi.out.trans (hbj.mono Hbi.out.size))
            have HC : Hid (Calls Tryd.prog 30 #[.slice A2' m2 c2', .func (.func 31) #[] #[.pointer (some ⟨gf, 0, none⟩)]] wj fun e w' => e = .returned (.bool true) ∧ Below wj.heap.size wj w') := Lib.hid (by
              have := containsFunc_files A2' m2 c2' fl2 31 #[.pointer (some ⟨gf, 0, none⟩)] (fun g => upB ⟨n1, bb1, s1, d1, gg1⟩ g.1) wj Hm2.out.symm Hg2.out (Hg3.out.below Hbj.out) egr1
                (fun g hg w'' hb => gr1_any g (⟨n1, bb1, s1, d1, gg1⟩, A1, l1, c1) gf w'' (HFb.out.below hb HFb.out.lt) ((Hg5.out g hg).below (Hbj.out.trans (hb.mono Hbj.out.size))) ((HFa.out.below hbj).below hb))
              rwa [HAny.out] at this)
            have Hwj := Lib.hid hwj.symm
            have Hgf := Lib.hid hgf.symm
            clear hbj hwj hgf hc5 HAny HFa
            have hzv' : gv < wr.heap.size := by omega
            have hz3' : b3 < wr.heap.size := by omega
            go_wp2_with fail
            rw [Hwj.out, Hgf.out]
            refine (HC.out).mono ?_
            rintro e wk ⟨rfl, hbk⟩
            have Hbk := Lib.hid (Hbj.out.trans (hbk.mono Hbj.out.size))
            clear hbk
            go_wp2_with fail
            go_roundw
            case rel => exact ⟨j + 1, by omega, by go_num, Hbk.out⟩
            case measure => simp [intOf]; omega
          · obtain rfl : j = m := by omega
            go_wp2_with fail
            refine (HSame.out _ Hbi.out).mono ?_
            rintro e wk ⟨rfl, hbk⟩
            have Hbk := Lib.hid (Hb.out.trans ((Hbi.out.trans (hbk.mono Hbi.out.size)).mono Hb.out.size))
            clear hbk
            cases sv with
            | true =>
              go_wp2_with fail
              go_roundw
              case rel => exact ⟨k + 1, c, by omega, by go_num, rfl, by rcases Hc.out with h | h; exact .inl h; exact .inr ⟨h.1, by omega, h.2.2⟩, Hbk.out⟩
              case measure => simp [intOf]; omega
            | false =>
              obtain ⟨hK, hkd⟩ := HOne.out rfl
              have hc0 : c = 0 := by rcases Hc.out with h | h; exact h; exact absurd h.2.1 (by omega)
              have Hkd := Lib.hid hkd
              clear hkd
              subst hc0
              go_wp2_with fail
              go_roundw
              case rel => exact ⟨k + 1, 1, by omega, by go_num, by go_num, .inr ⟨rfl, by omega, Hkd.out⟩, Hbk.out⟩
              case measure => simp [intOf]; omega
      · have h0 : wo.cell? ⟨W.heap.size + 1, 0, none⟩ = some (.int .i64 kd) := by rw [HHr.out.cell]; rfl
        clear x0 x1 x2 y0 y1 y2
        rcases Hc.out with rfl | ⟨rfl, _, rfl | rfl | rfl⟩
        all_goals
          go_wp2_with fail
          go_ret
          exact ⟨rfl, HbW.out⟩
  · have hz1 : (er != 0) = true := by simpa using he
    clear he
    go_wp2_with fail
    refine (HT.out _ Hb4.out).mono ?_
    rintro e w5 ⟨rfl, hb5⟩
    have Hb5 := Lib.hid (Hb4.out.trans (hb5.mono Hb4.out.size))
    clear hb5
    go_wp2_with fail
    go_ret
    exact ⟨rfl, Hb5.out⟩
theorem walk (W : World) (hml : ML W) (v : Value) (x : Wx) (hx : v = wV x ∧ IsWorld W x) (u : Value) (h : Hx) (hh : u = hV h ∧ HapAt W h) :
    Calls Tryd.prog 7 #[v, u] W fun e W' => e = .returned (.bool true) ∧ Below W.heap.size W W' := by
  obtain ⟨rfl, hx⟩ := hx
  obtain ⟨rfl, hh⟩ := hh
  exact walk0 W hml x hx h hh
end Go.Proofs.YtdoegpklephelaaDoor.WorldGrows
