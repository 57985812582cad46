/- package world: put. -/
import Derived.Test.YtdoegpklephelaaGreatDoorWorldSame5
namespace Go.Proofs.YtdoegpklephelaaGreatDoor.Worlds
open Go Go.RowKit Go.Proofs.YtdoegpklephelaaGreatDoor Go.Proofs.YtdoegpklephelaaGreatDoor.Name Go.Proofs.YtdoegpklephelaaGreatDoor.Merge
set_option linter.unusedVariables false

theorem wf_mk {x : Int} (h1 : 0 ≤ x) (h2 : x ≤ 1000000) : wfI x := by
  simp only [wfI, Lit.wf, IntKind.min, IntKind.max, IntKind.signed, IntKind.bits]
  simp; omega
/-- other blocks of worlds are as they were -/
def KR (w_ w : World) (gw : Nat) : Prop := ∀ gr cr, gr ≠ gw → Blk w_ gr 26 cr → Blk w gr 26 cr
theorem KR.step {w_ w w' : World} {gw : Nat} (h : KR w_ w gw) (hb : Below w.heap.size w w') : KR w_ w' gw := fun gr cr hn hk => (h gr cr hn hk).below hb (h gr cr hn hk).lt
theorem KR.start {w w' : World} {gw : Nat} (hb : Below w.heap.size w w') : KR w w' gw := fun gr cr hn hk => hk.below hb hk.lt
theorem KR.trans {w1 w2 w3 : World} {gw : Nat} (h : KR w1 w2 gw) (k : KR w2 w3 gw) : KR w1 w3 gw := fun gr cr hn hk => k gr cr hn (h gr cr hn hk)
theorem KR.self {w_ w : World} {gw : Nat} (h : KR w_ w gw) (i : Nat) (u : Value) : KR w_ (w.setCell ⟨gw, i, none⟩ u) gw := fun gr cr hn hk => (h gr cr hn hk).far (p := ⟨gw, i, none⟩) hn u
theorem KR.own {w_ w : World} {gw base size n c g : Nat} {e : TypeId} {xs : List Value} (h : KR w_ w gw) (ho : w.ownsRow base e size (.slice (some ⟨g, 0, none⟩) n c) n xs) (he : e ≠ 26) (i : Nat) (u : Value) : KR w_ (w.setCell ⟨g, i, none⟩ u) gw := fun gr cr hn hk =>
  (h gr cr hn hk).far (p := ⟨g, i, none⟩) (fun e1 => own_ne ho (h gr cr hn hk) he (by rw [e1]; rfl)) u
theorem KR.keeps {w_ w w' : World} {gw B : Nat} (h : KR w_ w gw) (hk : Keeps B [54] w w') : KR w_ w' gw := fun gr cr hn h1 => hk.blk (h gr cr hn h1) (by decide)
theorem KR.grown {w_ w w' : World} {gw base size n : Nat} {e : TypeId} {v : Value} {xs : List Value} (h : KR w_ w gw) (ho : w.ownsRow base e size v n xs) (he : e ≠ 26) (hg : w.grownBy w' v.ownBlock) : KR w_ w' gw := fun gr cr hn h1 =>
  (h gr cr hn h1).grown hg (own_ne ho (h gr cr hn h1) he)
def StepPost (w_ w0 : World) (gw : Nat) (r : Int × Wd) (e : Ending) (w' : World) : Prop :=
  e = .returned (.int .i64 r.1) ∧ Below w0.heap.size w0 w' ∧ (r.1 = 0 → ∃ y : Wx, y.wd = r.2 ∧ Blk w' gw 26 #[y.vn, y.vc, y.vt] ∧ OwnW w' w0.heap.size y) ∧ KR w_ w' gw
theorem StepPost.err {w_ w0 : World} {gw : Nat} {r : Int × Wd} {w' : World} {z : Int} (h : r = (z, .none_)) (hz : z ≠ 0) (hb : Below w0.heap.size w0 w') (hk : KR w_ w' gw) : StepPost w_ w0 gw r (.returned (.int .i64 z)) w' := by
  subst h; exact ⟨rfl, hb, fun h => absurd h hz, hk⟩
/-- what stands while a step is walked -/
structure St (w_ w0 w : World) (gw gx : Nat) (x : Wx) (h : Hx) : Prop where
  below : Below w0.heap.size w0 w
  bw : Blk w gw 26 #[x.vn, x.vc, x.vt]
  bx : Blk w gx 29 (hC h).toArray
  own : OwnW w w0.heap.size x
  kr : KR w_ w gw
theorem St.step {w_ w0 w w' : World} {gw gx : Nat} {x : Wx} {h : Hx} (s : St w_ w0 w gw gx x h) (hb : Below w.heap.size w w') : St w_ w0 w' gw gx x h :=
  ⟨s.below.trans (hb.mono s.below.size), s.bw.below hb s.bw.lt, s.bx.below hb s.bx.lt, s.own.below hb, s.kr.step hb⟩
theorem putR_cases (w : Wd) (x : Hp) (k : Nat) (c : Int) (l : List Fl) (hk : x.node = k) (hc : w.clock.getD k 0 = c) (hl : w.nodes.getD k [] = l) :
    (Name.nameE x.name ≠ 0 → putR w x = (Name.nameE x.name, .none_)) ∧
    (Name.nameE x.name = 0 → c = 1000000 → putR w x = (11, .none_)) ∧
    (Name.nameE x.name = 0 → c ≠ 1000000 → x.kind = 1 → 3000 < x.bytes.length → putR w x = (2, .none_)) ∧
    (Name.nameE x.name = 0 → c ≠ 1000000 → x.kind ≠ 1 → hasB l x.name = false → putR w x = (5, .none_)) ∧
    (Name.nameE x.name = 0 → c ≠ 1000000 → ¬ (x.kind = 1 ∧ 3000 < x.bytes.length) → ¬ (x.kind ≠ 1 ∧ hasB l x.name = false) → 12 < (bothL l [fileOf x c]).length → putR w x = (11, .none_)) ∧
    (Name.nameE x.name = 0 → c ≠ 1000000 → ¬ (x.kind = 1 ∧ 3000 < x.bytes.length) → ¬ (x.kind ≠ 1 ∧ hasB l x.name = false) → ¬ 12 < (bothL l [fileOf x c]).length → putR w x = (0, ⟨w.nodes.set k (bothL l [fileOf x c]), w.clock.set k (c + 1), w.net⟩)) := by
  unfold putR
  rw [hk, Int.toNat_natCast, hc, hl]
  refine ⟨fun h => by rw [if_pos h], fun h h2 => ?_, fun h h2 h3 h4 => ?_, fun h h2 h3 h4 => ?_, fun h h2 h3 h4 h5 => ?_, fun h h2 h3 h4 h5 => ?_⟩
  · rw [if_neg (by simpa using h), if_pos h2]
  · rw [if_neg (by simpa using h), if_neg h2, if_pos ⟨h3, h4⟩]
  · rw [if_neg (by simpa using h), if_neg h2, if_neg (fun g => h3 g.1), if_pos ⟨h3, h4⟩]
  · rw [if_neg (by simpa using h), if_neg h2, if_neg h3, if_neg h4, if_pos h5]
  · rw [if_neg (by simpa using h), if_neg h2, if_neg h3, if_neg h4, if_neg h5]
theorem happ_none {w : World} {h : Hx} (hh : HapAt w h) : h.2.1 = none → h.2.2.1 = 0 := fun e => by
  rw [hh.len]
  rcases Nat.eq_zero_or_pos h.1.bytes.length with g | g
  · exact g
  · obtain ⟨_, _, h7, _⟩ := hh.at_ (by simpa using g)
    rw [e] at h7; cases h7
set_option maxHeartbeats 1000000 in
theorem has1_any (x : Fx) (nm : List UInt8) (gx : Nat) (w : World) (v0 v1 v2 v4 : Value) (hg : Blk w gx 29 #[v0, v1, v2, .string (strB nm), v4]) :
    Calls Tryz.prog 58 #[fV x, .pointer (some ⟨gx, 0, none⟩)] w fun e w' => e = .returned (.bool (decide (x.1.name = nm) && !x.1.gone)) ∧ Below w.heap.size w w' := by
  obtain ⟨⟨n1, bs, st, nd, gn⟩, A, n, cp⟩ := x
  unfold fV slv
  dsimp only
  have h3 : w.cell? ⟨gx, 3, none⟩ = some (.string (strB nm)) := by rw [hg.cell]; rfl
  have hz := hg.lt
  clear hg
  by_cases hn : n1 = nm
  · subst hn
    go_enter Tryz.func58, Tryz.ntmps58
    go_wp2
    go_ret
    exact ⟨ret_bool (by simp), (Below.refl _ _).alloc (Nat.le_refl _) _⟩
  · have f1 : (n1 == nm) = false := by simp [hn]
    have f2 : decide (n1 = nm) = false := decide_eq_false hn
    rw [f2]
    clear hn f2
    go_enter Tryz.func58, Tryz.ntmps58
    go_wp2
    go_ret
    exact ⟨rfl, (Below.refl _ _).alloc (Nat.le_refl _) _⟩
theorem ehas1 : ∀ args w', (callFunc 58 args).run Tryz.prog w' = .ok (.enter 58 args) w' := enters_of Tryz.func58 (by kernel_rfl) rfl
theorem pcell {w : World} {g : Nat} {t : TypeId} {cs : Array Value} (h : Blk w g t cs) (i : Nat) (v : Value) (hv : cs[i]? = some v) : ∀ p : BelowBy w, p.w.cell? ⟨g, i, none⟩ = some v :=
  fun p => BelowBy.cell (show w.cell? ⟨g, i, none⟩ = some v by rw [h.cell]; exact hv) p
set_option maxRecDepth 100000 in
set_option maxHeartbeats 6000000 in
theorem putW_put (w0 w : World) (gw : Nat) (x : Wx) (h : Hx) (hml : ML w0) (hb : Below w0.heap.size w0 w) (hgw : w0.heap.size ≤ gw) (hB : Blk w gw 26 #[x.vn, x.vc, x.vt]) (hO : OwnW w w0.heap.size x) (hw : WOk x.wd) (hh : HapAt w0 h)
    (k : Nat) (hk : h.1.node = k) (hkn : k < x.nodes.length) (hkind : h.1.kind = 1) :
    Calls Tryz.prog 43 #[.pointer (some ⟨gw, 0, none⟩), hV h, .bool false] w (StepPost w w0 gw (putR x.wd h.1)) := by
  have hlen : x.clock.length = x.nodes.length := by have := hw.clock; simpa [Wx.wd] using this
  have hkc : k < x.clock.length := by omega
  have hfew : x.nodes.length ≤ 4 := by have := hw.few; simpa [Wx.wd] using this
  have hcD : x.wd.clock.getD k 0 = x.clock[k] := by simp [Wx.wd, List.getD_eq_getElem?_getD, hkc]
  have hlD : x.wd.nodes.getD k [] = flOf x.nodes[k].2 := by simp [Wx.wd, List.getD_eq_getElem?_getD, hkn]
  have hNd := hw.node k (flOf x.nodes[k].2) x.clock[k] (by simp [Wx.wd, hkn]) (by simp [Wx.wd, hkc])
  have hfo := fileOf_ok (w := x.wd) (x := h.1) (c := x.clock[k]) hw.few (by rw [hk]; omega) (by rw [hk]; simp only [Wx.wd, List.length_map]; omega) (by rw [hkind]; omega)
  obtain ⟨hR1, hR2, hR3, hR4, hR5, hR6⟩ := putR_cases x.wd h.1 k _ _ hk hcD hlD
  obtain ⟨R, hR⟩ : ∃ R, R = putR x.wd h.1 := ⟨_, rfl⟩
  rw [← hR] at hR1 hR2 hR3 hR4 hR5 hR6 ⊢
  have HR1 := Lib.hid hR1
  have HR2 := Lib.hid hR2
  have HR3 := Lib.hid hR3
  have HR4 := Lib.hid hR4
  have HR5 := Lib.hid hR5
  have HR6 := Lib.hid hR6
  have HNd := Lib.hid hNd
  have hc0 := hNd.2.1
  have hc1 := hNd.2.2.1
  have HFo := Lib.hid hfo
  have Hnode := Lib.hid (hO.node x.nodes[k] (List.getElem_mem hkn))
  obtain ⟨gn, cn, hvn, _, _, _, _⟩ := own_at hO.nodes (by omega)
  obtain ⟨gc, cc, hvc, _, _, _, _⟩ := own_at hO.clock (by omega)
  obtain ⟨At, ct, hvt, _⟩ := own_slat hO.net
  have HO := Lib.hid hO
  have hcellN := own_node (by have := hO.nodes; rw [hvn] at this; exact this) rfl hkn
  have hcellC := own_clock (by have := hO.clock; rw [hvc] at this; exact this) rfl hkc
  have hnw : gn ≠ gw := fun e => own_ne hO.nodes hB (by decide) (by rw [hvn, e]; rfl)
  have hcw : gc ≠ gw := fun e => own_ne hO.clock hB (by decide) (by rw [hvc, e]; rfl)
  have hno := happ_none hh
  have Hno := Lib.hid hno
  have HH := Lib.hid hh
  have HML := Lib.hid hml
  obtain ⟨x, hx⟩ : ∃ y, y = x := ⟨_, rfl⟩
  subst hx
  have B0 := Lib.hid hB
  have Hb0 := Lib.hid hb
  rw [hvn, hvc, hvt] at hB
  have Hvn := Lib.hid hvn
  have Hvc := Lib.hid hvc
  have Hvt := Lib.hid hvt
  obtain ⟨c, hcE⟩ : ∃ c, c = x.clock[k] := ⟨_, rfl⟩
  obtain ⟨nd, hnd⟩ : ∃ nd, nd = x.nodes[k] := ⟨_, rfl⟩
  rw [← hcE] at HR2 HR3 HR4 HR5 HR6 HNd hc0 hc1 HFo hcellC
  rw [← hnd] at HR4 HR5 HR6 HNd Hnode hcellN
  obtain ⟨n, hn⟩ : ∃ n, n = x.nodes.length := ⟨_, rfl⟩
  rw [hlen] at hB
  rw [← hn] at hB hkn hfew
  have Hn := Lib.hid hn
  obtain ⟨tl, htl⟩ : ∃ tl, tl = x.net.length := ⟨_, rfl⟩
  rw [← htl] at hB
  have Hlen := Lib.hid hlen
  have Hkc := Lib.hid hkc
  have HcE := Lib.hid (fun (h : k < x.clock.length) => hcE.symm)
  have Hmem := Lib.hid (show nd ∈ x.nodes by rw [hnd]; exact List.getElem_mem _)
  clear hvn hvc hvt hno hh hml hO hw hR hcD hlD hNd hfo hcE hnd hn htl hlen hb hR1 hR2 hR3 hR4 hR5 hR6
  obtain ⟨⟨A', n', c'⟩, fl⟩ := nd
  simp only [slv] at hcellN Hnode
  obtain ⟨⟨kind, node, to_, nm, bytes⟩, Ab, nb, cb⟩ := h
  dsimp only at hk hkind HR1 HR2 HR3 HR4 HR5 HR6 HFo Hno
  subst hk hkind
  have hnb : nb = bytes.length := HH.out.len
  unfold hV slv
  dsimp only
  obtain ⟨w1, hw1⟩ : ∃ w1, w1 = w.alloc (.cells #[.int .i64 1, .int .i64 (k : Int), .int .i64 to_, .string (strB nm), .slice Ab nb cb] 29) := ⟨_, rfl⟩
  obtain ⟨gx, hgx⟩ : ∃ gx, gx = w.heap.size := ⟨_, rfl⟩
  have hb1 : Below w.heap.size w w1 := by rw [hw1]; exact (Below.refl _ _).alloc (Nat.le_refl _) _
  have S1 := Lib.hid (show St w w0 w1 gw gx x (⟨1, (k : Int), to_, nm, bytes⟩, Ab, nb, cb) from ⟨Hb0.out.trans (hb1.mono Hb0.out.size), B0.out.below hb1 B0.out.lt, by rw [hw1, hgx]; exact Blk.new _ _ _, HO.out.below hb1, KR.start hb1⟩)
  have HB1 := Lib.hid (hB.below hb1 hB.lt)
  have HX1 := Lib.hid (show Blk w1 gx 29 #[.int .i64 1, .int .i64 (k : Int), .int .i64 to_, .string (strB nm), .slice Ab nb cb] by rw [hw1, hgx]; exact Blk.new _ _ _)
  have hN1 := cell_below hb1 hcellN
  have hC1 := cell_below hb1 hcellC
  have HN1 := Lib.hid hN1
  have HC1 := Lib.hid hC1
  have Hw1 := Lib.hid hw1.symm
  have Hgx := Lib.hid hgx.symm
  have hgxw : gx ≠ gw := by have := hB.lt; omega
  have hxn : gx ≠ gn := by have := block_lt_of_cell hcellN; simp only at this; omega
  have hxc : gx ≠ gc := by have := block_lt_of_cell hcellC; simp only at this; omega
  have Hnb := Lib.hid hnb
  have HCN := Lib.hid (checkN_any nm w1 HH.out.name (HML.out.below S1.out.below))
  have hbase : w0.heap.size ≤ gx := by have := Hb0.out.size; omega
  clear hB hcellN hcellC hw1 hgx hb1 hN1 hC1 hnb B0 Hb0 HO
  go_enter Tryz.func43, Tryz.ntmps43
  go_wp2_with fail
  rw [Hw1.out, Hgx.out]
  have x3 : w1.cell? ⟨gx, 3, none⟩ = some (.string (strB nm)) := by rw [HX1.out.cell]; rfl
  go_wp2_with fail
  refine (HCN.out).mono ?_
  rintro e w2 ⟨rfl, hb2⟩
  have S2 := Lib.hid (S1.out.step hb2)
  have HB2 := Lib.hid (HB1.out.below hb2 HB1.out.lt)
  have HX2 := Lib.hid (HX1.out.below hb2 HX1.out.lt)
  have HN2 := Lib.hid (cell_below hb2 HN1.out)
  have HC2 := Lib.hid (cell_below hb2 HC1.out)
  clear hb2 x3 HCN S1 HB1 HX1 HN1 HC1 Hw1 Hgx
  by_cases he : Name.nameE nm = 0
  · have HR2 := Lib.hid (HR2.out he)
    have HR3 := Lib.hid (HR3.out he)
    have HR4 := Lib.hid (HR4.out he)
    have HR5 := Lib.hid (HR5.out he)
    have HR6 := Lib.hid (HR6.out he)
    have HFo := Lib.hid (HFo.out he hc0)
    rw [he]
    clear HR1 he
    have p1 := pcell HB2.out 1 _ rfl
    have p2 := pcell HX2.out 1 _ rfl
    have p3 := fun p : BelowBy w2 => BelowBy.cell HC2.out p
    go_wp2_with fail
    refine wp_region_below (by kernel_rfl) (by kernel_rfl) ?_
    repeat (quiet_step (fail))
    refine wpQuiet_nil ?_
    intro w3 hq
    have hb3 : Below w2.heap.size w2 w3 := by obtain ⟨p, hp⟩ := hq; rw [hp]; exact p.h
    have S3 := Lib.hid (S2.out.step hb3)
    have HB3 := Lib.hid (HB2.out.below hb3 HB2.out.lt)
    have HX3 := Lib.hid (HX2.out.below hb3 HX2.out.lt)
    have HN3 := Lib.hid (cell_below hb3 HN2.out)
    have HC3 := Lib.hid (cell_below hb3 HC2.out)
    clear hq hb3 p1 p2 p3 S2 HB2 HX2 HN2 HC2
    by_cases hmx : c = 1000000
    · have HU := Lib.hid (HR2.out hmx)
      subst hmx
      go_wp2_with fail
      go_ret
      exact StepPost.err HU.out (by decide) S3.out.below S3.out.kr
    · have HR3 := Lib.hid (HR3.out hmx)
      have HR4 := Lib.hid (HR4.out hmx)
      have HR5 := Lib.hid (HR5.out hmx)
      have HR6 := Lib.hid (HR6.out hmx)
      have hcl : c < 1000000 := by omega
      have HFo := Lib.hid (HFo.out hcl)
      have hd : (c == 1000000) = false := by simpa using hmx
      have hd2 : decide (c = 1000000) = false := decide_eq_false hmx
      have hwr : IntKind.i64.wrap (c + 1) = c + 1 := IntWalk.i64_in _ (by omega)
      clear HR2
      go_wp2_with fail
      have HS : Hid (∀ W, Below w3.heap.size w3 W → W.cell? ⟨gx, 3, none⟩ = some (.string (strB nm)) ∧ W.cell? ⟨gw, 1, none⟩ = some (.slice (some ⟨gc, 0, none⟩) n cc) ∧ W.cell? ⟨gx, 1, none⟩ = some (.int .i64 (k : Int)) ∧ W.cell? ⟨gc, k, none⟩ = some (.int .i64 c)) := Lib.hid (fun W hb => ⟨by rw [(HX3.out.below hb HX3.out.lt).cell]; rfl, by rw [(HB3.out.below hb HB3.out.lt).cell]; rfl, by rw [(HX3.out.below hb HX3.out.lt).cell]; rfl, cell_below hb HC3.out⟩)
      go_region_held3 (fun W => W.cell? ⟨gx, 3, none⟩ = some (.string (strB nm)) ∧ W.cell? ⟨gw, 1, none⟩ = some (.slice (some ⟨gc, 0, none⟩) n cc) ∧ W.cell? ⟨gx, 1, none⟩ = some (.int .i64 (k : Int)) ∧ W.cell? ⟨gc, k, none⟩ = some (.int .i64 c)) (first | exact HS.out _ (Below.refl _ _).drew | exact HS.out _ ((Below.refl _ _).drew.alloc (Nat.le_refl _) _) | (refine HS.out _ ?_; repeat (first | exact Below.refl _ _ | apply Below.drew | refine Below.alloc ?_ (by simp) _ | refine Below.setCell ?_ (by simp) _))) ((fail))
      obtain ⟨w4, rfl⟩ : ∃ w4, w4 = w3 := ⟨_, rfl⟩
      have hb4 : Below w4.heap.size w4 w4 := Below.refl _ _
      have S4 := Lib.hid (S3.out.step hb4)
      have HB4 := Lib.hid (HB3.out.below hb4 HB3.out.lt)
      have HX4 := Lib.hid (HX3.out.below hb4 HX3.out.lt)
      have HN4 := Lib.hid (cell_below hb4 HN3.out)
      have HC4 := Lib.hid (cell_below hb4 HC3.out)
      clear hb4 hwr HS S3 HB3 HX3 HN3 HC3
      obtain ⟨w5, hw5⟩ : ∃ w5, w5 = (w4.alloc (.cells #[.string (strB nm), .slice none 0 0, .int .i64 (c + 1), .int .i64 (k : Int), .bool false] 49)).drew := ⟨_, rfl⟩
      obtain ⟨gf, hgf⟩ : ∃ gf, gf = w4.heap.size := ⟨_, rfl⟩
      have hb5 : Below w4.heap.size w4 w5 := by rw [hw5]; exact ((Below.refl _ _).alloc (Nat.le_refl _) _).drew
      have HF5 := Lib.hid (show Blk w5 gf 49 #[.string (strB nm), .slice none 0 0, .int .i64 (c + 1), .int .i64 (k : Int), .bool false] by rw [hw5, hgf]; exact Blk.new _ _ _)
      have Hb5 := Lib.hid hb5
      have Hgf4 : Hid (w4.heap.size ≤ gf) := Lib.hid (by omega)
      have Hw5 := Lib.hid hw5.symm
      have Hgf := Lib.hid hgf.symm
      have hfbase : w0.heap.size ≤ gf := by have := S4.out.below.size; omega
      clear hw5 hgf hb5
      have x4 : w4.cell? ⟨gx, 4, none⟩ = some (.slice Ab nb cb) := by rw [HX4.out.cell]; rfl
      have hz4 : gx < w4.heap.size := HX4.out.lt

      by_cases hbl : 3000 < bytes.length
      · have HU := Lib.hid (HR3.out (by simp) hbl)
        have hbl2 : (3000 : Int) < (nb : Int) := by have := Hnb.out; omega
        go_wp2_with fail
        go_ret
        exact StepPost.err HU.out (by decide) (by rw [Hw5.out]; exact (S4.out.step Hb5.out).below) (by rw [Hw5.out]; exact (S4.out.step Hb5.out).kr)
      · have hbl2 : ¬ (3000 : Int) < (nb : Int) := by have := Hnb.out; omega
        have hnb3 : nb ≤ 3000 := by have := Hnb.out; omega
        have HFo := Lib.hid (HFo.out (fun g => hbl g.2))
        have HR5 := Lib.hid (HR5.out (fun g => hbl g.2) (fun g => g.1 (by simp)))
        have HR6 := Lib.hid (HR6.out (fun g => hbl g.2) (fun g => g.1 (by simp)))
        have HCl := Lib.hid (CloneB.clone_any Ab nb cb (bytes.map u8v) w5 (by rw [List.length_map, Hnb.out]; omega) (HH.out.at_.below (S4.out.step Hb5.out).below) Hno.out (u8s_one bytes) (by unfold maxLen; omega) (by omega))
        clear HR3 HR4
        go_wp2_with fail
        rw [Hw5.out, Hgf.out]
        clear Hw5 Hgf x4 hz4
        refine (HCl.out).mono ?_
        rintro e w6 ⟨v6, rfl, ho6, hb6⟩
        obtain ⟨A6, c6, rfl, _⟩ := own_slat ho6
        have HF6 := Lib.hid (HF5.out.below hb6 HF5.out.lt)
        have g1 : w6.cell? ⟨gf, 1, none⟩ = some (.slice none 0 0) := by rw [HF6.out.cell]; rfl
        have g1f := HF6.out.frozen 1
        have HF7 := Lib.hid (HF6.out.set_ 1 (.slice A6 nb c6))
        have HFa7 := Lib.hid (show FileAt (w6.setCell ⟨gf, 1, none⟩ (.slice A6 nb c6)) (⟨nm, bytes, c + 1, (k : Int), false⟩, A6, nb, c6) from by
          have ho7 := ownsRow_setCell_other ho6 (a := ⟨gf, 1, none⟩) (own_ne ho6 HF6.out (by decide)) (.slice A6 nb c6)
          obtain ⟨A7, c7, e7, i1, i2, i3, _⟩ := own_slat ho7
          injection e7 with e71 e72 e73
          subst e71 e73
          exact ⟨Hnb.out, by have := Hnb.out; show bytes.length ≤ c6; omega, i2, i3, HH.out.name, show wfI (c + 1) from wf_mk (by omega) (by omega), HH.out.node⟩)
        have hb7 : Below w4.heap.size w4 (w6.setCell ⟨gf, 1, none⟩ (.slice A6 nb c6)) := (Hb5.out.trans (hb6.mono Hb5.out.size)).setCell (show w4.heap.size ≤ (⟨gf, 1, none⟩ : Addr).block from Hgf4.out) _
        obtain ⟨w7, hw7⟩ : ∃ w7, w7 = w6.setCell ⟨gf, 1, none⟩ (.slice A6 nb c6) := ⟨_, rfl⟩
        rw [← hw7] at HF7 HFa7 hb7
        have Hw7 := Lib.hid hw7.symm
        have HF7 := Lib.hid (show Blk w7 gf 49 #[.string (strB nm), .slice A6 nb c6, .int .i64 (c + 1), .int .i64 (k : Int), .bool false] from HF7.out)
        have HfE : Hid (fileOf ⟨1, (k : Int), to_, nm, bytes⟩ c = ⟨nm, bytes, c + 1, (k : Int), false⟩) := Lib.hid rfl
        have S7 := Lib.hid (S4.out.step hb7)
        have HB7 := Lib.hid (HB4.out.below hb7 HB4.out.lt)
        have HX7 := Lib.hid (HX4.out.below hb7 HX4.out.lt)
        have HN7 := Lib.hid (cell_below hb7 HN4.out)
        have HC7 := Lib.hid (cell_below hb7 HC4.out)
        clear ho6 hb6 hb7 hw7 HF6 HF5 S4 HB4 HX4 HN4 HC4 Hb5 HCl
        have q1 := pcell HB7.out 0 _ rfl
        have q2 := pcell HX7.out 1 _ rfl
        have q3 := fun p : BelowBy w7 => BelowBy.cell HN7.out p
        have t0 := pcell HF7.out 0 _ rfl
        have t1 := pcell HF7.out 1 _ rfl
        have t2 := pcell HF7.out 2 _ rfl
        have t3 := pcell HF7.out 3 _ rfl
        have t4 := pcell HF7.out 4 _ rfl
        go_wp2_with fail
        rw [Hw7.out]
        clear Hw7 g1 g1f
        have HS : Hid (∀ W, Below w7.heap.size w7 W → W.cell? ⟨gw, 0, none⟩ = some (.slice (some ⟨gn, 0, none⟩) n cn) ∧ W.cell? ⟨gx, 1, none⟩ = some (.int .i64 (k : Int)) ∧ W.cell? ⟨gn, k, none⟩ = some (.slice A' n' c') ∧ W.cell? ⟨gf, 0, none⟩ = some (.string (strB nm)) ∧ W.cell? ⟨gf, 1, none⟩ = some (.slice A6 nb c6) ∧ W.cell? ⟨gf, 2, none⟩ = some (.int .i64 (c + 1)) ∧ W.cell? ⟨gf, 3, none⟩ = some (.int .i64 (k : Int)) ∧ W.cell? ⟨gf, 4, none⟩ = some (.bool false)) := Lib.hid (fun W hb => ⟨by rw [(HB7.out.below hb HB7.out.lt).cell]; rfl, by rw [(HX7.out.below hb HX7.out.lt).cell]; rfl, cell_below hb HN7.out, by rw [(HF7.out.below hb HF7.out.lt).cell]; rfl, by rw [(HF7.out.below hb HF7.out.lt).cell]; rfl, by rw [(HF7.out.below hb HF7.out.lt).cell]; rfl, by rw [(HF7.out.below hb HF7.out.lt).cell]; rfl, by rw [(HF7.out.below hb HF7.out.lt).cell]; rfl⟩)
        have HPut := Lib.hid (fun W (hb : Below w7.heap.size w7 W) => put_any (.slice A' n' c') fl (⟨nm, bytes, c + 1, (k : Int), false⟩, A6, nb, c6) W (HML.out.below (S7.out.step hb).below) (((S7.out.step hb).own.node _ Hmem.out).files) (HFa7.out.below hb))
        simp only [fV, slv] at HPut
        go_region_held3 (fun W => W.cell? ⟨gw, 0, none⟩ = some (.slice (some ⟨gn, 0, none⟩) n cn) ∧ W.cell? ⟨gx, 1, none⟩ = some (.int .i64 (k : Int)) ∧ W.cell? ⟨gn, k, none⟩ = some (.slice A' n' c') ∧ W.cell? ⟨gf, 0, none⟩ = some (.string (strB nm)) ∧ W.cell? ⟨gf, 1, none⟩ = some (.slice A6 nb c6) ∧ W.cell? ⟨gf, 2, none⟩ = some (.int .i64 (c + 1)) ∧ W.cell? ⟨gf, 3, none⟩ = some (.int .i64 (k : Int)) ∧ W.cell? ⟨gf, 4, none⟩ = some (.bool false)) (first | exact HS.out _ (Below.refl _ _).drew | exact HS.out _ Hb9.out) ((first
          | (go_at_call 59
             refine (HPut.out _ (Below.refl _ _).drew).mono ?_
             rintro e w9 ⟨v9, l9, rfl, ho9, hl9, hb9⟩
             have Hb9 := Lib.hid ((Below.refl w7.heap.size w7).drew.trans hb9)
             have Ho9 := Lib.hid ho9
             have Hl9 := Lib.hid hl9
             clear ho9 hl9 hb9)))
        have S9 := Lib.hid (S7.out.step Hb9.out)
        have HB9 := Lib.hid (HB7.out.below Hb9.out HB7.out.lt)
        have HX9 := Lib.hid (HX7.out.below Hb9.out HX7.out.lt)
        have HN9 := Lib.hid (cell_below Hb9.out HN7.out)
        have HC9 := Lib.hid (cell_below Hb9.out HC7.out)
        have Ho9 := Lib.hid (Ho9.out.base_ (show w0.heap.size ≤ w7.heap.size from S7.out.below.size))
        clear q1 q2 q3 t0 t1 t2 t3 t4 S7 HB7 HX7 HN7 HC7 HF7 HFa7 HPut HS
        rw [HfE.out] at HR5 HR6 HFo
        rw [show fl.map Prod.fst = flOf fl from rfl] at Hl9 ⊢
        by_cases h12 : 12 < (bothL (flOf fl) [(⟨nm, bytes, c + 1, (k : Int), false⟩ : Fl)]).length
        · have HU := Lib.hid (HR5.out h12)
          rw [bothR_3 HNd.out.1 (chk_one HFo.out) h12]
          clear h12
          go_wp2_with fail
          go_ret
          exact StepPost.err HU.out (by decide) S9.out.below S9.out.kr
        · have HU := Lib.hid (HR6.out h12)
          have hbr := bothR_of HNd.out.1 (chk_one HFo.out) (show (bothL (flOf fl) [(⟨nm, bytes, c + 1, (k : Int), false⟩ : Fl)]).length ≤ 12 by omega)
          rw [hbr] at Hl9 ⊢
          obtain ⟨A9, c9, rfl⟩ : ∃ A c, v9 = .slice A l9.length c := by obtain ⟨A, c, h, _⟩ := own_slat Ho9.out.row; exact ⟨A, c, h⟩
          obtain ⟨ln9, hln9⟩ : ∃ ln, ln = l9.length := ⟨_, rfl⟩
          rw [← hln9] at Ho9 ⊢
          clear h12 hbr hln9 HR5 HR6
          have q1 := pcell HB9.out 0 _ rfl
          have q2 := pcell HX9.out 1 _ rfl
          go_wp2_with fail
          refine wp_region_below_tail 8 (by kernel_rfl) (by kernel_rfl) ?_
          simp only [List.take_succ_cons, List.take_zero, List.drop_succ_cons, List.drop_zero]
          repeat (quiet_step (fail))
          refine wpQuiet_nil ?_
          intro w10 hq
          have hb10 : Below w9.heap.size w9 w10 := by obtain ⟨p, hp⟩ := hq; rw [hp]; exact p.h
          have S10 := Lib.hid (S9.out.step hb10)
          have HB10 := Lib.hid (HB9.out.below hb10 HB9.out.lt)
          have HX10 := Lib.hid (HX9.out.below hb10 HX9.out.lt)
          have hN10 := cell_below hb10 HN9.out
          have Ho10 := Lib.hid (show OwnFs w10 w0.heap.size (slv (A9, ln9, c9)) l9 from Ho9.out.below hb10)
          have hf10 : w10.frozen? ⟨gn, k, none⟩ = false := by have := S10.out.own.nodes; rw [Hvn.out] at this; exact this.frozenAt _
          have S11 : Hid (St w w0 (w10.setCell ⟨gn, k, none⟩ (.slice A9 ln9 c9)) gw gx { x with nodes := x.nodes.set k ((A9, ln9, c9), l9) } (⟨1, (k : Int), to_, nm, bytes⟩, Ab, nb, cb)) := Lib.hid
            ⟨S10.out.below.setCell (show w0.heap.size ≤ (⟨gn, k, none⟩ : Addr).block from by have := S10.out.own.nodes; rw [Hvn.out] at this; exact (own_blk this).1) _,
              S10.out.bw.far (p := ⟨gn, k, none⟩) (Ne.symm hnw) _, S10.out.bx.far (p := ⟨gn, k, none⟩) hxn _, OwnW.setNode S10.out.own Hvn.out rfl (A9, ln9, c9) l9 Ho10.out, S10.out.kr.own (by have := S10.out.own.nodes; rw [Hvn.out] at this; exact this) (by decide) _ _⟩
          have HB11 := Lib.hid (HB10.out.far (p := ⟨gn, k, none⟩) (Ne.symm hnw) (.slice A9 ln9 c9))
          have HX11 := Lib.hid (HX10.out.far (p := ⟨gn, k, none⟩) hxn (.slice A9 ln9 c9))
          have HC11 : Hid ((w10.setCell ⟨gn, k, none⟩ (.slice A9 ln9 c9)).cell? ⟨gc, k, none⟩ = some (.int .i64 c)) := Lib.hid (by
            have h1 := S11.out.own.clock
            dsimp only at h1
            rw [Hvc.out] at h1
            have := own_clock h1 rfl Hkc.out
            rw [this, HcE.out Hkc.out])
          obtain ⟨w11, hw11⟩ : ∃ w11, w11 = w10.setCell ⟨gn, k, none⟩ (.slice A9 ln9 c9) := ⟨_, rfl⟩
          rw [← hw11] at S11 HB11 HX11 HC11
          have Hw11 := Lib.hid hw11.symm
          clear hq hb10 q1 q2 S9 HB9 HX9 HN9 HC9 S10 HB10 HX10 Ho9 Ho10 hw11
          go_wp2_with fail
          rw [Hw11.out]
          clear Hw11 hN10 hf10
          have hwr : IntKind.i64.wrap (c + 1) = c + 1 := IntWalk.i64_in _ (by omega)
          have q1 := pcell HB11.out 1 _ rfl
          have q2 := pcell HX11.out 1 _ rfl
          have q3 := fun p : BelowBy w11 => BelowBy.cell HC11.out p
          refine wp_region_below_tail 10 (by kernel_rfl) (by kernel_rfl) ?_
          simp only [List.take_succ_cons, List.take_zero, List.drop_succ_cons, List.drop_zero]
          repeat (quiet_step (fail))
          refine wpQuiet_nil ?_
          intro w12 hq
          have hb12 : Below w11.heap.size w11 w12 := by obtain ⟨p, hp⟩ := hq; rw [hp]; exact p.h
          have S12 := Lib.hid (S11.out.step hb12)
          have hC12 := cell_below hb12 HC11.out
          have hf12 : w12.frozen? ⟨gc, k, none⟩ = false := by have := S12.out.own.clock; dsimp only at this; rw [Hvc.out] at this; exact this.frozenAt _
          have Hb13 := Lib.hid (S12.out.below.setCell (show w0.heap.size ≤ (⟨gc, k, none⟩ : Addr).block from by have := S12.out.own.clock; dsimp only at this; rw [Hvc.out] at this; exact (own_blk this).1) (.int .i64 (c + 1)))
          have Hw13 := Lib.hid (S12.out.bw.far (p := ⟨gc, k, none⟩) (Ne.symm hcw) (.int .i64 (c + 1)))
          have Ho13 := Lib.hid (OwnW.setClock (k := k) S12.out.own Hvc.out rfl (c + 1) (show wfI (c + 1) from wf_mk (by omega) (by omega)))
          have Hk13 := Lib.hid (S12.out.kr.own (by have := S12.out.own.clock; dsimp only at this; rw [Hvc.out] at this; exact this) (by decide) k (.int .i64 (c + 1)))
          clear hq hb12 q1 q2 q3 hwr S11 HB11 HX11 HC11 S12
          go_wp2_with fail
          go_ret
          rw [HU.out]
          refine ⟨rfl, Hb13.out, fun _ => ⟨{ x with nodes := x.nodes.set k ((A9, ln9, c9), l9), clock := x.clock.set k (c + 1) }, ?_, Hw13.out, Ho13.out⟩, Hk13.out⟩
          simp only [Wx.wd, List.map_set]
          rw [show flOf l9 = l9.map Prod.fst from rfl, Hl9.out]
  · have HU := Lib.hid (HR1.out he)
    generalize Name.nameE nm = z at *
    have hz1 : (z != 0) = true := by simpa using he
    clear HR2 HR3 HR4 HR5 HR6 HFo
    go_wp2_with fail
    go_ret
    exact StepPost.err HU.out he S2.out.below S2.out.kr

set_option maxRecDepth 100000 in
set_option maxHeartbeats 6000000 in
theorem putW_take (w0 w : World) (gw : Nat) (x : Wx) (h : Hx) (hml : ML w0) (hb : Below w0.heap.size w0 w) (hgw : w0.heap.size ≤ gw) (hB : Blk w gw 26 #[x.vn, x.vc, x.vt]) (hO : OwnW w w0.heap.size x) (hw : WOk x.wd) (hh : HapAt w0 h)
    (k : Nat) (hk : h.1.node = k) (hkn : k < x.nodes.length) (hkind : h.1.kind = 2) :
    Calls Tryz.prog 43 #[.pointer (some ⟨gw, 0, none⟩), hV h, .bool true] w (StepPost w w0 gw (putR x.wd h.1)) := by
  have hlen : x.clock.length = x.nodes.length := by have := hw.clock; simpa [Wx.wd] using this
  have hkc : k < x.clock.length := by omega
  have hfew : x.nodes.length ≤ 4 := by have := hw.few; simpa [Wx.wd] using this
  have hcD : x.wd.clock.getD k 0 = x.clock[k] := by simp [Wx.wd, List.getD_eq_getElem?_getD, hkc]
  have hlD : x.wd.nodes.getD k [] = flOf x.nodes[k].2 := by simp [Wx.wd, List.getD_eq_getElem?_getD, hkn]
  have hNd := hw.node k (flOf x.nodes[k].2) x.clock[k] (by simp [Wx.wd, hkn]) (by simp [Wx.wd, hkc])
  have hfo := fileOf_ok (w := x.wd) (x := h.1) (c := x.clock[k]) hw.few (by rw [hk]; omega) (by rw [hk]; simp only [Wx.wd, List.length_map]; omega) (by rw [hkind]; omega)
  obtain ⟨hR1, hR2, hR3, hR4, hR5, hR6⟩ := putR_cases x.wd h.1 k _ _ hk hcD hlD
  obtain ⟨R, hR⟩ : ∃ R, R = putR x.wd h.1 := ⟨_, rfl⟩
  rw [← hR] at hR1 hR2 hR3 hR4 hR5 hR6 ⊢
  have HR1 := Lib.hid hR1
  have HR2 := Lib.hid hR2
  have HR3 := Lib.hid hR3
  have HR4 := Lib.hid hR4
  have HR5 := Lib.hid hR5
  have HR6 := Lib.hid hR6
  have HNd := Lib.hid hNd
  have hc0 := hNd.2.1
  have hc1 := hNd.2.2.1
  have HFo := Lib.hid hfo
  have Hnode := Lib.hid (hO.node x.nodes[k] (List.getElem_mem hkn))
  obtain ⟨gn, cn, hvn, _, _, _, _⟩ := own_at hO.nodes (by omega)
  obtain ⟨gc, cc, hvc, _, _, _, _⟩ := own_at hO.clock (by omega)
  obtain ⟨At, ct, hvt, _⟩ := own_slat hO.net
  have HO := Lib.hid hO
  have hcellN := own_node (by have := hO.nodes; rw [hvn] at this; exact this) rfl hkn
  have hcellC := own_clock (by have := hO.clock; rw [hvc] at this; exact this) rfl hkc
  have hnw : gn ≠ gw := fun e => own_ne hO.nodes hB (by decide) (by rw [hvn, e]; rfl)
  have hcw : gc ≠ gw := fun e => own_ne hO.clock hB (by decide) (by rw [hvc, e]; rfl)
  have hno := happ_none hh
  have Hno := Lib.hid hno
  have HH := Lib.hid hh
  have HML := Lib.hid hml
  obtain ⟨x, hx⟩ : ∃ y, y = x := ⟨_, rfl⟩
  subst hx
  have B0 := Lib.hid hB
  have Hb0 := Lib.hid hb
  rw [hvn, hvc, hvt] at hB
  have Hvn := Lib.hid hvn
  have Hvc := Lib.hid hvc
  have Hvt := Lib.hid hvt
  obtain ⟨c, hcE⟩ : ∃ c, c = x.clock[k] := ⟨_, rfl⟩
  obtain ⟨nd, hnd⟩ : ∃ nd, nd = x.nodes[k] := ⟨_, rfl⟩
  rw [← hcE] at HR2 HR3 HR4 HR5 HR6 HNd hc0 hc1 HFo hcellC
  rw [← hnd] at HR4 HR5 HR6 HNd Hnode hcellN
  obtain ⟨n, hn⟩ : ∃ n, n = x.nodes.length := ⟨_, rfl⟩
  rw [hlen] at hB
  rw [← hn] at hB hkn hfew
  have Hn := Lib.hid hn
  obtain ⟨tl, htl⟩ : ∃ tl, tl = x.net.length := ⟨_, rfl⟩
  rw [← htl] at hB
  have Hlen := Lib.hid hlen
  have Hkc := Lib.hid hkc
  have HcE := Lib.hid (fun (h : k < x.clock.length) => hcE.symm)
  have Hmem := Lib.hid (show nd ∈ x.nodes by rw [hnd]; exact List.getElem_mem _)
  clear hvn hvc hvt hno hh hml hO hw hR hcD hlD hNd hfo hcE hnd hn htl hlen hb hR1 hR2 hR3 hR4 hR5 hR6
  obtain ⟨⟨A', n', c'⟩, fl⟩ := nd
  simp only [slv] at hcellN Hnode
  obtain ⟨⟨kind, node, to_, nm, bytes⟩, Ab, nb, cb⟩ := h
  dsimp only at hk hkind HR1 HR2 HR3 HR4 HR5 HR6 HFo Hno
  subst hk hkind
  have hnb : nb = bytes.length := HH.out.len
  unfold hV slv
  dsimp only
  obtain ⟨w1, hw1⟩ : ∃ w1, w1 = w.alloc (.cells #[.int .i64 2, .int .i64 (k : Int), .int .i64 to_, .string (strB nm), .slice Ab nb cb] 29) := ⟨_, rfl⟩
  obtain ⟨gx, hgx⟩ : ∃ gx, gx = w.heap.size := ⟨_, rfl⟩
  have hb1 : Below w.heap.size w w1 := by rw [hw1]; exact (Below.refl _ _).alloc (Nat.le_refl _) _
  have S1 := Lib.hid (show St w w0 w1 gw gx x (⟨2, (k : Int), to_, nm, bytes⟩, Ab, nb, cb) from ⟨Hb0.out.trans (hb1.mono Hb0.out.size), B0.out.below hb1 B0.out.lt, by rw [hw1, hgx]; exact Blk.new _ _ _, HO.out.below hb1, KR.start hb1⟩)
  have HB1 := Lib.hid (hB.below hb1 hB.lt)
  have HX1 := Lib.hid (show Blk w1 gx 29 #[.int .i64 2, .int .i64 (k : Int), .int .i64 to_, .string (strB nm), .slice Ab nb cb] by rw [hw1, hgx]; exact Blk.new _ _ _)
  have hN1 := cell_below hb1 hcellN
  have hC1 := cell_below hb1 hcellC
  have HN1 := Lib.hid hN1
  have HC1 := Lib.hid hC1
  have Hw1 := Lib.hid hw1.symm
  have Hgx := Lib.hid hgx.symm
  have hgxw : gx ≠ gw := by have := hB.lt; omega
  have hxn : gx ≠ gn := by have := block_lt_of_cell hcellN; simp only at this; omega
  have hxc : gx ≠ gc := by have := block_lt_of_cell hcellC; simp only at this; omega
  have Hnb := Lib.hid hnb
  have HCN := Lib.hid (checkN_any nm w1 HH.out.name (HML.out.below S1.out.below))
  have hbase : w0.heap.size ≤ gx := by have := Hb0.out.size; omega
  clear hB hcellN hcellC hw1 hgx hb1 hN1 hC1 hnb B0 Hb0 HO
  go_enter Tryz.func43, Tryz.ntmps43
  go_wp2_with fail
  rw [Hw1.out, Hgx.out]
  have x3 : w1.cell? ⟨gx, 3, none⟩ = some (.string (strB nm)) := by rw [HX1.out.cell]; rfl
  go_wp2_with fail
  refine (HCN.out).mono ?_
  rintro e w2 ⟨rfl, hb2⟩
  have S2 := Lib.hid (S1.out.step hb2)
  have HB2 := Lib.hid (HB1.out.below hb2 HB1.out.lt)
  have HX2 := Lib.hid (HX1.out.below hb2 HX1.out.lt)
  have HN2 := Lib.hid (cell_below hb2 HN1.out)
  have HC2 := Lib.hid (cell_below hb2 HC1.out)
  clear hb2 x3 HCN S1 HB1 HX1 HN1 HC1 Hw1 Hgx
  by_cases he : Name.nameE nm = 0
  · have HR2 := Lib.hid (HR2.out he)
    have HR3 := Lib.hid (HR3.out he)
    have HR4 := Lib.hid (HR4.out he)
    have HR5 := Lib.hid (HR5.out he)
    have HR6 := Lib.hid (HR6.out he)
    have HFo := Lib.hid (HFo.out he hc0)
    rw [he]
    clear HR1 he
    have p1 := pcell HB2.out 1 _ rfl
    have p2 := pcell HX2.out 1 _ rfl
    have p3 := fun p : BelowBy w2 => BelowBy.cell HC2.out p
    go_wp2_with fail
    refine wp_region_below (by kernel_rfl) (by kernel_rfl) ?_
    repeat (quiet_step (fail))
    refine wpQuiet_nil ?_
    intro w3 hq
    have hb3 : Below w2.heap.size w2 w3 := by obtain ⟨p, hp⟩ := hq; rw [hp]; exact p.h
    have S3 := Lib.hid (S2.out.step hb3)
    have HB3 := Lib.hid (HB2.out.below hb3 HB2.out.lt)
    have HX3 := Lib.hid (HX2.out.below hb3 HX2.out.lt)
    have HN3 := Lib.hid (cell_below hb3 HN2.out)
    have HC3 := Lib.hid (cell_below hb3 HC2.out)
    clear hq hb3 p1 p2 p3 S2 HB2 HX2 HN2 HC2
    by_cases hmx : c = 1000000
    · have HU := Lib.hid (HR2.out hmx)
      subst hmx
      go_wp2_with fail
      go_ret
      exact StepPost.err HU.out (by decide) S3.out.below S3.out.kr
    · have HR3 := Lib.hid (HR3.out hmx)
      have HR4 := Lib.hid (HR4.out hmx)
      have HR5 := Lib.hid (HR5.out hmx)
      have HR6 := Lib.hid (HR6.out hmx)
      have hcl : c < 1000000 := by omega
      have HFo := Lib.hid (HFo.out hcl)
      have hd : (c == 1000000) = false := by simpa using hmx
      have hd2 : decide (c = 1000000) = false := decide_eq_false hmx
      have hwr : IntKind.i64.wrap (c + 1) = c + 1 := IntWalk.i64_in _ (by omega)
      clear HR2
      go_wp2_with fail
      have HS : Hid (∀ W, Below w3.heap.size w3 W → W.cell? ⟨gx, 3, none⟩ = some (.string (strB nm)) ∧ W.cell? ⟨gw, 1, none⟩ = some (.slice (some ⟨gc, 0, none⟩) n cc) ∧ W.cell? ⟨gx, 1, none⟩ = some (.int .i64 (k : Int)) ∧ W.cell? ⟨gc, k, none⟩ = some (.int .i64 c)) := Lib.hid (fun W hb => ⟨by rw [(HX3.out.below hb HX3.out.lt).cell]; rfl, by rw [(HB3.out.below hb HB3.out.lt).cell]; rfl, by rw [(HX3.out.below hb HX3.out.lt).cell]; rfl, cell_below hb HC3.out⟩)
      go_region_held3 (fun W => W.cell? ⟨gx, 3, none⟩ = some (.string (strB nm)) ∧ W.cell? ⟨gw, 1, none⟩ = some (.slice (some ⟨gc, 0, none⟩) n cc) ∧ W.cell? ⟨gx, 1, none⟩ = some (.int .i64 (k : Int)) ∧ W.cell? ⟨gc, k, none⟩ = some (.int .i64 c)) (first | exact HS.out _ (Below.refl _ _).drew | exact HS.out _ ((Below.refl _ _).drew.alloc (Nat.le_refl _) _) | (refine HS.out _ ?_; repeat (first | exact Below.refl _ _ | apply Below.drew | refine Below.alloc ?_ (by simp) _ | refine Below.setCell ?_ (by simp) _))) ((fail))
      obtain ⟨w4, rfl⟩ : ∃ w4, w4 = w3 := ⟨_, rfl⟩
      have hb4 : Below w4.heap.size w4 w4 := Below.refl _ _
      have S4 := Lib.hid (S3.out.step hb4)
      have HB4 := Lib.hid (HB3.out.below hb4 HB3.out.lt)
      have HX4 := Lib.hid (HX3.out.below hb4 HX3.out.lt)
      have HN4 := Lib.hid (cell_below hb4 HN3.out)
      have HC4 := Lib.hid (cell_below hb4 HC3.out)
      clear hb4 hwr HS S3 HB3 HX3 HN3 HC3
      obtain ⟨w5, hw5⟩ : ∃ w5, w5 = (w4.alloc (.cells #[.string (strB nm), .slice none 0 0, .int .i64 (c + 1), .int .i64 (k : Int), .bool true] 49)).drew := ⟨_, rfl⟩
      obtain ⟨gf, hgf⟩ : ∃ gf, gf = w4.heap.size := ⟨_, rfl⟩
      have hb5 : Below w4.heap.size w4 w5 := by rw [hw5]; exact ((Below.refl _ _).alloc (Nat.le_refl _) _).drew
      have HF5 := Lib.hid (show Blk w5 gf 49 #[.string (strB nm), .slice none 0 0, .int .i64 (c + 1), .int .i64 (k : Int), .bool true] by rw [hw5, hgf]; exact Blk.new _ _ _)
      have Hb5 := Lib.hid hb5
      have Hgf4 : Hid (w4.heap.size ≤ gf) := Lib.hid (by omega)
      have Hw5 := Lib.hid hw5.symm
      have Hgf := Lib.hid hgf.symm
      have hfbase : w0.heap.size ≤ gf := by have := S4.out.below.size; omega
      clear hw5 hgf hb5
      have x4 : w4.cell? ⟨gx, 4, none⟩ = some (.slice Ab nb cb) := by rw [HX4.out.cell]; rfl
      have hz4 : gx < w4.heap.size := HX4.out.lt

      have HHas : Hid (∀ w', Below w4.heap.size w4 w' → Blk w' gx 29 #[.int .i64 2, .int .i64 (k : Int), .int .i64 to_, .string (strB nm), .slice Ab nb cb] → Calls Tryz.prog 47 #[.slice A' n' c', .func (.func 58) #[] #[.pointer (some ⟨gx, 0, none⟩)]] w' fun e w'' => e = .returned (.bool (hasB (flOf fl) nm)) ∧ Below w'.heap.size w' w'') := Lib.hid (fun w' hb hx => by
        have hf : IsFiles w' (.slice A' n' c') fl := (S4.out.step hb).own.node _ Hmem.out |>.files
        obtain ⟨A'', c'', e0, i1, i2, i3, _⟩ := hf
        injection e0 with e1 e2 e3
        subst e1 e2 e3
        have := containsFunc_files A' fl.length c' fl 58 #[.pointer (some ⟨gx, 0, none⟩)] (fun x => decide (x.1.name = nm) && !x.1.gone) w' rfl (by omega) i3 ehas1 (fun y hy w'' hb2 => has1_any y nm gx w'' _ _ _ _ (hx.below hb2 hx.lt))
        rw [show fl.any (fun x : Fx => decide (x.1.name = nm) && !x.1.gone) = hasB (flOf fl) nm from by unfold hasB flOf; rw [List.any_map]; rfl] at this
        exact this)
      go_wp2_with fail
      rw [Hw5.out, Hgf.out]
      clear Hw5 Hgf x4 hz4
      have S5 := Lib.hid (S4.out.step Hb5.out)
      have HB5 := Lib.hid (HB4.out.below Hb5.out HB4.out.lt)
      have HX5 := Lib.hid (HX4.out.below Hb5.out HX4.out.lt)
      have HN5 := Lib.hid (cell_below Hb5.out HN4.out)
      have HC5 := Lib.hid (cell_below Hb5.out HC4.out)
      have q1 := pcell HB5.out 0 _ rfl
      have q2 := pcell HX5.out 1 _ rfl
      have q3 := fun p : BelowBy w5 => BelowBy.cell HN5.out p
      refine wp_region_below (by kernel_rfl) (by kernel_rfl) ?_
      repeat (quiet_step (first | exact belowBy_calls (HHas.out _ (Hb5.out.trans ((BelowBy.h _).mono Hb5.out.size)) (HX5.out.below (BelowBy.h _) HX5.out.lt))))
      refine wpQuiet_nil ?_
      intro w7 hq
      have hb7' : Below w5.heap.size w5 w7 := by obtain ⟨p, hp⟩ := hq; rw [hp]; exact p.h
      have HF7 := Lib.hid (HF5.out.below hb7' HF5.out.lt)
      have hb7 : Below w4.heap.size w4 w7 := Hb5.out.trans (hb7'.mono Hb5.out.size)
      have S7 := Lib.hid (S4.out.step hb7)
      have HB7 := Lib.hid (HB4.out.below hb7 HB4.out.lt)
      have HX7 := Lib.hid (HX4.out.below hb7 HX4.out.lt)
      have HN7 := Lib.hid (cell_below hb7 HN4.out)
      have HC7 := Lib.hid (cell_below hb7 HC4.out)
      clear hq hb7 hb7' q1 q2 q3 HF5 S4 HB4 HX4 HN4 HC4 Hb5 S5 HB5 HX5 HN5 HC5 HHas
      by_cases hbl : hasB (flOf fl) nm = false
      · have HU := Lib.hid (HR4.out (by simp) hbl)
        rw [hbl]
        clear hbl HR5 HR6
        go_wp2_with fail
        go_ret
        exact StepPost.err HU.out (by decide) S7.out.below S7.out.kr
      · have HFo := Lib.hid (HFo.out (fun g => by have := g.1; simp at this))
        have HR5 := Lib.hid (HR5.out (fun g => by have := g.1; simp at this) (fun g => hbl g.2))
        have HR6 := Lib.hid (HR6.out (fun g => by have := g.1; simp at this) (fun g => hbl g.2))
        have hbl2 : hasB (flOf fl) nm = true := by simpa using hbl
        rw [hbl2]
        have HFa7 := Lib.hid (show FileAt w7 (⟨nm, [], c + 1, (k : Int), true⟩, none, 0, 0) from ⟨rfl, Nat.zero_le _, Nat.zero_le _, SlAt.nil, HH.out.name, show wfI (c + 1) from wf_mk (by omega) (by omega), HH.out.node⟩)
        have HfE : Hid (fileOf ⟨2, (k : Int), to_, nm, bytes⟩ c = ⟨nm, [], c + 1, (k : Int), true⟩) := Lib.hid rfl
        clear hbl hbl2 HR3 HR4
        have q1 := pcell HB7.out 0 _ rfl
        have q2 := pcell HX7.out 1 _ rfl
        have q3 := fun p : BelowBy w7 => BelowBy.cell HN7.out p
        have t0 := pcell HF7.out 0 _ rfl
        have t1 := pcell HF7.out 1 _ rfl
        have t2 := pcell HF7.out 2 _ rfl
        have t3 := pcell HF7.out 3 _ rfl
        have t4 := pcell HF7.out 4 _ rfl
        go_wp2_with fail
        have HS : Hid (∀ W, Below w7.heap.size w7 W → W.cell? ⟨gw, 0, none⟩ = some (.slice (some ⟨gn, 0, none⟩) n cn) ∧ W.cell? ⟨gx, 1, none⟩ = some (.int .i64 (k : Int)) ∧ W.cell? ⟨gn, k, none⟩ = some (.slice A' n' c') ∧ W.cell? ⟨gf, 0, none⟩ = some (.string (strB nm)) ∧ W.cell? ⟨gf, 1, none⟩ = some (.slice none 0 0) ∧ W.cell? ⟨gf, 2, none⟩ = some (.int .i64 (c + 1)) ∧ W.cell? ⟨gf, 3, none⟩ = some (.int .i64 (k : Int)) ∧ W.cell? ⟨gf, 4, none⟩ = some (.bool true)) := Lib.hid (fun W hb => ⟨by rw [(HB7.out.below hb HB7.out.lt).cell]; rfl, by rw [(HX7.out.below hb HX7.out.lt).cell]; rfl, cell_below hb HN7.out, by rw [(HF7.out.below hb HF7.out.lt).cell]; rfl, by rw [(HF7.out.below hb HF7.out.lt).cell]; rfl, by rw [(HF7.out.below hb HF7.out.lt).cell]; rfl, by rw [(HF7.out.below hb HF7.out.lt).cell]; rfl, by rw [(HF7.out.below hb HF7.out.lt).cell]; rfl⟩)
        have HPut := Lib.hid (fun W (hb : Below w7.heap.size w7 W) => put_any (.slice A' n' c') fl (⟨nm, [], c + 1, (k : Int), true⟩, none, 0, 0) W (HML.out.below (S7.out.step hb).below) (((S7.out.step hb).own.node _ Hmem.out).files) (HFa7.out.below hb))
        simp only [fV, slv] at HPut
        go_region_held3 (fun W => W.cell? ⟨gw, 0, none⟩ = some (.slice (some ⟨gn, 0, none⟩) n cn) ∧ W.cell? ⟨gx, 1, none⟩ = some (.int .i64 (k : Int)) ∧ W.cell? ⟨gn, k, none⟩ = some (.slice A' n' c') ∧ W.cell? ⟨gf, 0, none⟩ = some (.string (strB nm)) ∧ W.cell? ⟨gf, 1, none⟩ = some (.slice none 0 0) ∧ W.cell? ⟨gf, 2, none⟩ = some (.int .i64 (c + 1)) ∧ W.cell? ⟨gf, 3, none⟩ = some (.int .i64 (k : Int)) ∧ W.cell? ⟨gf, 4, none⟩ = some (.bool true)) (first | exact HS.out _ (Below.refl _ _).drew | exact HS.out _ Hb9.out) ((first
          | (go_at_call 59
             refine (HPut.out _ (Below.refl _ _).drew).mono ?_
             rintro e w9 ⟨v9, l9, rfl, ho9, hl9, hb9⟩
             have Hb9 := Lib.hid ((Below.refl w7.heap.size w7).drew.trans hb9)
             have Ho9 := Lib.hid ho9
             have Hl9 := Lib.hid hl9
             clear ho9 hl9 hb9)))
        have S9 := Lib.hid (S7.out.step Hb9.out)
        have HB9 := Lib.hid (HB7.out.below Hb9.out HB7.out.lt)
        have HX9 := Lib.hid (HX7.out.below Hb9.out HX7.out.lt)
        have HN9 := Lib.hid (cell_below Hb9.out HN7.out)
        have HC9 := Lib.hid (cell_below Hb9.out HC7.out)
        have Ho9 := Lib.hid (Ho9.out.base_ (show w0.heap.size ≤ w7.heap.size from S7.out.below.size))
        clear q1 q2 q3 t0 t1 t2 t3 t4 S7 HB7 HX7 HN7 HC7 HF7 HFa7 HPut HS
        rw [HfE.out] at HR5 HR6 HFo
        rw [show fl.map Prod.fst = flOf fl from rfl] at Hl9 ⊢
        by_cases h12 : 12 < (bothL (flOf fl) [(⟨nm, [], c + 1, (k : Int), true⟩ : Fl)]).length
        · have HU := Lib.hid (HR5.out h12)
          rw [bothR_3 HNd.out.1 (chk_one HFo.out) h12]
          clear h12
          go_wp2_with fail
          go_ret
          exact StepPost.err HU.out (by decide) S9.out.below S9.out.kr
        · have HU := Lib.hid (HR6.out h12)
          have hbr := bothR_of HNd.out.1 (chk_one HFo.out) (show (bothL (flOf fl) [(⟨nm, [], c + 1, (k : Int), true⟩ : Fl)]).length ≤ 12 by omega)
          rw [hbr] at Hl9 ⊢
          obtain ⟨A9, c9, rfl⟩ : ∃ A c, v9 = .slice A l9.length c := by obtain ⟨A, c, h, _⟩ := own_slat Ho9.out.row; exact ⟨A, c, h⟩
          obtain ⟨ln9, hln9⟩ : ∃ ln, ln = l9.length := ⟨_, rfl⟩
          rw [← hln9] at Ho9 ⊢
          clear h12 hbr hln9 HR5 HR6
          have q1 := pcell HB9.out 0 _ rfl
          have q2 := pcell HX9.out 1 _ rfl
          go_wp2_with fail
          refine wp_region_below_tail 8 (by kernel_rfl) (by kernel_rfl) ?_
          simp only [List.take_succ_cons, List.take_zero, List.drop_succ_cons, List.drop_zero]
          repeat (quiet_step (fail))
          refine wpQuiet_nil ?_
          intro w10 hq
          have hb10 : Below w9.heap.size w9 w10 := by obtain ⟨p, hp⟩ := hq; rw [hp]; exact p.h
          have S10 := Lib.hid (S9.out.step hb10)
          have HB10 := Lib.hid (HB9.out.below hb10 HB9.out.lt)
          have HX10 := Lib.hid (HX9.out.below hb10 HX9.out.lt)
          have hN10 := cell_below hb10 HN9.out
          have Ho10 := Lib.hid (show OwnFs w10 w0.heap.size (slv (A9, ln9, c9)) l9 from Ho9.out.below hb10)
          have hf10 : w10.frozen? ⟨gn, k, none⟩ = false := by have := S10.out.own.nodes; rw [Hvn.out] at this; exact this.frozenAt _
          have S11 : Hid (St w w0 (w10.setCell ⟨gn, k, none⟩ (.slice A9 ln9 c9)) gw gx { x with nodes := x.nodes.set k ((A9, ln9, c9), l9) } (⟨2, (k : Int), to_, nm, bytes⟩, Ab, nb, cb)) := Lib.hid
            ⟨S10.out.below.setCell (show w0.heap.size ≤ (⟨gn, k, none⟩ : Addr).block from by have := S10.out.own.nodes; rw [Hvn.out] at this; exact (own_blk this).1) _,
              S10.out.bw.far (p := ⟨gn, k, none⟩) (Ne.symm hnw) _, S10.out.bx.far (p := ⟨gn, k, none⟩) hxn _, OwnW.setNode S10.out.own Hvn.out rfl (A9, ln9, c9) l9 Ho10.out, S10.out.kr.own (by have := S10.out.own.nodes; rw [Hvn.out] at this; exact this) (by decide) _ _⟩
          have HB11 := Lib.hid (HB10.out.far (p := ⟨gn, k, none⟩) (Ne.symm hnw) (.slice A9 ln9 c9))
          have HX11 := Lib.hid (HX10.out.far (p := ⟨gn, k, none⟩) hxn (.slice A9 ln9 c9))
          have HC11 : Hid ((w10.setCell ⟨gn, k, none⟩ (.slice A9 ln9 c9)).cell? ⟨gc, k, none⟩ = some (.int .i64 c)) := Lib.hid (by
            have h1 := S11.out.own.clock
            dsimp only at h1
            rw [Hvc.out] at h1
            have := own_clock h1 rfl Hkc.out
            rw [this, HcE.out Hkc.out])
          obtain ⟨w11, hw11⟩ : ∃ w11, w11 = w10.setCell ⟨gn, k, none⟩ (.slice A9 ln9 c9) := ⟨_, rfl⟩
          rw [← hw11] at S11 HB11 HX11 HC11
          have Hw11 := Lib.hid hw11.symm
          clear hq hb10 q1 q2 S9 HB9 HX9 HN9 HC9 S10 HB10 HX10 Ho9 Ho10 hw11
          go_wp2_with fail
          rw [Hw11.out]
          clear Hw11 hN10 hf10
          have hwr : IntKind.i64.wrap (c + 1) = c + 1 := IntWalk.i64_in _ (by omega)
          have q1 := pcell HB11.out 1 _ rfl
          have q2 := pcell HX11.out 1 _ rfl
          have q3 := fun p : BelowBy w11 => BelowBy.cell HC11.out p
          refine wp_region_below_tail 10 (by kernel_rfl) (by kernel_rfl) ?_
          simp only [List.take_succ_cons, List.take_zero, List.drop_succ_cons, List.drop_zero]
          repeat (quiet_step (fail))
          refine wpQuiet_nil ?_
          intro w12 hq
          have hb12 : Below w11.heap.size w11 w12 := by obtain ⟨p, hp⟩ := hq; rw [hp]; exact p.h
          have S12 := Lib.hid (S11.out.step hb12)
          have hC12 := cell_below hb12 HC11.out
          have hf12 : w12.frozen? ⟨gc, k, none⟩ = false := by have := S12.out.own.clock; dsimp only at this; rw [Hvc.out] at this; exact this.frozenAt _
          have Hb13 := Lib.hid (S12.out.below.setCell (show w0.heap.size ≤ (⟨gc, k, none⟩ : Addr).block from by have := S12.out.own.clock; dsimp only at this; rw [Hvc.out] at this; exact (own_blk this).1) (.int .i64 (c + 1)))
          have Hw13 := Lib.hid (S12.out.bw.far (p := ⟨gc, k, none⟩) (Ne.symm hcw) (.int .i64 (c + 1)))
          have Ho13 := Lib.hid (OwnW.setClock (k := k) S12.out.own Hvc.out rfl (c + 1) (show wfI (c + 1) from wf_mk (by omega) (by omega)))
          have Hk13 := Lib.hid (S12.out.kr.own (by have := S12.out.own.clock; dsimp only at this; rw [Hvc.out] at this; exact this) (by decide) k (.int .i64 (c + 1)))
          clear hq hb12 q1 q2 q3 hwr S11 HB11 HX11 HC11 S12
          go_wp2_with fail
          go_ret
          rw [HU.out]
          refine ⟨rfl, Hb13.out, fun _ => ⟨{ x with nodes := x.nodes.set k ((A9, ln9, c9), l9), clock := x.clock.set k (c + 1) }, ?_, Hw13.out, Ho13.out⟩, Hk13.out⟩
          simp only [Wx.wd, List.map_set]
          rw [show flOf l9 = l9.map Prod.fst from rfl, Hl9.out]
  · have HU := Lib.hid (HR1.out he)
    generalize Name.nameE nm = z at *
    have hz1 : (z != 0) = true := by simpa using he
    clear HR2 HR3 HR4 HR5 HR6 HFo
    go_wp2_with fail
    go_ret
    exact StepPost.err HU.out he S2.out.below S2.out.kr

end Go.Proofs.YtdoegpklephelaaGreatDoor.Worlds
