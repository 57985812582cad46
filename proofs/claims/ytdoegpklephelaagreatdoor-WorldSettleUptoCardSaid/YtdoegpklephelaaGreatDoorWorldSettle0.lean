/- package world: Settle. -/
import Derived.Test.YtdoegpklephelaaGreatDoorWorldTop
namespace Go.Proofs.YtdoegpklephelaaGreatDoor.Worlds
open Go Go.RowKit Go.Proofs.YtdoegpklephelaaGreatDoor Go.Proofs.YtdoegpklephelaaGreatDoor.Name Go.Proofs.YtdoegpklephelaaGreatDoor.Merge
set_option linter.unusedVariables false

/-- the first k turned -/
def pre {α : Type} (f : α → α) (l : List α) (k : Nat) : List α := (l.take k).map f ++ l.drop k
theorem pre_zero {α : Type} (f : α → α) (l : List α) : pre f l 0 = l := by simp [pre]
theorem pre_all {α : Type} (f : α → α) (l : List α) (k : Nat) (h : l.length ≤ k) : pre f l k = l.map f := by simp [pre, List.take_of_length_le h, List.drop_of_length_le h]
theorem pre_len {α : Type} (f : α → α) (l : List α) (k : Nat) : (pre f l k).length = l.length := by simp [pre]; omega
theorem pre_set {α : Type} (f : α → α) (l : List α) (k : Nat) (h : k < l.length) : (pre f l k).set k (f l[k]) = pre f l (k + 1) := by
  unfold pre
  have e : ((l.take k).map f).length = k := by simp; omega
  rw [List.drop_eq_getElem_cons h, List.set_append_right _ _ (by omega), e, Nat.sub_self, List.set_cons_zero, take_snoc _ _ h, List.map_append, List.append_assoc]
  rfl
theorem pre_get {α : Type} (f : α → α) (l : List α) (k : Nat) (h : k < l.length) (h' : k < (pre f l k).length) : (pre f l k)[k] = l[k] := by
  have e : ((l.take k).map f).length = k := by simp; omega
  have t : (pre f l k)[k]? = some l[k] := by unfold pre; rw [List.getElem?_append_right (by omega), e]; simp [h]
  rw [List.getElem?_eq_getElem h'] at t
  exact Option.some.inj t
theorem settleR_1 {w : Wd} (h : chkW w ≠ 0) : settleR w = (chkW w, .none_) := by unfold settleR; rw [if_pos h]
theorem settleR_2 {w : Wd} (h : chkW w = 0) {A : Int × List Fl} (hA : allR w.nodes [] = A) (h2 : A.1 ≠ 0) : settleR w = (A.1, .none_) := by unfold settleR; rw [if_neg (by simpa using h), hA, if_pos h2]
theorem settleR_3 {w : Wd} (h : chkW w = 0) {a : List Fl} (hA : allR w.nodes [] = (0, a)) : settleR w = (0, ⟨w.nodes.map fun _ => a, w.clock.map fun c => maxStamp c a, []⟩) := by
  unfold settleR; rw [if_neg (by simpa using h), hA]; simp
theorem allR_1 {l a : List Fl} (ls : List (List Fl)) (h : 12 < (bothL a l).length) : allR (l :: ls) a = (11, []) := by simp only [allR]; rw [if_pos h]
theorem allR_2 {l a : List Fl} (ls : List (List Fl)) (h : ¬ 12 < (bothL a l).length) : allR (l :: ls) a = allR ls (bothL a l) := by simp only [allR]; rw [if_neg h]
/-- what stands while nodes are settled -/
structure StT (w0 w : World) (gw g2 : Nat) (x : Wx) : Prop where
  below : Below w0.heap.size w0 w
  bw : Blk w gw 26 #[x.vn, x.vc, x.vt]
  bx : Blk w g2 26 #[.slice none 0 0, .slice none 0 0, .slice none 0 0]
  own : OwnW w w0.heap.size x
theorem StT.step {w0 w w' : World} {gw g2 : Nat} {x : Wx} (s : StT w0 w gw g2 x) (hb : Below w.heap.size w w') : StT w0 w' gw g2 x :=
  ⟨s.below.trans (hb.mono s.below.size), s.bw.below hb s.bw.lt, s.bx.below hb s.bx.lt, s.own.below hb⟩
/-- .. the first i of them done -/
structure Mid (w wr : World) (g gn gc n kn kc : Nat) (z : Wx) (av : Value) (l : List Fx) (i : Nat) (u : Wx) : Prop where
  st : StT w wr g (g + 1) u
  vn : u.vn = .slice (some ⟨gn, 0, none⟩) n kn
  vc : u.vc = .slice (some ⟨gc, 0, none⟩) n kc
  vt : u.vt = .slice none 0 0
  net : u.net = []
  len : u.nodes.length = n
  nodes : (u.nodes.map fun m => flOf m.2) = pre (fun _ => flOf l) (z.nodes.map fun m => flOf m.2) i
  clock : u.clock = pre (fun c => maxStamp c (flOf l)) z.clock i
  own : OwnFs wr w.heap.size av l
theorem Mid.step {w wr w' : World} {g gn gc n kn kc : Nat} {z : Wx} {av : Value} {l : List Fx} {i : Nat} {u : Wx} (h : Mid w wr g gn gc n kn kc z av l i u) (hb : Below wr.heap.size wr w') : Mid w w' g gn gc n kn kc z av l i u :=
  ⟨h.st.step hb, h.vn, h.vc, h.vt, h.net, h.len, h.nodes, h.clock, h.own.below hb⟩
set_option maxRecDepth 100000 in
set_option maxHeartbeats 6000000 in
theorem settle_any (x : Wx) (w : World) (hml : ML w) (hx : IsWorld w x) :
    Calls Tryz.prog 16 #[wV x] w (DoPost (settleR x.wd) w) := by
  obtain ⟨r, hr⟩ : ∃ r, r = settleR x.wd := ⟨_, rfl⟩
  have HR1 := Lib.hid (fun h' => hr.trans (settleR_1 (w := x.wd) h'))
  have HR2 : Hid (∀ A, chkW x.wd = 0 → allR x.wd.nodes [] = A → A.1 ≠ 0 → r = (A.1, .none_)) := Lib.hid (fun A h1 h2 h3 => hr.trans (settleR_2 h1 h2 h3))
  have HR3 : Hid (∀ a, chkW x.wd = 0 → allR x.wd.nodes [] = (0, a) → r = _) := Lib.hid (fun a h1 h2 => hr.trans (settleR_3 h1 h2))
  rw [← hr]
  clear hr
  have HML := Lib.hid hml
  have HX := Lib.hid hx
  obtain ⟨⟨An, cn, hvn, _⟩, ⟨Ac, cc, hvc, _⟩, ⟨At, ct, hvt, _⟩⟩ := hx
  obtain ⟨nl, hnl⟩ : ∃ nl, nl = x.nodes.length := ⟨_, rfl⟩
  obtain ⟨cl, hcl⟩ : ∃ cl, cl = x.clock.length := ⟨_, rfl⟩
  obtain ⟨tl, htl⟩ : ∃ tl, tl = x.net.length := ⟨_, rfl⟩
  rw [← hnl] at hvn
  rw [← hcl] at hvc
  rw [← htl] at hvt
  have hV0 : wV x = .agg #[.slice An nl cn, .slice Ac cl cc, .slice At tl ct] := by unfold wV; rw [hvn, hvc, hvt]
  have HV0 := Lib.hid hV0
  rw [hV0]
  clear hml hvn hvc hvt hnl hcl htl hV0
  obtain ⟨g, hg⟩ : ∃ g, g = w.heap.size := ⟨_, rfl⟩
  obtain ⟨w1, hw1⟩ : ∃ w1, w1 = (w.alloc (.cells #[.slice An nl cn, .slice Ac cl cc, .slice At tl ct] 26)).alloc (.cells #[.slice none 0 0, .slice none 0 0, .slice none 0 0] 26) := ⟨_, rfl⟩
  have hb1 : Below w.heap.size w w1 := by rw [hw1]; exact ((Below.refl _ _).alloc (Nat.le_refl _) _).alloc (by simp) _
  have B2 : Blk w1 g 26 #[.slice An nl cn, .slice Ac cl cc, .slice At tl ct] := by rw [hw1, hg]; exact (Blk.new _ _ _).alloc _
  have B4 : Blk w1 (g + 1) 26 #[.slice none 0 0, .slice none 0 0, .slice none 0 0] := by
    rw [hw1, hg, show w.heap.size + 1 = (w.alloc (.cells #[.slice An nl cn, .slice Ac cl cc, .slice At tl ct] 26)).heap.size by simp]
    exact Blk.new _ _ _
  have HB2 := Lib.hid B2
  have HB4 := Lib.hid B4
  have Hb1 := Lib.hid hb1
  have Hw1 := Lib.hid hw1.symm
  have Hg := Lib.hid hg.symm
  have HC := Lib.hid (check_world x w1 (HML.out.below hb1) (HX.out.below hb1))
  rw [HV0.out] at HC
  clear B2 B4 hb1 hw1 hg
  unfold DoPost
  go_enter Tryz.func16, Tryz.ntmps16
  go_wp2_with fail
  rw [Hw1.out, Hg.out]
  refine (HC.out).mono ?_
  rintro e w2 ⟨rfl, hb2⟩
  have Hb2 := Lib.hid (Hb1.out.trans (hb2.mono Hb1.out.size))
  have HX2 := Lib.hid (HX.out.below Hb2.out)
  have HB2 := Lib.hid (HB2.out.below hb2 HB2.out.lt)
  have HB4 := Lib.hid (HB4.out.below hb2 HB4.out.lt)
  clear hb2 HC
  have hwg : w.heap.size ≤ g := by have := Hg.out; omega
  have hwg1 : w.heap.size ≤ g + 1 := by omega
  by_cases he : chkW x.wd = 0
  · have HCp := Lib.hid (copied_any x w2 HX2.out (chkW_ok.1 he))
    have HWo := Lib.hid (chkW_ok.1 he)
    have HR2 := Lib.hid (fun A => HR2.out A he)
    have HR3 := Lib.hid (fun a => HR3.out a he)
    rw [HV0.out] at HCp
    rw [he]
    obtain ⟨b0, b1, b2⟩ := blk3 HB2.out
    clear he HR1
    go_wp2_with fail
    refine (HCp.out).mono ?_
    rintro e w3 ⟨y, rfl, hy, hyd, hb3⟩
    have Hb3 := Lib.hid (Hb2.out.trans (hb3.mono Hb2.out.size))
    have HB4 := Lib.hid (HB4.out.below hb3 HB4.out.lt)
    have HB2 := Lib.hid (HB2.out.below hb3 HB2.out.lt)
    have hY := hy.base_ Hb2.out.size
    obtain ⟨hn1, hn4, hlen, hnc, hd⟩ : 1 ≤ y.nodes.length ∧ y.nodes.length ≤ 4 ∧ y.clock.length = y.nodes.length ∧ (∀ m ∈ y.nodes, chkF (flOf m.2) = 0) ∧ (∀ c ∈ y.clock, 0 ≤ c ∧ c ≤ 1000000) := by
      have hw := HWo.out
      rw [← hyd] at hw
      refine ⟨by have := hw.some_; simpa [Wx.wd] using this, by have := hw.few; simpa [Wx.wd] using this, by have := hw.clock; simpa [Wx.wd] using this, nodes_small hw, fun c hc => ?_⟩
      obtain ⟨i, hi, rfl⟩ := List.getElem_of_mem hc
      have hin : i < y.wd.nodes.length := by have := hw.clock; rw [← this]; exact hi
      have := hw.node i y.wd.nodes[i] y.clock[i] (List.getElem?_eq_getElem hin) (List.getElem?_eq_getElem hi)
      exact ⟨this.2.1, this.2.2.1⟩
    obtain ⟨gn, kn, hvn, hgn, _, _, _, hbn⟩ := own_at hY.nodes (by omega)
    obtain ⟨gc, kc, hvc, hgc, _, _, _, hbc⟩ := own_at hY.clock (by omega)
    obtain ⟨A3, k3, hvt, _⟩ := own_slat hY.net
    have hnw : gn ≠ g := fun e => own_ne hY.nodes HB2.out (by decide) (by rw [hvn, e]; rfl)
    have hcw : gc ≠ g := fun e => own_ne hY.clock HB2.out (by decide) (by rw [hvc, e]; rfl)
    have hnx : gn ≠ g + 1 := fun e => own_ne hY.nodes HB4.out (by decide) (by rw [hvn, e]; rfl)
    have hcx : gc ≠ g + 1 := fun e => own_ne hY.clock HB4.out (by decide) (by rw [hvc, e]; rfl)
    obtain ⟨n, hn⟩ : ∃ n, n = y.nodes.length := ⟨_, rfl⟩
    rw [hlen] at hvc
    rw [← hn] at hvn hvc hn1 hn4 hlen
    obtain ⟨q, hq⟩ : ∃ q, q = y.net.length := ⟨_, rfl⟩
    rw [← hq] at hvt
    have hVy : wV y = .agg #[.slice (some ⟨gn, 0, none⟩) n kn, .slice (some ⟨gc, 0, none⟩) n kc, .slice A3 q k3] := by unfold wV; rw [hvn, hvc, hvt]
    obtain ⟨w5, hw5⟩ : ∃ w5, w5 = (((w3.setCell ⟨g, 0, none⟩ (.slice (some ⟨gn, 0, none⟩) n kn)).setCell ⟨g, 1, none⟩ (.slice (some ⟨gc, 0, none⟩) n kc)).setCell ⟨g, 2, none⟩ (.slice A3 q k3)).setCell ⟨g, 2, none⟩ (.slice none 0 0) := ⟨_, rfl⟩
    have hY1 := hY.set_ HB2.out (by decide) (by decide) (by decide) (by decide) (by decide) 0 (.slice (some ⟨gn, 0, none⟩) n kn)
    have hD1 := HB2.out.set_ 0 (.slice (some ⟨gn, 0, none⟩) n kn)
    have hY2 := hY1.set_ hD1 (by decide) (by decide) (by decide) (by decide) (by decide) 1 (.slice (some ⟨gc, 0, none⟩) n kc)
    have hD2 := hD1.set_ 1 (.slice (some ⟨gc, 0, none⟩) n kc)
    have hY3 := hY2.set_ hD2 (by decide) (by decide) (by decide) (by decide) (by decide) 2 (.slice A3 q k3)
    have hD3 := hD2.set_ 2 (.slice A3 q k3)
    have hY4 := hY3.set_ hD3 (by decide) (by decide) (by decide) (by decide) (by decide) 2 (.slice none 0 0)
    have hD4 := hD3.set_ 2 (.slice none 0 0)
    have hb5 := (((Hb3.out.setCell (show w.heap.size ≤ (⟨g, 0, none⟩ : Addr).block from hwg) (.slice (some ⟨gn, 0, none⟩) n kn)).setCell (show w.heap.size ≤ (⟨g, 1, none⟩ : Addr).block from hwg) (.slice (some ⟨gc, 0, none⟩) n kc)).setCell (show w.heap.size ≤ (⟨g, 2, none⟩ : Addr).block from hwg) (.slice A3 q k3)).setCell (show w.heap.size ≤ (⟨g, 2, none⟩ : Addr).block from hwg) (.slice none 0 0)
    have hE4 := (((HB4.out.far (p := ⟨g, 0, none⟩) (show g + 1 ≠ g by omega) (.slice (some ⟨gn, 0, none⟩) n kn)).far (p := ⟨g, 1, none⟩) (show g + 1 ≠ g by omega) (.slice (some ⟨gc, 0, none⟩) n kc)).far (p := ⟨g, 2, none⟩) (show g + 1 ≠ g by omega) (.slice A3 q k3)).far (p := ⟨g, 2, none⟩) (show g + 1 ≠ g by omega) (.slice none 0 0)
    rw [← hw5] at hY4 hD4 hb5 hE4
    obtain ⟨z, hz⟩ : ∃ z : Wx, z = { y with vt := .slice none 0 0, net := [] } := ⟨_, rfl⟩
    have HS5 : Hid (StT w w5 g (g + 1) z) := Lib.hid ⟨hb5, by rw [hz]; dsimp only; rw [hvn, hvc]; exact hD4, hE4, by rw [hz]; exact ⟨hY4.nodes, hY4.node, hY4.clock, hY4.clk, World.ownsRow_nil .., by simp⟩⟩
    have Hz : Hid (z.vn = .slice (some ⟨gn, 0, none⟩) n kn ∧ z.vc = .slice (some ⟨gc, 0, none⟩) n kc ∧ z.vt = .slice none 0 0 ∧ z.nodes.length = n ∧ z.clock.length = n ∧ z.net = []) := Lib.hid (by rw [hz]; exact ⟨hvn, hvc, rfl, hn.symm, hlen, rfl⟩)
    have Hnc : Hid (∀ m ∈ z.nodes, chkF (flOf m.2) = 0) := Lib.hid (by rw [hz]; exact hnc)
    have Hcc : Hid (∀ c ∈ z.clock, 0 ≤ c ∧ c ≤ 1000000) := Lib.hid (by rw [hz]; exact hd)
    have HN : Hid (x.wd.nodes = z.nodes.map fun m => flOf m.2) := Lib.hid (by rw [← hyd, hz]; rfl)
    have HCk : Hid (x.wd.clock = z.clock) := Lib.hid (by rw [← hyd, hz]; rfl)
    have Hw5 := Lib.hid hw5.symm
    obtain ⟨b0, b1, b2⟩ := blk3 HB2.out
    have f0 := HB2.out.frozen 0
    have f1 := HB2.out.frozen 1
    have f2 := HB2.out.frozen 2
    rw [hVy]
    (try dsimp only)
    rw [HN.out] at HR2 HR3
    rw [HCk.out] at HR3
    clear HCp hb3 hy hyd hY hY1 hY2 hY3 hY4 hD1 hD2 hD3 hD4 hb5 hE4 hw5 hz hvn hvc hvt hlen hnc hd hVy hn hq
    go_wp2_with fail
    rw [Hw5.out]
    clear b0 b1 b2 f0 f1 f2 Hw5
    go_loopw [25, 5] (fun vi av wr => ∃ k : Nat, k ≤ n ∧ vi = .int .i64 (k : Int) ∧ Below w5.heap.size w5 wr ∧ ∃ V : Value, V = av ∧ ∃ l : List Fx, OwnFs wr w5.heap.size V l ∧ chkF (flOf l) = 0 ∧ allR ((z.nodes.map fun m => flOf m.2).drop k) (flOf l) = allR (z.nodes.map fun m => flOf m.2) []) (fun vi _ _ => n - (intOf vi).toNat)
    case atStart => exact ⟨0, Nat.zero_le _, rfl, Below.refl _ _, _, rfl, [], OwnFs.nil _ _, by decide, rfl⟩
    case round =>
      obtain ⟨k, hk, rfl, hb, V, rfl, l, hl, hlc, hA⟩ := hrel
      have HSr := Lib.hid (HS5.out.step hb)
      have Hb := Lib.hid hb
      have Hl := Lib.hid hl
      have Hlc := Lib.hid hlc
      have HA := Lib.hid hA
      clear hb hl hlc hA
      by_cases hlt : k < n
      · have hkn : k < z.nodes.length := by rw [Hz.out.2.2.2.1]; exact hlt
        have hsn := HSr.out.own.nodes
        rw [Hz.out.1, Hz.out.2.2.2.1] at hsn
        have hcN := own_node hsn Hz.out.2.2.2.1 hkn
        have HA2 : Hid (allR (flOf z.nodes[k].2 :: (z.nodes.map fun m => flOf m.2).drop (k + 1)) (flOf l) = allR (z.nodes.map fun m => flOf m.2) []) := Lib.hid (by
          rw [← map_drop_cons (fun m : Nx => flOf m.2) z.nodes hkn]; exact HA.out)
        have Hmem : Hid (z.nodes[k] ∈ z.nodes) := Lib.hid (List.getElem_mem hkn)
        obtain ⟨nd, hnd⟩ : ∃ nd, nd = z.nodes[k] := ⟨_, rfl⟩
        rw [← hnd] at hcN HA2 Hmem
        clear hnd hsn hkn
        obtain ⟨⟨A', n', c'⟩, fl⟩ := nd
        simp only [slv] at hcN
        dsimp only at HA2
        have hfc : chkF (flOf fl) = 0 := Hnc.out _ Hmem.out
        have Hfc := Lib.hid hfc
        obtain ⟨Aa, ca, hav, _⟩ := own_slat Hl.out.row
        subst hav
        have HBo := Lib.hid (both_any _ _ l fl wr (HML.out.below HSr.out.below) Hl.out.files (HSr.out.own.node _ Hmem.out).files)
        dsimp only [slv] at HBo
        obtain ⟨ll, hll⟩ : ∃ ll, ll = l.length := ⟨_, rfl⟩
        rw [← hll] at HBo ⊢
        clear hfc hll
        go_wp2_with fail
        refine (HBo.out).mono ?_
        rintro e w9 ⟨v9, l9, rfl, ho9, hl9, hb9⟩
        have Hb9 := Lib.hid (Hb.out.trans (hb9.mono Hb.out.size))
        have Ho9 := Lib.hid (ho9.base_ Hb.out.size)
        have Hl9 := Lib.hid hl9
        have HS9 := Lib.hid (HSr.out.step hb9)
        rw [show l.map Prod.fst = flOf l from rfl, show fl.map Prod.fst = flOf fl from rfl] at Hl9 ⊢
        clear ho9 hl9 hb9 hcN HBo
        by_cases h12 : 12 < (bothL (flOf l) (flOf fl)).length
        · have HU := Lib.hid (HR2.out (11, []) (HA2.out.symm.trans (allR_1 _ h12)) (by decide))
          rw [bothR_3 Hlc.out Hfc.out h12]
          have HBx := Lib.hid HS9.out.bx
          have Hbx := Lib.hid HS9.out.below
          clear h12
          have HF3 := Lib.hid (((HBx.out.set_ 0 (.slice none 0 0)).set_ 1 (.slice none 0 0)).set_ 2 (.slice none 0 0))
          have Hb6 := Lib.hid (((Hbx.out.setCell (show w.heap.size ≤ (⟨g + 1, 0, none⟩ : Addr).block from hwg1) (.slice none 0 0)).setCell (show w.heap.size ≤ (⟨g + 1, 1, none⟩ : Addr).block from hwg1) (.slice none 0 0)).setCell (show w.heap.size ≤ (⟨g + 1, 2, none⟩ : Addr).block from hwg1) (.slice none 0 0))
          obtain ⟨b0, b1, b2⟩ := blk3 HBx.out
          have f0 := HBx.out.frozen 0
          have f1 := HBx.out.frozen 1
          have f2 := HBx.out.frozen 2
          go_wp2_with fail
          refine bodyPost_ret (results_cell_row_tmp rfl _ _ (g + 1) 26 #[.slice none 0 0, .slice none 0 0, .slice none 0 0] (0, 0) _ rfl HF3.out Tryz.underlying26 rfl (by kernel_rfl)) rfl ?_
          exact ⟨wx0, by rw [HU.out]; rfl, OwnW.none_ _ _, by rw [HU.out]; rfl, Hb6.out⟩
        · have HC9 := Lib.hid (chk_both Hlc.out Hfc.out (show (bothL (flOf l) (flOf fl)).length ≤ 12 by omega))
          have HA9 := Lib.hid ((allR_2 _ h12).symm.trans HA2.out)
          rw [bothR_of Hlc.out Hfc.out (show (bothL (flOf l) (flOf fl)).length ≤ 12 by omega)] at Hl9 ⊢
          obtain ⟨A9, c9, h9, _⟩ := own_slat Ho9.out.row
          subst h9
          dsimp only at Hl9
          rw [← Hl9.out] at HC9 HA9
          clear h12
          go_wp2_with fail
          go_roundw
          case rel => exact ⟨k + 1, by omega, by go_num, Hb9.out, _, rfl, l9, Ho9.out, HC9.out, HA9.out⟩
          case measure => simp [intOf]; omega
      · obtain rfl : k = n := by omega
        have hall : allR (z.nodes.map fun m => flOf m.2) [] = (0, flOf l) := by
          rw [← HA.out, List.drop_of_length_le (by rw [List.length_map, Hz.out.2.2.2.1]; exact Nat.le_refl _)]; rfl
        have HU := Lib.hid (HR3.out _ hall)
        have Hsm := Lib.hid (files_small Hlc.out)
        have HfE : Hid (l.length ≤ 12) := Lib.hid (by have := (chkF_ok.1 Hlc.out).1; unfold flOf at this; rwa [List.length_map] at this)
        have HSt := Lib.hid (stamp_bd Hlc.out)
        have HM0 : Hid (Mid w wr g gn gc k kn kc z V l 0 z) := Lib.hid ⟨HSr.out, Hz.out.1, Hz.out.2.1, Hz.out.2.2.1, Hz.out.2.2.2.2.2, Hz.out.2.2.2.1, (pre_zero _ _).symm, (pre_zero _ _).symm, Hl.out.base_ HS5.out.below.size⟩
        have hB := HM0.out.st.bw
        rw [HM0.out.vn, HM0.out.vc, HM0.out.vt] at hB
        obtain ⟨b0, b1, b2⟩ := blk3 hB
        obtain ⟨Aa, ca, hav, _⟩ := own_slat Hl.out.row
        subst hav
        obtain ⟨la, hla⟩ : ∃ la, la = l.length := ⟨_, rfl⟩
        rw [← hla] at HM0 HfE ⊢
        have Hla := Lib.hid hla
        have hla12 := HfE.out
        clear hall hB hla
        go_wp2_with fail
        clear b0 b1 b2
        go_loopw [44] (fun vi wr => ∃ i : Nat, i ≤ k ∧ vi = .int .i64 (i : Int) ∧ ∃ u : Wx, Mid w wr g gn gc k kn kc z (.slice Aa la ca) l i u) (fun vi _ => k - (intOf vi).toNat)
        case atStart => exact ⟨0, Nat.zero_le _, rfl, z, HM0.out⟩
        case round =>
          obtain ⟨i, hi, rfl, u, hM⟩ := hrel
          obtain ⟨wo, rfl⟩ : ∃ wo, wo = wr := ⟨_, rfl⟩
          have HM := Lib.hid hM
          have hB := hM.st.bw
          rw [hM.vn, hM.vc, hM.vt] at hB
          have HBw := Lib.hid hB
          clear hM HM0
          by_cases hlt : i < k
          · have hil : i < u.nodes.length := by rw [HM.out.len]; exact hlt
            have hzc : i < z.clock.length := by rw [Hz.out.2.2.2.2.1]; exact hlt
            have hzn : i < (z.nodes.map fun m => flOf m.2).length := by rw [List.length_map, Hz.out.2.2.2.1]; exact hlt
            have hcl : u.clock.length = k := by rw [HM.out.clock, pre_len]; exact Hz.out.2.2.2.2.1
            have hic : i < u.clock.length := by rw [hcl]; exact hlt
            have hsn := HM.out.st.own.nodes
            rw [HM.out.vn, HM.out.len] at hsn
            have hcn : ∃ v, wo.cell? ⟨gn, i, none⟩ = some v := ⟨_, own_node hsn HM.out.len hil⟩
            have HCo : Hid (∀ W, Below wo.heap.size wo W → Calls Tryz.prog 35 #[.slice Aa la ca] W (CopyPost l W)) := Lib.hid (fun W hb => copy_any _ l W (HM.out.own.below hb).files Hsm.out.1 Hsm.out.2)
            have HS : Hid (∀ W, Below wo.heap.size wo W → W.cell? ⟨g, 0, none⟩ = some (.slice (some ⟨gn, 0, none⟩) k kn)) := Lib.hid (fun W hb => by rw [(HBw.out.below hb HBw.out.lt).cell]; rfl)
            have Hsn := Lib.hid hsn
            have Hcn := Lib.hid hcn
            have Hil := Lib.hid hil
            have Hic := Lib.hid hic
            have Hcl := Lib.hid hcl
            have Hzc := Lib.hid hzc
            have Hzn := Lib.hid hzn
            have HceE : Hid (∃ c, c = u.clock[i] ∧ c = z.clock[i]) := Lib.hid ⟨_, rfl, by simp only [HM.out.clock]; exact pre_get _ _ _ hzc _⟩
            obtain ⟨c, hc1, hc2⟩ := HceE.out
            have hcb : 0 ≤ c ∧ c ≤ 1000000 := by rw [hc2]; exact Hcc.out _ (List.getElem_mem _)
            have Hc1 := Lib.hid (fun h : i < u.clock.length => hc1.symm)
            have Hc2 := Lib.hid (fun h : i < z.clock.length => hc2)
            clear hB hsn hcn hil hic hcl hzc hzn HceE hc1 hc2
            go_wp2_with fail
            go_region_held3 (fun W => W.cell? ⟨g, 0, none⟩ = some (.slice (some ⟨gn, 0, none⟩) k kn)) (first | exact HS.out _ (Below.refl _ _).drew | exact HS.out _ Hb9.out | exact (blk3 (Blk.far (p := ⟨gn, i, none⟩) (HBw.out.below Hb9.out HBw.out.lt) (Ne.symm hnw) _)).1) ((first
              | (go_at_call 35
                 refine (HCo.out _ (Below.refl _ _).drew).mono ?_
                 rintro e w9 ⟨v9, l9, rfl, ho9, hl9, hb9⟩
                 have Hb9 := Lib.hid ((Below.refl wo.heap.size wo).drew.trans hb9)
                 have Ho9 := Lib.hid ho9
                 have Hl9 := Lib.hid hl9
                 obtain ⟨A9, c9, h9, _⟩ := own_slat ho9.row
                 subst h9
                 have hf9 : w9.frozen? ⟨gn, i, none⟩ = false := (own_keep Hsn.out Hb9.out).frozenAt _
                 obtain ⟨vN, hvN⟩ := Hcn.out
                 have hN9 := cell_below Hb9.out hvN
                 clear hvN
                 clear ho9 hl9 hb9)))
            have M9 := Lib.hid (HM.out.step Hb9.out)
            have Ho9b := Lib.hid (Ho9.out.base_ (show w.heap.size ≤ wo.heap.size from HM.out.st.below.size))
            obtain ⟨u1, hu1⟩ : ∃ u1 : Wx, u1 = { u with nodes := u.nodes.set i ((A9, l9.length, c9), l9) } := ⟨_, rfl⟩
            obtain ⟨w10, hw10⟩ : ∃ w10, w10 = w9.setCell ⟨gn, i, none⟩ (.slice A9 l9.length c9) := ⟨_, rfl⟩
            have HS10 : Hid (StT w w10 g (g + 1) u1) := Lib.hid (by
              rw [hw10, hu1]
              exact ⟨M9.out.st.below.setCell (show w.heap.size ≤ (⟨gn, i, none⟩ : Addr).block from (own_blk Hsn.out).1) _, M9.out.st.bw.far (p := ⟨gn, i, none⟩) (Ne.symm hnw) _, M9.out.st.bx.far (p := ⟨gn, i, none⟩) (Ne.symm hnx) _, OwnW.setNode M9.out.st.own M9.out.vn M9.out.len (A9, l9.length, c9) l9 Ho9b.out⟩)
            have HO10 : Hid (OwnFs w10 w.heap.size (.slice Aa la ca) l) := Lib.hid (by
              obtain ⟨_, csn, hblkn⟩ := own_blk (own_keep Hsn.out Hb9.out)
              rw [hw10]
              exact M9.out.own.set_ hblkn (by decide) (by decide) i _)
            have Hu1 : Hid (u1.vn = .slice (some ⟨gn, 0, none⟩) k kn ∧ u1.vc = .slice (some ⟨gc, 0, none⟩) k kc ∧ u1.vt = .slice none 0 0 ∧ u1.net = [] ∧ u1.nodes.length = k ∧ u1.clock = u.clock ∧ (u1.nodes.map fun m => flOf m.2) = pre (fun _ => flOf l) (z.nodes.map fun m => flOf m.2) (i + 1)) := Lib.hid (by
              rw [hu1]
              refine ⟨HM.out.vn, HM.out.vc, HM.out.vt, HM.out.net, by dsimp only; rw [List.length_set]; exact HM.out.len, rfl, ?_⟩
              dsimp only
              rw [List.map_set, HM.out.nodes]
              show (pre _ _ i).set i (flOf l9) = _
              rw [show flOf l9 = flOf l from Hl9.out]
              exact pre_set (fun _ => flOf l) (z.nodes.map fun m => flOf m.2) i Hzn.out)
            have HS0 : Hid (StT w w10 g (g + 1) { u1 with clock := u1.clock.set i (maxStamp c (flOf (l.take 0))) }) := Lib.hid (by
              have e : u1.clock.set i c = u1.clock := by rw [Hu1.out.2.2.2.2.2.1, ← Hc1.out Hic.out]; exact List.set_getElem_self _
              have : u1 = { u1 with clock := u1.clock.set i (maxStamp c (flOf (l.take 0))) } := by
                show u1 = { u1 with clock := u1.clock.set i c }
                rw [e]
              rw [← this]
              exact HS10.out)
            have Hcu : Hid (u1.clock.length = k) := Lib.hid (by rw [Hu1.out.2.2.2.2.2.1]; exact Hcl.out)
            have Hw10 := Lib.hid hw10.symm
            have hc0 := hcb.1
            have hc1' := hcb.2
            clear hw10 hu1 hf9 hN9 hcb M9 Ho9 Ho9b HS HCo Hl9 HS10
            go_wp2_with fail
            rw [Hw10.out]
            clear Hw10
            go_loopw [55] (fun vi wr => ∃ j : Nat, j ≤ la ∧ vi = .int .i64 (j : Int) ∧ StT w wr g (g + 1) { u1 with clock := u1.clock.set i (maxStamp c (flOf (l.take j))) } ∧ OwnFs wr w.heap.size (.slice Aa la ca) l) (fun vi _ => la - (intOf vi).toNat)
            case atStart => exact ⟨0, Nat.zero_le _, rfl, HS0.out, HO10.out⟩
            case round =>
              obtain ⟨j, hj, rfl, hS, hO⟩ := hrel
              have HS := Lib.hid hS
              have HO := Lib.hid hO
              clear hS hO HS0 HO10
              by_cases hlj : j < la
              · have hjl : j < l.length := by rw [← Hla.out]; exact hlj
                have hfl : IsFiles wr (.slice Aa la ca) l := HO.out.files
                obtain ⟨A8, c8, e8, _, _, hsl8, _, _⟩ := hfl
                injection e8 with e81 e82 e83
                subst e81 e83
                clear e82
                obtain ⟨b, o, rfl, ca0, ca1, ca2, ca3, ca4⟩ := files_cells hsl8 hjl
                have HT : Hid (maxStamp c (flOf (l.take (j + 1))) = max (maxStamp c (flOf (l.take j))) l[j].1.stamp) := Lib.hid (by
                  rw [take_snoc _ _ hjl]; unfold flOf; rw [List.map_append]; exact maxStamp_snoc _ _ _)
                have HTb : Hid (0 ≤ maxStamp c (flOf (l.take (j + 1))) ∧ maxStamp c (flOf (l.take (j + 1))) ≤ 1000000) := Lib.hid ⟨by have := (maxStamp_le c (flOf (l.take (j + 1)))).1; omega, maxStamp_lub _ _ _ hc1' (fun f hf => by
                  obtain ⟨v, hv, rfl⟩ := List.mem_map.1 hf
                  exact (HSt.out v.1 (List.mem_map_of_mem (List.mem_of_mem_take hv))).2)⟩
                obtain ⟨fx, hfx⟩ : ∃ fx, fx = l[j] := ⟨_, rfl⟩
                rw [← hfx] at HT ca0 ca1 ca2 ca3 ca4
                clear hfx hjl
                obtain ⟨⟨n1, b1, s1, d1, g1⟩, A3, l3, c3⟩ := fx
                simp only [slv] at ca0 ca1 ca2 ca3 ca4
                obtain ⟨cur, hcur⟩ : ∃ cur, cur = maxStamp c (flOf (l.take j)) := ⟨_, rfl⟩
                obtain ⟨nxt, hnxt⟩ : ∃ nxt, nxt = maxStamp c (flOf (l.take (j + 1))) := ⟨_, rfl⟩
                have Hnxt := Lib.hid hnxt
                rw [← hcur] at HS HT
                rw [← hnxt] at HT HTb
                clear hcur hnxt
                have hsc := HS.out.own.clock
                dsimp only at hsc
                rw [Hu1.out.2.1, List.length_set, Hcu.out] at hsc
                have hcc : wr.cell? ⟨gc, i, none⟩ = some (.int .i64 cur) := by
                  have := own_clock hsc (by rw [List.length_set]; exact Hcu.out) (k := i) (by rw [List.length_set, Hcu.out]; exact hlt)
                  rw [this]
                  simp
                have hfz : ∀ w', Below wr.heap.size wr w' → w'.frozen? ⟨gc, i, none⟩ = false := fun w' hb => by
                  exact (own_keep hsc hb).frozenAt _
                have Hfz := Lib.hid hfz
                obtain ⟨w12, hw12⟩ : ∃ w12, w12 = wr.alloc (.cells #[.string (strB n1), .slice A3 l3 c3, .int .i64 s1, .int .i64 d1, .bool g1] 49) := ⟨_, rfl⟩
                obtain ⟨gf, hgf⟩ : ∃ gf, gf = wr.heap.size := ⟨_, rfl⟩
                have hb2 : Below wr.heap.size wr w12 := by rw [hw12]; exact (Below.refl _ _).alloc (Nat.le_refl _) _
                have HF2 := Lib.hid (show Blk w12 gf 49 #[.string (strB n1), .slice A3 l3 c3, .int .i64 s1, .int .i64 d1, .bool g1] by rw [hw12, hgf]; exact Blk.new _ _ _)
                have S2 := Lib.hid (HS.out.step hb2)
                have O2 := Lib.hid (HO.out.below hb2)
                have Hb2' := Lib.hid hb2
                have HW2 : Hid (w12.cell? ⟨g, 1, none⟩ = some (.slice (some ⟨gc, 0, none⟩) k kc)) := Lib.hid (by
                  rw [S2.out.bw.cell]
                  show some u1.vc = _
                  rw [Hu1.out.2.1])
                have HC2 := Lib.hid (cell_below hb2 hcc)
                have Hw2 := Lib.hid hw12.symm
                have Hgf := Lib.hid hgf.symm
                have Hsc := Lib.hid hsc
                clear hw12 hgf hb2 hcc hsc hfz hsl8
                go_wp2_with fail
                rw [Hw2.out, Hgf.out]
                have q1 := fun p : BelowBy w12 => BelowBy.cell HW2.out p
                have q3 := fun p : BelowBy w12 => BelowBy.cell HC2.out p
                have q4 := pcell HF2.out 2 _ rfl
                have hmax := fun (ts : Array TypeId) (ty : TypeId) (W : World) => run_max2 (P := Tryz.prog) ts ty cur s1 W
                go_wp2_with fail
                refine wp_region_below_tail 12 (by kernel_rfl) (by kernel_rfl) ?_
                simp only [List.take_succ_cons, List.take_zero, List.drop_succ_cons, List.drop_zero]
                repeat (quiet_step (fail))
                refine wpQuiet_nil ?_
                intro w13 hq
                have hb3 : Below w12.heap.size w12 w13 := by obtain ⟨p, hp⟩ := hq; rw [hp]; exact p.h
                have S3 := Lib.hid (S2.out.step hb3)
                have O3 := Lib.hid (O2.out.below hb3)
                have hC3 := cell_below hb3 HC2.out
                have hf3 := Hfz.out w13 (Hb2'.out.trans (hb3.mono Hb2'.out.size))
                have hsc3 := own_keep Hsc.out (Hb2'.out.trans (hb3.mono Hb2'.out.size))
                have S4 : Hid (StT w (w13.setCell ⟨gc, i, none⟩ (.int .i64 (max cur s1))) g (g + 1) { u1 with clock := u1.clock.set i nxt }) := Lib.hid (by
                  rw [← HT.out]
                  have ho := S3.out.own
                  have h4 := OwnW.setClock (k := i) ho (n := k) (c := kc) (g := gc) Hu1.out.2.1 (by show (u1.clock.set i cur).length = k; rw [List.length_set]; exact Hcu.out) nxt (wf_mk HTb.out.1 HTb.out.2)
                  dsimp only at h4
                  rw [List.set_set] at h4
                  exact ⟨S3.out.below.setCell (show w.heap.size ≤ (⟨gc, i, none⟩ : Addr).block from (own_blk hsc3).1) _, S3.out.bw.far (p := ⟨gc, i, none⟩) (Ne.symm hcw) _, S3.out.bx.far (p := ⟨gc, i, none⟩) (Ne.symm hcx) _, h4⟩)
                have O4 : Hid (OwnFs (w13.setCell ⟨gc, i, none⟩ (.int .i64 (max cur s1))) w.heap.size (.slice (some ⟨b, o, none⟩) la ca) l) := Lib.hid (by
                  obtain ⟨_, csn, hblkn⟩ := own_blk hsc3
                  exact O3.out.set_ hblkn (by decide) (by decide) i _)
                clear hq hb3 q1 q3 q4 hmax HS HO S2 O2 HC2 HW2 HF2 S3 O3 Hfz Hsc hsc3
                go_wp2_with fail
                go_roundw
                case rel => exact ⟨j + 1, by omega, by go_num, by rw [← Hnxt.out]; exact S4.out, O4.out⟩
                case measure => simp [intOf]; omega
              · obtain rfl : j = la := by omega
                have hall : l.take j = l := List.take_of_length_le (by rw [← Hla.out]; exact Nat.le_refl _)
                rw [hall] at HS
                clear hall
                have HM1 : Hid (Mid w wr g gn gc k kn kc z (.slice Aa j ca) l (i + 1) { u1 with clock := u1.clock.set i (maxStamp c (flOf l)) }) := Lib.hid
                  ⟨HS.out, Hu1.out.1, Hu1.out.2.1, Hu1.out.2.2.1, Hu1.out.2.2.2.1, Hu1.out.2.2.2.2.1, Hu1.out.2.2.2.2.2.2, by
                    dsimp only
                    rw [Hu1.out.2.2.2.2.2.1, HM.out.clock, Hc2.out Hzc.out]
                    exact pre_set (fun c => maxStamp c (flOf l)) z.clock i Hzc.out, HO.out⟩
                go_wp2_with fail
                go_roundw
                case rel => exact ⟨i + 1, by omega, by go_num, _, HM1.out⟩
                case measure => simp [intOf]; omega
          · obtain rfl : i = k := by omega
            have HF3 := Lib.hid (((HM.out.st.bx.set_ 0 (.slice (some ⟨gn, 0, none⟩) i kn)).set_ 1 (.slice (some ⟨gc, 0, none⟩) i kc)).set_ 2 (.slice none 0 0))
            have HO3 := Lib.hid (((HM.out.st.own.set_ HM.out.st.bx (by decide) (by decide) (by decide) (by decide) (by decide) 0 (.slice (some ⟨gn, 0, none⟩) i kn)).set_ (HM.out.st.bx.set_ 0 (.slice (some ⟨gn, 0, none⟩) i kn)) (by decide) (by decide) (by decide) (by decide) (by decide) 1 (.slice (some ⟨gc, 0, none⟩) i kc)).set_ ((HM.out.st.bx.set_ 0 (.slice (some ⟨gn, 0, none⟩) i kn)).set_ 1 (.slice (some ⟨gc, 0, none⟩) i kc)) (by decide) (by decide) (by decide) (by decide) (by decide) 2 (.slice none 0 0))
            have Hb6 := Lib.hid (((HM.out.st.below.setCell (show w.heap.size ≤ (⟨g + 1, 0, none⟩ : Addr).block from hwg1) (.slice (some ⟨gn, 0, none⟩) i kn)).setCell (show w.heap.size ≤ (⟨g + 1, 1, none⟩ : Addr).block from hwg1) (.slice (some ⟨gc, 0, none⟩) i kc)).setCell (show w.heap.size ≤ (⟨g + 1, 2, none⟩ : Addr).block from hwg1) (.slice none 0 0))
            obtain ⟨b0, b1, b2⟩ := blk3 HBw.out
            obtain ⟨e0, e1, e2⟩ := blk3 HM.out.st.bx
            have f0 := HM.out.st.bx.frozen 0
            have f1 := HM.out.st.bx.frozen 1
            have f2 := HM.out.st.bx.frozen 2
            clear hB
            go_wp2_with fail
            refine bodyPost_ret (results_cell_row_tmp rfl _ _ (g + 1) 26 #[.slice (some ⟨gn, 0, none⟩) i kn, .slice (some ⟨gc, 0, none⟩) i kc, .slice none 0 0] (0, 0) _ rfl HF3.out Tryz.underlying26 rfl (by kernel_rfl)) rfl ?_
            refine ⟨u, by rw [HU.out]; unfold wV; rw [HM.out.vn, HM.out.vc, HM.out.vt]; rfl, HO3.out, ?_, Hb6.out⟩
            rw [HU.out, show u.wd = ⟨u.nodes.map fun m => flOf m.2, u.clock, u.net.map msOf⟩ from rfl, HM.out.nodes, HM.out.clock, HM.out.net, pre_all _ _ _ (by rw [List.length_map, Hz.out.2.2.2.1]; exact Nat.le_refl _), pre_all _ _ _ (by rw [Hz.out.2.2.2.2.1]; exact Nat.le_refl _)]
            rfl
  · have HU := Lib.hid (HR1.out he)
    have HF3 := Lib.hid (((HB4.out.set_ 0 (.slice none 0 0)).set_ 1 (.slice none 0 0)).set_ 2 (.slice none 0 0))
    have Hb6 := Lib.hid (((Hb2.out.setCell (show w.heap.size ≤ (⟨g + 1, 0, none⟩ : Addr).block from hwg1) (.slice none 0 0)).setCell (show w.heap.size ≤ (⟨g + 1, 1, none⟩ : Addr).block from hwg1) (.slice none 0 0)).setCell (show w.heap.size ≤ (⟨g + 1, 2, none⟩ : Addr).block from hwg1) (.slice none 0 0))
    obtain ⟨b0, b1, b2⟩ := blk3 HB4.out
    have f0 := HB4.out.frozen 0
    have f1 := HB4.out.frozen 1
    have f2 := HB4.out.frozen 2
    obtain ⟨z, hz⟩ : ∃ z, z = chkW x.wd := ⟨_, rfl⟩
    rw [← hz] at HU he ⊢
    have hz1 : (z != 0) = true := by simpa using he
    clear hz he HR1 HR2 HR3
    go_wp2_with fail
    refine bodyPost_ret (results_cell_row_tmp rfl _ _ (g + 1) 26 #[.slice none 0 0, .slice none 0 0, .slice none 0 0] (0, 0) _ rfl HF3.out Tryz.underlying26 rfl (by kernel_rfl)) rfl ?_
    exact ⟨wx0, by rw [HU.out]; rfl, OwnW.none_ _ _, by rw [HU.out]; rfl, Hb6.out⟩
end Go.Proofs.YtdoegpklephelaaGreatDoor.Worlds
