/- package world: step. -/
import Derived.Test.YtdoegpklephelaaGreatDoorWorldArr
import Derived.Test.YtdoegpklephelaaGreatDoorRefMix
namespace Go.Proofs.YtdoegpklephelaaGreatDoor.Worlds
open Go Go.RowKit Go.Proofs.YtdoegpklephelaaGreatDoor Go.Proofs.YtdoegpklephelaaGreatDoor.Name Go.Proofs.YtdoegpklephelaaGreatDoor.Merge
set_option linter.unusedVariables false
set_option linter.unusedSimpArgs false

/-- what stands while a step is walked -/
structure StS (w_ w0 w : World) (gw g2 g3 : Nat) (x : Wx) (h : Hx) : Prop where
  below : Below w0.heap.size w0 w
  bw : Blk w gw 26 #[x.vn, x.vc, x.vt]
  b2 : Blk w g2 56 #[.pointer (some ⟨gw, 0, none⟩)]
  b3 : Blk w g3 29 (hC h).toArray
  own : OwnW w w0.heap.size x
  kr : KR w_ w gw
theorem StS.step {w_ w0 w w' : World} {gw g2 g3 : Nat} {x : Wx} {h : Hx} (s : StS w_ w0 w gw g2 g3 x h) (hb : Below w.heap.size w w') : StS w_ w0 w' gw g2 g3 x h :=
  ⟨s.below.trans (hb.mono s.below.size), s.bw.below hb s.bw.lt, s.b2.below hb s.b2.lt, s.b3.below hb s.b3.lt, s.own.below hb, s.kr.step hb⟩
def outB (n : Nat) (k : Int) : Int := if k < 0 ∨ (n : Int) ≤ k then 5 else 0
theorem outB_bad {n : Nat} {k : Int} (h : k < 0 ∨ (n : Int) ≤ k) : outB n k = 5 := by unfold outB; rw [if_pos h]
theorem outB_ok {n : Nat} {k : Int} (h : ¬ (k < 0 ∨ (n : Int) ≤ k)) : outB n k = 0 := by unfold outB; rw [if_neg h]
theorem node1_any (k : Int) (A : Option Addr) (n c gw g2 : Nat) (v1 v2 : Value) (w : World) (h2 : Blk w g2 56 #[.pointer (some ⟨gw, 0, none⟩)]) (hw : Blk w gw 26 #[.slice A n c, v1, v2]) :
    Calls Tryz.prog 42 #[.int .i64 k, .pointer (some ⟨g2, 0, none⟩)] w fun e w' => e = .returned (.int .i64 (outB n k)) ∧ Below w.heap.size w w' := by
  have c0 : w.cell? ⟨g2, 0, none⟩ = some (.pointer (some ⟨gw, 0, none⟩)) := by rw [h2.cell]; rfl
  have c1 : w.cell? ⟨gw, 0, none⟩ = some (.slice A n c) := by rw [hw.cell]; rfl
  clear h2 hw
  by_cases h : k < 0 ∨ (n : Int) ≤ k
  · rw [outB_bad h]
    rcases (by omega : k < 0 ∨ (¬ k < 0 ∧ (n : Int) ≤ k)) with h1 | ⟨h1, h2⟩
    · clear h
      go_enter Tryz.func42, Tryz.ntmps42
      go_wp2
      go_ret
      exact ⟨rfl, Below.refl _ _⟩
    · clear h
      go_enter Tryz.func42, Tryz.ntmps42
      go_wp2
      go_ret
      exact ⟨rfl, Below.refl _ _⟩
  · rw [outB_ok h]
    have h1 : ¬ k < 0 := by omega
    have h2 : ¬ (n : Int) ≤ k := by omega
    clear h
    go_enter Tryz.func42, Tryz.ntmps42
    go_wp2
    go_ret
    exact ⟨rfl, Below.refl _ _⟩
set_option maxHeartbeats 2000000 in
theorem msg1_any (k : Int) (A : Option Addr) (n c gw g2 g3 : Nat) (v0 v1 u0 u1 u3 u4 : Value) (w : World) (h2 : Blk w g2 56 #[.pointer (some ⟨gw, 0, none⟩)]) (hw : Blk w gw 26 #[v0, v1, .slice A n c]) (h3 : Blk w g3 29 #[u0, u1, .int .i64 k, u3, u4]) :
    Calls Tryz.prog 41 #[.pointer (some ⟨g3, 0, none⟩), .pointer (some ⟨g2, 0, none⟩)] w fun e w' => e = .returned (.int .i64 (outB n k)) ∧ Below w.heap.size w w' := by
  have p0 := pcell h2 0 _ rfl
  have p1 := pcell hw 2 _ rfl
  have p2 := pcell h3 2 _ rfl
  clear h2 hw h3
  by_cases h : k < 0 ∨ (n : Int) ≤ k
  · rw [outB_bad h]
    rcases (by omega : k < 0 ∨ (¬ k < 0 ∧ (n : Int) ≤ k)) with h1 | ⟨h1, h2⟩
    · clear h
      go_enter Tryz.func41, Tryz.ntmps41
      go_wp2_with fail
      refine wp_region_below (by kernel_rfl) (by kernel_rfl) ?_
      repeat (quiet_step (fail))
      refine wpQuiet_nil ?_
      intro w3 hq
      have hb3 : Below w.heap.size w w3 := by obtain ⟨p, hp⟩ := hq; rw [hp]; exact p.h
      clear hq p0 p1 p2
      go_wp2_with fail
      go_ret
      exact ⟨rfl, hb3⟩
    · have hd1 : decide (k < 0) = false := decide_eq_false h1
      clear h
      go_enter Tryz.func41, Tryz.ntmps41
      go_wp2_with fail
      refine wp_region_below (by kernel_rfl) (by kernel_rfl) ?_
      repeat (quiet_step (fail))
      refine wpQuiet_nil ?_
      intro w3 hq
      have hb3 : Below w.heap.size w w3 := by obtain ⟨p, hp⟩ := hq; rw [hp]; exact p.h
      clear hq p0 p1 p2
      go_wp2_with fail
      go_ret
      exact ⟨rfl, hb3⟩
  · rw [outB_ok h]
    have h1 : ¬ k < 0 := by omega
    have h2 : ¬ (n : Int) ≤ k := by omega
    have hd1 : decide (k < 0) = false := decide_eq_false h1
    have hd2 : decide ((n : Int) ≤ k) = false := decide_eq_false h2
    clear h
    go_enter Tryz.func41, Tryz.ntmps41
    go_wp2_with fail
    refine wp_region_below (by kernel_rfl) (by kernel_rfl) ?_
    repeat (quiet_step (fail))
    refine wpQuiet_nil ?_
    intro w3 hq
    have hb3 : Below w.heap.size w w3 := by obtain ⟨p, hp⟩ := hq; rw [hp]; exact p.h
    clear hq p0 p1 p2
    go_wp2_with fail
    go_ret
    exact ⟨rfl, hb3⟩
theorem stepR_1 {w : Wd} {x : Hp} (h : x.kind = 1 ∨ x.kind = 2) : stepR w x = if x.node < 0 ∨ (w.nodes.length : Int) ≤ x.node then (5, .none_) else putR w x := by unfold stepR; rw [if_pos h]
theorem stepR_3 {w : Wd} {x : Hp} (h : x.kind = 3) : stepR w x = if (x.node < 0 ∨ (w.nodes.length : Int) ≤ x.node) ∨ (x.to_ < 0 ∨ (w.nodes.length : Int) ≤ x.to_) then (5, .none_) else if w.net.length = 20 then (11, .none_) else (0, ⟨w.nodes, w.clock, w.net ++ [⟨x.to_, w.nodes.getD x.node.toNat []⟩]⟩) := by
  unfold stepR; rw [if_neg (by omega), if_pos h]
theorem stepR_4 {w : Wd} {x : Hp} (h : x.kind = 4) : stepR w x = if x.to_ < 0 ∨ (w.net.length : Int) ≤ x.to_ then (5, .none_) else arriveR w x.to_.toNat := by
  unfold stepR; rw [if_neg (by omega), if_neg (by omega), if_pos (by omega)]; simp only [h, if_true]
theorem stepR_5 {w : Wd} {x : Hp} (h : x.kind = 5) : stepR w x = if x.to_ < 0 ∨ (w.net.length : Int) ≤ x.to_ then (5, .none_) else (0, ⟨w.nodes, w.clock, w.net.eraseIdx x.to_.toNat⟩) := by
  unfold stepR; rw [if_neg (by omega), if_neg (by omega), if_pos (by omega), if_neg (show ¬ x.kind = 4 by omega), if_pos h]
theorem stepR_6 {w : Wd} {x : Hp} (h : x.kind = 6) : stepR w x = if x.to_ < 0 ∨ (w.net.length : Int) ≤ x.to_ then (5, .none_) else if w.net.length = 20 then (11, .none_) else (0, ⟨w.nodes, w.clock, w.net ++ [msAt w x.to_.toNat]⟩) := by
  unfold stepR; rw [if_neg (by omega), if_neg (by omega), if_pos (by omega), if_neg (show ¬ x.kind = 4 by omega), if_neg (show ¬ x.kind = 5 by omega)]
theorem stepR_0 {w : Wd} {x : Hp} (h : ¬ (1 ≤ x.kind ∧ x.kind ≤ 6)) : stepR w x = (3, .none_) := by
  unfold stepR; rw [if_neg (by omega), if_neg (by omega), if_neg (by omega)]
theorem happ_back {w : World} {h : Hx} (hh : HapAt w h) : hV h = .agg (hC h).toArray := rfl
set_option maxRecDepth 100000 in
set_option maxHeartbeats 6000000 in
theorem step_put (w0 w : World) (gw : Nat) (x : Wx) (h : Hx) (hml : ML w0) (hb : Below w0.heap.size w0 w) (hgw : w0.heap.size ≤ gw) (hB : Blk w gw 26 #[x.vn, x.vc, x.vt]) (hO : OwnW w w0.heap.size x) (hw : WOk x.wd) (hh : HapAt w0 h) (hkind : h.1.kind = 1) :
    Calls Tryz.prog 21 #[.pointer (some ⟨gw, 0, none⟩), hV h] w (StepPost w w0 gw (stepR x.wd h.1)) := by
  have hlen : x.clock.length = x.nodes.length := by have := hw.clock; simpa [Wx.wd] using this
  have hfew : x.nodes.length ≤ 4 := by have := hw.few; simpa [Wx.wd] using this
  have hsome : 1 ≤ x.nodes.length := by have := hw.some_; simpa [Wx.wd] using this
  have hnet : x.net.length ≤ 20 := by have := hw.net; simpa [Wx.wd] using this
  have hnl : x.wd.nodes.length = x.nodes.length := by simp [Wx.wd]
  have htl : x.wd.net.length = x.net.length := by simp [Wx.wd]
  obtain ⟨R, hR⟩ : ∃ R, R = stepR x.wd h.1 := ⟨_, rfl⟩
  have HR := Lib.hid (hR.trans (stepR_1 (by omega)))
  rw [hnl] at HR
  rw [← hR]
  obtain ⟨gn, cn, hvn, _, _, _, _⟩ := own_at hO.nodes (by omega)
  obtain ⟨gc, cc, hvc, _, _, _, _⟩ := own_at hO.clock (by omega)
  obtain ⟨At, ct, hvt, _⟩ : ∃ A c, x.vt = .slice A x.net.length c ∧ True := by obtain ⟨A, c, h, _⟩ := own_slat hO.net; exact ⟨A, c, h, trivial⟩
  have hB' := hB
  rw [hvn, hvc, hvt] at hB'
  have Hvn := Lib.hid hvn
  have Hvc := Lib.hid hvc
  have Hvt := Lib.hid hvt
  obtain ⟨n, hn⟩ : ∃ n, n = x.nodes.length := ⟨_, rfl⟩
  obtain ⟨q, hq⟩ : ∃ q, q = x.net.length := ⟨_, rfl⟩
  rw [hlen] at hB'
  rw [← hn] at hB' hfew hsome
  rw [← hq] at hB' hnet
  rw [← hn] at HR
  have Hn := Lib.hid hn
  have Hq := Lib.hid hq
  have Hlen := Lib.hid hlen
  have HH := Lib.hid hh
  have HML := Lib.hid hml
  have HW := Lib.hid hw
  obtain ⟨⟨kind, node, to_, nm, bytes⟩, Ab, nb, cb⟩ := h
  dsimp only at hkind HR
  subst hkind
  obtain ⟨g2, hg2⟩ : ∃ g2, g2 = w.heap.size := ⟨_, rfl⟩
  obtain ⟨g3, hg3⟩ : ∃ g3, g3 = w.heap.size + 1 := ⟨_, rfl⟩
  obtain ⟨w1, hw1⟩ : ∃ w1, w1 = (w.alloc (.cells #[.pointer (some ⟨gw, 0, none⟩)] 56)).alloc (.cells #[.int .i64 1, .int .i64 node, .int .i64 to_, .string (strB nm), .slice Ab nb cb] 29) := ⟨_, rfl⟩
  have hb1 : Below w.heap.size w w1 := by rw [hw1]; exact ((Below.refl _ _).alloc (Nat.le_refl _) _).alloc (by simp) _
  have HB1 := Lib.hid (hB'.below hb1 hB'.lt)
  have S1 := Lib.hid (show StS w w0 w1 gw g2 g3 x (⟨1, node, to_, nm, bytes⟩, Ab, nb, cb) from ⟨hb.trans (hb1.mono hb.size), hB.below hb1 hB.lt, by rw [hw1, hg2]; exact (Blk.new _ _ _).alloc _, by
    rw [hw1, hg3, show w.heap.size + 1 = (w.alloc (.cells #[.pointer (some ⟨gw, 0, none⟩)] 56)).heap.size by simp]
    exact Blk.new _ _ _, hO.below hb1, KR.start hb1⟩)
  have H31 := Lib.hid (show Blk w1 g3 29 #[.int .i64 1, .int .i64 node, .int .i64 to_, .string (strB nm), .slice Ab nb cb] from S1.out.b3)
  have Hw1 := Lib.hid hw1.symm
  have Hg2 := Lib.hid hg2.symm
  have Hg3 := Lib.hid hg3.symm
  have hgw3 : g3 ≠ gw := by have := hB.lt; omega
  have hgw2 : g2 ≠ gw := by have := hB.lt; omega
  have hg2b : w0.heap.size ≤ g2 := by have := hb.size; omega
  have hg3b : w0.heap.size ≤ g3 := by have := hb.size; omega
  unfold hV slv
  dsimp only
  clear hvn hvc hvt hn hq hlen hh hml hw hR hnl htl hw1 hg2 hg3 hb1 hB hB' hb hO
  have HN := Lib.hid (node1_any node (some ⟨gn, 0, none⟩) n cn gw g2 _ _ w1 S1.out.b2 HB1.out)
  go_enter Tryz.func21, Tryz.ntmps21
  go_wp2_with fail
  rw [Hw1.out, Hg3.out, Hg2.out]
  clear Hw1 Hg2 Hg3
  refine (HN.out).mono ?_
  rintro e w2 ⟨rfl, hb2⟩
  have S2 := Lib.hid (S1.out.step hb2)
  have H32 := Lib.hid (H31.out.below hb2 H31.out.lt)
  clear hb2 HN S1 HB1 H31
  by_cases hbad : node < 0 ∨ (n : Int) ≤ node
  · have HU : Hid (R = (5, .none_)) := Lib.hid (by rw [HR.out, if_pos hbad])
    rw [outB_bad hbad]
    clear hbad
    go_wp2_with fail
    go_ret
    exact StepPost.err HU.out (by decide) S2.out.below S2.out.kr
  · have HU : Hid (R = putR x.wd ⟨1, node, to_, nm, bytes⟩) := Lib.hid (by rw [HR.out, if_neg hbad])
    rw [outB_ok hbad]
    obtain ⟨k, rfl⟩ : ∃ k : Nat, node = (k : Int) := ⟨node.toNat, by omega⟩
    have hkn : k < n := by omega
    have HP := Lib.hid (putW_put w0 w2 gw x (⟨1, (k : Int), to_, nm, bytes⟩, Ab, nb, cb) HML.out S2.out.below hgw S2.out.bw S2.out.own HW.out HH.out k rfl (by rw [← Hn.out]; exact hkn) rfl)
    unfold hV slv at HP
    dsimp only at HP
    have d0 : w2.cell? ⟨g2, 0, none⟩ = some (.pointer (some ⟨gw, 0, none⟩)) := by rw [S2.out.b2.cell]; rfl
    have d1 : w2.cell? ⟨g3, 0, none⟩ = some (.int .i64 1) := by rw [H32.out.cell]; rfl
    have d2 : w2.cell? ⟨g3, 1, none⟩ = some (.int .i64 (k : Int)) := by rw [H32.out.cell]; rfl
    have d3 : w2.cell? ⟨g3, 2, none⟩ = some (.int .i64 to_) := by rw [H32.out.cell]; rfl
    have d4 : w2.cell? ⟨g3, 3, none⟩ = some (.string (strB nm)) := by rw [H32.out.cell]; rfl
    have d5 : w2.cell? ⟨g3, 4, none⟩ = some (.slice Ab nb cb) := by rw [H32.out.cell]; rfl
    clear hbad HR
    go_wp2_with fail
    refine (HP.out).mono ?_
    rintro e w3 ⟨rfl, hb3, hy3, hk3⟩
    rw [← HU.out] at hy3 ⊢
    have Hres := Lib.hid (And.intro hb3 (And.intro hy3 (S2.out.kr.trans hk3)))
    obtain ⟨z, hz⟩ : ∃ z, R.1 = z := ⟨_, rfl⟩
    have Hz := Lib.hid hz
    rw [hz]
    clear hb3 hy3 hk3 HP d0 d1 d2 d3 d4 d5 hz
    go_wp2_with fail
    go_ret
    exact ⟨by rw [Hz.out]; rfl, Hres.out.1, Hres.out.2.1, Hres.out.2.2⟩
set_option maxRecDepth 100000 in
set_option maxHeartbeats 6000000 in
theorem step_take (w0 w : World) (gw : Nat) (x : Wx) (h : Hx) (hml : ML w0) (hb : Below w0.heap.size w0 w) (hgw : w0.heap.size ≤ gw) (hB : Blk w gw 26 #[x.vn, x.vc, x.vt]) (hO : OwnW w w0.heap.size x) (hw : WOk x.wd) (hh : HapAt w0 h) (hkind : h.1.kind = 2) :
    Calls Tryz.prog 21 #[.pointer (some ⟨gw, 0, none⟩), hV h] w (StepPost w w0 gw (stepR x.wd h.1)) := by
  have hlen : x.clock.length = x.nodes.length := by have := hw.clock; simpa [Wx.wd] using this
  have hfew : x.nodes.length ≤ 4 := by have := hw.few; simpa [Wx.wd] using this
  have hsome : 1 ≤ x.nodes.length := by have := hw.some_; simpa [Wx.wd] using this
  have hnet : x.net.length ≤ 20 := by have := hw.net; simpa [Wx.wd] using this
  have hnl : x.wd.nodes.length = x.nodes.length := by simp [Wx.wd]
  have htl : x.wd.net.length = x.net.length := by simp [Wx.wd]
  obtain ⟨R, hR⟩ : ∃ R, R = stepR x.wd h.1 := ⟨_, rfl⟩
  have HR := Lib.hid (hR.trans (stepR_1 (by omega)))
  rw [hnl] at HR
  rw [← hR]
  obtain ⟨gn, cn, hvn, _, _, _, _⟩ := own_at hO.nodes (by omega)
  obtain ⟨gc, cc, hvc, _, _, _, _⟩ := own_at hO.clock (by omega)
  obtain ⟨At, ct, hvt, _⟩ : ∃ A c, x.vt = .slice A x.net.length c ∧ True := by obtain ⟨A, c, h, _⟩ := own_slat hO.net; exact ⟨A, c, h, trivial⟩
  have hB' := hB
  rw [hvn, hvc, hvt] at hB'
  have Hvn := Lib.hid hvn
  have Hvc := Lib.hid hvc
  have Hvt := Lib.hid hvt
  obtain ⟨n, hn⟩ : ∃ n, n = x.nodes.length := ⟨_, rfl⟩
  obtain ⟨q, hq⟩ : ∃ q, q = x.net.length := ⟨_, rfl⟩
  rw [hlen] at hB'
  rw [← hn] at hB' hfew hsome
  rw [← hq] at hB' hnet
  rw [← hn] at HR
  have Hn := Lib.hid hn
  have Hq := Lib.hid hq
  have Hlen := Lib.hid hlen
  have HH := Lib.hid hh
  have HML := Lib.hid hml
  have HW := Lib.hid hw
  obtain ⟨⟨kind, node, to_, nm, bytes⟩, Ab, nb, cb⟩ := h
  dsimp only at hkind HR
  subst hkind
  obtain ⟨g2, hg2⟩ : ∃ g2, g2 = w.heap.size := ⟨_, rfl⟩
  obtain ⟨g3, hg3⟩ : ∃ g3, g3 = w.heap.size + 1 := ⟨_, rfl⟩
  obtain ⟨w1, hw1⟩ : ∃ w1, w1 = (w.alloc (.cells #[.pointer (some ⟨gw, 0, none⟩)] 56)).alloc (.cells #[.int .i64 2, .int .i64 node, .int .i64 to_, .string (strB nm), .slice Ab nb cb] 29) := ⟨_, rfl⟩
  have hb1 : Below w.heap.size w w1 := by rw [hw1]; exact ((Below.refl _ _).alloc (Nat.le_refl _) _).alloc (by simp) _
  have HB1 := Lib.hid (hB'.below hb1 hB'.lt)
  have S1 := Lib.hid (show StS w w0 w1 gw g2 g3 x (⟨2, node, to_, nm, bytes⟩, Ab, nb, cb) from ⟨hb.trans (hb1.mono hb.size), hB.below hb1 hB.lt, by rw [hw1, hg2]; exact (Blk.new _ _ _).alloc _, by
    rw [hw1, hg3, show w.heap.size + 1 = (w.alloc (.cells #[.pointer (some ⟨gw, 0, none⟩)] 56)).heap.size by simp]
    exact Blk.new _ _ _, hO.below hb1, KR.start hb1⟩)
  have H31 := Lib.hid (show Blk w1 g3 29 #[.int .i64 2, .int .i64 node, .int .i64 to_, .string (strB nm), .slice Ab nb cb] from S1.out.b3)
  have Hw1 := Lib.hid hw1.symm
  have Hg2 := Lib.hid hg2.symm
  have Hg3 := Lib.hid hg3.symm
  have hgw3 : g3 ≠ gw := by have := hB.lt; omega
  have hgw2 : g2 ≠ gw := by have := hB.lt; omega
  have hg2b : w0.heap.size ≤ g2 := by have := hb.size; omega
  have hg3b : w0.heap.size ≤ g3 := by have := hb.size; omega
  unfold hV slv
  dsimp only
  clear hvn hvc hvt hn hq hlen hh hml hw hR hnl htl hw1 hg2 hg3 hb1 hB hB' hb hO
  have HN := Lib.hid (node1_any node (some ⟨gn, 0, none⟩) n cn gw g2 _ _ w1 S1.out.b2 HB1.out)
  go_enter Tryz.func21, Tryz.ntmps21
  go_wp2_with fail
  rw [Hw1.out, Hg3.out, Hg2.out]
  clear Hw1 Hg2 Hg3
  refine (HN.out).mono ?_
  rintro e w2 ⟨rfl, hb2⟩
  have S2 := Lib.hid (S1.out.step hb2)
  have H32 := Lib.hid (H31.out.below hb2 H31.out.lt)
  clear hb2 HN S1 HB1 H31
  by_cases hbad : node < 0 ∨ (n : Int) ≤ node
  · have HU : Hid (R = (5, .none_)) := Lib.hid (by rw [HR.out, if_pos hbad])
    rw [outB_bad hbad]
    clear hbad
    go_wp2_with fail
    go_ret
    exact StepPost.err HU.out (by decide) S2.out.below S2.out.kr
  · have HU : Hid (R = putR x.wd ⟨2, node, to_, nm, bytes⟩) := Lib.hid (by rw [HR.out, if_neg hbad])
    rw [outB_ok hbad]
    obtain ⟨k, rfl⟩ : ∃ k : Nat, node = (k : Int) := ⟨node.toNat, by omega⟩
    have hkn : k < n := by omega
    have HP := Lib.hid (putW_take w0 w2 gw x (⟨2, (k : Int), to_, nm, bytes⟩, Ab, nb, cb) HML.out S2.out.below hgw S2.out.bw S2.out.own HW.out HH.out k rfl (by rw [← Hn.out]; exact hkn) rfl)
    unfold hV slv at HP
    dsimp only at HP
    have d0 : w2.cell? ⟨g2, 0, none⟩ = some (.pointer (some ⟨gw, 0, none⟩)) := by rw [S2.out.b2.cell]; rfl
    have d1 : w2.cell? ⟨g3, 0, none⟩ = some (.int .i64 2) := by rw [H32.out.cell]; rfl
    have d2 : w2.cell? ⟨g3, 1, none⟩ = some (.int .i64 (k : Int)) := by rw [H32.out.cell]; rfl
    have d3 : w2.cell? ⟨g3, 2, none⟩ = some (.int .i64 to_) := by rw [H32.out.cell]; rfl
    have d4 : w2.cell? ⟨g3, 3, none⟩ = some (.string (strB nm)) := by rw [H32.out.cell]; rfl
    have d5 : w2.cell? ⟨g3, 4, none⟩ = some (.slice Ab nb cb) := by rw [H32.out.cell]; rfl
    clear hbad HR
    go_wp2_with fail
    refine (HP.out).mono ?_
    rintro e w3 ⟨rfl, hb3, hy3, hk3⟩
    rw [← HU.out] at hy3 ⊢
    have Hres := Lib.hid (And.intro hb3 (And.intro hy3 (S2.out.kr.trans hk3)))
    obtain ⟨z, hz⟩ : ∃ z, R.1 = z := ⟨_, rfl⟩
    have Hz := Lib.hid hz
    rw [hz]
    clear hb3 hy3 hk3 HP d0 d1 d2 d3 d4 d5 hz
    go_wp2_with fail
    go_ret
    exact ⟨by rw [Hz.out]; rfl, Hres.out.1, Hres.out.2.1, Hres.out.2.2⟩
set_option maxRecDepth 100000 in
set_option maxHeartbeats 6000000 in
theorem step_other (w0 w : World) (gw : Nat) (x : Wx) (h : Hx) (hml : ML w0) (hb : Below w0.heap.size w0 w) (hgw : w0.heap.size ≤ gw) (hB : Blk w gw 26 #[x.vn, x.vc, x.vt]) (hO : OwnW w w0.heap.size x) (hw : WOk x.wd) (hh : HapAt w0 h) (hkind : ¬ (1 ≤ h.1.kind ∧ h.1.kind ≤ 6)) :
    Calls Tryz.prog 21 #[.pointer (some ⟨gw, 0, none⟩), hV h] w (StepPost w w0 gw (stepR x.wd h.1)) := by
  have hlen : x.clock.length = x.nodes.length := by have := hw.clock; simpa [Wx.wd] using this
  have hfew : x.nodes.length ≤ 4 := by have := hw.few; simpa [Wx.wd] using this
  have hsome : 1 ≤ x.nodes.length := by have := hw.some_; simpa [Wx.wd] using this
  have hnet : x.net.length ≤ 20 := by have := hw.net; simpa [Wx.wd] using this
  have hnl : x.wd.nodes.length = x.nodes.length := by simp [Wx.wd]
  have htl : x.wd.net.length = x.net.length := by simp [Wx.wd]
  obtain ⟨R, hR⟩ : ∃ R, R = stepR x.wd h.1 := ⟨_, rfl⟩
  have HR := Lib.hid (hR.trans (stepR_0 hkind))
  rw [← hR]
  obtain ⟨gn, cn, hvn, _, _, _, _⟩ := own_at hO.nodes (by omega)
  obtain ⟨gc, cc, hvc, _, _, _, _⟩ := own_at hO.clock (by omega)
  obtain ⟨At, ct, hvt, _⟩ : ∃ A c, x.vt = .slice A x.net.length c ∧ True := by obtain ⟨A, c, h, _⟩ := own_slat hO.net; exact ⟨A, c, h, trivial⟩
  have hB' := hB
  rw [hvn, hvc, hvt] at hB'
  have Hvn := Lib.hid hvn
  have Hvc := Lib.hid hvc
  have Hvt := Lib.hid hvt
  obtain ⟨n, hn⟩ : ∃ n, n = x.nodes.length := ⟨_, rfl⟩
  obtain ⟨q, hq⟩ : ∃ q, q = x.net.length := ⟨_, rfl⟩
  rw [hlen] at hB'
  rw [← hn] at hB' hfew hsome
  rw [← hq] at hB' hnet
  have Hn := Lib.hid hn
  have Hq := Lib.hid hq
  have Hlen := Lib.hid hlen
  have HH := Lib.hid hh
  have HML := Lib.hid hml
  have HW := Lib.hid hw
  obtain ⟨⟨kind, node, to_, nm, bytes⟩, Ab, nb, cb⟩ := h
  dsimp only at hkind HR
  have _ := hkind
  obtain ⟨g2, hg2⟩ : ∃ g2, g2 = w.heap.size := ⟨_, rfl⟩
  obtain ⟨g3, hg3⟩ : ∃ g3, g3 = w.heap.size + 1 := ⟨_, rfl⟩
  obtain ⟨w1, hw1⟩ : ∃ w1, w1 = (w.alloc (.cells #[.pointer (some ⟨gw, 0, none⟩)] 56)).alloc (.cells #[.int .i64 kind, .int .i64 node, .int .i64 to_, .string (strB nm), .slice Ab nb cb] 29) := ⟨_, rfl⟩
  have hb1 : Below w.heap.size w w1 := by rw [hw1]; exact ((Below.refl _ _).alloc (Nat.le_refl _) _).alloc (by simp) _
  have HB1 := Lib.hid (hB'.below hb1 hB'.lt)
  have S1 := Lib.hid (show StS w w0 w1 gw g2 g3 x (⟨kind, node, to_, nm, bytes⟩, Ab, nb, cb) from ⟨hb.trans (hb1.mono hb.size), hB.below hb1 hB.lt, by rw [hw1, hg2]; exact (Blk.new _ _ _).alloc _, by
    rw [hw1, hg3, show w.heap.size + 1 = (w.alloc (.cells #[.pointer (some ⟨gw, 0, none⟩)] 56)).heap.size by simp]
    exact Blk.new _ _ _, hO.below hb1, KR.start hb1⟩)
  have H31 := Lib.hid (show Blk w1 g3 29 #[.int .i64 kind, .int .i64 node, .int .i64 to_, .string (strB nm), .slice Ab nb cb] from S1.out.b3)
  have Hw1 := Lib.hid hw1.symm
  have Hg2 := Lib.hid hg2.symm
  have Hg3 := Lib.hid hg3.symm
  have hgw3 : g3 ≠ gw := by have := hB.lt; omega
  have hgw2 : g2 ≠ gw := by have := hB.lt; omega
  have hg2b : w0.heap.size ≤ g2 := by have := hb.size; omega
  have hg3b : w0.heap.size ≤ g3 := by have := hb.size; omega
  unfold hV slv
  dsimp only
  clear hvn hvc hvt hn hq hlen hh hml hw hR hnl htl hw1 hg2 hg3 hb1 hB hB' hb hO
  have k1 : (kind == 1) = false := by rw [beq_eq_false_iff_ne]; omega
  have k2 : (kind == 2) = false := by rw [beq_eq_false_iff_ne]; omega
  have k3 : (kind == 3) = false := by rw [beq_eq_false_iff_ne]; omega
  have k4 : (kind == 4) = false := by rw [beq_eq_false_iff_ne]; omega
  have k5 : (kind == 5) = false := by rw [beq_eq_false_iff_ne]; omega
  have k6 : (kind == 6) = false := by rw [beq_eq_false_iff_ne]; omega
  clear hkind
  go_enter Tryz.func21, Tryz.ntmps21
  go_wp2_with fail
  rw [Hw1.out]
  go_ret
  exact StepPost.err HR.out (by decide) S1.out.below S1.out.kr
set_option maxRecDepth 100000 in
set_option maxHeartbeats 6000000 in
theorem step_arrive (w0 w : World) (gw : Nat) (x : Wx) (h : Hx) (hml : ML w0) (hb : Below w0.heap.size w0 w) (hgw : w0.heap.size ≤ gw) (hB : Blk w gw 26 #[x.vn, x.vc, x.vt]) (hO : OwnW w w0.heap.size x) (hw : WOk x.wd) (hh : HapAt w0 h) (hkind : h.1.kind = 4) :
    Calls Tryz.prog 21 #[.pointer (some ⟨gw, 0, none⟩), hV h] w (StepPost w w0 gw (stepR x.wd h.1)) := by
  have hlen : x.clock.length = x.nodes.length := by have := hw.clock; simpa [Wx.wd] using this
  have hfew : x.nodes.length ≤ 4 := by have := hw.few; simpa [Wx.wd] using this
  have hsome : 1 ≤ x.nodes.length := by have := hw.some_; simpa [Wx.wd] using this
  have hnet : x.net.length ≤ 20 := by have := hw.net; simpa [Wx.wd] using this
  have hnl : x.wd.nodes.length = x.nodes.length := by simp [Wx.wd]
  have htl : x.wd.net.length = x.net.length := by simp [Wx.wd]
  obtain ⟨R, hR⟩ : ∃ R, R = stepR x.wd h.1 := ⟨_, rfl⟩
  have HR := Lib.hid (hR.trans (stepR_4 hkind))
  rw [htl] at HR
  rw [← hR]
  obtain ⟨gn, cn, hvn, _, _, _, _⟩ := own_at hO.nodes (by omega)
  obtain ⟨gc, cc, hvc, _, _, _, _⟩ := own_at hO.clock (by omega)
  obtain ⟨At, ct, hvt, _⟩ : ∃ A c, x.vt = .slice A x.net.length c ∧ True := by obtain ⟨A, c, h, _⟩ := own_slat hO.net; exact ⟨A, c, h, trivial⟩
  have hB' := hB
  rw [hvn, hvc, hvt] at hB'
  have Hvn := Lib.hid hvn
  have Hvc := Lib.hid hvc
  have Hvt := Lib.hid hvt
  obtain ⟨n, hn⟩ : ∃ n, n = x.nodes.length := ⟨_, rfl⟩
  obtain ⟨q, hq⟩ : ∃ q, q = x.net.length := ⟨_, rfl⟩
  rw [hlen] at hB'
  rw [← hn] at hB' hfew hsome
  rw [← hq] at hB' hnet
  rw [← hq] at HR
  have Hn := Lib.hid hn
  have Hq := Lib.hid hq
  have Hlen := Lib.hid hlen
  have HH := Lib.hid hh
  have HML := Lib.hid hml
  have HW := Lib.hid hw
  obtain ⟨⟨kind, node, to_, nm, bytes⟩, Ab, nb, cb⟩ := h
  dsimp only at hkind HR
  subst hkind
  obtain ⟨g2, hg2⟩ : ∃ g2, g2 = w.heap.size := ⟨_, rfl⟩
  obtain ⟨g3, hg3⟩ : ∃ g3, g3 = w.heap.size + 1 := ⟨_, rfl⟩
  obtain ⟨w1, hw1⟩ : ∃ w1, w1 = (w.alloc (.cells #[.pointer (some ⟨gw, 0, none⟩)] 56)).alloc (.cells #[.int .i64 4, .int .i64 node, .int .i64 to_, .string (strB nm), .slice Ab nb cb] 29) := ⟨_, rfl⟩
  have hb1 : Below w.heap.size w w1 := by rw [hw1]; exact ((Below.refl _ _).alloc (Nat.le_refl _) _).alloc (by simp) _
  have HB1 := Lib.hid (hB'.below hb1 hB'.lt)
  have S1 := Lib.hid (show StS w w0 w1 gw g2 g3 x (⟨4, node, to_, nm, bytes⟩, Ab, nb, cb) from ⟨hb.trans (hb1.mono hb.size), hB.below hb1 hB.lt, by rw [hw1, hg2]; exact (Blk.new _ _ _).alloc _, by
    rw [hw1, hg3, show w.heap.size + 1 = (w.alloc (.cells #[.pointer (some ⟨gw, 0, none⟩)] 56)).heap.size by simp]
    exact Blk.new _ _ _, hO.below hb1, KR.start hb1⟩)
  have H31 := Lib.hid (show Blk w1 g3 29 #[.int .i64 4, .int .i64 node, .int .i64 to_, .string (strB nm), .slice Ab nb cb] from S1.out.b3)
  have Hw1 := Lib.hid hw1.symm
  have Hg2 := Lib.hid hg2.symm
  have Hg3 := Lib.hid hg3.symm
  have hgw3 : g3 ≠ gw := by have := hB.lt; omega
  have hgw2 : g2 ≠ gw := by have := hB.lt; omega
  have hg2b : w0.heap.size ≤ g2 := by have := hb.size; omega
  have hg3b : w0.heap.size ≤ g3 := by have := hb.size; omega
  unfold hV slv
  dsimp only
  clear hvn hvc hvt hn hq hlen hh hml hw hR hnl htl hw1 hg2 hg3 hb1 hB hB' hb hO
  have HN := Lib.hid (msg1_any to_ At q ct gw g2 g3 _ _ _ _ _ _ w1 S1.out.b2 HB1.out H31.out)
  go_enter Tryz.func21, Tryz.ntmps21
  go_wp2_with fail
  rw [Hw1.out, Hg3.out, Hg2.out]
  clear Hw1 Hg2 Hg3
  refine (HN.out).mono ?_
  rintro e w2 ⟨rfl, hb2⟩
  have S2 := Lib.hid (S1.out.step hb2)
  have H32 := Lib.hid (H31.out.below hb2 H31.out.lt)
  have HB2 := Lib.hid (HB1.out.below hb2 HB1.out.lt)
  clear hb2 HN S1 HB1 H31
  by_cases hbad : to_ < 0 ∨ (q : Int) ≤ to_
  · have HU : Hid (R = (5, .none_)) := Lib.hid (by rw [HR.out, if_pos hbad])
    rw [outB_bad hbad]
    clear hbad
    go_wp2_with fail
    go_ret
    exact StepPost.err HU.out (by decide) S2.out.below S2.out.kr
  · have HU := Lib.hid (HR.out.trans (if_neg hbad))
    rw [outB_ok hbad]
    obtain ⟨k, rfl⟩ : ∃ k : Nat, to_ = (k : Int) := ⟨to_.toNat, by omega⟩
    have hkq : k < q := by omega
    rw [Int.toNat_natCast] at HU
    have d0 : w2.cell? ⟨g2, 0, none⟩ = some (.pointer (some ⟨gw, 0, none⟩)) := by rw [S2.out.b2.cell]; rfl
    have d3 : w2.cell? ⟨g3, 2, none⟩ = some (.int .i64 (k : Int)) := by rw [H32.out.cell]; rfl
    have HP := Lib.hid (arriveW_any w0 w2 gw x k HML.out S2.out.below hgw S2.out.bw S2.out.own HW.out (by rw [← Hq.out]; exact hkq))
    clear hbad HR
    go_wp2_with fail
    refine (HP.out).mono ?_
    rintro e w3 ⟨rfl, hb3, hy3, hk3⟩
    rw [← HU.out] at hy3 ⊢
    have Hres := Lib.hid (And.intro hb3 (And.intro hy3 (S2.out.kr.trans hk3)))
    obtain ⟨z, hz⟩ : ∃ z, R.1 = z := ⟨_, rfl⟩
    have Hz := Lib.hid hz
    rw [hz]
    clear hb3 hy3 hk3 HP d0 d3 hz
    go_wp2_with fail
    go_ret
    exact ⟨by rw [Hz.out]; rfl, Hres.out.1, Hres.out.2.1, Hres.out.2.2⟩
end Go.Proofs.YtdoegpklephelaaGreatDoor.Worlds
