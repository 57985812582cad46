/- package world: step, other kinds. -/
import Derived.Test.YtdoegpklephelaaGreatDoorWorldStep
namespace Go.Proofs.YtdoegpklephelaaGreatDoor.Worlds
open Go Go.RowKit Go.Proofs.YtdoegpklephelaaGreatDoor Go.Proofs.YtdoegpklephelaaGreatDoor.Name Go.Proofs.YtdoegpklephelaaGreatDoor.Merge
set_option linter.unusedVariables false
set_option linter.unusedSimpArgs false

set_option maxRecDepth 100000 in
set_option maxHeartbeats 6000000 in
theorem step_lose (w0 w : World) (gw : Nat) (x : Wx) (h : Hx) (hml : ML w0) (hb : Below w0.heap.size w0 w) (hgw : w0.heap.size ≤ gw) (hB : Blk w gw 26 #[x.vn, x.vc, x.vt]) (hO : OwnW w w0.heap.size x) (hw : WOk x.wd) (hh : HapAt w0 h) (hkind : h.1.kind = 5) :
    Calls Tryz.prog 21 #[.pointer (some ⟨gw, 0, none⟩), hV h] w (StepPost w w0 gw (stepR x.wd h.1)) := by
  have hlen : x.clock.length = x.nodes.length := by have := hw.clock; simpa [Wx.wd] using this
  have hfew : x.nodes.length ≤ 4 := by have := hw.few; simpa [Wx.wd] using this
  have hsome : 1 ≤ x.nodes.length := by have := hw.some_; simpa [Wx.wd] using this
  have hnet : x.net.length ≤ 20 := by have := hw.net; simpa [Wx.wd] using this
  have hnl : x.wd.nodes.length = x.nodes.length := by simp [Wx.wd]
  have htl : x.wd.net.length = x.net.length := by simp [Wx.wd]
  obtain ⟨R, hR⟩ : ∃ R, R = stepR x.wd h.1 := ⟨_, rfl⟩
  have HR := Lib.hid (hR.trans (stepR_5 hkind))
  rw [htl] at HR
  rw [← hR]
  obtain ⟨gn, cn, hvn, _, _, _, _⟩ := own_at hO.nodes (by omega)
  obtain ⟨gc, cc, hvc, _, _, _, _⟩ := own_at hO.clock (by omega)
  obtain ⟨At, ct, hvt, _⟩ : ∃ A c, x.vt = .slice A x.net.length c ∧ True := by obtain ⟨A, c, h, _⟩ := own_slat hO.net; exact ⟨A, c, h, trivial⟩
  have hB' := hB
  rw [hvn, hvc, hvt] at hB'
  have Hvn := Lib.hid hvn
  have Hvc := Lib.hid hvc
  have Hvt := Lib.hid hvt
  obtain ⟨n, hn⟩ : ∃ n, n = x.nodes.length := ⟨_, rfl⟩
  obtain ⟨q, hq⟩ : ∃ q, q = x.net.length := ⟨_, rfl⟩
  rw [hlen] at hB'
  rw [← hn] at hB' hfew hsome
  rw [← hq] at hB' hnet
  rw [← hq] at HR
  have Hn := Lib.hid hn
  have Hq := Lib.hid hq
  have Hlen := Lib.hid hlen
  have HH := Lib.hid hh
  have HML := Lib.hid hml
  have HW := Lib.hid hw
  obtain ⟨⟨kind, node, to_, nm, bytes⟩, Ab, nb, cb⟩ := h
  dsimp only at hkind HR
  subst hkind
  obtain ⟨g2, hg2⟩ : ∃ g2, g2 = w.heap.size := ⟨_, rfl⟩
  obtain ⟨g3, hg3⟩ : ∃ g3, g3 = w.heap.size + 1 := ⟨_, rfl⟩
  obtain ⟨w1, hw1⟩ : ∃ w1, w1 = (w.alloc (.cells #[.pointer (some ⟨gw, 0, none⟩)] 56)).alloc (.cells #[.int .i64 5, .int .i64 node, .int .i64 to_, .string (strB nm), .slice Ab nb cb] 29) := ⟨_, rfl⟩
  have hb1 : Below w.heap.size w w1 := by rw [hw1]; exact ((Below.refl _ _).alloc (Nat.le_refl _) _).alloc (by simp) _
  have HB1 := Lib.hid (hB'.below hb1 hB'.lt)
  have S1 := Lib.hid (show StS w w0 w1 gw g2 g3 x (⟨5, node, to_, nm, bytes⟩, Ab, nb, cb) from ⟨hb.trans (hb1.mono hb.size), hB.below hb1 hB.lt, by rw [hw1, hg2]; exact (Blk.new _ _ _).alloc _, by
    rw [hw1, hg3, show w.heap.size + 1 = (w.alloc (.cells #[.pointer (some ⟨gw, 0, none⟩)] 56)).heap.size by simp]
    exact Blk.new _ _ _, hO.below hb1, KR.start hb1⟩)
  have H31 := Lib.hid (show Blk w1 g3 29 #[.int .i64 5, .int .i64 node, .int .i64 to_, .string (strB nm), .slice Ab nb cb] from S1.out.b3)
  have Hw1 := Lib.hid hw1.symm
  have Hg2 := Lib.hid hg2.symm
  have Hg3 := Lib.hid hg3.symm
  have hgw3 : g3 ≠ gw := by have := hB.lt; omega
  have hgw2 : g2 ≠ gw := by have := hB.lt; omega
  have hg2b : w0.heap.size ≤ g2 := by have := hb.size; omega
  have hg3b : w0.heap.size ≤ g3 := by have := hb.size; omega
  unfold hV slv
  dsimp only
  clear hvn hvc hvt hn hq hlen hh hml hw hR hnl htl hw1 hg2 hg3 hb1 hB hB' hb hO
  have HN := Lib.hid (msg1_any to_ At q ct gw g2 g3 _ _ _ _ _ _ w1 S1.out.b2 HB1.out H31.out)
  go_enter Tryz.func21, Tryz.ntmps21
  go_wp2_with fail
  rw [Hw1.out, Hg3.out, Hg2.out]
  clear Hw1 Hg2 Hg3
  refine (HN.out).mono ?_
  rintro e w2 ⟨rfl, hb2⟩
  have S2 := Lib.hid (S1.out.step hb2)
  have H32 := Lib.hid (H31.out.below hb2 H31.out.lt)
  have HB2 := Lib.hid (HB1.out.below hb2 HB1.out.lt)
  clear hb2 HN S1 HB1 H31
  by_cases hbad : to_ < 0 ∨ (q : Int) ≤ to_
  · have HU : Hid (R = (5, .none_)) := Lib.hid (by rw [HR.out, if_pos hbad])
    rw [outB_bad hbad]
    clear hbad
    go_wp2_with fail
    go_ret
    exact StepPost.err HU.out (by decide) S2.out.below S2.out.kr
  · have HU := Lib.hid (HR.out.trans (if_neg hbad))
    rw [outB_ok hbad]
    obtain ⟨k, rfl⟩ : ∃ k : Nat, to_ = (k : Int) := ⟨to_.toNat, by omega⟩
    have hkq : k < q := by omega
    rw [Int.toNat_natCast] at HU
    have d0 : w2.cell? ⟨g2, 0, none⟩ = some (.pointer (some ⟨gw, 0, none⟩)) := by rw [S2.out.b2.cell]; rfl
    have d3 : w2.cell? ⟨g3, 2, none⟩ = some (.int .i64 (k : Int)) := by rw [H32.out.cell]; rfl
    obtain ⟨gt, ct', hvt', _, _, _, _⟩ := own_at S2.out.own.net (by rw [← Hq.out]; omega)
    have hvt2 := Hvt.out
    rw [hvt2] at hvt'
    injection hvt' with e1 e2 e3
    subst e1 e3
    clear e2 hvt2
    obtain ⟨qm, hqm⟩ : ∃ qm, q = qm + 1 := ⟨q - 1, by omega⟩
    have hO3 := S2.out.own.net
    rw [Hvt.out, ← Hq.out] at hO3
    have HD := Lib.hid (fun W (hb : Below w2.heap.size w2 W) => delete_msgs w0.heap.size q qm ct gt k x.net W (own_keep hO3 hb) Hq.out.symm hkq (by omega) hqm (S2.out.step hb).below.size)
    have HS : Hid (∀ W, (∀ g t cs, Blk w2 g t cs → t ∉ [54] → Blk W g t cs) → W.cell? ⟨g2, 0, none⟩ = some (.pointer (some ⟨gw, 0, none⟩)) ∧ W.cell? ⟨gw, 2, none⟩ = some (.slice (some ⟨gt, 0, none⟩) q ct) ∧ W.cell? ⟨g3, 2, none⟩ = some (.int .i64 (k : Int))) := Lib.hid (fun W hb =>
      ⟨by rw [(hb _ _ _ S2.out.b2 (by decide)).cell]; rfl, by rw [(hb _ _ _ HB2.out (by decide)).cell]; rfl, by rw [(hb _ _ _ H32.out (by decide)).cell]; rfl⟩)
    have hwr : IntKind.i64.wrap ((k : Int) + 1) = (k : Int) + 1 := IntWalk.i64_in _ (by omega)
    have Hqm := Lib.hid hqm
    have Hkq := Lib.hid (show k < x.net.length by rw [← Hq.out]; exact hkq)
    clear hbad HR hqm hO3
    go_wp2_with fail
    have hHeld := HS.out w2.drew (fun _ _ _ h _ => h)
    refine wp_region_S (fun W => W.cell? ⟨g2, 0, none⟩ = some (.pointer (some ⟨gw, 0, none⟩)) ∧ W.cell? ⟨gw, 2, none⟩ = some (.slice (some ⟨gt, 0, none⟩) q ct) ∧ W.cell? ⟨g3, 2, none⟩ = some (.int .i64 (k : Int))) 13 (by kernel_rfl) ?_
    refine wpAnyS_take (i := 0) (v := ?v0) (by kernel_rfl) rfl (by kernel_rfl) (by kernel_rfl) (by kernel_rfl) (fun _ _ _ h => h) (by rfl) (by assumption) ?hy0 ?rest0
    case hy0 => (intro W hSW; (try dsimp only at hSW); go_simp; try with_reducible rfl)
    (try simp only [Act.put, List.setIfInBounds_toArray, List.set_cons_zero, List.set_cons_succ])
    refine wpAnyS_take (i := 1) (v := ?v1) (by kernel_rfl) rfl (by kernel_rfl) (by kernel_rfl) (by kernel_rfl) (fun _ _ _ h => h) (by rfl) (by assumption) ?hy1 ?rest1
    case hy1 => (intro W hSW; (try dsimp only at hSW); go_simp; try with_reducible rfl)
    (try simp only [Act.put, List.setIfInBounds_toArray, List.set_cons_zero, List.set_cons_succ])
    refine wpAnyS_take (i := 2) (v := ?v2) (by kernel_rfl) rfl (by kernel_rfl) (by kernel_rfl) (by kernel_rfl) (fun _ _ _ h => h) (by rfl) (by assumption) ?hy2 ?rest2
    case hy2 => (intro W hSW; (try dsimp only at hSW); go_simp; try with_reducible rfl)
    (try simp only [Act.put, List.setIfInBounds_toArray, List.set_cons_zero, List.set_cons_succ])
    refine wpAnyS_take (i := 3) (v := ?v3) (by kernel_rfl) rfl (by kernel_rfl) (by kernel_rfl) (by kernel_rfl) (fun _ _ _ h => h) (by rfl) (by assumption) ?hy3 ?rest3
    case hy3 => (intro W hSW; (try dsimp only at hSW); go_simp; try with_reducible rfl)
    (try simp only [Act.put, List.setIfInBounds_toArray, List.set_cons_zero, List.set_cons_succ])
    refine wpAnyS_take (i := 4) (v := ?v4) (by kernel_rfl) rfl (by kernel_rfl) (by kernel_rfl) (by kernel_rfl) (fun _ _ _ h => h) (by rfl) (by assumption) ?hy4 ?rest4
    case hy4 => (intro W hSW; (try dsimp only at hSW); go_simp; try with_reducible rfl)
    (try simp only [Act.put, List.setIfInBounds_toArray, List.set_cons_zero, List.set_cons_succ])
    refine wpAnyS_take (i := 5) (v := ?v5) (by kernel_rfl) rfl (by kernel_rfl) (by kernel_rfl) (by kernel_rfl) (fun _ _ _ h => h) (by rfl) (by assumption) ?hy5 ?rest5
    case hy5 => (intro W hSW; (try dsimp only at hSW); go_simp; try with_reducible rfl)
    (try simp only [Act.put, List.setIfInBounds_toArray, List.set_cons_zero, List.set_cons_succ])
    refine wpAnyS_take (i := 6) (v := ?v6) (by kernel_rfl) rfl (by kernel_rfl) (by kernel_rfl) (by kernel_rfl) (fun _ _ _ h => h) (by rfl) (by assumption) ?hy6 ?rest6
    case hy6 => (intro W hSW; (try dsimp only at hSW); go_simp; try with_reducible rfl)
    (try simp only [Act.put, List.setIfInBounds_toArray, List.set_cons_zero, List.set_cons_succ])
    refine wpAnyS_take (i := 7) (v := ?v7) (by kernel_rfl) rfl (by kernel_rfl) (by kernel_rfl) (by kernel_rfl) (fun _ _ _ h => h) (by rfl) (by assumption) ?hy7 ?rest7
    case hy7 => (intro W hSW; (try dsimp only at hSW); go_simp; try with_reducible rfl)
    (try simp only [Act.put, List.setIfInBounds_toArray, List.set_cons_zero, List.set_cons_succ])
    refine wpAnyS_take (i := 8) (v := ?v8) (by kernel_rfl) rfl (by kernel_rfl) (by kernel_rfl) (by kernel_rfl) (fun _ _ _ h => h) (by rfl) (by assumption) ?hy8 ?rest8
    case hy8 => (intro W hSW; (try dsimp only at hSW); go_simp; try with_reducible rfl)
    (try simp only [Act.put, List.setIfInBounds_toArray, List.set_cons_zero, List.set_cons_succ])
    refine wpAnyS_take (i := 9) (v := ?v9) (by kernel_rfl) rfl (by kernel_rfl) (by kernel_rfl) (by kernel_rfl) (fun _ _ _ h => h) (by rfl) (by assumption) ?hy9 ?rest9
    case hy9 => (intro W hSW; (try dsimp only at hSW); go_simp; try with_reducible rfl)
    (try simp only [Act.put, List.setIfInBounds_toArray, List.set_cons_zero, List.set_cons_succ])
    refine wpAnyS_only (i := 10) rfl (by kernel_rfl) (fun K hK => ?_)
    go_simp
    go_at_call 45
    refine (HD.out _ (Below.refl _ _).drew).mono ?_
    rintro e w5 ⟨rfl, ho5, hk5⟩
    have Hk5 := Lib.hid (show Keeps w0.heap.size [54] w2 w5 from (Keeps.refl _ _ _).drew.trans hk5)
    have Ho5 := Lib.hid ho5
    clear ho5 hk5
    clear hHeld
    refine hK.out _ _ (HS.out _ (fun _ _ _ h ht => Hk5.out.blk h ht)) (fun hHeld => ?_)
    clear hK K
    (try simp only [Act.put, List.setIfInBounds_toArray, List.set_cons_zero, List.set_cons_succ])
    refine wpAnyS_only (i := 11) rfl (by kernel_rfl) (fun K hK => ?_)
    go_simp
    have hHeld' := hHeld
    clear hHeld
    refine hK.out _ _ hHeld' (fun hHeld => ?_)
    clear hHeld'
    clear hK K
    (try simp only [Act.put, List.setIfInBounds_toArray, List.set_cons_zero, List.set_cons_succ])
    refine wpAnyS_only (i := 12) rfl (by kernel_rfl) (fun K hK => ?_)
    go_simp
    have hHeld' := hHeld
    clear hHeld
    refine hK.out _ _ hHeld' (fun hHeld => ?_)
    clear hHeld'
    clear hK K
    (try simp only [Act.put, List.setIfInBounds_toArray, List.set_cons_zero, List.set_cons_succ])
    have HB5 := Lib.hid (Hk5.out.blk HB2.out (by decide))
    have HBw5 := Lib.hid (Hk5.out.blk S2.out.bw (by decide))
    have HO5 := Lib.hid (OwnW.erase S2.out.own Hk5.out k (v := .slice (some ⟨gt, 0, none⟩) qm ct) (by
      rw [List.length_eraseIdx_of_lt Hkq.out, ← Hq.out, show q - 1 = qm by have := Hqm.out; omega]
      exact Ho5.out))
    have HO6 := Lib.hid (HO5.out.set_ HBw5.out (by decide) (by decide) (by decide) (by decide) (by decide) 2 (.slice (some ⟨gt, 0, none⟩) qm ct))
    have HB6 := Lib.hid (HBw5.out.set_ 2 (.slice (some ⟨gt, 0, none⟩) qm ct))
    have Hb6 := Lib.hid ((S2.out.below.trans (Hk5.out.below.mono (Nat.le_refl _))).setCell (show w0.heap.size ≤ (⟨gw, 2, none⟩ : Addr).block from hgw) (.slice (some ⟨gt, 0, none⟩) qm ct))
    have Hk6 := Lib.hid ((S2.out.kr.keeps Hk5.out).self 2 (.slice (some ⟨gt, 0, none⟩) qm ct))
    obtain ⟨y0, y1, y2⟩ := blk3 HB5.out
    have f2 := HB5.out.frozen 2
    refine wpAnyS_last rfl (by kernel_rfl) (by kernel_rfl) (fun K hK => ?_)
    go_simp
    refine hK.out _ _ ?_
    clear hK K
    clear y0 y1 y2 f2 d0 d3 hwr hHeld
    go_wp2_with fail
    go_ret
    rw [HU.out]
    refine ⟨rfl, Hb6.out, fun _ => ⟨{ x with vt := .slice (some ⟨gt, 0, none⟩) qm ct, net := x.net.eraseIdx k }, ?_, HB6.out, HO6.out⟩, Hk6.out⟩
    simp only [Wx.wd, map_erase]
set_option maxRecDepth 100000 in
set_option maxHeartbeats 6000000 in
theorem step_send (w0 w : World) (gw : Nat) (x : Wx) (h : Hx) (hml : ML w0) (hb : Below w0.heap.size w0 w) (hgw : w0.heap.size ≤ gw) (hB : Blk w gw 26 #[x.vn, x.vc, x.vt]) (hO : OwnW w w0.heap.size x) (hw : WOk x.wd) (hh : HapAt w0 h) (hkind : h.1.kind = 3) :
    Calls Tryz.prog 21 #[.pointer (some ⟨gw, 0, none⟩), hV h] w (StepPost w w0 gw (stepR x.wd h.1)) := by
  have hlen : x.clock.length = x.nodes.length := by have := hw.clock; simpa [Wx.wd] using this
  have hfew : x.nodes.length ≤ 4 := by have := hw.few; simpa [Wx.wd] using this
  have hsome : 1 ≤ x.nodes.length := by have := hw.some_; simpa [Wx.wd] using this
  have hnet : x.net.length ≤ 20 := by have := hw.net; simpa [Wx.wd] using this
  have hnl : x.wd.nodes.length = x.nodes.length := by simp [Wx.wd]
  have htl : x.wd.net.length = x.net.length := by simp [Wx.wd]
  obtain ⟨R, hR⟩ : ∃ R, R = stepR x.wd h.1 := ⟨_, rfl⟩
  have HR := Lib.hid (hR.trans (stepR_3 hkind))
  rw [hnl, htl] at HR
  rw [← hR]
  obtain ⟨gn, cn, hvn, _, _, _, _⟩ := own_at hO.nodes (by omega)
  obtain ⟨gc, cc, hvc, _, _, _, _⟩ := own_at hO.clock (by omega)
  obtain ⟨At, ct, hvt, _⟩ : ∃ A c, x.vt = .slice A x.net.length c ∧ True := by obtain ⟨A, c, h, _⟩ := own_slat hO.net; exact ⟨A, c, h, trivial⟩
  have hB' := hB
  rw [hvn, hvc, hvt] at hB'
  have Hvn := Lib.hid hvn
  have Hvc := Lib.hid hvc
  have Hvt := Lib.hid hvt
  obtain ⟨n, hn⟩ : ∃ n, n = x.nodes.length := ⟨_, rfl⟩
  obtain ⟨q, hq⟩ : ∃ q, q = x.net.length := ⟨_, rfl⟩
  rw [hlen] at hB'
  rw [← hn] at hB' hfew hsome
  rw [← hq] at hB' hnet
  rw [← hn, ← hq] at HR
  have Hn := Lib.hid hn
  have Hq := Lib.hid hq
  have Hlen := Lib.hid hlen
  have HH := Lib.hid hh
  have HML := Lib.hid hml
  have HW := Lib.hid hw
  obtain ⟨⟨kind, node, to_, nm, bytes⟩, Ab, nb, cb⟩ := h
  dsimp only at hkind HR
  subst hkind
  obtain ⟨g2, hg2⟩ : ∃ g2, g2 = w.heap.size := ⟨_, rfl⟩
  obtain ⟨g3, hg3⟩ : ∃ g3, g3 = w.heap.size + 1 := ⟨_, rfl⟩
  obtain ⟨w1, hw1⟩ : ∃ w1, w1 = (w.alloc (.cells #[.pointer (some ⟨gw, 0, none⟩)] 56)).alloc (.cells #[.int .i64 3, .int .i64 node, .int .i64 to_, .string (strB nm), .slice Ab nb cb] 29) := ⟨_, rfl⟩
  have hb1 : Below w.heap.size w w1 := by rw [hw1]; exact ((Below.refl _ _).alloc (Nat.le_refl _) _).alloc (by simp) _
  have HB1 := Lib.hid (hB'.below hb1 hB'.lt)
  have S1 := Lib.hid (show StS w w0 w1 gw g2 g3 x (⟨3, node, to_, nm, bytes⟩, Ab, nb, cb) from ⟨hb.trans (hb1.mono hb.size), hB.below hb1 hB.lt, by rw [hw1, hg2]; exact (Blk.new _ _ _).alloc _, by
    rw [hw1, hg3, show w.heap.size + 1 = (w.alloc (.cells #[.pointer (some ⟨gw, 0, none⟩)] 56)).heap.size by simp]
    exact Blk.new _ _ _, hO.below hb1, KR.start hb1⟩)
  have H31 := Lib.hid (show Blk w1 g3 29 #[.int .i64 3, .int .i64 node, .int .i64 to_, .string (strB nm), .slice Ab nb cb] from S1.out.b3)
  have Hw1 := Lib.hid hw1.symm
  have Hg2 := Lib.hid hg2.symm
  have Hg3 := Lib.hid hg3.symm
  have hgw3 : g3 ≠ gw := by have := hB.lt; omega
  have hgw2 : g2 ≠ gw := by have := hB.lt; omega
  have hg2b : w0.heap.size ≤ g2 := by have := hb.size; omega
  have hg3b : w0.heap.size ≤ g3 := by have := hb.size; omega
  unfold hV slv
  dsimp only
  clear hvn hvc hvt hn hq hlen hh hml hw hR hnl htl hw1 hg2 hg3 hb1 hB hB' hb hO
  have HN1 := Lib.hid (fun W (hb : Below w1.heap.size w1 W) => node1_any node (some ⟨gn, 0, none⟩) n cn gw g2 _ _ W (S1.out.b2.below hb S1.out.b2.lt) (HB1.out.below hb HB1.out.lt))
  have HN2 := Lib.hid (fun W (hb : Below w1.heap.size w1 W) => node1_any to_ (some ⟨gn, 0, none⟩) n cn gw g2 _ _ W (S1.out.b2.below hb S1.out.b2.lt) (HB1.out.below hb HB1.out.lt))
  have hmax := fun (ts : Array TypeId) (ty : TypeId) (a b : Int) (W : World) => run_max2 (P := Tryz.prog) ts ty a b W
  have p1 := pcell H31.out 1 _ rfl
  have p2 := pcell H31.out 2 _ rfl
  by_cases hb1 : node < 0 ∨ (n : Int) ≤ node
  · by_cases hb2 : to_ < 0 ∨ (n : Int) ≤ to_
    · have HU : Hid (R = (5, .none_)) := Lib.hid (by rw [HR.out, if_pos (.inl hb1)])
      rw [outB_bad hb1] at HN1
      rw [outB_bad hb2] at HN2
      clear hb1 hb2 HR
      go_enter Tryz.func21, Tryz.ntmps21
      go_wp2_with fail
      rw [Hw1.out, Hg3.out, Hg2.out]
      clear Hw1 Hg2 Hg3
      refine wp_region_below (by kernel_rfl) (by kernel_rfl) ?_
      repeat (quiet_step (first | (with_reducible exact belowBy_calls (HN1.out _ (BelowBy.h _))) | (with_reducible exact belowBy_calls (HN2.out _ (BelowBy.h _)))))
      refine wpQuiet_nil ?_
      intro w3 hq
      have hb3 : Below w1.heap.size w1 w3 := by obtain ⟨p, hp⟩ := hq; rw [hp]; exact p.h
      have S3 := Lib.hid (S1.out.step hb3)
      have H33 := Lib.hid (H31.out.below hb3 H31.out.lt)
      have HB3 := Lib.hid (HB1.out.below hb3 HB1.out.lt)
      clear hq hb3 p1 p2 hmax HN1 HN2 S1 HB1 H31
      go_wp2_with fail
      go_ret
      exact StepPost.err HU.out (by decide) S3.out.below S3.out.kr
    · have HU : Hid (R = (5, .none_)) := Lib.hid (by rw [HR.out, if_pos (.inl hb1)])
      rw [outB_bad hb1] at HN1
      rw [outB_ok hb2] at HN2
      clear hb1 hb2 HR
      go_enter Tryz.func21, Tryz.ntmps21
      go_wp2_with fail
      rw [Hw1.out, Hg3.out, Hg2.out]
      clear Hw1 Hg2 Hg3
      refine wp_region_below (by kernel_rfl) (by kernel_rfl) ?_
      repeat (quiet_step (first | (with_reducible exact belowBy_calls (HN1.out _ (BelowBy.h _))) | (with_reducible exact belowBy_calls (HN2.out _ (BelowBy.h _)))))
      refine wpQuiet_nil ?_
      intro w3 hq
      have hb3 : Below w1.heap.size w1 w3 := by obtain ⟨p, hp⟩ := hq; rw [hp]; exact p.h
      have S3 := Lib.hid (S1.out.step hb3)
      have H33 := Lib.hid (H31.out.below hb3 H31.out.lt)
      have HB3 := Lib.hid (HB1.out.below hb3 HB1.out.lt)
      clear hq hb3 p1 p2 hmax HN1 HN2 S1 HB1 H31
      go_wp2_with fail
      go_ret
      exact StepPost.err HU.out (by decide) S3.out.below S3.out.kr
  · by_cases hb2 : to_ < 0 ∨ (n : Int) ≤ to_
    · have HU : Hid (R = (5, .none_)) := Lib.hid (by rw [HR.out, if_pos (.inr hb2)])
      rw [outB_ok hb1] at HN1
      rw [outB_bad hb2] at HN2
      clear hb1 hb2 HR
      go_enter Tryz.func21, Tryz.ntmps21
      go_wp2_with fail
      rw [Hw1.out, Hg3.out, Hg2.out]
      clear Hw1 Hg2 Hg3
      refine wp_region_below (by kernel_rfl) (by kernel_rfl) ?_
      repeat (quiet_step (first | (with_reducible exact belowBy_calls (HN1.out _ (BelowBy.h _))) | (with_reducible exact belowBy_calls (HN2.out _ (BelowBy.h _)))))
      refine wpQuiet_nil ?_
      intro w3 hq
      have hb3 : Below w1.heap.size w1 w3 := by obtain ⟨p, hp⟩ := hq; rw [hp]; exact p.h
      have S3 := Lib.hid (S1.out.step hb3)
      have H33 := Lib.hid (H31.out.below hb3 H31.out.lt)
      have HB3 := Lib.hid (HB1.out.below hb3 HB1.out.lt)
      clear hq hb3 p1 p2 hmax HN1 HN2 S1 HB1 H31
      go_wp2_with fail
      go_ret
      exact StepPost.err HU.out (by decide) S3.out.below S3.out.kr
    · have HR2 := Lib.hid (HR.out.trans (if_neg (by rintro (h | h); exact hb1 h; exact hb2 h)))
      rw [outB_ok hb1] at HN1
      rw [outB_ok hb2] at HN2
      obtain ⟨k, rfl⟩ : ∃ k : Nat, node = (k : Int) := ⟨node.toNat, by omega⟩
      have hkn : k < n := by omega
      clear HR hb1 hb2
      go_enter Tryz.func21, Tryz.ntmps21
      go_wp2_with fail
      rw [Hw1.out, Hg3.out, Hg2.out]
      clear Hw1 Hg2 Hg3
      refine wp_region_below (by kernel_rfl) (by kernel_rfl) ?_
      repeat (quiet_step (first | (with_reducible exact belowBy_calls (HN1.out _ (BelowBy.h _))) | (with_reducible exact belowBy_calls (HN2.out _ (BelowBy.h _)))))
      refine wpQuiet_nil ?_
      intro w3 hq
      have hb3 : Below w1.heap.size w1 w3 := by obtain ⟨p, hp⟩ := hq; rw [hp]; exact p.h
      have S3 := Lib.hid (S1.out.step hb3)
      have H33 := Lib.hid (H31.out.below hb3 H31.out.lt)
      have HB3 := Lib.hid (HB1.out.below hb3 HB1.out.lt)
      clear hq hb3 p1 p2 hmax HN1 HN2 S1 HB1 H31
      have d0 : w3.cell? ⟨g2, 0, none⟩ = some (.pointer (some ⟨gw, 0, none⟩)) := by rw [S3.out.b2.cell]; rfl
      have d1 : w3.cell? ⟨gw, 2, none⟩ = some (.slice At q ct) := by rw [HB3.out.cell]; rfl
      by_cases h20 : q = 20
      · have HU := Lib.hid (HR2.out.trans (if_pos h20))
        subst h20
        go_wp2_with fail
        go_ret
        exact StepPost.err HU.out (by decide) S3.out.below S3.out.kr
      · have HU := Lib.hid (HR2.out.trans (if_neg h20))
        have h21 : ((q : Int) == 20) = false := by rw [beq_eq_false_iff_ne]; omega
        have h22 : decide ((q : Int) = 20) = false := decide_eq_false (by omega)
        have h23 : ¬ (q : Int) = 20 := by omega
        rw [Int.toNat_natCast] at HU
        have hkl : k < x.nodes.length := by rw [← Hn.out]; exact hkn
        have hlD : x.wd.nodes.getD k [] = flOf x.nodes[k].2 := by simp [Wx.wd, List.getD_eq_getElem?_getD, hkl]
        rw [hlD] at HU
        have hcellN : w3.cell? ⟨gn, k, none⟩ = some (slv x.nodes[k].1) := own_node (by have := S3.out.own.nodes; rw [Hvn.out] at this; exact this) rfl hkl
        have hnd := S3.out.own.node x.nodes[k] (List.getElem_mem hkl)
        have hsm := files_small (nodes_small HW.out x.nodes[k] (List.getElem_mem hkl))
        have Hkl := Lib.hid hkl
        clear hlD
        generalize x.nodes[k] = nd at *
        obtain ⟨⟨A', n', c'⟩, fl⟩ := nd
        simp only [slv] at hcellN
        have Hnf := Lib.hid hnd.files
        have Hsm := Lib.hid hsm
        have HCo := Lib.hid (fun W (hb : Below w3.heap.size w3 W) => copy_any (.slice A' n' c') fl W (Hnf.out.below hb) Hsm.out.1 Hsm.out.2)
        have HS8 : Hid (∀ W, Blk W gw 26 #[.slice (some ⟨gn, 0, none⟩) n cn, .slice (some ⟨gc, 0, none⟩) n cc, .slice At q ct] → (∀ g t cs, Blk w3 g t cs → t ∉ [54] → Blk W g t cs) → W.cell? ⟨g2, 0, none⟩ = some (.pointer (some ⟨gw, 0, none⟩)) ∧ W.cell? ⟨gw, 2, none⟩ = some (.slice At q ct) ∧ W.cell? ⟨g3, 2, none⟩ = some (.int .i64 to_) ∧ W.cell? ⟨gw, 0, none⟩ = some (.slice (some ⟨gn, 0, none⟩) n cn) ∧ W.cell? ⟨g3, 1, none⟩ = some (.int .i64 (k : Int)) ∧ W.cell? ⟨gn, k, none⟩ = some (.slice A' n' c')) := Lib.hid (fun W hbw hb =>
          ⟨by rw [(hb _ _ _ S3.out.b2 (by decide)).cell]; rfl, by rw [hbw.cell]; rfl, by rw [(hb _ _ _ H33.out (by decide)).cell]; rfl, by rw [hbw.cell]; rfl, by rw [(hb _ _ _ H33.out (by decide)).cell]; rfl, by
            have h1 := S3.out.own.nodes
            rw [Hvn.out] at h1
            obtain ⟨_, cs, h2⟩ := own_blk h1
            rw [(hb _ _ _ h2 (by decide)).cell, ← h2.cell, hcellN]⟩)
        have HS : Hid (∀ W, Below w3.heap.size w3 W → _) := Lib.hid (fun W hb => HS8.out W (HB3.out.below hb HB3.out.lt) (fun g t cs h _ => h.below hb h.lt))
        clear hnd hsm h20 HR2 hcellN
        go_wp2_with fail
        have hHeld := HS.out w3.drew (Below.refl _ _).drew
        refine wp_region_S (fun W => W.cell? ⟨g2, 0, none⟩ = some (.pointer (some ⟨gw, 0, none⟩)) ∧ W.cell? ⟨gw, 2, none⟩ = some (.slice At q ct) ∧ W.cell? ⟨g3, 2, none⟩ = some (.int .i64 to_) ∧ W.cell? ⟨gw, 0, none⟩ = some (.slice (some ⟨gn, 0, none⟩) n cn) ∧ W.cell? ⟨g3, 1, none⟩ = some (.int .i64 (k : Int)) ∧ W.cell? ⟨gn, k, none⟩ = some (.slice A' n' c')) 21 (by kernel_rfl) ?_
        refine wpAnyS_take (i := 0) (v := ?v0) (by kernel_rfl) rfl (by kernel_rfl) (by kernel_rfl) (by kernel_rfl) (fun _ _ _ h => h) (by rfl) (by assumption) ?hy0 ?rest0
        case hy0 => (intro W hSW; (try dsimp only at hSW); go_simp; try with_reducible rfl)
        (try simp only [Act.put, List.setIfInBounds_toArray, List.set_cons_zero, List.set_cons_succ])
        refine wpAnyS_take (i := 1) (v := ?v1) (by kernel_rfl) rfl (by kernel_rfl) (by kernel_rfl) (by kernel_rfl) (fun _ _ _ h => h) (by rfl) (by assumption) ?hy1 ?rest1
        case hy1 => (intro W hSW; (try dsimp only at hSW); go_simp; try with_reducible rfl)
        (try simp only [Act.put, List.setIfInBounds_toArray, List.set_cons_zero, List.set_cons_succ])
        refine wpAnyS_take (i := 2) (v := ?v2) (by kernel_rfl) rfl (by kernel_rfl) (by kernel_rfl) (by kernel_rfl) (fun _ _ _ h => h) (by rfl) (by assumption) ?hy2 ?rest2
        case hy2 => (intro W hSW; (try dsimp only at hSW); go_simp; try with_reducible rfl)
        (try simp only [Act.put, List.setIfInBounds_toArray, List.set_cons_zero, List.set_cons_succ])
        refine wpAnyS_take (i := 3) (v := ?v3) (by kernel_rfl) rfl (by kernel_rfl) (by kernel_rfl) (by kernel_rfl) (fun _ _ _ h => h) (by rfl) (by assumption) ?hy3 ?rest3
        case hy3 => (intro W hSW; (try dsimp only at hSW); go_simp; try with_reducible rfl)
        (try simp only [Act.put, List.setIfInBounds_toArray, List.set_cons_zero, List.set_cons_succ])
        refine wpAnyS_take (i := 4) (v := ?v4) (by kernel_rfl) rfl (by kernel_rfl) (by kernel_rfl) (by kernel_rfl) (fun _ _ _ h => h) (by rfl) (by assumption) ?hy4 ?rest4
        case hy4 => (intro W hSW; (try dsimp only at hSW); go_simp; try with_reducible rfl)
        (try simp only [Act.put, List.setIfInBounds_toArray, List.set_cons_zero, List.set_cons_succ])
        refine wpAnyS_take (i := 5) (v := ?v5) (by kernel_rfl) rfl (by kernel_rfl) (by kernel_rfl) (by kernel_rfl) (fun _ _ _ h => h) (by rfl) (by assumption) ?hy5 ?rest5
        case hy5 => (intro W hSW; (try dsimp only at hSW); go_simp; try with_reducible rfl)
        (try simp only [Act.put, List.setIfInBounds_toArray, List.set_cons_zero, List.set_cons_succ])
        refine wpAnyS_take (i := 6) (v := ?v6) (by kernel_rfl) rfl (by kernel_rfl) (by kernel_rfl) (by kernel_rfl) (fun _ _ _ h => h) (by rfl) (by assumption) ?hy6 ?rest6
        case hy6 => (intro W hSW; (try dsimp only at hSW); go_simp; try with_reducible rfl)
        (try simp only [Act.put, List.setIfInBounds_toArray, List.set_cons_zero, List.set_cons_succ])
        refine wpAnyS_take (i := 7) (v := ?v7) (by kernel_rfl) rfl (by kernel_rfl) (by kernel_rfl) (by kernel_rfl) (fun _ _ _ h => h) (by rfl) (by assumption) ?hy7 ?rest7
        case hy7 => (intro W hSW; (try dsimp only at hSW); go_simp; try with_reducible rfl)
        (try simp only [Act.put, List.setIfInBounds_toArray, List.set_cons_zero, List.set_cons_succ])
        refine wpAnyS_take (i := 8) (v := ?v8) (by kernel_rfl) rfl (by kernel_rfl) (by kernel_rfl) (by kernel_rfl) (fun _ _ _ h => h) (by rfl) (by assumption) ?hy8 ?rest8
        case hy8 => (intro W hSW; (try dsimp only at hSW); go_simp; try with_reducible rfl)
        (try simp only [Act.put, List.setIfInBounds_toArray, List.set_cons_zero, List.set_cons_succ])
        refine wpAnyS_take (i := 9) (v := ?v9) (by kernel_rfl) rfl (by kernel_rfl) (by kernel_rfl) (by kernel_rfl) (fun _ _ _ h => h) (by rfl) (by assumption) ?hy9 ?rest9
        case hy9 => (intro W hSW; (try dsimp only at hSW); go_simp; try with_reducible rfl)
        (try simp only [Act.put, List.setIfInBounds_toArray, List.set_cons_zero, List.set_cons_succ])
        refine wpAnyS_take (i := 10) (v := ?v10) (by kernel_rfl) rfl (by kernel_rfl) (by kernel_rfl) (by kernel_rfl) (fun _ _ _ h => h) (by rfl) (by assumption) ?hy10 ?rest10
        case hy10 => (intro W hSW; (try dsimp only at hSW); go_simp; try with_reducible rfl)
        (try simp only [Act.put, List.setIfInBounds_toArray, List.set_cons_zero, List.set_cons_succ])
        refine wpAnyS_take (i := 11) (v := ?v11) (by kernel_rfl) rfl (by kernel_rfl) (by kernel_rfl) (by kernel_rfl) (fun _ _ _ h => h) (by rfl) (by assumption) ?hy11 ?rest11
        case hy11 => (intro W hSW; (try dsimp only at hSW); go_simp; try with_reducible rfl)
        (try simp only [Act.put, List.setIfInBounds_toArray, List.set_cons_zero, List.set_cons_succ])
        refine wpAnyS_take (i := 12) (v := ?v12) (by kernel_rfl) rfl (by kernel_rfl) (by kernel_rfl) (by kernel_rfl) (fun _ _ _ h => h) (by rfl) (by assumption) ?hy12 ?rest12
        case hy12 => (intro W hSW; (try dsimp only at hSW); go_simp; try with_reducible rfl)
        (try simp only [Act.put, List.setIfInBounds_toArray, List.set_cons_zero, List.set_cons_succ])
        refine wpAnyS_take (i := 13) (v := ?v13) (by kernel_rfl) rfl (by kernel_rfl) (by kernel_rfl) (by kernel_rfl) (fun _ _ _ h => h) (by rfl) (by assumption) ?hy13 ?rest13
        case hy13 => (intro W hSW; (try dsimp only at hSW); go_simp; try with_reducible rfl)
        (try simp only [Act.put, List.setIfInBounds_toArray, List.set_cons_zero, List.set_cons_succ])
        refine wpAnyS_take (i := 14) (v := ?v14) (by kernel_rfl) rfl (by kernel_rfl) (by kernel_rfl) (by kernel_rfl) (fun _ _ _ h => h) (by rfl) (by assumption) ?hy14 ?rest14
        case hy14 => (intro W hSW; (try dsimp only at hSW); go_simp; try with_reducible rfl)
        (try simp only [Act.put, List.setIfInBounds_toArray, List.set_cons_zero, List.set_cons_succ])
        refine wpAnyS_only (i := 15) rfl (by kernel_rfl) (fun K hK => ?_)
        go_simp
        go_at_call 35
        refine (HCo.out _ (Below.refl _ _).drew).mono ?_
        rintro e w5 ⟨v5, l5, rfl, ho5, he5, hb5⟩
        have Hb5 := Lib.hid (show Below w3.heap.size w3 w5 from (Below.refl w3.heap.size w3).drew.trans hb5)
        obtain ⟨A5, c5, rfl, _⟩ := own_slat ho5.row
        obtain ⟨ln5, hln5⟩ : ∃ ln5, ln5 = l5.length := ⟨_, rfl⟩
        rw [← hln5] at ho5 ⊢
        have He5 := Lib.hid he5
        have HS5 := Lib.hid (ho5.base_ (show w0.heap.size ≤ w3.heap.size from S3.out.below.size))
        clear hln5 ho5 he5 hb5 hHeld
        refine hK.out _ _ (HS.out _ Hb5.out) (fun hHeld => ?_)
        clear hK K
        (try simp only [Act.put, List.setIfInBounds_toArray, List.set_cons_zero, List.set_cons_succ])
        refine wpAnyS_take (i := 16) (v := ?v16) (by kernel_rfl) rfl (by kernel_rfl) (by kernel_rfl) (by kernel_rfl) (fun _ _ _ h => h) (by rfl) (by assumption) ?hy16 ?rest16
        case hy16 => (intro W hSW; (try dsimp only at hSW); go_simp; try with_reducible rfl)
        (try simp only [Act.put, List.setIfInBounds_toArray, List.set_cons_zero, List.set_cons_succ])
        refine wpAnyS_only (i := 17) rfl (by kernel_rfl) (fun K hK => ?_)
        go_simp
        clear hHeld
        have Hb7 := Lib.hid (Hb5.out.alloc Hb5.out.size (.cells #[.int .i64 to_, .slice A5 ln5 c5] 54))
        refine hK.out _ _ (HS.out _ Hb7.out) (fun hHeld => ?_)
        have HX7 := Lib.hid (S3.out.own.below Hb7.out)
        have HS7 := Lib.hid (show OwnFs (w5.alloc (.cells #[.int .i64 to_, .slice A5 ln5 c5] 54)) w0.heap.size (slv (A5, ln5, c5)) l5 from HS5.out.below ((Below.refl _ _).alloc (Nat.le_refl _) _))
        have HB7 := Lib.hid (HB3.out.below Hb7.out HB3.out.lt)
        have HBw7 := Lib.hid (S3.out.bw.below Hb7.out S3.out.bw.lt)
        have Hs7 : Hid (SlAt (w5.alloc (.cells #[.int .i64 to_, .slice A5 ln5 c5] 54)) (some ⟨w5.heap.size, 0, none⟩) [.int .i64 to_, .slice A5 ln5 c5]) := Lib.hid (SlAt.of_heap (heap_alloc_new _ _) rfl)
        have Hbs7 : Hid (w0.heap.size ≤ (w5.alloc (.cells #[.int .i64 to_, .slice A5 ln5 c5] 54)).heap.size) := Lib.hid (by have := S3.out.below.size; have := Hb7.out.size; omega)
        clear hK K
        (try simp only [Act.put, List.setIfInBounds_toArray, List.set_cons_zero, List.set_cons_succ])
        refine wpAnyS_only (i := 18) rfl (by kernel_rfl) (fun K hK => ?_)
        refine step_app rfl (.tmp 51) (.tmp 64) _ rfl w0.heap.size 54 _ 2 32 tyM (.slice At q ct) q (x.net.flatMap mC) (by simp [Act.eval]) (by have := HX7.out.net; rw [Hvt.out, ← Hq.out] at this; exact this) (some ⟨w5.heap.size, 0, none⟩) 1 1 [.int .i64 to_, .slice A5 ln5 c5] (by simp [Act.eval]) rfl Hs7.out (by simp [Value.oneCell']) (by simp) (by unfold maxLen; omega) (by omega) Hbs7.out ?_
        intro v8 w8 hown8 hg8
        obtain ⟨A8, d8, rfl, _⟩ := own_slat hown8
        have Ho8 := Lib.hid hown8
        have Hg8 := Lib.hid hg8
        have HX7t : Hid (x.vt = .slice At q ct) := Lib.hid (by rw [Hvt.out, ← Hq.out])
        have Hne := Lib.hid (own_ne HX7.out.net HB7.out (by decide))
        rw [HX7t.out] at Hne
        have HB8 := Lib.hid (HB7.out.grown hg8 Hne.out)
        have HBw8 := Lib.hid (HBw7.out.grown hg8 Hne.out)
        have Hb8 := Lib.hid (own_below (w0 := w0) (by have := HX7.out.net; rw [HX7t.out, ← Hq.out] at this; exact this) hg8 (S3.out.below.trans (Hb7.out.mono S3.out.below.size)) Hbs7.out)
        have hKp : Keeps w0.heap.size [54] (w5.alloc (.cells #[.int .i64 to_, .slice A5 ln5 c5] 54)) w8 := (Keeps.refl _ _ _).grown (by have := HX7.out.net; rw [HX7t.out, ← Hq.out] at this; exact this) hg8 (by simp) Hbs7.out
        have HX8 := Lib.hid (OwnW.addMsg HX7.out to_ HH.out.to_ (A5, ln5, c5) l5 HS7.out (by rw [← Hq.out]; exact hown8) (by rw [HX7t.out]; exact hg8) Hbs7.out)
        have HK8 := Lib.hid ((S3.out.kr.step Hb7.out).keeps hKp)
        have HP8 := Lib.hid (fun g t cs (h : Blk w3 g t cs) (ht : t ∉ [54]) => hKp.blk (h.below Hb7.out h.lt) ht)
        clear hown8 hg8 hKp hHeld
        refine hK.out _ _ (HS8.out _ HB8.out HP8.out) (fun hHeld => ?_)
        clear hK K
        (try simp only [Act.put, List.setIfInBounds_toArray, List.set_cons_zero, List.set_cons_succ])
        refine wpAnyS_only (i := 19) rfl (by kernel_rfl) (fun K hK => ?_)
        go_simp
        have hHeld' := hHeld
        clear hHeld
        refine hK.out _ _ hHeld' (fun hHeld => ?_)
        clear hHeld'
        clear hK K
        (try simp only [Act.put, List.setIfInBounds_toArray, List.set_cons_zero, List.set_cons_succ])
        refine wpAnyS_only (i := 20) rfl (by kernel_rfl) (fun K hK => ?_)
        go_simp
        have hHeld' := hHeld
        clear hHeld
        refine hK.out _ _ hHeld' (fun hHeld => ?_)
        clear hHeld'
        clear hK K
        (try simp only [Act.put, List.setIfInBounds_toArray, List.set_cons_zero, List.set_cons_succ])
        have HO9 := Lib.hid (HX8.out.set_ HBw8.out (by decide) (by decide) (by decide) (by decide) (by decide) 2 (.slice A8 (q + 1) d8))
        have HB9 := Lib.hid (HBw8.out.set_ 2 (.slice A8 (q + 1) d8))
        have Hb9 := Lib.hid (Hb8.out.setCell (show w0.heap.size ≤ (⟨gw, 2, none⟩ : Addr).block from hgw) (.slice A8 (q + 1) d8))
        obtain ⟨y0, y1, y2⟩ := blk3 HB8.out
        have f2 := HB8.out.frozen 2
        refine wpAnyS_last rfl (by kernel_rfl) (by kernel_rfl) (fun K hK => ?_)
        go_simp
        refine hK.out _ _ ?_
        clear hK K
        clear y0 y1 y2 f2 hHeld
        go_wp2_with fail
        go_ret
        rw [HU.out]
        refine ⟨rfl, Hb9.out, fun _ => ⟨{ x with vt := .slice A8 (q + 1) d8, net := x.net ++ [(to_, (A5, ln5, c5), l5)] }, ?_, HB9.out, HO9.out⟩, HK8.out.self 2 (.slice A8 (q + 1) d8)⟩
        simp only [Wx.wd, List.map_append, List.map_cons, List.map_nil, msOf]
        rw [show flOf l5 = l5.map Prod.fst from rfl, He5.out]
        rfl
set_option maxRecDepth 100000 in
set_option maxHeartbeats 6000000 in
theorem step_double (w0 w : World) (gw : Nat) (x : Wx) (h : Hx) (hml : ML w0) (hb : Below w0.heap.size w0 w) (hgw : w0.heap.size ≤ gw) (hB : Blk w gw 26 #[x.vn, x.vc, x.vt]) (hO : OwnW w w0.heap.size x) (hw : WOk x.wd) (hh : HapAt w0 h) (hkind : h.1.kind = 6) :
    Calls Tryz.prog 21 #[.pointer (some ⟨gw, 0, none⟩), hV h] w (StepPost w w0 gw (stepR x.wd h.1)) := by
  have hlen : x.clock.length = x.nodes.length := by have := hw.clock; simpa [Wx.wd] using this
  have hfew : x.nodes.length ≤ 4 := by have := hw.few; simpa [Wx.wd] using this
  have hsome : 1 ≤ x.nodes.length := by have := hw.some_; simpa [Wx.wd] using this
  have hnet : x.net.length ≤ 20 := by have := hw.net; simpa [Wx.wd] using this
  have hnl : x.wd.nodes.length = x.nodes.length := by simp [Wx.wd]
  have htl : x.wd.net.length = x.net.length := by simp [Wx.wd]
  obtain ⟨R, hR⟩ : ∃ R, R = stepR x.wd h.1 := ⟨_, rfl⟩
  have HR := Lib.hid (hR.trans (stepR_6 hkind))
  rw [htl] at HR
  rw [← hR]
  obtain ⟨gn, cn, hvn, _, _, _, _⟩ := own_at hO.nodes (by omega)
  obtain ⟨gc, cc, hvc, _, _, _, _⟩ := own_at hO.clock (by omega)
  obtain ⟨At, ct, hvt, _⟩ : ∃ A c, x.vt = .slice A x.net.length c ∧ True := by obtain ⟨A, c, h, _⟩ := own_slat hO.net; exact ⟨A, c, h, trivial⟩
  have hB' := hB
  rw [hvn, hvc, hvt] at hB'
  have Hvn := Lib.hid hvn
  have Hvc := Lib.hid hvc
  have Hvt := Lib.hid hvt
  obtain ⟨n, hn⟩ : ∃ n, n = x.nodes.length := ⟨_, rfl⟩
  obtain ⟨q, hq⟩ : ∃ q, q = x.net.length := ⟨_, rfl⟩
  rw [hlen] at hB'
  rw [← hn] at hB' hfew hsome
  rw [← hq] at hB' hnet
  rw [← hq] at HR
  have Hn := Lib.hid hn
  have Hq := Lib.hid hq
  have Hlen := Lib.hid hlen
  have HH := Lib.hid hh
  have HML := Lib.hid hml
  have HW := Lib.hid hw
  obtain ⟨⟨kind, node, to_, nm, bytes⟩, Ab, nb, cb⟩ := h
  dsimp only at hkind HR
  subst hkind
  obtain ⟨g2, hg2⟩ : ∃ g2, g2 = w.heap.size := ⟨_, rfl⟩
  obtain ⟨g3, hg3⟩ : ∃ g3, g3 = w.heap.size + 1 := ⟨_, rfl⟩
  obtain ⟨w1, hw1⟩ : ∃ w1, w1 = (w.alloc (.cells #[.pointer (some ⟨gw, 0, none⟩)] 56)).alloc (.cells #[.int .i64 6, .int .i64 node, .int .i64 to_, .string (strB nm), .slice Ab nb cb] 29) := ⟨_, rfl⟩
  have hb1 : Below w.heap.size w w1 := by rw [hw1]; exact ((Below.refl _ _).alloc (Nat.le_refl _) _).alloc (by simp) _
  have HB1 := Lib.hid (hB'.below hb1 hB'.lt)
  have S1 := Lib.hid (show StS w w0 w1 gw g2 g3 x (⟨6, node, to_, nm, bytes⟩, Ab, nb, cb) from ⟨hb.trans (hb1.mono hb.size), hB.below hb1 hB.lt, by rw [hw1, hg2]; exact (Blk.new _ _ _).alloc _, by
    rw [hw1, hg3, show w.heap.size + 1 = (w.alloc (.cells #[.pointer (some ⟨gw, 0, none⟩)] 56)).heap.size by simp]
    exact Blk.new _ _ _, hO.below hb1, KR.start hb1⟩)
  have H31 := Lib.hid (show Blk w1 g3 29 #[.int .i64 6, .int .i64 node, .int .i64 to_, .string (strB nm), .slice Ab nb cb] from S1.out.b3)
  have Hw1 := Lib.hid hw1.symm
  have Hg2 := Lib.hid hg2.symm
  have Hg3 := Lib.hid hg3.symm
  have hgw3 : g3 ≠ gw := by have := hB.lt; omega
  have hgw2 : g2 ≠ gw := by have := hB.lt; omega
  have hg2b : w0.heap.size ≤ g2 := by have := hb.size; omega
  have hg3b : w0.heap.size ≤ g3 := by have := hb.size; omega
  unfold hV slv
  dsimp only
  clear hvn hvc hvt hn hq hlen hh hml hw hR hnl htl hw1 hg2 hg3 hb1 hB hB' hb hO
  have HN := Lib.hid (msg1_any to_ At q ct gw g2 g3 _ _ _ _ _ _ w1 S1.out.b2 HB1.out H31.out)
  go_enter Tryz.func21, Tryz.ntmps21
  go_wp2_with fail
  rw [Hw1.out, Hg3.out, Hg2.out]
  clear Hw1 Hg2 Hg3
  refine (HN.out).mono ?_
  rintro e w2 ⟨rfl, hb2⟩
  have S2 := Lib.hid (S1.out.step hb2)
  have H32 := Lib.hid (H31.out.below hb2 H31.out.lt)
  have HB2 := Lib.hid (HB1.out.below hb2 HB1.out.lt)
  clear hb2 HN S1 HB1 H31
  by_cases hbad : to_ < 0 ∨ (q : Int) ≤ to_
  · have HU : Hid (R = (5, .none_)) := Lib.hid (by rw [HR.out, if_pos hbad])
    rw [outB_bad hbad]
    clear hbad
    go_wp2_with fail
    go_ret
    exact StepPost.err HU.out (by decide) S2.out.below S2.out.kr
  · have HU := Lib.hid (HR.out.trans (if_neg hbad))
    rw [outB_ok hbad]
    obtain ⟨k, rfl⟩ : ∃ k : Nat, to_ = (k : Int) := ⟨to_.toNat, by omega⟩
    have hkq : k < q := by omega
    rw [Int.toNat_natCast] at HU
    have d0 : w2.cell? ⟨g2, 0, none⟩ = some (.pointer (some ⟨gw, 0, none⟩)) := by rw [S2.out.b2.cell]; rfl
    have d3 : w2.cell? ⟨g3, 2, none⟩ = some (.int .i64 (k : Int)) := by rw [H32.out.cell]; rfl
    have d1 : w2.cell? ⟨gw, 2, none⟩ = some (.slice At q ct) := by rw [HB2.out.cell]; rfl
    clear hbad HR
    by_cases h20 : q = 20
    · have HU2 := Lib.hid (HU.out.trans (if_pos h20))
      subst h20
      go_wp2_with fail
      go_ret
      exact StepPost.err HU2.out (by decide) S2.out.below S2.out.kr
    · have HU := Lib.hid (HU.out.trans (if_neg h20))
      have h21 : ((q : Int) == 20) = false := by rw [beq_eq_false_iff_ne]; omega
      have h22 : decide ((q : Int) = 20) = false := decide_eq_false (by omega)
      have h23 : ¬ (q : Int) = 20 := by omega
      obtain ⟨gt, ct', hvt', _, _, _, _⟩ := own_at S2.out.own.net (by rw [← Hq.out]; omega)
      have hvt2 := Hvt.out
      rw [hvt2] at hvt'
      injection hvt' with e1 e2 e3
      subst e1 e3
      clear e2 hvt2
      have hkl : k < x.net.length := by rw [← Hq.out]; exact hkq
      have hmD : msAt x.wd k = msOf x.net[k] := by simp [msAt, Wx.wd, List.getD_eq_getElem?_getD, hkl]
      rw [hmD] at HU
      have hcellM := own_msg (by have := S2.out.own.net; rw [Hvt.out] at this; exact this) rfl hkl
      have hnd := S2.out.own.ms x.net[k] (List.getElem_mem hkl)
      have hsm := files_small (net_small HW.out x.net[k] (List.getElem_mem hkl))
      have Hkl := Lib.hid hkl
      clear hmD
      generalize x.net[k] = nd at *
      obtain ⟨tm, ⟨A', n', c'⟩, fl⟩ := nd
      simp only [slv] at hcellM
      have HTm := Lib.hid hnd.1
      have Hnf := Lib.hid hnd.2.files
      have Hsm := Lib.hid hsm
      have HM0 := Lib.hid hcellM.1
      have HM1 := Lib.hid hcellM.2
      have hgtx : gt < w2.heap.size := by have := block_lt_of_cell hcellM.1; exact this
      have HS0 : Hid (∀ W, Below w2.heap.size w2 W → W.cell? ⟨g2, 0, none⟩ = some (.pointer (some ⟨gw, 0, none⟩)) ∧ W.cell? ⟨gw, 2, none⟩ = some (.slice (some ⟨gt, 0, none⟩) q ct) ∧ W.cell? ⟨g3, 2, none⟩ = some (.int .i64 (k : Int)) ∧ W.cell? ⟨gt, k * 2, none⟩ = some (.int .i64 tm) ∧ W.cell? ⟨gt, k * 2 + 1, none⟩ = some (.slice A' n' c')) := Lib.hid (fun W hb =>
        ⟨by rw [(S2.out.b2.below hb S2.out.b2.lt).cell]; rfl, by rw [(HB2.out.below hb HB2.out.lt).cell]; rfl, by rw [(H32.out.below hb H32.out.lt).cell]; rfl, cell_below hb HM0.out, cell_below hb HM1.out⟩)
      clear hnd hsm h20 hcellM
      go_wp2_with fail
      go_region_held3 (fun W => W.cell? ⟨g2, 0, none⟩ = some (.pointer (some ⟨gw, 0, none⟩)) ∧ W.cell? ⟨gw, 2, none⟩ = some (.slice (some ⟨gt, 0, none⟩) q ct) ∧ W.cell? ⟨g3, 2, none⟩ = some (.int .i64 (k : Int)) ∧ W.cell? ⟨gt, k * 2, none⟩ = some (.int .i64 tm) ∧ W.cell? ⟨gt, k * 2 + 1, none⟩ = some (.slice A' n' c')) (first | exact HS0.out _ (Below.refl _ _).drew | exact HS0.out _ ((Below.refl _ _).drew.alloc (Nat.le_refl _) _) | (refine HS0.out _ ?_; repeat (first | exact Below.refl _ _ | apply Below.drew | refine Below.alloc ?_ (by simp) _ | refine Below.setCell ?_ (by simp) _))) ((fail))
      obtain ⟨w3, hw3⟩ : ∃ w3, w3 = (w2.alloc (.cells #[.int .i64 tm, .slice A' n' c'] 54)).drew := ⟨_, rfl⟩
      obtain ⟨gx, hgx⟩ : ∃ gx, gx = w2.heap.size := ⟨_, rfl⟩
      have hb3 : Below w2.heap.size w2 w3 := by rw [hw3]; exact ((Below.refl _ _).alloc (Nat.le_refl _) _).drew
      have HX3 := Lib.hid (show Blk w3 gx 54 #[.int .i64 tm, .slice A' n' c'] by rw [hw3, hgx]; exact Blk.new _ _ _)
      have S3 := Lib.hid (S2.out.step hb3)
      have H33 := Lib.hid (H32.out.below hb3 H32.out.lt)
      have HB3 := Lib.hid (HB2.out.below hb3 HB2.out.lt)
      have Hnf3 := Lib.hid (Hnf.out.below hb3)
      have Hw3 := Lib.hid hw3.symm
      have Hgx := Lib.hid hgx.symm
      have Hngx : Hid (gt ≠ gx) := Lib.hid (by omega)
      have HCo := Lib.hid (fun W (hb : Below w3.heap.size w3 W) => copy_any (.slice A' n' c') fl W (Hnf3.out.below hb) Hsm.out.1 Hsm.out.2)
      have HS8 : Hid (∀ W, Blk W gw 26 #[.slice (some ⟨gn, 0, none⟩) n cn, .slice (some ⟨gc, 0, none⟩) n cc, .slice (some ⟨gt, 0, none⟩) q ct] → Blk W gx 54 #[.int .i64 tm, .slice A' n' c'] → (∀ g t cs, Blk w3 g t cs → t ∉ [54] → Blk W g t cs) → W.cell? ⟨g2, 0, none⟩ = some (.pointer (some ⟨gw, 0, none⟩)) ∧ W.cell? ⟨gw, 2, none⟩ = some (.slice (some ⟨gt, 0, none⟩) q ct) ∧ W.cell? ⟨gx, 0, none⟩ = some (.int .i64 tm) ∧ W.cell? ⟨gx, 1, none⟩ = some (.slice A' n' c')) := Lib.hid (fun W hbw hbx hb =>
        ⟨by rw [(hb _ _ _ S3.out.b2 (by decide)).cell]; rfl, by rw [hbw.cell]; rfl, hbx.c0, hbx.c1⟩)
      have HS : Hid (∀ W, Below w3.heap.size w3 W → _) := Lib.hid (fun W hb => HS8.out W (HB3.out.below hb HB3.out.lt) (HX3.out.below hb HX3.out.lt) (fun g t cs h _ => h.below hb h.lt))
      clear hw3 hgx hb3 d0 d1 d3 HS0 S2 H32 HB2 HM0 HM1 hgtx
      go_wp2_with fail
      rw [Hw3.out, Hgx.out]
      clear Hw3 Hgx
      have hHeld := HS.out w3.drew (Below.refl _ _).drew
      refine wp_region_S (fun W => W.cell? ⟨g2, 0, none⟩ = some (.pointer (some ⟨gw, 0, none⟩)) ∧ W.cell? ⟨gw, 2, none⟩ = some (.slice (some ⟨gt, 0, none⟩) q ct) ∧ W.cell? ⟨gx, 0, none⟩ = some (.int .i64 tm) ∧ W.cell? ⟨gx, 1, none⟩ = some (.slice A' n' c')) 15 (by kernel_rfl) ?_
      refine wpAnyS_take (i := 0) (v := ?v0) (by kernel_rfl) rfl (by kernel_rfl) (by kernel_rfl) (by kernel_rfl) (fun _ _ _ h => h) (by rfl) (by assumption) ?hy0 ?rest0
      case hy0 => (intro W hSW; (try dsimp only at hSW); go_simp; try with_reducible rfl)
      (try simp only [Act.put, List.setIfInBounds_toArray, List.set_cons_zero, List.set_cons_succ])
      refine wpAnyS_take (i := 1) (v := ?v1) (by kernel_rfl) rfl (by kernel_rfl) (by kernel_rfl) (by kernel_rfl) (fun _ _ _ h => h) (by rfl) (by assumption) ?hy1 ?rest1
      case hy1 => (intro W hSW; (try dsimp only at hSW); go_simp; try with_reducible rfl)
      (try simp only [Act.put, List.setIfInBounds_toArray, List.set_cons_zero, List.set_cons_succ])
      refine wpAnyS_take (i := 2) (v := ?v2) (by kernel_rfl) rfl (by kernel_rfl) (by kernel_rfl) (by kernel_rfl) (fun _ _ _ h => h) (by rfl) (by assumption) ?hy2 ?rest2
      case hy2 => (intro W hSW; (try dsimp only at hSW); go_simp; try with_reducible rfl)
      (try simp only [Act.put, List.setIfInBounds_toArray, List.set_cons_zero, List.set_cons_succ])
      refine wpAnyS_take (i := 3) (v := ?v3) (by kernel_rfl) rfl (by kernel_rfl) (by kernel_rfl) (by kernel_rfl) (fun _ _ _ h => h) (by rfl) (by assumption) ?hy3 ?rest3
      case hy3 => (intro W hSW; (try dsimp only at hSW); go_simp; try with_reducible rfl)
      (try simp only [Act.put, List.setIfInBounds_toArray, List.set_cons_zero, List.set_cons_succ])
      refine wpAnyS_take (i := 4) (v := ?v4) (by kernel_rfl) rfl (by kernel_rfl) (by kernel_rfl) (by kernel_rfl) (fun _ _ _ h => h) (by rfl) (by assumption) ?hy4 ?rest4
      case hy4 => (intro W hSW; (try dsimp only at hSW); go_simp; try with_reducible rfl)
      (try simp only [Act.put, List.setIfInBounds_toArray, List.set_cons_zero, List.set_cons_succ])
      refine wpAnyS_take (i := 5) (v := ?v5) (by kernel_rfl) rfl (by kernel_rfl) (by kernel_rfl) (by kernel_rfl) (fun _ _ _ h => h) (by rfl) (by assumption) ?hy5 ?rest5
      case hy5 => (intro W hSW; (try dsimp only at hSW); go_simp; try with_reducible rfl)
      (try simp only [Act.put, List.setIfInBounds_toArray, List.set_cons_zero, List.set_cons_succ])
      refine wpAnyS_take (i := 6) (v := ?v6) (by kernel_rfl) rfl (by kernel_rfl) (by kernel_rfl) (by kernel_rfl) (fun _ _ _ h => h) (by rfl) (by assumption) ?hy6 ?rest6
      case hy6 => (intro W hSW; (try dsimp only at hSW); go_simp; try with_reducible rfl)
      (try simp only [Act.put, List.setIfInBounds_toArray, List.set_cons_zero, List.set_cons_succ])
      refine wpAnyS_take (i := 7) (v := ?v7) (by kernel_rfl) rfl (by kernel_rfl) (by kernel_rfl) (by kernel_rfl) (fun _ _ _ h => h) (by rfl) (by assumption) ?hy7 ?rest7
      case hy7 => (intro W hSW; (try dsimp only at hSW); go_simp; try with_reducible rfl)
      (try simp only [Act.put, List.setIfInBounds_toArray, List.set_cons_zero, List.set_cons_succ])
      refine wpAnyS_take (i := 8) (v := ?v8) (by kernel_rfl) rfl (by kernel_rfl) (by kernel_rfl) (by kernel_rfl) (fun _ _ _ h => h) (by rfl) (by assumption) ?hy8 ?rest8
      case hy8 => (intro W hSW; (try dsimp only at hSW); go_simp; try with_reducible rfl)
      (try simp only [Act.put, List.setIfInBounds_toArray, List.set_cons_zero, List.set_cons_succ])
      refine wpAnyS_only (i := 9) rfl (by kernel_rfl) (fun K hK => ?_)
      go_simp
      go_at_call 35
      refine (HCo.out _ (Below.refl _ _).drew).mono ?_
      rintro e w5 ⟨v5, l5, rfl, ho5, he5, hb5⟩
      have Hb5 := Lib.hid (show Below w3.heap.size w3 w5 from (Below.refl w3.heap.size w3).drew.trans hb5)
      obtain ⟨A5, c5, rfl, _⟩ := own_slat ho5.row
      obtain ⟨ln5, hln5⟩ : ∃ ln5, ln5 = l5.length := ⟨_, rfl⟩
      rw [← hln5] at ho5 ⊢
      have He5 := Lib.hid he5
      have HS5 := Lib.hid (ho5.base_ (show w0.heap.size ≤ w3.heap.size from S3.out.below.size))
      clear hln5 ho5 he5 hb5 hHeld
      refine hK.out _ _ (HS.out _ Hb5.out) (fun hHeld => ?_)
      clear hK K
      (try simp only [Act.put, List.setIfInBounds_toArray, List.set_cons_zero, List.set_cons_succ])
      refine wpAnyS_take (i := 10) (v := ?v10) (by kernel_rfl) rfl (by kernel_rfl) (by kernel_rfl) (by kernel_rfl) (fun _ _ _ h => h) (by rfl) (by assumption) ?hy10 ?rest10
      case hy10 => (intro W hSW; (try dsimp only at hSW); go_simp; try with_reducible rfl)
      (try simp only [Act.put, List.setIfInBounds_toArray, List.set_cons_zero, List.set_cons_succ])
      refine wpAnyS_only (i := 11) rfl (by kernel_rfl) (fun K hK => ?_)
      go_simp
      clear hHeld
      have Hb7 := Lib.hid (Hb5.out.alloc Hb5.out.size (.cells #[.int .i64 tm, .slice A5 ln5 c5] 54))
      refine hK.out _ _ (HS.out _ Hb7.out) (fun hHeld => ?_)
      have HX7 := Lib.hid (S3.out.own.below Hb7.out)
      have HS7 := Lib.hid (show OwnFs (w5.alloc (.cells #[.int .i64 tm, .slice A5 ln5 c5] 54)) w0.heap.size (slv (A5, ln5, c5)) l5 from HS5.out.below ((Below.refl _ _).alloc (Nat.le_refl _) _))
      have HB7 := Lib.hid (HB3.out.below Hb7.out HB3.out.lt)
      have HBw7 := Lib.hid (S3.out.bw.below Hb7.out S3.out.bw.lt)
      have Hs7 : Hid (SlAt (w5.alloc (.cells #[.int .i64 tm, .slice A5 ln5 c5] 54)) (some ⟨w5.heap.size, 0, none⟩) [.int .i64 tm, .slice A5 ln5 c5]) := Lib.hid (SlAt.of_heap (heap_alloc_new _ _) rfl)
      have Hbs7 : Hid (w0.heap.size ≤ (w5.alloc (.cells #[.int .i64 tm, .slice A5 ln5 c5] 54)).heap.size) := Lib.hid (by have := S3.out.below.size; have := Hb7.out.size; omega)
      clear hK K
      (try simp only [Act.put, List.setIfInBounds_toArray, List.set_cons_zero, List.set_cons_succ])
      refine wpAnyS_only (i := 12) rfl (by kernel_rfl) (fun K hK => ?_)
      refine step_app rfl (.tmp 121) (.tmp 128) _ rfl w0.heap.size 54 _ 2 32 tyM (.slice (some ⟨gt, 0, none⟩) q ct) q (x.net.flatMap mC) (by simp [Act.eval]) (by have := HX7.out.net; rw [Hvt.out, ← Hq.out] at this; exact this) (some ⟨w5.heap.size, 0, none⟩) 1 1 [.int .i64 tm, .slice A5 ln5 c5] (by simp [Act.eval]) rfl Hs7.out (by simp [Value.oneCell']) (by simp) (by unfold maxLen; omega) (by omega) Hbs7.out ?_
      intro v8 w8 hown8 hg8
      obtain ⟨A8, d8, rfl, _⟩ := own_slat hown8
      have Ho8 := Lib.hid hown8
      have Hg8 := Lib.hid hg8
      have HX7t : Hid (x.vt = .slice (some ⟨gt, 0, none⟩) q ct) := Lib.hid (by rw [Hvt.out, ← Hq.out])
      have Hne := Lib.hid (own_ne HX7.out.net HB7.out (by decide))
      rw [HX7t.out] at Hne
      have HB8 := Lib.hid (HB7.out.grown hg8 Hne.out)
      have HBw8 := Lib.hid (HBw7.out.grown hg8 Hne.out)
      have Hb8 := Lib.hid (own_below (w0 := w0) (by have := HX7.out.net; rw [HX7t.out, ← Hq.out] at this; exact this) hg8 (S3.out.below.trans (Hb7.out.mono S3.out.below.size)) Hbs7.out)
      have hKp : Keeps w0.heap.size [54] (w5.alloc (.cells #[.int .i64 tm, .slice A5 ln5 c5] 54)) w8 := (Keeps.refl _ _ _).grown (by have := HX7.out.net; rw [HX7t.out, ← Hq.out] at this; exact this) hg8 (by simp) Hbs7.out
      have HX8 := Lib.hid (OwnW.addMsg HX7.out tm HTm.out (A5, ln5, c5) l5 HS7.out (by rw [← Hq.out]; exact hown8) (by rw [HX7t.out]; exact hg8) Hbs7.out)
      have HK8 := Lib.hid ((S3.out.kr.step Hb7.out).keeps hKp)
      have HP8 := Lib.hid (fun g t cs (h : Blk w3 g t cs) (ht : t ∉ [54]) => hKp.blk (h.below Hb7.out h.lt) ht)
      have HBx8 := Lib.hid ((HX3.out.below Hb7.out HX3.out.lt).grown hg8 (fun h => by injection h with h; exact Hngx.out h))
      clear hown8 hg8 hKp hHeld
      refine hK.out _ _ (HS8.out _ HB8.out HBx8.out HP8.out) (fun hHeld => ?_)
      clear hK K
      (try simp only [Act.put, List.setIfInBounds_toArray, List.set_cons_zero, List.set_cons_succ])
      refine wpAnyS_only (i := 13) rfl (by kernel_rfl) (fun K hK => ?_)
      go_simp
      have hHeld' := hHeld
      clear hHeld
      refine hK.out _ _ hHeld' (fun hHeld => ?_)
      clear hHeld'
      clear hK K
      (try simp only [Act.put, List.setIfInBounds_toArray, List.set_cons_zero, List.set_cons_succ])
      refine wpAnyS_only (i := 14) rfl (by kernel_rfl) (fun K hK => ?_)
      go_simp
      have hHeld' := hHeld
      clear hHeld
      refine hK.out _ _ hHeld' (fun hHeld => ?_)
      clear hHeld'
      clear hK K
      (try simp only [Act.put, List.setIfInBounds_toArray, List.set_cons_zero, List.set_cons_succ])
      have HO9 := Lib.hid (HX8.out.set_ HBw8.out (by decide) (by decide) (by decide) (by decide) (by decide) 2 (.slice A8 (q + 1) d8))
      have HB9 := Lib.hid (HBw8.out.set_ 2 (.slice A8 (q + 1) d8))
      have Hb9 := Lib.hid (Hb8.out.setCell (show w0.heap.size ≤ (⟨gw, 2, none⟩ : Addr).block from hgw) (.slice A8 (q + 1) d8))
      obtain ⟨y0, y1, y2⟩ := blk3 HB8.out
      have f2 := HB8.out.frozen 2
      refine wpAnyS_last rfl (by kernel_rfl) (by kernel_rfl) (fun K hK => ?_)
      go_simp
      refine hK.out _ _ ?_
      clear hK K
      clear y0 y1 y2 f2 hHeld
      go_wp2_with fail
      go_ret
      rw [HU.out]
      refine ⟨rfl, Hb9.out, fun _ => ⟨{ x with vt := .slice A8 (q + 1) d8, net := x.net ++ [(tm, (A5, ln5, c5), l5)] }, ?_, HB9.out, HO9.out⟩, HK8.out.self 2 (.slice A8 (q + 1) d8)⟩
      simp only [Wx.wd, List.map_append, List.map_cons, List.map_nil, msOf]
      rw [show flOf l5 = l5.map Prod.fst from rfl, He5.out]
      rfl
theorem step_any (w0 w : World) (gw : Nat) (x : Wx) (h : Hx) (hml : ML w0) (hb : Below w0.heap.size w0 w) (hgw : w0.heap.size ≤ gw) (hB : Blk w gw 26 #[x.vn, x.vc, x.vt]) (hO : OwnW w w0.heap.size x) (hw : WOk x.wd) (hh : HapAt w0 h) :
    Calls Tryz.prog 21 #[.pointer (some ⟨gw, 0, none⟩), hV h] w (StepPost w w0 gw (stepR x.wd h.1)) := by
  rcases (by omega : h.1.kind = 1 ∨ h.1.kind = 2 ∨ h.1.kind = 3 ∨ h.1.kind = 4 ∨ h.1.kind = 5 ∨ h.1.kind = 6 ∨ ¬ (1 ≤ h.1.kind ∧ h.1.kind ≤ 6)) with hk | hk | hk | hk | hk | hk | hk
  · exact step_put w0 w gw x h hml hb hgw hB hO hw hh hk
  · exact step_take w0 w gw x h hml hb hgw hB hO hw hh hk
  · exact step_send w0 w gw x h hml hb hgw hB hO hw hh hk
  · exact step_arrive w0 w gw x h hml hb hgw hB hO hw hh hk
  · exact step_lose w0 w gw x h hml hb hgw hB hO hw hh hk
  · exact step_double w0 w gw x h hml hb hgw hB hO hw hh hk
  · exact step_other w0 w gw x h hml hb hgw hB hO hw hh hk
end Go.Proofs.YtdoegpklephelaaGreatDoor.Worlds
