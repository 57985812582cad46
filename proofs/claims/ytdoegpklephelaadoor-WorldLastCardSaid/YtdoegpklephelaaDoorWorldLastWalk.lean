/- reliquarylaw.WorldLast: the walk. -/
import Derived.Test.YtdoegpklephelaaDoorWorldLast0
namespace Go.Proofs.YtdoegpklephelaaDoor.WorldLast
open Go Go.RowKit Go.Proofs.YtdoegpklephelaaDoor Go.Proofs.YtdoegpklephelaaDoor.Name Go.Proofs.YtdoegpklephelaaDoor.Merge Go.Proofs.YtdoegpklephelaaDoor.Worlds
set_option linter.unusedVariables false

/-- what stands ahead of each happening -/
structure Inv (W wr : World) (g5 : Nat) (V : Value) (u : Wx) (ps : List Fx) (nn : Nat) : Prop where
  below : Below W.heap.size W wr
  blk : Blk wr g5 46 #[u.vn, u.vc, u.vt]
  own : OwnW wr W.heap.size u
  ok : WOk u.wd
  len : u.nodes.length = nn
  row : OwnFs wr W.heap.size V ps
  has : ∀ f ∈ ps, ∃ i : Nat, f.1.node = i ∧ i < nn ∧ Has (u.wd.nodes.getD i []) f.1
theorem Inv.step {W wr w' : World} {g5 nn : Nat} {V : Value} {u : Wx} {ps : List Fx} (h : Inv W wr g5 V u ps nn) (hb : Below wr.heap.size wr w') : Inv W w' g5 V u ps nn :=
  ⟨h.below.trans (hb.mono h.below.size), h.blk.below hb h.blk.lt, h.own.below hb, h.ok, h.len, h.row.below hb, h.has⟩
section
variable {w w0 : World} {base g g' : Nat} {a b c p q r V : Value} {t' : TypeId} {cs : Array Value} {z : Wx} {ps : List Fx}
theorem own_set3 (h : OwnW w base z) (hg : Blk w g 46 #[p, q, r]) : OwnW (((w.setCell ⟨g, 0, none⟩ a).setCell ⟨g, 1, none⟩ b).setCell ⟨g, 2, none⟩ c) base z :=
  ((h.set_ hg (by decide) (by decide) (by decide) (by decide) (by decide) 0 a).set_ (hg.set_ 0 a) (by decide) (by decide) (by decide) (by decide) (by decide) 1 b).set_ ((hg.set_ 0 a).set_ 1 b) (by decide) (by decide) (by decide) (by decide) (by decide) 2 c
theorem fs_set3 (h : OwnFs w base V ps) (hg : Blk w g 46 #[p, q, r]) : OwnFs (((w.setCell ⟨g, 0, none⟩ a).setCell ⟨g, 1, none⟩ b).setCell ⟨g, 2, none⟩ c) base V ps :=
  ((h.set_ hg (by decide) (by decide) 0 a).set_ (hg.set_ 0 a) (by decide) (by decide) 1 b).set_ ((hg.set_ 0 a).set_ 1 b) (by decide) (by decide) 2 c
theorem blk_set3 (hg : Blk w g 46 #[p, q, r]) : Blk (((w.setCell ⟨g, 0, none⟩ a).setCell ⟨g, 1, none⟩ b).setCell ⟨g, 2, none⟩ c) g 46 #[a, b, c] := ((hg.set_ 0 a).set_ 1 b).set_ 2 c
theorem blk_far3 (hg : Blk w g' t' cs) (hne : g' ≠ g) : Blk (((w.setCell ⟨g, 0, none⟩ a).setCell ⟨g, 1, none⟩ b).setCell ⟨g, 2, none⟩ c) g' t' cs := ((hg.far (p := ⟨g, 0, none⟩) hne a).far (p := ⟨g, 1, none⟩) hne b).far (p := ⟨g, 2, none⟩) hne c
theorem below_set3 (h : Below base w0 w) (hg : base ≤ g) : Below base w0 (((w.setCell ⟨g, 0, none⟩ a).setCell ⟨g, 1, none⟩ b).setCell ⟨g, 2, none⟩ c) :=
  ((h.setCell (show base ≤ (⟨g, 0, none⟩ : Addr).block from hg) a).setCell (show base ≤ (⟨g, 1, none⟩ : Addr).block from hg) b).setCell (show base ≤ (⟨g, 2, none⟩ : Addr).block from hg) c
end
theorem done_ {u v : Wx} {hp : Hp} {dd : Wd} (hw : WOk u.wd) (hq : (0, dd) = doR u.wd hp) (hv : v.wd = dd) : stepR u.wd hp = (0, v.wd) ∧ WOk v.wd ∧ v.nodes.length = u.nodes.length := by
  subst hv
  have hs : stepR u.wd hp = (0, v.wd) := by rw [← do_2 (chkW_ok.2 hw)]; exact hq.symm
  have hd := step_ok (x := hp) hw (by rw [hs])
  rw [hs] at hd
  exact ⟨hs, hd, by have := (grows hw hs).1; simpa [Wx.wd] using this⟩
set_option maxRecDepth 100000 in
set_option maxHeartbeats 8000000 in
theorem walk (W : World) (hml : ML W) (n : Int) (wn : wfI n) (vs : Value) (xs : List Hx) (hxs : IsL W hC (HapAt W) vs xs) :
    Calls Tryd.prog 10 #[.int .i64 n, vs] W fun e W' => e = .returned (.bool true) ∧ Below W.heap.size W W' := by
  have HML := Lib.hid hml
  have HNew := Lib.hid (new_any n W)
  have HT : Hid (∀ w, Below W.heap.size W w → Calls _ _ _ w _) := Lib.hid (fun w hb => told_any w (hml.below hb))
  obtain ⟨A, cap, rfl, hx1, hx2, hsl, _, hdeep⟩ := hxs
  have Hsl := Lib.hid hsl
  have Hdeep := Lib.hid hdeep
  obtain ⟨N, hN⟩ : ∃ N, N = xs.length := ⟨_, rfl⟩
  have HN := Lib.hid hN
  rw [← hN] at hx1 ⊢
  have hN63 : N ≤ 9223372036854775807 := by unfold maxLen at hx2; omega
  have hc63 : cap ≤ 9223372036854775807 := by unfold maxLen at hx2; omega
  obtain ⟨er, her⟩ : ∃ er, er = (newR n).1 := ⟨_, rfl⟩
  have Her := Lib.hid her
  clear hml hsl hdeep hN hx2 her
  go_enter Tryd.func10, Tryd.ntmps10
  go_wp2_with fail
  refine (HNew.out).mono ?_
  rintro e w1 ⟨y, rfl, hy, hyd, hb1⟩
  obtain ⟨A1, B1, C1, A2, B2, C2, A3, B3, C3, hVy⟩ : ∃ A1 B1 C1 A2 B2 C2 A3 B3 C3, wV y = .agg #[.slice A1 B1 C1, .slice A2 B2 C2, .slice A3 B3 C3] := by
    obtain ⟨A1, c1, A2, c2, A3, c3, h1, h2, h3⟩ := hy.sl
    exact ⟨A1, _, c1, A2, _, c2, A3, _, c3, by unfold wV; rw [h1, h2, h3]⟩
  obtain ⟨g5, hg5⟩ : ∃ g, g = w1.heap.size := ⟨_, rfl⟩
  obtain ⟨w2, hw2⟩ : ∃ w2, w2 = w1.alloc (.cells #[.slice A1 B1 C1, .slice A2 B2 C2, .slice A3 B3 C3] 46) := ⟨_, rfl⟩
  have hb2 : Below w1.heap.size w1 w2 := by rw [hw2]; exact (Below.refl _ _).alloc (Nat.le_refl _) _
  have HG2 := Lib.hid (show Blk w2 g5 46 #[.slice A1 B1 C1, .slice A2 B2 C2, .slice A3 B3 C3] by rw [hw2, hg5]; exact Blk.new _ _ _)
  have Hb2 := Lib.hid (hb1.trans (hb2.mono hb1.size))
  have HY2 := Lib.hid (hy.below hb2)
  have hWg : W.heap.size ≤ g5 := by rw [hg5]; exact hb1.size
  have Hyd := Lib.hid hyd
  have HVy := Lib.hid hVy
  have Hw2 := Lib.hid hw2.symm
  have Hg5 := Lib.hid hg5.symm
  rw [hVy, ← Her.out]
  (try dsimp only)
  clear hy hyd hb1 hVy hw2 hg5 hb2 HNew
  go_wp2_with fail
  rw [Hw2.out, Hg5.out]
  refine (HT.out _ Hb2.out).mono ?_
  rintro e w3 ⟨rfl, hb3⟩
  have Hb3 := Lib.hid (Hb2.out.trans (hb3.mono Hb2.out.size))
  have HG3 := Lib.hid (HG2.out.below hb3 HG2.out.lt)
  have HY3 := Lib.hid (HY2.out.below hb3)
  clear hb3 HG2 HY2 Hw2 Hg5
  by_cases he : er = 0
  · subst he
    obtain ⟨nn, hnn⟩ : ∃ nn, nn = y.nodes.length := ⟨_, rfl⟩
    have HWo : Hid (WOk y.wd) := Lib.hid (by
      rw [Hyd.out]
      by_cases hn : n < 1 ∨ 4 < n
      · have := Her.out; rw [new_1 hn] at this; cases this
      · rw [new_2 hn]; exact newW_ok n.toNat (by omega) (by omega))
    have HI0 : Hid (Inv W w3 g5 (.slice none 0 0) y [] nn) := Lib.hid ⟨Hb3.out, by
      have h := HG3.out
      have hv := HVy.out
      unfold wV at hv
      injection hv with hv
      rw [← hv] at h
      exact h, HY3.out, HWo.out, hnn.symm, OwnFs.nil _ _, by simp⟩
    clear hnn HY3 HG3
    by_cases h40 : 40 < N
    · have h40' : (40 : Int) < (N : Int) := by omega
      have hc40 : 40 ≤ cap := by omega
      have hMx : 40 ≤ xs.length := by rw [← HN.out]; omega
      have hM40 : (40 : Nat) ≤ 40 := by omega
      go_wp2_with fail
      go_loopw [40, 7] (fun vi pv wr => ∃ k : Nat, k ≤ 40 ∧ vi = .int .i64 (k : Int) ∧ ∃ V : Value, V = pv ∧ ∃ (u : Wx) (ps : List Fx), ps.length ≤ k ∧ Inv W wr g5 V u ps nn) (fun vi _ _ => 40 - (intOf vi).toNat)
      case atStart => exact ⟨0, Nat.zero_le _, rfl, _, rfl, y, [], by simp, HI0.out⟩
      case round =>
        obtain ⟨k, hk, rfl, V, rfl, u, ps, hps, hI⟩ := hrel
        have HI := Lib.hid hI
        clear hI
        by_cases hlt : k < 40
        · have hix : k < xs.length := by omega
          obtain ⟨b6, o6, rfl, a0, a1, a2, a3, a4⟩ := hap_cells (Hsl.out.below HI.out.below) hix
          have HHa := Lib.hid ((Hdeep.out xs[k] (List.getElem_mem hix)).below HI.out.below)
          generalize xs[k] = x at *
          obtain ⟨D1, G1, D2, G2, D3, G3, h1, h2, h3⟩ := HI.out.own.sl
          have hB := HI.out.blk
          have hVu : wV u = .agg #[.slice D1 u.nodes.length G1, .slice D2 u.clock.length G2, .slice D3 u.net.length G3] := by unfold wV; rw [h1, h2, h3]
          rw [h1, h2, h3] at hB
          obtain ⟨wh, hwh⟩ : ∃ wh, wh = wr.alloc (.cells #[.int .i64 x.1.kind, .int .i64 x.1.node, .int .i64 x.1.to_, .string (strB x.1.name), slv x.2] 48) := ⟨_, rfl⟩
          obtain ⟨g9, hg9⟩ : ∃ g, g = wr.heap.size := ⟨_, rfl⟩
          have hbh : Below wr.heap.size wr wh := by rw [hwh]; exact (Below.refl _ _).alloc (Nat.le_refl _) _
          have HH := Lib.hid (show Blk wh g9 48 #[.int .i64 x.1.kind, .int .i64 x.1.node, .int .i64 x.1.to_, .string (strB x.1.name), slv x.2] by rw [hwh, hg9]; exact Blk.new _ _ _)
          have HIh := Lib.hid (HI.out.step hbh)
          have HBh := Lib.hid (hB.below hbh hB.lt)
          obtain ⟨⟨e2, dd⟩, hq⟩ : ∃ p, p = doR u.wd x.1 := ⟨_, rfl⟩
          have HDo := Lib.hid (do_any u x wh (HML.out.below HIh.out.below) HIh.out.own.isWorld (HHa.out.below hbh))
          rw [← hq, hVu] at HDo
          have Hq := Lib.hid hq
          have Hwh := Lib.hid hwh.symm
          have Hg9 := Lib.hid hg9.symm
          obtain ⟨l1, hl1⟩ : ∃ l, l = u.nodes.length := ⟨_, rfl⟩
          obtain ⟨l2, hl2⟩ : ∃ l, l = u.clock.length := ⟨_, rfl⟩
          obtain ⟨l3, hl3⟩ : ∃ l, l = u.net.length := ⟨_, rfl⟩
          rw [← hl1, ← hl2, ← hl3] at hB HDo HBh
          obtain ⟨⟨kd, nd, to_, nm, bs⟩, Ab, nb, cb⟩ := x
          unfold hV slv at HDo
          simp only [slv] at a0 a1 a2 a3 a4 HH Hwh
          dsimp only at HDo Hq HH
          obtain ⟨z0, z1, z2⟩ := blk3 hB
          have hzl := hB.lt
          clear hB hVu h1 h2 h3 hwh hg9 hbh hq hl1 hl2 hl3 hix
          go_wp2_with fail
          rw [Hwh.out, Hg9.out]
          refine (HDo.out).mono ?_
          rintro e w4 ⟨v, rfl, hv, hvd, hb4⟩
          obtain ⟨E1, F1, E2, F2, E3, F3, h1, h2, h3⟩ := hv.sl
          have hVv : wV v = .agg #[.slice E1 v.nodes.length F1, .slice E2 v.clock.length F2, .slice E3 v.net.length F3] := by unfold wV; rw [h1, h2, h3]
          obtain ⟨w5, hw5⟩ : ∃ w5, w5 = w4.alloc (.cells #[.slice E1 v.nodes.length F1, .slice E2 v.clock.length F2, .slice E3 v.net.length F3] 46) := ⟨_, rfl⟩
          obtain ⟨g10, hg10⟩ : ∃ g, g = w4.heap.size := ⟨_, rfl⟩
          have hb5 : Below w4.heap.size w4 w5 := by rw [hw5]; exact (Below.refl _ _).alloc (Nat.le_refl _) _
          have HV5 := Lib.hid (show Blk w5 g10 46 #[.slice E1 v.nodes.length F1, .slice E2 v.clock.length F2, .slice E3 v.net.length F3] by rw [hw5, hg10]; exact Blk.new _ _ _)
          have HB4 := Lib.hid (HBh.out.below hb4 HBh.out.lt)
          have Hv4 := Lib.hid hv
          have HI4 := Lib.hid (HIh.out.step hb4)
          have HH4 := Lib.hid (HH.out.below hb4 HH.out.lt)
          have HI5 := Lib.hid ((HIh.out.step hb4).step hb5)
          have HB5 := Lib.hid ((HBh.out.below hb4 HBh.out.lt).below hb5 (by have := HBh.out.lt; have := hb4.size; omega))
          have HH5 := Lib.hid ((HH.out.below hb4 HH.out.lt).below hb5 (by have := HH.out.lt; have := hb4.size; omega))
          have Hv5 := Lib.hid (hv.below hb5)
          have Hvd := Lib.hid hvd
          have Hh1 := Lib.hid h1
          have Hh2 := Lib.hid h2
          have Hh3 := Lib.hid h3
          have Hbh5 : Hid (Below wh.heap.size wh w5) := Lib.hid (hb4.trans (hb5.mono hb4.size))
          obtain ⟨m1, hm1⟩ : ∃ l, l = v.nodes.length := ⟨_, rfl⟩
          obtain ⟨m2, hm2⟩ : ∃ l, l = v.clock.length := ⟨_, rfl⟩
          obtain ⟨m3, hm3⟩ : ∃ l, l = v.net.length := ⟨_, rfl⟩
          rw [← hm1, ← hm2, ← hm3] at HV5 hw5
          rw [hVv, ← hm1, ← hm2, ← hm3]
          have Hw5 := Lib.hid hw5.symm
          have Hg10 := Lib.hid hg10.symm
          have Hm1 := Lib.hid hm1
          have Hm2 := Lib.hid hm2
          have Hm3 := Lib.hid hm3
          (try dsimp only)
          clear hv hvd h1 h2 h3 hVv hw5 hg10 hb4 hb5 hm1 hm2 hm3 z0 z1 z2 hzl a0 a1 a2 a3 a4 HDo HIh HBh HH
          by_cases h2 : e2 = 0
          · subst h2
            obtain ⟨hst, hok, hln⟩ := done_ HI.out.ok Hq.out Hvd.out
            have hne : g9 ≠ g5 := by
              have h1 := HI.out.blk.lt
              have h2 := Hg9.out
              omega
            obtain ⟨ws, hws⟩ : ∃ ws, ws = ((w4.setCell ⟨g5, 0, none⟩ (.slice E1 m1 F1)).setCell ⟨g5, 1, none⟩ (.slice E2 m2 F2)).setCell ⟨g5, 2, none⟩ (.slice E3 m3 F3) := ⟨_, rfl⟩
            obtain ⟨w6, hw6⟩ : ∃ w6, w6 = ws.alloc (.cells #[.slice E1 m1 F1, .slice E2 m2 F2, .slice E3 m3 F3] 46) := ⟨_, rfl⟩
            have hb6 : Below ws.heap.size ws w6 := by rw [hw6]; exact (Below.refl _ _).alloc (Nat.le_refl _) _
            have HW6 : Hid (OwnW w6 wh.heap.size v) := Lib.hid (OwnW.below (by rw [hws]; exact own_set3 Hv4.out HB4.out) hb6)
            have hBs : Blk ws g5 46 #[.slice E1 m1 F1, .slice E2 m2 F2, .slice E3 m3 F3] := by rw [hws]; exact blk_set3 HB4.out
            have HB6 := Lib.hid (hBs.below hb6 hBs.lt)
            have hHs : Blk ws g9 48 #[.int .i64 kd, .int .i64 nd, .int .i64 to_, .string (strB nm), .slice Ab nb cb] := by rw [hws]; exact blk_far3 HH4.out hne
            have HH6 := Lib.hid (hHs.below hb6 hHs.lt)
            have hbs : Below W.heap.size W ws := by rw [hws]; exact below_set3 HI4.out.below hWg
            have hrs : OwnFs ws W.heap.size V ps := by rw [hws]; exact fs_set3 HI4.out.row HB4.out
            have hwz : W.heap.size ≤ wh.heap.size := by
              have h1 := HI.out.below.size
              have h2 := Hwh.out
              rw [← h2]
              simp
              omega
            have HI6 : Hid (Inv W w6 g5 V v ps nn) := Lib.hid ⟨hbs.trans (hb6.mono hbs.size), by rw [Hh1.out, Hh2.out, Hh3.out, ← Hm1.out, ← Hm2.out, ← Hm3.out]; exact HB6.out, HW6.out.base_ hwz, hok, by rw [hln]; exact HI.out.len, hrs.below hb6, fun f hf => by
              obtain ⟨i, h1, h2, h3⟩ := HI.out.has f hf
              exact ⟨i, h1, h2, has_step HI.out.ok hst (by have := HI.out.len; simp [Wx.wd]; omega) h3⟩⟩
            have Hst := Lib.hid hst
            have Hw6 := Lib.hid hw6.symm
            have Hws := Lib.hid hws.symm
            obtain ⟨y0, y1, y2⟩ := blk3 HB4.out
            have f0 := HB4.out.frozen 0
            have f1 := HB4.out.frozen 1
            have f2 := HB4.out.frozen 2
            have hl4 := HB4.out.lt
            have hl9 := HH4.out.lt
            have k0 : w4.cell? ⟨g9, 0, none⟩ = some (.int .i64 kd) := by rw [HH4.out.cell]; rfl
            have k1 : w4.cell? ⟨g9, 1, none⟩ = some (.int .i64 nd) := by rw [HH4.out.cell]; rfl
            clear hst hok hln hw6 hws hb6 hBs hHs hbs hrs
            by_cases hkd : kd = 1 ∨ kd = 2
            · obtain ⟨i, f, hi, hnd, _, hlk, hfn, hfd, hfg⟩ := put_has HI.out.ok Hst.out hkd
              dsimp only at hnd hlk hfn hfg
              subst hnd
              have hin : i < nn := by
                have h1 := HI.out.len
                simp [Wx.wd] at hi
                omega
              have hiv : i < v.nodes.length := by rw [HI6.out.len]; exact hin
              have him : i < m1 := by rw [Hm1.out]; exact hiv
              obtain ⟨gn, cn, hE, hgn1, _, _, csn, hgb⟩ := own_at HW6.out.nodes (by omega)
              rw [Hh1.out] at hE
              injection hE with hE _ hF1
              subst hE
              subst hF1
              have hgne : gn ≠ g5 := by
                have := own_ne HW6.out.nodes HB6.out (by decide)
                rw [Hh1.out] at this
                intro e; apply this; rw [e]; rfl
              have hv4n := Hv4.out.nodes
              have hv6n := HW6.out.nodes
              rw [Hh1.out] at hv4n hv6n
              have hn4 := own_node hv4n rfl hiv
              have hn6 := own_node hv6n rfl hiv
              have hNd := HW6.out.node v.nodes[i] (List.getElem_mem hiv)
              have hget : v.wd.nodes.getD i [] = flOf v.nodes[i].2 := by simp [Wx.wd, List.getD_eq_getElem?_getD, hiv]
              have Hlk := Lib.hid hlk
              rw [hget] at hlk
              obtain ⟨nd6, hnd6⟩ : ∃ x, x = v.nodes[i] := ⟨_, rfl⟩
              rw [← hnd6] at hn4 hn6 hNd hlk
              obtain ⟨⟨As, ns, cs⟩, fl⟩ := nd6
              obtain ⟨j, hj, hidx, hjf⟩ := idx_lk hlk
              dsimp only at hn4 hn6 hNd hj hidx hjf
              obtain ⟨As', cs', hsl, hfl1, hfl2, hfl3, _⟩ := own_slat hNd.row
              injection hsl with e1 e2 e3
              dsimp only at e1 e2 e3
              subst e1 e2 e3
              have HIx := Lib.hid (indexFunc_files As fl.length cs fl 35 #[.pointer (some ⟨g9, 0, none⟩)] (fun x : Fx => decide (x.1.name = nm)) w6 rfl (by omega) hfl3 enm1 (fun x hx w' hb => nm1_any x nm g9 w' _ _ _ _ (HH6.out.below hb HH6.out.lt)))
              rw [hidx] at HIx
              have Hfx := Lib.hid (hNd.each fl[j] (List.getElem_mem hj))
              obtain ⟨bf, of_, rfl, hcf⟩ := slat_elem (size := 5) fC_len (by omega) hfl3 hj
              obtain ⟨nf, hnf⟩ : ∃ n, n = fl.length := ⟨_, rfl⟩
              have hjn : j < nf := by rw [hnf]; exact hj
              rw [← hnf] at HIx hn4 hn6
              obtain ⟨x, hx⟩ : ∃ x, x = fl[j] := ⟨_, rfl⟩
              rw [← hx] at hcf Hfx hjf
              subst hjf
              obtain ⟨⟨n1, b1, s1, d1, g1⟩, A1, l1, c1⟩ := x
              dsimp only at hfn hfd hfg
              have Hlk' : Hid (Has (v.wd.nodes.getD i []) (⟨n1, b1, s1, d1, g1⟩ : Fl)) := Lib.hid ⟨_, by rw [hfn]; exact Hlk.out, by rw [later_refl]; omega⟩
              have Hfd := Lib.hid hfd
              have t0 : w6.cell? ⟨bf, of_ + j * 5, none⟩ = some (.string (strB n1)) := hcf 0 _ rfl
              have t1 : w6.cell? ⟨bf, of_ + j * 5 + 1, none⟩ = some (.slice A1 l1 c1) := hcf 1 _ rfl
              have t2 : w6.cell? ⟨bf, of_ + j * 5 + 2, none⟩ = some (.int .i64 s1) := hcf 2 _ rfl
              have t3 : w6.cell? ⟨bf, of_ + j * 5 + 3, none⟩ = some (.int .i64 d1) := hcf 3 _ rfl
              have t4 : w6.cell? ⟨bf, of_ + j * 5 + 4, none⟩ = some (.bool g1) := hcf 4 _ rfl
              have Ht := Lib.hid (And.intro t0 (And.intro t1 (And.intro t2 (And.intro t3 t4))))
              have Hn6 := Lib.hid hn6
              have hj0 : ¬ (j : Int) < 0 := by omega
              have hgne2 : ¬ g5 = gn := fun e => hgne e.symm
              have hi0 : ¬ (i : Int) < 0 := by omega
              have him' : ¬ (m1 : Int) ≤ (i : Int) := by omega
              simp only [slv] at hn4 Hn6
              have hlgn : gn < w4.heap.size := block_lt_of_cell hn4
              have Hin := Lib.hid hin
              have Hgb := Lib.hid hgb
              clear hi hlk hfn hfd hiv hgn1 hgb hv4n hv6n hn6 hNd hget hnd6 hj hidx hfl1 hfl2 hfl3 hcf hnf hx t0 t1 t2 t3 t4 hin
              rcases hkd with rfl | rfl
              · obtain rfl : g1 = false := by rw [hfg]; simp
                clear hfg
                go_wp2_with fail
                rw [Hws.out, Hw6.out]
                refine (HIx.out).mono ?_
                rintro e w7 ⟨rfl, hb7⟩
                have Hb67 := Lib.hid hb7
                have HB7 := Lib.hid (HB6.out.below hb7 HB6.out.lt)
                have HH7 := Lib.hid (HH6.out.below hb7 HH6.out.lt)
                have p0 := fun p : BelowBy w7 => BelowBy.cell (show w7.cell? ⟨g5, 0, none⟩ = some (.slice (some ⟨gn, 0, none⟩) m1 F1) by rw [HB7.out.cell]; rfl) p
                have p1 := fun p : BelowBy w7 => BelowBy.cell (show w7.cell? ⟨g9, 0, none⟩ = some (.int .i64 1) by rw [HH7.out.cell]; rfl) p
                have p2 := fun p : BelowBy w7 => BelowBy.cell (show w7.cell? ⟨g9, 1, none⟩ = some (.int .i64 (i : Int)) by rw [HH7.out.cell]; rfl) p
                have p3 := fun p : BelowBy w7 => BelowBy.cell (cell_below Hb67.out Hn6.out) p
                have p4 := fun p : BelowBy w7 => BelowBy.cell (cell_below Hb67.out Ht.out.2.2.2.2) p
                clear hb7 y0 y1 y2 f0 f1 f2 k0 k1 hn4 HIx
                go_wp2_with fail
                refine wp_region_below (by kernel_rfl) (by kernel_rfl) ?_
                repeat (quiet_step (fail))
                refine wpQuiet_nil ?_
                intro w8 hq
                have Hb68 : Hid (Below w6.heap.size w6 w8) := Lib.hid (by obtain ⟨p, hp⟩ := hq; rw [hp]; exact Hb67.out.trans (p.h.mono Hb67.out.size))
                clear hq p0 p1 p2 p3 p4 HB7 HH7 Hb67
                have HB8 := Lib.hid (HB6.out.below Hb68.out HB6.out.lt)
                have HH8 := Lib.hid (HH6.out.below Hb68.out HH6.out.lt)
                obtain ⟨y0, y1, y2⟩ := blk3 HB8.out
                have k1 : w8.cell? ⟨g9, 1, none⟩ = some (.int .i64 (i : Int)) := by rw [HH8.out.cell]; rfl
                have t0 := cell_below Hb68.out Ht.out.1
                have t1 := cell_below Hb68.out Ht.out.2.1
                have t2 := cell_below Hb68.out Ht.out.2.2.1
                have t3 := cell_below Hb68.out Ht.out.2.2.2.1
                have t4 := cell_below Hb68.out Ht.out.2.2.2.2
                have n8_ := cell_below Hb68.out Hn6.out
                have HI8 := Lib.hid (HI6.out.step Hb68.out)
                have HW8 := Lib.hid (HW6.out.below Hb68.out)
                have Hfx8 := Lib.hid (Hfx.out.below Hb68.out)
                obtain ⟨w9, hw9⟩ : ∃ w9, w9 = w8.alloc (.cells #[.string (strB n1), .slice A1 l1 c1, .int .i64 s1, .int .i64 d1, .bool false] 33) := ⟨_, rfl⟩
                have hb9 : Below w8.heap.size w8 w9 := by rw [hw9]; exact (Below.refl _ _).alloc (Nat.le_refl _) _
                have HI9 := Lib.hid (HI8.out.step hb9)
                have HW9 := Lib.hid (HW8.out.below hb9)
                have Hfx9 := Lib.hid (Hfx8.out.below hb9)
                have Hsl9 : Hid (SlAt w9 (some ⟨w8.heap.size, 0, none⟩) [.string (strB n1), .slice A1 l1 c1, .int .i64 s1, .int .i64 d1, .bool false]) := Lib.hid (by rw [hw9]; exact SlAt.of_heap (heap_alloc_new w8 _) rfl)
                have Hw9 := Lib.hid hw9.symm
                clear hw9 hb9 HI8 HW8 Hfx8 HB8 HH8
                go_wp2_with (at_builtin; rw [Hw9.out]; refine wpList_app _ rfl (.tmp 98) (.tmp 108) _ rfl W.heap.size 33 _ 5 64 tyF _ ps.length (ps.flatMap fC) rfl HI9.out.row.row (some ⟨w8.heap.size, 0, none⟩) 1 1 [.string (strB n1), .slice A1 l1 c1, .int .i64 s1, .int .i64 d1, .bool false] rfl rfl Hsl9.out (by simp [Value.oneCell']) (by simp) (by unfold maxLen; omega) (by omega) HI9.out.below.size ?_; intro v10 w10 hown10 hg10 _; have Ho10 := Lib.hid hown10; have Hg10_ := Lib.hid hg10; clear hown10 hg10)
                have hVb : ∀ g, V.ownBlock = some g → g < wh.heap.size := fun g hg => by
                  have h1 := (HI.out.row.row.lt g hg).2
                  have h2 := Hwh.out
                  rw [← h2]
                  simp
                  omega
                have HI10 : Hid (Inv W w10 g5 v10 v (ps ++ [(⟨n1, b1, s1, d1, false⟩, A1, l1, c1)]) nn) := Lib.hid ⟨own_below HI9.out.row.row Hg10_.out HI9.out.below HI9.out.below.size, HI9.out.blk.grown Hg10_.out (own_ne HI9.out.row.row HI9.out.blk (by decide)), (OwnW.kept_ HW9.out Hg10_.out hVb).base_ hwz, HI9.out.ok, HI9.out.len, OwnFs.snoc HI9.out.row (Hfx9.out.base_ hwz) Ho10.out Hg10_.out HI9.out.below.size, fun f hf => by
                  rcases List.mem_append.1 hf with hf | hf
                  · exact HI9.out.has f hf
                  · simp at hf; subst hf
                    exact ⟨i, Hfd.out, Hin.out, Hlk'.out⟩⟩
                clear hVb y0 y1 y2 k1 t0 t1 t2 t3 t4 n8_
                go_roundw
                case rel => exact ⟨k + 1, by omega, by go_num, _, rfl, v, _, by simp; omega, HI10.out⟩
                case measure => simp [intOf]; omega
              · obtain rfl : g1 = true := by rw [hfg]; simp
                clear hfg
                go_wp2_with fail
                rw [Hws.out, Hw6.out]
                refine (HIx.out).mono ?_
                rintro e w7 ⟨rfl, hb7⟩
                have Hb67 := Lib.hid hb7
                have HB7 := Lib.hid (HB6.out.below hb7 HB6.out.lt)
                have HH7 := Lib.hid (HH6.out.below hb7 HH6.out.lt)
                have p0 := fun p : BelowBy w7 => BelowBy.cell (show w7.cell? ⟨g5, 0, none⟩ = some (.slice (some ⟨gn, 0, none⟩) m1 F1) by rw [HB7.out.cell]; rfl) p
                have p1 := fun p : BelowBy w7 => BelowBy.cell (show w7.cell? ⟨g9, 0, none⟩ = some (.int .i64 2) by rw [HH7.out.cell]; rfl) p
                have p2 := fun p : BelowBy w7 => BelowBy.cell (show w7.cell? ⟨g9, 1, none⟩ = some (.int .i64 (i : Int)) by rw [HH7.out.cell]; rfl) p
                have p3 := fun p : BelowBy w7 => BelowBy.cell (cell_below Hb67.out Hn6.out) p
                have p4 := fun p : BelowBy w7 => BelowBy.cell (cell_below Hb67.out Ht.out.2.2.2.2) p
                clear hb7 y0 y1 y2 f0 f1 f2 k0 k1 hn4 HIx
                go_wp2_with fail
                refine wp_region_below (by kernel_rfl) (by kernel_rfl) ?_
                repeat (quiet_step (fail))
                refine wpQuiet_nil ?_
                intro w8 hq
                have Hb68 : Hid (Below w6.heap.size w6 w8) := Lib.hid (by obtain ⟨p, hp⟩ := hq; rw [hp]; exact Hb67.out.trans (p.h.mono Hb67.out.size))
                clear hq p0 p1 p2 p3 p4 HB7 HH7 Hb67
                have HB8 := Lib.hid (HB6.out.below Hb68.out HB6.out.lt)
                have HH8 := Lib.hid (HH6.out.below Hb68.out HH6.out.lt)
                obtain ⟨y0, y1, y2⟩ := blk3 HB8.out
                have k1 : w8.cell? ⟨g9, 1, none⟩ = some (.int .i64 (i : Int)) := by rw [HH8.out.cell]; rfl
                have t0 := cell_below Hb68.out Ht.out.1
                have t1 := cell_below Hb68.out Ht.out.2.1
                have t2 := cell_below Hb68.out Ht.out.2.2.1
                have t3 := cell_below Hb68.out Ht.out.2.2.2.1
                have t4 := cell_below Hb68.out Ht.out.2.2.2.2
                have n8_ := cell_below Hb68.out Hn6.out
                have HI8 := Lib.hid (HI6.out.step Hb68.out)
                have HW8 := Lib.hid (HW6.out.below Hb68.out)
                have Hfx8 := Lib.hid (Hfx.out.below Hb68.out)
                obtain ⟨w9, hw9⟩ : ∃ w9, w9 = w8.alloc (.cells #[.string (strB n1), .slice A1 l1 c1, .int .i64 s1, .int .i64 d1, .bool true] 33) := ⟨_, rfl⟩
                have hb9 : Below w8.heap.size w8 w9 := by rw [hw9]; exact (Below.refl _ _).alloc (Nat.le_refl _) _
                have HI9 := Lib.hid (HI8.out.step hb9)
                have HW9 := Lib.hid (HW8.out.below hb9)
                have Hfx9 := Lib.hid (Hfx8.out.below hb9)
                have Hsl9 : Hid (SlAt w9 (some ⟨w8.heap.size, 0, none⟩) [.string (strB n1), .slice A1 l1 c1, .int .i64 s1, .int .i64 d1, .bool true]) := Lib.hid (by rw [hw9]; exact SlAt.of_heap (heap_alloc_new w8 _) rfl)
                have Hw9 := Lib.hid hw9.symm
                clear hw9 hb9 HI8 HW8 Hfx8 HB8 HH8
                go_wp2_with (at_builtin; rw [Hw9.out]; refine wpList_app _ rfl (.tmp 98) (.tmp 108) _ rfl W.heap.size 33 _ 5 64 tyF _ ps.length (ps.flatMap fC) rfl HI9.out.row.row (some ⟨w8.heap.size, 0, none⟩) 1 1 [.string (strB n1), .slice A1 l1 c1, .int .i64 s1, .int .i64 d1, .bool true] rfl rfl Hsl9.out (by simp [Value.oneCell']) (by simp) (by unfold maxLen; omega) (by omega) HI9.out.below.size ?_; intro v10 w10 hown10 hg10 _; have Ho10 := Lib.hid hown10; have Hg10_ := Lib.hid hg10; clear hown10 hg10)
                have hVb : ∀ g, V.ownBlock = some g → g < wh.heap.size := fun g hg => by
                  have h1 := (HI.out.row.row.lt g hg).2
                  have h2 := Hwh.out
                  rw [← h2]
                  simp
                  omega
                have HI10 : Hid (Inv W w10 g5 v10 v (ps ++ [(⟨n1, b1, s1, d1, true⟩, A1, l1, c1)]) nn) := Lib.hid ⟨own_below HI9.out.row.row Hg10_.out HI9.out.below HI9.out.below.size, HI9.out.blk.grown Hg10_.out (own_ne HI9.out.row.row HI9.out.blk (by decide)), (OwnW.kept_ HW9.out Hg10_.out hVb).base_ hwz, HI9.out.ok, HI9.out.len, OwnFs.snoc HI9.out.row (Hfx9.out.base_ hwz) Ho10.out Hg10_.out HI9.out.below.size, fun f hf => by
                  rcases List.mem_append.1 hf with hf | hf
                  · exact HI9.out.has f hf
                  · simp at hf; subst hf
                    exact ⟨i, Hfd.out, Hin.out, Hlk'.out⟩⟩
                clear hVb y0 y1 y2 k1 t0 t1 t2 t3 t4 n8_
                go_roundw
                case rel => exact ⟨k + 1, by omega, by go_num, _, rfl, v, _, by simp; omega, HI10.out⟩
                case measure => simp [intOf]; omega
            · have hk1 : (kd == 1) = false := by rw [beq_eq_false_iff_ne]; omega
              have hk2 : (kd == 2) = false := by rw [beq_eq_false_iff_ne]; omega
              clear hkd
              go_wp2_with fail
              rw [Hws.out, Hw6.out]
              go_roundw
              case rel => exact ⟨k + 1, by omega, by go_num, _, rfl, v, ps, by omega, HI6.out⟩
              case measure => simp [intOf]; omega
          · have hz2 : (e2 != 0) = true := by simpa using h2
            clear h2
            go_wp2_with fail
            rw [Hw5.out]
            go_roundw
            case rel => exact ⟨k + 1, by omega, by go_num, _, rfl, u, ps, by omega, HI5.out⟩
            case measure => simp [intOf]; omega
        · have hge1 : ¬ (k : Int) < 40 := by omega
          have hge2 : decide (k < 40) = false := decide_eq_false (by omega)
          obtain ⟨Ap, cp, hVs, _, _, hps3, _⟩ := own_slat HI.out.row.row
          subst hVs
          obtain ⟨np, hnp⟩ : ∃ n, n = ps.length := ⟨_, rfl⟩
          have Hps3 := Lib.hid hps3
          have Hnp := Lib.hid hnp
          have hnp63 : np ≤ 9223372036854775807 := by omega
          obtain ⟨D1, G1, D2, G2, D3, G3, h1, h2, h3⟩ := HI.out.own.sl
          have hB := HI.out.blk
          have hVu : wV u = .agg #[.slice D1 u.nodes.length G1, .slice D2 u.clock.length G2, .slice D3 u.net.length G3] := by unfold wV; rw [h1, h2, h3]
          rw [h1, h2, h3] at hB
          have Hh1 := Lib.hid h1
          obtain ⟨l1, hl1⟩ : ∃ l, l = u.nodes.length := ⟨_, rfl⟩
          obtain ⟨l2, hl2⟩ : ∃ l, l = u.clock.length := ⟨_, rfl⟩
          obtain ⟨l3, hl3⟩ : ∃ l, l = u.net.length := ⟨_, rfl⟩
          have Hl1 := Lib.hid hl1
          have HVu := Lib.hid hVu
          rw [← hl1, ← hl2, ← hl3] at hB HVu
          have HBu := Lib.hid hB
          obtain ⟨⟨e2, vd⟩, hq⟩ : ∃ q, q = settleR u.wd := ⟨_, rfl⟩
          have Hq := Lib.hid hq
          have HSe : Hid (∀ w', Below wr.heap.size wr w' → Calls Tryd.prog 38 #[wV u] w' (DoPost (settleR u.wd) w')) := Lib.hid (fun w' hb => settle_any u w' (HML.out.below (HI.out.below.trans (hb.mono HI.out.below.size))) (HI.out.own.isWorld.below hb))
          rw [HVu.out, ← hq] at HSe
          have hln : l1 = nn := by rw [hl1]; exact HI.out.len
          subst hln
          obtain ⟨wo, rfl⟩ : ∃ wo, wo = wr := ⟨_, rfl⟩
          rw [← hnp]
          clear hps3 hnp hVu h1 h2 h3 hl1 hl2 hl3 hB hq hps
          go_wp2_with fail
          go_loopw [113] (fun vi wr => ∃ j : Nat, j ≤ np ∧ vi = .int .i64 (j : Int) ∧ Below wo.heap.size wo wr) (fun vi _ => np - (intOf vi).toNat)
          case atStart => exact ⟨0, Nat.zero_le _, rfl, Below.refl _ _⟩
          case round =>
            obtain ⟨j, hj, rfl, hbj⟩ := hrel
            obtain ⟨wj, rfl⟩ : ∃ wj, wj = wr := ⟨_, rfl⟩
            have Hbj := Lib.hid hbj
            have HIj := Lib.hid (HI.out.step hbj)
            clear hbj
            by_cases hjl : j < np
            · have hjp : j < ps.length := by rw [← Hnp.out]; exact hjl
              obtain ⟨bP, oP, rfl, hcp⟩ := slat_elem (size := 5) fC_len (by omega) (Hps3.out.below Hbj.out) hjp
              have HFa := Lib.hid ((HIj.out.row.each ps[j] (List.getElem_mem hjp)).at_)
              obtain ⟨i, hnode, hin, hhas⟩ := HIj.out.has ps[j] (List.getElem_mem hjp)
              obtain ⟨x, hx⟩ : ∃ x, x = ps[j] := ⟨_, rfl⟩
              rw [← hx] at HFa hnode hhas hcp
              have hiu : i < u.nodes.length := by rw [← Hl1.out]; exact hin
              obtain ⟨gn, cn, hE, _, _, _, csn, hgb⟩ := own_at HIj.out.own.nodes (by omega)
              rw [Hh1.out] at hE
              injection hE with hE _ hF1
              subst hE
              subst hF1
              have hvn := HIj.out.own.nodes
              rw [Hh1.out] at hvn
              have hnc := own_node hvn rfl hiu
              have hNd := HIj.out.own.node u.nodes[i] (List.getElem_mem hiu)
              have hget : u.wd.nodes.getD i [] = flOf u.nodes[i].2 := by simp [Wx.wd, List.getD_eq_getElem?_getD, hiu]
              rw [hget] at hhas
              obtain ⟨nd6, hnd6⟩ : ∃ y, y = u.nodes[i] := ⟨_, rfl⟩
              rw [← hnd6] at hnc hNd hhas
              obtain ⟨⟨As, ns, cs⟩, fl⟩ := nd6
              dsimp only at hnc hNd hhas
              obtain ⟨As', cs', hsl, hfl1, hfl2, hfl3, _⟩ := own_slat hNd.row
              injection hsl with e1 e2 e3
              dsimp only at e1 e2 e3
              subst e1 e2 e3
              have Hfl3 := Lib.hid hfl3
              have Hflm : Hid (fl.length ≤ maxLen) := Lib.hid (by omega)
              have HflA : Hid (∀ y ∈ fl, FileAt wj y) := Lib.hid (fun y hy => (hNd.each y hy).at_)
              have Hhas := Lib.hid hhas
              simp only [slv] at hnc
              obtain ⟨nf, hnf⟩ : ∃ n, n = fl.length := ⟨_, rfl⟩
              rw [← hnf] at hnc Hflm
              have Hnf := Lib.hid hnf.symm
              obtain ⟨⟨n1, b1, s1, d1, g1⟩, A1, c1, m1⟩ := x
              dsimp only at hnode
              subst hnode
              have t0 : wj.cell? ⟨bP, oP + j * 5, none⟩ = some (.string (strB n1)) := hcp 0 _ rfl
              have t1 : wj.cell? ⟨bP, oP + j * 5 + 1, none⟩ = some (.slice A1 c1 m1) := hcp 1 _ rfl
              have t2 : wj.cell? ⟨bP, oP + j * 5 + 2, none⟩ = some (.int .i64 s1) := hcp 2 _ rfl
              have t3 : wj.cell? ⟨bP, oP + j * 5 + 3, none⟩ = some (.int .i64 (i : Int)) := hcp 3 _ rfl
              have t4 : wj.cell? ⟨bP, oP + j * 5 + 4, none⟩ = some (.bool g1) := hcp 4 _ rfl
              obtain ⟨wf, hwf⟩ : ∃ wf, wf = wj.alloc (.cells #[.string (strB n1), .slice A1 c1 m1, .int .i64 s1, .int .i64 (i : Int), .bool g1] 33) := ⟨_, rfl⟩
              obtain ⟨gf, hgf⟩ : ∃ gf, gf = wj.heap.size := ⟨_, rfl⟩
              have hbf : Below wj.heap.size wj wf := by rw [hwf]; exact (Below.refl _ _).alloc (Nat.le_refl _) _
              have HFb := Lib.hid (show Blk wf gf 33 #[.string (strB n1), .slice A1 c1 m1, .int .i64 s1, .int .i64 (i : Int), .bool g1] by rw [hwf, hgf]; exact Blk.new _ _ _)
              have Hbf := Lib.hid hbf
              have HBj := HBu.out.below Hbj.out HBu.out.lt
              have p0 := fun p : BelowBy wf => BelowBy.cell (show wf.cell? ⟨gf, 0, none⟩ = some (.string (strB n1)) by rw [HFb.out.cell]; rfl) p
              have p1 := fun p : BelowBy wf => BelowBy.cell (show wf.cell? ⟨gf, 1, none⟩ = some (.slice A1 c1 m1) by rw [HFb.out.cell]; rfl) p
              have p2 := fun p : BelowBy wf => BelowBy.cell (show wf.cell? ⟨gf, 2, none⟩ = some (.int .i64 s1) by rw [HFb.out.cell]; rfl) p
              have p3 := fun p : BelowBy wf => BelowBy.cell (show wf.cell? ⟨gf, 3, none⟩ = some (.int .i64 (i : Int)) by rw [HFb.out.cell]; rfl) p
              have p4 := fun p : BelowBy wf => BelowBy.cell (show wf.cell? ⟨gf, 4, none⟩ = some (.bool g1) by rw [HFb.out.cell]; rfl) p
              have p5 := fun p : BelowBy wf => BelowBy.cell (show wf.cell? ⟨g5, 0, none⟩ = some (.slice (some ⟨gn, 0, none⟩) l1 G1) from cell_below hbf (blk3 HBj).1) p
              have p6 := fun p : BelowBy wf => BelowBy.cell (cell_below hbf hnc) p
              have HHas : Hid (∀ p : BelowBy wf, Calls Tryd.prog 36 #[.slice As nf cs, .agg #[.string (strB n1), .slice A1 c1 m1, .int .i64 s1, .int .i64 (i : Int), .bool g1]] p.w fun e w' => e = .returned (.bool true) ∧ Below p.w.heap.size p.w w') := Lib.hid (fun p => has_any As nf cs fl (⟨n1, b1, s1, (i : Int), g1⟩, A1, c1, m1) p.w Hnf.out Hflm.out ((Hfl3.out.below hbf).below p.h) (fun y hy => ((HflA.out y hy).below hbf).below p.h) ((HFa.out.below hbf).below p.h) Hhas.out)
              have hi0 : ¬ (i : Int) < 0 := by omega
              have hin' : ¬ (l1 : Int) ≤ (i : Int) := by omega
              have Hwf := Lib.hid hwf.symm
              have Hgf := Lib.hid hgf.symm
              clear hjp hcp hx hiu hgb hvn hnc hNd hget hnd6 hfl1 hfl2 hfl3 hnf hhas hwf hgf hbf HBj HflA Hfl3 Hhas
              go_wp2_with fail
              rw [Hwf.out, Hgf.out]
              refine wp_region_below (by kernel_rfl) (by kernel_rfl) ?_
              repeat (quiet_step (exact belowBy_calls (HHas.out _)))
              refine wpQuiet_nil ?_
              intro w8 hq
              have Hb8 : Hid (Below wo.heap.size wo w8) := Lib.hid (Hbj.out.trans ((by obtain ⟨p, hp⟩ := hq; rw [hp]; exact Hbf.out.trans (p.h.mono Hbf.out.size) : Below wj.heap.size wj w8).mono Hbj.out.size))
              clear hq p0 p1 p2 p3 p4 p5 p6 t0 t1 t2 t3 t4 HHas
              go_wp2_with fail
              go_roundw
              case rel => exact ⟨j + 1, by omega, by go_num, Hb8.out⟩
              case measure => simp [intOf]; omega
            · obtain rfl : np = j := by omega
              have HBj := HBu.out.below Hbj.out HBu.out.lt
              obtain ⟨z0, z1, z2⟩ := blk3 HBj
              clear HBj
              go_wp2_with fail
              refine (HSe.out _ Hbj.out).mono ?_
              rintro e w4 ⟨v, rfl, hv, hvd, hb4⟩
              obtain ⟨An, cn, hvn, _, _, vn3, _, vn5⟩ := hv.isWorld.nodes
              obtain ⟨Ac, cc, hvc, _⟩ := hv.isWorld.clock
              obtain ⟨At, ct, hvt, _⟩ := hv.isWorld.net
              obtain ⟨mn, hmn⟩ : ∃ n, n = v.nodes.length := ⟨_, rfl⟩
              obtain ⟨nc, hnc⟩ : ∃ n, n = v.clock.length := ⟨_, rfl⟩
              obtain ⟨nt, hnt⟩ : ∃ n, n = v.net.length := ⟨_, rfl⟩
              rw [← hmn] at hvn
              rw [← hnc] at hvc
              rw [← hnt] at hvt
              have hVv : wV v = .agg #[.slice An mn cn, .slice Ac nc cc, .slice At nt ct] := by unfold wV; rw [hvn, hvc, hvt]
              obtain ⟨w5, hw5⟩ : ∃ w5, w5 = w4.alloc (.cells #[.slice An mn cn, .slice Ac nc cc, .slice At nt ct] 46) := ⟨_, rfl⟩
              obtain ⟨g8, hg8⟩ : ∃ g, g = w4.heap.size := ⟨_, rfl⟩
              have hb5 : Below w4.heap.size w4 w5 := by rw [hw5]; exact (Below.refl _ _).alloc (Nat.le_refl _) _
              have HG5 := Lib.hid (show Blk w5 g8 46 #[.slice An mn cn, .slice Ac nc cc, .slice At nt ct] by rw [hw5, hg8]; exact Blk.new _ _ _)
              have Hbo5 : Hid (Below wo.heap.size wo w5) := Lib.hid ((Hbj.out.trans (hb4.mono Hbj.out.size)).trans (hb5.mono (by have := Hbj.out.size; have := hb4.size; omega)))
              have HbW5 : Hid (Below W.heap.size W w5) := Lib.hid (HI.out.below.trans (Hbo5.out.mono HI.out.below.size))
              have Hvn3 := Lib.hid (vn3.below hb5)
              have Hvn5 : Hid (∀ a ∈ v.nodes, NodeAt w5 a) := Lib.hid (fun a ha => (vn5 a ha).below hb5)
              have Hvd := Lib.hid hvd
              have Hmn := Lib.hid hmn
              have Hw5 := Lib.hid hw5.symm
              have Hg8 := Lib.hid hg8.symm
              have hvlen := hv.nodes
              rw [hVv]
              (try dsimp only)
              have hmn63 : mn ≤ 9223372036854775807 := by
                obtain ⟨A', c', _, q1, q2, _⟩ := own_slat hvlen
                unfold maxLen at q2; omega
              clear hv hvd vn3 vn5 hvn hvc hvt hmn hnc hnt hVv hw5 hg8 hb4 hb5 z0 z1 z2 HSe hvlen
              by_cases h2 : e2 = 0
              · subst h2
                have HF : Hid (∀ m ∈ v.nodes, ∀ x ∈ ps, Has (flOf m.2) x.1) := Lib.hid (fun m hm x hx => by
                  obtain ⟨i, _, hin, hhas⟩ := HI.out.has x hx
                  have hs : settleR u.wd = (0, v.wd) := by rw [Hvd.out]; exact Hq.out.symm
                  exact has_settle hs (by have := Hl1.out; simp [Wx.wd]; omega) hhas _ (List.mem_map_of_mem hm))
                obtain ⟨z0, z1, z2⟩ := blk3 HG5.out
                go_wp2_with fail
                rw [Hw5.out, Hg8.out]
                go_loopw [153] (fun vi wr => ∃ k : Nat, k ≤ mn ∧ vi = .int .i64 (k : Int) ∧ Below w5.heap.size w5 wr) (fun vi _ => mn - (intOf vi).toNat)
                case atStart => exact ⟨0, Nat.zero_le _, rfl, Below.refl _ _⟩
                case round =>
                  obtain ⟨k, hk, rfl, hb⟩ := hrel
                  obtain ⟨wk, rfl⟩ : ∃ wk, wk = wr := ⟨_, rfl⟩
                  have Hb := Lib.hid hb
                  clear hb z0 z1 z2
                  by_cases hlt : k < mn
                  · have hkn : k < v.nodes.length := by rw [← Hmn.out]; exact hlt
                    obtain ⟨b1, o1, rfl, nc1⟩ := node_cell (Hvn3.out.below Hb.out) hkn
                    have Hm1 : Hid (v.nodes[k] ∈ v.nodes) := Lib.hid (List.getElem_mem hkn)
                    obtain ⟨nd1, hnd1⟩ : ∃ nd, nd = v.nodes[k] := ⟨_, rfl⟩
                    rw [← hnd1] at nc1 Hm1
                    clear hnd1 hkn
                    obtain ⟨⟨A', n', c'⟩, fl⟩ := nd1
                    have HND := Lib.hid ((Hvn5.out _ Hm1.out).below Hb.out)
                    unfold NodeAt at HND
                    simp only [slv] at nc1 HND
                    (try dsimp only at HND)
                    obtain ⟨A'', c'', e0, f1, f2, f3, f4, f5⟩ := HND.out
                    injection e0 with e1 e2 e3
                    subst e1 e2 e3
                    have Hf3 := Lib.hid f3
                    have Hf5 := Lib.hid f5
                    have HFk := Lib.hid (HF.out _ Hm1.out)
                    (try dsimp only at HFk)
                    have Hm63 : Hid (fl.length ≤ maxLen) := Lib.hid (by omega)
                    obtain ⟨m, hm⟩ : ∃ m, m = fl.length := ⟨_, rfl⟩
                    rw [← hm] at nc1 Hm63
                    have Hm := Lib.hid hm.symm
                    clear f1 f2 f3 f4 f5 hm HND Hm1
                    go_wp2_with fail
                    go_loopw [159] (fun vi wr => ∃ j : Nat, j ≤ np ∧ vi = .int .i64 (j : Int) ∧ Below wk.heap.size wk wr) (fun vi _ => np - (intOf vi).toNat)
                    case atStart => exact ⟨0, Nat.zero_le _, rfl, Below.refl _ _⟩
                    case round =>
                      obtain ⟨j, hj, rfl, hbj⟩ := hrel
                      obtain ⟨wj, rfl⟩ : ∃ wj, wj = wr := ⟨_, rfl⟩
                      have Hbj2 := Lib.hid hbj
                      have Hbo : Hid (Below wo.heap.size wo wj) := Lib.hid (Hbo5.out.trans ((Hb.out.trans (hbj.mono Hb.out.size)).mono Hbo5.out.size))
                      have HIj := Lib.hid (HI.out.step Hbo.out)
                      clear hbj nc1
                      by_cases hjl : j < np
                      · have hjp : j < ps.length := by rw [← Hnp.out]; exact hjl
                        obtain ⟨bP, oP, rfl, hcp⟩ := slat_elem (size := 5) fC_len (by omega) (Hps3.out.below Hbo.out) hjp
                        have HFa := Lib.hid ((HIj.out.row.each ps[j] (List.getElem_mem hjp)).at_)
                        have hhas := HFk.out ps[j] (List.getElem_mem hjp)
                        obtain ⟨x, hx⟩ : ∃ x, x = ps[j] := ⟨_, rfl⟩
                        rw [← hx] at HFa hhas hcp
                        have Hhas := Lib.hid hhas
                        obtain ⟨⟨n1, b1, s1, d1, g1⟩, A1, c1, m1⟩ := x
                        have t0 : wj.cell? ⟨bP, oP + j * 5, none⟩ = some (.string (strB n1)) := hcp 0 _ rfl
                        have t1 : wj.cell? ⟨bP, oP + j * 5 + 1, none⟩ = some (.slice A1 c1 m1) := hcp 1 _ rfl
                        have t2 : wj.cell? ⟨bP, oP + j * 5 + 2, none⟩ = some (.int .i64 s1) := hcp 2 _ rfl
                        have t3 : wj.cell? ⟨bP, oP + j * 5 + 3, none⟩ = some (.int .i64 d1) := hcp 3 _ rfl
                        have t4 : wj.cell? ⟨bP, oP + j * 5 + 4, none⟩ = some (.bool g1) := hcp 4 _ rfl
                        obtain ⟨wf, hwf⟩ : ∃ wf, wf = wj.alloc (.cells #[.string (strB n1), .slice A1 c1 m1, .int .i64 s1, .int .i64 d1, .bool g1] 33) := ⟨_, rfl⟩
                        have hbf : Below wj.heap.size wj wf := by rw [hwf]; exact (Below.refl _ _).alloc (Nat.le_refl _) _
                        have Hbf := Lib.hid (Hbj2.out.trans (hbf.mono Hbj2.out.size))
                        have HHas := Lib.hid (has_any A' m c' fl (⟨n1, b1, s1, d1, g1⟩, A1, c1, m1) wf Hm.out Hm63.out (Hf3.out.below Hbf.out) (fun y hy => (Hf5.out y hy).below Hbf.out) (HFa.out.below hbf) Hhas.out)
                        unfold fV slv at HHas
                        (try dsimp only at HHas)
                        have Hwf := Lib.hid hwf.symm
                        clear hjp hcp hx hhas hwf hbf Hhas
                        go_wp2_with fail
                        rw [Hwf.out]
                        refine (HHas.out).mono ?_
                        rintro e w9 ⟨rfl, hb9⟩
                        have Hb9 := Lib.hid (Hbf.out.trans (hb9.mono Hbf.out.size))
                        clear hb9 t0 t1 t2 t3 t4 HHas
                        go_wp2_with fail
                        go_roundw
                        case rel => exact ⟨j + 1, by omega, by go_num, Hb9.out⟩
                        case measure => simp [intOf]; omega
                      · obtain rfl : np = j := by omega
                        go_wp2_with fail
                        go_roundw
                        case rel => exact ⟨k + 1, by omega, by go_num, Hb.out.trans (Hbj2.out.mono Hb.out.size)⟩
                        case measure => simp [intOf]; omega
                  · obtain rfl : mn = k := by omega
                    go_wp2_with fail
                    go_ret
                    exact ⟨rfl, HbW5.out.trans (Hb.out.mono HbW5.out.size)⟩
              · have h11 : e2 = 11 := by
                  have := settle_err HI.out.ok (by rw [← Hq.out]; exact h2)
                  rw [← Hq.out] at this
                  exact (Prod.mk.inj this).1
                subst h11
                go_wp2_with fail
                go_ret
                rw [Hw5.out]
                exact ⟨rfl, HbW5.out⟩
    · have h40' : ¬ (40 : Int) < (N : Int) := by omega
      have hMx : N ≤ xs.length := by rw [← HN.out]; omega
      have hM40 : N ≤ 40 := by omega
      go_wp2_with fail
      go_loopw [40, 7] (fun vi pv wr => ∃ k : Nat, k ≤ N ∧ vi = .int .i64 (k : Int) ∧ ∃ V : Value, V = pv ∧ ∃ (u : Wx) (ps : List Fx), ps.length ≤ k ∧ Inv W wr g5 V u ps nn) (fun vi _ _ => N - (intOf vi).toNat)
      case atStart => exact ⟨0, Nat.zero_le _, rfl, _, rfl, y, [], by simp, HI0.out⟩
      case round =>
        obtain ⟨k, hk, rfl, V, rfl, u, ps, hps, hI⟩ := hrel
        have HI := Lib.hid hI
        clear hI
        by_cases hlt : k < N
        · have hix : k < xs.length := by omega
          obtain ⟨b6, o6, rfl, a0, a1, a2, a3, a4⟩ := hap_cells (Hsl.out.below HI.out.below) hix
          have HHa := Lib.hid ((Hdeep.out xs[k] (List.getElem_mem hix)).below HI.out.below)
          generalize xs[k] = x at *
          obtain ⟨D1, G1, D2, G2, D3, G3, h1, h2, h3⟩ := HI.out.own.sl
          have hB := HI.out.blk
          have hVu : wV u = .agg #[.slice D1 u.nodes.length G1, .slice D2 u.clock.length G2, .slice D3 u.net.length G3] := by unfold wV; rw [h1, h2, h3]
          rw [h1, h2, h3] at hB
          obtain ⟨wh, hwh⟩ : ∃ wh, wh = wr.alloc (.cells #[.int .i64 x.1.kind, .int .i64 x.1.node, .int .i64 x.1.to_, .string (strB x.1.name), slv x.2] 48) := ⟨_, rfl⟩
          obtain ⟨g9, hg9⟩ : ∃ g, g = wr.heap.size := ⟨_, rfl⟩
          have hbh : Below wr.heap.size wr wh := by rw [hwh]; exact (Below.refl _ _).alloc (Nat.le_refl _) _
          have HH := Lib.hid (show Blk wh g9 48 #[.int .i64 x.1.kind, .int .i64 x.1.node, .int .i64 x.1.to_, .string (strB x.1.name), slv x.2] by rw [hwh, hg9]; exact Blk.new _ _ _)
          have HIh := Lib.hid (HI.out.step hbh)
          have HBh := Lib.hid (hB.below hbh hB.lt)
          obtain ⟨⟨e2, dd⟩, hq⟩ : ∃ p, p = doR u.wd x.1 := ⟨_, rfl⟩
          have HDo := Lib.hid (do_any u x wh (HML.out.below HIh.out.below) HIh.out.own.isWorld (HHa.out.below hbh))
          rw [← hq, hVu] at HDo
          have Hq := Lib.hid hq
          have Hwh := Lib.hid hwh.symm
          have Hg9 := Lib.hid hg9.symm
          obtain ⟨l1, hl1⟩ : ∃ l, l = u.nodes.length := ⟨_, rfl⟩
          obtain ⟨l2, hl2⟩ : ∃ l, l = u.clock.length := ⟨_, rfl⟩
          obtain ⟨l3, hl3⟩ : ∃ l, l = u.net.length := ⟨_, rfl⟩
          rw [← hl1, ← hl2, ← hl3] at hB HDo HBh
          obtain ⟨⟨kd, nd, to_, nm, bs⟩, Ab, nb, cb⟩ := x
          unfold hV slv at HDo
          simp only [slv] at a0 a1 a2 a3 a4 HH Hwh
          dsimp only at HDo Hq HH
          obtain ⟨z0, z1, z2⟩ := blk3 hB
          have hzl := hB.lt
          clear hB hVu h1 h2 h3 hwh hg9 hbh hq hl1 hl2 hl3 hix
          go_wp2_with fail
          rw [Hwh.out, Hg9.out]
          refine (HDo.out).mono ?_
          rintro e w4 ⟨v, rfl, hv, hvd, hb4⟩
          obtain ⟨E1, F1, E2, F2, E3, F3, h1, h2, h3⟩ := hv.sl
          have hVv : wV v = .agg #[.slice E1 v.nodes.length F1, .slice E2 v.clock.length F2, .slice E3 v.net.length F3] := by unfold wV; rw [h1, h2, h3]
          obtain ⟨w5, hw5⟩ : ∃ w5, w5 = w4.alloc (.cells #[.slice E1 v.nodes.length F1, .slice E2 v.clock.length F2, .slice E3 v.net.length F3] 46) := ⟨_, rfl⟩
          obtain ⟨g10, hg10⟩ : ∃ g, g = w4.heap.size := ⟨_, rfl⟩
          have hb5 : Below w4.heap.size w4 w5 := by rw [hw5]; exact (Below.refl _ _).alloc (Nat.le_refl _) _
          have HV5 := Lib.hid (show Blk w5 g10 46 #[.slice E1 v.nodes.length F1, .slice E2 v.clock.length F2, .slice E3 v.net.length F3] by rw [hw5, hg10]; exact Blk.new _ _ _)
          have HB4 := Lib.hid (HBh.out.below hb4 HBh.out.lt)
          have Hv4 := Lib.hid hv
          have HI4 := Lib.hid (HIh.out.step hb4)
          have HH4 := Lib.hid (HH.out.below hb4 HH.out.lt)
          have HI5 := Lib.hid ((HIh.out.step hb4).step hb5)
          have HB5 := Lib.hid ((HBh.out.below hb4 HBh.out.lt).below hb5 (by have := HBh.out.lt; have := hb4.size; omega))
          have HH5 := Lib.hid ((HH.out.below hb4 HH.out.lt).below hb5 (by have := HH.out.lt; have := hb4.size; omega))
          have Hv5 := Lib.hid (hv.below hb5)
          have Hvd := Lib.hid hvd
          have Hh1 := Lib.hid h1
          have Hh2 := Lib.hid h2
          have Hh3 := Lib.hid h3
          have Hbh5 : Hid (Below wh.heap.size wh w5) := Lib.hid (hb4.trans (hb5.mono hb4.size))
          obtain ⟨m1, hm1⟩ : ∃ l, l = v.nodes.length := ⟨_, rfl⟩
          obtain ⟨m2, hm2⟩ : ∃ l, l = v.clock.length := ⟨_, rfl⟩
          obtain ⟨m3, hm3⟩ : ∃ l, l = v.net.length := ⟨_, rfl⟩
          rw [← hm1, ← hm2, ← hm3] at HV5 hw5
          rw [hVv, ← hm1, ← hm2, ← hm3]
          have Hw5 := Lib.hid hw5.symm
          have Hg10 := Lib.hid hg10.symm
          have Hm1 := Lib.hid hm1
          have Hm2 := Lib.hid hm2
          have Hm3 := Lib.hid hm3
          (try dsimp only)
          clear hv hvd h1 h2 h3 hVv hw5 hg10 hb4 hb5 hm1 hm2 hm3 z0 z1 z2 hzl a0 a1 a2 a3 a4 HDo HIh HBh HH
          by_cases h2 : e2 = 0
          · subst h2
            obtain ⟨hst, hok, hln⟩ := done_ HI.out.ok Hq.out Hvd.out
            have hne : g9 ≠ g5 := by
              have h1 := HI.out.blk.lt
              have h2 := Hg9.out
              omega
            obtain ⟨ws, hws⟩ : ∃ ws, ws = ((w4.setCell ⟨g5, 0, none⟩ (.slice E1 m1 F1)).setCell ⟨g5, 1, none⟩ (.slice E2 m2 F2)).setCell ⟨g5, 2, none⟩ (.slice E3 m3 F3) := ⟨_, rfl⟩
            obtain ⟨w6, hw6⟩ : ∃ w6, w6 = ws.alloc (.cells #[.slice E1 m1 F1, .slice E2 m2 F2, .slice E3 m3 F3] 46) := ⟨_, rfl⟩
            have hb6 : Below ws.heap.size ws w6 := by rw [hw6]; exact (Below.refl _ _).alloc (Nat.le_refl _) _
            have HW6 : Hid (OwnW w6 wh.heap.size v) := Lib.hid (OwnW.below (by rw [hws]; exact own_set3 Hv4.out HB4.out) hb6)
            have hBs : Blk ws g5 46 #[.slice E1 m1 F1, .slice E2 m2 F2, .slice E3 m3 F3] := by rw [hws]; exact blk_set3 HB4.out
            have HB6 := Lib.hid (hBs.below hb6 hBs.lt)
            have hHs : Blk ws g9 48 #[.int .i64 kd, .int .i64 nd, .int .i64 to_, .string (strB nm), .slice Ab nb cb] := by rw [hws]; exact blk_far3 HH4.out hne
            have HH6 := Lib.hid (hHs.below hb6 hHs.lt)
            have hbs : Below W.heap.size W ws := by rw [hws]; exact below_set3 HI4.out.below hWg
            have hrs : OwnFs ws W.heap.size V ps := by rw [hws]; exact fs_set3 HI4.out.row HB4.out
            have hwz : W.heap.size ≤ wh.heap.size := by
              have h1 := HI.out.below.size
              have h2 := Hwh.out
              rw [← h2]
              simp
              omega
            have HI6 : Hid (Inv W w6 g5 V v ps nn) := Lib.hid ⟨hbs.trans (hb6.mono hbs.size), by rw [Hh1.out, Hh2.out, Hh3.out, ← Hm1.out, ← Hm2.out, ← Hm3.out]; exact HB6.out, HW6.out.base_ hwz, hok, by rw [hln]; exact HI.out.len, hrs.below hb6, fun f hf => by
              obtain ⟨i, h1, h2, h3⟩ := HI.out.has f hf
              exact ⟨i, h1, h2, has_step HI.out.ok hst (by have := HI.out.len; simp [Wx.wd]; omega) h3⟩⟩
            have Hst := Lib.hid hst
            have Hw6 := Lib.hid hw6.symm
            have Hws := Lib.hid hws.symm
            obtain ⟨y0, y1, y2⟩ := blk3 HB4.out
            have f0 := HB4.out.frozen 0
            have f1 := HB4.out.frozen 1
            have f2 := HB4.out.frozen 2
            have hl4 := HB4.out.lt
            have hl9 := HH4.out.lt
            have k0 : w4.cell? ⟨g9, 0, none⟩ = some (.int .i64 kd) := by rw [HH4.out.cell]; rfl
            have k1 : w4.cell? ⟨g9, 1, none⟩ = some (.int .i64 nd) := by rw [HH4.out.cell]; rfl
            clear hst hok hln hw6 hws hb6 hBs hHs hbs hrs
            by_cases hkd : kd = 1 ∨ kd = 2
            · obtain ⟨i, f, hi, hnd, _, hlk, hfn, hfd, hfg⟩ := put_has HI.out.ok Hst.out hkd
              dsimp only at hnd hlk hfn hfg
              subst hnd
              have hin : i < nn := by
                have h1 := HI.out.len
                simp [Wx.wd] at hi
                omega
              have hiv : i < v.nodes.length := by rw [HI6.out.len]; exact hin
              have him : i < m1 := by rw [Hm1.out]; exact hiv
              obtain ⟨gn, cn, hE, hgn1, _, _, csn, hgb⟩ := own_at HW6.out.nodes (by omega)
              rw [Hh1.out] at hE
              injection hE with hE _ hF1
              subst hE
              subst hF1
              have hgne : gn ≠ g5 := by
                have := own_ne HW6.out.nodes HB6.out (by decide)
                rw [Hh1.out] at this
                intro e; apply this; rw [e]; rfl
              have hv4n := Hv4.out.nodes
              have hv6n := HW6.out.nodes
              rw [Hh1.out] at hv4n hv6n
              have hn4 := own_node hv4n rfl hiv
              have hn6 := own_node hv6n rfl hiv
              have hNd := HW6.out.node v.nodes[i] (List.getElem_mem hiv)
              have hget : v.wd.nodes.getD i [] = flOf v.nodes[i].2 := by simp [Wx.wd, List.getD_eq_getElem?_getD, hiv]
              have Hlk := Lib.hid hlk
              rw [hget] at hlk
              obtain ⟨nd6, hnd6⟩ : ∃ x, x = v.nodes[i] := ⟨_, rfl⟩
              rw [← hnd6] at hn4 hn6 hNd hlk
              obtain ⟨⟨As, ns, cs⟩, fl⟩ := nd6
              obtain ⟨j, hj, hidx, hjf⟩ := idx_lk hlk
              dsimp only at hn4 hn6 hNd hj hidx hjf
              obtain ⟨As', cs', hsl, hfl1, hfl2, hfl3, _⟩ := own_slat hNd.row
              injection hsl with e1 e2 e3
              dsimp only at e1 e2 e3
              subst e1 e2 e3
              have HIx := Lib.hid (indexFunc_files As fl.length cs fl 35 #[.pointer (some ⟨g9, 0, none⟩)] (fun x : Fx => decide (x.1.name = nm)) w6 rfl (by omega) hfl3 enm1 (fun x hx w' hb => nm1_any x nm g9 w' _ _ _ _ (HH6.out.below hb HH6.out.lt)))
              rw [hidx] at HIx
              have Hfx := Lib.hid (hNd.each fl[j] (List.getElem_mem hj))
              obtain ⟨bf, of_, rfl, hcf⟩ := slat_elem (size := 5) fC_len (by omega) hfl3 hj
              obtain ⟨nf, hnf⟩ : ∃ n, n = fl.length := ⟨_, rfl⟩
              have hjn : j < nf := by rw [hnf]; exact hj
              rw [← hnf] at HIx hn4 hn6
              obtain ⟨x, hx⟩ : ∃ x, x = fl[j] := ⟨_, rfl⟩
              rw [← hx] at hcf Hfx hjf
              subst hjf
              obtain ⟨⟨n1, b1, s1, d1, g1⟩, A1, l1, c1⟩ := x
              dsimp only at hfn hfd hfg
              have Hlk' : Hid (Has (v.wd.nodes.getD i []) (⟨n1, b1, s1, d1, g1⟩ : Fl)) := Lib.hid ⟨_, by rw [hfn]; exact Hlk.out, by rw [later_refl]; omega⟩
              have Hfd := Lib.hid hfd
              have t0 : w6.cell? ⟨bf, of_ + j * 5, none⟩ = some (.string (strB n1)) := hcf 0 _ rfl
              have t1 : w6.cell? ⟨bf, of_ + j * 5 + 1, none⟩ = some (.slice A1 l1 c1) := hcf 1 _ rfl
              have t2 : w6.cell? ⟨bf, of_ + j * 5 + 2, none⟩ = some (.int .i64 s1) := hcf 2 _ rfl
              have t3 : w6.cell? ⟨bf, of_ + j * 5 + 3, none⟩ = some (.int .i64 d1) := hcf 3 _ rfl
              have t4 : w6.cell? ⟨bf, of_ + j * 5 + 4, none⟩ = some (.bool g1) := hcf 4 _ rfl
              have Ht := Lib.hid (And.intro t0 (And.intro t1 (And.intro t2 (And.intro t3 t4))))
              have Hn6 := Lib.hid hn6
              have hj0 : ¬ (j : Int) < 0 := by omega
              have hgne2 : ¬ g5 = gn := fun e => hgne e.symm
              have hi0 : ¬ (i : Int) < 0 := by omega
              have him' : ¬ (m1 : Int) ≤ (i : Int) := by omega
              simp only [slv] at hn4 Hn6
              have hlgn : gn < w4.heap.size := block_lt_of_cell hn4
              have Hin := Lib.hid hin
              have Hgb := Lib.hid hgb
              clear hi hlk hfn hfd hiv hgn1 hgb hv4n hv6n hn6 hNd hget hnd6 hj hidx hfl1 hfl2 hfl3 hcf hnf hx t0 t1 t2 t3 t4 hin
              rcases hkd with rfl | rfl
              · obtain rfl : g1 = false := by rw [hfg]; simp
                clear hfg
                go_wp2_with fail
                rw [Hws.out, Hw6.out]
                refine (HIx.out).mono ?_
                rintro e w7 ⟨rfl, hb7⟩
                have Hb67 := Lib.hid hb7
                have HB7 := Lib.hid (HB6.out.below hb7 HB6.out.lt)
                have HH7 := Lib.hid (HH6.out.below hb7 HH6.out.lt)
                have p0 := fun p : BelowBy w7 => BelowBy.cell (show w7.cell? ⟨g5, 0, none⟩ = some (.slice (some ⟨gn, 0, none⟩) m1 F1) by rw [HB7.out.cell]; rfl) p
                have p1 := fun p : BelowBy w7 => BelowBy.cell (show w7.cell? ⟨g9, 0, none⟩ = some (.int .i64 1) by rw [HH7.out.cell]; rfl) p
                have p2 := fun p : BelowBy w7 => BelowBy.cell (show w7.cell? ⟨g9, 1, none⟩ = some (.int .i64 (i : Int)) by rw [HH7.out.cell]; rfl) p
                have p3 := fun p : BelowBy w7 => BelowBy.cell (cell_below Hb67.out Hn6.out) p
                have p4 := fun p : BelowBy w7 => BelowBy.cell (cell_below Hb67.out Ht.out.2.2.2.2) p
                clear hb7 y0 y1 y2 f0 f1 f2 k0 k1 hn4 HIx
                go_wp2_with fail
                refine wp_region_below (by kernel_rfl) (by kernel_rfl) ?_
                repeat (quiet_step (fail))
                refine wpQuiet_nil ?_
                intro w8 hq
                have Hb68 : Hid (Below w6.heap.size w6 w8) := Lib.hid (by obtain ⟨p, hp⟩ := hq; rw [hp]; exact Hb67.out.trans (p.h.mono Hb67.out.size))
                clear hq p0 p1 p2 p3 p4 HB7 HH7 Hb67
                have HB8 := Lib.hid (HB6.out.below Hb68.out HB6.out.lt)
                have HH8 := Lib.hid (HH6.out.below Hb68.out HH6.out.lt)
                obtain ⟨y0, y1, y2⟩ := blk3 HB8.out
                have k1 : w8.cell? ⟨g9, 1, none⟩ = some (.int .i64 (i : Int)) := by rw [HH8.out.cell]; rfl
                have t0 := cell_below Hb68.out Ht.out.1
                have t1 := cell_below Hb68.out Ht.out.2.1
                have t2 := cell_below Hb68.out Ht.out.2.2.1
                have t3 := cell_below Hb68.out Ht.out.2.2.2.1
                have t4 := cell_below Hb68.out Ht.out.2.2.2.2
                have n8_ := cell_below Hb68.out Hn6.out
                have HI8 := Lib.hid (HI6.out.step Hb68.out)
                have HW8 := Lib.hid (HW6.out.below Hb68.out)
                have Hfx8 := Lib.hid (Hfx.out.below Hb68.out)
                obtain ⟨w9, hw9⟩ : ∃ w9, w9 = w8.alloc (.cells #[.string (strB n1), .slice A1 l1 c1, .int .i64 s1, .int .i64 d1, .bool false] 33) := ⟨_, rfl⟩
                have hb9 : Below w8.heap.size w8 w9 := by rw [hw9]; exact (Below.refl _ _).alloc (Nat.le_refl _) _
                have HI9 := Lib.hid (HI8.out.step hb9)
                have HW9 := Lib.hid (HW8.out.below hb9)
                have Hfx9 := Lib.hid (Hfx8.out.below hb9)
                have Hsl9 : Hid (SlAt w9 (some ⟨w8.heap.size, 0, none⟩) [.string (strB n1), .slice A1 l1 c1, .int .i64 s1, .int .i64 d1, .bool false]) := Lib.hid (by rw [hw9]; exact SlAt.of_heap (heap_alloc_new w8 _) rfl)
                have Hw9 := Lib.hid hw9.symm
                clear hw9 hb9 HI8 HW8 Hfx8 HB8 HH8
                go_wp2_with (at_builtin; rw [Hw9.out]; refine wpList_app _ rfl (.tmp 98) (.tmp 108) _ rfl W.heap.size 33 _ 5 64 tyF _ ps.length (ps.flatMap fC) rfl HI9.out.row.row (some ⟨w8.heap.size, 0, none⟩) 1 1 [.string (strB n1), .slice A1 l1 c1, .int .i64 s1, .int .i64 d1, .bool false] rfl rfl Hsl9.out (by simp [Value.oneCell']) (by simp) (by unfold maxLen; omega) (by omega) HI9.out.below.size ?_; intro v10 w10 hown10 hg10 _; have Ho10 := Lib.hid hown10; have Hg10_ := Lib.hid hg10; clear hown10 hg10)
                have hVb : ∀ g, V.ownBlock = some g → g < wh.heap.size := fun g hg => by
                  have h1 := (HI.out.row.row.lt g hg).2
                  have h2 := Hwh.out
                  rw [← h2]
                  simp
                  omega
                have HI10 : Hid (Inv W w10 g5 v10 v (ps ++ [(⟨n1, b1, s1, d1, false⟩, A1, l1, c1)]) nn) := Lib.hid ⟨own_below HI9.out.row.row Hg10_.out HI9.out.below HI9.out.below.size, HI9.out.blk.grown Hg10_.out (own_ne HI9.out.row.row HI9.out.blk (by decide)), (OwnW.kept_ HW9.out Hg10_.out hVb).base_ hwz, HI9.out.ok, HI9.out.len, OwnFs.snoc HI9.out.row (Hfx9.out.base_ hwz) Ho10.out Hg10_.out HI9.out.below.size, fun f hf => by
                  rcases List.mem_append.1 hf with hf | hf
                  · exact HI9.out.has f hf
                  · simp at hf; subst hf
                    exact ⟨i, Hfd.out, Hin.out, Hlk'.out⟩⟩
                clear hVb y0 y1 y2 k1 t0 t1 t2 t3 t4 n8_
                go_roundw
                case rel => exact ⟨k + 1, by omega, by go_num, _, rfl, v, _, by simp; omega, HI10.out⟩
                case measure => simp [intOf]; omega
              · obtain rfl : g1 = true := by rw [hfg]; simp
                clear hfg
                go_wp2_with fail
                rw [Hws.out, Hw6.out]
                refine (HIx.out).mono ?_
                rintro e w7 ⟨rfl, hb7⟩
                have Hb67 := Lib.hid hb7
                have HB7 := Lib.hid (HB6.out.below hb7 HB6.out.lt)
                have HH7 := Lib.hid (HH6.out.below hb7 HH6.out.lt)
                have p0 := fun p : BelowBy w7 => BelowBy.cell (show w7.cell? ⟨g5, 0, none⟩ = some (.slice (some ⟨gn, 0, none⟩) m1 F1) by rw [HB7.out.cell]; rfl) p
                have p1 := fun p : BelowBy w7 => BelowBy.cell (show w7.cell? ⟨g9, 0, none⟩ = some (.int .i64 2) by rw [HH7.out.cell]; rfl) p
                have p2 := fun p : BelowBy w7 => BelowBy.cell (show w7.cell? ⟨g9, 1, none⟩ = some (.int .i64 (i : Int)) by rw [HH7.out.cell]; rfl) p
                have p3 := fun p : BelowBy w7 => BelowBy.cell (cell_below Hb67.out Hn6.out) p
                have p4 := fun p : BelowBy w7 => BelowBy.cell (cell_below Hb67.out Ht.out.2.2.2.2) p
                clear hb7 y0 y1 y2 f0 f1 f2 k0 k1 hn4 HIx
                go_wp2_with fail
                refine wp_region_below (by kernel_rfl) (by kernel_rfl) ?_
                repeat (quiet_step (fail))
                refine wpQuiet_nil ?_
                intro w8 hq
                have Hb68 : Hid (Below w6.heap.size w6 w8) := Lib.hid (by obtain ⟨p, hp⟩ := hq; rw [hp]; exact Hb67.out.trans (p.h.mono Hb67.out.size))
                clear hq p0 p1 p2 p3 p4 HB7 HH7 Hb67
                have HB8 := Lib.hid (HB6.out.below Hb68.out HB6.out.lt)
                have HH8 := Lib.hid (HH6.out.below Hb68.out HH6.out.lt)
                obtain ⟨y0, y1, y2⟩ := blk3 HB8.out
                have k1 : w8.cell? ⟨g9, 1, none⟩ = some (.int .i64 (i : Int)) := by rw [HH8.out.cell]; rfl
                have t0 := cell_below Hb68.out Ht.out.1
                have t1 := cell_below Hb68.out Ht.out.2.1
                have t2 := cell_below Hb68.out Ht.out.2.2.1
                have t3 := cell_below Hb68.out Ht.out.2.2.2.1
                have t4 := cell_below Hb68.out Ht.out.2.2.2.2
                have n8_ := cell_below Hb68.out Hn6.out
                have HI8 := Lib.hid (HI6.out.step Hb68.out)
                have HW8 := Lib.hid (HW6.out.below Hb68.out)
                have Hfx8 := Lib.hid (Hfx.out.below Hb68.out)
                obtain ⟨w9, hw9⟩ : ∃ w9, w9 = w8.alloc (.cells #[.string (strB n1), .slice A1 l1 c1, .int .i64 s1, .int .i64 d1, .bool true] 33) := ⟨_, rfl⟩
                have hb9 : Below w8.heap.size w8 w9 := by rw [hw9]; exact (Below.refl _ _).alloc (Nat.le_refl _) _
                have HI9 := Lib.hid (HI8.out.step hb9)
                have HW9 := Lib.hid (HW8.out.below hb9)
                have Hfx9 := Lib.hid (Hfx8.out.below hb9)
                have Hsl9 : Hid (SlAt w9 (some ⟨w8.heap.size, 0, none⟩) [.string (strB n1), .slice A1 l1 c1, .int .i64 s1, .int .i64 d1, .bool true]) := Lib.hid (by rw [hw9]; exact SlAt.of_heap (heap_alloc_new w8 _) rfl)
                have Hw9 := Lib.hid hw9.symm
                clear hw9 hb9 HI8 HW8 Hfx8 HB8 HH8
                go_wp2_with (at_builtin; rw [Hw9.out]; refine wpList_app _ rfl (.tmp 98) (.tmp 108) _ rfl W.heap.size 33 _ 5 64 tyF _ ps.length (ps.flatMap fC) rfl HI9.out.row.row (some ⟨w8.heap.size, 0, none⟩) 1 1 [.string (strB n1), .slice A1 l1 c1, .int .i64 s1, .int .i64 d1, .bool true] rfl rfl Hsl9.out (by simp [Value.oneCell']) (by simp) (by unfold maxLen; omega) (by omega) HI9.out.below.size ?_; intro v10 w10 hown10 hg10 _; have Ho10 := Lib.hid hown10; have Hg10_ := Lib.hid hg10; clear hown10 hg10)
                have hVb : ∀ g, V.ownBlock = some g → g < wh.heap.size := fun g hg => by
                  have h1 := (HI.out.row.row.lt g hg).2
                  have h2 := Hwh.out
                  rw [← h2]
                  simp
                  omega
                have HI10 : Hid (Inv W w10 g5 v10 v (ps ++ [(⟨n1, b1, s1, d1, true⟩, A1, l1, c1)]) nn) := Lib.hid ⟨own_below HI9.out.row.row Hg10_.out HI9.out.below HI9.out.below.size, HI9.out.blk.grown Hg10_.out (own_ne HI9.out.row.row HI9.out.blk (by decide)), (OwnW.kept_ HW9.out Hg10_.out hVb).base_ hwz, HI9.out.ok, HI9.out.len, OwnFs.snoc HI9.out.row (Hfx9.out.base_ hwz) Ho10.out Hg10_.out HI9.out.below.size, fun f hf => by
                  rcases List.mem_append.1 hf with hf | hf
                  · exact HI9.out.has f hf
                  · simp at hf; subst hf
                    exact ⟨i, Hfd.out, Hin.out, Hlk'.out⟩⟩
                clear hVb y0 y1 y2 k1 t0 t1 t2 t3 t4 n8_
                go_roundw
                case rel => exact ⟨k + 1, by omega, by go_num, _, rfl, v, _, by simp; omega, HI10.out⟩
                case measure => simp [intOf]; omega
            · have hk1 : (kd == 1) = false := by rw [beq_eq_false_iff_ne]; omega
              have hk2 : (kd == 2) = false := by rw [beq_eq_false_iff_ne]; omega
              clear hkd
              go_wp2_with fail
              rw [Hws.out, Hw6.out]
              go_roundw
              case rel => exact ⟨k + 1, by omega, by go_num, _, rfl, v, ps, by omega, HI6.out⟩
              case measure => simp [intOf]; omega
          · have hz2 : (e2 != 0) = true := by simpa using h2
            clear h2
            go_wp2_with fail
            rw [Hw5.out]
            go_roundw
            case rel => exact ⟨k + 1, by omega, by go_num, _, rfl, u, ps, by omega, HI5.out⟩
            case measure => simp [intOf]; omega
        · obtain rfl : N = k := by omega
          obtain ⟨Ap, cp, hVs, _, _, hps3, _⟩ := own_slat HI.out.row.row
          subst hVs
          obtain ⟨np, hnp⟩ : ∃ n, n = ps.length := ⟨_, rfl⟩
          have Hps3 := Lib.hid hps3
          have Hnp := Lib.hid hnp
          have hnp63 : np ≤ 9223372036854775807 := by omega
          obtain ⟨D1, G1, D2, G2, D3, G3, h1, h2, h3⟩ := HI.out.own.sl
          have hB := HI.out.blk
          have hVu : wV u = .agg #[.slice D1 u.nodes.length G1, .slice D2 u.clock.length G2, .slice D3 u.net.length G3] := by unfold wV; rw [h1, h2, h3]
          rw [h1, h2, h3] at hB
          have Hh1 := Lib.hid h1
          obtain ⟨l1, hl1⟩ : ∃ l, l = u.nodes.length := ⟨_, rfl⟩
          obtain ⟨l2, hl2⟩ : ∃ l, l = u.clock.length := ⟨_, rfl⟩
          obtain ⟨l3, hl3⟩ : ∃ l, l = u.net.length := ⟨_, rfl⟩
          have Hl1 := Lib.hid hl1
          have HVu := Lib.hid hVu
          rw [← hl1, ← hl2, ← hl3] at hB HVu
          have HBu := Lib.hid hB
          obtain ⟨⟨e2, vd⟩, hq⟩ : ∃ q, q = settleR u.wd := ⟨_, rfl⟩
          have Hq := Lib.hid hq
          have HSe : Hid (∀ w', Below wr.heap.size wr w' → Calls Tryd.prog 38 #[wV u] w' (DoPost (settleR u.wd) w')) := Lib.hid (fun w' hb => settle_any u w' (HML.out.below (HI.out.below.trans (hb.mono HI.out.below.size))) (HI.out.own.isWorld.below hb))
          rw [HVu.out, ← hq] at HSe
          have hln : l1 = nn := by rw [hl1]; exact HI.out.len
          subst hln
          obtain ⟨wo, rfl⟩ : ∃ wo, wo = wr := ⟨_, rfl⟩
          rw [← hnp]
          clear hps3 hnp hVu h1 h2 h3 hl1 hl2 hl3 hB hq hps
          go_wp2_with fail
          go_loopw [113] (fun vi wr => ∃ j : Nat, j ≤ np ∧ vi = .int .i64 (j : Int) ∧ Below wo.heap.size wo wr) (fun vi _ => np - (intOf vi).toNat)
          case atStart => exact ⟨0, Nat.zero_le _, rfl, Below.refl _ _⟩
          case round =>
            obtain ⟨j, hj, rfl, hbj⟩ := hrel
            obtain ⟨wj, rfl⟩ : ∃ wj, wj = wr := ⟨_, rfl⟩
            have Hbj := Lib.hid hbj
            have HIj := Lib.hid (HI.out.step hbj)
            clear hbj
            by_cases hjl : j < np
            · have hjp : j < ps.length := by rw [← Hnp.out]; exact hjl
              obtain ⟨bP, oP, rfl, hcp⟩ := slat_elem (size := 5) fC_len (by omega) (Hps3.out.below Hbj.out) hjp
              have HFa := Lib.hid ((HIj.out.row.each ps[j] (List.getElem_mem hjp)).at_)
              obtain ⟨i, hnode, hin, hhas⟩ := HIj.out.has ps[j] (List.getElem_mem hjp)
              obtain ⟨x, hx⟩ : ∃ x, x = ps[j] := ⟨_, rfl⟩
              rw [← hx] at HFa hnode hhas hcp
              have hiu : i < u.nodes.length := by rw [← Hl1.out]; exact hin
              obtain ⟨gn, cn, hE, _, _, _, csn, hgb⟩ := own_at HIj.out.own.nodes (by omega)
              rw [Hh1.out] at hE
              injection hE with hE _ hF1
              subst hE
              subst hF1
              have hvn := HIj.out.own.nodes
              rw [Hh1.out] at hvn
              have hnc := own_node hvn rfl hiu
              have hNd := HIj.out.own.node u.nodes[i] (List.getElem_mem hiu)
              have hget : u.wd.nodes.getD i [] = flOf u.nodes[i].2 := by simp [Wx.wd, List.getD_eq_getElem?_getD, hiu]
              rw [hget] at hhas
              obtain ⟨nd6, hnd6⟩ : ∃ y, y = u.nodes[i] := ⟨_, rfl⟩
              rw [← hnd6] at hnc hNd hhas
              obtain ⟨⟨As, ns, cs⟩, fl⟩ := nd6
              dsimp only at hnc hNd hhas
              obtain ⟨As', cs', hsl, hfl1, hfl2, hfl3, _⟩ := own_slat hNd.row
              injection hsl with e1 e2 e3
              dsimp only at e1 e2 e3
              subst e1 e2 e3
              have Hfl3 := Lib.hid hfl3
              have Hflm : Hid (fl.length ≤ maxLen) := Lib.hid (by omega)
              have HflA : Hid (∀ y ∈ fl, FileAt wj y) := Lib.hid (fun y hy => (hNd.each y hy).at_)
              have Hhas := Lib.hid hhas
              simp only [slv] at hnc
              obtain ⟨nf, hnf⟩ : ∃ n, n = fl.length := ⟨_, rfl⟩
              rw [← hnf] at hnc Hflm
              have Hnf := Lib.hid hnf.symm
              obtain ⟨⟨n1, b1, s1, d1, g1⟩, A1, c1, m1⟩ := x
              dsimp only at hnode
              subst hnode
              have t0 : wj.cell? ⟨bP, oP + j * 5, none⟩ = some (.string (strB n1)) := hcp 0 _ rfl
              have t1 : wj.cell? ⟨bP, oP + j * 5 + 1, none⟩ = some (.slice A1 c1 m1) := hcp 1 _ rfl
              have t2 : wj.cell? ⟨bP, oP + j * 5 + 2, none⟩ = some (.int .i64 s1) := hcp 2 _ rfl
              have t3 : wj.cell? ⟨bP, oP + j * 5 + 3, none⟩ = some (.int .i64 (i : Int)) := hcp 3 _ rfl
              have t4 : wj.cell? ⟨bP, oP + j * 5 + 4, none⟩ = some (.bool g1) := hcp 4 _ rfl
              obtain ⟨wf, hwf⟩ : ∃ wf, wf = wj.alloc (.cells #[.string (strB n1), .slice A1 c1 m1, .int .i64 s1, .int .i64 (i : Int), .bool g1] 33) := ⟨_, rfl⟩
              obtain ⟨gf, hgf⟩ : ∃ gf, gf = wj.heap.size := ⟨_, rfl⟩
              have hbf : Below wj.heap.size wj wf := by rw [hwf]; exact (Below.refl _ _).alloc (Nat.le_refl _) _
              have HFb := Lib.hid (show Blk wf gf 33 #[.string (strB n1), .slice A1 c1 m1, .int .i64 s1, .int .i64 (i : Int), .bool g1] by rw [hwf, hgf]; exact Blk.new _ _ _)
              have Hbf := Lib.hid hbf
              have HBj := HBu.out.below Hbj.out HBu.out.lt
              have p0 := fun p : BelowBy wf => BelowBy.cell (show wf.cell? ⟨gf, 0, none⟩ = some (.string (strB n1)) by rw [HFb.out.cell]; rfl) p
              have p1 := fun p : BelowBy wf => BelowBy.cell (show wf.cell? ⟨gf, 1, none⟩ = some (.slice A1 c1 m1) by rw [HFb.out.cell]; rfl) p
              have p2 := fun p : BelowBy wf => BelowBy.cell (show wf.cell? ⟨gf, 2, none⟩ = some (.int .i64 s1) by rw [HFb.out.cell]; rfl) p
              have p3 := fun p : BelowBy wf => BelowBy.cell (show wf.cell? ⟨gf, 3, none⟩ = some (.int .i64 (i : Int)) by rw [HFb.out.cell]; rfl) p
              have p4 := fun p : BelowBy wf => BelowBy.cell (show wf.cell? ⟨gf, 4, none⟩ = some (.bool g1) by rw [HFb.out.cell]; rfl) p
              have p5 := fun p : BelowBy wf => BelowBy.cell (show wf.cell? ⟨g5, 0, none⟩ = some (.slice (some ⟨gn, 0, none⟩) l1 G1) from cell_below hbf (blk3 HBj).1) p
              have p6 := fun p : BelowBy wf => BelowBy.cell (cell_below hbf hnc) p
              have HHas : Hid (∀ p : BelowBy wf, Calls Tryd.prog 36 #[.slice As nf cs, .agg #[.string (strB n1), .slice A1 c1 m1, .int .i64 s1, .int .i64 (i : Int), .bool g1]] p.w fun e w' => e = .returned (.bool true) ∧ Below p.w.heap.size p.w w') := Lib.hid (fun p => has_any As nf cs fl (⟨n1, b1, s1, (i : Int), g1⟩, A1, c1, m1) p.w Hnf.out Hflm.out ((Hfl3.out.below hbf).below p.h) (fun y hy => ((HflA.out y hy).below hbf).below p.h) ((HFa.out.below hbf).below p.h) Hhas.out)
              have hi0 : ¬ (i : Int) < 0 := by omega
              have hin' : ¬ (l1 : Int) ≤ (i : Int) := by omega
              have Hwf := Lib.hid hwf.symm
              have Hgf := Lib.hid hgf.symm
              clear hjp hcp hx hiu hgb hvn hnc hNd hget hnd6 hfl1 hfl2 hfl3 hnf hhas hwf hgf hbf HBj HflA Hfl3 Hhas
              go_wp2_with fail
              rw [Hwf.out, Hgf.out]
              refine wp_region_below (by kernel_rfl) (by kernel_rfl) ?_
              repeat (quiet_step (exact belowBy_calls (HHas.out _)))
              refine wpQuiet_nil ?_
              intro w8 hq
              have Hb8 : Hid (Below wo.heap.size wo w8) := Lib.hid (Hbj.out.trans ((by obtain ⟨p, hp⟩ := hq; rw [hp]; exact Hbf.out.trans (p.h.mono Hbf.out.size) : Below wj.heap.size wj w8).mono Hbj.out.size))
              clear hq p0 p1 p2 p3 p4 p5 p6 t0 t1 t2 t3 t4 HHas
              go_wp2_with fail
              go_roundw
              case rel => exact ⟨j + 1, by omega, by go_num, Hb8.out⟩
              case measure => simp [intOf]; omega
            · obtain rfl : np = j := by omega
              have HBj := HBu.out.below Hbj.out HBu.out.lt
              obtain ⟨z0, z1, z2⟩ := blk3 HBj
              clear HBj
              go_wp2_with fail
              refine (HSe.out _ Hbj.out).mono ?_
              rintro e w4 ⟨v, rfl, hv, hvd, hb4⟩
              obtain ⟨An, cn, hvn, _, _, vn3, _, vn5⟩ := hv.isWorld.nodes
              obtain ⟨Ac, cc, hvc, _⟩ := hv.isWorld.clock
              obtain ⟨At, ct, hvt, _⟩ := hv.isWorld.net
              obtain ⟨mn, hmn⟩ : ∃ n, n = v.nodes.length := ⟨_, rfl⟩
              obtain ⟨nc, hnc⟩ : ∃ n, n = v.clock.length := ⟨_, rfl⟩
              obtain ⟨nt, hnt⟩ : ∃ n, n = v.net.length := ⟨_, rfl⟩
              rw [← hmn] at hvn
              rw [← hnc] at hvc
              rw [← hnt] at hvt
              have hVv : wV v = .agg #[.slice An mn cn, .slice Ac nc cc, .slice At nt ct] := by unfold wV; rw [hvn, hvc, hvt]
              obtain ⟨w5, hw5⟩ : ∃ w5, w5 = w4.alloc (.cells #[.slice An mn cn, .slice Ac nc cc, .slice At nt ct] 46) := ⟨_, rfl⟩
              obtain ⟨g8, hg8⟩ : ∃ g, g = w4.heap.size := ⟨_, rfl⟩
              have hb5 : Below w4.heap.size w4 w5 := by rw [hw5]; exact (Below.refl _ _).alloc (Nat.le_refl _) _
              have HG5 := Lib.hid (show Blk w5 g8 46 #[.slice An mn cn, .slice Ac nc cc, .slice At nt ct] by rw [hw5, hg8]; exact Blk.new _ _ _)
              have Hbo5 : Hid (Below wo.heap.size wo w5) := Lib.hid ((Hbj.out.trans (hb4.mono Hbj.out.size)).trans (hb5.mono (by have := Hbj.out.size; have := hb4.size; omega)))
              have HbW5 : Hid (Below W.heap.size W w5) := Lib.hid (HI.out.below.trans (Hbo5.out.mono HI.out.below.size))
              have Hvn3 := Lib.hid (vn3.below hb5)
              have Hvn5 : Hid (∀ a ∈ v.nodes, NodeAt w5 a) := Lib.hid (fun a ha => (vn5 a ha).below hb5)
              have Hvd := Lib.hid hvd
              have Hmn := Lib.hid hmn
              have Hw5 := Lib.hid hw5.symm
              have Hg8 := Lib.hid hg8.symm
              have hvlen := hv.nodes
              rw [hVv]
              (try dsimp only)
              have hmn63 : mn ≤ 9223372036854775807 := by
                obtain ⟨A', c', _, q1, q2, _⟩ := own_slat hvlen
                unfold maxLen at q2; omega
              clear hv hvd vn3 vn5 hvn hvc hvt hmn hnc hnt hVv hw5 hg8 hb4 hb5 z0 z1 z2 HSe hvlen
              by_cases h2 : e2 = 0
              · subst h2
                have HF : Hid (∀ m ∈ v.nodes, ∀ x ∈ ps, Has (flOf m.2) x.1) := Lib.hid (fun m hm x hx => by
                  obtain ⟨i, _, hin, hhas⟩ := HI.out.has x hx
                  have hs : settleR u.wd = (0, v.wd) := by rw [Hvd.out]; exact Hq.out.symm
                  exact has_settle hs (by have := Hl1.out; simp [Wx.wd]; omega) hhas _ (List.mem_map_of_mem hm))
                obtain ⟨z0, z1, z2⟩ := blk3 HG5.out
                go_wp2_with fail
                rw [Hw5.out, Hg8.out]
                go_loopw [153] (fun vi wr => ∃ k : Nat, k ≤ mn ∧ vi = .int .i64 (k : Int) ∧ Below w5.heap.size w5 wr) (fun vi _ => mn - (intOf vi).toNat)
                case atStart => exact ⟨0, Nat.zero_le _, rfl, Below.refl _ _⟩
                case round =>
                  obtain ⟨k, hk, rfl, hb⟩ := hrel
                  obtain ⟨wk, rfl⟩ : ∃ wk, wk = wr := ⟨_, rfl⟩
                  have Hb := Lib.hid hb
                  clear hb z0 z1 z2
                  by_cases hlt : k < mn
                  · have hkn : k < v.nodes.length := by rw [← Hmn.out]; exact hlt
                    obtain ⟨b1, o1, rfl, nc1⟩ := node_cell (Hvn3.out.below Hb.out) hkn
                    have Hm1 : Hid (v.nodes[k] ∈ v.nodes) := Lib.hid (List.getElem_mem hkn)
                    obtain ⟨nd1, hnd1⟩ : ∃ nd, nd = v.nodes[k] := ⟨_, rfl⟩
                    rw [← hnd1] at nc1 Hm1
                    clear hnd1 hkn
                    obtain ⟨⟨A', n', c'⟩, fl⟩ := nd1
                    have HND := Lib.hid ((Hvn5.out _ Hm1.out).below Hb.out)
                    unfold NodeAt at HND
                    simp only [slv] at nc1 HND
                    (try dsimp only at HND)
                    obtain ⟨A'', c'', e0, f1, f2, f3, f4, f5⟩ := HND.out
                    injection e0 with e1 e2 e3
                    subst e1 e2 e3
                    have Hf3 := Lib.hid f3
                    have Hf5 := Lib.hid f5
                    have HFk := Lib.hid (HF.out _ Hm1.out)
                    (try dsimp only at HFk)
                    have Hm63 : Hid (fl.length ≤ maxLen) := Lib.hid (by omega)
                    obtain ⟨m, hm⟩ : ∃ m, m = fl.length := ⟨_, rfl⟩
                    rw [← hm] at nc1 Hm63
                    have Hm := Lib.hid hm.symm
                    clear f1 f2 f3 f4 f5 hm HND Hm1
                    go_wp2_with fail
                    go_loopw [159] (fun vi wr => ∃ j : Nat, j ≤ np ∧ vi = .int .i64 (j : Int) ∧ Below wk.heap.size wk wr) (fun vi _ => np - (intOf vi).toNat)
                    case atStart => exact ⟨0, Nat.zero_le _, rfl, Below.refl _ _⟩
                    case round =>
                      obtain ⟨j, hj, rfl, hbj⟩ := hrel
                      obtain ⟨wj, rfl⟩ : ∃ wj, wj = wr := ⟨_, rfl⟩
                      have Hbj2 := Lib.hid hbj
                      have Hbo : Hid (Below wo.heap.size wo wj) := Lib.hid (Hbo5.out.trans ((Hb.out.trans (hbj.mono Hb.out.size)).mono Hbo5.out.size))
                      have HIj := Lib.hid (HI.out.step Hbo.out)
                      clear hbj nc1
                      by_cases hjl : j < np
                      · have hjp : j < ps.length := by rw [← Hnp.out]; exact hjl
                        obtain ⟨bP, oP, rfl, hcp⟩ := slat_elem (size := 5) fC_len (by omega) (Hps3.out.below Hbo.out) hjp
                        have HFa := Lib.hid ((HIj.out.row.each ps[j] (List.getElem_mem hjp)).at_)
                        have hhas := HFk.out ps[j] (List.getElem_mem hjp)
                        obtain ⟨x, hx⟩ : ∃ x, x = ps[j] := ⟨_, rfl⟩
                        rw [← hx] at HFa hhas hcp
                        have Hhas := Lib.hid hhas
                        obtain ⟨⟨n1, b1, s1, d1, g1⟩, A1, c1, m1⟩ := x
                        have t0 : wj.cell? ⟨bP, oP + j * 5, none⟩ = some (.string (strB n1)) := hcp 0 _ rfl
                        have t1 : wj.cell? ⟨bP, oP + j * 5 + 1, none⟩ = some (.slice A1 c1 m1) := hcp 1 _ rfl
                        have t2 : wj.cell? ⟨bP, oP + j * 5 + 2, none⟩ = some (.int .i64 s1) := hcp 2 _ rfl
                        have t3 : wj.cell? ⟨bP, oP + j * 5 + 3, none⟩ = some (.int .i64 d1) := hcp 3 _ rfl
                        have t4 : wj.cell? ⟨bP, oP + j * 5 + 4, none⟩ = some (.bool g1) := hcp 4 _ rfl
                        obtain ⟨wf, hwf⟩ : ∃ wf, wf = wj.alloc (.cells #[.string (strB n1), .slice A1 c1 m1, .int .i64 s1, .int .i64 d1, .bool g1] 33) := ⟨_, rfl⟩
                        have hbf : Below wj.heap.size wj wf := by rw [hwf]; exact (Below.refl _ _).alloc (Nat.le_refl _) _
                        have Hbf := Lib.hid (Hbj2.out.trans (hbf.mono Hbj2.out.size))
                        have HHas := Lib.hid (has_any A' m c' fl (⟨n1, b1, s1, d1, g1⟩, A1, c1, m1) wf Hm.out Hm63.out (Hf3.out.below Hbf.out) (fun y hy => (Hf5.out y hy).below Hbf.out) (HFa.out.below hbf) Hhas.out)
                        unfold fV slv at HHas
                        (try dsimp only at HHas)
                        have Hwf := Lib.hid hwf.symm
                        clear hjp hcp hx hhas hwf hbf Hhas
                        go_wp2_with fail
                        rw [Hwf.out]
                        refine (HHas.out).mono ?_
                        rintro e w9 ⟨rfl, hb9⟩
                        have Hb9 := Lib.hid (Hbf.out.trans (hb9.mono Hbf.out.size))
                        clear hb9 t0 t1 t2 t3 t4 HHas
                        go_wp2_with fail
                        go_roundw
                        case rel => exact ⟨j + 1, by omega, by go_num, Hb9.out⟩
                        case measure => simp [intOf]; omega
                      · obtain rfl : np = j := by omega
                        go_wp2_with fail
                        go_roundw
                        case rel => exact ⟨k + 1, by omega, by go_num, Hb.out.trans (Hbj2.out.mono Hb.out.size)⟩
                        case measure => simp [intOf]; omega
                  · obtain rfl : mn = k := by omega
                    go_wp2_with fail
                    go_ret
                    exact ⟨rfl, HbW5.out.trans (Hb.out.mono HbW5.out.size)⟩
              · have h11 : e2 = 11 := by
                  have := settle_err HI.out.ok (by rw [← Hq.out]; exact h2)
                  rw [← Hq.out] at this
                  exact (Prod.mk.inj this).1
                subst h11
                go_wp2_with fail
                go_ret
                rw [Hw5.out]
                exact ⟨rfl, HbW5.out⟩
  · have hz1 : (er != 0) = true := by simpa using he
    clear he
    go_wp2_with fail
    refine (HT.out _ Hb3.out).mono ?_
    rintro e w4 ⟨rfl, hb4⟩
    have Hb4 := Lib.hid (Hb3.out.trans (hb4.mono Hb3.out.size))
    clear hb4
    go_wp2_with fail
    go_ret
    exact ⟨rfl, Hb4.out⟩
end Go.Proofs.YtdoegpklephelaaDoor.WorldLast
