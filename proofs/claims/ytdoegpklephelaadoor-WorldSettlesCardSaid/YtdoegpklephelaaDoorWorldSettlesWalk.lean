/- reliquarylaw.WorldSettles: the walk. -/
import Derived.Test.YtdoegpklephelaaDoorWorldSettle0
import Derived.Test.YtdoegpklephelaaDoorMergeLaws
namespace Go.Proofs.YtdoegpklephelaaDoor.WorldSettles
open Go Go.RowKit Go.Proofs.YtdoegpklephelaaDoor Go.Proofs.YtdoegpklephelaaDoor.Name Go.Proofs.YtdoegpklephelaaDoor.Merge Go.Proofs.YtdoegpklephelaaDoor.Worlds
set_option linter.unusedVariables false

def Fs (w : World) (v : Value) (l : List Fl) : Prop := ∃ lx, IsFiles w v lx ∧ lx.map Prod.fst = l
/-- the same files -/
def sameL (a b : List Fl) : Bool := eqF sameF a b
theorem sameL_iff (a b : List Fl) : sameL a b = true ↔ a = b := by
  have := eqF_map (p := sameF) (f := id) sameF_iff a b
  rwa [List.map_id, List.map_id] at this
theorem same_fs (v1 v2 : Value) (a b : List Fl) (w : World) (h1 : Fs w v1 a) (h2 : Fs w v2 b) (he : a = b) :
    Calls Tryd.prog 14 #[v1, v2] w fun e w' => e = .returned (.bool true) ∧ Below w.heap.size w w' := by
  obtain ⟨x, k1, rfl⟩ := h1
  obtain ⟨y, k2, rfl⟩ := h2
  refine (sameFiles_any v1 v2 x y w k1 k2).mono ?_
  rintro e w' ⟨h, hb⟩
  refine ⟨?_, hb⟩
  rw [h]
  apply ret_bool
  rw [sameFs_iff]
  exact he
/-- happening i put f -/
def okP (xs : List Hp) (said : List Int) (f : Fl) (i : Nat) : Bool :=
  match xs[i]?, said[i]? with
  | some x, some s => decide (s = 0) && (decide (x.kind = if f.gone = true then 2 else 1) && (decide (x.name = f.name) && (decide (x.node = f.node) && (f.gone || decide (x.bytes = f.bytes)))))
  | _, _ => false
def hitB (P : Nat → Bool) (i : Nat) : Bool := (List.range i).any P
theorem hit_succ (P : Nat → Bool) (i : Nat) : hitB P (i + 1) = (hitB P i || P i) := by simp [hitB, List.range_succ]
theorem put_hit {xs : List Hp} {said : List Int} {f : Fl} (h : PutBy xs said f) : hitB (okP xs said f) xs.length = true := by
  obtain ⟨i, x, hx, hs, hk, hn, hd, hb⟩ := h
  unfold hitB
  rw [List.any_eq_true]
  refine ⟨i, List.mem_range.2 (List.getElem?_eq_some_iff.1 hx).1, ?_⟩
  unfold okP
  rw [hx, hs]
  simp [hk, hn, hd]
  exact hb
theorem okP_at {xs : List Hp} {said : List Int} {f : Fl} {i : Nat} (h1 : i < xs.length) (h2 : i < said.length) :
    okP xs said f i = (decide (said[i] = 0) && (decide (xs[i].kind = if f.gone = true then 2 else 1) && (decide (xs[i].name = f.name) && (decide (xs[i].node = f.node) && (f.gone || decide (xs[i].bytes = f.bytes)))))) := by
  unfold okP
  rw [List.getElem?_eq_getElem h1, List.getElem?_eq_getElem h2]
theorem run_ok {n : Int} {xs : List Hp} {r : Int × Wd × List Int} (h : r = runR n xs) (h0 : r.1 = 0) : 1 ≤ n.toNat ∧ n.toNat ≤ 4 ∧ r.2.1 = (runL (newW n.toNat) xs).1 ∧ r.2.2 = (runL (newW n.toNat) xs).2 := by
  by_cases hn : n < 1 ∨ 4 < n
  · rw [h, run_1 (by rw [new_1 hn]; decide), new_1 hn] at h0
    cases h0
  · have h1 : (newR n).1 = 0 := by rw [new_2 hn]
    by_cases h2 : 40 < xs.length
    · rw [h, run_2 h1 h2] at h0; cases h0
    · rw [h, run_3 h1 h2, new_2 hn]
      exact ⟨by omega, by omega, rfl, rfl⟩
/-- what settled nodes are -/
structure Fin_ (xs : List Hp) (said : List Int) (v : Wx) : Prop where
  some_ : 1 ≤ v.nodes.length
  few : v.nodes.length ≤ 4
  same : ∀ m ∈ v.nodes, ∀ m' ∈ v.nodes, flOf m.2 = flOf m'.2
  put : ∀ m ∈ v.nodes, ∀ f ∈ m.2, hitB (okP xs said f.1) xs.length = true
  again : settleR v.wd = (0, v.wd)
theorem fin_of {n : Int} {xs : List Hp} {r : Int × Wd × List Int} {v : Wx} (h : r = runR n xs) (h0 : r.1 = 0) (hv : settleR r.2.1 = (0, v.wd)) : Fin_ xs r.2.2 v := by
  obtain ⟨n1, n4, e1, e2⟩ := run_ok h h0
  rw [e1] at hv
  rw [e2]
  obtain ⟨hw, a, _, _, hva, hvw⟩ := settle_ok hv
  have hall : ∀ m ∈ v.nodes, flOf m.2 = a := by
    intro m hm
    have h1 : flOf m.2 ∈ v.wd.nodes := List.mem_map_of_mem hm
    rw [hva] at h1
    obtain ⟨_, _, e⟩ := List.mem_map.1 h1
    exact e.symm
  refine ⟨by have := hvw.some_; simpa [Wx.wd] using this, by have := hvw.few; simpa [Wx.wd] using this, fun m hm m' hm' => by rw [hall m hm, hall m' hm'], fun m hm f hf => ?_, settle_again hv⟩
  exact put_hit (settle_by n.toNat n1 n4 xs hv (flOf m.2) (List.mem_map_of_mem hm) f.1 (List.mem_map_of_mem hf))
set_option maxRecDepth 100000 in
set_option maxHeartbeats 8000000 in
theorem walk (W : World) (hml : ML W) (n : Int) (wn : wfI n) (vs : Value) (xs : List Hx) (hxs : IsL W hC (HapAt W) vs xs) :
    Calls Tryd.prog 11 #[.int .i64 n, vs] W fun e W' => e = .returned (.bool true) ∧ Below W.heap.size W W' := by
  have HML := Lib.hid hml
  have HRun := Lib.hid (run_any n vs xs W hml hxs)
  have HT : Hid (∀ w, Below W.heap.size W w → Calls _ _ _ w _) := Lib.hid (fun w hb => told_any w (hml.below hb))
  obtain ⟨A, cap, rfl, hx1, hx2, hsl, _, hdeep⟩ := hxs
  have Hsl := Lib.hid hsl
  have Hdeep := Lib.hid hdeep
  obtain ⟨N, hN⟩ : ∃ N, N = xs.length := ⟨_, rfl⟩
  obtain ⟨r, hr⟩ : ∃ r, r = runR n (xs.map Prod.fst) := ⟨_, rfl⟩
  have Hr := Lib.hid hr
  have HN := Lib.hid hN
  rw [← hr] at HRun
  rw [← hN] at HRun ⊢
  have hN63 : N ≤ 9223372036854775807 := by rw [hN]; unfold maxLen at hx2; omega
  clear hml hsl hdeep hN hr hx1 hx2
  go_enter Tryd.func11, Tryd.ntmps11
  go_wp2_with fail
  refine (HRun.out).mono ?_
  rintro e w1 ⟨y, s, rfl, hy, hyd, hs, hb1⟩
  obtain ⟨As, cs, rfl, _, _, hs3, _⟩ := own_slat hs
  obtain ⟨A1, B1, C1, A2, B2, C2, A3, B3, C3, hVy⟩ : ∃ A1 B1 C1 A2 B2 C2 A3 B3 C3, wV y = .agg #[.slice A1 B1 C1, .slice A2 B2 C2, .slice A3 B3 C3] := by
    obtain ⟨A1, c1, A2, c2, A3, c3, h1, h2, h3⟩ := hy.sl
    exact ⟨A1, _, c1, A2, _, c2, A3, _, c3, by unfold wV; rw [h1, h2, h3]⟩
  obtain ⟨ls, hls⟩ : ∃ ls, ls = r.2.2.length := ⟨_, rfl⟩
  obtain ⟨er, her⟩ : ∃ er, er = r.1 := ⟨_, rfl⟩
  obtain ⟨g5, hg5⟩ : ∃ g, g = w1.heap.size := ⟨_, rfl⟩
  obtain ⟨w2, hw2⟩ : ∃ w2, w2 = w1.alloc (.cells #[.slice A1 B1 C1, .slice A2 B2 C2, .slice A3 B3 C3] 46) := ⟨_, rfl⟩
  have hb2 : Below w1.heap.size w1 w2 := by rw [hw2]; exact (Below.refl _ _).alloc (Nat.le_refl _) _
  have HG2 := Lib.hid (show Blk w2 g5 46 #[.slice A1 B1 C1, .slice A2 B2 C2, .slice A3 B3 C3] by rw [hw2, hg5]; exact Blk.new _ _ _)
  have Hb1 := Lib.hid hb1
  have Hb2 := Lib.hid (hb1.trans (hb2.mono hb1.size))
  have Hb12 := Lib.hid hb2
  have HY := Lib.hid hy.isWorld
  have Hyd := Lib.hid hyd
  have Hs3 := Lib.hid hs3
  have HVy := Lib.hid hVy
  have Hls := Lib.hid hls
  have Her := Lib.hid her
  have Hw2 := Lib.hid hw2.symm
  have Hg5 := Lib.hid hg5.symm
  rw [hVy, ← hls, ← her]
  (try dsimp only)
  clear hy hyd hs hb1 hs3 hVy hls her hw2 hg5 hb2 HRun
  go_wp2_with fail
  rw [Hw2.out, Hg5.out]
  refine (HT.out _ Hb2.out).mono ?_
  rintro e w3 ⟨rfl, hb3⟩
  have Hb3 := Lib.hid (Hb2.out.trans (hb3.mono Hb2.out.size))
  have Hb13 := Lib.hid (Hb12.out.trans (hb3.mono Hb12.out.size))
  have HG3 := Lib.hid (HG2.out.below hb3 HG2.out.lt)
  clear hb3 HG2 Hw2 Hg5 Hb12
  by_cases he : er = 0
  · subst he
    have Hro := Lib.hid (run_ok Hr.out Her.out.symm)
    have hlN : N = ls := by
      rw [HN.out, Hls.out, Hro.out.2.2.2, (runL_len _ _).1, List.length_map]
    subst hlN
    have HW : Hid (WOk y.wd) := Lib.hid (by rw [Hyd.out, Hro.out.2.2.1]; exact runL_ok (newW_ok _ Hro.out.1 Hro.out.2.1) _)
    have HSe := Lib.hid (settle_any y w3 (HML.out.below Hb3.out) (HY.out.below Hb13.out))
    rw [HVy.out] at HSe
    obtain ⟨⟨e2, vd⟩, hq⟩ : ∃ q, q = settleR y.wd := ⟨_, rfl⟩
    have Hq := Lib.hid hq
    rw [← hq] at HSe
    clear hq
    obtain ⟨x0, x1, x2⟩ := blk3 HG3.out
    go_wp2_with fail
    refine (HSe.out).mono ?_
    rintro e w4 ⟨v, rfl, hv, hvd, hb4⟩
    have HVo := Lib.hid hv
    obtain ⟨⟨An, cn, hvn, _, _, vn3, _, vn5⟩, ⟨Ac, cc, hvc, _⟩, ⟨At, ct, hvt, _⟩⟩ := hv.isWorld
    obtain ⟨nn, hnn⟩ : ∃ nn, nn = v.nodes.length := ⟨_, rfl⟩
    obtain ⟨nc, hnc⟩ : ∃ nc, nc = v.clock.length := ⟨_, rfl⟩
    obtain ⟨nt, hnt⟩ : ∃ nt, nt = v.net.length := ⟨_, rfl⟩
    rw [← hnn] at hvn
    rw [← hnc] at hvc
    rw [← hnt] at hvt
    have hVv : wV v = .agg #[.slice An nn cn, .slice Ac nc cc, .slice At nt ct] := by unfold wV; rw [hvn, hvc, hvt]
    obtain ⟨w5, hw5⟩ : ∃ w5, w5 = w4.alloc (.cells #[.slice An nn cn, .slice Ac nc cc, .slice At nt ct] 46) := ⟨_, rfl⟩
    obtain ⟨g8, hg8⟩ : ∃ g, g = w4.heap.size := ⟨_, rfl⟩
    have hb5 : Below w4.heap.size w4 w5 := by rw [hw5]; exact (Below.refl _ _).alloc (Nat.le_refl _) _
    have HG5 := Lib.hid (show Blk w5 g8 46 #[.slice An nn cn, .slice Ac nc cc, .slice At nt ct] by rw [hw5, hg8]; exact Blk.new _ _ _)
    have Hb4 := Lib.hid (Hb3.out.trans (hb4.mono Hb3.out.size))
    have Hb5 := Lib.hid (Hb4.out.trans (hb5.mono Hb4.out.size))
    have Hb15 := Lib.hid ((Hb13.out.trans (hb4.mono Hb13.out.size)).trans (hb5.mono (by have := Hb13.out.size; have := hb4.size; omega)))
    have HVw := Lib.hid (hv.isWorld.below hb5)
    have Hvn3 := Lib.hid (vn3.below hb5)
    have Hvn5 : Hid (∀ a ∈ v.nodes, NodeAt w5 a) := Lib.hid (fun a ha => (vn5 a ha).below hb5)
    have Hvd := Lib.hid hvd
    have HVv := Lib.hid hVv
    have Hnn := Lib.hid hnn
    have Hw5 := Lib.hid hw5.symm
    have Hg8 := Lib.hid hg8.symm
    rw [hVv]
    (try dsimp only)
    clear hv hvd vn3 vn5 hvn hvc hvt hnn hnc hnt hVv hw5 hg8 hb4 hb5 x0 x1 x2 HSe HVo
    by_cases h2 : e2 = 0
    · subst h2
      have HF : Hid (Fin_ (xs.map Prod.fst) r.2.2 v) := Lib.hid (fin_of Hr.out Her.out.symm (by rw [← Hyd.out, Hvd.out]; exact Hq.out.symm))
      have hn1 : 1 ≤ nn := by rw [Hnn.out]; exact HF.out.some_
      have hn4 : nn ≤ 4 := by rw [Hnn.out]; exact HF.out.few
      have HSv : Hid (∀ w, Below w5.heap.size w5 w → Calls Tryd.prog 38 #[wV v] w (DoPost (0, v.wd) w)) := Lib.hid (fun w hb => by
        have := settle_any v w (HML.out.below (Hb5.out.trans (hb.mono Hb5.out.size))) (HVw.out.below hb)
        rwa [HF.out.again] at this)
      rw [HVv.out] at HSv
      obtain ⟨z0, z1, z2⟩ := blk3 HG5.out
      go_wp2_with fail
      rw [Hw5.out, Hg8.out]
      go_loopw [49] (fun vi wr => ∃ k : Nat, k ≤ nn ∧ vi = .int .i64 (k : Int) ∧ Below w5.heap.size w5 wr) (fun vi _ => nn - (intOf vi).toNat)
      case atStart => exact ⟨0, Nat.zero_le _, rfl, Below.refl _ _⟩
      case round =>
        obtain ⟨k, hk, rfl, hb⟩ := hrel
        obtain ⟨wo, rfl⟩ : ∃ wo, wo = wr := ⟨_, rfl⟩
        have Hb := Lib.hid hb
        have HGo := Lib.hid (HG5.out.below hb HG5.out.lt)
        clear hb z0 z1 z2
        obtain ⟨z0, z1, z2⟩ := blk3 HGo.out
        by_cases hlt : k < nn
        · have hkn : k < v.nodes.length := by rw [← Hnn.out]; exact hlt
          have h0n : 0 < v.nodes.length := by omega
          obtain ⟨b1, o1, hA1, nc1⟩ := node_cell (Hvn3.out.below Hb.out) hkn
          obtain ⟨b2, o2, hA2, nc0⟩ := node_cell (Hvn3.out.below Hb.out) h0n
          subst hA1
          rw [Nat.add_zero] at nc0
          injection hA2 with hA2
          injection hA2 with e1 e2
          subst e1 e2
          have Hm1 : Hid (v.nodes[k] ∈ v.nodes) := Lib.hid (List.getElem_mem hkn)
          have Hm0 : Hid (v.nodes[0] ∈ v.nodes) := Lib.hid (List.getElem_mem h0n)
          obtain ⟨nd1, hnd1⟩ : ∃ nd, nd = v.nodes[k] := ⟨_, rfl⟩
          obtain ⟨nd0, hnd0⟩ : ∃ nd, nd = v.nodes[0] := ⟨_, rfl⟩
          rw [← hnd1] at nc1 Hm1
          rw [← hnd0] at nc0 Hm0
          clear hnd1 hnd0 hkn h0n
          obtain ⟨⟨A', n', c'⟩, fl⟩ := nd1
          obtain ⟨⟨A0', n0', c0'⟩, fl0⟩ := nd0
          have HND := Lib.hid ((Hvn5.out _ Hm1.out).below Hb.out)
          have HND0 := Lib.hid ((Hvn5.out _ Hm0.out).below Hb.out)
          unfold NodeAt at HND HND0
          simp only [slv] at nc1 nc0 HND HND0
          (try dsimp only at HND HND0)
          have HSame : Hid (∀ w, Below wo.heap.size wo w → Calls _ _ _ w _) := Lib.hid (fun w hb => same_fs (.slice A' n' c') (.slice A0' n0' c0') (flOf fl) (flOf fl0) w ⟨fl, HND.out.below hb, rfl⟩ ⟨fl0, HND0.out.below hb, rfl⟩ (HF.out.same _ Hm1.out _ Hm0.out))
          obtain ⟨A'', c'', e0, f1, f2, f3, f4, f5⟩ := HND.out
          injection e0 with e1 e2 e3
          subst e1 e2 e3
          have Hf3 := Lib.hid f3
          have Hf5 := Lib.hid f5
          have hm63 : fl.length ≤ 9223372036854775807 := by unfold maxLen at f2; omega
          have Hput := Lib.hid (HF.out.put _ Hm1.out)
          (try dsimp only at Hput)
          obtain ⟨m, hm⟩ : ∃ m, m = fl.length := ⟨_, rfl⟩
          rw [← hm] at nc1 HSame hm63
          have Hm := Lib.hid hm
          clear f1 f2 f3 f4 f5 hm HND HND0 Hm1 Hm0
          go_wp2_with fail
          refine (HSame.out _ (Below.refl _ _)).mono ?_
          rintro e w6 ⟨rfl, hb6⟩
          have Hb6 := Lib.hid hb6
          clear hb6 nc1 nc0 z0 z1 z2
          go_wp2_with fail
          go_loopw [62] (fun vi wr => ∃ j : Nat, j ≤ m ∧ vi = .int .i64 (j : Int) ∧ Below wo.heap.size wo wr) (fun vi _ => m - (intOf vi).toNat)
          case atStart => exact ⟨0, Nat.zero_le _, rfl, Hb6.out⟩
          case round =>
            obtain ⟨j, hj, rfl, hbj⟩ := hrel
            obtain ⟨wj, rfl⟩ : ∃ wj, wj = wr := ⟨_, rfl⟩
            have Hbj := Lib.hid hbj
            clear hbj Hb6
            by_cases hjl : j < m
            · have hjf : j < fl.length := by rw [← Hm.out]; exact hjl
              obtain ⟨b5, o5, rfl, hc5⟩ := slat_elem (size := 5) fC_len (by omega) (Hf3.out.below Hbj.out) hjf
              have HFa := Lib.hid ((Hf5.out fl[j] (List.getElem_mem hjf)).below Hbj.out)
              have HAny := Lib.hid (Hput.out fl[j] (List.getElem_mem hjf))
              generalize fl[j] = f at *
              obtain ⟨⟨n1, bb1, s1, d1, gg1⟩, A1, l1, c1⟩ := f
              have p0 : wj.cell? ⟨b5, o5 + j * 5, none⟩ = some (.string (strB n1)) := hc5 0 _ rfl
              have p1 : wj.cell? ⟨b5, o5 + j * 5 + 1, none⟩ = some (.slice A1 l1 c1) := hc5 1 _ rfl
              have p2 : wj.cell? ⟨b5, o5 + j * 5 + 2, none⟩ = some (.int .i64 s1) := hc5 2 _ rfl
              have p3 : wj.cell? ⟨b5, o5 + j * 5 + 3, none⟩ = some (.int .i64 d1) := hc5 3 _ rfl
              have p4 : wj.cell? ⟨b5, o5 + j * 5 + 4, none⟩ = some (.bool gg1) := hc5 4 _ rfl
              obtain ⟨wf, hwf⟩ : ∃ wf, wf = wj.alloc (.cells #[.string (strB n1), .slice A1 l1 c1, .int .i64 s1, .int .i64 d1, .bool gg1] 33) := ⟨_, rfl⟩
              obtain ⟨gf, hgf⟩ : ∃ gf, gf = wj.heap.size := ⟨_, rfl⟩
              have hbf : Below wj.heap.size wj wf := by rw [hwf]; exact (Below.refl _ _).alloc (Nat.le_refl _) _
              have HFb := Lib.hid (show Blk wf gf 33 #[.string (strB n1), .slice A1 l1 c1, .int .i64 s1, .int .i64 d1, .bool gg1] by rw [hwf, hgf]; exact Blk.new _ _ _)
              have Hbjf := Lib.hid (Hbj.out.trans (hbf.mono Hbj.out.size))
              have HbW : Hid (Below W.heap.size W wf) := Lib.hid (Hb5.out.trans ((Hb.out.trans (Hbjf.out.mono Hb.out.size)).mono Hb5.out.size))
              have Hb1f : Hid (Below w1.heap.size w1 wf) := Lib.hid (Hb15.out.trans ((Hb.out.trans (Hbjf.out.mono Hb.out.size)).mono Hb15.out.size))
              have HFa := Lib.hid (HFa.out.below hbf)
              obtain ⟨P, hP⟩ : ∃ P, P = okP (xs.map Prod.fst) r.2.2 (⟨n1, bb1, s1, d1, gg1⟩ : Fl) := ⟨_, rfl⟩
              have HP := Lib.hid hP
              (try dsimp only at HAny)
              rw [← hP, List.length_map, ← HN.out] at HAny
              have Hwf := Lib.hid hwf.symm
              have Hgf := Lib.hid hgf.symm
              clear hbf hwf hgf hc5 hP
              go_wp2_with fail
              rw [Hwf.out, Hgf.out]
              go_loopw [68, 13] (fun vi pv wr => ∃ i : Nat, i ≤ N ∧ vi = .int .i64 (i : Int) ∧ (∃ b : Bool, pv = .bool b ∧ b = hitB P i) ∧ Below wf.heap.size wf wr) (fun vi _ _ => N - (intOf vi).toNat)
              case atStart => exact ⟨0, Nat.zero_le _, rfl, ⟨false, rfl, rfl⟩, Below.refl _ _⟩
              case round =>
                obtain ⟨i, hi, rfl, ⟨b, rfl, hbi⟩, hbw⟩ := hrel
                have Hbi := Lib.hid hbi
                have Hbw := Lib.hid hbw
                clear hbi hbw p0 p1 p2 p3 p4
                by_cases hin : i < N
                · have hix : i < xs.length := by rw [← HN.out]; exact hin
                  have hir : i < r.2.2.length := by rw [← Hls.out]; exact hin
                  have HbWr := Lib.hid (HbW.out.trans (Hbw.out.mono HbW.out.size))
                  have Hb1r := Lib.hid (Hb1f.out.trans (Hbw.out.mono Hb1f.out.size))
                  obtain ⟨b6, o6, rfl, a0, a1, a2, a3, a4⟩ := hap_cells (Hsl.out.below HbWr.out) hix
                  obtain ⟨b7, o7, rfl, s0⟩ := clock_cell (Hs3.out.below Hb1r.out) hir
                  have HHa := Lib.hid ((Hdeep.out xs[i] (List.getElem_mem hix)).below HbWr.out)
                  have HS1 := Lib.hid (hit_succ P i)
                  have hPi := okP_at (xs := xs.map Prod.fst) (said := r.2.2) (f := (⟨n1, bb1, s1, d1, gg1⟩ : Fl)) (i := i) (by rw [List.length_map]; exact hix) hir
                  rw [List.getElem_map, ← HP.out] at hPi
                  have HPi := Lib.hid hPi
                  clear hPi
                  generalize xs[i] = x at *
                  generalize r.2.2[i] = sd at *
                  obtain ⟨⟨kd, nd, to_, nm, bs⟩, Ab, nb, cb⟩ := x
                  simp only [slv] at a0 a1 a2 a3 a4
                  (try dsimp only at HPi)
                  obtain ⟨wh, hwh⟩ : ∃ wh, wh = wr.alloc (.cells #[.int .i64 kd, .int .i64 nd, .int .i64 to_, .string (strB nm), .slice Ab nb cb] 48) := ⟨_, rfl⟩
                  have hbh : Below wr.heap.size wr wh := by rw [hwh]; exact (Below.refl _ _).alloc (Nat.le_refl _) _
                  have Hbh := Lib.hid (Hbw.out.trans (hbh.mono Hbw.out.size))
                  have HFr := Lib.hid (HFb.out.below Hbw.out HFb.out.lt)
                  have HFar := Lib.hid (HFa.out.below Hbh.out)
                  have HHar := Lib.hid (HHa.out.below hbh)
                  have hgl := HFr.out.lt
                  have hl7 := block_lt_of_cell s0
                  simp only at hl7
                  have r0 : wr.cell? ⟨gf, 0, none⟩ = some (.string (strB n1)) := by rw [HFr.out.cell]; rfl
                  have r1 : wr.cell? ⟨gf, 1, none⟩ = some (.slice A1 l1 c1) := by rw [HFr.out.cell]; rfl
                  have r2 : wr.cell? ⟨gf, 2, none⟩ = some (.int .i64 s1) := by rw [HFr.out.cell]; rfl
                  have r3 : wr.cell? ⟨gf, 3, none⟩ = some (.int .i64 d1) := by rw [HFr.out.cell]; rfl
                  have r4 : wr.cell? ⟨gf, 4, none⟩ = some (.bool gg1) := by rw [HFr.out.cell]; rfl
                  have Hwh := Lib.hid hwh
                  have HEq := Lib.hid (equal_any Ab A1 nb l1 cb c1 bs bb1 wh HHar.out.len.symm HFar.out.len.symm HHar.out.at_ HFar.out.at_)
                  clear hwh hbh
                  cases b with
                  | true =>
                    have HB : Hid (true = hitB P (i + 1)) := Lib.hid (by rw [HS1.out, ← Hbi.out]; rfl)
                    clear HPi HEq
                    cases gg1 with
                    | true =>
                      go_wp2_with fail
                      go_roundw
                      case rel => exact ⟨i + 1, by omega, by go_num, ⟨_, rfl, HB.out⟩, by rw [← Hwh.out]; exact Hbh.out⟩
                      case measure => simp [intOf]; omega
                    | false =>
                      go_wp2_with fail
                      go_roundw
                      case rel => exact ⟨i + 1, by omega, by go_num, ⟨_, rfl, HB.out⟩, by rw [← Hwh.out]; exact Hbh.out⟩
                      case measure => simp [intOf]; omega
                  | false =>
                    have HB1 : Hid (hitB P (i + 1) = P i) := Lib.hid (by rw [HS1.out, ← Hbi.out]; rfl)
                    clear HS1 Hbi
                    cases gg1 with
                    | true =>
                      by_cases hs0 : sd = 0
                      · subst hs0
                        by_cases hk0 : kd = 2
                        · subst hk0
                          by_cases hn0 : nm = n1
                          · subst hn0
                            by_cases hd0 : nd = d1
                            · subst hd0
                              have HB : Hid (true = hitB P (i + 1)) := Lib.hid (by rw [HB1.out, HPi.out]; simp)
                              clear HPi HEq
                              go_wp2_with fail
                              go_roundw
                              case rel => exact ⟨i + 1, by omega, by go_num, ⟨_, rfl, HB.out⟩, by rw [← Hwh.out]; exact Hbh.out⟩
                              case measure => simp [intOf]; omega
                            · have hd1 : (nd == d1) = false := by simpa using hd0
                              have HB : Hid (false = hitB P (i + 1)) := Lib.hid (by rw [HB1.out, HPi.out]; simp [hd0])
                              clear HPi
                              clear hd0 HEq
                              go_wp2_with fail
                              go_roundw
                              case rel => exact ⟨i + 1, by omega, by go_num, ⟨_, rfl, HB.out⟩, by rw [← Hwh.out]; exact Hbh.out⟩
                              case measure => simp [intOf]; omega
                          · have hn1' : (nm == n1) = false := by simpa using hn0
                            have HB : Hid (false = hitB P (i + 1)) := Lib.hid (by rw [HB1.out, HPi.out]; simp [hn0])
                            clear HPi
                            clear hn0 HEq
                            go_wp2_with fail
                            go_roundw
                            case rel => exact ⟨i + 1, by omega, by go_num, ⟨_, rfl, HB.out⟩, by rw [← Hwh.out]; exact Hbh.out⟩
                            case measure => simp [intOf]; omega
                        · have hk1 : (kd == 2) = false := by simpa using hk0
                          have HB : Hid (false = hitB P (i + 1)) := Lib.hid (by rw [HB1.out, HPi.out]; simp [hk0])
                          clear HPi
                          clear hk0 HEq
                          go_wp2_with fail
                          go_roundw
                          case rel => exact ⟨i + 1, by omega, by go_num, ⟨_, rfl, HB.out⟩, by rw [← Hwh.out]; exact Hbh.out⟩
                          case measure => simp [intOf]; omega
                      · have hs1 : (sd == 0) = false := by simpa using hs0
                        have HB : Hid (false = hitB P (i + 1)) := Lib.hid (by rw [HB1.out, HPi.out]; simp [hs0])
                        clear HPi
                        clear hs0 HEq
                        go_wp2_with fail
                        go_roundw
                        case rel => exact ⟨i + 1, by omega, by go_num, ⟨_, rfl, HB.out⟩, by rw [← Hwh.out]; exact Hbh.out⟩
                        case measure => simp [intOf]; omega
                    | false =>
                      by_cases hs0 : sd = 0
                      · subst hs0
                        by_cases hk0 : kd = 1
                        · subst hk0
                          by_cases hn0 : nm = n1
                          · subst hn0
                            by_cases hd0 : nd = d1
                            · subst hd0
                              have HB : Hid (decide (bs = bb1) = hitB P (i + 1)) := Lib.hid (by rw [HB1.out, HPi.out]; simp)
                              clear HPi
                              go_wp2_with fail
                              rw [← Hwh.out]
                              refine (HEq.out).mono ?_
                              rintro e w9 ⟨rfl, rfl⟩
                              go_wp2_with fail
                              go_roundw
                              case rel => exact ⟨i + 1, by omega, by go_num, ⟨_, rfl, HB.out⟩, Hbh.out⟩
                              case measure => simp [intOf]; omega
                            · have hd1 : (nd == d1) = false := by simpa using hd0
                              have HB : Hid (false = hitB P (i + 1)) := Lib.hid (by rw [HB1.out, HPi.out]; simp [hd0])
                              clear HPi
                              clear hd0 HEq
                              go_wp2_with fail
                              go_roundw
                              case rel => exact ⟨i + 1, by omega, by go_num, ⟨_, rfl, HB.out⟩, by rw [← Hwh.out]; exact Hbh.out⟩
                              case measure => simp [intOf]; omega
                          · have hn1' : (nm == n1) = false := by simpa using hn0
                            have HB : Hid (false = hitB P (i + 1)) := Lib.hid (by rw [HB1.out, HPi.out]; simp [hn0])
                            clear HPi
                            clear hn0 HEq
                            go_wp2_with fail
                            go_roundw
                            case rel => exact ⟨i + 1, by omega, by go_num, ⟨_, rfl, HB.out⟩, by rw [← Hwh.out]; exact Hbh.out⟩
                            case measure => simp [intOf]; omega
                        · have hk1 : (kd == 1) = false := by simpa using hk0
                          have HB : Hid (false = hitB P (i + 1)) := Lib.hid (by rw [HB1.out, HPi.out]; simp [hk0])
                          clear HPi
                          clear hk0 HEq
                          go_wp2_with fail
                          go_roundw
                          case rel => exact ⟨i + 1, by omega, by go_num, ⟨_, rfl, HB.out⟩, by rw [← Hwh.out]; exact Hbh.out⟩
                          case measure => simp [intOf]; omega
                      · have hs1 : (sd == 0) = false := by simpa using hs0
                        have HB : Hid (false = hitB P (i + 1)) := Lib.hid (by rw [HB1.out, HPi.out]; simp [hs0])
                        clear HPi
                        clear hs0 HEq
                        go_wp2_with fail
                        go_roundw
                        case rel => exact ⟨i + 1, by omega, by go_num, ⟨_, rfl, HB.out⟩, by rw [← Hwh.out]; exact Hbh.out⟩
                        case measure => simp [intOf]; omega
                · obtain rfl : i = N := by omega
                  have hbt : b = true := by rw [Hbi.out]; exact HAny.out
                  subst hbt
                  go_wp2_with fail
                  go_roundw
                  case rel => exact ⟨j + 1, by omega, by go_num, Hbjf.out.trans (Hbw.out.mono Hbjf.out.size)⟩
                  case measure => simp [intOf]; omega
            · obtain rfl : j = m := by omega
              go_wp2_with fail
              go_roundw
              case rel => exact ⟨k + 1, by omega, by go_num, Hb.out.trans (Hbj.out.mono Hb.out.size)⟩
              case measure => simp [intOf]; omega
        · obtain rfl : k = nn := by omega
          go_wp2_with fail
          refine (HSv.out _ Hb.out).mono ?_
          rintro e w7 ⟨u, rfl, hu, hud, hb7⟩
          obtain ⟨E1, F1, G1, E2, F2, G2, E3, F3, G3, hVu⟩ : ∃ A1 B1 C1 A2 B2 C2 A3 B3 C3, wV u = .agg #[.slice A1 B1 C1, .slice A2 B2 C2, .slice A3 B3 C3] := by
            obtain ⟨A1, c1, A2, c2, A3, c3, h1, h2, h3⟩ := hu.sl
            exact ⟨A1, _, c1, A2, _, c2, A3, _, c3, by unfold wV; rw [h1, h2, h3]⟩
          obtain ⟨w8, hw8⟩ : ∃ w8, w8 = w7.alloc (.cells #[.slice E1 F1 G1, .slice E2 F2 G2, .slice E3 F3 G3] 46) := ⟨_, rfl⟩
          have hb8 : Below w7.heap.size w7 w8 := by rw [hw8]; exact (Below.refl _ _).alloc (Nat.le_refl _) _
          have Hb58 := Lib.hid ((Hb.out.trans (hb7.mono Hb.out.size)).trans (hb8.mono (by have := Hb.out.size; have := hb7.size; omega)))
          have Hb8 := Lib.hid (Hb5.out.trans (Hb58.out.mono Hb5.out.size))
          have HSW := Lib.hid (sameWorld_eq u v w8 (hu.isWorld.below hb8) (HVw.out.below Hb58.out) hud)
          rw [hVu, HVv.out] at HSW
          have HG7 := Lib.hid (HGo.out.below hb7 HGo.out.lt)
          have Hw8 := Lib.hid hw8.symm
          have hl8 := HG7.out.lt
          rw [hVu]
          (try dsimp only)
          clear hu hud hb7 hb8 hVu hw8 z0 z1 z2
          obtain ⟨z0, z1, z2⟩ := blk3 HG7.out
          go_wp2_with fail
          rw [Hw8.out]
          refine (HSW.out).mono ?_
          rintro e w9 ⟨rfl, hb9⟩
          have Hb9 := Lib.hid (Hb8.out.trans (hb9.mono Hb8.out.size))
          clear hb9
          go_wp2_with fail
          go_ret
          exact ⟨rfl, Hb9.out⟩
    · have h11 : e2 = 11 := by
        have := settle_err HW.out (by rw [← Hq.out]; exact h2)
        rw [← Hq.out] at this
        exact (Prod.mk.inj this).1
      subst h11
      go_wp2_with fail
      go_ret
      rw [Hw5.out]
      exact ⟨rfl, Hb5.out⟩
  · have hz1 : (er != 0) = true := by simpa using he
    clear he
    go_wp2_with fail
    refine (HT.out _ Hb3.out).mono ?_
    rintro e w4 ⟨rfl, hb4⟩
    have Hb4 := Lib.hid (Hb3.out.trans (hb4.mono Hb3.out.size))
    clear hb4
    go_wp2_with fail
    go_ret
    exact ⟨rfl, Hb4.out⟩
end Go.Proofs.YtdoegpklephelaaDoor.WorldSettles
