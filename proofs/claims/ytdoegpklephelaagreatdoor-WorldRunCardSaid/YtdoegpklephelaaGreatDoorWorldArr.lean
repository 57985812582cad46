/- package world: arrive. -/
import Derived.Test.YtdoegpklephelaaGreatDoorWorldPut
import Derived.Test.YtdoegpklephelaaGreatDoorWorldDel
namespace Go.Proofs.YtdoegpklephelaaGreatDoor.Worlds
open Go Go.RowKit Go.Proofs.YtdoegpklephelaaGreatDoor Go.Proofs.YtdoegpklephelaaGreatDoor.Name Go.Proofs.YtdoegpklephelaaGreatDoor.Merge
set_option linter.unusedVariables false

/-- what stands while a message is handled -/
structure StB (w_ w0 w : World) (gw : Nat) (x : Wx) (gx : Nat) (tx : TypeId) (cs : Array Value) : Prop where
  below : Below w0.heap.size w0 w
  bw : Blk w gw 26 #[x.vn, x.vc, x.vt]
  bx : Blk w gx tx cs
  own : OwnW w w0.heap.size x
  kr : KR w_ w gw
theorem StB.step {w_ w0 w w' : World} {gw gx : Nat} {x : Wx} {tx : TypeId} {cs : Array Value} (s : StB w_ w0 w gw x gx tx cs) (hb : Below w.heap.size w w') : StB w_ w0 w' gw x gx tx cs :=
  ⟨s.below.trans (hb.mono s.below.size), s.bw.below hb s.bw.lt, s.bx.below hb s.bx.lt, s.own.below hb, s.kr.step hb⟩
theorem arriveR_cases (w : Wd) (k t : Nat) (m : Ms) (c : Int) (l : List Fl) (hm : msAt w k = m) (ht : m.to_ = t) (hc : w.clock.getD t 0 = c) (hl : w.nodes.getD t [] = l) :
    (12 < (bothL l m.files).length → arriveR w k = (11, .none_)) ∧
    (¬ 12 < (bothL l m.files).length → arriveR w k = (0, ⟨w.nodes.set t (bothL l m.files), w.clock.set t (maxStamp c m.files), w.net.eraseIdx k⟩)) := by
  unfold arriveR
  rw [hm, ht, Int.toNat_natCast, hc, hl]
  exact ⟨fun h => by rw [if_pos h], fun h => by rw [if_neg h]⟩
theorem run_max2 {P : Program} (ts : Array TypeId) (t : TypeId) (a b : Int) (w : World) :
    (Builtin.max_ ts t #[.int .i64 a, .int .i64 b]).run P w = .ok (.int .i64 (max a b)) w := by
  simp [Builtin.max_, Builtin.max2]
  (repeat' split) <;> omega
theorem maxStamp_snoc (c : Int) (l : List Fl) (f : Fl) : maxStamp c (l ++ [f]) = max (maxStamp c l) f.stamp := by unfold maxStamp; rw [List.foldl_append]; rfl
theorem map_erase {α β : Type} (f : α → β) (l : List α) (k : Nat) : (l.eraseIdx k).map f = (l.map f).eraseIdx k := by
  rw [List.eraseIdx_eq_take_drop_succ, List.eraseIdx_eq_take_drop_succ, List.map_append, List.map_take, List.map_drop]
theorem OwnW.erase {w w' : World} {base : Nat} {x : Wx} (h : OwnW w base x) (hk : Keeps base [54] w w') (k : Nat) {v : Value} (ho : w'.ownsRow base 54 2 v (x.net.eraseIdx k).length ((x.net.eraseIdx k).flatMap mC)) : OwnW w' base { x with vt := v, net := x.net.eraseIdx k } :=
  ⟨hk.own h.nodes (by decide), fun n hn => (h.node n hn).keeps hk (by decide) (by decide), hk.own h.clock (by decide), h.clk, ho, fun m hm => ⟨(h.ms m (List.mem_of_mem_eraseIdx hm)).1, (h.ms m (List.mem_of_mem_eraseIdx hm)).2.keeps hk (by decide) (by decide)⟩⟩
set_option maxRecDepth 100000 in
set_option maxHeartbeats 6000000 in
theorem arriveW_any (w0 w : World) (gw : Nat) (x : Wx) (k : Nat) (hml : ML w0) (hb : Below w0.heap.size w0 w) (hgw : w0.heap.size ≤ gw) (hB : Blk w gw 26 #[x.vn, x.vc, x.vt]) (hO : OwnW w w0.heap.size x) (hw : WOk x.wd) (hk : k < x.net.length) :
    Calls Tryz.prog 44 #[.pointer (some ⟨gw, 0, none⟩), .int .i64 (k : Int)] w (StepPost w w0 gw (arriveR x.wd k)) := by
  have hlen : x.clock.length = x.nodes.length := by have := hw.clock; simpa [Wx.wd] using this
  have hfew : x.nodes.length ≤ 4 := by have := hw.few; simpa [Wx.wd] using this
  have hnet : x.net.length ≤ 20 := by have := hw.net; simpa [Wx.wd] using this
  have hMs := hw.ms (msOf x.net[k]) (by simp only [Wx.wd]; exact List.mem_map_of_mem (List.getElem_mem hk))
  have hmD : msAt x.wd k = msOf x.net[k] := by simp [msAt, Wx.wd, List.getD_eq_getElem?_getD, hk]
  obtain ⟨t, htE⟩ : ∃ t : Nat, x.net[k].1 = (t : Int) := ⟨x.net[k].1.toNat, by have := hMs.2.1; simp only [msOf] at this; omega⟩
  have htn : t < x.nodes.length := by have := hMs.2.2; simp only [msOf, Wx.wd, List.length_map, htE] at this; omega
  have htc : t < x.clock.length := by omega
  have hcD : x.wd.clock.getD t 0 = x.clock[t] := by simp [Wx.wd, List.getD_eq_getElem?_getD, htc]
  have hlD : x.wd.nodes.getD t [] = flOf x.nodes[t].2 := by simp [Wx.wd, List.getD_eq_getElem?_getD, htn]
  have hNd := hw.node t (flOf x.nodes[t].2) x.clock[t] (by simp [Wx.wd, htn]) (by simp [Wx.wd, htc])
  obtain ⟨hR1, hR2⟩ := arriveR_cases x.wd k t _ _ _ hmD htE hcD hlD
  obtain ⟨R, hR⟩ : ∃ R, R = arriveR x.wd k := ⟨_, rfl⟩
  rw [← hR] at hR1 hR2 ⊢
  have HR1 := Lib.hid hR1
  have HR2 := Lib.hid hR2
  have HNd := Lib.hid hNd
  have HMs := Lib.hid hMs.1
  obtain ⟨gn, cn, hvn, _, _, _, _⟩ := own_at hO.nodes (by omega)
  obtain ⟨gc, cc, hvc, _, _, _, _⟩ := own_at hO.clock (by omega)
  obtain ⟨gt, ct, hvt, _, _, _, _⟩ := own_at hO.net (by omega)
  have HO := Lib.hid hO
  have hcellN := own_node (by have := hO.nodes; rw [hvn] at this; exact this) rfl htn
  have hcellC := own_clock (by have := hO.clock; rw [hvc] at this; exact this) rfl htc
  have hcellM := own_msg (by have := hO.net; rw [hvt] at this; exact this) rfl hk
  have hnw : gn ≠ gw := fun e => own_ne hO.nodes hB (by decide) (by rw [hvn, e]; rfl)
  have hcw : gc ≠ gw := fun e => own_ne hO.clock hB (by decide) (by rw [hvc, e]; rfl)
  have htw : gt ≠ gw := fun e => own_ne hO.net hB (by decide) (by rw [hvt, e]; rfl)
  have HML := Lib.hid hml
  have B0 := Lib.hid hB
  have Hb0 := Lib.hid hb
  rw [hvn, hvc, hvt] at hB
  have Hvn := Lib.hid hvn
  have Hvc := Lib.hid hvc
  have Hvt := Lib.hid hvt
  obtain ⟨c, hcE⟩ : ∃ c, c = x.clock[t] := ⟨_, rfl⟩
  obtain ⟨nd, hnd⟩ : ∃ nd, nd = x.nodes[t] := ⟨_, rfl⟩
  obtain ⟨ms, hms⟩ : ∃ ms, ms = x.net[k] := ⟨_, rfl⟩
  rw [← hcE] at HR2 HNd hcellC
  rw [← hnd] at HR1 HR2 HNd hcellN
  rw [← hms] at HR1 HR2 HMs hcellM htE
  have HcE := Lib.hid (fun (h : t < x.clock.length) => hcE.symm)
  have Hmem := Lib.hid (show nd ∈ x.nodes by rw [hnd]; exact List.getElem_mem _)
  have Hmem2 := Lib.hid (show ms ∈ x.net by rw [hms]; exact List.getElem_mem _)
  have hc0 := HNd.out.2.1
  have hc1 := HNd.out.2.2.1
  obtain ⟨n, hn⟩ : ∃ n, n = x.nodes.length := ⟨_, rfl⟩
  obtain ⟨q, hq⟩ : ∃ q, q = x.net.length := ⟨_, rfl⟩
  rw [hlen] at hB
  rw [← hn] at hB hfew
  rw [← hq] at hB hnet
  have htn2 : t < n := by omega
  have hkq : k < q := by omega
  have Hn := Lib.hid hn
  have Hq := Lib.hid hq
  have Hlen := Lib.hid hlen
  have Htc := Lib.hid htc
  clear hvn hvc hvt hml hO hw hR hcD hlD hmD hNd hMs hcE hnd hms hn hq hlen hb hR1 hR2
  obtain ⟨⟨A', n', c'⟩, fl⟩ := nd
  obtain ⟨to_, ⟨Am, nm, cm⟩, fm⟩ := ms
  dsimp only at htE
  subst htE
  simp only [slv] at hcellN hcellM
  obtain ⟨hcM0, hcM1⟩ := hcellM
  obtain ⟨gx, hgx⟩ : ∃ gx, gx = w.heap.size := ⟨_, rfl⟩
  obtain ⟨w1, hw1⟩ : ∃ w1, w1 = w.alloc (.cells #[.int .i64 (t : Int), .slice Am nm cm] 54) := ⟨_, rfl⟩
  have hb1 : Below w.heap.size w w1 := by rw [hw1]; exact (Below.refl _ _).alloc (Nat.le_refl _) _
  have S1 := Lib.hid (show StB w w0 w1 gw x gx 54 #[.int .i64 (t : Int), .slice Am nm cm] from ⟨Hb0.out.trans (hb1.mono Hb0.out.size), B0.out.below hb1 B0.out.lt, by rw [hw1, hgx]; exact Blk.new _ _ _, HO.out.below hb1, KR.start hb1⟩)
  have HB1 := Lib.hid (hB.below hb1 hB.lt)
  have HN1 := Lib.hid (cell_below hb1 hcellN)
  have HC1 := Lib.hid (cell_below hb1 hcellC)
  have Hw1 := Lib.hid hw1.symm
  have Hgx := Lib.hid hgx.symm
  have hgxw : gx ≠ gw := by have := hB.lt; omega
  have hxn : gx ≠ gn := by have := block_lt_of_cell hcellN; simp only at this; omega
  have hxc : gx ≠ gc := by have := block_lt_of_cell hcellC; simp only at this; omega
  have hxt : gx ≠ gt := by have := block_lt_of_cell hcM0; simp only at this; omega
  have hbase : w0.heap.size ≤ gx := by have := Hb0.out.size; omega
  have bw2 := (blk3 hB).2.2
  clear hcellN hcellC hw1 hgx hb1 B0 Hb0 HO hB
  go_enter Tryz.func44, Tryz.ntmps44
  go_wp2_with fail
  rw [Hw1.out, Hgx.out]
  clear Hw1 Hgx hcM0 hcM1 bw2
  have HS : Hid (∀ W, Below w1.heap.size w1 W → W.cell? ⟨gw, 0, none⟩ = some (.slice (some ⟨gn, 0, none⟩) n cn) ∧ W.cell? ⟨gx, 0, none⟩ = some (.int .i64 (t : Int)) ∧ W.cell? ⟨gn, t, none⟩ = some (.slice A' n' c') ∧ W.cell? ⟨gx, 1, none⟩ = some (.slice Am nm cm)) := Lib.hid (fun W hb => ⟨by rw [(HB1.out.below hb HB1.out.lt).cell]; rfl, by rw [(S1.out.bx.below hb S1.out.bx.lt).cell]; rfl, cell_below hb HN1.out, by rw [(S1.out.bx.below hb S1.out.bx.lt).cell]; rfl⟩)
  have HBo := Lib.hid (fun W (hb : Below w1.heap.size w1 W) => both_any (.slice A' n' c') (.slice Am nm cm) fl fm W (HML.out.below (S1.out.step hb).below) (((S1.out.step hb).own.node _ Hmem.out).files) (((S1.out.step hb).own.ms _ Hmem2.out).2.files))
  go_wp2_with fail
  go_region_held3 (fun W => W.cell? ⟨gw, 0, none⟩ = some (.slice (some ⟨gn, 0, none⟩) n cn) ∧ W.cell? ⟨gx, 0, none⟩ = some (.int .i64 (t : Int)) ∧ W.cell? ⟨gn, t, none⟩ = some (.slice A' n' c') ∧ W.cell? ⟨gx, 1, none⟩ = some (.slice Am nm cm)) (first | exact HS.out _ (Below.refl _ _).drew | exact HS.out _ Hb9.out) ((first
    | (go_at_call 34
       refine (HBo.out _ (Below.refl _ _).drew).mono ?_
       rintro e w9 ⟨v9, l9, rfl, ho9, hl9, hb9⟩
       have Hb9 := Lib.hid ((Below.refl w1.heap.size w1).drew.trans hb9)
       have Ho9 := Lib.hid ho9
       have Hl9 := Lib.hid hl9
       clear ho9 hl9 hb9)))
  have S9 := Lib.hid (S1.out.step Hb9.out)
  have HB9 := Lib.hid (HB1.out.below Hb9.out HB1.out.lt)
  have HN9 := Lib.hid (cell_below Hb9.out HN1.out)
  have HC9 := Lib.hid (cell_below Hb9.out HC1.out)
  have Ho9 := Lib.hid (Ho9.out.base_ (show w0.heap.size ≤ w1.heap.size from S1.out.below.size))
  clear S1 HB1 HN1 HC1 HBo HS
  rw [show fl.map Prod.fst = flOf fl from rfl, show fm.map Prod.fst = flOf fm from rfl] at Hl9 ⊢
  simp only [msOf] at HR1 HR2 HMs
  by_cases h12 : 12 < (bothL (flOf fl) (flOf fm)).length
  · have HU := Lib.hid (HR1.out h12)
    rw [bothR_3 HNd.out.1 HMs.out h12]
    clear h12
    go_wp2_with fail
    go_ret
    exact StepPost.err HU.out (by decide) S9.out.below S9.out.kr
  · have HU := Lib.hid (HR2.out h12)
    have hbr := bothR_of HNd.out.1 HMs.out (show (bothL (flOf fl) (flOf fm)).length ≤ 12 by omega)
    rw [hbr] at Hl9 ⊢
    obtain ⟨A9, c9, rfl⟩ : ∃ A c, v9 = .slice A l9.length c := by obtain ⟨A, c, h, _⟩ := own_slat Ho9.out.row; exact ⟨A, c, h⟩
    obtain ⟨ln9, hln9⟩ : ∃ ln, ln = l9.length := ⟨_, rfl⟩
    rw [← hln9] at Ho9 ⊢
    clear h12 hbr hln9 HR1 HR2
    have q1 := pcell HB9.out 0 _ rfl
    have q2 := pcell S9.out.bx 0 _ rfl
    go_wp2_with fail
    refine wp_region_below_tail 8 (by kernel_rfl) (by kernel_rfl) ?_
    simp only [List.take_succ_cons, List.take_zero, List.drop_succ_cons, List.drop_zero]
    repeat (quiet_step (fail))
    refine wpQuiet_nil ?_
    intro w10 hq
    have hb10 : Below w9.heap.size w9 w10 := by obtain ⟨p, hp⟩ := hq; rw [hp]; exact p.h
    have S10 := Lib.hid (S9.out.step hb10)
    have HB10 := Lib.hid (HB9.out.below hb10 HB9.out.lt)
    have hN10 := cell_below hb10 HN9.out
    have Ho10 := Lib.hid (show OwnFs w10 w0.heap.size (slv (A9, ln9, c9)) l9 from Ho9.out.below hb10)
    have hf10 : w10.frozen? ⟨gn, t, none⟩ = false := by have := S10.out.own.nodes; rw [Hvn.out] at this; exact this.frozenAt _
    have S11 : Hid (StB w w0 (w10.setCell ⟨gn, t, none⟩ (.slice A9 ln9 c9)) gw { x with nodes := x.nodes.set t ((A9, ln9, c9), l9) } gx 54 #[.int .i64 (t : Int), .slice Am nm cm]) := Lib.hid
      ⟨S10.out.below.setCell (show w0.heap.size ≤ (⟨gn, t, none⟩ : Addr).block from by have := S10.out.own.nodes; rw [Hvn.out] at this; exact (own_blk this).1) _,
        S10.out.bw.far (p := ⟨gn, t, none⟩) (Ne.symm hnw) _, S10.out.bx.far (p := ⟨gn, t, none⟩) hxn _, OwnW.setNode S10.out.own Hvn.out rfl (A9, ln9, c9) l9 Ho10.out, S10.out.kr.own (by have := S10.out.own.nodes; rw [Hvn.out] at this; exact this) (by decide) _ _⟩
    have HB11 := Lib.hid (HB10.out.far (p := ⟨gn, t, none⟩) (Ne.symm hnw) (.slice A9 ln9 c9))
    obtain ⟨w11, hw11⟩ : ∃ w11, w11 = w10.setCell ⟨gn, t, none⟩ (.slice A9 ln9 c9) := ⟨_, rfl⟩
    rw [← hw11] at S11 HB11
    have Hw11 := Lib.hid hw11.symm
    obtain ⟨y, hy⟩ : ∃ y : Wx, y = { x with nodes := x.nodes.set t ((A9, ln9, c9), l9) } := ⟨_, rfl⟩
    rw [← hy] at S11
    have Hy := Lib.hid hy
    have Hyc : Hid (y.vc = .slice (some ⟨gc, 0, none⟩) n cc ∧ t < y.clock.length ∧ (∀ h : t < y.clock.length, y.clock[t] = c) ∧ y.clock.length = n) := Lib.hid (by subst hy; exact ⟨by rw [Hn.out, ← Hlen.out]; exact Hvc.out, Htc.out, HcE.out, by rw [Hn.out, ← Hlen.out]⟩)
    have Hyt : Hid (y.vt = .slice (some ⟨gt, 0, none⟩) q ct ∧ y.net.length = q ∧ (⟨(t : Int), (Am, nm, cm), fm⟩ : Mx) ∈ y.net) := Lib.hid (by subst hy; exact ⟨by rw [Hq.out]; exact Hvt.out, Hq.out.symm, Hmem2.out⟩)
    have x10 := S10.out.bx.c1
    have HfL : Hid (nm = fm.length) := Lib.hid (by obtain ⟨A8, c8, e8, _⟩ := (S10.out.own.ms _ Hmem2.out).2.files; injection e8)
    have hnm : nm ≤ 12 := by rw [HfL.out]; have := (chkF_ok.1 HMs.out).1; unfold flOf at this; rwa [List.length_map] at this
    have HSt := Lib.hid (stamp_bd HMs.out)
    clear hq hb10 q1 q2 S9 HB9 HN9 HC9 S10 HB10 Ho9 Ho10 hw11 hy
    go_wp2_with fail
    rw [Hw11.out]
    clear Hw11 hN10 hf10 x10
    have hy0 : y = { y with clock := y.clock.set t (maxStamp c (flOf (fm.take 0))) } := by
      have := Hyc.out.2.2.1 Hyc.out.2.1
      have e : y.clock.set t c = y.clock := by rw [← this]; exact List.set_getElem_self _
      show y = { y with clock := y.clock.set t c }
      rw [e]
    have HS0 : Hid (StB w w0 w11 gw { y with clock := y.clock.set t (maxStamp c (flOf (fm.take 0))) } gx 54 #[.int .i64 (t : Int), .slice Am nm cm]) := Lib.hid (by rw [← hy0]; exact S11.out)
    clear hy0 S11 HB11
    go_loopw [45] (fun vi wr => ∃ j : Nat, j ≤ nm ∧ vi = .int .i64 (j : Int) ∧ StB w w0 wr gw { y with clock := y.clock.set t (maxStamp c (flOf (fm.take j))) } gx 54 #[.int .i64 (t : Int), .slice Am nm cm]) (fun vi _ => nm - (intOf vi).toNat)
    case atStart => exact ⟨0, Nat.zero_le _, rfl, HS0.out⟩
    case round =>
      obtain ⟨j, hj, rfl, hS⟩ := hrel
      have HS := Lib.hid hS
      clear hS HS0
      by_cases hlt : j < nm
      · have hjl : j < fm.length := by rw [← HfL.out]; exact hlt
        have hfl : IsFiles wr (.slice Am nm cm) fm := (HS.out.own.ms _ Hyt.out.2.2).2.files
        obtain ⟨A8, c8, e8, _, _, hsl8, _, _⟩ := hfl
        injection e8 with e81 e82 e83
        subst e81 e83
        clear e82
        obtain ⟨b, o, rfl, ca0, ca1, ca2, ca3, ca4⟩ := files_cells hsl8 hjl
        have HT : Hid (maxStamp c (flOf (fm.take (j + 1))) = max (maxStamp c (flOf (fm.take j))) fm[j].1.stamp) := Lib.hid (by
          rw [take_snoc _ _ hjl]; unfold flOf; rw [List.map_append]; exact maxStamp_snoc _ _ _)
        have HTb : Hid (0 ≤ maxStamp c (flOf (fm.take (j + 1))) ∧ maxStamp c (flOf (fm.take (j + 1))) ≤ 1000000) := Lib.hid ⟨by have := (maxStamp_le c (flOf (fm.take (j + 1)))).1; omega, maxStamp_lub _ _ _ hc1 (fun f hf => by
          obtain ⟨z, hz, rfl⟩ := List.mem_map.1 hf
          exact (HSt.out z.1 (List.mem_map_of_mem (List.mem_of_mem_take hz))).2)⟩
        generalize fm[j] = fx at *
        obtain ⟨⟨n1, b1, s1, d1, g1⟩, A3, l3, c3⟩ := fx
        simp only [slv] at ca0 ca1 ca2 ca3 ca4
        obtain ⟨cur, hcur⟩ : ∃ cur, cur = maxStamp c (flOf (fm.take j)) := ⟨_, rfl⟩
        obtain ⟨nxt, hnxt⟩ : ∃ nxt, nxt = maxStamp c (flOf (fm.take (j + 1))) := ⟨_, rfl⟩
        have Hnxt := Lib.hid hnxt
        rw [← hcur] at HS HT
        rw [← hnxt] at HT HTb
        clear hcur hnxt
        have hsc := HS.out.own.clock
        dsimp only at hsc
        rw [Hyc.out.1, List.length_set, Hyc.out.2.2.2] at hsc
        have hcc : wr.cell? ⟨gc, t, none⟩ = some (.int .i64 cur) := by
          have := own_clock hsc (by rw [List.length_set]; exact Hyc.out.2.2.2) (k := t) (by simpa using Hyc.out.2.1)
          rw [this]
          simp
        have hfz : ∀ w', Below wr.heap.size wr w' → w'.frozen? ⟨gc, t, none⟩ = false := fun w' hb => by
          exact (own_keep hsc hb).frozenAt _
        have Hfz := Lib.hid hfz
        obtain ⟨w2, hw2⟩ : ∃ w2, w2 = wr.alloc (.cells #[.string (strB n1), .slice A3 l3 c3, .int .i64 s1, .int .i64 d1, .bool g1] 49) := ⟨_, rfl⟩
        obtain ⟨gf, hgf⟩ : ∃ gf, gf = wr.heap.size := ⟨_, rfl⟩
        have hb2 : Below wr.heap.size wr w2 := by rw [hw2]; exact (Below.refl _ _).alloc (Nat.le_refl _) _
        have HF2 := Lib.hid (show Blk w2 gf 49 #[.string (strB n1), .slice A3 l3 c3, .int .i64 s1, .int .i64 d1, .bool g1] by rw [hw2, hgf]; exact Blk.new _ _ _)
        have S2 := Lib.hid (HS.out.step hb2)
        have Hb2 := Lib.hid hb2
        have HW2 : Hid (w2.cell? ⟨gw, 1, none⟩ = some (.slice (some ⟨gc, 0, none⟩) n cc)) := Lib.hid (by
          rw [S2.out.bw.cell]
          show some y.vc = _
          rw [Hyc.out.1])
        have HC2 := Lib.hid (cell_below hb2 hcc)
        have Hw2 := Lib.hid hw2.symm
        have Hgf := Lib.hid hgf.symm
        have Hsc := Lib.hid hsc
        clear hw2 hgf hb2 hcc hsc hfz hsl8
        go_wp2_with fail
        rw [Hw2.out, Hgf.out]
        have q1 := fun p : BelowBy w2 => BelowBy.cell HW2.out p
        have q2 := pcell S2.out.bx 0 _ rfl
        have q3 := fun p : BelowBy w2 => BelowBy.cell HC2.out p
        have q4 := pcell HF2.out 2 _ rfl
        have hmax := fun (ts : Array TypeId) (ty : TypeId) (W : World) => run_max2 (P := Tryz.prog) ts ty cur s1 W
        go_wp2_with fail
        refine wp_region_below_tail 18 (by kernel_rfl) (by kernel_rfl) ?_
        simp only [List.take_succ_cons, List.take_zero, List.drop_succ_cons, List.drop_zero]
        repeat (quiet_step (fail))
        refine wpQuiet_nil ?_
        intro w3 hq
        have hb3 : Below w2.heap.size w2 w3 := by obtain ⟨p, hp⟩ := hq; rw [hp]; exact p.h
        have S3 := Lib.hid (S2.out.step hb3)
        have hC3 := cell_below hb3 HC2.out
        have hf3 := Hfz.out w3 (Hb2.out.trans (hb3.mono Hb2.out.size))
        have S4 : Hid (StB w w0 (w3.setCell ⟨gc, t, none⟩ (.int .i64 (max cur s1))) gw { y with clock := y.clock.set t nxt } gx 54 #[.int .i64 (t : Int), .slice (some ⟨b, o, none⟩) nm cm]) := Lib.hid (by
          rw [← HT.out]
          have ho := S3.out.own
          have hgc : w0.heap.size ≤ gc := by have := own_keep Hsc.out Hb2.out; exact (own_blk this).1
          have h4 := OwnW.setClock (k := t) ho (n := n) (c := cc) (g := gc) Hyc.out.1 (by show (y.clock.set t cur).length = n; rw [List.length_set]; exact Hyc.out.2.2.2) nxt (wf_mk HTb.out.1 HTb.out.2)
          dsimp only at h4
          rw [List.set_set] at h4
          exact ⟨S3.out.below.setCell (show w0.heap.size ≤ (⟨gc, t, none⟩ : Addr).block from hgc) _, S3.out.bw.far (p := ⟨gc, t, none⟩) (Ne.symm hcw) _, S3.out.bx.far (p := ⟨gc, t, none⟩) hxc _, h4, S3.out.kr.own (own_keep Hsc.out (Hb2.out.trans (hb3.mono Hb2.out.size))) (by decide) _ _⟩)
        clear hq hb3 q1 q2 q3 q4 hmax HS S2 HC2 HW2 HF2 S3 Hfz Hsc
        go_wp2_with fail
        go_roundw
        case rel => exact ⟨j + 1, by omega, by go_num, by rw [← Hnxt.out]; exact S4.out⟩
        case measure => simp [intOf]; omega
      · obtain rfl : j = nm := by omega
        have hall : fm.take j = fm := List.take_of_length_le (by rw [← HfL.out]; exact Nat.le_refl _)
        rw [hall] at HS
        obtain ⟨mx, hmx⟩ : ∃ mx, mx = maxStamp c (flOf fm) := ⟨_, rfl⟩
        rw [← hmx] at HS HU
        have hB := HS.out.bw
        dsimp only at hB
        rw [Hyt.out.1] at hB
        have bw2 := (blk3 hB).2.2
        have HB := Lib.hid hB
        have hkl : k < y.net.length := by rw [Hyt.out.2.1]; exact hkq
        obtain ⟨qm, hqm⟩ : ∃ qm, q = qm + 1 := ⟨q - 1, by omega⟩
        have HD := Lib.hid (delete_msgs w0.heap.size q qm ct gt k y.net wr (by have := HS.out.own.net; dsimp only at this; rw [Hyt.out.1, Hyt.out.2.1] at this; exact this) Hyt.out.2.1 hkq (by omega) hqm HS.out.below.size)
        have Hqm := Lib.hid hqm
        have Hkl := Lib.hid hkl
        clear hall hmx hB hqm hkl
        go_wp2_with fail
        refine (HD.out).mono ?_
        rintro e w5 ⟨rfl, ho5, hk5⟩
        have HB5 := Lib.hid (hk5.blk HB.out (by decide))
        have HBw5 := Lib.hid (hk5.blk HS.out.bw (by decide))
        have HO5 := Lib.hid (OwnW.erase HS.out.own hk5 k (v := .slice (some ⟨gt, 0, none⟩) qm ct) (by
          show w5.ownsRow _ _ 2 _ (y.net.eraseIdx k).length ((y.net.eraseIdx k).flatMap mC)
          rw [List.length_eraseIdx_of_lt Hkl.out, Hyt.out.2.1, show q - 1 = qm by have := Hqm.out; omega]
          exact ho5))
        have HO6 := Lib.hid (HO5.out.set_ HBw5.out (by decide) (by decide) (by decide) (by decide) (by decide) 2 (.slice (some ⟨gt, 0, none⟩) qm ct))
        have HB6 := Lib.hid (HBw5.out.set_ 2 (.slice (some ⟨gt, 0, none⟩) qm ct))
        have Hb6 := Lib.hid ((HS.out.below.trans hk5.below).setCell (show w0.heap.size ≤ (⟨gw, 2, none⟩ : Addr).block from hgw) (.slice (some ⟨gt, 0, none⟩) qm ct))
        have Hk6 := Lib.hid ((HS.out.kr.keeps hk5).self 2 (.slice (some ⟨gt, 0, none⟩) qm ct))
        obtain ⟨d0, d1, d2⟩ := blk3 HB5.out
        have f2 := HB5.out.frozen 2
        clear ho5 hk5 HD bw2
        go_wp2_with fail
        go_ret
        rw [HU.out]
        refine ⟨rfl, Hb6.out, fun _ => ⟨{ y with clock := y.clock.set t mx, vt := .slice (some ⟨gt, 0, none⟩) qm ct, net := y.net.eraseIdx k }, ?_, HB6.out, HO6.out⟩, Hk6.out⟩
        rw [Hy.out]
        simp only [Wx.wd, List.map_set, map_erase]
        rw [show flOf l9 = l9.map Prod.fst from rfl, Hl9.out]
end Go.Proofs.YtdoegpklephelaaGreatDoor.Worlds
