/- package world: a copy in memory of one's own. -/
import Derived.Test.YtdoegpklephelaaDoorWorldChk
import Derived.Test.YtdoegpklephelaaDoorMergeBoth
import Derived.Test.YtdoegpklephelaaDoorCloneI
import Derived.Deep.RegionHeld3
import Derived.Deep.AppendLies
import Derived.Deep.DrawnRows
namespace Go.Proofs.YtdoegpklephelaaDoor.Worlds
open Go Go.RowKit Go.Proofs.YtdoegpklephelaaDoor Go.Proofs.YtdoegpklephelaaDoor.Name Go.Proofs.YtdoegpklephelaaDoor.Merge
set_option linter.unusedVariables false

theorem tyN : SliceTy Tryd.prog 42 22 (.slice none 0 0) 1 24 := ⟨Tryd.underlying42, by kernel_rfl, rfl, by omega⟩
theorem tyM : SliceTy Tryd.prog 44 95 (.agg #[.int .i64 0, .slice none 0 0]) 2 32 := ⟨Tryd.underlying44, by kernel_rfl, rfl, by omega⟩
theorem OwnW.none_ (w : World) (base : Nat) : OwnW w base ⟨.slice none 0 0, [], .slice none 0 0, [], .slice none 0 0, []⟩ :=
  ⟨World.ownsRow_nil .., by simp, World.ownsRow_nil .., by simp, World.ownsRow_nil .., by simp⟩
/-- one more node, one more message -/
theorem OwnW.addNode {w w' : World} {base : Nat} {x : Wx} (h : OwnW w base x) (s : Sl3) (l : List Fx) (hl : OwnFs w base (slv s) l) {v' : Value} (ho : w'.ownsRow base 22 1 v' (x.nodes.length + 1) (x.nodes.flatMap nC ++ [slv s])) (hg : w.grownBy w' x.vn.ownBlock) (hb : base ≤ w.heap.size) :
    OwnW w' base { x with vn := v', nodes := x.nodes ++ [(s, l)] } := by
  have hk : Keeps base [22] w w' := (Keeps.refl base _ w).grown h.nodes hg (by simp) hb
  refine ⟨?_, ?_, hk.own h.clock (by decide), h.clk, hk.own h.net (by decide), fun m hm => ⟨(h.ms m hm).1, (h.ms m hm).2.keeps hk (by decide) (by decide)⟩⟩
  · simp only [List.length_append, List.length_cons, List.length_nil, List.flatMap_append, Nat.zero_add]
    exact ho
  · intro n hn
    rcases List.mem_append.1 hn with hn | hn
    · exact (h.node n hn).keeps hk (by decide) (by decide)
    · rw [List.mem_singleton.1 hn]; exact hl.keeps hk (by decide) (by decide)
theorem OwnW.addMsg {w w' : World} {base : Nat} {x : Wx} (h : OwnW w base x) (t : Int) (ht : wfI t) (s : Sl3) (l : List Fx) (hl : OwnFs w base (slv s) l) {v' : Value} (ho : w'.ownsRow base 95 2 v' (x.net.length + 1) (x.net.flatMap mC ++ [.int .i64 t, slv s])) (hg : w.grownBy w' x.vt.ownBlock) (hb : base ≤ w.heap.size) :
    OwnW w' base { x with vt := v', net := x.net ++ [(t, s, l)] } := by
  have hk : Keeps base [95] w w' := (Keeps.refl base _ w).grown h.net hg (by simp) hb
  refine ⟨hk.own h.nodes (by decide), fun n hn => (h.node n hn).keeps hk (by decide) (by decide), hk.own h.clock (by decide), h.clk, ?_, ?_⟩
  · simp only [List.length_append, List.length_cons, List.length_nil, List.flatMap_append, Nat.zero_add]
    exact ho
  · intro m hm
    rcases List.mem_append.1 hm with hm | hm
    · exact ⟨(h.ms m hm).1, (h.ms m hm).2.keeps hk (by decide) (by decide)⟩
    · rw [List.mem_singleton.1 hm]; exact ⟨ht, hl.keeps hk (by decide) (by decide)⟩
theorem OwnW.drew {w : World} {base : Nat} {x : Wx} (h : OwnW w base x) : OwnW w.drew base x := h.below (Below.refl _ _).drew
theorem files_small {l : List Fx} (h : chkF (flOf l) = 0) : l.length ≤ 1000000 ∧ ∀ x ∈ l, x.1.bytes.length ≤ 1000000 := by
  rw [chkF_ok] at h
  refine ⟨by have := h.1; unfold flOf at this; rw [List.length_map] at this; omega, fun x hx => ?_⟩
  have := (fileE_ok.1 (h.2.1 x.1 (List.mem_map_of_mem hx))).2.1
  omega
theorem nodes_small {x : Wx} (h : WOk x.wd) : ∀ n ∈ x.nodes, chkF (flOf n.2) = 0 := by
  intro n hn
  obtain ⟨i, hi, rfl⟩ := List.getElem_of_mem hn
  have hc : i < x.clock.length := by
    have := h.clock
    simp only [Wx.wd, List.length_map] at this
    omega
  exact (h.node i (flOf x.nodes[i].2) x.clock[i] (by simp only [Wx.wd]; rw [List.getElem?_map, List.getElem?_eq_getElem hi]; rfl) (by simp only [Wx.wd]; rw [List.getElem?_eq_getElem hc])).1
theorem net_small {x : Wx} (h : WOk x.wd) : ∀ m ∈ x.net, chkF (flOf m.2.2) = 0 := fun m hm => (h.ms (msOf m) (by simp only [Wx.wd]; exact List.mem_map_of_mem hm)).1
theorem ints_one (l : List Int) : ∀ u ∈ l.flatMap intC, u.oneCell' = true := by
  intro u hu
  obtain ⟨x, _, hx⟩ := List.mem_flatMap.1 hu
  simp [intC] at hx
  subst hx; rfl
theorem cCs_len (l : List Int) : (l.flatMap intC).length = l.length * 1 := by rw [cCs, List.length_map]; omega
def WorldPost (d : Wd) (w : World) (e : Ending) (w' : World) : Prop :=
  ∃ y : Wx, e = .returned (wV y) ∧ OwnW w' w.heap.size y ∧ y.wd = d ∧ Below w.heap.size w w'
set_option maxRecDepth 100000 in
set_option maxHeartbeats 4000000 in
theorem copied_any (x : Wx) (w : World) (h : IsWorld w x) (hw : WOk x.wd) :
    Calls Tryd.prog 58 #[wV x] w (WorldPost x.wd w) := by
  obtain ⟨hN, hC, hT⟩ := h
  have hns := nodes_small hw
  have hms := net_small hw
  have hfew := hw.few
  have hclk := hw.clock
  have hnet := hw.net
  obtain ⟨D, hD⟩ : ∃ D, D = x.wd := ⟨_, rfl⟩
  rw [← hD]
  simp only [Wx.wd, List.length_map] at hfew hclk hnet hD
  obtain ⟨vn, nodes, vc, clock, vt, net⟩ := x
  dsimp only at hN hC hT hns hms hfew hclk hnet hD
  obtain ⟨An, cn, rfl, n1, n2, n3, n4, n5⟩ := hN
  obtain ⟨Ac, cc, rfl, c1, c2, c3, c4, c5⟩ := hC
  obtain ⟨At, ct, rfl, t1, t2, t3, t4, t5⟩ := hT
  have HN3 := Lib.hid n3
  have HN5 := Lib.hid n5
  have HC5 := Lib.hid c5
  have HT3 := Lib.hid t3
  have HT5 := Lib.hid t5
  have HD := Lib.hid hD
  have HNS := Lib.hid hns
  have HMS := Lib.hid hms
  have HCl := Lib.hid (fun w' (hb : Below w.heap.size w w') => CloneI.clone_any Ac clock.length cc (clock.flatMap intC) w' (cCs_len clock) (c3.below hb) (fun e => by rw [c4 e]; rfl) (ints_one clock) (by unfold maxLen; omega) (by omega))
  unfold wV
  dsimp only
  obtain ⟨n, hn⟩ : ∃ n, n = nodes.length := ⟨_, rfl⟩
  obtain ⟨m, hm'⟩ : ∃ m, m = clock.length := ⟨_, rfl⟩
  obtain ⟨q, hq⟩ : ∃ q, q = net.length := ⟨_, rfl⟩
  rw [← hn] at hfew ⊢
  rw [← hm'] at HCl ⊢
  rw [← hq] at hnet ⊢
  have Hn := Lib.hid hn
  have Hm := Lib.hid hm'
  have Hq := Lib.hid hq
  clear hn hm' hq hns hms hclk hD hw n1 n2 n3 n4 n5 c1 c2 c3 c4 c5 t1 t2 t3 t4 t5
  obtain ⟨w1, hw1⟩ : ∃ w1, w1 = ((w.alloc (.cells #[.slice An n cn, .slice Ac m cc, .slice At q ct] 46)).alloc (.cells #[.slice none 0 0, .slice none 0 0, .slice none 0 0] 46)).alloc (.cells #[.slice none 0 0, .slice none 0 0, .slice none 0 0] 46) := ⟨_, rfl⟩
  have hs1 : w1.heap.size = w.heap.size + 3 := by rw [hw1]; simp
  have B1 : Blk w1 w.heap.size 46 #[.slice An n cn, .slice Ac m cc, .slice At q ct] := by rw [hw1]; exact ((Blk.new _ _ _).alloc _).alloc _
  have B2 : Blk w1 (w.heap.size + 1) 46 #[.slice none 0 0, .slice none 0 0, .slice none 0 0] := by
    rw [hw1]
    have := (Blk.new (w.alloc (.cells #[.slice An n cn, .slice Ac m cc, .slice At q ct] 46)) 46 #[.slice none 0 0, .slice none 0 0, .slice none 0 0]).alloc (.cells #[.slice none 0 0, .slice none 0 0, .slice none 0 0] 46)
    simpa using this
  have B3 : Blk w1 (w.heap.size + 2) 46 #[.slice none 0 0, .slice none 0 0, .slice none 0 0] := by
    rw [hw1]
    have := Blk.new ((w.alloc (.cells #[.slice An n cn, .slice Ac m cc, .slice At q ct] 46)).alloc (.cells #[.slice none 0 0, .slice none 0 0, .slice none 0 0] 46)) 46 #[.slice none 0 0, .slice none 0 0, .slice none 0 0]
    simpa using this
  have hb1 : Below w.heap.size w w1 := by rw [hw1]; exact (((Below.refl _ _).alloc (Nat.le_refl _) _).alloc (by simp) _).alloc (by simp; omega) _
  obtain ⟨B, hB⟩ : ∃ B, B = w.heap.size := ⟨_, rfl⟩
  obtain ⟨g3, hg3⟩ : ∃ g, g = B + 2 := ⟨_, rfl⟩
  have Hg3 := Lib.hid hg3
  have HBs := Lib.hid hB
  rw [← hB] at B1 B2 B3 hs1
  rw [← hg3] at B3
  have HB1 := Lib.hid B1
  have HB2 := Lib.hid B2
  have HB3 := Lib.hid B3
  have Hb1 := Lib.hid hb1
  have Hs1 := Lib.hid hs1
  have Hw1 := Lib.hid hw1.symm
  clear B1 B2 B3 hb1 hw1 hg3 hB hs1
  unfold WorldPost
  go_enter Tryd.func58, Tryd.ntmps58
  go_wp2_with fail
  rw [Hw1.out, ← HBs.out, ← Hg3.out]
  have hB3 := HB3.out
  have hg3 := Hg3.out
  have hs1 := Hs1.out
  go_loopw [11] (fun vi wr => ∃ (k : Nat) (done : List Nx) (vN : Value), k ≤ n ∧ vi = .int .i64 (k : Int) ∧ Blk wr g3 46 #[vN, .slice none 0 0, .slice none 0 0] ∧ OwnW wr g3 ⟨vN, done, .slice none 0 0, [], .slice none 0 0, []⟩ ∧ done.length = k ∧ done.map (fun x => flOf x.2) = (nodes.take k).map (fun x => flOf x.2) ∧ Below g3 w1 wr) (fun vi _ => n - (intOf vi).toNat)
  case atStart => exact ⟨0, [], _, Nat.zero_le _, rfl, hB3, OwnW.none_ _ _, rfl, rfl, Below.refl _ _⟩
  case round =>
    obtain ⟨k, done, vN, hk, rfl, hblk, hown, hdl, hdm, hb⟩ := hrel
    have Hblk := Lib.hid hblk
    have Hown := Lib.hid hown
    have hdle : done.length ≤ 4 := by omega
    have Hdl := Lib.hid hdl
    have Hdm := Lib.hid hdm
    have Hb := Lib.hid hb
    have Hbw := Lib.hid (Hb1.out.trans (hb.mono (by have := HBs.out; omega)))
    have Hsz : Hid (g3 < wr.heap.size) := Lib.hid hblk.lt
    have HX1 := Lib.hid ((HB1.out.below Hb.out (show B < g3 by omega)))
    have HX2 := Lib.hid ((HB2.out.below Hb.out (show B + 1 < g3 by omega)))
    clear hblk hown hdl hdm hb hB3 hs1 hg3
    by_cases hlt : k < n
    · have hkn : k < nodes.length := by rw [← Hn.out]; exact hlt
      obtain ⟨b, o, rfl, nc⟩ := node_cell (HN3.out.below Hbw.out) hkn
      have HND := Lib.hid ((HN5.out nodes[k] (List.getElem_mem hkn)).below Hbw.out)
      have HSm := Lib.hid (files_small (HNS.out nodes[k] (List.getElem_mem hkn)))
      have Hst : Hid ((nodes.take (k + 1)).map (fun x => flOf x.2) = (nodes.take k).map (fun x => flOf x.2) ++ [flOf nodes[k].2]) := Lib.hid (by rw [take_snoc _ _ hkn, List.map_append]; rfl)
      generalize nodes[k] = nd at *
      obtain ⟨⟨A', n', c'⟩, fl⟩ := nd
      unfold NodeAt at HND
      simp only [slv] at nc HND
      have HCo := Lib.hid (fun w' (hb : Below wr.heap.size wr w') => copy_any (.slice A' n' c') fl w' (IsFiles.below HND.out hb) HSm.out.1 HSm.out.2)
      clear HND HSm
      obtain ⟨bx0, _, _⟩ := blk3 HX1.out
      obtain ⟨cx0, _, _⟩ := blk3 Hblk.out
      go_wp2_with fail
      go_region_law ((first
        | (refine step_app rfl (.tmp 16) (.tmp 19) _ rfl g3 22 _ 1 24 tyN vN done.length (done.flatMap nC) (by simp [Act.eval]) HX7.out.nodes (some ⟨w5.heap.size, 0, none⟩) 1 1 [.slice A5 ln5 c5] (by simp [Act.eval]) rfl Hs7.out (by simp [Value.oneCell']) (by simp) (by unfold maxLen; omega) (by omega) Hbs7.out ?_
           intro v8 w8 hown8 hg8
           obtain ⟨A8, d8, rfl, _⟩ := own_slat hown8
           have Ho8 := Lib.hid hown8
           have Hg8 := Lib.hid hg8
           have HB8 := Lib.hid (HB7.out.grown hg8 (own_ne HX7.out.nodes HB7.out (by decide)))
           have c8 := (blk3 HB8.out).1
           have f8 := HB8.out.frozen 0
           clear hown8 hg8)
        | (go_simp
           go_at_call 43
           refine (HCo.out _ (Below.refl _ _).drew).mono ?_
           rintro e w5 ⟨v5, l5, rfl, ho5, he5, hb5⟩
           have hb5' : Below wr.heap.size wr w5 := (Below.refl wr.heap.size wr).drew.trans hb5
           obtain ⟨A5, c5, rfl, _⟩ := own_slat ho5.row
           obtain ⟨ln5, hln5⟩ : ∃ ln5, ln5 = l5.length := ⟨_, rfl⟩
           rw [← hln5] at ho5 ⊢
           have HL5 := Lib.hid hln5
           have He5 := Lib.hid he5
           have hbA : Below w5.heap.size w5 (w5.alloc (.cells #[.slice A5 ln5 c5] 22)) := (Below.refl _ _).alloc (Nat.le_refl _) _
           have HX7 := Lib.hid ((Hown.out.below hb5').below hbA)
           have HS7 : Hid (OwnFs (w5.alloc (.cells #[.slice A5 ln5 c5] 22)) g3 (slv (A5, ln5, c5)) l5) := Lib.hid ((ho5.base_ (show g3 ≤ wr.heap.size from Nat.le_of_lt Hsz.out)).below hbA)
           have HB7 := Lib.hid ((Hblk.out.below hb5' Hblk.out.lt).below hbA (show g3 < w5.heap.size by have := hb5'.size; have := Hsz.out; omega))
           have Hs7 : Hid (SlAt (w5.alloc (.cells #[.slice A5 ln5 c5] 22)) (some ⟨w5.heap.size, 0, none⟩) [.slice A5 ln5 c5]) := Lib.hid (SlAt.of_heap (heap_alloc_new _ _) rfl)
           have Hb7 := Lib.hid (Hb.out.trans ((hb5'.trans (hbA.mono hb5'.size)).mono (show g3 ≤ wr.heap.size from Nat.le_of_lt Hsz.out)))
           have Hbs7 : Hid (g3 ≤ (w5.alloc (.cells #[.slice A5 ln5 c5] 22)).heap.size) := Lib.hid (by have := HB7.out.lt; omega)
           have c5x := cell_below hb5' cx0
           have hz5 : g3 < w5.heap.size := by have := hb5'.size; have := Hsz.out; omega
           clear hb5 hb5' ho5 he5 hbA hln5)))
      all_goals (
        have Hb8 := Lib.hid (own_below HX7.out.nodes Hg8.out Hb7.out Hbs7.out)
        have HX8 := Lib.hid (HX7.out.addNode (A5, ln5, c5) l5 HS7.out Ho8.out Hg8.out Hbs7.out)
        have HX9 := Lib.hid (HX8.out.set_ HB8.out (by decide) (by decide) (by decide) (by decide) (by decide) 0 (.slice A8 (done.length + 1) d8))
        have HB9 := Lib.hid (HB8.out.set_ 0 (.slice A8 (done.length + 1) d8))
        have Hb9 := Lib.hid (Hb8.out.setCell (show g3 ≤ (⟨g3, 0, none⟩ : Addr).block from Nat.le_refl _) (.slice A8 (done.length + 1) d8))
        clear HX7 HS7 HB7 Hs7 Hb7 Hbs7 HX8 HB8 Hb8 Ho8 Hg8
        go_wp2_with fail
        go_roundw
        case rel => exact ⟨k + 1, done ++ [((A5, ln5, c5), l5)], _, by omega, by go_num, HB9.out, HX9.out, by rw [List.length_append, Hdl.out]; rfl, by rw [List.map_append, Hdm.out, Hst.out]; exact congrArg (fun t => _ ++ [t]) He5.out, Hb9.out⟩
        case measure => simp [intOf]; omega)
    · obtain rfl : k = n := by omega
      have HNd : Hid (done.map (fun x => flOf x.2) = nodes.map (fun x => flOf x.2)) := Lib.hid (by rw [Hdm.out, List.take_of_length_le (by rw [← Hn.out]; exact Nat.le_refl _)])
      have Hown' := Hown
      have Hblk' := Hblk
      have Hb' := Hb
      clear Hown Hblk Hb Hdm Hdl HN3 HN5 HNS Hsz Hbw HX1 HX2 Hn
      obtain ⟨bx0, bx1, bx2⟩ := blk3 (HB1.out.below Hb'.out (show B < g3 by have := Hg3.out; omega))
      go_wp2_with fail
      go_loopw [26] (fun vi wr => ∃ (j : Nat) (doneM : List Mx) (vT : Value), j ≤ q ∧ vi = .int .i64 (j : Int) ∧ Blk wr g3 46 #[vN, .slice none 0 0, vT] ∧ OwnW wr g3 ⟨vN, done, .slice none 0 0, [], vT, doneM⟩ ∧ doneM.length = j ∧ doneM.map msOf = (net.take j).map msOf ∧ Below g3 w1 wr) (fun vi _ => q - (intOf vi).toNat)
      case atStart => exact ⟨0, [], _, Nat.zero_le _, rfl, Hblk'.out, Hown'.out, rfl, rfl, Hb'.out⟩
      case round =>
        obtain ⟨j, doneM, vT, hj, rfl, hblk, hown, hdl, hdm, hb⟩ := hrel
        have hdle2 : doneM.length ≤ 20 := by omega
        have Hblk := Lib.hid hblk
        have Hown := Lib.hid hown
        have Hdl := Lib.hid hdl
        have Hdm := Lib.hid hdm
        have Hb := Lib.hid hb
        have Hbw := Lib.hid (Hb1.out.trans (hb.mono (by have := HBs.out; have := Hg3.out; omega)))
        have Hsz := Lib.hid hblk.lt
        have HX1 := Lib.hid ((HB1.out.below Hb.out (show B < g3 by have := Hg3.out; omega)))
        have HX2 := Lib.hid ((HB2.out.below Hb.out (show B + 1 < g3 by have := Hg3.out; omega)))
        clear hblk hown hdl hdm hb bx0 bx1 bx2
        by_cases hlt : j < q
        · have hjn : j < net.length := by rw [← Hq.out]; exact hlt
          obtain ⟨b, o, rfl, mc0, mc1⟩ := msg_cell (HT3.out.below Hbw.out) hjn
          have HND := Lib.hid ((HT5.out net[j] (List.getElem_mem hjn)).below Hbw.out)
          have HSm := Lib.hid (files_small (HMS.out net[j] (List.getElem_mem hjn)))
          have Hst : Hid ((net.take (j + 1)).map msOf = (net.take j).map msOf ++ [msOf net[j]]) := Lib.hid (by rw [take_snoc _ _ hjn, List.map_append]; rfl)
          generalize net[j] = nd at *
          obtain ⟨t, ⟨A', n', c'⟩, fl⟩ := nd
          simp only [slv] at mc0 mc1
          obtain ⟨w2, hw2⟩ : ∃ w2, w2 = wr.alloc (.cells #[.int .i64 t, .slice A' n' c'] 95) := ⟨_, rfl⟩
          have hb2 : Below wr.heap.size wr w2 := by rw [hw2]; exact (Below.refl _ _).alloc (Nat.le_refl _) _
          obtain ⟨gm, hgm⟩ : ∃ gm, gm = wr.heap.size := ⟨_, rfl⟩
          have HBm := Lib.hid (show Blk w2 gm 95 #[.int .i64 t, .slice A' n' c'] by rw [hw2, hgm]; exact Blk.new _ _ _)
          have HTi := Lib.hid HND.out.1
          have HCo := Lib.hid (fun w' (hb : Below w2.heap.size w2 w') => copy_any (.slice A' n' c') fl w' (IsFiles.below (IsFiles.below HND.out.2 hb2) hb) HSm.out.1 HSm.out.2)
          have HX2' := Lib.hid (HX2.out.below hb2 HX2.out.lt)
          have Hblk2 := Lib.hid (Hblk.out.below hb2 Hblk.out.lt)
          have Hown2 := Lib.hid (Hown.out.below hb2)
          have Hb2 := Lib.hid (Hb.out.trans (hb2.mono (Nat.le_of_lt Hsz.out)))
          have Hsz2 : Hid (g3 < w2.heap.size) := Lib.hid Hblk2.out.lt
          have Hgm : Hid (gm ≠ g3) := Lib.hid (by have := Hsz.out; omega)
          have Hwq : Hid (wr.alloc (.cells #[.int .i64 t, .slice A' n' c'] 95) = w2) := Lib.hid hw2.symm
          have Hgq : Hid (wr.heap.size = gm) := Lib.hid hgm.symm
          clear HND HSm hw2 hb2 hgm Hblk Hown Hb Hbw
          obtain ⟨bx0, bx1, bx2⟩ := blk3 HX1.out
          go_wp2_with fail
          rw [Hwq.out, Hgq.out]
          obtain ⟨cx0, cx1, cx2⟩ := blk3 Hblk2.out
          have dx0 := HBm.out.c0
          have dx1 := HBm.out.c1
          go_wp2_with fail
          go_region_law ((first
            | (refine step_app rfl (.tmp 31) (.tmp 38) _ rfl g3 95 _ 2 32 tyM vT doneM.length (doneM.flatMap mC) (by simp [Act.eval]) HX7.out.net (some ⟨w5.heap.size, 0, none⟩) 1 1 [.int .i64 t, .slice A5 ln5 c5] (by simp [Act.eval]) rfl Hs7.out (by simp [Value.oneCell']) (by simp) (by unfold maxLen; omega) (by omega) Hbs7.out ?_
               intro v8 w8 hown8 hg8
               obtain ⟨A8, d8, rfl, _⟩ := own_slat hown8
               have Ho8 := Lib.hid hown8
               have Hg8 := Lib.hid hg8
               have HB8 := Lib.hid (HB7.out.grown hg8 (own_ne HX7.out.net HB7.out (by decide)))
               have c8 := (blk3 HB8.out).2.2
               have f8 := HB8.out.frozen 2
               clear hown8 hg8)
            | (go_simp
               go_at_call 43
               refine (HCo.out _ (Below.refl _ _).drew).mono ?_
               rintro e w5 ⟨v5, l5, rfl, ho5, he5, hb5⟩
               have hb5' : Below w2.heap.size w2 w5 := (Below.refl w2.heap.size w2).drew.trans hb5
               obtain ⟨A5, c5, rfl, _⟩ := own_slat ho5.row
               obtain ⟨ln5, hln5⟩ : ∃ ln5, ln5 = l5.length := ⟨_, rfl⟩
               rw [← hln5] at ho5 ⊢
               have HL5 := Lib.hid hln5
               have He5 := Lib.hid he5
               have hbA : Below w5.heap.size w5 (w5.alloc (.cells #[.int .i64 t, .slice A5 ln5 c5] 95)) := (Below.refl _ _).alloc (Nat.le_refl _) _
               have HX7 := Lib.hid ((Hown2.out.below hb5').below hbA)
               have HS7 : Hid (OwnFs (w5.alloc (.cells #[.int .i64 t, .slice A5 ln5 c5] 95)) g3 (slv (A5, ln5, c5)) l5) := Lib.hid ((ho5.base_ (show g3 ≤ w2.heap.size from Nat.le_of_lt Hsz2.out)).below hbA)
               have HB7 := Lib.hid ((Hblk2.out.below hb5' Hblk2.out.lt).below hbA (show g3 < w5.heap.size by have := hb5'.size; have := Hsz2.out; omega))
               have Hs7 : Hid (SlAt (w5.alloc (.cells #[.int .i64 t, .slice A5 ln5 c5] 95)) (some ⟨w5.heap.size, 0, none⟩) [.int .i64 t, .slice A5 ln5 c5]) := Lib.hid (SlAt.of_heap (heap_alloc_new _ _) rfl)
               have Hb7 := Lib.hid (Hb2.out.trans ((hb5'.trans (hbA.mono hb5'.size)).mono (show g3 ≤ w2.heap.size from Nat.le_of_lt Hsz2.out)))
               have Hbs7 : Hid (g3 ≤ (w5.alloc (.cells #[.int .i64 t, .slice A5 ln5 c5] 95)).heap.size) := Lib.hid (by have := HB7.out.lt; omega)
               have c5x := cell_below hb5' cx2
               have e5x := cell_below hb5' dx0
               have hz5 : g3 < w5.heap.size := by have := hb5'.size; have := Hsz2.out; omega
               clear hb5 hb5' ho5 he5 hbA hln5)))
          all_goals (
            have Hb8 := Lib.hid (own_below HX7.out.net Hg8.out Hb7.out Hbs7.out)
            have HX8 := Lib.hid (HX7.out.addMsg t HTi.out (A5, ln5, c5) l5 HS7.out Ho8.out Hg8.out Hbs7.out)
            have HX9 := Lib.hid (HX8.out.set_ HB8.out (by decide) (by decide) (by decide) (by decide) (by decide) 2 (.slice A8 (doneM.length + 1) d8))
            have HB9 := Lib.hid (HB8.out.set_ 2 (.slice A8 (doneM.length + 1) d8))
            have Hb9 := Lib.hid (Hb8.out.setCell (show g3 ≤ (⟨g3, 2, none⟩ : Addr).block from Nat.le_refl _) (.slice A8 (doneM.length + 1) d8))
            clear HX7 HS7 HB7 Hs7 Hb7 Hbs7 HX8 HB8 Hb8 Ho8 Hg8
            go_wp2_with fail
            go_roundw
            case rel => exact ⟨j + 1, doneM ++ [(t, (A5, ln5, c5), l5)], _, by omega, by go_num, HB9.out, HX9.out, by rw [List.length_append, Hdl.out]; rfl, by rw [List.map_append, Hdm.out, Hst.out]; exact congrArg (fun u => _ ++ [(⟨t, u⟩ : Ms)]) He5.out, Hb9.out⟩
            case measure => simp [intOf]; omega)
        · obtain rfl : j = q := by omega
          have HNt : Hid (doneM.map msOf = net.map msOf) := Lib.hid (by rw [Hdm.out, List.take_of_length_le (by rw [← Hq.out]; exact Nat.le_refl _)])
          have HCl2 := Lib.hid (HCl.out _ Hbw.out)
          obtain ⟨bx0, bx1, bx2⟩ := blk3 HX1.out
          clear HCl Hdm Hdl
          go_wp2_with fail
          refine (HCl2.out).mono ?_
          rintro e w5 ⟨v5, rfl, ho5, hb5⟩
          have HX5 := Lib.hid (Hown.out.below hb5)
          have HB5 := Lib.hid (Hblk.out.below hb5 Hblk.out.lt)
          have HR5 := Lib.hid (HX2.out.below hb5 HX2.out.lt)
          have Hb5 := Lib.hid (Hb.out.trans (hb5.mono (Nat.le_of_lt Hsz.out)))
          have Ho5 := Lib.hid (own_base ho5 (show g3 ≤ wr.heap.size from Nat.le_of_lt Hsz.out))
          obtain ⟨A5, c5, rfl, _⟩ := own_slat ho5
          obtain ⟨AN, cN, rfl⟩ : ∃ A c, vN = .slice A done.length c := by obtain ⟨A, c, h, _⟩ := own_slat HX5.out.nodes; exact ⟨A, c, h⟩
          obtain ⟨AT, cT, rfl⟩ : ∃ A c, vT = .slice A doneM.length c := by obtain ⟨A, c, h, _⟩ := own_slat HX5.out.net; exact ⟨A, c, h⟩
          have HY5 : Hid (OwnW w5 g3 ⟨.slice AN done.length cN, done, .slice A5 m c5, clock, .slice AT doneM.length cT, doneM⟩) := Lib.hid ⟨HX5.out.nodes, HX5.out.node, by rw [← Hm.out]; exact Ho5.out, HC5.out, HX5.out.net, HX5.out.ms⟩
          have HY6 := Lib.hid (HY5.out.set_ HB5.out (by decide) (by decide) (by decide) (by decide) (by decide) 1 (.slice A5 m c5))
          have HR6 := Lib.hid (HR5.out.far (p := ⟨g3, 1, none⟩) (show B + 1 ≠ g3 by have := Hg3.out; omega) (.slice A5 m c5))
          have HY7 := Lib.hid (HY6.out.set_ HR6.out (by decide) (by decide) (by decide) (by decide) (by decide) 0 (.slice AN done.length cN))
          have HR7 := Lib.hid (HR6.out.set_ 0 (.slice AN done.length cN))
          have HY8 := Lib.hid (HY7.out.set_ HR7.out (by decide) (by decide) (by decide) (by decide) (by decide) 1 (.slice A5 m c5))
          have HR8 := Lib.hid (HR7.out.set_ 1 (.slice A5 m c5))
          have HY9 := Lib.hid (HY8.out.set_ HR8.out (by decide) (by decide) (by decide) (by decide) (by decide) 2 (.slice AT doneM.length cT))
          have HR9 := Lib.hid (HR8.out.set_ 2 (.slice AT doneM.length cT))
          have hwB : w.heap.size ≤ B + 1 := by have := HBs.out; omega
          have hwg : w.heap.size ≤ g3 := by have := HBs.out; have := Hg3.out; omega
          have Hb6 := Lib.hid ((((((Hb1.out.trans (Hb5.out.mono hwg)).setCell (show w.heap.size ≤ (⟨g3, 1, none⟩ : Addr).block from hwg) (.slice A5 m c5)).setCell (show w.heap.size ≤ (⟨B + 1, 0, none⟩ : Addr).block from hwB) (.slice AN done.length cN))).setCell (show w.heap.size ≤ (⟨B + 1, 1, none⟩ : Addr).block from hwB) (.slice A5 m c5)).setCell (show w.heap.size ≤ (⟨B + 1, 2, none⟩ : Addr).block from hwB) (.slice AT doneM.length cT))
          obtain ⟨d0, d1, d2⟩ := blk3 HB5.out
          have fz1 := HB5.out.frozen 1
          obtain ⟨r0, r1, r2⟩ := blk3 HR5.out
          have fr0 := HR5.out.frozen 0
          have fr1 := HR5.out.frozen 1
          have fr2 := HR5.out.frozen 2
          have hne : B + 1 ≠ g3 := by have := Hg3.out; omega
          have hne2 : g3 ≠ B + 1 := by omega
          clear hb5 ho5 HCl2
          go_wp2_with fail
          refine bodyPost_ret (results_cell_row rfl _ _ (B + 1) 46 #[.slice AN done.length cN, .slice A5 m c5, .slice AT doneM.length cT] (0, 0) _ rfl HR9.out Tryd.underlying46 rfl (by kernel_rfl)) rfl ?_
          refine ⟨⟨.slice AN done.length cN, done, .slice A5 m c5, clock, .slice AT doneM.length cT, doneM⟩, rfl, HY9.out.base_ hwg, ?_, Hb6.out⟩
          rw [HD.out]
          simp only [Wx.wd]
          rw [HNd.out, HNt.out]
end Go.Proofs.YtdoegpklephelaaDoor.Worlds
