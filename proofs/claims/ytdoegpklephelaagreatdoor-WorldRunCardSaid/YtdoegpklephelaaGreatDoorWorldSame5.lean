/- world.Copied; equality of slices of files -/
import Derived.Test.YtdoegpklephelaaGreatDoorApp
import Derived.Test.YtdoegpklephelaaGreatDoorProg
import Derived.WalkSpells
import Derived.Lib.SliceRun
import Derived.Test.YtdoegpklephelaaGreatDoorWorldChk3
import Derived.Test.YtdoegpklephelaaGreatDoorMergeBoth3
import Derived.Deep.RegionHeld3
import Derived.Deep.AppendLies
import Derived.Deep.DrawnRows
import Derived.Test.YtdoegpklephelaaGreatDoorMergeChk4
/- slices.Clone[[]int,int]. -/
namespace Go.Proofs.YtdoegpklephelaaGreatDoor.CloneI
open Go Go.RowKit Go.Proofs.YtdoegpklephelaaGreatDoor
set_option linter.unusedVariables false

theorem ty : SliceTy Tryz.prog 23 3 (.int .i64 0) 1 8 := ⟨Tryz.underlying23, by kernel_rfl, rfl, by omega⟩
set_option maxRecDepth 100000 in
set_option maxHeartbeats 400000 in
/-- a copy, in memory of its own -/
theorem clone_any (A : Option Addr) (n c : Nat) (cs : List Value) (w : World) (hl : cs.length = n * 1) (hA : SlAt w A cs) (h0 : A = none → n = 0) (h1 : ∀ u ∈ cs, u.oneCell' = true) (hn : n ≤ maxLen) (hb : n * 8 ≤ 140737488355328) :
    Calls Tryz.prog 40 #[.slice A n c] w fun e w' => ∃ v, e = .returned v ∧ w'.ownsRow w.heap.size 3 1 v n cs ∧ Below w.heap.size w w' := by
  have hq := fun (w : World) (a : Option Addr) (l c : Nat) => Lib.run_eql_slice_nil (P := Tryz.prog) w 23 3 a l c 0 0 Tryz.underlying23
  rcases A with _ | ad
  · obtain rfl := h0 rfl
    have hcs : cs = [] := List.eq_nil_of_length_eq_zero (by omega)
    subst hcs
    clear hA h0 h1 hl hn hb
    go_enter Tryz.func40, Tryz.ntmps40
    go_wp2_with fail
    go_ret
    exact ⟨_, rfl, World.ownsRow_nil _ _ _ _, Below.refl _ _⟩
  · have Hown : Hid ((w.alloc (.cells #[] 3)).ownsRow w.heap.size 3 1 (.slice (some ⟨w.heap.size, 0, none⟩) 0 0) 0 []) := Lib.hid (own_zero _ _ _ _ w.heap.size 0 #[] (Nat.le_refl _) (heap_alloc_new w _) (by unfold maxLen; omega) (by simp))
    have Hsl := Lib.hid (hA.alloc (.cells #[] 3))
    have Hb := Lib.hid ((Below.refl w.heap.size w).alloc (Nat.le_refl _) (.cells #[] 3))
    have Hl := Lib.hid hl
    have H1 := Lib.hid h1
    have Hn : Hid (0 + n ≤ maxLen) := Lib.hid (by omega)
    have Hy : Hid ((0 + n) * 8 ≤ 140737488355328) := Lib.hid (by omega)
    clear hA h0 h1 hl hn hb
    go_enter Tryz.func40, Tryz.ntmps40
    go_wp2_with (at_builtin; refine wpList_app _ rfl (.tmp 5) (.tmp 6) _ rfl w.heap.size 3 _ 1 8 ty _ 0 [] rfl Hown.out (some ad) n c cs rfl Hl.out Hsl.out H1.out (by simp) Hn.out Hy.out Hb.out.size ?_; intro v2 w2 hown2 hg2 _; rw [List.nil_append, Nat.zero_add] at hown2; have Ho2 := Lib.hid hown2; have Hb2 := Lib.hid (own_below Hown.out hg2 Hb.out Hb.out.size); clear hown2 hg2)
    go_ret
    exact ⟨_, rfl, Ho2.out, Hb2.out⟩
end Go.Proofs.YtdoegpklephelaaGreatDoor.CloneI

/- package world: a copy in memory of one's own. -/
namespace Go.Proofs.YtdoegpklephelaaGreatDoor.Worlds
open Go Go.RowKit Go.Proofs.YtdoegpklephelaaGreatDoor Go.Proofs.YtdoegpklephelaaGreatDoor.Name Go.Proofs.YtdoegpklephelaaGreatDoor.Merge
set_option linter.unusedVariables false

theorem tyN : SliceTy Tryz.prog 22 46 (.slice none 0 0) 1 24 := ⟨Tryz.underlying22, by kernel_rfl, rfl, by omega⟩
theorem tyM : SliceTy Tryz.prog 24 54 (.agg #[.int .i64 0, .slice none 0 0]) 2 32 := ⟨Tryz.underlying24, by kernel_rfl, rfl, by omega⟩
theorem OwnW.none_ (w : World) (base : Nat) : OwnW w base ⟨.slice none 0 0, [], .slice none 0 0, [], .slice none 0 0, []⟩ :=
  ⟨World.ownsRow_nil .., by simp, World.ownsRow_nil .., by simp, World.ownsRow_nil .., by simp⟩
/-- one more node, one more message -/
theorem OwnW.addNode {w w' : World} {base : Nat} {x : Wx} (h : OwnW w base x) (s : Sl3) (l : List Fx) (hl : OwnFs w base (slv s) l) {v' : Value} (ho : w'.ownsRow base 46 1 v' (x.nodes.length + 1) (x.nodes.flatMap nC ++ [slv s])) (hg : w.grownBy w' x.vn.ownBlock) (hb : base ≤ w.heap.size) :
    OwnW w' base { x with vn := v', nodes := x.nodes ++ [(s, l)] } := by
  have hk : Keeps base [46] w w' := (Keeps.refl base _ w).grown h.nodes hg (by simp) hb
  refine ⟨?_, ?_, hk.own h.clock (by decide), h.clk, hk.own h.net (by decide), fun m hm => ⟨(h.ms m hm).1, (h.ms m hm).2.keeps hk (by decide) (by decide)⟩⟩
  · simp only [List.length_append, List.length_cons, List.length_nil, List.flatMap_append, Nat.zero_add]
    exact ho
  · intro n hn
    rcases List.mem_append.1 hn with hn | hn
    · exact (h.node n hn).keeps hk (by decide) (by decide)
    · rw [List.mem_singleton.1 hn]; exact hl.keeps hk (by decide) (by decide)
theorem OwnW.addMsg {w w' : World} {base : Nat} {x : Wx} (h : OwnW w base x) (t : Int) (ht : wfI t) (s : Sl3) (l : List Fx) (hl : OwnFs w base (slv s) l) {v' : Value} (ho : w'.ownsRow base 54 2 v' (x.net.length + 1) (x.net.flatMap mC ++ [.int .i64 t, slv s])) (hg : w.grownBy w' x.vt.ownBlock) (hb : base ≤ w.heap.size) :
    OwnW w' base { x with vt := v', net := x.net ++ [(t, s, l)] } := by
  have hk : Keeps base [54] w w' := (Keeps.refl base _ w).grown h.net hg (by simp) hb
  refine ⟨hk.own h.nodes (by decide), fun n hn => (h.node n hn).keeps hk (by decide) (by decide), hk.own h.clock (by decide), h.clk, ?_, ?_⟩
  · simp only [List.length_append, List.length_cons, List.length_nil, List.flatMap_append, Nat.zero_add]
    exact ho
  · intro m hm
    rcases List.mem_append.1 hm with hm | hm
    · exact ⟨(h.ms m hm).1, (h.ms m hm).2.keeps hk (by decide) (by decide)⟩
    · rw [List.mem_singleton.1 hm]; exact ⟨ht, hl.keeps hk (by decide) (by decide)⟩
theorem OwnW.drew {w : World} {base : Nat} {x : Wx} (h : OwnW w base x) : OwnW w.drew base x := h.below (Below.refl _ _).drew
theorem files_small {l : List Fx} (h : chkF (flOf l) = 0) : l.length ≤ 1000000 ∧ ∀ x ∈ l, x.1.bytes.length ≤ 1000000 := by
  rw [chkF_ok] at h
  refine ⟨by have := h.1; unfold flOf at this; rw [List.length_map] at this; omega, fun x hx => ?_⟩
  have := (fileE_ok.1 (h.2.1 x.1 (List.mem_map_of_mem hx))).2.1
  omega
theorem nodes_small {x : Wx} (h : WOk x.wd) : ∀ n ∈ x.nodes, chkF (flOf n.2) = 0 := by
  intro n hn
  obtain ⟨i, hi, rfl⟩ := List.getElem_of_mem hn
  have hc : i < x.clock.length := by
    have := h.clock
    simp only [Wx.wd, List.length_map] at this
    omega
  exact (h.node i (flOf x.nodes[i].2) x.clock[i] (by simp only [Wx.wd]; rw [List.getElem?_map, List.getElem?_eq_getElem hi]; rfl) (by simp only [Wx.wd]; rw [List.getElem?_eq_getElem hc])).1
theorem net_small {x : Wx} (h : WOk x.wd) : ∀ m ∈ x.net, chkF (flOf m.2.2) = 0 := fun m hm => (h.ms (msOf m) (by simp only [Wx.wd]; exact List.mem_map_of_mem hm)).1
theorem ints_one (l : List Int) : ∀ u ∈ l.flatMap intC, u.oneCell' = true := by
  intro u hu
  obtain ⟨x, _, hx⟩ := List.mem_flatMap.1 hu
  simp [intC] at hx
  subst hx; rfl
theorem cCs_len (l : List Int) : (l.flatMap intC).length = l.length * 1 := by rw [cCs, List.length_map]; omega
def WorldPost (d : Wd) (w : World) (e : Ending) (w' : World) : Prop :=
  ∃ y : Wx, e = .returned (wV y) ∧ OwnW w' w.heap.size y ∧ y.wd = d ∧ Below w.heap.size w w'
set_option maxRecDepth 100000 in
set_option maxHeartbeats 4000000 in
theorem copied_any (x : Wx) (w : World) (h : IsWorld w x) (hw : WOk x.wd) :
    Calls Tryz.prog 20 #[wV x] w (WorldPost x.wd w) := by
  obtain ⟨hN, hC, hT⟩ := h
  have hns := nodes_small hw
  have hms := net_small hw
  have hfew := hw.few
  have hclk := hw.clock
  have hnet := hw.net
  obtain ⟨D, hD⟩ : ∃ D, D = x.wd := ⟨_, rfl⟩
  rw [← hD]
  simp only [Wx.wd, List.length_map] at hfew hclk hnet hD
  obtain ⟨vn, nodes, vc, clock, vt, net⟩ := x
  dsimp only at hN hC hT hns hms hfew hclk hnet hD
  obtain ⟨An, cn, rfl, n1, n2, n3, n4, n5⟩ := hN
  obtain ⟨Ac, cc, rfl, c1, c2, c3, c4, c5⟩ := hC
  obtain ⟨At, ct, rfl, t1, t2, t3, t4, t5⟩ := hT
  have HN3 := Lib.hid n3
  have HN5 := Lib.hid n5
  have HC5 := Lib.hid c5
  have HT3 := Lib.hid t3
  have HT5 := Lib.hid t5
  have HD := Lib.hid hD
  have HNS := Lib.hid hns
  have HMS := Lib.hid hms
  have HCl := Lib.hid (fun w' (hb : Below w.heap.size w w') => CloneI.clone_any Ac clock.length cc (clock.flatMap intC) w' (cCs_len clock) (c3.below hb) (fun e => by rw [c4 e]; rfl) (ints_one clock) (by unfold maxLen; omega) (by omega))
  unfold wV
  dsimp only
  obtain ⟨n, hn⟩ : ∃ n, n = nodes.length := ⟨_, rfl⟩
  obtain ⟨m, hm'⟩ : ∃ m, m = clock.length := ⟨_, rfl⟩
  obtain ⟨q, hq⟩ : ∃ q, q = net.length := ⟨_, rfl⟩
  rw [← hn] at hfew ⊢
  rw [← hm'] at HCl ⊢
  rw [← hq] at hnet ⊢
  have Hn := Lib.hid hn
  have Hm := Lib.hid hm'
  have Hq := Lib.hid hq
  clear hn hm' hq hns hms hclk hD hw n1 n2 n3 n4 n5 c1 c2 c3 c4 c5 t1 t2 t3 t4 t5
  obtain ⟨w1, hw1⟩ : ∃ w1, w1 = ((w.alloc (.cells #[.slice An n cn, .slice Ac m cc, .slice At q ct] 26)).alloc (.cells #[.slice none 0 0, .slice none 0 0, .slice none 0 0] 26)).alloc (.cells #[.slice none 0 0, .slice none 0 0, .slice none 0 0] 26) := ⟨_, rfl⟩
  have hs1 : w1.heap.size = w.heap.size + 3 := by rw [hw1]; simp
  have B1 : Blk w1 w.heap.size 26 #[.slice An n cn, .slice Ac m cc, .slice At q ct] := by rw [hw1]; exact ((Blk.new _ _ _).alloc _).alloc _
  have B2 : Blk w1 (w.heap.size + 1) 26 #[.slice none 0 0, .slice none 0 0, .slice none 0 0] := by
    rw [hw1]
    have := (Blk.new (w.alloc (.cells #[.slice An n cn, .slice Ac m cc, .slice At q ct] 26)) 26 #[.slice none 0 0, .slice none 0 0, .slice none 0 0]).alloc (.cells #[.slice none 0 0, .slice none 0 0, .slice none 0 0] 26)
    simpa using this
  have B3 : Blk w1 (w.heap.size + 2) 26 #[.slice none 0 0, .slice none 0 0, .slice none 0 0] := by
    rw [hw1]
    have := Blk.new ((w.alloc (.cells #[.slice An n cn, .slice Ac m cc, .slice At q ct] 26)).alloc (.cells #[.slice none 0 0, .slice none 0 0, .slice none 0 0] 26)) 26 #[.slice none 0 0, .slice none 0 0, .slice none 0 0]
    simpa using this
  have hb1 : Below w.heap.size w w1 := by rw [hw1]; exact (((Below.refl _ _).alloc (Nat.le_refl _) _).alloc (by simp) _).alloc (by simp; omega) _
  obtain ⟨B, hB⟩ : ∃ B, B = w.heap.size := ⟨_, rfl⟩
  obtain ⟨g3, hg3⟩ : ∃ g, g = B + 2 := ⟨_, rfl⟩
  have Hg3 := Lib.hid hg3
  have HBs := Lib.hid hB
  rw [← hB] at B1 B2 B3 hs1
  rw [← hg3] at B3
  have HB1 := Lib.hid B1
  have HB2 := Lib.hid B2
  have HB3 := Lib.hid B3
  have Hb1 := Lib.hid hb1
  have Hs1 := Lib.hid hs1
  have Hw1 := Lib.hid hw1.symm
  clear B1 B2 B3 hb1 hw1 hg3 hB hs1
  unfold WorldPost
  go_enter Tryz.func20, Tryz.ntmps20
  go_wp2_with fail
  rw [Hw1.out, ← HBs.out, ← Hg3.out]
  have hB3 := HB3.out
  have hg3 := Hg3.out
  have hs1 := Hs1.out
  go_loopw [11] (fun vi wr => ∃ (k : Nat) (done : List Nx) (vN : Value), k ≤ n ∧ vi = .int .i64 (k : Int) ∧ Blk wr g3 26 #[vN, .slice none 0 0, .slice none 0 0] ∧ OwnW wr g3 ⟨vN, done, .slice none 0 0, [], .slice none 0 0, []⟩ ∧ done.length = k ∧ done.map (fun x => flOf x.2) = (nodes.take k).map (fun x => flOf x.2) ∧ Below g3 w1 wr) (fun vi _ => n - (intOf vi).toNat)
  case atStart => exact ⟨0, [], _, Nat.zero_le _, rfl, hB3, OwnW.none_ _ _, rfl, rfl, Below.refl _ _⟩
  case round =>
    obtain ⟨k, done, vN, hk, rfl, hblk, hown, hdl, hdm, hb⟩ := hrel
    have Hblk := Lib.hid hblk
    have Hown := Lib.hid hown
    have hdle : done.length ≤ 4 := by omega
    have Hdl := Lib.hid hdl
    have Hdm := Lib.hid hdm
    have Hb := Lib.hid hb
    have Hbw := Lib.hid (Hb1.out.trans (hb.mono (by have := HBs.out; omega)))
    have Hsz : Hid (g3 < wr.heap.size) := Lib.hid hblk.lt
    have HX1 := Lib.hid ((HB1.out.below Hb.out (show B < g3 by omega)))
    have HX2 := Lib.hid ((HB2.out.below Hb.out (show B + 1 < g3 by omega)))
    clear hblk hown hdl hdm hb hB3 hs1 hg3
    by_cases hlt : k < n
    · have hkn : k < nodes.length := by rw [← Hn.out]; exact hlt
      obtain ⟨b, o, rfl, nc⟩ := node_cell (HN3.out.below Hbw.out) hkn
      have HND := Lib.hid ((HN5.out nodes[k] (List.getElem_mem hkn)).below Hbw.out)
      have HSm := Lib.hid (files_small (HNS.out nodes[k] (List.getElem_mem hkn)))
      have Hst : Hid ((nodes.take (k + 1)).map (fun x => flOf x.2) = (nodes.take k).map (fun x => flOf x.2) ++ [flOf nodes[k].2]) := Lib.hid (by rw [take_snoc _ _ hkn, List.map_append]; rfl)
      generalize nodes[k] = nd at *
      obtain ⟨⟨A', n', c'⟩, fl⟩ := nd
      unfold NodeAt at HND
      simp only [slv] at nc HND
      have HCo := Lib.hid (fun w' (hb : Below wr.heap.size wr w') => copy_any (.slice A' n' c') fl w' (IsFiles.below HND.out hb) HSm.out.1 HSm.out.2)
      clear HND HSm
      obtain ⟨bx0, _, _⟩ := blk3 HX1.out
      obtain ⟨cx0, _, _⟩ := blk3 Hblk.out
      go_wp2_with fail
      go_region_law ((first
        | (refine step_app rfl (.tmp 16) (.tmp 19) _ rfl g3 46 _ 1 24 tyN vN done.length (done.flatMap nC) (by simp [Act.eval]) HX7.out.nodes (some ⟨w5.heap.size, 0, none⟩) 1 1 [.slice A5 ln5 c5] (by simp [Act.eval]) rfl Hs7.out (by simp [Value.oneCell']) (by simp) (by unfold maxLen; omega) (by omega) Hbs7.out ?_
           intro v8 w8 hown8 hg8
           obtain ⟨A8, d8, rfl, _⟩ := own_slat hown8
           have Ho8 := Lib.hid hown8
           have Hg8 := Lib.hid hg8
           have HB8 := Lib.hid (HB7.out.grown hg8 (own_ne HX7.out.nodes HB7.out (by decide)))
           have c8 := (blk3 HB8.out).1
           have f8 := HB8.out.frozen 0
           clear hown8 hg8)
        | (go_simp
           go_at_call 35
           refine (HCo.out _ (Below.refl _ _).drew).mono ?_
           rintro e w5 ⟨v5, l5, rfl, ho5, he5, hb5⟩
           have hb5' : Below wr.heap.size wr w5 := (Below.refl wr.heap.size wr).drew.trans hb5
           obtain ⟨A5, c5, rfl, _⟩ := own_slat ho5.row
           obtain ⟨ln5, hln5⟩ : ∃ ln5, ln5 = l5.length := ⟨_, rfl⟩
           rw [← hln5] at ho5 ⊢
           have HL5 := Lib.hid hln5
           have He5 := Lib.hid he5
           have hbA : Below w5.heap.size w5 (w5.alloc (.cells #[.slice A5 ln5 c5] 46)) := (Below.refl _ _).alloc (Nat.le_refl _) _
           have HX7 := Lib.hid ((Hown.out.below hb5').below hbA)
           have HS7 : Hid (OwnFs (w5.alloc (.cells #[.slice A5 ln5 c5] 46)) g3 (slv (A5, ln5, c5)) l5) := Lib.hid ((ho5.base_ (show g3 ≤ wr.heap.size from Nat.le_of_lt Hsz.out)).below hbA)
           have HB7 := Lib.hid ((Hblk.out.below hb5' Hblk.out.lt).below hbA (show g3 < w5.heap.size by have := hb5'.size; have := Hsz.out; omega))
           have Hs7 : Hid (SlAt (w5.alloc (.cells #[.slice A5 ln5 c5] 46)) (some ⟨w5.heap.size, 0, none⟩) [.slice A5 ln5 c5]) := Lib.hid (SlAt.of_heap (heap_alloc_new _ _) rfl)
           have Hb7 := Lib.hid (Hb.out.trans ((hb5'.trans (hbA.mono hb5'.size)).mono (show g3 ≤ wr.heap.size from Nat.le_of_lt Hsz.out)))
           have Hbs7 : Hid (g3 ≤ (w5.alloc (.cells #[.slice A5 ln5 c5] 46)).heap.size) := Lib.hid (by have := HB7.out.lt; omega)
           have c5x := cell_below hb5' cx0
           have hz5 : g3 < w5.heap.size := by have := hb5'.size; have := Hsz.out; omega
           clear hb5 hb5' ho5 he5 hbA hln5)))
      all_goals (
        have Hb8 := Lib.hid (own_below HX7.out.nodes Hg8.out Hb7.out Hbs7.out)
        have HX8 := Lib.hid (HX7.out.addNode (A5, ln5, c5) l5 HS7.out Ho8.out Hg8.out Hbs7.out)
        have HX9 := Lib.hid (HX8.out.set_ HB8.out (by decide) (by decide) (by decide) (by decide) (by decide) 0 (.slice A8 (done.length + 1) d8))
        have HB9 := Lib.hid (HB8.out.set_ 0 (.slice A8 (done.length + 1) d8))
        have Hb9 := Lib.hid (Hb8.out.setCell (show g3 ≤ (⟨g3, 0, none⟩ : Addr).block from Nat.le_refl _) (.slice A8 (done.length + 1) d8))
        clear HX7 HS7 HB7 Hs7 Hb7 Hbs7 HX8 HB8 Hb8 Ho8 Hg8
        go_wp2_with fail
        go_roundw
        case rel => exact ⟨k + 1, done ++ [((A5, ln5, c5), l5)], _, by omega, by go_num, HB9.out, HX9.out, by rw [List.length_append, Hdl.out]; rfl, by rw [List.map_append, Hdm.out, Hst.out]; exact congrArg (fun t => _ ++ [t]) He5.out, Hb9.out⟩
        case measure => simp [intOf]; omega)
    · obtain rfl : k = n := by omega
      have HNd : Hid (done.map (fun x => flOf x.2) = nodes.map (fun x => flOf x.2)) := Lib.hid (by rw [Hdm.out, List.take_of_length_le (by rw [← Hn.out]; exact Nat.le_refl _)])
      have Hown' := Hown
      have Hblk' := Hblk
      have Hb' := Hb
      clear Hown Hblk Hb Hdm Hdl HN3 HN5 HNS Hsz Hbw HX1 HX2 Hn
      obtain ⟨bx0, bx1, bx2⟩ := blk3 (HB1.out.below Hb'.out (show B < g3 by have := Hg3.out; omega))
      go_wp2_with fail
      go_loopw [26] (fun vi wr => ∃ (j : Nat) (doneM : List Mx) (vT : Value), j ≤ q ∧ vi = .int .i64 (j : Int) ∧ Blk wr g3 26 #[vN, .slice none 0 0, vT] ∧ OwnW wr g3 ⟨vN, done, .slice none 0 0, [], vT, doneM⟩ ∧ doneM.length = j ∧ doneM.map msOf = (net.take j).map msOf ∧ Below g3 w1 wr) (fun vi _ => q - (intOf vi).toNat)
      case atStart => exact ⟨0, [], _, Nat.zero_le _, rfl, Hblk'.out, Hown'.out, rfl, rfl, Hb'.out⟩
      case round =>
        obtain ⟨j, doneM, vT, hj, rfl, hblk, hown, hdl, hdm, hb⟩ := hrel
        have hdle2 : doneM.length ≤ 20 := by omega
        have Hblk := Lib.hid hblk
        have Hown := Lib.hid hown
        have Hdl := Lib.hid hdl
        have Hdm := Lib.hid hdm
        have Hb := Lib.hid hb
        have Hbw := Lib.hid (Hb1.out.trans (hb.mono (by have := HBs.out; have := Hg3.out; omega)))
        have Hsz := Lib.hid hblk.lt
        have HX1 := Lib.hid ((HB1.out.below Hb.out (show B < g3 by have := Hg3.out; omega)))
        have HX2 := Lib.hid ((HB2.out.below Hb.out (show B + 1 < g3 by have := Hg3.out; omega)))
        clear hblk hown hdl hdm hb bx0 bx1 bx2
        by_cases hlt : j < q
        · have hjn : j < net.length := by rw [← Hq.out]; exact hlt
          obtain ⟨b, o, rfl, mc0, mc1⟩ := msg_cell (HT3.out.below Hbw.out) hjn
          have HND := Lib.hid ((HT5.out net[j] (List.getElem_mem hjn)).below Hbw.out)
          have HSm := Lib.hid (files_small (HMS.out net[j] (List.getElem_mem hjn)))
          have Hst : Hid ((net.take (j + 1)).map msOf = (net.take j).map msOf ++ [msOf net[j]]) := Lib.hid (by rw [take_snoc _ _ hjn, List.map_append]; rfl)
          generalize net[j] = nd at *
          obtain ⟨t, ⟨A', n', c'⟩, fl⟩ := nd
          simp only [slv] at mc0 mc1
          obtain ⟨w2, hw2⟩ : ∃ w2, w2 = wr.alloc (.cells #[.int .i64 t, .slice A' n' c'] 54) := ⟨_, rfl⟩
          have hb2 : Below wr.heap.size wr w2 := by rw [hw2]; exact (Below.refl _ _).alloc (Nat.le_refl _) _
          obtain ⟨gm, hgm⟩ : ∃ gm, gm = wr.heap.size := ⟨_, rfl⟩
          have HBm := Lib.hid (show Blk w2 gm 54 #[.int .i64 t, .slice A' n' c'] by rw [hw2, hgm]; exact Blk.new _ _ _)
          have HTi := Lib.hid HND.out.1
          have HCo := Lib.hid (fun w' (hb : Below w2.heap.size w2 w') => copy_any (.slice A' n' c') fl w' (IsFiles.below (IsFiles.below HND.out.2 hb2) hb) HSm.out.1 HSm.out.2)
          have HX2' := Lib.hid (HX2.out.below hb2 HX2.out.lt)
          have Hblk2 := Lib.hid (Hblk.out.below hb2 Hblk.out.lt)
          have Hown2 := Lib.hid (Hown.out.below hb2)
          have Hb2 := Lib.hid (Hb.out.trans (hb2.mono (Nat.le_of_lt Hsz.out)))
          have Hsz2 : Hid (g3 < w2.heap.size) := Lib.hid Hblk2.out.lt
          have Hgm : Hid (gm ≠ g3) := Lib.hid (by have := Hsz.out; omega)
          have Hwq : Hid (wr.alloc (.cells #[.int .i64 t, .slice A' n' c'] 54) = w2) := Lib.hid hw2.symm
          have Hgq : Hid (wr.heap.size = gm) := Lib.hid hgm.symm
          clear HND HSm hw2 hb2 hgm Hblk Hown Hb Hbw
          obtain ⟨bx0, bx1, bx2⟩ := blk3 HX1.out
          go_wp2_with fail
          rw [Hwq.out, Hgq.out]
          obtain ⟨cx0, cx1, cx2⟩ := blk3 Hblk2.out
          have dx0 := HBm.out.c0
          have dx1 := HBm.out.c1
          go_wp2_with fail
          go_region_law ((first
            | (refine step_app rfl (.tmp 31) (.tmp 38) _ rfl g3 54 _ 2 32 tyM vT doneM.length (doneM.flatMap mC) (by simp [Act.eval]) HX7.out.net (some ⟨w5.heap.size, 0, none⟩) 1 1 [.int .i64 t, .slice A5 ln5 c5] (by simp [Act.eval]) rfl Hs7.out (by simp [Value.oneCell']) (by simp) (by unfold maxLen; omega) (by omega) Hbs7.out ?_
               intro v8 w8 hown8 hg8
               obtain ⟨A8, d8, rfl, _⟩ := own_slat hown8
               have Ho8 := Lib.hid hown8
               have Hg8 := Lib.hid hg8
               have HB8 := Lib.hid (HB7.out.grown hg8 (own_ne HX7.out.net HB7.out (by decide)))
               have c8 := (blk3 HB8.out).2.2
               have f8 := HB8.out.frozen 2
               clear hown8 hg8)
            | (go_simp
               go_at_call 35
               refine (HCo.out _ (Below.refl _ _).drew).mono ?_
               rintro e w5 ⟨v5, l5, rfl, ho5, he5, hb5⟩
               have hb5' : Below w2.heap.size w2 w5 := (Below.refl w2.heap.size w2).drew.trans hb5
               obtain ⟨A5, c5, rfl, _⟩ := own_slat ho5.row
               obtain ⟨ln5, hln5⟩ : ∃ ln5, ln5 = l5.length := ⟨_, rfl⟩
               rw [← hln5] at ho5 ⊢
               have HL5 := Lib.hid hln5
               have He5 := Lib.hid he5
               have hbA : Below w5.heap.size w5 (w5.alloc (.cells #[.int .i64 t, .slice A5 ln5 c5] 54)) := (Below.refl _ _).alloc (Nat.le_refl _) _
               have HX7 := Lib.hid ((Hown2.out.below hb5').below hbA)
               have HS7 : Hid (OwnFs (w5.alloc (.cells #[.int .i64 t, .slice A5 ln5 c5] 54)) g3 (slv (A5, ln5, c5)) l5) := Lib.hid ((ho5.base_ (show g3 ≤ w2.heap.size from Nat.le_of_lt Hsz2.out)).below hbA)
               have HB7 := Lib.hid ((Hblk2.out.below hb5' Hblk2.out.lt).below hbA (show g3 < w5.heap.size by have := hb5'.size; have := Hsz2.out; omega))
               have Hs7 : Hid (SlAt (w5.alloc (.cells #[.int .i64 t, .slice A5 ln5 c5] 54)) (some ⟨w5.heap.size, 0, none⟩) [.int .i64 t, .slice A5 ln5 c5]) := Lib.hid (SlAt.of_heap (heap_alloc_new _ _) rfl)
               have Hb7 := Lib.hid (Hb2.out.trans ((hb5'.trans (hbA.mono hb5'.size)).mono (show g3 ≤ w2.heap.size from Nat.le_of_lt Hsz2.out)))
               have Hbs7 : Hid (g3 ≤ (w5.alloc (.cells #[.int .i64 t, .slice A5 ln5 c5] 54)).heap.size) := Lib.hid (by have := HB7.out.lt; omega)
               have c5x := cell_below hb5' cx2
               have e5x := cell_below hb5' dx0
               have hz5 : g3 < w5.heap.size := by have := hb5'.size; have := Hsz2.out; omega
               clear hb5 hb5' ho5 he5 hbA hln5)))
          all_goals (
            have Hb8 := Lib.hid (own_below HX7.out.net Hg8.out Hb7.out Hbs7.out)
            have HX8 := Lib.hid (HX7.out.addMsg t HTi.out (A5, ln5, c5) l5 HS7.out Ho8.out Hg8.out Hbs7.out)
            have HX9 := Lib.hid (HX8.out.set_ HB8.out (by decide) (by decide) (by decide) (by decide) (by decide) 2 (.slice A8 (doneM.length + 1) d8))
            have HB9 := Lib.hid (HB8.out.set_ 2 (.slice A8 (doneM.length + 1) d8))
            have Hb9 := Lib.hid (Hb8.out.setCell (show g3 ≤ (⟨g3, 2, none⟩ : Addr).block from Nat.le_refl _) (.slice A8 (doneM.length + 1) d8))
            clear HX7 HS7 HB7 Hs7 Hb7 Hbs7 HX8 HB8 Hb8 Ho8 Hg8
            go_wp2_with fail
            go_roundw
            case rel => exact ⟨j + 1, doneM ++ [(t, (A5, ln5, c5), l5)], _, by omega, by go_num, HB9.out, HX9.out, by rw [List.length_append, Hdl.out]; rfl, by rw [List.map_append, Hdm.out, Hst.out]; exact congrArg (fun u => _ ++ [(⟨t, u⟩ : Ms)]) He5.out, Hb9.out⟩
            case measure => simp [intOf]; omega)
        · obtain rfl : j = q := by omega
          have HNt : Hid (doneM.map msOf = net.map msOf) := Lib.hid (by rw [Hdm.out, List.take_of_length_le (by rw [← Hq.out]; exact Nat.le_refl _)])
          have HCl2 := Lib.hid (HCl.out _ Hbw.out)
          obtain ⟨bx0, bx1, bx2⟩ := blk3 HX1.out
          clear HCl Hdm Hdl
          go_wp2_with fail
          refine (HCl2.out).mono ?_
          rintro e w5 ⟨v5, rfl, ho5, hb5⟩
          have HX5 := Lib.hid (Hown.out.below hb5)
          have HB5 := Lib.hid (Hblk.out.below hb5 Hblk.out.lt)
          have HR5 := Lib.hid (HX2.out.below hb5 HX2.out.lt)
          have Hb5 := Lib.hid (Hb.out.trans (hb5.mono (Nat.le_of_lt Hsz.out)))
          have Ho5 := Lib.hid (own_base ho5 (show g3 ≤ wr.heap.size from Nat.le_of_lt Hsz.out))
          obtain ⟨A5, c5, rfl, _⟩ := own_slat ho5
          obtain ⟨AN, cN, rfl⟩ : ∃ A c, vN = .slice A done.length c := by obtain ⟨A, c, h, _⟩ := own_slat HX5.out.nodes; exact ⟨A, c, h⟩
          obtain ⟨AT, cT, rfl⟩ : ∃ A c, vT = .slice A doneM.length c := by obtain ⟨A, c, h, _⟩ := own_slat HX5.out.net; exact ⟨A, c, h⟩
          have HY5 : Hid (OwnW w5 g3 ⟨.slice AN done.length cN, done, .slice A5 m c5, clock, .slice AT doneM.length cT, doneM⟩) := Lib.hid ⟨HX5.out.nodes, HX5.out.node, by rw [← Hm.out]; exact Ho5.out, HC5.out, HX5.out.net, HX5.out.ms⟩
          have HY6 := Lib.hid (HY5.out.set_ HB5.out (by decide) (by decide) (by decide) (by decide) (by decide) 1 (.slice A5 m c5))
          have HR6 := Lib.hid (HR5.out.far (p := ⟨g3, 1, none⟩) (show B + 1 ≠ g3 by have := Hg3.out; omega) (.slice A5 m c5))
          have HY7 := Lib.hid (HY6.out.set_ HR6.out (by decide) (by decide) (by decide) (by decide) (by decide) 0 (.slice AN done.length cN))
          have HR7 := Lib.hid (HR6.out.set_ 0 (.slice AN done.length cN))
          have HY8 := Lib.hid (HY7.out.set_ HR7.out (by decide) (by decide) (by decide) (by decide) (by decide) 1 (.slice A5 m c5))
          have HR8 := Lib.hid (HR7.out.set_ 1 (.slice A5 m c5))
          have HY9 := Lib.hid (HY8.out.set_ HR8.out (by decide) (by decide) (by decide) (by decide) (by decide) 2 (.slice AT doneM.length cT))
          have HR9 := Lib.hid (HR8.out.set_ 2 (.slice AT doneM.length cT))
          have hwB : w.heap.size ≤ B + 1 := by have := HBs.out; omega
          have hwg : w.heap.size ≤ g3 := by have := HBs.out; have := Hg3.out; omega
          have Hb6 := Lib.hid ((((((Hb1.out.trans (Hb5.out.mono hwg)).setCell (show w.heap.size ≤ (⟨g3, 1, none⟩ : Addr).block from hwg) (.slice A5 m c5)).setCell (show w.heap.size ≤ (⟨B + 1, 0, none⟩ : Addr).block from hwB) (.slice AN done.length cN))).setCell (show w.heap.size ≤ (⟨B + 1, 1, none⟩ : Addr).block from hwB) (.slice A5 m c5)).setCell (show w.heap.size ≤ (⟨B + 1, 2, none⟩ : Addr).block from hwB) (.slice AT doneM.length cT))
          obtain ⟨d0, d1, d2⟩ := blk3 HB5.out
          have fz1 := HB5.out.frozen 1
          obtain ⟨r0, r1, r2⟩ := blk3 HR5.out
          have fr0 := HR5.out.frozen 0
          have fr1 := HR5.out.frozen 1
          have fr2 := HR5.out.frozen 2
          have hne : B + 1 ≠ g3 := by have := Hg3.out; omega
          have hne2 : g3 ≠ B + 1 := by omega
          clear hb5 ho5 HCl2
          go_wp2_with fail
          refine bodyPost_ret (results_cell_row rfl _ _ (B + 1) 26 #[.slice AN done.length cN, .slice A5 m c5, .slice AT doneM.length cT] (0, 0) _ rfl HR9.out Tryz.underlying26 rfl (by kernel_rfl)) rfl ?_
          refine ⟨⟨.slice AN done.length cN, done, .slice A5 m c5, clock, .slice AT doneM.length cT, doneM⟩, rfl, HY9.out.base_ hwg, ?_, Hb6.out⟩
          rw [HD.out]
          simp only [Wx.wd]
          rw [HNd.out, HNt.out]
end Go.Proofs.YtdoegpklephelaaGreatDoor.Worlds

/- two rows held against each other: what slices.EqualFunc says. No program in sight. -/
namespace Go.Proofs.YtdoegpklephelaaGreatDoor.Merge
open Go Go.RowKit Go.Proofs.YtdoegpklephelaaGreatDoor

def eqF {α β : Type} (p : α → β → Bool) (a : List α) (b : List β) : Bool := decide (a.length = b.length) && (a.zip b).all fun x => p x.1 x.2
theorem eqF_ne {α β : Type} {p : α → β → Bool} {a : List α} {b : List β} (h : a.length ≠ b.length) : eqF p a b = false := by
  unfold eqF; rw [decide_eq_false h]; rfl
theorem eqF_here {α β : Type} {p : α → β → Bool} {a : List α} {b : List β} {k : Nat} (hk : k < a.length) (hk2 : k < b.length) (h : p a[k] b[k] = false) : eqF p a b = false := by
  unfold eqF
  have : (a.zip b).all (fun x => p x.1 x.2) = false := by
    rw [List.all_eq_false]
    refine ⟨(a[k], b[k]), ?_, by simp [h]⟩
    rw [List.mem_iff_getElem]
    exact ⟨k, by rw [List.length_zip]; omega, by simp⟩
  rw [this, Bool.and_false]
theorem eqF_step {α β : Type} {p : α → β → Bool} {a : List α} {b : List β} {k : Nat} (hk : k < a.length) (hk2 : k < b.length) (h0 : ∀ x ∈ (a.zip b).take k, p x.1 x.2 = true) (h : p a[k] b[k] = true) : ∀ x ∈ (a.zip b).take (k + 1), p x.1 x.2 = true := by
  have hl : k < (a.zip b).length := by rw [List.length_zip]; omega
  rw [take_snoc _ _ hl]
  intro x hx
  rcases List.mem_append.1 hx with hx | hx
  · exact h0 x hx
  · simp at hx; subst hx; exact h
theorem eqF_end {α β : Type} {p : α → β → Bool} {a : List α} {b : List β} {k : Nat} (hl : a.length = b.length) (hk : k = a.length) (h0 : ∀ x ∈ (a.zip b).take k, p x.1 x.2 = true) : eqF p a b = true := by
  unfold eqF
  rw [List.take_of_length_le (by rw [List.length_zip]; omega)] at h0
  rw [decide_eq_true hl, Bool.true_and, List.all_eq_true]
  exact h0
theorem eqF_map {α β : Type} {p : α → α → Bool} {f : α → β} (hp : ∀ x y, p x y = true ↔ f x = f y) : ∀ a b : List α, eqF p a b = true ↔ a.map f = b.map f
  | [], [] => by simp [eqF]
  | [], y :: b => by simp [eqF]
  | x :: a, [] => by simp [eqF]
  | x :: a, y :: b => by
    have ih := eqF_map hp a b
    have : eqF p (x :: a) (y :: b) = true ↔ p x y = true ∧ eqF p a b = true := by simp [eqF]; constructor <;> (rintro ⟨h1, h2, h3⟩; exact ⟨h2, h1, h3⟩)
    rw [this, ih, hp, List.map_cons, List.map_cons, List.cons.injEq]
end Go.Proofs.YtdoegpklephelaaGreatDoor.Merge

/- slices.EqualFunc at files. -/
namespace Go.Proofs.YtdoegpklephelaaGreatDoor.Merge
open Go Go.RowKit Go.Proofs.YtdoegpklephelaaGreatDoor Go.Proofs.YtdoegpklephelaaGreatDoor.Name
set_option linter.unusedVariables false

set_option maxRecDepth 100000 in
set_option maxHeartbeats 1600000 in
theorem equalFunc_files (A B : Option Addr) (n m ca cb : Nat) (xs ys : List (Fx)) (g : FuncId) (cap : Array Value) (p : Fx → Fx → Bool) (w : World) (hn : xs.length = n) (hm : ys.length = m) (hx : n ≤ maxLen) (hy : m ≤ maxLen)
    (ha : SlAt w A (xs.flatMap fC)) (hb : SlAt w B (ys.flatMap fC))
    (hcf : ∀ args w', (callFunc g args).run Tryz.prog w' = .ok (.enter g args) w')
    (hf : ∀ x ∈ xs, ∀ y ∈ ys, ∀ w', Below w.heap.size w w' → Calls Tryz.prog g (#[fV x, fV y] ++ cap) w' fun e w'' => e = .returned (.bool (p x y)) ∧ Below w'.heap.size w' w'') :
    Calls Tryz.prog 38 #[.slice A n ca, .slice B m cb, .func (.func g) #[] cap] w fun e w' => e = .returned (.bool (eqF p xs ys)) ∧ Below w.heap.size w w' := by
  unfold maxLen at hx hy
  have Hn := Lib.hid hn
  have Hm := Lib.hid hm
  have Ha := Lib.hid ha
  have Hb := Lib.hid hb
  have Hf := Lib.hid hf
  clear hn hm ha hb hf
  by_cases hnm : n = m
  · subst hnm
    go_enter Tryz.func38, Tryz.ntmps38
    go_wp2_with fail
    go_loopw [17] (fun i wr => ∃ k : Nat, k ≤ n ∧ i = .int .i64 (k : Int) ∧ (∀ x ∈ (xs.zip ys).take k, p x.1 x.2 = true) ∧ Below w.heap.size w wr) (fun i _ => n - (intOf i).toNat)
    case atStart => exact ⟨0, Nat.zero_le _, rfl, by simp, Below.refl _ _⟩
    case round =>
      obtain ⟨k, hk, rfl, hall, hbr⟩ := hrel
      have Hall := Lib.hid hall
      have Hbr := Lib.hid hbr
      clear hall hbr
      by_cases hlt : k < n
      · have hkx : k < xs.length := by rw [Hn.out]; exact hlt
        have hky : k < ys.length := by rw [Hm.out]; exact hlt
        obtain ⟨ba, oa, rfl, hca⟩ := slat_elem (size := 5) fC_len (by omega) (Ha.out.below Hbr.out) hkx
        obtain ⟨bb, ob, rfl, hcb⟩ := slat_elem (size := 5) fC_len (by omega) (Hb.out.below Hbr.out) hky
        have Hcall := Lib.hid (fun w' hb => Hf.out xs[k] (List.getElem_mem hkx) ys[k] (List.getElem_mem hky) w' hb)
        have Hy := Lib.hid (eqF_here (p := p) hkx hky)
        have Hz := Lib.hid (eqF_step (p := p) hkx hky Hall.out)
        generalize xs[k] = x at *
        generalize ys[k] = y at *
        obtain ⟨⟨n1, b1, s1, d1, g1⟩, A1, l1, c1⟩ := x
        obtain ⟨⟨n2, b2, s2, d2, g2⟩, A2, l2, c2⟩ := y
        have ca0 : wr.cell? ⟨ba, oa + k * 5, none⟩ = some (.string (strB n1)) := hca 0 _ rfl
        have cb0 : wr.cell? ⟨bb, ob + k * 5, none⟩ = some (.string (strB n2)) := hcb 0 _ rfl
        have ca1 : wr.cell? ⟨ba, oa + k * 5 + 1, none⟩ = some (.slice A1 l1 c1) := hca 1 _ rfl
        have cb1 : wr.cell? ⟨bb, ob + k * 5 + 1, none⟩ = some (.slice A2 l2 c2) := hcb 1 _ rfl
        have ca2 : wr.cell? ⟨ba, oa + k * 5 + 2, none⟩ = some (.int .i64 s1) := hca 2 _ rfl
        have cb2 : wr.cell? ⟨bb, ob + k * 5 + 2, none⟩ = some (.int .i64 s2) := hcb 2 _ rfl
        have ca3 : wr.cell? ⟨ba, oa + k * 5 + 3, none⟩ = some (.int .i64 d1) := hca 3 _ rfl
        have cb3 : wr.cell? ⟨bb, ob + k * 5 + 3, none⟩ = some (.int .i64 d2) := hcb 3 _ rfl
        have ca4 : wr.cell? ⟨ba, oa + k * 5 + 4, none⟩ = some (.bool g1) := hca 4 _ rfl
        have cb4 : wr.cell? ⟨bb, ob + k * 5 + 4, none⟩ = some (.bool g2) := hcb 4 _ rfl
        have HA2 := Lib.hid (((Below.refl wr.heap.size wr).alloc (Nat.le_refl _) (.cells #[.string (strB n1), .slice A1 l1 c1, .int .i64 s1, .int .i64 d1, .bool g1] 49)).alloc (by simp) (.cells #[.string (strB n2), .slice A2 l2 c2, .int .i64 s2, .int .i64 d2, .bool g2] 49))
        have la := block_lt_of_cell ca0
        have lb := block_lt_of_cell cb0
        clear hca hcb Hf
        obtain ⟨pv, hpv⟩ : ∃ pv, p ⟨⟨n1, b1, s1, d1, g1⟩, A1, l1, c1⟩ ⟨⟨n2, b2, s2, d2, g2⟩, A2, l2, c2⟩ = pv := ⟨_, rfl⟩
        rw [hpv] at Hcall Hy Hz
        clear hpv
        go_wp2_with fail
        refine (Hcall.out _ (Hbr.out.trans (HA2.out.mono Hbr.out.size))).mono ?_
        rintro e w1 ⟨rfl, hb1⟩
        have Hb1 := Lib.hid (Hbr.out.trans (stepN HA2.out hb1 |>.mono Hbr.out.size))
        clear hb1
        cases pv with
        | true =>
          have Hi := Lib.hid (Hz.out rfl)
          go_wp2_with fail
          go_roundw
          case rel => exact ⟨k + 1, by omega, by go_num, Hi.out, Hb1.out⟩
          case measure => simp [intOf]; omega
        | false =>
          have Hi := Lib.hid (Hy.out rfl)
          go_wp2_with fail
          go_ret
          exact ⟨ret_bool Hi.out.symm, Hb1.out⟩
      · have Hi := Lib.hid (eqF_end (p := p) (by rw [Hn.out, Hm.out]) (show k = xs.length by rw [Hn.out]; omega) Hall.out)
        go_wp2_with fail
        go_ret
        exact ⟨ret_bool Hi.out.symm, Hbr.out⟩
  · have Hi := Lib.hid (eqF_ne (p := p) (a := xs) (b := ys) (by rw [Hn.out, Hm.out]; exact hnm))
    have hne : decide ((n : Int) = (m : Int)) = false := decide_eq_false (by omega)
    have hni : ¬ (n : Int) = (m : Int) := by omega
    clear hnm
    go_enter Tryz.func38, Tryz.ntmps38
    go_wp2_with fail
    go_ret
    exact ⟨ret_bool Hi.out.symm, Below.refl _ _⟩
end Go.Proofs.YtdoegpklephelaaGreatDoor.Merge

/- reliquaryref.SameFiles; package merge: Put. -/
namespace Go.Proofs.YtdoegpklephelaaGreatDoor.Merge
open Go Go.RowKit Go.Proofs.YtdoegpklephelaaGreatDoor Go.Proofs.YtdoegpklephelaaGreatDoor.Name
set_option linter.unusedVariables false

/-- the same files -/
def sameFs (a b : List Fx) : Bool := eqF (fun x y => sameF x.1 y.1) a b
theorem sameFs_iff (a b : List Fx) : sameFs a b = true ↔ a.map Prod.fst = b.map Prod.fst := eqF_map (fun x y => sameF_iff x.1 y.1) a b
theorem IsFiles.le {w : World} {v : Value} {l : List Fx} (h : IsFiles w v l) : l.length ≤ maxLen := by obtain ⟨A, c, _, h1, h2, _⟩ := h; omega
theorem eg45 : ∀ args w', (callFunc 39 args).run Tryz.prog w' = .ok (.enter 39 args) w' := enters_of Tryz.func39 (by kernel_rfl) rfl
set_option maxHeartbeats 400000 in
theorem sameFiles_any (v1 v2 : Value) (a b : List Fx) (w : World) (h1 : IsFiles w v1 a) (h2 : IsFiles w v2 b) :
    Calls Tryz.prog 18 #[v1, v2] w fun e w' => e = .returned (.bool (sameFs a b)) ∧ Below w.heap.size w w' := by
  obtain ⟨A, ca, rfl, a1, a2, a3, a4, a5⟩ := h1
  obtain ⟨B, cb, rfl, b1, b2, b3, b4, b5⟩ := h2
  have HC := Lib.hid (equalFunc_files A B a.length b.length ca cb a b 39 #[] (fun x y => sameF x.1 y.1) w rfl rfl (by omega) (by omega) a3 b3 eg45 (fun x hx y hy w' hb => sameFile_any x y w' ((a5 x hx).below hb) ((b5 y hy).below hb)))
  obtain ⟨n, hn⟩ : ∃ n, n = a.length := ⟨_, rfl⟩
  obtain ⟨m, hm⟩ : ∃ m, m = b.length := ⟨_, rfl⟩
  rw [← hn, ← hm] at HC ⊢
  clear a1 a2 a3 a4 a5 b1 b2 b3 b4 b5 hn hm
  go_enter Tryz.func18, Tryz.ntmps18
  go_wp2_with fail
  refine (HC.out).mono ?_
  rintro e w1 ⟨rfl, hb⟩
  have Hb := Lib.hid hb
  clear hb HC
  go_wp2_with fail
  go_ret
  exact ⟨rfl, Hb.out⟩
set_option maxRecDepth 100000 in
set_option maxHeartbeats 800000 in
theorem put_any (v : Value) (a : List Fx) (x : Fx) (w : World) (hm : ML w) (h1 : IsFiles w v a) (h2 : FileAt w x) :
    Calls Tryz.prog 59 #[v, fV x] w (BothPost (a.map Prod.fst) [x.1] w) := by
  obtain ⟨w2, hw2⟩ : ∃ w2, w2 = (w.alloc (.cells (fC x).toArray 49)).alloc (.cells (fC x).toArray 49) := ⟨_, rfl⟩
  have hb2 : Below w.heap.size w w2 := by rw [hw2]; exact ((Below.refl _ _).alloc (Nat.le_refl _) _).alloc (by simp) _
  have hs : SlAt w2 (some ⟨w.heap.size + 1, 0, none⟩) ([x].flatMap fC) := by
    rw [hw2]
    have := heap_alloc_new (w.alloc (.cells (fC x).toArray 49)) (.cells (fC x).toArray 49)
    rw [show (w.alloc (.cells (fC x).toArray 49)).heap.size = w.heap.size + 1 by simp] at this
    exact SlAt.of_heap this (by simp)
  have hf : IsFiles w2 (.slice (some ⟨w.heap.size + 1, 0, none⟩) 1 1) [x] := ⟨_, 1, rfl, Nat.le_refl _, by unfold maxLen; omega, hs, by simp, fun y hy => by rw [List.mem_singleton.1 hy]; exact h2.below hb2⟩
  have HC := Lib.hid (both_any v _ a [x] w2 (hm.below hb2) (h1.below hb2) hf)
  have Hb2 := Lib.hid hb2
  have Hw2 := Lib.hid hw2.symm
  obtain ⟨A, ca, rfl, _⟩ := h1
  clear hb2 hw2 hs hf h2 hm
  obtain ⟨n, hn⟩ : ∃ n, n = a.length := ⟨_, rfl⟩
  rw [← hn] at HC ⊢
  clear hn
  obtain ⟨⟨n1, b1, s1, d1, g1⟩, A3, l3, c3⟩ := x
  unfold fV slv
  dsimp only
  go_enter Tryz.func59, Tryz.ntmps59
  go_wp2_with fail
  have hw2 := Hw2.out
  simp only [fC, slv] at hw2
  rw [hw2]
  clear hw2
  refine (HC.out).mono ?_
  rintro e w1 ⟨v1, l', rfl, ho, he, hb⟩
  have Ho := Lib.hid (ho.base_ Hb2.out.size)
  have He := Lib.hid he
  have Hb := Lib.hid (stepN Hb2.out hb)
  clear ho he hb HC
  unfold BothPost
  generalize hz : bothR (a.map Prod.fst) [(⟨n1, b1, s1, d1, g1⟩ : Fl)] = R at *
  have He2 : Hid (l'.map Prod.fst = R.2) := Lib.hid (by rw [← hz]; exact He.out)
  rw [show bothR (a.map Prod.fst) (([((⟨n1, b1, s1, d1, g1⟩ : Fl), ((A3, l3, c3) : Sl3))] : List Fx).map Prod.fst) = R from hz]
  have HZ := Lib.hid hz
  clear hz He
  go_wp2_with fail
  go_ret2
  exact ⟨_, l', by rw [HZ.out]; rfl, Ho.out, by rw [HZ.out]; exact He2.out, Hb.out⟩
end Go.Proofs.YtdoegpklephelaaGreatDoor.Merge
