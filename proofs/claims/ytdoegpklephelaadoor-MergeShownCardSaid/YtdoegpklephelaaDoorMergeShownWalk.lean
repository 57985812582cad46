/- reliquarylaw.MergeShown: the walk. -/
import Derived.Test.YtdoegpklephelaaDoorMerged
import Derived.Test.YtdoegpklephelaaDoorFuncF
import Derived.Test.YtdoegpklephelaaDoorRefLater
import Derived.Test.YtdoegpklephelaaDoorRefCheck
namespace Go.Proofs.YtdoegpklephelaaDoor.MergeShown
open Go Go.RowKit Go.Proofs.YtdoegpklephelaaDoor Go.Proofs.YtdoegpklephelaaDoor.Name Go.Proofs.YtdoegpklephelaaDoor.Merge
set_option linter.unusedVariables false

theorem idx_some {l : List Fx} {nm : List UInt8} {g : Fl} (h : lk (l.map Prod.fst) nm = some g) : ∃ k : Nat, ∃ hk : k < l.length, idxI (fun x : Fx => decide (x.1.name = nm)) l = (k : Int) ∧ l[k].1 = g := by
  rcases idxI_of (fun x : Fx => decide (x.1.name = nm)) l with ⟨k, hk, hi, hp, hpre⟩ | ⟨_, hno⟩
  · refine ⟨k, hk, hi, ?_⟩
    have hfk : l.find? (fun x : Fx => decide (x.1.name = nm)) = some l[k] := by
      rw [List.find?_eq_some_iff_getElem]
      refine ⟨hp, k, hk, rfl, fun j hj => ?_⟩
      have := hpre l[j] (by rw [List.mem_take_iff_getElem]; exact ⟨j, by omega, rfl⟩)
      simp [this]
    unfold lk at h
    rw [List.find?_map] at h
    have e : ((fun f : Fl => decide (f.name = nm)) ∘ Prod.fst : Fx → Bool) = fun x : Fx => decide (x.1.name = nm) := rfl
    rw [e, hfk] at h
    simpa using h
  · obtain ⟨y, hy, rfl⟩ := List.mem_map.1 (lk_mem h)
    have := hno y hy
    rw [lk_name h] at this
    simp at this
theorem idx_none {l : List Fx} {nm : List UInt8} (h : lk (l.map Prod.fst) nm = none) : idxI (fun x : Fx => decide (x.1.name = nm)) l = -1 := by
  rcases idxI_of (fun x : Fx => decide (x.1.name = nm)) l with ⟨k, hk, hi, hp, hpre⟩ | ⟨hi, hno⟩
  · unfold lk at h
    rw [List.find?_eq_none] at h
    have := h l[k].1 (List.mem_map_of_mem (List.getElem_mem hk))
    simp at hp this
    exact absurd hp this
  · exact hi
set_option maxHeartbeats 400000 in
theorem nm_any (x : Fx) (nm : List UInt8) (gx : Nat) (w : World) (v1 v2 v3 v4 : Value) (hg : Blk w gx 33 #[.string (strB nm), v1, v2, v3, v4]) :
    Calls Tryd.prog 20 #[fV x, .pointer (some ⟨gx, 0, none⟩)] w fun e w' => e = .returned (.bool (decide (x.1.name = nm))) ∧ Below w.heap.size w w' := by
  obtain ⟨⟨n1, bs, st, nd, gn⟩, A, n, cp⟩ := x
  unfold fV slv
  dsimp only
  have h3 : w.cell? ⟨gx, 0, none⟩ = some (.string (strB nm)) := by rw [hg.cell]; rfl
  have hz := hg.lt
  clear hg
  by_cases hn : n1 = nm
  · subst hn
    go_enter Tryd.func20, Tryd.ntmps20
    go_wp2
    go_ret
    exact ⟨ret_bool (by simp), (Below.refl _ _).alloc (Nat.le_refl _) _⟩
  · have f1 : (n1 == nm) = false := by simp [hn]
    have f2 : decide (n1 = nm) = false := decide_eq_false hn
    rw [f2]
    clear hn f2
    go_enter Tryd.func20, Tryd.ntmps20
    go_wp2
    go_ret
    exact ⟨rfl, (Below.refl _ _).alloc (Nat.le_refl _) _⟩
theorem enm : ∀ args w', (callFunc 20 args).run Tryd.prog w' = .ok (.enter 20 args) w' := enters_of Tryd.func20 (by kernel_rfl) rfl
/-- two rows of the call's own, apart -/
structure Two_ (W wr : World) (V1 V2 : Value) (s t : List Fx) : Prop where
  below : Below W.heap.size W wr
  r1 : wr.ownsRow W.heap.size 33 5 V1 s.length (s.flatMap fC)
  r2 : wr.ownsRow W.heap.size 33 5 V2 t.length (t.flatMap fC)
  ap : V1.ownBlock = none ∨ V1.ownBlock ≠ V2.ownBlock
theorem Two_.step {W wr w' : World} {V1 V2 : Value} {s t : List Fx} (h : Two_ W wr V1 V2 s t) (hb : Below wr.heap.size wr w') : Two_ W w' V1 V2 s t :=
  ⟨h.below.trans (hb.mono h.below.size), own_keep h.r1 hb, own_keep h.r2 hb, h.ap⟩
theorem Two_.put1 {W wr w' : World} {V1 V2 v' : Value} {s t : List Fx} {x : Fx} (h : Two_ W wr V1 V2 s t) (ho : w'.ownsRow W.heap.size 33 5 v' (s.length + 1) (s.flatMap fC ++ fC x)) (hg : wr.grownBy w' V1.ownBlock) (hl : v'.ownBlock = V1.ownBlock ∨ v'.ownBlock = some wr.heap.size) : Two_ W w' v' V2 (s ++ [x]) t := by
  refine ⟨own_below h.r1 hg h.below h.below.size, ?_, h.r2.kept hg ?_, ?_⟩
  · rw [List.length_append, List.flatMap_append]; simpa using ho
  · rcases h.ap with e | e
    · rw [e]; cases V2.ownBlock <;> simp
    · exact .inr (fun e' => e e'.symm)
  · rcases hl with e | e
    · rw [e]; exact h.ap
    · right
      intro e2
      have := (h.r2.lt _ (e2.symm.trans e)).2
      omega
theorem Two_.put2 {W wr w' : World} {V1 V2 v' : Value} {s t : List Fx} {x : Fx} (h : Two_ W wr V1 V2 s t) (ho : w'.ownsRow W.heap.size 33 5 v' (t.length + 1) (t.flatMap fC ++ fC x)) (hg : wr.grownBy w' V2.ownBlock) (hl : v'.ownBlock = V2.ownBlock ∨ v'.ownBlock = some wr.heap.size) : Two_ W w' V1 v' s (t ++ [x]) := by
  refine ⟨own_below h.r2 hg h.below h.below.size, h.r1.kept hg ?_, ?_, ?_⟩
  · exact h.ap
  · rw [List.length_append, List.flatMap_append]; simpa using ho
  · rcases hl with e | e
    · rw [e]; exact h.ap
    · rw [e]
      right
      intro e2
      have := (h.r1.lt _ e2).2
      omega
theorem shownR_fst (a : List Fl) : (shownR a).1 = chkF a := by unfold shownR; split <;> simp_all
theorem shownR_ok {a : List Fl} (h : chkF a = 0) : (shownR a).2 = shownL a := by unfold shownR; rw [if_neg (by simpa using h)]
theorem shownR_no {a : List Fl} (h : chkF a ≠ 0) : (shownR a).2 = [] := by unfold shownR; rw [if_pos h]
set_option maxRecDepth 100000 in
set_option maxHeartbeats 8000000 in
theorem walk (W : World) (hml : ML W) (v1 : Value) (a : List Fx) (h1 : IsFiles W v1 a) (v2 : Value) (b : List Fx) (h2 : IsFiles W v2 b) (hsz : a.length * 64 ≤ 140737488355328) :
    Calls Tryd.prog 5 #[v1, v2] W fun e W' => e = .returned (.bool true) ∧ Below W.heap.size W W' := by
  have HML := Lib.hid hml
  have HSh := Lib.hid (shown_fs v1 (a.map Prod.fst) W hml h1.fs)
  have HLe : Hid (∀ w, Below W.heap.size W w → Calls _ _ _ w _) := Lib.hid (fun w hb => less_fs v1 v2 (a.map Prod.fst) (b.map Prod.fst) w (hml.below hb) (h1.fs.below hb) (h2.fs.below hb))
  have HC1 : Hid (∀ w, Below W.heap.size W w → Calls _ _ _ w _) := Lib.hid (fun w hb => refCheck_any v1 a w (hml.below hb) (h1.below hb))
  have HC2 : Hid (∀ w, Below W.heap.size W w → Calls _ _ _ w _) := Lib.hid (fun w hb => refCheck_any v2 b w (hml.below hb) (h2.below hb))
  have HMe : Hid (∀ w, Below W.heap.size W w → Calls _ _ _ w _) := Lib.hid (fun w hb => merged_any w (hml.below hb))
  have HSa : Hid (∀ w u1 u2 l1 l2 (k1 : Fs w u1 l1) (k2 : Fs w u2 l2), Calls _ _ _ w _) := Lib.hid (fun w u1 u2 l1 l2 k1 k2 => same_fs u1 u2 l1 l2 w k1 k2)
  obtain ⟨A, c, rfl, ha1, ha2, hA, _, hda⟩ := h1
  obtain ⟨B, d, rfl, hb1, hb2, hB, _, hdb⟩ := h2
  have HA := Lib.hid hA
  have HB := Lib.hid hB
  have Hda := Lib.hid hda
  have Hdb := Lib.hid hdb
  obtain ⟨n, hn⟩ : ∃ n, n = a.length := ⟨_, rfl⟩
  obtain ⟨m, hm⟩ : ∃ m, m = b.length := ⟨_, rfl⟩
  have Hn := Lib.hid hn
  have Hm := Lib.hid hm
  obtain ⟨za, hza⟩ : ∃ z, z = chkF (a.map Prod.fst) := ⟨_, rfl⟩
  obtain ⟨zb, hzb⟩ : ∃ z, z = chkF (b.map Prod.fst) := ⟨_, rfl⟩
  have Hza := Lib.hid hza
  have Hzb := Lib.hid hzb
  obtain ⟨⟨zl, ll⟩, hlr⟩ : ∃ r, r = lessR (a.map Prod.fst) (b.map Prod.fst) := ⟨_, rfl⟩
  have Hlr := Lib.hid hlr
  have HshF := Lib.hid (shownR_fst (a.map Prod.fst))
  rw [HshF.out] at HSh
  rw [← hza] at HSh HC1
  rw [← hzb] at HC2
  rw [← hlr] at HLe
  rw [← hn] at HSh HLe HC1 hsz ha1 ⊢
  rw [← hm] at HLe HC2 hb1 ⊢
  unfold maxLen at ha2 hb2
  have hn63 : n ≤ 9223372036854775807 := by omega
  have hm63 : m ≤ 9223372036854775807 := by omega
  have Hmx : Hid (m ≤ maxLen) := Lib.hid (by unfold maxLen; omega)
  clear hml hA hda hB hdb hn hm hza hzb hlr ha1 ha2 hb1 hb2
  go_enter Tryd.func5, Tryd.ntmps5
  go_wp2_with fail
  refine (HSh.out).mono ?_
  rintro e w1 ⟨u5, rfl, hu5, hb1⟩
  obtain ⟨A5, c5, hs5⟩ := hu5.slice
  have Hu5 := Lib.hid hu5
  have Hs5 := Lib.hid hs5
  have Hb1 := Lib.hid hb1
  (try dsimp only)
  clear hu5 hb1 HSh hs5
  go_wp2_with fail
  refine (HLe.out _ Hb1.out).mono ?_
  rintro e w2 ⟨u7, rfl, hu7, hb2⟩
  have Hu7 := Lib.hid hu7
  have Hu5b := Lib.hid (Hu5.out.below hb2)
  have Hb2 := Lib.hid (stepN Hb1.out hb2)
  (try dsimp only)
  clear hu7 hb2 HLe Hu5
  go_wp2_with fail
  refine (HC1.out _ Hb2.out).mono ?_
  rintro e w3 ⟨rfl, hb3⟩
  have Hb3 := Lib.hid (stepN Hb2.out hb3)
  have Hu5c := Lib.hid (Hu5b.out.below hb3)
  have Hu7c := Lib.hid (Hu7.out.below hb3)
  clear hb3 HC1 Hu5b Hu7
  go_wp2_with fail
  refine (HMe.out _ Hb3.out).mono ?_
  rintro e w4 ⟨rfl, hb4⟩
  have Hb4 := Lib.hid (stepN Hb3.out hb4)
  have Hu5d := Lib.hid (Hu5c.out.below hb4)
  have Hu7d := Lib.hid (Hu7c.out.below hb4)
  clear hb4 HMe Hu5c Hu7c
  go_wp2_with fail
  go_loopw [10, 11, 37] (fun p10 p11 vi wr => ∃ k : Nat, k ≤ n ∧ vi = .int .i64 (k : Int) ∧ ∃ V1 : Value, V1 = p10 ∧ ∃ V2 : Value, V2 = p11 ∧ ∃ s t : List Fx, s = (a.take k).filter isHere ∧ t = (a.take k).filter (pNew b) ∧ s.length ≤ k ∧ t.length ≤ k ∧ Two_ w4 wr V1 V2 s t) (fun _ _ vi _ => n - (intOf vi).toNat)
  case atStart => exact ⟨0, Nat.zero_le _, rfl, _, rfl, _, rfl, [], [], rfl, rfl, by simp, by simp, ⟨Below.refl _ _, World.ownsRow_nil _ _ _ _, World.ownsRow_nil _ _ _ _, .inl rfl⟩⟩
  case round =>
    obtain ⟨k, hk, rfl, V1, rfl, V2, rfl, s, t, hs, ht, hsl, htl, hT⟩ := hrel
    have Hs := Lib.hid hs
    have Ht := Lib.hid ht
    have HT := Lib.hid hT
    have HbW := Lib.hid (stepN Hb4.out hT.below)
    clear hs ht hT
    by_cases hlt : k < n
    · have hkl : k < a.length := by rw [← Hn.out]; exact hlt
      obtain ⟨ba, oa, rfl, ca0, ca1, ca2, ca3, ca4⟩ := files_cells (HA.out.below HbW.out) hkl
      have Hf0 := Lib.hid (Hda.out a[k] (List.getElem_mem hkl))
      have HsS := Lib.hid (take_filt isHere hkl)
      have HtS := Lib.hid (take_filt (pNew b) hkl)
      generalize a[k] = x at *
      have HP1 := Lib.hid (fun (g : Fl) => pNew_some (b := b) (x := x) (g := g))
      have HP2 := Lib.hid (pNew_none (b := b) (x := x))
      obtain ⟨⟨nm, bs, st, nd, gn⟩, As, ln, cp⟩ := x
      simp only [slv] at ca0 ca1 ca2 ca3 ca4
      dsimp only at HP1 HP2
      obtain ⟨wf, hwf⟩ : ∃ wf, wf = wr.alloc (.cells #[.string (strB nm), .slice As ln cp, .int .i64 st, .int .i64 nd, .bool gn] 33) := ⟨_, rfl⟩
      obtain ⟨gf, hgf⟩ : ∃ gf, gf = wr.heap.size := ⟨_, rfl⟩
      have hbf : Below wr.heap.size wr wf := by rw [hwf]; exact (Below.refl _ _).alloc (Nat.le_refl _) _
      have HBf := Lib.hid (show Blk wf gf 33 #[.string (strB nm), .slice As ln cp, .int .i64 st, .int .i64 nd, .bool gn] by rw [hwf, hgf]; exact Blk.new _ _ _)
      have HTf := Lib.hid (HT.out.step hbf)
      have Hgf := Lib.hid hgf.symm
      have Hwf := Lib.hid hwf.symm
      have hs1 : (s.length + 1) * 64 ≤ 140737488355328 := by omega
      have ht1 : (t.length + 1) * 64 ≤ 140737488355328 := by omega
      cases gn with
      | true =>
        have HsN : Hid ((a.take (k + 1)).filter isHere = s) := Lib.hid (by rw [HsS.out, ← Hs.out]; simp [isHere])
        clear hwf hgf hbf
        have HbX_ := Lib.hid (stepN Hb4.out HTf.out.below)
        have HIx0 := Lib.hid (indexFunc_files B m d b 20 #[.pointer (some ⟨gf, 0, none⟩)] (fun y : Fx => decide (y.1.name = nm)) wf Hm.out.symm Hmx.out (HB.out.below HbX_.out) enm (fun y hy w' hb => nm_any y nm gf w' _ _ _ _ (HBf.out.below hb HBf.out.lt)))
        cases hlk : lk (b.map Prod.fst) nm with
        | none =>
          have HP := Lib.hid (HP2.out hlk)
          have hidx := idx_none hlk
          rw [hidx] at HIx0
          have HtN : Hid ((a.take (k + 1)).filter (pNew b) = t ++ [(⟨nm, bs, st, nd, true⟩, As, ln, cp)]) := Lib.hid (by rw [HtS.out, ← Ht.out, HP.out]; simp)
          clear hlk HP HP1 HP2 hidx
          go_wp2_with fail
          (try rw [Hwf.out])
          (try rw [Hgf.out])
          refine (HIx0.out).mono ?_
          rintro e w11 ⟨rfl, hb11⟩
          have HB11 := Lib.hid (HBf.out.below hb11 HBf.out.lt)
          have HT11 := Lib.hid (HTf.out.step hb11)
          clear hb11 HIx0
          go_wp2_with fail
          refine wp_region_below (by kernel_rfl) (by kernel_rfl) ?_
          repeat (quiet_step (fail))
          refine wpQuiet_nil ?_
          intro w12 hq
          have Hb12 : Hid (Below w11.heap.size w11 w12) := Lib.hid (by obtain ⟨p, hp⟩ := hq; rw [hp]; exact p.h)
          clear hq
          have HB12 := Lib.hid (HB11.out.below Hb12.out HB11.out.lt)
          have HT12 := Lib.hid (HT11.out.step Hb12.out)
          obtain ⟨ex0, ex1, ex2, ex3, ex4⟩ := blk5 HB12.out
          clear HB11 HT11 HB12
          obtain ⟨w13, hw13⟩ : ∃ w13, w13 = w12.alloc (.cells #[.string (strB nm), .slice As ln cp, .int .i64 st, .int .i64 nd, .bool true] 33) := ⟨_, rfl⟩
          have hb13 : Below w12.heap.size w12 w13 := by rw [hw13]; exact (Below.refl _ _).alloc (Nat.le_refl _) _
          have HT13 := Lib.hid (HT12.out.step hb13)
          have Hsl13 : Hid (SlAt w13 (some ⟨w12.heap.size, 0, none⟩) [.string (strB nm), .slice As ln cp, .int .i64 st, .int .i64 nd, .bool true]) := Lib.hid (by rw [hw13]; exact SlAt.of_heap (heap_alloc_new w12 _) rfl)
          have Hw13 := Lib.hid hw13.symm
          clear hw13 hb13 HT12
          go_wp2_with (at_builtin; rw [Hw13.out]; refine wpList_app _ rfl (.tmp 62) (.tmp 64) _ rfl w4.heap.size 33 _ 5 64 tyF _ t.length (t.flatMap fC) rfl HT13.out.r2 (some ⟨w12.heap.size, 0, none⟩) 1 1 [.string (strB nm), .slice As ln cp, .int .i64 st, .int .i64 nd, .bool true] rfl rfl Hsl13.out (by simp [Value.oneCell']) (by simp) (by unfold maxLen; omega) (by omega) HT13.out.below.size ?_; intro v14 w14 hown14 hg14 hl14; have Ho14 := Lib.hid hown14; have Hg14 := Lib.hid hg14; have Hl14 := Lib.hid hl14; clear hown14 hg14 hl14)
          have HT14 := Lib.hid (HT13.out.put2 (x := (⟨nm, bs, st, nd, true⟩, As, ln, cp)) Ho14.out Hg14.out Hl14.out)
          clear ex0 ex1 ex2 ex3 ex4
          go_roundw
          case rel => exact ⟨k + 1, by omega, by go_num, _, rfl, _, rfl, _, _, HsN.out.symm, HtN.out.symm, by omega, by simp; omega, HT14.out⟩
          case measure => simp [intOf]; omega
        | some g =>
          obtain ⟨j, hj, hidx, hjg⟩ := idx_some hlk
          have HP := Lib.hid (HP1.out _ hlk)
          rw [hidx] at HIx0
          obtain ⟨bb, ob, rfl, hcb⟩ := slat_elem (size := 5) fC_len (by omega) HB.out hj
          have Hfy := Lib.hid (Hdb.out b[j] (List.getElem_mem hj))
          have hjm : j < m := by rw [Hm.out]; exact hj
          obtain ⟨y, hy⟩ : ∃ y, y = b[j] := ⟨_, rfl⟩
          rw [← hy] at hcb Hfy hjg
          subst hjg
          obtain ⟨⟨n2, b2, s2, d2, g2⟩, A2, l2, c2⟩ := y
          have Hcb := Lib.hid hcb
          have hj0 : ¬ (j : Int) < 0 := by omega
          clear hlk HP1 HP2 hidx hj hcb hy
          go_wp2_with fail
          (try rw [Hwf.out])
          (try rw [Hgf.out])
          refine (HIx0.out).mono ?_
          rintro e w11 ⟨rfl, hb11⟩
          have HB11 := Lib.hid (HBf.out.below hb11 HBf.out.lt)
          have HT11 := Lib.hid (HTf.out.step hb11)
          have HbW11 := Lib.hid (stepN HbX_.out hb11)
          have Hx11 : Hid (FileAt w11 (⟨nm, bs, st, nd, true⟩, As, ln, cp)) := Lib.hid (Hf0.out.below HbW11.out)
          have Hy11 := Lib.hid (Hfy.out.below HbW11.out)
          obtain ⟨ex0, ex1, ex2, ex3, ex4⟩ := blk5 HB11.out
          have p0 := fun p : BelowBy w11 => BelowBy.cell ex0 p
          have p1 := fun p : BelowBy w11 => BelowBy.cell ex1 p
          have p2 := fun p : BelowBy w11 => BelowBy.cell ex2 p
          have p3 := fun p : BelowBy w11 => BelowBy.cell ex3 p
          have p4 := fun p : BelowBy w11 => BelowBy.cell ex4 p
          have q0 := fun p : BelowBy w11 => BelowBy.cell (cell_below HbW11.out (show W.cell? ⟨bb, ob + j * 5, none⟩ = some (.string (strB n2)) from Hcb.out 0 _ rfl)) p
          have q1 := fun p : BelowBy w11 => BelowBy.cell (cell_below HbW11.out (show W.cell? ⟨bb, ob + j * 5 + 1, none⟩ = some (.slice A2 l2 c2) from Hcb.out 1 _ rfl)) p
          have q2 := fun p : BelowBy w11 => BelowBy.cell (cell_below HbW11.out (show W.cell? ⟨bb, ob + j * 5 + 2, none⟩ = some (.int .i64 s2) from Hcb.out 2 _ rfl)) p
          have q3 := fun p : BelowBy w11 => BelowBy.cell (cell_below HbW11.out (show W.cell? ⟨bb, ob + j * 5 + 3, none⟩ = some (.int .i64 d2) from Hcb.out 3 _ rfl)) p
          have q4 := fun p : BelowBy w11 => BelowBy.cell (cell_below HbW11.out (show W.cell? ⟨bb, ob + j * 5 + 4, none⟩ = some (.bool g2) from Hcb.out 4 _ rfl)) p
          clear hb11 HIx0 ex0 ex1 ex2 ex3 ex4
          go_wp2_with fail
          refine wp_region_below (by kernel_rfl) (by kernel_rfl) ?_
          repeat (quiet_step (exact belowBy_calls (refLater_any (⟨nm, bs, st, nd, true⟩, As, ln, cp) (⟨n2, b2, s2, d2, g2⟩, A2, l2, c2) _ (Hx11.out.below (BelowBy.h _)) (Hy11.out.below (BelowBy.h _)))))
          refine wpQuiet_nil ?_
          intro w12 hq
          have Hb12 : Hid (Below w11.heap.size w11 w12) := Lib.hid (by obtain ⟨p, hp⟩ := hq; rw [hp]; exact p.h)
          clear hq p0 p1 p2 p3 p4 q0 q1 q2 q3 q4
          obtain ⟨z, hz⟩ : ∃ z, later (⟨nm, bs, st, nd, true⟩ : Fl) ⟨n2, b2, s2, d2, g2⟩ = z := ⟨_, rfl⟩
          try simp only
          rw [hz]
          have HP3 : Hid (pNew b (⟨nm, bs, st, nd, true⟩, As, ln, cp) = decide (0 < z)) := Lib.hid (by rw [HP.out, hz])
          clear hz HP
          by_cases h0 : 0 < z
          · have HtN : Hid ((a.take (k + 1)).filter (pNew b) = t ++ [(⟨nm, bs, st, nd, true⟩, As, ln, cp)]) := Lib.hid (by rw [HtS.out, ← Ht.out, HP3.out, decide_eq_true h0]; simp)
            clear HP3
            have HB12 := Lib.hid (HB11.out.below Hb12.out HB11.out.lt)
            have HT12 := Lib.hid (HT11.out.step Hb12.out)
            obtain ⟨ex0, ex1, ex2, ex3, ex4⟩ := blk5 HB12.out
            clear HB11 HT11 HB12
            obtain ⟨w13, hw13⟩ : ∃ w13, w13 = w12.alloc (.cells #[.string (strB nm), .slice As ln cp, .int .i64 st, .int .i64 nd, .bool true] 33) := ⟨_, rfl⟩
            have hb13 : Below w12.heap.size w12 w13 := by rw [hw13]; exact (Below.refl _ _).alloc (Nat.le_refl _) _
            have HT13 := Lib.hid (HT12.out.step hb13)
            have Hsl13 : Hid (SlAt w13 (some ⟨w12.heap.size, 0, none⟩) [.string (strB nm), .slice As ln cp, .int .i64 st, .int .i64 nd, .bool true]) := Lib.hid (by rw [hw13]; exact SlAt.of_heap (heap_alloc_new w12 _) rfl)
            have Hw13 := Lib.hid hw13.symm
            clear hw13 hb13 HT12
            go_wp2_with (at_builtin; rw [Hw13.out]; refine wpList_app _ rfl (.tmp 62) (.tmp 64) _ rfl w4.heap.size 33 _ 5 64 tyF _ t.length (t.flatMap fC) rfl HT13.out.r2 (some ⟨w12.heap.size, 0, none⟩) 1 1 [.string (strB nm), .slice As ln cp, .int .i64 st, .int .i64 nd, .bool true] rfl rfl Hsl13.out (by simp [Value.oneCell']) (by simp) (by unfold maxLen; omega) (by omega) HT13.out.below.size ?_; intro v14 w14 hown14 hg14 hl14; have Ho14 := Lib.hid hown14; have Hg14 := Lib.hid hg14; have Hl14 := Lib.hid hl14; clear hown14 hg14 hl14)
            have HT14 := Lib.hid (HT13.out.put2 (x := (⟨nm, bs, st, nd, true⟩, As, ln, cp)) Ho14.out Hg14.out Hl14.out)
            clear ex0 ex1 ex2 ex3 ex4
            go_roundw
            case rel => exact ⟨k + 1, by omega, by go_num, _, rfl, _, rfl, _, _, HsN.out.symm, HtN.out.symm, by omega, by simp; omega, HT14.out⟩
            case measure => simp [intOf]; omega
          · have HtN : Hid ((a.take (k + 1)).filter (pNew b) = t) := Lib.hid (by rw [HtS.out, ← Ht.out, HP3.out, decide_eq_false h0]; simp)
            clear HP3
            have HB12 := Lib.hid (HB11.out.below Hb12.out HB11.out.lt)
            have HT12 := Lib.hid (HT11.out.step Hb12.out)
            obtain ⟨ex0, ex1, ex2, ex3, ex4⟩ := blk5 HB12.out
            clear HB11 HT11 HB12
            clear ex0 ex1 ex2 ex3 ex4
            go_wp2_with fail
            go_roundw
            case rel => exact ⟨k + 1, by omega, by go_num, _, rfl, _, rfl, _, _, HsN.out.symm, HtN.out.symm, by omega, by omega, HT12.out⟩
            case measure => simp [intOf]; omega
      | false =>
        have HsN : Hid ((a.take (k + 1)).filter isHere = s ++ [(⟨nm, bs, st, nd, false⟩, As, ln, cp)]) := Lib.hid (by rw [HsS.out, ← Hs.out]; simp [isHere])
        obtain ⟨w9, hw9⟩ : ∃ w9, w9 = wf.alloc (.cells #[.string (strB nm), .slice As ln cp, .int .i64 st, .int .i64 nd, .bool false] 33) := ⟨_, rfl⟩
        have hb9 : Below wf.heap.size wf w9 := by rw [hw9]; exact (Below.refl _ _).alloc (Nat.le_refl _) _
        have HT9 := Lib.hid (HTf.out.step hb9)
        have HBf9 := Lib.hid (HBf.out.below hb9 HBf.out.lt)
        have Hsl9 : Hid (SlAt w9 (some ⟨wr.heap.size + 1, 0, none⟩) [.string (strB nm), .slice As ln cp, .int .i64 st, .int .i64 nd, .bool false]) := Lib.hid (by
          have e : wr.heap.size + 1 = wf.heap.size := by rw [hwf]; simp
          rw [hw9, e]; exact SlAt.of_heap (heap_alloc_new wf _) rfl)
        have Hw9 := Lib.hid (show (wr.alloc (.cells #[.string (strB nm), .slice As ln cp, .int .i64 st, .int .i64 nd, .bool false] 33)).alloc (.cells #[.string (strB nm), .slice As ln cp, .int .i64 st, .int .i64 nd, .bool false] 33) = w9 by rw [hw9, hwf])
        have HVb : Hid (∀ g, V1.ownBlock = some g → g < gf) := Lib.hid (fun g hg => by
          have := (HT.out.r1.lt g hg).2
          rw [hgf]; exact this)
        clear hwf hgf hbf hw9 hb9 HTf HBf
        go_wp2_with (at_builtin; rw [Hw9.out]; refine wpList_app _ rfl (.tmp 44) (.tmp 46) _ rfl w4.heap.size 33 _ 5 64 tyF _ s.length (s.flatMap fC) rfl HT9.out.r1 (some ⟨wr.heap.size + 1, 0, none⟩) 1 1 [.string (strB nm), .slice As ln cp, .int .i64 st, .int .i64 nd, .bool false] rfl rfl Hsl9.out (by simp [Value.oneCell']) (by simp) (by unfold maxLen; omega) (by omega) HT9.out.below.size ?_; intro v10 w10 hown10 hg10 hl10; have Ho10 := Lib.hid hown10; have Hg10 := Lib.hid hg10; have Hl10 := Lib.hid hl10; clear hown10 hg10 hl10)
        have HTa := Lib.hid (HT9.out.put1 (x := (⟨nm, bs, st, nd, false⟩, As, ln, cp)) Ho10.out Hg10.out Hl10.out)
        have HBa := Lib.hid (HBf9.out.grown Hg10.out (fun e => by have := HVb.out _ e; omega))
        clear HT9 HBf9 Hsl9 HVb Ho10 Hg10 Hl10
        have HbX_ := Lib.hid (stepN Hb4.out HTa.out.below)
        have HIx0 := Lib.hid (indexFunc_files B m d b 20 #[.pointer (some ⟨gf, 0, none⟩)] (fun y : Fx => decide (y.1.name = nm)) w10 Hm.out.symm Hmx.out (HB.out.below HbX_.out) enm (fun y hy w' hb => nm_any y nm gf w' _ _ _ _ (HBa.out.below hb HBa.out.lt)))
        cases hlk : lk (b.map Prod.fst) nm with
        | none =>
          have HP := Lib.hid (HP2.out hlk)
          have hidx := idx_none hlk
          rw [hidx] at HIx0
          have HtN : Hid ((a.take (k + 1)).filter (pNew b) = t ++ [(⟨nm, bs, st, nd, false⟩, As, ln, cp)]) := Lib.hid (by rw [HtS.out, ← Ht.out, HP.out]; simp)
          clear hlk HP HP1 HP2 hidx
          go_wp2_with fail
          (try rw [Hwf.out])
          (try rw [Hgf.out])
          refine (HIx0.out).mono ?_
          rintro e w11 ⟨rfl, hb11⟩
          have HB11 := Lib.hid (HBa.out.below hb11 HBa.out.lt)
          have HT11 := Lib.hid (HTa.out.step hb11)
          clear hb11 HIx0
          go_wp2_with fail
          refine wp_region_below (by kernel_rfl) (by kernel_rfl) ?_
          repeat (quiet_step (fail))
          refine wpQuiet_nil ?_
          intro w12 hq
          have Hb12 : Hid (Below w11.heap.size w11 w12) := Lib.hid (by obtain ⟨p, hp⟩ := hq; rw [hp]; exact p.h)
          clear hq
          have HB12 := Lib.hid (HB11.out.below Hb12.out HB11.out.lt)
          have HT12 := Lib.hid (HT11.out.step Hb12.out)
          obtain ⟨ex0, ex1, ex2, ex3, ex4⟩ := blk5 HB12.out
          clear HB11 HT11 HB12
          obtain ⟨w13, hw13⟩ : ∃ w13, w13 = w12.alloc (.cells #[.string (strB nm), .slice As ln cp, .int .i64 st, .int .i64 nd, .bool false] 33) := ⟨_, rfl⟩
          have hb13 : Below w12.heap.size w12 w13 := by rw [hw13]; exact (Below.refl _ _).alloc (Nat.le_refl _) _
          have HT13 := Lib.hid (HT12.out.step hb13)
          have Hsl13 : Hid (SlAt w13 (some ⟨w12.heap.size, 0, none⟩) [.string (strB nm), .slice As ln cp, .int .i64 st, .int .i64 nd, .bool false]) := Lib.hid (by rw [hw13]; exact SlAt.of_heap (heap_alloc_new w12 _) rfl)
          have Hw13 := Lib.hid hw13.symm
          clear hw13 hb13 HT12
          go_wp2_with (at_builtin; rw [Hw13.out]; refine wpList_app _ rfl (.tmp 62) (.tmp 64) _ rfl w4.heap.size 33 _ 5 64 tyF _ t.length (t.flatMap fC) rfl HT13.out.r2 (some ⟨w12.heap.size, 0, none⟩) 1 1 [.string (strB nm), .slice As ln cp, .int .i64 st, .int .i64 nd, .bool false] rfl rfl Hsl13.out (by simp [Value.oneCell']) (by simp) (by unfold maxLen; omega) (by omega) HT13.out.below.size ?_; intro v14 w14 hown14 hg14 hl14; have Ho14 := Lib.hid hown14; have Hg14 := Lib.hid hg14; have Hl14 := Lib.hid hl14; clear hown14 hg14 hl14)
          have HT14 := Lib.hid (HT13.out.put2 (x := (⟨nm, bs, st, nd, false⟩, As, ln, cp)) Ho14.out Hg14.out Hl14.out)
          clear ex0 ex1 ex2 ex3 ex4
          go_roundw
          case rel => exact ⟨k + 1, by omega, by go_num, _, rfl, _, rfl, _, _, HsN.out.symm, HtN.out.symm, by simp; omega, by simp; omega, HT14.out⟩
          case measure => simp [intOf]; omega
        | some g =>
          obtain ⟨j, hj, hidx, hjg⟩ := idx_some hlk
          have HP := Lib.hid (HP1.out _ hlk)
          rw [hidx] at HIx0
          obtain ⟨bb, ob, rfl, hcb⟩ := slat_elem (size := 5) fC_len (by omega) HB.out hj
          have Hfy := Lib.hid (Hdb.out b[j] (List.getElem_mem hj))
          have hjm : j < m := by rw [Hm.out]; exact hj
          obtain ⟨y, hy⟩ : ∃ y, y = b[j] := ⟨_, rfl⟩
          rw [← hy] at hcb Hfy hjg
          subst hjg
          obtain ⟨⟨n2, b2, s2, d2, g2⟩, A2, l2, c2⟩ := y
          have Hcb := Lib.hid hcb
          have hj0 : ¬ (j : Int) < 0 := by omega
          clear hlk HP1 HP2 hidx hj hcb hy
          go_wp2_with fail
          (try rw [Hwf.out])
          (try rw [Hgf.out])
          refine (HIx0.out).mono ?_
          rintro e w11 ⟨rfl, hb11⟩
          have HB11 := Lib.hid (HBa.out.below hb11 HBa.out.lt)
          have HT11 := Lib.hid (HTa.out.step hb11)
          have HbW11 := Lib.hid (stepN HbX_.out hb11)
          have Hx11 : Hid (FileAt w11 (⟨nm, bs, st, nd, false⟩, As, ln, cp)) := Lib.hid (Hf0.out.below HbW11.out)
          have Hy11 := Lib.hid (Hfy.out.below HbW11.out)
          obtain ⟨ex0, ex1, ex2, ex3, ex4⟩ := blk5 HB11.out
          have p0 := fun p : BelowBy w11 => BelowBy.cell ex0 p
          have p1 := fun p : BelowBy w11 => BelowBy.cell ex1 p
          have p2 := fun p : BelowBy w11 => BelowBy.cell ex2 p
          have p3 := fun p : BelowBy w11 => BelowBy.cell ex3 p
          have p4 := fun p : BelowBy w11 => BelowBy.cell ex4 p
          have q0 := fun p : BelowBy w11 => BelowBy.cell (cell_below HbW11.out (show W.cell? ⟨bb, ob + j * 5, none⟩ = some (.string (strB n2)) from Hcb.out 0 _ rfl)) p
          have q1 := fun p : BelowBy w11 => BelowBy.cell (cell_below HbW11.out (show W.cell? ⟨bb, ob + j * 5 + 1, none⟩ = some (.slice A2 l2 c2) from Hcb.out 1 _ rfl)) p
          have q2 := fun p : BelowBy w11 => BelowBy.cell (cell_below HbW11.out (show W.cell? ⟨bb, ob + j * 5 + 2, none⟩ = some (.int .i64 s2) from Hcb.out 2 _ rfl)) p
          have q3 := fun p : BelowBy w11 => BelowBy.cell (cell_below HbW11.out (show W.cell? ⟨bb, ob + j * 5 + 3, none⟩ = some (.int .i64 d2) from Hcb.out 3 _ rfl)) p
          have q4 := fun p : BelowBy w11 => BelowBy.cell (cell_below HbW11.out (show W.cell? ⟨bb, ob + j * 5 + 4, none⟩ = some (.bool g2) from Hcb.out 4 _ rfl)) p
          clear hb11 HIx0 ex0 ex1 ex2 ex3 ex4
          go_wp2_with fail
          refine wp_region_below (by kernel_rfl) (by kernel_rfl) ?_
          repeat (quiet_step (exact belowBy_calls (refLater_any (⟨nm, bs, st, nd, false⟩, As, ln, cp) (⟨n2, b2, s2, d2, g2⟩, A2, l2, c2) _ (Hx11.out.below (BelowBy.h _)) (Hy11.out.below (BelowBy.h _)))))
          refine wpQuiet_nil ?_
          intro w12 hq
          have Hb12 : Hid (Below w11.heap.size w11 w12) := Lib.hid (by obtain ⟨p, hp⟩ := hq; rw [hp]; exact p.h)
          clear hq p0 p1 p2 p3 p4 q0 q1 q2 q3 q4
          obtain ⟨z, hz⟩ : ∃ z, later (⟨nm, bs, st, nd, false⟩ : Fl) ⟨n2, b2, s2, d2, g2⟩ = z := ⟨_, rfl⟩
          try simp only
          rw [hz]
          have HP3 : Hid (pNew b (⟨nm, bs, st, nd, false⟩, As, ln, cp) = decide (0 < z)) := Lib.hid (by rw [HP.out, hz])
          clear hz HP
          by_cases h0 : 0 < z
          · have HtN : Hid ((a.take (k + 1)).filter (pNew b) = t ++ [(⟨nm, bs, st, nd, false⟩, As, ln, cp)]) := Lib.hid (by rw [HtS.out, ← Ht.out, HP3.out, decide_eq_true h0]; simp)
            clear HP3
            have HB12 := Lib.hid (HB11.out.below Hb12.out HB11.out.lt)
            have HT12 := Lib.hid (HT11.out.step Hb12.out)
            obtain ⟨ex0, ex1, ex2, ex3, ex4⟩ := blk5 HB12.out
            clear HB11 HT11 HB12
            obtain ⟨w13, hw13⟩ : ∃ w13, w13 = w12.alloc (.cells #[.string (strB nm), .slice As ln cp, .int .i64 st, .int .i64 nd, .bool false] 33) := ⟨_, rfl⟩
            have hb13 : Below w12.heap.size w12 w13 := by rw [hw13]; exact (Below.refl _ _).alloc (Nat.le_refl _) _
            have HT13 := Lib.hid (HT12.out.step hb13)
            have Hsl13 : Hid (SlAt w13 (some ⟨w12.heap.size, 0, none⟩) [.string (strB nm), .slice As ln cp, .int .i64 st, .int .i64 nd, .bool false]) := Lib.hid (by rw [hw13]; exact SlAt.of_heap (heap_alloc_new w12 _) rfl)
            have Hw13 := Lib.hid hw13.symm
            clear hw13 hb13 HT12
            go_wp2_with (at_builtin; rw [Hw13.out]; refine wpList_app _ rfl (.tmp 62) (.tmp 64) _ rfl w4.heap.size 33 _ 5 64 tyF _ t.length (t.flatMap fC) rfl HT13.out.r2 (some ⟨w12.heap.size, 0, none⟩) 1 1 [.string (strB nm), .slice As ln cp, .int .i64 st, .int .i64 nd, .bool false] rfl rfl Hsl13.out (by simp [Value.oneCell']) (by simp) (by unfold maxLen; omega) (by omega) HT13.out.below.size ?_; intro v14 w14 hown14 hg14 hl14; have Ho14 := Lib.hid hown14; have Hg14 := Lib.hid hg14; have Hl14 := Lib.hid hl14; clear hown14 hg14 hl14)
            have HT14 := Lib.hid (HT13.out.put2 (x := (⟨nm, bs, st, nd, false⟩, As, ln, cp)) Ho14.out Hg14.out Hl14.out)
            clear ex0 ex1 ex2 ex3 ex4
            go_roundw
            case rel => exact ⟨k + 1, by omega, by go_num, _, rfl, _, rfl, _, _, HsN.out.symm, HtN.out.symm, by simp; omega, by simp; omega, HT14.out⟩
            case measure => simp [intOf]; omega
          · have HtN : Hid ((a.take (k + 1)).filter (pNew b) = t) := Lib.hid (by rw [HtS.out, ← Ht.out, HP3.out, decide_eq_false h0]; simp)
            clear HP3
            have HB12 := Lib.hid (HB11.out.below Hb12.out HB11.out.lt)
            have HT12 := Lib.hid (HT11.out.step Hb12.out)
            obtain ⟨ex0, ex1, ex2, ex3, ex4⟩ := blk5 HB12.out
            clear HB11 HT11 HB12
            clear ex0 ex1 ex2 ex3 ex4
            go_wp2_with fail
            go_roundw
            case rel => exact ⟨k + 1, by omega, by go_num, _, rfl, _, rfl, _, _, HsN.out.symm, HtN.out.symm, by simp; omega, by omega, HT12.out⟩
            case measure => simp [intOf]; omega
    · obtain rfl : k = n := by omega
      have hz0 : k = k := rfl
      clear hz0
      have HF1 : Hid (Fs wr V1 (shownL (a.map Prod.fst))) := Lib.hid (by
        have hs := Hs.out
        rw [List.take_of_length_le (by rw [← Hn.out]; exact Nat.le_refl _)] at hs
        have := (own_files HT.out.r1 rfl (fun x hx => (Hda.out x (by rw [hs] at hx; exact (List.mem_filter.1 hx).1)).below HbW.out)).fs
        rwa [hs, here_map] at this)
      have HF2 : Hid (Fs wr V2 (lessL (a.map Prod.fst) (b.map Prod.fst))) := Lib.hid (by
        have ht := Ht.out
        rw [List.take_of_length_le (by rw [← Hn.out]; exact Nat.le_refl _)] at ht
        have := (own_files HT.out.r2 rfl (fun x hx => (Hda.out x (by rw [ht] at hx; exact (List.mem_filter.1 hx).1)).below HbW.out)).fs
        rwa [ht, less_map] at this)
      have HU5 := Lib.hid (Hu5d.out.below HT.out.below)
      have HU7 := Lib.hid (Hu7d.out.below HT.out.below)
      by_cases hz : za = 0
      · have hz' : chkF (a.map Prod.fst) = 0 := by rw [← Hza.out]; exact hz
        have HU5s : Hid (Fs wr u5 (shownL (a.map Prod.fst))) := Lib.hid (by have := HU5.out; rwa [shownR_ok hz'] at this)
        have Hz' := Lib.hid hz'
        subst za
        clear hz'
        go_wp2_with fail
        refine (HSa.out _ _ _ _ _ HU5s.out HF1.out).mono ?_
        rintro e w5 ⟨rfl, hb5⟩
        rw [sameL_self]
        have HbW5 := Lib.hid (stepN HbW.out hb5)
        have HF25 := Lib.hid (HF2.out.below hb5)
        have HU75 := Lib.hid (HU7.out.below hb5)
        clear hb5
        go_wp2_with fail
        refine (HC2.out _ HbW5.out).mono ?_
        rintro e w6 ⟨rfl, hb6⟩
        have HbW6 := Lib.hid (stepN HbW5.out hb6)
        have HF26 := Lib.hid (HF25.out.below hb6)
        have HU76 := Lib.hid (HU75.out.below hb6)
        clear hb6
        by_cases hz2 : zb = 0
        · have hl := Hlr.out
          rw [lessR_3 Hz'.out (by rw [← Hzb.out]; exact hz2)] at hl
          injection hl with e1 e2
          subst zb
          subst zl
          subst ll
          go_wp2_with fail
          refine (HSa.out _ _ _ _ _ HU76.out HF26.out).mono ?_
          rintro e w7 ⟨rfl, hb7⟩
          rw [sameL_self]
          have HbW7 := Lib.hid (stepN HbW6.out hb7)
          clear hb7
          go_wp2_with fail
          go_ret
          exact ⟨rfl, HbW7.out⟩
        · have hl := Hlr.out
          rw [lessR_2 Hz'.out (by rw [← Hzb.out]; exact hz2), ← Hzb.out] at hl
          injection hl with e1 e2
          subst zl
          subst ll
          obtain ⟨A7, c7, h7⟩ := HU76.out.slice
          subst h7
          have hz3 : (zb != 0) = true := by simpa using hz2
          have hz4 : (zb == 0) = false := by simpa using hz2
          rw [List.length_nil]
          clear hz2
          go_wp2_with fail
          go_ret
          exact ⟨rfl, HbW6.out⟩
      · have hz' : chkF (a.map Prod.fst) ≠ 0 := by rw [← Hza.out]; exact hz
        have hl := Hlr.out
        rw [lessR_1 hz', ← Hza.out] at hl
        injection hl with e1 e2
        subst zl
        subst ll
        have h5 := HU5.out
        rw [shownR_no hz'] at h5
        obtain ⟨A5', c5', h5'⟩ := h5.slice
        subst h5'
        obtain ⟨A7, c7, h7⟩ := HU7.out.slice
        subst h7
        have hz3 : (za != 0) = true := by simpa using hz
        have hz4 : (za == 0) = false := by simpa using hz
        rw [List.length_nil]
        clear hz hz' h5
        go_wp2_with fail
        go_ret
        exact ⟨rfl, HbW.out⟩
end Go.Proofs.YtdoegpklephelaaDoor.MergeShown
