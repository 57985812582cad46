/- reliquarylaw.MergeBoth: the walk. -/
import Derived.Test.YtdoegpklephelaaDoorMergeSays
import Derived.Test.YtdoegpklephelaaDoorRefs
import Derived.Test.YtdoegpklephelaaDoorMerged
import Derived.Test.YtdoegpklephelaaDoorSameFiles
namespace Go.Proofs.YtdoegpklephelaaDoor.MergeBoth
open Go Go.RowKit Go.Proofs.YtdoegpklephelaaDoor Go.Proofs.YtdoegpklephelaaDoor.Name Go.Proofs.YtdoegpklephelaaDoor.Merge Go.Proofs.YtdoegpklephelaaDoor.Worlds
set_option linter.unusedVariables false

set_option maxRecDepth 100000 in
set_option maxHeartbeats 8000000 in
theorem walk (W : World) (hml : ML W) (v1 : Value) (a : List Fx) (h1 : IsFiles W v1 a) (k1 : FsK sizedK a) (v2 : Value) (b : List Fx) (h2 : IsFiles W v2 b) (k2 : FsK sizedK b) (v3 : Value) (x : Fx) (h3 : v3 = fV x ∧ FileAt W x) (v4 : Value) (y : Fx) (h4 : v4 = fV y ∧ FileAt W y) :
    Calls Tryd.prog 6 #[v1, v2, v3, v4] W fun e W' => e = .returned (.bool true) ∧ Below W.heap.size W W' := by
  obtain ⟨rfl, h3⟩ := h3
  obtain ⟨rfl, h4⟩ := h4
  have HML := Lib.hid hml
  have H1 := Lib.hid h1
  have H2 := Lib.hid h2
  have H3 := Lib.hid h3
  have H4 := Lib.hid h4
  have K1 := Lib.hid k1
  have K2 := Lib.hid k2
  obtain ⟨A, ca, rfl, _⟩ := h1
  obtain ⟨B, cb_, rfl, _⟩ := h2
  obtain ⟨n, hn⟩ : ∃ n, n = a.length := ⟨_, rfl⟩
  obtain ⟨m, hm⟩ : ∃ m, m = b.length := ⟨_, rfl⟩
  rw [← hn] at H1 ⊢
  rw [← hm] at H2 ⊢
  obtain ⟨la, hla⟩ : ∃ l, l = a.map Prod.fst := ⟨_, rfl⟩
  obtain ⟨lb, hlb⟩ : ∃ l, l = b.map Prod.fst := ⟨_, rfl⟩
  have Hla := Lib.hid hla
  have Hlb := Lib.hid hlb
  obtain ⟨⟨er, ll⟩, hr⟩ : ∃ r, r = bothR la lb := ⟨_, rfl⟩
  obtain ⟨⟨ep, lp⟩, hp⟩ : ∃ r, r = bothR la [x.1] := ⟨_, rfl⟩
  have Hr := Lib.hid hr
  have Hp := Lib.hid hp
  obtain ⟨⟨n1, b1, s1, d1, g1⟩, A1, l1, c1⟩ := x
  obtain ⟨⟨n2, b2, s2, d2, g2⟩, A2, l2, c2⟩ := y
  unfold fV slv
  dsimp only at Hp ⊢
  obtain ⟨w0, hw0⟩ : ∃ w0, w0 = ((W.alloc (.cells #[.slice A n ca] 22)).alloc (.cells #[.string (strB n1), .slice A1 l1 c1, .int .i64 s1, .int .i64 d1, .bool g1] 33)).alloc (.cells #[.string (strB n2), .slice A2 l2 c2, .int .i64 s2, .int .i64 d2, .bool g2] 33) := ⟨_, rfl⟩
  obtain ⟨g, hg⟩ : ∃ g, g = W.heap.size := ⟨_, rfl⟩
  have hb0 : Below W.heap.size W w0 := by rw [hw0]; exact (((Below.refl _ _).alloc (Nat.le_refl _) _).alloc (by simp) _).alloc (by simp; omega) _
  have B4 : Blk w0 g 22 #[.slice A n ca] := by rw [hw0, hg]; exact ((Blk.new _ _ _).alloc _).alloc _
  have B6 : Blk w0 (g + 1) 33 #[.string (strB n1), .slice A1 l1 c1, .int .i64 s1, .int .i64 d1, .bool g1] := by
    have := (Blk.new (W.alloc (.cells #[.slice A n ca] 22)) 33 #[.string (strB n1), .slice A1 l1 c1, .int .i64 s1, .int .i64 d1, .bool g1]).alloc (.cells #[.string (strB n2), .slice A2 l2 c2, .int .i64 s2, .int .i64 d2, .bool g2] 33)
    rw [hw0, hg]
    simpa using this
  have B7 : Blk w0 (g + 1 + 1) 33 #[.string (strB n2), .slice A2 l2 c2, .int .i64 s2, .int .i64 d2, .bool g2] := by
    have := Blk.new ((W.alloc (.cells #[.slice A n ca] 22)).alloc (.cells #[.string (strB n1), .slice A1 l1 c1, .int .i64 s1, .int .i64 d1, .bool g1] 33)) 33 #[.string (strB n2), .slice A2 l2 c2, .int .i64 s2, .int .i64 d2, .bool g2]
    rw [hw0, hg]
    simpa using this
  have Hb0 := Lib.hid hb0
  have HB4 := Lib.hid B4
  have HB6 := Lib.hid B6
  have HB7 := Lib.hid B7
  have HOw : Hid (∀ w, Below W.heap.size W w → Calls Tryd.prog 22 #[.slice A n ca] w (OwnPost la w)) := Lib.hid (fun w hb => by rw [Hla.out]; exact ownFiles_any _ a w (H1.out.below hb) K1.out)
  have HOw2 : Hid (∀ w, Below W.heap.size W w → Calls Tryd.prog 22 #[.slice B m cb_] w (OwnPost lb w)) := Lib.hid (fun w hb => by rw [Hlb.out]; exact ownFiles_any _ b w (H2.out.below hb) K2.out)
  have Hw0 := Lib.hid hw0.symm
  have Hg := Lib.hid hg.symm
  have hc4 : w0.cell? ⟨g, 0, none⟩ = some (.slice A n ca) := by rw [B4.cell]; rfl
  have hgl := B4.lt
  clear hml h3 h4 k1 k2 hn hm hla hlb hr hp hw0 hg hb0 B4 B6 B7
  go_enter Tryd.func6, Tryd.ntmps6
  go_wp2_with fail
  rw [Hw0.out, Hg.out]
  refine (HOw.out _ Hb0.out).mono ?_
  rintro e w1 ⟨u1, x1, rfl, ho1, he1, hb1⟩
  have Hb1 := Lib.hid (stepN Hb0.out hb1)
  have Z1 := Lib.hid hb1
  have HF1 : Hid (Fs w1 u1 la) := Lib.hid (by rw [← he1]; exact ho1.fs)
  have HI1 := Lib.hid ho1.files
  have He1 := Lib.hid he1
  have hc1' := cell_below hb1 hc4
  clear ho1 he1 hb1 hc4
  go_wp2_with fail
  refine (HOw2.out _ Hb1.out).mono ?_
  rintro e w2 ⟨u2, x2, rfl, ho2, he2, hb2⟩
  have Hb2 := Lib.hid (stepN Hb1.out hb2)
  have Z2 := Lib.hid (stepN Z1.out hb2)
  have HF2 : Hid (Fs w2 u2 lb) := Lib.hid (by rw [← he2]; exact ho2.fs)
  have HF12 := Lib.hid (HF1.out.below hb2)
  have HI12 := Lib.hid (HI1.out.below hb2)
  clear ho2 he2 hb2 hc1'
  have HBo : Hid (Calls _ _ #[u1, u2] w2 (FsPost er ll w2)) := Lib.hid (by have := both_fs u1 u2 la lb w2 (HML.out.below Hb2.out) HF12.out HF2.out; rwa [← Hr.out] at this)
  go_wp2_with fail
  refine (HBo.out).mono ?_
  rintro e w3 ⟨v11, rfl, hf3, hb3⟩
  have Hb3 := Lib.hid (stepN Hb2.out hb3)
  have Z3 := Lib.hid (stepN Z2.out hb3)
  have HF3 := Lib.hid hf3
  have HF13 := Lib.hid (HF12.out.below hb3)
  have HF23 := Lib.hid (HF2.out.below hb3)
  have HI13 := Lib.hid (HI12.out.below hb3)
  obtain ⟨ex0, ex1, ex2, ex3, ex4⟩ := blk5 (HB6.out.below Z3.out HB6.out.lt)
  have HPu : Hid (Calls Tryd.prog 23 #[u1, .agg #[.string (strB n1), .slice A1 l1 c1, .int .i64 s1, .int .i64 d1, .bool g1]] w3 (BothPost la [⟨n1, b1, s1, d1, g1⟩] w3)) := Lib.hid (by have := put_any u1 x1 (⟨n1, b1, s1, d1, g1⟩, A1, l1, c1) w3 (HML.out.below Hb3.out) HI13.out (H3.out.below Hb3.out); rwa [He1.out] at this)
  clear hf3 hb3 HBo
  go_wp2_with fail
  refine (HPu.out).mono ?_
  rintro e w4 ⟨v13, x13, rfl, ho4, he4, hb4⟩
  have Hb4 := Lib.hid (stepN Hb3.out hb4)
  have Z4 := Lib.hid (stepN Z3.out hb4)
  have HF4 := Lib.hid (HF3.out.below hb4)
  have HF14 := Lib.hid (HF13.out.below hb4)
  have HF24 := Lib.hid (HF23.out.below hb4)
  have HP4 : Hid (Fs w4 v13 lp) := Lib.hid (by have := ho4.fs; rw [he4, ← Hp.out] at this; exact this)
  have hpe : (bothR la [(⟨n1, b1, s1, d1, g1⟩ : Fl)]).1 = ep := by rw [← Hp.out]
  rw [hpe]
  clear ho4 he4 hb4 ex0 ex1 ex2 ex3 ex4 HPu hpe
  have hc4 : w4.cell? ⟨g, 0, none⟩ = some (.slice A n ca) := by rw [(HB4.out.below Z4.out HB4.out.lt).cell]; rfl
  obtain ⟨ex0, ex1, ex2, ex3, ex4⟩ := blk5 (HB6.out.below Z4.out HB6.out.lt)
  obtain ⟨ey0, ey1, ey2, ey3, ey4⟩ := blk5 (HB7.out.below Z4.out HB7.out.lt)
  have q := fun p : BelowBy w4 => BelowBy.cell hc4 p
  have q0 := fun p : BelowBy w4 => BelowBy.cell ex0 p
  have q1 := fun p : BelowBy w4 => BelowBy.cell ex1 p
  have q2 := fun p : BelowBy w4 => BelowBy.cell ex2 p
  have q3 := fun p : BelowBy w4 => BelowBy.cell ex3 p
  have q4 := fun p : BelowBy w4 => BelowBy.cell ex4 p
  have r0 := fun p : BelowBy w4 => BelowBy.cell ey0 p
  have r1 := fun p : BelowBy w4 => BelowBy.cell ey1 p
  have r2 := fun p : BelowBy w4 => BelowBy.cell ey2 p
  have r3 := fun p : BelowBy w4 => BelowBy.cell ey3 p
  have r4 := fun p : BelowBy w4 => BelowBy.cell ey4 p
  obtain ⟨zc, hzc⟩ : ∃ z, z = chkF la := ⟨_, rfl⟩
  obtain ⟨zl, hzl⟩ : ∃ z, z = later (⟨n1, b1, s1, d1, g1⟩ : Fl) ⟨n2, b2, s2, d2, g2⟩ := ⟨_, rfl⟩
  have CM : Hid (∀ p : BelowBy w4, Calls _ _ _ p.w _) := Lib.hid (fun p => merged_any p.w ((HML.out.below Hb4.out).below p.h))
  have C1 : Hid (∀ p : BelowBy w4, Calls Tryd.prog 17 #[.slice A n ca] p.w fun e w' => e = .returned (.int .i64 zc) ∧ Below p.w.heap.size p.w w') := Lib.hid (fun p => by rw [hzc, Hla.out]; exact check_any _ a p.w ((HML.out.below Hb4.out).below p.h) ((H1.out.below Hb4.out).below p.h))
  have C2 : Hid (∀ p : BelowBy w4, Calls Tryd.prog 18 #[.slice A n ca] p.w fun e w' => e = .returned (.int .i64 zc) ∧ Below p.w.heap.size p.w w') := Lib.hid (fun p => by rw [hzc, Hla.out]; exact refCheck_any _ a p.w ((HML.out.below Hb4.out).below p.h) ((H1.out.below Hb4.out).below p.h))
  have C3 : Hid (∀ p : BelowBy w4, Calls Tryd.prog 24 #[.agg #[.string (strB n1), .slice A1 l1 c1, .int .i64 s1, .int .i64 d1, .bool g1], .agg #[.string (strB n2), .slice A2 l2 c2, .int .i64 s2, .int .i64 d2, .bool g2]] p.w fun e w' => e = .returned (.int .i64 zl) ∧ Below p.w.heap.size p.w w') := Lib.hid (fun p => by rw [hzl]; exact newer_any (⟨n1, b1, s1, d1, g1⟩, A1, l1, c1) (⟨n2, b2, s2, d2, g2⟩, A2, l2, c2) p.w ((H3.out.below Hb4.out).below p.h) ((H4.out.below Hb4.out).below p.h))
  have C4 : Hid (∀ p : BelowBy w4, Calls Tryd.prog 21 #[.agg #[.string (strB n1), .slice A1 l1 c1, .int .i64 s1, .int .i64 d1, .bool g1], .agg #[.string (strB n2), .slice A2 l2 c2, .int .i64 s2, .int .i64 d2, .bool g2]] p.w fun e w' => e = .returned (.int .i64 zl) ∧ Below p.w.heap.size p.w w') := Lib.hid (fun p => by rw [hzl]; exact refLater_any (⟨n1, b1, s1, d1, g1⟩, A1, l1, c1) (⟨n2, b2, s2, d2, g2⟩, A2, l2, c2) p.w ((H3.out.below Hb4.out).below p.h) ((H4.out.below Hb4.out).below p.h))
  have C5 : Hid (∀ p : BelowBy w4, Calls Tryd.prog 14 #[u1, .slice A n ca] p.w fun e w' => e = .returned (.bool true) ∧ Below p.w.heap.size p.w w') := Lib.hid (fun p => by have := same_fs u1 (.slice A n ca) la la p.w (HF14.out.below p.h) (by rw [Hla.out]; exact (H1.out.fs.below Hb4.out).below p.h); rwa [sameL_self] at this)
  have C6 : Hid (∀ p : BelowBy w4, Calls Tryd.prog 14 #[u2, .slice B m cb_] p.w fun e w' => e = .returned (.bool true) ∧ Below p.w.heap.size p.w w') := Lib.hid (fun p => by have := same_fs u2 (.slice B m cb_) lb lb p.w (HF24.out.below p.h) (by rw [Hlb.out]; exact (H2.out.fs.below Hb4.out).below p.h); rwa [sameL_self] at this)
  clear hc4 ex0 ex1 ex2 ex3 ex4 ey0 ey1 ey2 ey3 ey4 hzc hzl
  go_wp2_with fail
  refine wp_region_below (by kernel_rfl) (by kernel_rfl) ?_
  repeat (quiet_step (first
    | (with_reducible exact belowBy_calls (CM.out _))
    | (with_reducible exact belowBy_calls (C1.out _))
    | (with_reducible exact belowBy_calls (C2.out _))
    | (with_reducible exact belowBy_calls (C3.out _))
    | (with_reducible exact belowBy_calls (C4.out _))
    | (with_reducible exact belowBy_calls (C5.out _))
    | (with_reducible exact belowBy_calls (C6.out _))))
  refine wpQuiet_nil ?_
  intro w5 hq
  have hb5 : Below w4.heap.size w4 w5 := by obtain ⟨p, hp⟩ := hq; rw [hp]; exact p.h
  have Hb5 := Lib.hid (stepN Hb4.out hb5)
  have Z5 := Lib.hid (stepN Z4.out hb5)
  have HF5 := Lib.hid (HF4.out.below hb5)
  have HP5 := Lib.hid (HP4.out.below hb5)
  clear hq hb5 q q0 q1 q2 q3 q4 r0 r1 r2 r3 r4 CM C1 C2 C3 C4 C5 C6 HF4 HF14 HF24 HP4
  have hc5 : w5.cell? ⟨g, 0, none⟩ = some (.slice A n ca) := by rw [(HB4.out.below Z5.out HB4.out.lt).cell]; rfl
  have HS1 := Lib.hid (says_any g (.slice A n ca) (.slice B m cb_) v11 a b w5 (HML.out.below Hb5.out) hc5 (H1.out.below Hb5.out) (H2.out.below Hb5.out) er ll (by rw [← Hla.out, ← Hlb.out]; exact Hr.out) HF5.out)
  clear hc5
  go_wp2_with fail
  refine (HS1.out).mono ?_
  rintro e w6 ⟨rfl, hb6⟩
  have Hb6 := Lib.hid (stepN Hb5.out hb6)
  have Z6 := Lib.hid (stepN Z5.out hb6)
  have HP6 := Lib.hid (HP5.out.below hb6)
  clear hb6 HS1
  obtain ⟨ex0, ex1, ex2, ex3, ex4⟩ := blk5 (HB6.out.below Z6.out HB6.out.lt)
  obtain ⟨w7, hw7⟩ : ∃ w7, w7 = w6.alloc (.cells #[.string (strB n1), .slice A1 l1 c1, .int .i64 s1, .int .i64 d1, .bool g1] 33) := ⟨_, rfl⟩
  obtain ⟨g7, hg7⟩ : ∃ g, g = w6.heap.size := ⟨_, rfl⟩
  have hb7 : Below w6.heap.size w6 w7 := by rw [hw7]; exact (Below.refl _ _).alloc (Nat.le_refl _) _
  have Hb7 := Lib.hid (stepN Hb6.out hb7)
  have hI7 : IsFiles w7 (.slice (some ⟨g7, 0, none⟩) 1 1) [(⟨n1, b1, s1, d1, g1⟩, A1, l1, c1)] := files_blk (by rw [hw7, hg7]; exact Blk.new _ _ _) rfl (by omega) (fun x hx => by
    simp only [List.mem_cons, List.not_mem_nil, or_false] at hx
    subst hx
    exact H3.out.below Hb7.out)
  have hc7 : w7.cell? ⟨g, 0, none⟩ = some (.slice A n ca) := by rw [(HB4.out.below (stepN Z6.out hb7) HB4.out.lt).cell]; rfl
  have HS2 := Lib.hid (says_any g (.slice A n ca) (.slice (some ⟨g7, 0, none⟩) 1 1) v13 a [(⟨n1, b1, s1, d1, g1⟩, A1, l1, c1)] w7 (HML.out.below Hb7.out) hc7 (H1.out.below Hb7.out) hI7 ep lp (by rw [← Hla.out]; exact Hp.out) (HP6.out.below hb7))
  have Hw7 := Lib.hid hw7.symm
  have Hg7 := Lib.hid hg7.symm
  clear hw7 hg7 hb7 hI7 hc7
  go_wp2_with fail
  rw [Hw7.out, Hg7.out]
  refine (HS2.out).mono ?_
  rintro e w8 ⟨rfl, hb8⟩
  have Hb8 := Lib.hid (stepN Hb7.out hb8)
  clear hb8
  go_wp2_with fail
  go_ret
  exact ⟨rfl, Hb8.out⟩
end Go.Proofs.YtdoegpklephelaaDoor.MergeBoth
