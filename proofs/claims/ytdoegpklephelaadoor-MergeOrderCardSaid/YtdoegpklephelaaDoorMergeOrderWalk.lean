/- reliquarylaw.MergeOrder: the walk. -/
import Derived.Test.YtdoegpklephelaaDoorMerged
namespace Go.Proofs.YtdoegpklephelaaDoor.MergeOrder
open Go Go.RowKit Go.Proofs.YtdoegpklephelaaDoor Go.Proofs.YtdoegpklephelaaDoor.Name Go.Proofs.YtdoegpklephelaaDoor.Merge
set_option linter.unusedVariables false

set_option maxRecDepth 100000 in
set_option maxHeartbeats 4000000 in
theorem walk0 (W : World) (hm : ML W) (v1 v2 v3 : Value) (a b c : List Fl) (h1 : Fs W v1 a) (h2 : Fs W v2 b) (h3 : Fs W v3 c) :
    Calls Tryd.prog 3 #[v1, v2, v3] W fun e W' => e = .returned (.bool true) ∧ Below W.heap.size W W' := by
  obtain ⟨⟨pe, pl⟩, hp⟩ : ∃ p, p = bothR a b := ⟨_, rfl⟩
  obtain ⟨⟨qe, ql⟩, hq⟩ : ∃ p, p = bothR b a := ⟨_, rfl⟩
  have hc := bothR_comm a b
  rw [← hp, ← hq] at hc
  obtain ⟨hc1, hc2⟩ := hc
  dsimp only at hc1 hc2
  subst hc2
  have HP : Hid (Calls _ _ _ W (FsPost pe pl W)) := Lib.hid (by have := both_fs v1 v2 a b W hm h1 h2; rw [← hp] at this; exact this)
  have HQ : Hid (∀ w, Below W.heap.size W w → Calls _ _ _ w (FsPost qe pl w)) := Lib.hid (fun w hb => by have := both_fs v2 v1 b a w (hm.below hb) (h2.below hb) (h1.below hb); rw [← hq] at this; exact this)
  have HM : Hid (∀ w, Below W.heap.size W w → Calls _ _ _ w _) := Lib.hid (fun w hb => merged_any w (hm.below hb))
  have HB : Hid (∀ w, Below W.heap.size W w → ∀ u1 u2 l1 l2 (k1 : Fs w u1 l1) (k2 : Fs w u2 l2), Calls _ _ _ w (FsPost (bothR l1 l2).1 (bothR l1 l2).2 w)) := Lib.hid (fun w hb u1 u2 l1 l2 k1 k2 => both_fs u1 u2 l1 l2 w (hm.below hb) k1 k2)
  have HL : Hid (∀ w, Below W.heap.size W w → ∀ u1 u2 l1 l2 (k1 : Fs w u1 l1) (k2 : Fs w u2 l2), Calls _ _ _ w (FsPost (lessR l1 l2).1 (lessR l1 l2).2 w)) := Lib.hid (fun w hb u1 u2 l1 l2 k1 k2 => less_fs u1 u2 l1 l2 w (hm.below hb) k1 k2)
  have H1 := Lib.hid h1
  have H2 := Lib.hid h2
  have H3 := Lib.hid h3
  have HC : Hid (pe = 0 → ((pe, pl) : Int × List Fl) = bothR a b) := Lib.hid (fun _ => hp)
  have HE := Lib.hid hc1
  clear hm h1 h2 h3 hp hq hc1
  by_cases h0 : pe = 0
  · have hq0 := HE.out.1 h0
    subst h0 hq0
    have HO := Lib.hid (order_both (HC.out rfl).symm)
    clear HC HE
    go_enter Tryd.func3, Tryd.ntmps3
    go_wp2_with fail
    refine (HP.out).mono ?_
    rintro e w1 ⟨x, rfl, hx, hb1⟩
    have Hx := Lib.hid hx
    have Hb1 := Lib.hid hb1
    clear hx hb1
    go_wp2_with fail
    refine (HQ.out _ Hb1.out).mono ?_
    rintro e w2 ⟨y, rfl, hy, hb2⟩
    have Hx2 := Lib.hid (Hx.out.below hb2)
    have Hy := Lib.hid hy
    have Hb2 := Lib.hid (stepN Hb1.out hb2)
    clear hy hb2 Hx HP HQ
    go_wp2_with fail
    refine (HM.out _ Hb2.out).mono ?_
    rintro e w3 ⟨rfl, hb3⟩
    have Hx3 := Lib.hid (Hx2.out.below hb3)
    have Hy3 := Lib.hid (Hy.out.below hb3)
    have Hb3 := Lib.hid (stepN Hb2.out hb3)
    clear hb3 Hx2 Hy
    go_wp2_with fail
    refine (same_self _ _ _ _ Hx3.out Hy3.out).mono ?_
    rintro e w4 ⟨rfl, hb4⟩
    have Hx4 := Lib.hid (Hx3.out.below hb4)
    have Hb4 := Lib.hid (stepN Hb3.out hb4)
    clear hb4 Hx3 Hy3
    go_wp2_with fail
    refine (HB.out _ Hb4.out _ _ _ _ Hx4.out (H1.out.below Hb4.out)).mono ?_
    rintro e w5 ⟨t, rfl, ht, hb5⟩
    rw [HO.out.1] at ht ⊢
    dsimp only at ht ⊢
    have Ht := Lib.hid ht
    have Hx5 := Lib.hid (Hx4.out.below hb5)
    have Hb5 := Lib.hid (stepN Hb4.out hb5)
    clear ht hb5 Hx4
    obtain ⟨m, hm1, hm2⟩ := HO.out.2.1
    have Hm1 := Lib.hid hm1
    have Hm2 := Lib.hid hm2
    clear hm1 hm2
    go_wp2_with fail
    refine (HL.out _ Hb5.out _ _ _ _ (H2.out.below Hb5.out) (H1.out.below Hb5.out)).mono ?_
    rintro e w6 ⟨u, rfl, hu, hb6⟩
    rw [Hm1.out] at hu ⊢
    dsimp only at hu ⊢
    have Hu := Lib.hid hu
    have Ht6 := Lib.hid (Ht.out.below hb6)
    have Hx6 := Lib.hid (Hx5.out.below hb6)
    have Hb6 := Lib.hid (stepN Hb5.out hb6)
    clear hu hb6 Hx5 Ht
    go_wp2_with fail
    refine (HB.out _ Hb6.out _ _ _ _ (H1.out.below Hb6.out) Hu.out).mono ?_
    rintro e w7 ⟨p, rfl, hp, hb7⟩
    rw [Hm2.out] at hp ⊢
    dsimp only at hp ⊢
    have Hp := Lib.hid hp
    have Ht7 := Lib.hid (Ht6.out.below hb7)
    have Hx7 := Lib.hid (Hx6.out.below hb7)
    have Hb7 := Lib.hid (stepN Hb6.out hb7)
    clear hp hb7 Hx6 Ht6 Hu
    go_wp2_with fail
    refine (same_self _ _ _ _ Ht7.out Hx7.out).mono ?_
    rintro e w8 ⟨rfl, hb8⟩
    have Hp8 := Lib.hid (Hp.out.below hb8)
    have Hx8 := Lib.hid (Hx7.out.below hb8)
    have Hb8 := Lib.hid (stepN Hb7.out hb8)
    clear hb8 Hx7 Ht7 Hp
    go_wp2_with fail
    refine (same_self _ _ _ _ Hp8.out Hx8.out).mono ?_
    rintro e w9 ⟨rfl, hb9⟩
    have Hx9 := Lib.hid (Hx8.out.below hb9)
    have Hb9 := Lib.hid (stepN Hb8.out hb9)
    clear hb9 Hx8 Hp8
    obtain ⟨⟨le, ll⟩, hl⟩ : ∃ p, p = bothR pl c := ⟨_, rfl⟩
    obtain ⟨⟨ke, kl⟩, hk⟩ : ∃ p, p = bothR b c := ⟨_, rfl⟩
    have HLL := Lib.hid hl.symm
    have HKK := Lib.hid hk.symm
    clear hl hk
    go_wp2_with fail
    refine (HB.out _ Hb9.out _ _ _ _ Hx9.out (H3.out.below Hb9.out)).mono ?_
    rintro e w10 ⟨l, rfl, hl, hb10⟩
    rw [HLL.out] at hl ⊢
    dsimp only at hl ⊢
    have Hl := Lib.hid hl
    have Hb10 := Lib.hid (stepN Hb9.out hb10)
    clear hl hb10 Hx9
    go_wp2_with fail
    refine (HB.out _ Hb10.out _ _ _ _ (H2.out.below Hb10.out) (H3.out.below Hb10.out)).mono ?_
    rintro e w11 ⟨k, rfl, hk, hb11⟩
    rw [HKK.out] at hk ⊢
    dsimp only at hk ⊢
    have Hk := Lib.hid hk
    have Hl11 := Lib.hid (Hl.out.below hb11)
    have Hb11 := Lib.hid (stepN Hb10.out hb11)
    clear hk hb11 Hl
    by_cases e1 : le = 0
    · by_cases e2 : ke = 0
      · subst e1 e2
        have HN := Lib.hid (HO.out.2.2 c ll kl HLL.out HKK.out)
        go_wp2_with fail
        refine (HB.out _ Hb11.out _ _ _ _ (H1.out.below Hb11.out) Hk.out).mono ?_
        rintro e w12 ⟨n, rfl, hn, hb12⟩
        rw [HN.out] at hn ⊢
        dsimp only at hn ⊢
        have Hn := Lib.hid hn
        have Hl12 := Lib.hid (Hl11.out.below hb12)
        have Hb12 := Lib.hid (stepN Hb11.out hb12)
        clear hn hb12
        go_wp2_with fail
        refine (same_self _ _ _ _ Hl12.out Hn.out).mono ?_
        rintro e w13 ⟨rfl, hb13⟩
        have Hb13 := Lib.hid (stepN Hb12.out hb13)
        clear hb13
        go_wp2_with fail
        go_ret
        exact ⟨rfl, Hb13.out⟩
      · subst e1
        have e3 : (ke != 0) = true := by simpa using e2
        clear e2
        go_wp2_with fail
        go_ret
        exact ⟨rfl, Hb11.out⟩
    · have e3 : (le != 0) = true := by simpa using e1
      clear e1
      go_wp2_with fail
      go_ret
      exact ⟨rfl, Hb11.out⟩
  · have hq0 : ¬ qe = 0 := fun h => h0 (HE.out.2 h)
    have f1 : (pe == 0) = false := by simpa using h0
    have f2 : (qe == 0) = false := by simpa using hq0
    have f3 : (pe != 0) = true := by simpa using h0
    clear h0 hq0 HC HE
    go_enter Tryd.func3, Tryd.ntmps3
    go_wp2_with fail
    refine (HP.out).mono ?_
    rintro e w1 ⟨x, rfl, hx, hb1⟩
    have Hx := Lib.hid hx
    have Hb1 := Lib.hid hb1
    clear hx hb1
    go_wp2_with fail
    refine (HQ.out _ Hb1.out).mono ?_
    rintro e w2 ⟨y, rfl, hy, hb2⟩
    have Hx2 := Lib.hid (Hx.out.below hb2)
    have Hy := Lib.hid hy
    have Hb2 := Lib.hid (stepN Hb1.out hb2)
    clear hy hb2 Hx HP HQ
    go_wp2_with fail
    refine (HM.out _ Hb2.out).mono ?_
    rintro e w3 ⟨rfl, hb3⟩
    have Hx3 := Lib.hid (Hx2.out.below hb3)
    have Hy3 := Lib.hid (Hy.out.below hb3)
    have Hb3 := Lib.hid (stepN Hb2.out hb3)
    clear hb3 Hx2 Hy
    go_wp2_with fail
    refine (same_self _ _ _ _ Hx3.out Hy3.out).mono ?_
    rintro e w4 ⟨rfl, hb4⟩
    have Hb4 := Lib.hid (stepN Hb3.out hb4)
    clear hb4 Hx3 Hy3
    go_wp2_with fail
    go_ret
    exact ⟨rfl, Hb4.out⟩
theorem walk (W : World) (hm : ML W) (v1 : Value) (a : List Fx) (h1 : IsFiles W v1 a) (v2 : Value) (b : List Fx) (h2 : IsFiles W v2 b) (v3 : Value) (c : List Fx) (h3 : IsFiles W v3 c) :
    Calls Tryd.prog 3 #[v1, v2, v3] W fun e W' => e = .returned (.bool true) ∧ Below W.heap.size W W' :=
  walk0 W hm v1 v2 v3 _ _ _ h1.fs h2.fs h3.fs
end Go.Proofs.YtdoegpklephelaaDoor.MergeOrder
