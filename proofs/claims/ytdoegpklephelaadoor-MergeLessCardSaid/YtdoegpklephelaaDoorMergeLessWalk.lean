/- reliquarylaw.MergeLess: the walk. -/
import Derived.Test.YtdoegpklephelaaDoorMerged
namespace Go.Proofs.YtdoegpklephelaaDoor.MergeLess
open Go Go.RowKit Go.Proofs.YtdoegpklephelaaDoor Go.Proofs.YtdoegpklephelaaDoor.Name Go.Proofs.YtdoegpklephelaaDoor.Merge
set_option linter.unusedVariables false

theorem Fs.len0 {w : World} {v : Value} (h : Fs w v []) : ∃ A c, v = .slice A 0 c := h.slice
set_option maxRecDepth 100000 in
set_option maxHeartbeats 4000000 in
theorem walk0 (W : World) (hm : ML W) (v1 v2 : Value) (a b : List Fl) (h1 : Fs W v1 a) (h2 : Fs W v2 b) :
    Calls Tryd.prog 4 #[v1, v2] W fun e W' => e = .returned (.bool true) ∧ Below W.heap.size W W' := by
  obtain ⟨⟨pe, pl⟩, hp⟩ : ∃ p, p = bothR a b := ⟨_, rfl⟩
  have HP : Hid (Calls _ _ _ W (FsPost pe pl W)) := Lib.hid (by have := both_fs v1 v2 a b W hm h1 h2; rw [← hp] at this; exact this)
  have HM : Hid (∀ w, Below W.heap.size W w → Calls _ _ _ w _) := Lib.hid (fun w hb => merged_any w (hm.below hb))
  have HL : Hid (∀ w, Below W.heap.size W w → ∀ u1 u2 l1 l2 (k1 : Fs w u1 l1) (k2 : Fs w u2 l2), Calls _ _ _ w (FsPost (lessR l1 l2).1 (lessR l1 l2).2 w)) := Lib.hid (fun w hb u1 u2 l1 l2 k1 k2 => less_fs u1 u2 l1 l2 w (hm.below hb) k1 k2)
  have HS : Hid (∀ w, Below W.heap.size W w → ∀ u1 l1 (k1 : Fs w u1 l1), Calls _ _ _ w (FsPost (shownR l1).1 (shownR l1).2 w)) := Lib.hid (fun w hb u1 l1 k1 => shown_fs u1 l1 w (hm.below hb) k1)
  have HK : Hid (∀ w, Below W.heap.size W w → ∀ u1 l1 (k1 : Fs w u1 l1), Calls _ _ _ w _) := Lib.hid (fun w hb u1 l1 k1 => check_fs u1 l1 w (hm.below hb) k1)
  have H1 := Lib.hid h1
  have H2 := Lib.hid h2
  have HC : Hid (((pe, pl) : Int × List Fl) = bothR a b) := Lib.hid hp
  clear hm h1 h2 hp
  by_cases h0 : pe = 0
  · subst h0
    obtain ⟨e1, e2, e3, e4, e5, e6, e7⟩ := less_of HC.out.symm
    have E1 := Lib.hid e1
    have E2 := Lib.hid e2
    have E3 := Lib.hid e3
    have E4 := Lib.hid e4
    have E5 := Lib.hid e5
    have E6 := Lib.hid e6
    have E7 := Lib.hid e7
    clear HC e1 e2 e3 e4 e5 e6 e7
    go_enter Tryd.func4, Tryd.ntmps4
    go_wp2_with fail
    refine (HP.out).mono ?_
    rintro e w1 ⟨x, rfl, hx, hb1⟩
    have Hx := Lib.hid hx
    have Hb1 := Lib.hid hb1
    clear hx hb1 HP
    go_wp2_with fail
    refine (HM.out _ Hb1.out).mono ?_
    rintro e w3 ⟨rfl, hb3⟩
    have Hx3 := Lib.hid (Hx.out.below hb3)
    have Hb3 := Lib.hid (stepN Hb1.out hb3)
    clear hb3 Hx
    go_wp2_with fail
    refine (HL.out _ Hb3.out _ _ _ _ (H1.out.below Hb3.out) Hx3.out).mono ?_
    rintro e w4 ⟨p, rfl, hp, hb4⟩
    rw [E1.out] at hp ⊢
    obtain ⟨A1, c1, rfl⟩ := Fs.len0 hp
    have Hx4 := Lib.hid (Hx3.out.below hb4)
    have Hb4 := Lib.hid (stepN Hb3.out hb4)
    clear hp hb4 Hx3
    go_wp2_with fail
    refine (HL.out _ Hb4.out _ _ _ _ (H2.out.below Hb4.out) Hx4.out).mono ?_
    rintro e w5 ⟨p, rfl, hp, hb5⟩
    rw [E2.out] at hp ⊢
    obtain ⟨A2, c2, rfl⟩ := Fs.len0 hp
    have Hx5 := Lib.hid (Hx4.out.below hb5)
    have Hb5 := Lib.hid (stepN Hb4.out hb5)
    clear hp hb5 Hx4
    go_wp2_with fail
    refine (HL.out _ Hb5.out _ _ _ _ Hx5.out Hx5.out).mono ?_
    rintro e w6 ⟨p, rfl, hp, hb6⟩
    rw [E3.out] at hp ⊢
    obtain ⟨A3, c3, rfl⟩ := Fs.len0 hp
    have Hx6 := Lib.hid (Hx5.out.below hb6)
    have Hb6 := Lib.hid (stepN Hb5.out hb6)
    clear hp hb6 Hx5
    go_wp2_with fail
    refine (HS.out _ Hb6.out _ _ Hx6.out).mono ?_
    rintro e w7 ⟨s, rfl, hs, hb7⟩
    rw [E4.out] at hs ⊢
    dsimp only at hs ⊢
    have Hs := Lib.hid hs
    have Hx7 := Lib.hid (Hx6.out.below hb7)
    have Hb7 := Lib.hid (stepN Hb6.out hb7)
    clear hs hb7 Hx6
    go_wp2_with fail
    refine (HS.out _ Hb7.out _ _ Hs.out).mono ?_
    rintro e w8 ⟨g, rfl, hg, hb8⟩
    rw [E5.out] at hg ⊢
    dsimp only at hg ⊢
    have Hg := Lib.hid hg
    have Hs8 := Lib.hid (Hs.out.below hb8)
    have Hx8 := Lib.hid (Hx7.out.below hb8)
    have Hb8 := Lib.hid (stepN Hb7.out hb8)
    clear hg hb8 Hx7 Hs
    go_wp2_with fail
    refine (same_self _ _ _ _ Hg.out Hs8.out).mono ?_
    rintro e w9 ⟨rfl, hb9⟩
    have Hs9 := Lib.hid (Hs8.out.below hb9)
    have Hx9 := Lib.hid (Hx8.out.below hb9)
    have Hb9 := Lib.hid (stepN Hb8.out hb9)
    clear hb9 Hx8 Hs8 Hg
    go_wp2_with fail
    refine (HK.out _ Hb9.out _ _ Hs9.out).mono ?_
    rintro e w10 ⟨rfl, hb10⟩
    rw [E6.out]
    obtain ⟨A4, c4, rfl⟩ := Hs9.out.slice
    obtain ⟨A5, c5, rfl⟩ := Hx9.out.slice
    have Hb10 := Lib.hid (stepN Hb9.out hb10)
    have hle : decide (((shownL pl).length : Int) ≤ (pl.length : Int)) = true := decide_eq_true (by have := E7.out; omega)
    have hle2 : decide ((shownL pl).length ≤ pl.length) = true := decide_eq_true E7.out
    have hle3 := E7.out
    clear hb10 Hx9 Hs9
    generalize (shownL pl).length = n at *
    generalize pl.length = m at *
    go_wp2_with fail
    go_ret
    exact ⟨rfl, Hb10.out⟩
  · have f3 : (pe != 0) = true := by simpa using h0
    clear h0 HC
    go_enter Tryd.func4, Tryd.ntmps4
    go_wp2_with fail
    refine (HP.out).mono ?_
    rintro e w1 ⟨x, rfl, hx, hb1⟩
    have Hb1 := Lib.hid hb1
    clear hx hb1
    go_wp2_with fail
    refine (HM.out _ Hb1.out).mono ?_
    rintro e w3 ⟨rfl, hb3⟩
    have Hb3 := Lib.hid (stepN Hb1.out hb3)
    clear hb3
    go_wp2_with fail
    refine (HM.out _ Hb3.out).mono ?_
    rintro e w4 ⟨rfl, hb4⟩
    have Hb4 := Lib.hid (stepN Hb3.out hb4)
    clear hb4
    go_wp2_with fail
    go_ret
    exact ⟨rfl, Hb4.out⟩
theorem walk (W : World) (hm : ML W) (v1 : Value) (a : List Fx) (h1 : IsFiles W v1 a) (v2 : Value) (b : List Fx) (h2 : IsFiles W v2 b) :
    Calls Tryd.prog 4 #[v1, v2] W fun e W' => e = .returned (.bool true) ∧ Below W.heap.size W W' :=
  walk0 W hm v1 v2 _ _ h1.fs h2.fs
end Go.Proofs.YtdoegpklephelaaDoor.MergeLess
