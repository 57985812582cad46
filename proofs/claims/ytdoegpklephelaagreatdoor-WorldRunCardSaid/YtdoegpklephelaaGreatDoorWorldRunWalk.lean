/- reliquarylaw.WorldRun: the walk. -/
import Derived.Test.YtdoegpklephelaaGreatDoorStepOf
namespace Go.Proofs.YtdoegpklephelaaGreatDoor.WorldRun
open Go Go.RowKit Go.Proofs.YtdoegpklephelaaGreatDoor Go.Proofs.YtdoegpklephelaaGreatDoor.Name Go.Proofs.YtdoegpklephelaaGreatDoor.Merge Go.Proofs.YtdoegpklephelaaGreatDoor.Worlds
set_option linter.unusedVariables false

theorem isW_agg {w : World} {y : Wx} (h : IsWorld w y) : ∃ A1 n1 c1 A2 n2 c2 A3 n3 c3, y.vn = .slice A1 n1 c1 ∧ y.vc = .slice A2 n2 c2 ∧ y.vt = .slice A3 n3 c3 := by
  obtain ⟨⟨A1, c1, h1, _⟩, ⟨A2, c2, h2, _⟩, ⟨A3, c3, h3, _⟩⟩ := h
  exact ⟨A1, _, c1, A2, _, c2, A3, _, c3, h1, h2, h3⟩
theorem wx0_is (w : World) : IsWorld w wx0 := (OwnW.none_ w 0).isWorld
theorem wdk_of_ok {u : Wx} (h : WOk u.wd) : WdK sizedK u := by
  have h1 := h.few
  have h2 := h.net
  have h3 := h.clock
  simp only [Wx.wd, List.length_map] at h1 h2 h3
  refine ⟨by unfold sizedK; omega, fun n hn => ?_, by unfold sizedK; omega, by unfold sizedK; omega, fun m hm => ?_⟩
  · have := files_small (nodes_small h n hn)
    exact ⟨by unfold sizedK; omega, fun x hx => by have := this.2 x hx; unfold sizedK; omega⟩
  · have := files_small (net_small h m hm)
    exact ⟨by unfold sizedK; omega, fun x hx => by have := this.2 x hx; unfold sizedK; omega⟩
/-- a world that stays while nothing below b0 turns and no block but of worlds, errors, happenings -/
def Stay (b0 : Nat) (w : World) (y : Wx) : Prop := ∀ w', Keeps b0 T0 w w' → IsWorld w' y
theorem Stay.is {b0 : Nat} {w : World} {y : Wx} (h : Stay b0 w y) : IsWorld w y := h w (Keeps.refl _ _ _)
theorem Stay.keeps {b0 : Nat} {w w' : World} {y : Wx} (h : Stay b0 w y) (hk : Keeps b0 T0 w w') : Stay b0 w' y := fun w'' hk' => h w'' (hk.trans hk')
theorem Stay.below {b0 : Nat} {w w' : World} {y : Wx} (h : Stay b0 w y) (hb : Below w.heap.size w w') (h0 : b0 ≤ w.heap.size) : Stay b0 w' y := h.keeps (Keeps.of_below hb h0)
theorem _root_.Go.Proofs.YtdoegpklephelaaGreatDoor.Worlds.OwnW.stays {b0 base : Nat} {w : World} {y : Wx} (h : OwnW w base y) (hb : b0 ≤ base) : Stay b0 w y := fun w' hk => ((h.base_ hb).keeps hk (by decide) (by decide) (by decide) (by decide) (by decide)).isWorld
theorem t0e : ∀ t, t ∈ [31] → t ∈ T0 := fun t ht => by rw [List.mem_singleton] at ht; subst ht; simp [T0]
theorem t0w : ∀ t, t ∈ [26] → t ∈ T0 := fun t ht => by rw [List.mem_singleton] at ht; subst ht; simp [T0]
theorem own_lt {w w' : World} {base size n B : Nat} {e : TypeId} {v : Value} {xs : List Value} (h : w.ownsRow base e size v n xs) (hb : Below B w w') (hl : ∀ g, v.ownBlock = some g → g < B) : w'.ownsRow base e size v n xs := by
  refine ⟨h.1, ?_⟩
  rcases h.2 with h1 | ⟨g, cap, cur, rfl, hbg, hg, r⟩
  · exact .inl h1
  · exact .inr ⟨g, cap, cur, rfl, hbg, by rw [hb.block g (hl g rfl)]; exact hg, r⟩
theorem errs_in {w : World} {base n c : Nat} {A : Option Addr} {l : List Int} (h : w.ownsRow base 31 1 (.slice A n c) n (l.flatMap intC)) : InAt w A l ∧ n ≤ maxLen := by
  obtain ⟨A', c', e, h1, h2, h3, _⟩ := own_slat h
  injection e with e1 e2 e3
  subst e1 e3
  exact ⟨intC_at h3, by omega⟩
set_option maxRecDepth 100000 in
set_option maxHeartbeats 8000000 in
theorem walk0 (W : World) (hml : ML W) (nn : Int) (v : Value) (xs : List Hx) (hx : IsL W hC (HapAt W) v xs) :
    Calls Tryz.prog 4 #[.int .i64 nn, v] W fun e W' => e = .returned (.bool true) ∧ Below W.heap.size W W' := by
  have HT : Hid (∀ w, Below W.heap.size W w → Calls _ _ _ w _) := Lib.hid (fun w hb => told_any w (hml.below hb))
  have HRun := Lib.hid (run_any nn v xs W hml hx)
  have HML := Lib.hid hml
  obtain ⟨As, cs, rfl, s1, s2, s3, s4, s5⟩ := hx
  have HS3 := Lib.hid s3
  have HS5 := Lib.hid s5
  obtain ⟨m, hm⟩ : ∃ m, m = xs.length := ⟨_, rfl⟩
  rw [← hm] at s1 HRun ⊢
  have Hm := Lib.hid hm
  unfold maxLen at s2
  have hm63 : m ≤ 9223372036854775807 := by omega
  clear hml s1 s2 s3 s4 s5 hm
  obtain ⟨r, hr⟩ : ∃ r, r = runR nn (xs.map Prod.fst) := ⟨_, rfl⟩
  rw [← hr] at HRun
  have HR1 := Lib.hid (fun h => hr.trans (run_1 (n := nn) (xs := xs.map Prod.fst) h))
  have HR2 := Lib.hid (fun h h2 => hr.trans (run_2 (n := nn) (xs := xs.map Prod.fst) h h2))
  have HR3 := Lib.hid (fun h h2 => hr.trans (run_3 (n := nn) (xs := xs.map Prod.fst) h h2))
  rw [List.length_map, ← Hm.out] at HR2 HR3
  clear hr
  obtain ⟨b0, hb0⟩ : ∃ b0, b0 = W.heap.size := ⟨_, rfl⟩
  have Hb0 := Lib.hid hb0
  go_enter Tryz.func4, Tryz.ntmps4
  go_wp2_with fail
  refine (HRun.out).mono ?_
  rintro e w2 ⟨z, s, rfl, hz, hzd, hs, hb2⟩
  obtain ⟨S, cS, rfl, _⟩ := own_slat hs
  obtain ⟨E1, k1, f1, E2, k2, f2, E3, k3, f3, hz1, hz2, hz3⟩ := isW_agg hz.isWorld
  have hVz : wV z = .agg #[.slice E1 k1 f1, .slice E2 k2 f2, .slice E3 k3 f3] := by unfold wV; rw [hz1, hz2, hz3]
  have HVz := Lib.hid hVz
  rw [hVz]
  obtain ⟨ls, hls⟩ : ∃ ls, ls = r.2.2.length := ⟨_, rfl⟩
  obtain ⟨r1, hr1⟩ : ∃ r1, r1 = r.1 := ⟨_, rfl⟩
  rw [← hls] at hs ⊢
  rw [← hr1]
  have Hls := Lib.hid hls
  have Hr1 := Lib.hid hr1
  obtain ⟨w3, hw3⟩ : ∃ w3, w3 = w2.alloc (.cells #[.slice E1 k1 f1, .slice E2 k2 f2, .slice E3 k3 f3] 26) := ⟨_, rfl⟩
  obtain ⟨g5, hg5⟩ : ∃ g5, g5 = w2.heap.size := ⟨_, rfl⟩
  have hb3 : Below w2.heap.size w2 w3 := by rw [hw3]; exact (Below.refl _ _).alloc (Nat.le_refl _) _
  have HG3 := Lib.hid (show Blk w3 g5 26 #[.slice E1 k1 f1, .slice E2 k2 f2, .slice E3 k3 f3] by rw [hw3, hg5]; exact Blk.new _ _ _)
  have HZ3 := Lib.hid (hz.below hb3)
  have Hzd := Lib.hid hzd
  have HS3' := Lib.hid (own_keep hs hb3)
  have Hsl : Hid (∀ g, (Value.slice S ls cS).ownBlock = some g → g < w3.heap.size) := Lib.hid (fun g hg => ((own_keep hs hb3).lt g hg).2)
  have Hb3 := Lib.hid (hb2.trans (hb3.mono hb2.size))
  have HNew := Lib.hid (new_any nn w3)
  have Hw3 := Lib.hid hw3.symm
  have Hg5 := Lib.hid hg5.symm
  have hg5b : b0 ≤ g5 := by have := hb2.size; omega
  clear hz hzd hs hb2 hb3 hz1 hz2 hz3 hVz hls hr1 hw3 hg5 HRun
  (try dsimp only)
  go_wp2_with fail
  rw [Hw3.out, Hg5.out]
  refine (HNew.out).mono ?_
  rintro e w4 ⟨mm, rfl, hm4, hmd, hb4⟩
  obtain ⟨B1, n1, c1, B2, n2, c2, B3, n3, c3, hm1, hm2, hm3⟩ := isW_agg hm4.isWorld
  have hVm : wV mm = .agg #[.slice B1 n1 c1, .slice B2 n2 c2, .slice B3 n3 c3] := by unfold wV; rw [hm1, hm2, hm3]
  have HVm := Lib.hid hVm
  rw [hVm]
  obtain ⟨en, hen⟩ : ∃ en, en = (newR nn).1 := ⟨_, rfl⟩
  rw [← hen]
  have Hen := Lib.hid hen
  obtain ⟨w5, hw5⟩ : ∃ w5, w5 = w4.alloc (.cells #[.slice B1 n1 c1, .slice B2 n2 c2, .slice B3 n3 c3] 26) := ⟨_, rfl⟩
  obtain ⟨g8, hg8⟩ : ∃ g8, g8 = w4.heap.size := ⟨_, rfl⟩
  obtain ⟨w6, hw6⟩ : ∃ w6, w6 = w5.alloc (.cells #[.slice none 0 0, .slice none 0 0, .slice none 0 0] 26) := ⟨_, rfl⟩
  obtain ⟨ga, hga⟩ : ∃ ga, ga = w4.heap.size + 1 := ⟨_, rfl⟩
  have hb5 : Below w4.heap.size w4 w5 := by rw [hw5]; exact (Below.refl _ _).alloc (Nat.le_refl _) _
  have hb6 : Below w5.heap.size w5 w6 := by rw [hw6]; exact (Below.refl _ _).alloc (Nat.le_refl _) _
  have HM5 := show Blk w5 g8 26 #[.slice B1 n1 c1, .slice B2 n2 c2, .slice B3 n3 c3] by rw [hw5, hg8]; exact Blk.new _ _ _
  have HM6 := Lib.hid (HM5.below hb6 HM5.lt)
  have HA6 := Lib.hid (show Blk w6 ga 26 #[.slice none 0 0, .slice none 0 0, .slice none 0 0] by
    rw [hw6, hga, show w4.heap.size + 1 = w5.heap.size by rw [hw5]; simp]; exact Blk.new _ _ _)
  have hb46 := hb5.trans (hb6.mono (by rw [hw5]; simp))
  have hb36 := hb4.trans (hb46.mono hb4.size)
  have HG6 := Lib.hid (HG3.out.below hb36 HG3.out.lt)
  have HZ6 := Lib.hid (HZ3.out.below hb36)
  have HS6 := Lib.hid (own_keep HS3'.out hb36)
  have HMw6 := Lib.hid (hm4.below hb46)
  have Hmd := Lib.hid hmd
  have Hb6 := Lib.hid (Hb3.out.trans (hb36.mono Hb3.out.size))
  have Hsl6 : Hid (∀ g, (Value.slice S ls cS).ownBlock = some g → g < ga) := Lib.hid (fun g hg => by have := Hsl.out g hg; have := hb4.size; omega)
  have Hw6 : Hid ((w4.alloc (.cells #[.slice B1 n1 c1, .slice B2 n2 c2, .slice B3 n3 c3] 26)).alloc (.cells #[.slice none 0 0, .slice none 0 0, .slice none 0 0] 26) = w6) := Lib.hid (by rw [hw6, hw5])
  have Hg8 := Lib.hid hg8.symm
  have Hga : Hid (g8 + 1 = ga) := Lib.hid (by rw [hga, hg8])
  have hgab : b0 ≤ ga := by have := Hb3.out.size; have := hb4.size; omega
  have h5a : g5 ≠ ga := by have := HG3.out.lt; have := hb4.size; omega
  have h8a : g8 ≠ ga := by omega
  clear hm4 hmd hb4 hb5 hb6 HM5 hb46 hb36 hm1 hm2 hm3 hVm hen hw5 hw6 hg8 hga HG3 HZ3 HS3' Hsl HNew Hw3 Hg5
  (try dsimp only)
  by_cases hrg : nn < 1 ∨ 4 < nn
  · have hnew := new_1 hrg
    have hen3 : en = 3 := by rw [Hen.out, hnew]
    subst hen3
    have HRr := Lib.hid (HR1.out (by rw [hnew]; simp))
    rw [hnew] at HRr
    have hr3 : r1 = 3 := by rw [Hr1.out, HRr.out]
    subst hr3
    have hl0 : ls = 0 := by rw [Hls.out, HRr.out]; rfl
    subst hl0
    have HZd : Hid (z.wd = wx0.wd) := Lib.hid (by rw [Hzd.out, HRr.out]; rfl)
    have HMd : Hid (mm.wd = wx0.wd) := Lib.hid (by rw [Hmd.out, hnew]; rfl)
    rcases (by omega : nn < 1 ∨ (¬ nn < 1 ∧ 4 < nn)) with h1 | ⟨h1, h2⟩
    all_goals (
      clear hrg hnew HR1 HR2 HR3
      go_wp2_with fail
      rw [Hw6.out]
      refine (HT.out _ Hb6.out).mono ?_
      rintro e w8 ⟨rfl, hb8⟩
      have Hb8 := Lib.hid (Hb6.out.trans (hb8.mono Hb6.out.size))
      obtain ⟨a0, a1, a2⟩ := blk3 (HA6.out.below hb8 HA6.out.lt)
      obtain ⟨e0, e1, e2⟩ := blk3 (HM6.out.below hb8 HM6.out.lt)
      have HSm := Lib.hid (sameWorld_eq mm wx0 w8 (HMw6.out.isWorld.below hb8) (wx0_is w8) HMd.out)
      have HG8 := Lib.hid (HG6.out.below hb8 HG6.out.lt)
      have HZ8 := Lib.hid (HZ6.out.below hb8)
      rw [HVm.out] at HSm
      unfold wx0 wV at HSm
      dsimp only at HSm
      clear hb8
      rw [Hg8.out, Hga.out]
      go_wp2_with fail
      refine (HSm.out).mono ?_
      rintro e w9 ⟨rfl, hb9⟩
      have Hb9 := Lib.hid (Hb8.out.trans (hb9.mono Hb8.out.size))
      obtain ⟨z0, z1, z2⟩ := blk3 (HG8.out.below hb9 HG8.out.lt)
      have HSz := Lib.hid (sameWorld_eq z wx0 w9 (HZ8.out.isWorld.below hb9) (wx0_is w9) HZd.out)
      rw [HVz.out] at HSz
      unfold wx0 wV at HSz
      dsimp only at HSz
      clear hb9 a0 a1 a2 e0 e1 e2
      go_wp2_with fail
      refine (HSz.out).mono ?_
      rintro e w10 ⟨rfl, hb10⟩
      have Hb10 := Lib.hid (Hb9.out.trans (hb10.mono Hb9.out.size))
      clear hb10 z0 z1 z2
      go_wp2_with fail
      go_ret
      exact ⟨rfl, Hb10.out⟩)
  · have hnew := new_2 hrg
    obtain ⟨N, rfl⟩ : ∃ N : Nat, nn = (N : Int) := ⟨nn.toNat, by omega⟩
    rw [Int.toNat_natCast] at hnew
    have hN1 : 1 ≤ N := by omega
    have hN4 : N ≤ 4 := by omega
    have hen0 : en = 0 := by rw [Hen.out, hnew]
    subst hen0
    have hnew' : newR (N : Int) = (0, newW N) := hnew
    have HR2 := Lib.hid (HR2.out (by rw [hnew]))
    have HR3 := Lib.hid (HR3.out (by rw [hnew]))
    rw [hnew'] at HR3
    have HMd : Hid (mm.wd = newW N) := Lib.hid (by rw [Hmd.out, hnew'])
    have h1 : ¬ (N : Int) < 1 := by omega
    have h2 : ¬ 4 < (N : Int) := by omega
    obtain ⟨rN, hrN⟩ : ∃ rN, rN = (List.replicate N (Value.slice none 0 0)).toArray := ⟨_, rfl⟩
    obtain ⟨iN, hiN⟩ : ∃ iN, iN = (List.replicate N (Value.int .i64 0)).toArray := ⟨_, rfl⟩
    have m1 : ∀ w, (Instr.makeSlice 22 (.int .i64 (N : Int)) (.int .i64 (N : Int))).run Tryz.prog w = .ok (.slice (some ⟨w.heap.size, 0, none⟩) N N) (w.alloc (.cells rN 46)) := by
      rw [hrN]
      rcases (by omega : N = 1 ∨ N = 2 ∨ N = 3 ∨ N = 4) with rfl | rfl | rfl | rfl
      · have h : ∀ w, (Instr.makeSlice 22 (.int .i64 1) (.int .i64 1)).run Tryz.prog w = .ok (.slice (some ⟨w.heap.size, 0, none⟩) 1 1) (w.alloc (.cells #[.slice none 0 0] 46)) := fun _ => by kernel_rfl
        exact h
      · have h : ∀ w, (Instr.makeSlice 22 (.int .i64 2) (.int .i64 2)).run Tryz.prog w = .ok (.slice (some ⟨w.heap.size, 0, none⟩) 2 2) (w.alloc (.cells #[.slice none 0 0, .slice none 0 0] 46)) := fun _ => by kernel_rfl
        exact h
      · have h : ∀ w, (Instr.makeSlice 22 (.int .i64 3) (.int .i64 3)).run Tryz.prog w = .ok (.slice (some ⟨w.heap.size, 0, none⟩) 3 3) (w.alloc (.cells #[.slice none 0 0, .slice none 0 0, .slice none 0 0] 46)) := fun _ => by kernel_rfl
        exact h
      · have h : ∀ w, (Instr.makeSlice 22 (.int .i64 4) (.int .i64 4)).run Tryz.prog w = .ok (.slice (some ⟨w.heap.size, 0, none⟩) 4 4) (w.alloc (.cells #[.slice none 0 0, .slice none 0 0, .slice none 0 0, .slice none 0 0] 46)) := fun _ => by kernel_rfl
        exact h
    have m2 : ∀ w, (Instr.makeSlice 23 (.int .i64 (N : Int)) (.int .i64 (N : Int))).run Tryz.prog w = .ok (.slice (some ⟨w.heap.size, 0, none⟩) N N) (w.alloc (.cells iN 3)) := by
      rw [hiN]
      rcases (by omega : N = 1 ∨ N = 2 ∨ N = 3 ∨ N = 4) with rfl | rfl | rfl | rfl
      · have h : ∀ w, (Instr.makeSlice 23 (.int .i64 1) (.int .i64 1)).run Tryz.prog w = .ok (.slice (some ⟨w.heap.size, 0, none⟩) 1 1) (w.alloc (.cells #[.int .i64 0] 3)) := fun _ => by kernel_rfl
        exact h
      · have h : ∀ w, (Instr.makeSlice 23 (.int .i64 2) (.int .i64 2)).run Tryz.prog w = .ok (.slice (some ⟨w.heap.size, 0, none⟩) 2 2) (w.alloc (.cells #[.int .i64 0, .int .i64 0] 3)) := fun _ => by kernel_rfl
        exact h
      · have h : ∀ w, (Instr.makeSlice 23 (.int .i64 3) (.int .i64 3)).run Tryz.prog w = .ok (.slice (some ⟨w.heap.size, 0, none⟩) 3 3) (w.alloc (.cells #[.int .i64 0, .int .i64 0, .int .i64 0] 3)) := fun _ => by kernel_rfl
        exact h
      · have h : ∀ w, (Instr.makeSlice 23 (.int .i64 4) (.int .i64 4)).run Tryz.prog w = .ok (.slice (some ⟨w.heap.size, 0, none⟩) 4 4) (w.alloc (.cells #[.int .i64 0, .int .i64 0, .int .i64 0, .int .i64 0] 3)) := fun _ => by kernel_rfl
        exact h
    have HrN := Lib.hid hrN
    have HiN := Lib.hid hiN
    obtain ⟨a0, a1, a2⟩ := blk3 HA6.out
    have af0 := HA6.out.frozen 0
    have af1 := HA6.out.frozen 1
    have af2 := HA6.out.frozen 2
    have hal := HA6.out.lt
    clear hrg hnew hnew' HR1 hrN hiN
    go_wp2_with fail
    rw [Hw6.out, Hg8.out, Hga.out]
    go_wp2_with fail
    go_region
    · have hX : (((((w6.setCell ⟨ga, 0, none⟩ (.slice (some ⟨w6.heap.size, 0, none⟩) N N)).setCell ⟨ga, 1, none⟩ (.slice (some ⟨w6.heap.size + 1, 0, none⟩) N N)).setCell ⟨ga, 2, none⟩ (.slice none 0 0)).alloc (.cells rN 46)).alloc (.cells iN 3)).heap.size = w6.heap.size + 2 := by simp
      have HK7 : Keeps b0 [26] w6 (((((w6.setCell ⟨ga, 0, none⟩ (.slice (some ⟨w6.heap.size, 0, none⟩) N N)).setCell ⟨ga, 1, none⟩ (.slice (some ⟨w6.heap.size + 1, 0, none⟩) N N)).setCell ⟨ga, 2, none⟩ (.slice none 0 0)).alloc (.cells rN 46)).alloc (.cells iN 3)).drew := ((((((Keeps.refl b0 [26] w6).setBlk HA6.out (by simp) hgab 0 (.slice (some ⟨w6.heap.size, 0, none⟩) N N)).setBlk (HA6.out.set_ 0 (.slice (some ⟨w6.heap.size, 0, none⟩) N N)) (by simp) hgab 1 (.slice (some ⟨w6.heap.size + 1, 0, none⟩) N N)).setBlk ((HA6.out.set_ 0 (.slice (some ⟨w6.heap.size, 0, none⟩) N N)).set_ 1 (.slice (some ⟨w6.heap.size + 1, 0, none⟩) N N)) (by simp) hgab 2 (.slice none 0 0)).alloc (by simp; have := Hb6.out.size; omega) (.cells rN 46)).alloc (by simp; have := Hb6.out.size; omega) (.cells iN 3)).drew
      have hB1 : Blk (((((w6.setCell ⟨ga, 0, none⟩ (.slice (some ⟨w6.heap.size, 0, none⟩) N N)).setCell ⟨ga, 1, none⟩ (.slice (some ⟨w6.heap.size + 1, 0, none⟩) N N)).setCell ⟨ga, 2, none⟩ (.slice none 0 0)).alloc (.cells rN 46)).alloc (.cells iN 3)) w6.heap.size 46 rN := by
        have h1 := (Blk.new (((w6.setCell ⟨ga, 0, none⟩ (.slice (some ⟨w6.heap.size, 0, none⟩) N N)).setCell ⟨ga, 1, none⟩ (.slice (some ⟨w6.heap.size + 1, 0, none⟩) N N)).setCell ⟨ga, 2, none⟩ (.slice none 0 0)) 46 rN).alloc (.cells iN 3)
        simpa using h1
      have hB2 : Blk (((((w6.setCell ⟨ga, 0, none⟩ (.slice (some ⟨w6.heap.size, 0, none⟩) N N)).setCell ⟨ga, 1, none⟩ (.slice (some ⟨w6.heap.size + 1, 0, none⟩) N N)).setCell ⟨ga, 2, none⟩ (.slice none 0 0)).alloc (.cells rN 46)).alloc (.cells iN 3)) (w6.heap.size + 1) 3 iN := by
        have h1 := Blk.new ((((w6.setCell ⟨ga, 0, none⟩ (.slice (some ⟨w6.heap.size, 0, none⟩) N N)).setCell ⟨ga, 1, none⟩ (.slice (some ⟨w6.heap.size + 1, 0, none⟩) N N)).setCell ⟨ga, 2, none⟩ (.slice none 0 0)).alloc (.cells rN 46)) 3 iN
        simpa using h1
      have hBa : Blk (((((w6.setCell ⟨ga, 0, none⟩ (.slice (some ⟨w6.heap.size, 0, none⟩) N N)).setCell ⟨ga, 1, none⟩ (.slice (some ⟨w6.heap.size + 1, 0, none⟩) N N)).setCell ⟨ga, 2, none⟩ (.slice none 0 0)).alloc (.cells rN 46)).alloc (.cells iN 3)) ga 26 #[.slice (some ⟨w6.heap.size, 0, none⟩) N N, .slice (some ⟨w6.heap.size + 1, 0, none⟩) N N, .slice none 0 0] := ((((HA6.out.set_ 0 (.slice (some ⟨w6.heap.size, 0, none⟩) N N)).set_ 1 (.slice (some ⟨w6.heap.size + 1, 0, none⟩) N N)).set_ 2 (.slice none 0 0)).alloc (.cells rN 46)).alloc (.cells iN 3)
      have hBg : Blk (((((w6.setCell ⟨ga, 0, none⟩ (.slice (some ⟨w6.heap.size, 0, none⟩) N N)).setCell ⟨ga, 1, none⟩ (.slice (some ⟨w6.heap.size + 1, 0, none⟩) N N)).setCell ⟨ga, 2, none⟩ (.slice none 0 0)).alloc (.cells rN 46)).alloc (.cells iN 3)) g5 26 #[.slice E1 k1 f1, .slice E2 k2 f2, .slice E3 k3 f3] := ((((HG6.out.far (p := ⟨ga, 0, none⟩) h5a (.slice (some ⟨w6.heap.size, 0, none⟩) N N)).far (p := ⟨ga, 1, none⟩) h5a (.slice (some ⟨w6.heap.size + 1, 0, none⟩) N N)).far (p := ⟨ga, 2, none⟩) h5a (.slice none 0 0)).alloc (.cells rN 46)).alloc (.cells iN 3)
      have hBm : Blk (((((w6.setCell ⟨ga, 0, none⟩ (.slice (some ⟨w6.heap.size, 0, none⟩) N N)).setCell ⟨ga, 1, none⟩ (.slice (some ⟨w6.heap.size + 1, 0, none⟩) N N)).setCell ⟨ga, 2, none⟩ (.slice none 0 0)).alloc (.cells rN 46)).alloc (.cells iN 3)) g8 26 #[.slice B1 n1 c1, .slice B2 n2 c2, .slice B3 n3 c3] := ((((HM6.out.far (p := ⟨ga, 0, none⟩) h8a (.slice (some ⟨w6.heap.size, 0, none⟩) N N)).far (p := ⟨ga, 1, none⟩) h8a (.slice (some ⟨w6.heap.size + 1, 0, none⟩) N N)).far (p := ⟨ga, 2, none⟩) h8a (.slice none 0 0)).alloc (.cells rN 46)).alloc (.cells iN 3)
      have hBX' : Blk (((((w6.setCell ⟨ga, 0, none⟩ (.slice (some ⟨w6.heap.size, 0, none⟩) N N)).setCell ⟨ga, 1, none⟩ (.slice (some ⟨w6.heap.size + 1, 0, none⟩) N N)).setCell ⟨ga, 2, none⟩ (.slice none 0 0)).alloc (.cells rN 46)).alloc (.cells iN 3)) (w6.heap.size) 46 (List.replicate N (Value.slice none 0 0)).toArray := by rw [← HrN.out]; exact hB1
      have hBY' : Blk (((((w6.setCell ⟨ga, 0, none⟩ (.slice (some ⟨w6.heap.size, 0, none⟩) N N)).setCell ⟨ga, 1, none⟩ (.slice (some ⟨w6.heap.size + 1, 0, none⟩) N N)).setCell ⟨ga, 2, none⟩ (.slice none 0 0)).alloc (.cells rN 46)).alloc (.cells iN 3)) (w6.heap.size + 1) 3 (List.replicate N (Value.int .i64 0)).toArray := by rw [← HiN.out]; exact hB2
      have hU0 := (new_ws (((((w6.setCell ⟨ga, 0, none⟩ (.slice (some ⟨w6.heap.size, 0, none⟩) N N)).setCell ⟨ga, 1, none⟩ (.slice (some ⟨w6.heap.size + 1, 0, none⟩) N N)).setCell ⟨ga, 2, none⟩ (.slice none 0 0)).alloc (.cells rN 46)).alloc (.cells iN 3)) b0 (w6.heap.size) (w6.heap.size + 1) N (by omega) (by have := Hb6.out.size; omega) (by have := Hb6.out.size; omega) hBX' hBY').drew
      have hb7 : Below W.heap.size W (((((w6.setCell ⟨ga, 0, none⟩ (.slice (some ⟨w6.heap.size, 0, none⟩) N N)).setCell ⟨ga, 1, none⟩ (.slice (some ⟨w6.heap.size + 1, 0, none⟩) N N)).setCell ⟨ga, 2, none⟩ (.slice none 0 0)).alloc (.cells rN 46)).alloc (.cells iN 3)).drew := ((((((Hb6.out.setCell (show W.heap.size ≤ (⟨ga, 0, none⟩ : Addr).block from by rw [← Hb0.out]; exact hgab) (.slice (some ⟨w6.heap.size, 0, none⟩) N N)).setCell (show W.heap.size ≤ (⟨ga, 1, none⟩ : Addr).block from by rw [← Hb0.out]; exact hgab) (.slice (some ⟨w6.heap.size + 1, 0, none⟩) N N)).setCell (show W.heap.size ≤ (⟨ga, 2, none⟩ : Addr).block from by rw [← Hb0.out]; exact hgab) (.slice none 0 0)).alloc (by simp; have := Hb6.out.size; omega) (.cells rN 46)).alloc (by simp; have := Hb6.out.size; omega) (.cells iN 3))).drew
      have HZ7 := HZ6.out.keeps HK7 (by decide) (by decide) (by decide) (by decide) (by decide)
      have HS7 := HK7.own HS6.out (by decide)
      have HMs7 := HMw6.out.keeps (HK7) (by decide) (by decide) (by decide) (by decide) (by decide)
      obtain ⟨w7, hw7⟩ : ∃ w7, w7 = (((((w6.setCell ⟨ga, 0, none⟩ (.slice (some ⟨w6.heap.size, 0, none⟩) N N)).setCell ⟨ga, 1, none⟩ (.slice (some ⟨w6.heap.size + 1, 0, none⟩) N N)).setCell ⟨ga, 2, none⟩ (.slice none 0 0)).alloc (.cells rN 46)).alloc (.cells iN 3)).drew := ⟨_, rfl⟩
      have HBa7 := Lib.hid (show Blk w7 ga 26 #[.slice (some ⟨w6.heap.size, 0, none⟩) N N, .slice (some ⟨w6.heap.size + 1, 0, none⟩) N N, .slice none 0 0] by rw [hw7]; exact hBa)
      have HBg7 := Lib.hid (show Blk w7 g5 26 #[.slice E1 k1 f1, .slice E2 k2 f2, .slice E3 k3 f3] by rw [hw7]; exact hBg)
      have HBm7 := Lib.hid (show Blk w7 g8 26 #[.slice B1 n1 c1, .slice B2 n2 c2, .slice B3 n3 c3] by rw [hw7]; exact hBm)
      rw [← hw7] at hU0 hb7 HZ7 HS7 HMs7
      have HZ7 := Lib.hid HZ7
      have HS7 := Lib.hid HS7
      have HMs7 := Lib.hid HMs7
      have Hb7 := Lib.hid hb7
      have Hw7 := Lib.hid hw7.symm
      obtain ⟨u0, hu0⟩ : ∃ u0 : Wx, u0 = ⟨.slice (some ⟨(w6.heap.size), 0, none⟩) N N, List.replicate N ((none, 0, 0), []), .slice (some ⟨(w6.heap.size + 1), 0, none⟩) N N, List.replicate N 0, .slice none 0 0, []⟩ := ⟨_, rfl⟩
      rw [← hu0] at hU0
      have HU0 := Lib.hid hU0
      have HU0d : Hid (u0.wd = newW N) := Lib.hid (by rw [hu0]; simp [Wx.wd, flOf, newW])
      have HU0v : Hid (wV u0 = .agg #[.slice (some ⟨w6.heap.size, 0, none⟩) N N, .slice (some ⟨w6.heap.size + 1, 0, none⟩) N N, .slice none 0 0]) := Lib.hid (by rw [hu0]; rfl)
      have HU0r : Hid (u0.vn = (.slice (some ⟨w6.heap.size, 0, none⟩) N N) ∧ u0.vc = (.slice (some ⟨w6.heap.size + 1, 0, none⟩) N N) ∧ u0.vt = .slice none 0 0) := Lib.hid (by rw [hu0]; exact ⟨rfl, rfl, rfl⟩)
      obtain ⟨X0, hX0⟩ : ∃ X0 : Option Addr, X0 = some ⟨(w6.heap.size), 0, none⟩ := ⟨_, rfl⟩
      obtain ⟨Y0, hY0⟩ : ∃ Y0 : Option Addr, Y0 = some ⟨(w6.heap.size + 1), 0, none⟩ := ⟨_, rfl⟩
      rw [← hX0, ← hY0] at HBa7 HU0v HU0r
      clear hX HK7 hB1 hB2 hBX' hBY' hBa hBg hBm hU0 hb7 hw7 hu0 hX0 hY0 m1 m2 a0 a1 a2 af0 af1 af2 hal HrN HiN HA6 HG6 HZ6 HS6 HMw6 HM6
      go_wp2_with fail
      rw [Hw7.out]
      refine (HT.out _ Hb7.out).mono ?_
      rintro e w8 ⟨rfl, hb8⟩
      have Hb8 := Lib.hid (Hb7.out.trans (hb8.mono Hb7.out.size))
      have HBa8 := Lib.hid (HBa7.out.below hb8 HBa7.out.lt)
      have HBg8 := Lib.hid (HBg7.out.below hb8 HBg7.out.lt)
      have HBm8 := Lib.hid (HBm7.out.below hb8 HBm7.out.lt)
      have HZ8 := Lib.hid (HZ7.out.below hb8)
      have HS8 := Lib.hid (own_keep HS7.out hb8)
      have HU8 := Lib.hid (HU0.out.below hb8)
      have HSm := Lib.hid (sameWorld_eq mm u0 w8 (HMs7.out.isWorld.below hb8) HU8.out.isWorld (by rw [HMd.out, HU0d.out]))
      rw [HVm.out, HU0v.out] at HSm
      obtain ⟨a0, a1, a2⟩ := blk3 HBa8.out
      obtain ⟨e0, e1, e2⟩ := blk3 HBm8.out
      clear hb8 HBa7 HBg7 HBm7 HZ7 HS7 HU0 HMs7 Hw7
      go_wp2_with fail
      refine (HSm.out).mono ?_
      rintro e w9 ⟨rfl, hb9⟩
      have Hb9 := Lib.hid (Hb8.out.trans (hb9.mono Hb8.out.size))
      have HBa9 := Lib.hid (HBa8.out.below hb9 HBa8.out.lt)
      have HBg9 := Lib.hid (HBg8.out.below hb9 HBg8.out.lt)
      have HZ9 := Lib.hid (HZ8.out.below hb9)
      have HS9 := Lib.hid (own_keep HS8.out hb9)
      have HU9 := Lib.hid (HU8.out.below hb9)
      have hsz9 : ga < w9.heap.size := HBa9.out.lt
      clear hb9 HBa8 HBg8 HBm8 HZ8 HS8 HU8 HSm a0 a1 a2 e0 e1 e2
      by_cases h40 : 40 < m
      · have h40' : (40 : Int) < (m : Int) := by omega
        have HRr := Lib.hid (HR2.out h40)
        have hr2 : r1 = 2 := by rw [Hr1.out, HRr.out]
        subst hr2
        have hl0 : ls = 0 := by rw [Hls.out, HRr.out]; rfl
        subst hl0
        obtain ⟨z0, z1, z2⟩ := blk3 HBg9.out
        have HSz := Lib.hid (sameWorld_eq z wx0 w9 HZ9.out.isWorld (wx0_is w9) (by rw [Hzd.out, HRr.out]; rfl))
        rw [HVz.out] at HSz
        unfold wx0 wV at HSz
        dsimp only at HSz
        clear HR2 HR3 h40
        go_wp2_with fail
        refine (HSz.out).mono ?_
        rintro e w10 ⟨rfl, hb10⟩
        have Hb10 := Lib.hid (Hb9.out.trans (hb10.mono Hb9.out.size))
        clear hb10 z0 z1 z2
        go_wp2_with fail
        go_ret
        exact ⟨rfl, Hb10.out⟩
      · have h40' : ¬ (40 : Int) < (m : Int) := by omega
        have hm40 : m ≤ 40 := by omega
        have HRr := Lib.hid (HR3.out h40)
        have hr0 : r1 = 0 := by rw [Hr1.out, HRr.out]
        subst hr0
        obtain ⟨Bq, hBq⟩ : ∃ Bq, Bq = w9.heap.size := ⟨_, rfl⟩
        have HWn := Lib.hid (newW_ok N hN1 hN4)
        have hgaq : ga < Bq := by omega
        have Hslq : Hid (∀ g, (Value.slice S ls cS).ownBlock = some g → g < Bq) := Lib.hid (fun g hg => by have := Hsl6.out g hg; omega)
        have HBq : Hid (Bq ≤ w9.heap.size) := Lib.hid (by omega)
        have HSt0 : Hid (Stay b0 w9 u0) := Lib.hid (HU9.out.stays (Nat.le_refl _))
        have HB09 : Hid (Below b0 W w9) := Lib.hid (by rw [Hb0.out]; exact Hb9.out)
        have HBu9 : Hid (Blk w9 ga 26 #[u0.vn, u0.vc, u0.vt]) := Lib.hid (by rw [HU0r.out.1, HU0r.out.2.1, HU0r.out.2.2]; exact HBa9.out)
        clear hBq HR2 HR3 h40 HU9 HBa9
        go_wp2_with fail
        go_loopw [12, 78] (fun vs vi wr => ∃ (k : Nat) (u : Wx) (sd : List Int), k ≤ m ∧ vi = .int .i64 (k : Int) ∧ Blk wr ga 26 #[u.vn, u.vc, u.vt] ∧ Stay b0 wr u ∧ wr.ownsRow Bq 31 1 vs sd.length (sd.flatMap intC) ∧ (u.wd, sd) = runL (newW N) ((xs.map Prod.fst).take k) ∧ sd.length = k ∧ Blk wr g5 26 #[.slice E1 k1 f1, .slice E2 k2 f2, .slice E3 k3 f3] ∧ OwnW wr b0 z ∧ wr.ownsRow b0 31 1 (.slice S ls cS) ls (r.2.2.flatMap intC) ∧ Below b0 W wr ∧ Bq ≤ wr.heap.size) (fun _ vi _ => m - (intOf vi).toNat)
        case atStart => exact ⟨0, u0, [], Nat.zero_le _, rfl, HBu9.out, HSt0.out, World.ownsRow_nil .., by rw [HU0d.out]; rfl, rfl, HBg9.out, by rw [Hb0.out]; exact HZ9.out, by rw [Hb0.out]; exact HS9.out, HB09.out, HBq.out⟩
        case round =>
          clear HBu9 HSt0 HBg9 HZ9 HS9 HB09 HBq Hb9 Hb8 Hb7 Hb6 Hb3
          obtain ⟨k, u, sd, hk, rfl, hbu, hst, hsd, hrun, hsl, hbg, hz, hs, hb, hbq⟩ := hrel
          have HBu := Lib.hid hbu
          have HSt := Lib.hid hst
          have Hsd := Lib.hid hsd
          have Hrun := Lib.hid hrun
          have hsl40 : sd.length ≤ 40 := by omega
          have Hsl := Lib.hid hsl
          have HBg := Lib.hid hbg
          have HZ := Lib.hid hz
          have HSd := Lib.hid hs
          have Hb := Lib.hid hb
          have Hbq := Lib.hid hbq
          have HWk : Hid (Below W.heap.size W wr) := Lib.hid (by rw [← Hb0.out]; exact hb)
          have hbz : b0 ≤ wr.heap.size := by rw [Hb0.out]; exact HWk.out.size
          obtain ⟨A1, q1, d1, A2, q2, d2, A3, q3, d3, hu1, hu2, hu3⟩ := isW_agg hst.is
          have hVu : wV u = .agg #[.slice A1 q1 d1, .slice A2 q2 d2, .slice A3 q3 d3] := by unfold wV; rw [hu1, hu2, hu3]
          have HVu := Lib.hid hVu
          rw [hu1, hu2, hu3] at hbu
          have HBv := Lib.hid hbu
          clear hst hsd hrun hsl hbg hz hs hb hbq hu1 hu2 hu3 hVu
          by_cases hlt : k < m
          · have hkx : k < xs.length := by rw [← Hm.out]; exact hlt
            obtain ⟨b, o, rfl, ca0, ca1, ca2, ca3, ca4⟩ := hap_cells (HS3.out.below HWk.out) hkx
            have hok : WOk u.wd := by have := runL_ok HWn.out ((xs.map Prod.fst).take k); rw [← Hrun.out] at this; exact this
            have HOk := Lib.hid hok
            have HSo := Lib.hid (fun W' (hb : Below wr.heap.size wr W') => stepOf_any u xs[k] W' (HML.out.below (HWk.out.trans (hb.mono HWk.out.size))) (HSt.out.is.below hb) (wdk_of_ok HOk.out) HOk.out ((HS5.out xs[k] (List.getElem_mem hkx)).below (HWk.out.trans (hb.mono HWk.out.size))) b0 (Nat.le_trans hbz hb.size) (by rw [Hb0.out]; exact hap_low (HS5.out xs[k] (List.getElem_mem hkx))))
            have HTk : Hid (runL (newW N) ((xs.map Prod.fst).take (k + 1)) = stepRun (runL (newW N) ((xs.map Prod.fst).take k)) xs[k].1) := Lib.hid (by rw [runL_take _ _ _ (by rw [List.length_map]; exact hkx), List.getElem_map])
            generalize xs[k] = hx at *
            have HDo : Hid (doR u.wd hx.1 = stepR u.wd hx.1) := Lib.hid (do_2 (chkW_ok.2 hok))
            obtain ⟨⟨kind, node, to_, nm, bytes⟩, Ab, nb, cb⟩ := hx
            simp only [slv] at ca4
            dsimp only at ca0 ca1 ca2 ca3 HTk HSo HDo
            unfold hV slv at HSo
            dsimp only at HSo
            rw [HVu.out] at HSo
            obtain ⟨rr, hrr⟩ : ∃ rr, rr = stepR u.wd ⟨kind, node, to_, nm, bytes⟩ := ⟨_, rfl⟩
            rw [← hrr] at HSo HDo
            obtain ⟨wh, hwh⟩ : ∃ wh, wh = wr.alloc (.cells #[.int .i64 kind, .int .i64 node, .int .i64 to_, .string (strB nm), .slice Ab nb cb] 29) := ⟨_, rfl⟩
            have hbh : Below wr.heap.size wr wh := by rw [hwh]; exact (Below.refl _ _).alloc (Nat.le_refl _) _
            have Hbh := Lib.hid hbh
            have HSo2 := Lib.hid (HSo.out wh hbh)
            have Hwh := Lib.hid hwh.symm
            obtain ⟨v0, v1, v2⟩ := blk3 hbu
            have hlu := HBv.out.lt
            clear hbh hwh hrr hok hbu
            go_wp2_with fail
            rw [Hwh.out]
            refine (HSo2.out).mono ?_
            rintro e w5 ⟨y2, rfl, hy2, hyd2, hb5⟩
            have hb5' := Hbh.out.trans (hb5.mono Hbh.out.size)
            have HBv5 := Lib.hid (HBv.out.below hb5' HBv.out.lt)
            have HBu5 := Lib.hid (HBu.out.below hb5' HBu.out.lt)
            have HBg5 := Lib.hid (HBg.out.below hb5' HBg.out.lt)
            have HZ5 := Lib.hid (HZ.out.below hb5')
            have HSd5 := Lib.hid (own_keep HSd.out hb5')
            have Hsd5 := Lib.hid (own_keep Hsd.out hb5')
            have HSt5 := Lib.hid (HSt.out.below hb5' hbz)
            have Hb5 := Lib.hid (Hb.out.trans (hb5'.mono hbz))
            have Hbq5 : Hid (Bq ≤ w5.heap.size) := Lib.hid (Nat.le_trans Hbq.out hb5'.size)
            have HY2 : Hid (Stay b0 w5 y2) := Lib.hid hy2
            have Hyd2 := Lib.hid hyd2
            obtain ⟨B1', p1, d1', B2', p2, d2', B3', p3, d3', h1', h2', h3'⟩ := isW_agg HY2.out.is
            have hV : wV y2 = .agg #[.slice B1' p1 d1', .slice B2' p2 d2', .slice B3' p3 d3'] := by unfold wV; rw [h1', h2', h3']
            rw [hV]
            have HH := Lib.hid (And.intro h1' (And.intro h2' h3'))
            obtain ⟨zc, hzc⟩ : ∃ zc, rr.1 = zc := ⟨_, rfl⟩
            have Hzc := Lib.hid hzc
            rw [hzc]
            clear hy2 hyd2 hb5 hb5' h1' h2' h3' hV hzc HBv HBu HBg HZ HSd Hsd HSt HSo HSo2 Hbh v0 v1 v2 ca0 ca1 ca2 ca3 ca4 hlu Hb Hbq HWk Hwh
            (try dsimp only)
            by_cases h0 : zc = 0
            · subst h0
              have HBq5x : Hid (b0 ≤ w5.heap.size) := Lib.hid (by have := Hbq5.out; omega)
              have hk1 : Keeps b0 [26] w5 ((((w5.setCell ⟨ga, 0, none⟩ (.slice B1' p1 d1')).setCell ⟨ga, 1, none⟩ (.slice B2' p2 d2')).setCell ⟨ga, 2, none⟩ (.slice B3' p3 d3'))) := (((Keeps.refl b0 [26] w5).setBlk HBv5.out (by simp) hgab 0 (.slice B1' p1 d1')).setBlk (HBv5.out.set_ 0 (.slice B1' p1 d1')) (by simp) hgab 1 (.slice B2' p2 d2')).setBlk ((HBv5.out.set_ 0 (.slice B1' p1 d1')).set_ 1 (.slice B2' p2 d2')) (by simp) hgab 2 (.slice B3' p3 d3')
              have hKf : Keeps b0 T0 w5 ((((((w5.setCell ⟨ga, 0, none⟩ (.slice B1' p1 d1')).setCell ⟨ga, 1, none⟩ (.slice B2' p2 d2')).setCell ⟨ga, 2, none⟩ (.slice B3' p3 d3')).alloc (.cells #[.slice B1' p1 d1', .slice B2' p2 d2', .slice B3' p3 d3'] 26)).alloc (.cells #[.int .i64 0] 31))) := ((hk1.mono (Nat.le_refl _) t0w).alloc (by have := HBq5x.out; simp; omega) _).alloc (by have := hbz; have := HBq5x.out; simp; omega) _
              have hbf : Below b0 w5 ((((((w5.setCell ⟨ga, 0, none⟩ (.slice B1' p1 d1')).setCell ⟨ga, 1, none⟩ (.slice B2' p2 d2')).setCell ⟨ga, 2, none⟩ (.slice B3' p3 d3')).alloc (.cells #[.slice B1' p1 d1', .slice B2' p2 d2', .slice B3' p3 d3'] 26)).alloc (.cells #[.int .i64 0] 31))) := hKf.below
              have HBa7 : Hid (Blk ((((((w5.setCell ⟨ga, 0, none⟩ (.slice B1' p1 d1')).setCell ⟨ga, 1, none⟩ (.slice B2' p2 d2')).setCell ⟨ga, 2, none⟩ (.slice B3' p3 d3')).alloc (.cells #[.slice B1' p1 d1', .slice B2' p2 d2', .slice B3' p3 d3'] 26)).alloc (.cells #[.int .i64 0] 31))) ga 26 #[.slice B1' p1 d1', .slice B2' p2 d2', .slice B3' p3 d3']) := Lib.hid ((((HBv5.out.set_ 0 (.slice B1' p1 d1')).set_ 1 (.slice B2' p2 d2')).set_ 2 (.slice B3' p3 d3')).alloc _).alloc _
              have HBg7 : Hid (Blk ((((((w5.setCell ⟨ga, 0, none⟩ (.slice B1' p1 d1')).setCell ⟨ga, 1, none⟩ (.slice B2' p2 d2')).setCell ⟨ga, 2, none⟩ (.slice B3' p3 d3')).alloc (.cells #[.slice B1' p1 d1', .slice B2' p2 d2', .slice B3' p3 d3'] 26)).alloc (.cells #[.int .i64 0] 31))) g5 26 #[.slice E1 k1 f1, .slice E2 k2 f2, .slice E3 k3 f3]) := Lib.hid ((((HBg5.out.far (p := ⟨ga, 0, none⟩) h5a (.slice B1' p1 d1')).far (p := ⟨ga, 1, none⟩) h5a (.slice B2' p2 d2')).far (p := ⟨ga, 2, none⟩) h5a (.slice B3' p3 d3')).alloc _).alloc _
              have HZ7 := Lib.hid (HZ5.out.keeps hKf (by decide) (by decide) (by decide) (by decide) (by decide))
              have HSd7 : Hid (((((((w5.setCell ⟨ga, 0, none⟩ (.slice B1' p1 d1')).setCell ⟨ga, 1, none⟩ (.slice B2' p2 d2')).setCell ⟨ga, 2, none⟩ (.slice B3' p3 d3')).alloc (.cells #[.slice B1' p1 d1', .slice B2' p2 d2', .slice B3' p3 d3'] 26)).alloc (.cells #[.int .i64 0] 31))).ownsRow b0 31 1 (.slice S ls cS) ls (r.2.2.flatMap intC)) := Lib.hid (own_keep (own_keep (hk1.own HSd5.out (by decide)) ((Below.refl _ _).alloc (Nat.le_refl _) _)) ((Below.refl _ _).alloc (Nat.le_refl _) _))
              have Hsd7 : Hid (((((((w5.setCell ⟨ga, 0, none⟩ (.slice B1' p1 d1')).setCell ⟨ga, 1, none⟩ (.slice B2' p2 d2')).setCell ⟨ga, 2, none⟩ (.slice B3' p3 d3')).alloc (.cells #[.slice B1' p1 d1', .slice B2' p2 d2', .slice B3' p3 d3'] 26)).alloc (.cells #[.int .i64 0] 31))).ownsRow Bq 31 1 _ sd.length (sd.flatMap intC)) := Lib.hid (own_keep (own_keep (hk1.own Hsd5.out (by decide)) ((Below.refl _ _).alloc (Nat.le_refl _) _)) ((Below.refl _ _).alloc (Nat.le_refl _) _))
              have HSt7 : Hid (Stay b0 ((((((w5.setCell ⟨ga, 0, none⟩ (.slice B1' p1 d1')).setCell ⟨ga, 1, none⟩ (.slice B2' p2 d2')).setCell ⟨ga, 2, none⟩ (.slice B3' p3 d3')).alloc (.cells #[.slice B1' p1 d1', .slice B2' p2 d2', .slice B3' p3 d3'] 26)).alloc (.cells #[.int .i64 0] 31))) y2) := Lib.hid (HY2.out.keeps hKf)
              have Hb7 := Lib.hid (Hb5.out.trans hbf)
              have Hbq7 : Hid (Bq ≤ ((((((w5.setCell ⟨ga, 0, none⟩ (.slice B1' p1 d1')).setCell ⟨ga, 1, none⟩ (.slice B2' p2 d2')).setCell ⟨ga, 2, none⟩ (.slice B3' p3 d3')).alloc (.cells #[.slice B1' p1 d1', .slice B2' p2 d2', .slice B3' p3 d3'] 26)).alloc (.cells #[.int .i64 0] 31))).heap.size) := Lib.hid (by have := Hbq5.out; simp; omega)
              have HZs := Lib.hid (show SlAt ((((((w5.setCell ⟨ga, 0, none⟩ (.slice B1' p1 d1')).setCell ⟨ga, 1, none⟩ (.slice B2' p2 d2')).setCell ⟨ga, 2, none⟩ (.slice B3' p3 d3')).alloc (.cells #[.slice B1' p1 d1', .slice B2' p2 d2', .slice B3' p3 d3'] 26)).alloc (.cells #[.int .i64 0] 31))) (some ⟨w5.heap.size + 1, 0, none⟩) [.int .i64 0] from by
                have h1 := SlAt.of_heap (heap_alloc_new (((((w5.setCell ⟨ga, 0, none⟩ (.slice B1' p1 d1')).setCell ⟨ga, 1, none⟩ (.slice B2' p2 d2')).setCell ⟨ga, 2, none⟩ (.slice B3' p3 d3'))).alloc (.cells #[.slice B1' p1 d1', .slice B2' p2 d2', .slice B3' p3 d3'] 26)) (.cells #[.int .i64 0] 31)) (xs := [.int .i64 0]) rfl
                simpa using h1)
              obtain ⟨u0', u1', u2'⟩ := blk3 HBv5.out
              have f0 := HBv5.out.frozen 0
              have f1 := HBv5.out.frozen 1
              have f2 := HBv5.out.frozen 2
              have hlt5 := HBv5.out.lt
              clear hk1 hKf hbf HBg5 HZ5 HSd5 Hsd5 Hb5 Hbq5
              go_wp2_with (at_builtin; refine wpList_app _ rfl (.tmp 91) (.tmp 93) _ rfl Bq 31 _ 1 8 tyE _ sd.length (sd.flatMap intC) rfl Hsd7.out (some ⟨w5.heap.size + 1, 0, none⟩) 1 1 [.int .i64 0] rfl rfl HZs.out (by simp [Value.oneCell']) (by simp) (by unfold maxLen; omega) (by omega) Hbq7.out ?_; intro v8 w8 hown8 hg8 _; have Ho8 := Lib.hid hown8; have Hg8 := Lib.hid hg8; clear hown8 hg8)
              have hkp : Keeps Bq [31] ((((((w5.setCell ⟨ga, 0, none⟩ (.slice B1' p1 d1')).setCell ⟨ga, 1, none⟩ (.slice B2' p2 d2')).setCell ⟨ga, 2, none⟩ (.slice B3' p3 d3')).alloc (.cells #[.slice B1' p1 d1', .slice B2' p2 d2', .slice B3' p3 d3'] 26)).alloc (.cells #[.int .i64 0] 31))) w8 := (Keeps.refl _ _ _).grown Hsd7.out Hg8.out (by simp) Hbq7.out
              have hkT : Keeps b0 T0 ((((((w5.setCell ⟨ga, 0, none⟩ (.slice B1' p1 d1')).setCell ⟨ga, 1, none⟩ (.slice B2' p2 d2')).setCell ⟨ga, 2, none⟩ (.slice B3' p3 d3')).alloc (.cells #[.slice B1' p1 d1', .slice B2' p2 d2', .slice B3' p3 d3'] 26)).alloc (.cells #[.int .i64 0] 31))) w8 := hkp.mono (by omega) t0e
              have HBa8 := Lib.hid (hkp.blk HBa7.out (by decide))
              have HBg8 := Lib.hid (hkp.blk HBg7.out (by decide))
              have HZ8 := Lib.hid (HZ7.out.keeps hkT (by decide) (by decide) (by decide) (by decide) (by decide))
              have HSd8 := Lib.hid (own_lt HSd7.out hkp.below Hslq.out)
              have HSt8 := Lib.hid (HSt7.out.keeps hkT)
              have Hb8 := Lib.hid (Hb7.out.trans hkT.below)
              have Hbq8 : Hid (Bq ≤ w8.heap.size) := Lib.hid (Nat.le_trans Hbq7.out hkp.size)
              have HT2 : Hid ((y2.wd, sd ++ [0]) = runL (newW N) ((xs.map Prod.fst).take (k + 1))) := Lib.hid (by
                rw [HTk.out, ← Hrun.out]
                unfold stepRun
                dsimp only
                rw [HDo.out, if_pos Hzc.out, Hyd2.out])
              clear hkp hkT HBa7 HBg7 HZ7 HSd7 Hsd7 HSt7 Hb7 Hbq7 HZs Hg8
              go_roundw
              case rel => exact ⟨k + 1, y2, sd ++ [0], by omega, by go_num, by rw [HH.out.1, HH.out.2.1, HH.out.2.2]; exact HBa8.out, HSt8.out, by rw [List.length_append, List.flatMap_append]; exact Ho8.out, HT2.out, by rw [List.length_append, Hsl.out]; rfl, HBg8.out, HZ8.out, HSd8.out, Hb8.out, Hbq8.out⟩
              case measure => simp [intOf]; omega
            · have hz1 : (zc == 0) = false := by simpa using h0
              have HBq5x : Hid (b0 ≤ w5.heap.size) := Lib.hid (by have := Hbq5.out; omega)
              have hk1 : Keeps b0 [26] w5 (w5) := Keeps.refl _ _ _
              have hKf : Keeps b0 T0 w5 (((w5.alloc (.cells #[.slice B1' p1 d1', .slice B2' p2 d2', .slice B3' p3 d3'] 26)).alloc (.cells #[.int .i64 zc] 31))) := ((hk1.mono (Nat.le_refl _) t0w).alloc (by have := HBq5x.out; simp; omega) _).alloc (by have := hbz; have := HBq5x.out; simp; omega) _
              have hbf : Below b0 w5 (((w5.alloc (.cells #[.slice B1' p1 d1', .slice B2' p2 d2', .slice B3' p3 d3'] 26)).alloc (.cells #[.int .i64 zc] 31))) := hKf.below
              have HBa7 : Hid (Blk (((w5.alloc (.cells #[.slice B1' p1 d1', .slice B2' p2 d2', .slice B3' p3 d3'] 26)).alloc (.cells #[.int .i64 zc] 31))) ga 26 #[u.vn, u.vc, u.vt]) := Lib.hid (HBu5.out.alloc _).alloc _
              have HBg7 : Hid (Blk (((w5.alloc (.cells #[.slice B1' p1 d1', .slice B2' p2 d2', .slice B3' p3 d3'] 26)).alloc (.cells #[.int .i64 zc] 31))) g5 26 #[.slice E1 k1 f1, .slice E2 k2 f2, .slice E3 k3 f3]) := Lib.hid (HBg5.out.alloc _).alloc _
              have HZ7 := Lib.hid (HZ5.out.keeps hKf (by decide) (by decide) (by decide) (by decide) (by decide))
              have HSd7 : Hid ((((w5.alloc (.cells #[.slice B1' p1 d1', .slice B2' p2 d2', .slice B3' p3 d3'] 26)).alloc (.cells #[.int .i64 zc] 31))).ownsRow b0 31 1 (.slice S ls cS) ls (r.2.2.flatMap intC)) := Lib.hid (own_keep (own_keep (hk1.own HSd5.out (by decide)) ((Below.refl _ _).alloc (Nat.le_refl _) _)) ((Below.refl _ _).alloc (Nat.le_refl _) _))
              have Hsd7 : Hid ((((w5.alloc (.cells #[.slice B1' p1 d1', .slice B2' p2 d2', .slice B3' p3 d3'] 26)).alloc (.cells #[.int .i64 zc] 31))).ownsRow Bq 31 1 _ sd.length (sd.flatMap intC)) := Lib.hid (own_keep (own_keep (hk1.own Hsd5.out (by decide)) ((Below.refl _ _).alloc (Nat.le_refl _) _)) ((Below.refl _ _).alloc (Nat.le_refl _) _))
              have HSt7 : Hid (Stay b0 (((w5.alloc (.cells #[.slice B1' p1 d1', .slice B2' p2 d2', .slice B3' p3 d3'] 26)).alloc (.cells #[.int .i64 zc] 31))) u) := Lib.hid (HSt5.out.keeps hKf)
              have Hb7 := Lib.hid (Hb5.out.trans hbf)
              have Hbq7 : Hid (Bq ≤ (((w5.alloc (.cells #[.slice B1' p1 d1', .slice B2' p2 d2', .slice B3' p3 d3'] 26)).alloc (.cells #[.int .i64 zc] 31))).heap.size) := Lib.hid (by have := Hbq5.out; simp; omega)
              have HZs := Lib.hid (show SlAt (((w5.alloc (.cells #[.slice B1' p1 d1', .slice B2' p2 d2', .slice B3' p3 d3'] 26)).alloc (.cells #[.int .i64 zc] 31))) (some ⟨w5.heap.size + 1, 0, none⟩) [.int .i64 zc] from by
                have h1 := SlAt.of_heap (heap_alloc_new ((w5).alloc (.cells #[.slice B1' p1 d1', .slice B2' p2 d2', .slice B3' p3 d3'] 26)) (.cells #[.int .i64 zc] 31)) (xs := [.int .i64 zc]) rfl
                simpa using h1)
              obtain ⟨u0', u1', u2'⟩ := blk3 HBv5.out
              have f0 := HBv5.out.frozen 0
              have f1 := HBv5.out.frozen 1
              have f2 := HBv5.out.frozen 2
              have hlt5 := HBv5.out.lt
              clear hk1 hKf hbf HBg5 HZ5 HSd5 Hsd5 Hb5 Hbq5
              go_wp2_with (at_builtin; refine wpList_app _ rfl (.tmp 91) (.tmp 93) _ rfl Bq 31 _ 1 8 tyE _ sd.length (sd.flatMap intC) rfl Hsd7.out (some ⟨w5.heap.size + 1, 0, none⟩) 1 1 [.int .i64 zc] rfl rfl HZs.out (by simp [Value.oneCell']) (by simp) (by unfold maxLen; omega) (by omega) Hbq7.out ?_; intro v8 w8 hown8 hg8 _; have Ho8 := Lib.hid hown8; have Hg8 := Lib.hid hg8; clear hown8 hg8)
              have hkp : Keeps Bq [31] (((w5.alloc (.cells #[.slice B1' p1 d1', .slice B2' p2 d2', .slice B3' p3 d3'] 26)).alloc (.cells #[.int .i64 zc] 31))) w8 := (Keeps.refl _ _ _).grown Hsd7.out Hg8.out (by simp) Hbq7.out
              have hkT : Keeps b0 T0 (((w5.alloc (.cells #[.slice B1' p1 d1', .slice B2' p2 d2', .slice B3' p3 d3'] 26)).alloc (.cells #[.int .i64 zc] 31))) w8 := hkp.mono (by omega) t0e
              have HBa8 := Lib.hid (hkp.blk HBa7.out (by decide))
              have HBg8 := Lib.hid (hkp.blk HBg7.out (by decide))
              have HZ8 := Lib.hid (HZ7.out.keeps hkT (by decide) (by decide) (by decide) (by decide) (by decide))
              have HSd8 := Lib.hid (own_lt HSd7.out hkp.below Hslq.out)
              have HSt8 := Lib.hid (HSt7.out.keeps hkT)
              have Hb8 := Lib.hid (Hb7.out.trans hkT.below)
              have Hbq8 : Hid (Bq ≤ w8.heap.size) := Lib.hid (Nat.le_trans Hbq7.out hkp.size)
              have HT2 : Hid ((u.wd, sd ++ [zc]) = runL (newW N) ((xs.map Prod.fst).take (k + 1))) := Lib.hid (by
                rw [HTk.out, ← Hrun.out]
                unfold stepRun
                dsimp only
                rw [HDo.out, Hzc.out, if_neg h0])
              clear hkp hkT HBa7 HBg7 HZ7 HSd7 Hsd7 HSt7 Hb7 Hbq7 HZs Hg8
              go_roundw
              case rel => exact ⟨k + 1, u, sd ++ [zc], by omega, by go_num, HBa8.out, HSt8.out, by rw [List.length_append, List.flatMap_append]; exact Ho8.out, HT2.out, by rw [List.length_append, Hsl.out]; rfl, HBg8.out, HZ8.out, HSd8.out, Hb8.out, Hbq8.out⟩
              case measure => simp [intOf]; omega
          · obtain rfl : k = m := by omega
            have HF : Hid ((u.wd, sd) = runL (newW N) (xs.map Prod.fst)) := Lib.hid (by rw [Hrun.out, List.take_of_length_le (by rw [List.length_map, ← Hm.out]; exact Nat.le_refl _)])
            obtain ⟨A4, c4, rfl, _⟩ := own_slat Hsd.out
            obtain ⟨lq, hlq⟩ : ∃ lq, lq = sd.length := ⟨_, rfl⟩
            rw [← hlq] at Hsd ⊢
            have HEq := Lib.hid (equal_errs S A4 ls lq cS c4 r.2.2 sd wr Hls.out.symm hlq.symm (errs_in HSd.out).2 (errs_in Hsd.out).2 (errs_in HSd.out).1 (errs_in Hsd.out).1)
            have hdec : decide (r.2.2 = sd) = true := decide_eq_true (by rw [HRr.out]; show (runL (newW N) (xs.map Prod.fst)).2 = sd; rw [← HF.out])
            rw [hdec] at HEq
            obtain ⟨v0, v1, v2⟩ := blk3 HBv.out
            obtain ⟨z0, z1, z2⟩ := blk3 HBg.out
            have HSz := Lib.hid (fun (d : Nat) => sameWorld_eq z u (wr.drewN d) (HZ.out.below ((Below.refl wr.heap.size wr).drewN' d)).isWorld (HSt.out.is.below ((Below.refl wr.heap.size wr).drewN' d)) (by rw [Hzd.out, HRr.out]; show (runL (newW N) (xs.map Prod.fst)).1 = u.wd; rw [← HF.out]))
            rw [HVz.out, HVu.out] at HSz
            clear hlq hdec
            go_wp2_with fail
            refine (HEq.out).mono ?_
            rintro e w10 ⟨rfl, dd, rfl⟩
            go_wp2_with fail
            refine (HSz.out dd).mono ?_
            rintro e w11 ⟨rfl, hb11⟩
            have Hb11 := Lib.hid (HWk.out.trans ((((Below.refl wr.heap.size wr).drewN' dd).trans (hb11.mono (by simp))).mono HWk.out.size))
            clear hb11 z0 z1 z2 v0 v1 v2
            go_wp2_with fail
            go_ret
            exact ⟨rfl, Hb11.out⟩
    · have hX : (((((w6.setCell ⟨ga, 0, none⟩ (.slice (some ⟨w6.heap.size + 1, 0, none⟩) N N)).setCell ⟨ga, 1, none⟩ (.slice (some ⟨w6.heap.size, 0, none⟩) N N)).setCell ⟨ga, 2, none⟩ (.slice none 0 0)).alloc (.cells iN 3)).alloc (.cells rN 46)).heap.size = w6.heap.size + 2 := by simp
      have HK7 : Keeps b0 [26] w6 (((((w6.setCell ⟨ga, 0, none⟩ (.slice (some ⟨w6.heap.size + 1, 0, none⟩) N N)).setCell ⟨ga, 1, none⟩ (.slice (some ⟨w6.heap.size, 0, none⟩) N N)).setCell ⟨ga, 2, none⟩ (.slice none 0 0)).alloc (.cells iN 3)).alloc (.cells rN 46)).drew := ((((((Keeps.refl b0 [26] w6).setBlk HA6.out (by simp) hgab 0 (.slice (some ⟨w6.heap.size + 1, 0, none⟩) N N)).setBlk (HA6.out.set_ 0 (.slice (some ⟨w6.heap.size + 1, 0, none⟩) N N)) (by simp) hgab 1 (.slice (some ⟨w6.heap.size, 0, none⟩) N N)).setBlk ((HA6.out.set_ 0 (.slice (some ⟨w6.heap.size + 1, 0, none⟩) N N)).set_ 1 (.slice (some ⟨w6.heap.size, 0, none⟩) N N)) (by simp) hgab 2 (.slice none 0 0)).alloc (by simp; have := Hb6.out.size; omega) (.cells iN 3)).alloc (by simp; have := Hb6.out.size; omega) (.cells rN 46)).drew
      have hB1 : Blk (((((w6.setCell ⟨ga, 0, none⟩ (.slice (some ⟨w6.heap.size + 1, 0, none⟩) N N)).setCell ⟨ga, 1, none⟩ (.slice (some ⟨w6.heap.size, 0, none⟩) N N)).setCell ⟨ga, 2, none⟩ (.slice none 0 0)).alloc (.cells iN 3)).alloc (.cells rN 46)) w6.heap.size 3 iN := by
        have h1 := (Blk.new (((w6.setCell ⟨ga, 0, none⟩ (.slice (some ⟨w6.heap.size + 1, 0, none⟩) N N)).setCell ⟨ga, 1, none⟩ (.slice (some ⟨w6.heap.size, 0, none⟩) N N)).setCell ⟨ga, 2, none⟩ (.slice none 0 0)) 3 iN).alloc (.cells rN 46)
        simpa using h1
      have hB2 : Blk (((((w6.setCell ⟨ga, 0, none⟩ (.slice (some ⟨w6.heap.size + 1, 0, none⟩) N N)).setCell ⟨ga, 1, none⟩ (.slice (some ⟨w6.heap.size, 0, none⟩) N N)).setCell ⟨ga, 2, none⟩ (.slice none 0 0)).alloc (.cells iN 3)).alloc (.cells rN 46)) (w6.heap.size + 1) 46 rN := by
        have h1 := Blk.new ((((w6.setCell ⟨ga, 0, none⟩ (.slice (some ⟨w6.heap.size + 1, 0, none⟩) N N)).setCell ⟨ga, 1, none⟩ (.slice (some ⟨w6.heap.size, 0, none⟩) N N)).setCell ⟨ga, 2, none⟩ (.slice none 0 0)).alloc (.cells iN 3)) 46 rN
        simpa using h1
      have hBa : Blk (((((w6.setCell ⟨ga, 0, none⟩ (.slice (some ⟨w6.heap.size + 1, 0, none⟩) N N)).setCell ⟨ga, 1, none⟩ (.slice (some ⟨w6.heap.size, 0, none⟩) N N)).setCell ⟨ga, 2, none⟩ (.slice none 0 0)).alloc (.cells iN 3)).alloc (.cells rN 46)) ga 26 #[.slice (some ⟨w6.heap.size + 1, 0, none⟩) N N, .slice (some ⟨w6.heap.size, 0, none⟩) N N, .slice none 0 0] := ((((HA6.out.set_ 0 (.slice (some ⟨w6.heap.size + 1, 0, none⟩) N N)).set_ 1 (.slice (some ⟨w6.heap.size, 0, none⟩) N N)).set_ 2 (.slice none 0 0)).alloc (.cells iN 3)).alloc (.cells rN 46)
      have hBg : Blk (((((w6.setCell ⟨ga, 0, none⟩ (.slice (some ⟨w6.heap.size + 1, 0, none⟩) N N)).setCell ⟨ga, 1, none⟩ (.slice (some ⟨w6.heap.size, 0, none⟩) N N)).setCell ⟨ga, 2, none⟩ (.slice none 0 0)).alloc (.cells iN 3)).alloc (.cells rN 46)) g5 26 #[.slice E1 k1 f1, .slice E2 k2 f2, .slice E3 k3 f3] := ((((HG6.out.far (p := ⟨ga, 0, none⟩) h5a (.slice (some ⟨w6.heap.size + 1, 0, none⟩) N N)).far (p := ⟨ga, 1, none⟩) h5a (.slice (some ⟨w6.heap.size, 0, none⟩) N N)).far (p := ⟨ga, 2, none⟩) h5a (.slice none 0 0)).alloc (.cells iN 3)).alloc (.cells rN 46)
      have hBm : Blk (((((w6.setCell ⟨ga, 0, none⟩ (.slice (some ⟨w6.heap.size + 1, 0, none⟩) N N)).setCell ⟨ga, 1, none⟩ (.slice (some ⟨w6.heap.size, 0, none⟩) N N)).setCell ⟨ga, 2, none⟩ (.slice none 0 0)).alloc (.cells iN 3)).alloc (.cells rN 46)) g8 26 #[.slice B1 n1 c1, .slice B2 n2 c2, .slice B3 n3 c3] := ((((HM6.out.far (p := ⟨ga, 0, none⟩) h8a (.slice (some ⟨w6.heap.size + 1, 0, none⟩) N N)).far (p := ⟨ga, 1, none⟩) h8a (.slice (some ⟨w6.heap.size, 0, none⟩) N N)).far (p := ⟨ga, 2, none⟩) h8a (.slice none 0 0)).alloc (.cells iN 3)).alloc (.cells rN 46)
      have hBX' : Blk (((((w6.setCell ⟨ga, 0, none⟩ (.slice (some ⟨w6.heap.size + 1, 0, none⟩) N N)).setCell ⟨ga, 1, none⟩ (.slice (some ⟨w6.heap.size, 0, none⟩) N N)).setCell ⟨ga, 2, none⟩ (.slice none 0 0)).alloc (.cells iN 3)).alloc (.cells rN 46)) (w6.heap.size + 1) 46 (List.replicate N (Value.slice none 0 0)).toArray := by rw [← HrN.out]; exact hB2
      have hBY' : Blk (((((w6.setCell ⟨ga, 0, none⟩ (.slice (some ⟨w6.heap.size + 1, 0, none⟩) N N)).setCell ⟨ga, 1, none⟩ (.slice (some ⟨w6.heap.size, 0, none⟩) N N)).setCell ⟨ga, 2, none⟩ (.slice none 0 0)).alloc (.cells iN 3)).alloc (.cells rN 46)) (w6.heap.size) 3 (List.replicate N (Value.int .i64 0)).toArray := by rw [← HiN.out]; exact hB1
      have hU0 := (new_ws (((((w6.setCell ⟨ga, 0, none⟩ (.slice (some ⟨w6.heap.size + 1, 0, none⟩) N N)).setCell ⟨ga, 1, none⟩ (.slice (some ⟨w6.heap.size, 0, none⟩) N N)).setCell ⟨ga, 2, none⟩ (.slice none 0 0)).alloc (.cells iN 3)).alloc (.cells rN 46)) b0 (w6.heap.size + 1) (w6.heap.size) N (by omega) (by have := Hb6.out.size; omega) (by have := Hb6.out.size; omega) hBX' hBY').drew
      have hb7 : Below W.heap.size W (((((w6.setCell ⟨ga, 0, none⟩ (.slice (some ⟨w6.heap.size + 1, 0, none⟩) N N)).setCell ⟨ga, 1, none⟩ (.slice (some ⟨w6.heap.size, 0, none⟩) N N)).setCell ⟨ga, 2, none⟩ (.slice none 0 0)).alloc (.cells iN 3)).alloc (.cells rN 46)).drew := ((((((Hb6.out.setCell (show W.heap.size ≤ (⟨ga, 0, none⟩ : Addr).block from by rw [← Hb0.out]; exact hgab) (.slice (some ⟨w6.heap.size + 1, 0, none⟩) N N)).setCell (show W.heap.size ≤ (⟨ga, 1, none⟩ : Addr).block from by rw [← Hb0.out]; exact hgab) (.slice (some ⟨w6.heap.size, 0, none⟩) N N)).setCell (show W.heap.size ≤ (⟨ga, 2, none⟩ : Addr).block from by rw [← Hb0.out]; exact hgab) (.slice none 0 0)).alloc (by simp; have := Hb6.out.size; omega) (.cells iN 3)).alloc (by simp; have := Hb6.out.size; omega) (.cells rN 46))).drew
      have HZ7 := HZ6.out.keeps HK7 (by decide) (by decide) (by decide) (by decide) (by decide)
      have HS7 := HK7.own HS6.out (by decide)
      have HMs7 := HMw6.out.keeps (HK7) (by decide) (by decide) (by decide) (by decide) (by decide)
      obtain ⟨w7, hw7⟩ : ∃ w7, w7 = (((((w6.setCell ⟨ga, 0, none⟩ (.slice (some ⟨w6.heap.size + 1, 0, none⟩) N N)).setCell ⟨ga, 1, none⟩ (.slice (some ⟨w6.heap.size, 0, none⟩) N N)).setCell ⟨ga, 2, none⟩ (.slice none 0 0)).alloc (.cells iN 3)).alloc (.cells rN 46)).drew := ⟨_, rfl⟩
      have HBa7 := Lib.hid (show Blk w7 ga 26 #[.slice (some ⟨w6.heap.size + 1, 0, none⟩) N N, .slice (some ⟨w6.heap.size, 0, none⟩) N N, .slice none 0 0] by rw [hw7]; exact hBa)
      have HBg7 := Lib.hid (show Blk w7 g5 26 #[.slice E1 k1 f1, .slice E2 k2 f2, .slice E3 k3 f3] by rw [hw7]; exact hBg)
      have HBm7 := Lib.hid (show Blk w7 g8 26 #[.slice B1 n1 c1, .slice B2 n2 c2, .slice B3 n3 c3] by rw [hw7]; exact hBm)
      rw [← hw7] at hU0 hb7 HZ7 HS7 HMs7
      have HZ7 := Lib.hid HZ7
      have HS7 := Lib.hid HS7
      have HMs7 := Lib.hid HMs7
      have Hb7 := Lib.hid hb7
      have Hw7 := Lib.hid hw7.symm
      obtain ⟨u0, hu0⟩ : ∃ u0 : Wx, u0 = ⟨.slice (some ⟨(w6.heap.size + 1), 0, none⟩) N N, List.replicate N ((none, 0, 0), []), .slice (some ⟨(w6.heap.size), 0, none⟩) N N, List.replicate N 0, .slice none 0 0, []⟩ := ⟨_, rfl⟩
      rw [← hu0] at hU0
      have HU0 := Lib.hid hU0
      have HU0d : Hid (u0.wd = newW N) := Lib.hid (by rw [hu0]; simp [Wx.wd, flOf, newW])
      have HU0v : Hid (wV u0 = .agg #[.slice (some ⟨w6.heap.size + 1, 0, none⟩) N N, .slice (some ⟨w6.heap.size, 0, none⟩) N N, .slice none 0 0]) := Lib.hid (by rw [hu0]; rfl)
      have HU0r : Hid (u0.vn = (.slice (some ⟨w6.heap.size + 1, 0, none⟩) N N) ∧ u0.vc = (.slice (some ⟨w6.heap.size, 0, none⟩) N N) ∧ u0.vt = .slice none 0 0) := Lib.hid (by rw [hu0]; exact ⟨rfl, rfl, rfl⟩)
      obtain ⟨X0, hX0⟩ : ∃ X0 : Option Addr, X0 = some ⟨(w6.heap.size + 1), 0, none⟩ := ⟨_, rfl⟩
      obtain ⟨Y0, hY0⟩ : ∃ Y0 : Option Addr, Y0 = some ⟨(w6.heap.size), 0, none⟩ := ⟨_, rfl⟩
      rw [← hX0, ← hY0] at HBa7 HU0v HU0r
      clear hX HK7 hB1 hB2 hBX' hBY' hBa hBg hBm hU0 hb7 hw7 hu0 hX0 hY0 m1 m2 a0 a1 a2 af0 af1 af2 hal HrN HiN HA6 HG6 HZ6 HS6 HMw6 HM6
      go_wp2_with fail
      rw [Hw7.out]
      refine (HT.out _ Hb7.out).mono ?_
      rintro e w8 ⟨rfl, hb8⟩
      have Hb8 := Lib.hid (Hb7.out.trans (hb8.mono Hb7.out.size))
      have HBa8 := Lib.hid (HBa7.out.below hb8 HBa7.out.lt)
      have HBg8 := Lib.hid (HBg7.out.below hb8 HBg7.out.lt)
      have HBm8 := Lib.hid (HBm7.out.below hb8 HBm7.out.lt)
      have HZ8 := Lib.hid (HZ7.out.below hb8)
      have HS8 := Lib.hid (own_keep HS7.out hb8)
      have HU8 := Lib.hid (HU0.out.below hb8)
      have HSm := Lib.hid (sameWorld_eq mm u0 w8 (HMs7.out.isWorld.below hb8) HU8.out.isWorld (by rw [HMd.out, HU0d.out]))
      rw [HVm.out, HU0v.out] at HSm
      obtain ⟨a0, a1, a2⟩ := blk3 HBa8.out
      obtain ⟨e0, e1, e2⟩ := blk3 HBm8.out
      clear hb8 HBa7 HBg7 HBm7 HZ7 HS7 HU0 HMs7 Hw7
      go_wp2_with fail
      refine (HSm.out).mono ?_
      rintro e w9 ⟨rfl, hb9⟩
      have Hb9 := Lib.hid (Hb8.out.trans (hb9.mono Hb8.out.size))
      have HBa9 := Lib.hid (HBa8.out.below hb9 HBa8.out.lt)
      have HBg9 := Lib.hid (HBg8.out.below hb9 HBg8.out.lt)
      have HZ9 := Lib.hid (HZ8.out.below hb9)
      have HS9 := Lib.hid (own_keep HS8.out hb9)
      have HU9 := Lib.hid (HU8.out.below hb9)
      have hsz9 : ga < w9.heap.size := HBa9.out.lt
      clear hb9 HBa8 HBg8 HBm8 HZ8 HS8 HU8 HSm a0 a1 a2 e0 e1 e2
      by_cases h40 : 40 < m
      · have h40' : (40 : Int) < (m : Int) := by omega
        have HRr := Lib.hid (HR2.out h40)
        have hr2 : r1 = 2 := by rw [Hr1.out, HRr.out]
        subst hr2
        have hl0 : ls = 0 := by rw [Hls.out, HRr.out]; rfl
        subst hl0
        obtain ⟨z0, z1, z2⟩ := blk3 HBg9.out
        have HSz := Lib.hid (sameWorld_eq z wx0 w9 HZ9.out.isWorld (wx0_is w9) (by rw [Hzd.out, HRr.out]; rfl))
        rw [HVz.out] at HSz
        unfold wx0 wV at HSz
        dsimp only at HSz
        clear HR2 HR3 h40
        go_wp2_with fail
        refine (HSz.out).mono ?_
        rintro e w10 ⟨rfl, hb10⟩
        have Hb10 := Lib.hid (Hb9.out.trans (hb10.mono Hb9.out.size))
        clear hb10 z0 z1 z2
        go_wp2_with fail
        go_ret
        exact ⟨rfl, Hb10.out⟩
      · have h40' : ¬ (40 : Int) < (m : Int) := by omega
        have hm40 : m ≤ 40 := by omega
        have HRr := Lib.hid (HR3.out h40)
        have hr0 : r1 = 0 := by rw [Hr1.out, HRr.out]
        subst hr0
        obtain ⟨Bq, hBq⟩ : ∃ Bq, Bq = w9.heap.size := ⟨_, rfl⟩
        have HWn := Lib.hid (newW_ok N hN1 hN4)
        have hgaq : ga < Bq := by omega
        have Hslq : Hid (∀ g, (Value.slice S ls cS).ownBlock = some g → g < Bq) := Lib.hid (fun g hg => by have := Hsl6.out g hg; omega)
        have HBq : Hid (Bq ≤ w9.heap.size) := Lib.hid (by omega)
        have HSt0 : Hid (Stay b0 w9 u0) := Lib.hid (HU9.out.stays (Nat.le_refl _))
        have HB09 : Hid (Below b0 W w9) := Lib.hid (by rw [Hb0.out]; exact Hb9.out)
        have HBu9 : Hid (Blk w9 ga 26 #[u0.vn, u0.vc, u0.vt]) := Lib.hid (by rw [HU0r.out.1, HU0r.out.2.1, HU0r.out.2.2]; exact HBa9.out)
        clear hBq HR2 HR3 h40 HU9 HBa9
        go_wp2_with fail
        go_loopw [12, 78] (fun vs vi wr => ∃ (k : Nat) (u : Wx) (sd : List Int), k ≤ m ∧ vi = .int .i64 (k : Int) ∧ Blk wr ga 26 #[u.vn, u.vc, u.vt] ∧ Stay b0 wr u ∧ wr.ownsRow Bq 31 1 vs sd.length (sd.flatMap intC) ∧ (u.wd, sd) = runL (newW N) ((xs.map Prod.fst).take k) ∧ sd.length = k ∧ Blk wr g5 26 #[.slice E1 k1 f1, .slice E2 k2 f2, .slice E3 k3 f3] ∧ OwnW wr b0 z ∧ wr.ownsRow b0 31 1 (.slice S ls cS) ls (r.2.2.flatMap intC) ∧ Below b0 W wr ∧ Bq ≤ wr.heap.size) (fun _ vi _ => m - (intOf vi).toNat)
        case atStart => exact ⟨0, u0, [], Nat.zero_le _, rfl, HBu9.out, HSt0.out, World.ownsRow_nil .., by rw [HU0d.out]; rfl, rfl, HBg9.out, by rw [Hb0.out]; exact HZ9.out, by rw [Hb0.out]; exact HS9.out, HB09.out, HBq.out⟩
        case round =>
          clear HBu9 HSt0 HBg9 HZ9 HS9 HB09 HBq Hb9 Hb8 Hb7 Hb6 Hb3
          obtain ⟨k, u, sd, hk, rfl, hbu, hst, hsd, hrun, hsl, hbg, hz, hs, hb, hbq⟩ := hrel
          have HBu := Lib.hid hbu
          have HSt := Lib.hid hst
          have Hsd := Lib.hid hsd
          have Hrun := Lib.hid hrun
          have hsl40 : sd.length ≤ 40 := by omega
          have Hsl := Lib.hid hsl
          have HBg := Lib.hid hbg
          have HZ := Lib.hid hz
          have HSd := Lib.hid hs
          have Hb := Lib.hid hb
          have Hbq := Lib.hid hbq
          have HWk : Hid (Below W.heap.size W wr) := Lib.hid (by rw [← Hb0.out]; exact hb)
          have hbz : b0 ≤ wr.heap.size := by rw [Hb0.out]; exact HWk.out.size
          obtain ⟨A1, q1, d1, A2, q2, d2, A3, q3, d3, hu1, hu2, hu3⟩ := isW_agg hst.is
          have hVu : wV u = .agg #[.slice A1 q1 d1, .slice A2 q2 d2, .slice A3 q3 d3] := by unfold wV; rw [hu1, hu2, hu3]
          have HVu := Lib.hid hVu
          rw [hu1, hu2, hu3] at hbu
          have HBv := Lib.hid hbu
          clear hst hsd hrun hsl hbg hz hs hb hbq hu1 hu2 hu3 hVu
          by_cases hlt : k < m
          · have hkx : k < xs.length := by rw [← Hm.out]; exact hlt
            obtain ⟨b, o, rfl, ca0, ca1, ca2, ca3, ca4⟩ := hap_cells (HS3.out.below HWk.out) hkx
            have hok : WOk u.wd := by have := runL_ok HWn.out ((xs.map Prod.fst).take k); rw [← Hrun.out] at this; exact this
            have HOk := Lib.hid hok
            have HSo := Lib.hid (fun W' (hb : Below wr.heap.size wr W') => stepOf_any u xs[k] W' (HML.out.below (HWk.out.trans (hb.mono HWk.out.size))) (HSt.out.is.below hb) (wdk_of_ok HOk.out) HOk.out ((HS5.out xs[k] (List.getElem_mem hkx)).below (HWk.out.trans (hb.mono HWk.out.size))) b0 (Nat.le_trans hbz hb.size) (by rw [Hb0.out]; exact hap_low (HS5.out xs[k] (List.getElem_mem hkx))))
            have HTk : Hid (runL (newW N) ((xs.map Prod.fst).take (k + 1)) = stepRun (runL (newW N) ((xs.map Prod.fst).take k)) xs[k].1) := Lib.hid (by rw [runL_take _ _ _ (by rw [List.length_map]; exact hkx), List.getElem_map])
            generalize xs[k] = hx at *
            have HDo : Hid (doR u.wd hx.1 = stepR u.wd hx.1) := Lib.hid (do_2 (chkW_ok.2 hok))
            obtain ⟨⟨kind, node, to_, nm, bytes⟩, Ab, nb, cb⟩ := hx
            simp only [slv] at ca4
            dsimp only at ca0 ca1 ca2 ca3 HTk HSo HDo
            unfold hV slv at HSo
            dsimp only at HSo
            rw [HVu.out] at HSo
            obtain ⟨rr, hrr⟩ : ∃ rr, rr = stepR u.wd ⟨kind, node, to_, nm, bytes⟩ := ⟨_, rfl⟩
            rw [← hrr] at HSo HDo
            obtain ⟨wh, hwh⟩ : ∃ wh, wh = wr.alloc (.cells #[.int .i64 kind, .int .i64 node, .int .i64 to_, .string (strB nm), .slice Ab nb cb] 29) := ⟨_, rfl⟩
            have hbh : Below wr.heap.size wr wh := by rw [hwh]; exact (Below.refl _ _).alloc (Nat.le_refl _) _
            have Hbh := Lib.hid hbh
            have HSo2 := Lib.hid (HSo.out wh hbh)
            have Hwh := Lib.hid hwh.symm
            obtain ⟨v0, v1, v2⟩ := blk3 hbu
            have hlu := HBv.out.lt
            clear hbh hwh hrr hok hbu
            go_wp2_with fail
            rw [Hwh.out]
            refine (HSo2.out).mono ?_
            rintro e w5 ⟨y2, rfl, hy2, hyd2, hb5⟩
            have hb5' := Hbh.out.trans (hb5.mono Hbh.out.size)
            have HBv5 := Lib.hid (HBv.out.below hb5' HBv.out.lt)
            have HBu5 := Lib.hid (HBu.out.below hb5' HBu.out.lt)
            have HBg5 := Lib.hid (HBg.out.below hb5' HBg.out.lt)
            have HZ5 := Lib.hid (HZ.out.below hb5')
            have HSd5 := Lib.hid (own_keep HSd.out hb5')
            have Hsd5 := Lib.hid (own_keep Hsd.out hb5')
            have HSt5 := Lib.hid (HSt.out.below hb5' hbz)
            have Hb5 := Lib.hid (Hb.out.trans (hb5'.mono hbz))
            have Hbq5 : Hid (Bq ≤ w5.heap.size) := Lib.hid (Nat.le_trans Hbq.out hb5'.size)
            have HY2 : Hid (Stay b0 w5 y2) := Lib.hid hy2
            have Hyd2 := Lib.hid hyd2
            obtain ⟨B1', p1, d1', B2', p2, d2', B3', p3, d3', h1', h2', h3'⟩ := isW_agg HY2.out.is
            have hV : wV y2 = .agg #[.slice B1' p1 d1', .slice B2' p2 d2', .slice B3' p3 d3'] := by unfold wV; rw [h1', h2', h3']
            rw [hV]
            have HH := Lib.hid (And.intro h1' (And.intro h2' h3'))
            obtain ⟨zc, hzc⟩ : ∃ zc, rr.1 = zc := ⟨_, rfl⟩
            have Hzc := Lib.hid hzc
            rw [hzc]
            clear hy2 hyd2 hb5 hb5' h1' h2' h3' hV hzc HBv HBu HBg HZ HSd Hsd HSt HSo HSo2 Hbh v0 v1 v2 ca0 ca1 ca2 ca3 ca4 hlu Hb Hbq HWk Hwh
            (try dsimp only)
            by_cases h0 : zc = 0
            · subst h0
              have HBq5x : Hid (b0 ≤ w5.heap.size) := Lib.hid (by have := Hbq5.out; omega)
              have hk1 : Keeps b0 [26] w5 ((((w5.setCell ⟨ga, 0, none⟩ (.slice B1' p1 d1')).setCell ⟨ga, 1, none⟩ (.slice B2' p2 d2')).setCell ⟨ga, 2, none⟩ (.slice B3' p3 d3'))) := (((Keeps.refl b0 [26] w5).setBlk HBv5.out (by simp) hgab 0 (.slice B1' p1 d1')).setBlk (HBv5.out.set_ 0 (.slice B1' p1 d1')) (by simp) hgab 1 (.slice B2' p2 d2')).setBlk ((HBv5.out.set_ 0 (.slice B1' p1 d1')).set_ 1 (.slice B2' p2 d2')) (by simp) hgab 2 (.slice B3' p3 d3')
              have hKf : Keeps b0 T0 w5 ((((((w5.setCell ⟨ga, 0, none⟩ (.slice B1' p1 d1')).setCell ⟨ga, 1, none⟩ (.slice B2' p2 d2')).setCell ⟨ga, 2, none⟩ (.slice B3' p3 d3')).alloc (.cells #[.slice B1' p1 d1', .slice B2' p2 d2', .slice B3' p3 d3'] 26)).alloc (.cells #[.int .i64 0] 31))) := ((hk1.mono (Nat.le_refl _) t0w).alloc (by have := HBq5x.out; simp; omega) _).alloc (by have := hbz; have := HBq5x.out; simp; omega) _
              have hbf : Below b0 w5 ((((((w5.setCell ⟨ga, 0, none⟩ (.slice B1' p1 d1')).setCell ⟨ga, 1, none⟩ (.slice B2' p2 d2')).setCell ⟨ga, 2, none⟩ (.slice B3' p3 d3')).alloc (.cells #[.slice B1' p1 d1', .slice B2' p2 d2', .slice B3' p3 d3'] 26)).alloc (.cells #[.int .i64 0] 31))) := hKf.below
              have HBa7 : Hid (Blk ((((((w5.setCell ⟨ga, 0, none⟩ (.slice B1' p1 d1')).setCell ⟨ga, 1, none⟩ (.slice B2' p2 d2')).setCell ⟨ga, 2, none⟩ (.slice B3' p3 d3')).alloc (.cells #[.slice B1' p1 d1', .slice B2' p2 d2', .slice B3' p3 d3'] 26)).alloc (.cells #[.int .i64 0] 31))) ga 26 #[.slice B1' p1 d1', .slice B2' p2 d2', .slice B3' p3 d3']) := Lib.hid ((((HBv5.out.set_ 0 (.slice B1' p1 d1')).set_ 1 (.slice B2' p2 d2')).set_ 2 (.slice B3' p3 d3')).alloc _).alloc _
              have HBg7 : Hid (Blk ((((((w5.setCell ⟨ga, 0, none⟩ (.slice B1' p1 d1')).setCell ⟨ga, 1, none⟩ (.slice B2' p2 d2')).setCell ⟨ga, 2, none⟩ (.slice B3' p3 d3')).alloc (.cells #[.slice B1' p1 d1', .slice B2' p2 d2', .slice B3' p3 d3'] 26)).alloc (.cells #[.int .i64 0] 31))) g5 26 #[.slice E1 k1 f1, .slice E2 k2 f2, .slice E3 k3 f3]) := Lib.hid ((((HBg5.out.far (p := ⟨ga, 0, none⟩) h5a (.slice B1' p1 d1')).far (p := ⟨ga, 1, none⟩) h5a (.slice B2' p2 d2')).far (p := ⟨ga, 2, none⟩) h5a (.slice B3' p3 d3')).alloc _).alloc _
              have HZ7 := Lib.hid (HZ5.out.keeps hKf (by decide) (by decide) (by decide) (by decide) (by decide))
              have HSd7 : Hid (((((((w5.setCell ⟨ga, 0, none⟩ (.slice B1' p1 d1')).setCell ⟨ga, 1, none⟩ (.slice B2' p2 d2')).setCell ⟨ga, 2, none⟩ (.slice B3' p3 d3')).alloc (.cells #[.slice B1' p1 d1', .slice B2' p2 d2', .slice B3' p3 d3'] 26)).alloc (.cells #[.int .i64 0] 31))).ownsRow b0 31 1 (.slice S ls cS) ls (r.2.2.flatMap intC)) := Lib.hid (own_keep (own_keep (hk1.own HSd5.out (by decide)) ((Below.refl _ _).alloc (Nat.le_refl _) _)) ((Below.refl _ _).alloc (Nat.le_refl _) _))
              have Hsd7 : Hid (((((((w5.setCell ⟨ga, 0, none⟩ (.slice B1' p1 d1')).setCell ⟨ga, 1, none⟩ (.slice B2' p2 d2')).setCell ⟨ga, 2, none⟩ (.slice B3' p3 d3')).alloc (.cells #[.slice B1' p1 d1', .slice B2' p2 d2', .slice B3' p3 d3'] 26)).alloc (.cells #[.int .i64 0] 31))).ownsRow Bq 31 1 _ sd.length (sd.flatMap intC)) := Lib.hid (own_keep (own_keep (hk1.own Hsd5.out (by decide)) ((Below.refl _ _).alloc (Nat.le_refl _) _)) ((Below.refl _ _).alloc (Nat.le_refl _) _))
              have HSt7 : Hid (Stay b0 ((((((w5.setCell ⟨ga, 0, none⟩ (.slice B1' p1 d1')).setCell ⟨ga, 1, none⟩ (.slice B2' p2 d2')).setCell ⟨ga, 2, none⟩ (.slice B3' p3 d3')).alloc (.cells #[.slice B1' p1 d1', .slice B2' p2 d2', .slice B3' p3 d3'] 26)).alloc (.cells #[.int .i64 0] 31))) y2) := Lib.hid (HY2.out.keeps hKf)
              have Hb7 := Lib.hid (Hb5.out.trans hbf)
              have Hbq7 : Hid (Bq ≤ ((((((w5.setCell ⟨ga, 0, none⟩ (.slice B1' p1 d1')).setCell ⟨ga, 1, none⟩ (.slice B2' p2 d2')).setCell ⟨ga, 2, none⟩ (.slice B3' p3 d3')).alloc (.cells #[.slice B1' p1 d1', .slice B2' p2 d2', .slice B3' p3 d3'] 26)).alloc (.cells #[.int .i64 0] 31))).heap.size) := Lib.hid (by have := Hbq5.out; simp; omega)
              have HZs := Lib.hid (show SlAt ((((((w5.setCell ⟨ga, 0, none⟩ (.slice B1' p1 d1')).setCell ⟨ga, 1, none⟩ (.slice B2' p2 d2')).setCell ⟨ga, 2, none⟩ (.slice B3' p3 d3')).alloc (.cells #[.slice B1' p1 d1', .slice B2' p2 d2', .slice B3' p3 d3'] 26)).alloc (.cells #[.int .i64 0] 31))) (some ⟨w5.heap.size + 1, 0, none⟩) [.int .i64 0] from by
                have h1 := SlAt.of_heap (heap_alloc_new (((((w5.setCell ⟨ga, 0, none⟩ (.slice B1' p1 d1')).setCell ⟨ga, 1, none⟩ (.slice B2' p2 d2')).setCell ⟨ga, 2, none⟩ (.slice B3' p3 d3'))).alloc (.cells #[.slice B1' p1 d1', .slice B2' p2 d2', .slice B3' p3 d3'] 26)) (.cells #[.int .i64 0] 31)) (xs := [.int .i64 0]) rfl
                simpa using h1)
              obtain ⟨u0', u1', u2'⟩ := blk3 HBv5.out
              have f0 := HBv5.out.frozen 0
              have f1 := HBv5.out.frozen 1
              have f2 := HBv5.out.frozen 2
              have hlt5 := HBv5.out.lt
              clear hk1 hKf hbf HBg5 HZ5 HSd5 Hsd5 Hb5 Hbq5
              go_wp2_with (at_builtin; refine wpList_app _ rfl (.tmp 91) (.tmp 93) _ rfl Bq 31 _ 1 8 tyE _ sd.length (sd.flatMap intC) rfl Hsd7.out (some ⟨w5.heap.size + 1, 0, none⟩) 1 1 [.int .i64 0] rfl rfl HZs.out (by simp [Value.oneCell']) (by simp) (by unfold maxLen; omega) (by omega) Hbq7.out ?_; intro v8 w8 hown8 hg8 _; have Ho8 := Lib.hid hown8; have Hg8 := Lib.hid hg8; clear hown8 hg8)
              have hkp : Keeps Bq [31] ((((((w5.setCell ⟨ga, 0, none⟩ (.slice B1' p1 d1')).setCell ⟨ga, 1, none⟩ (.slice B2' p2 d2')).setCell ⟨ga, 2, none⟩ (.slice B3' p3 d3')).alloc (.cells #[.slice B1' p1 d1', .slice B2' p2 d2', .slice B3' p3 d3'] 26)).alloc (.cells #[.int .i64 0] 31))) w8 := (Keeps.refl _ _ _).grown Hsd7.out Hg8.out (by simp) Hbq7.out
              have hkT : Keeps b0 T0 ((((((w5.setCell ⟨ga, 0, none⟩ (.slice B1' p1 d1')).setCell ⟨ga, 1, none⟩ (.slice B2' p2 d2')).setCell ⟨ga, 2, none⟩ (.slice B3' p3 d3')).alloc (.cells #[.slice B1' p1 d1', .slice B2' p2 d2', .slice B3' p3 d3'] 26)).alloc (.cells #[.int .i64 0] 31))) w8 := hkp.mono (by omega) t0e
              have HBa8 := Lib.hid (hkp.blk HBa7.out (by decide))
              have HBg8 := Lib.hid (hkp.blk HBg7.out (by decide))
              have HZ8 := Lib.hid (HZ7.out.keeps hkT (by decide) (by decide) (by decide) (by decide) (by decide))
              have HSd8 := Lib.hid (own_lt HSd7.out hkp.below Hslq.out)
              have HSt8 := Lib.hid (HSt7.out.keeps hkT)
              have Hb8 := Lib.hid (Hb7.out.trans hkT.below)
              have Hbq8 : Hid (Bq ≤ w8.heap.size) := Lib.hid (Nat.le_trans Hbq7.out hkp.size)
              have HT2 : Hid ((y2.wd, sd ++ [0]) = runL (newW N) ((xs.map Prod.fst).take (k + 1))) := Lib.hid (by
                rw [HTk.out, ← Hrun.out]
                unfold stepRun
                dsimp only
                rw [HDo.out, if_pos Hzc.out, Hyd2.out])
              clear hkp hkT HBa7 HBg7 HZ7 HSd7 Hsd7 HSt7 Hb7 Hbq7 HZs Hg8
              go_roundw
              case rel => exact ⟨k + 1, y2, sd ++ [0], by omega, by go_num, by rw [HH.out.1, HH.out.2.1, HH.out.2.2]; exact HBa8.out, HSt8.out, by rw [List.length_append, List.flatMap_append]; exact Ho8.out, HT2.out, by rw [List.length_append, Hsl.out]; rfl, HBg8.out, HZ8.out, HSd8.out, Hb8.out, Hbq8.out⟩
              case measure => simp [intOf]; omega
            · have hz1 : (zc == 0) = false := by simpa using h0
              have HBq5x : Hid (b0 ≤ w5.heap.size) := Lib.hid (by have := Hbq5.out; omega)
              have hk1 : Keeps b0 [26] w5 (w5) := Keeps.refl _ _ _
              have hKf : Keeps b0 T0 w5 (((w5.alloc (.cells #[.slice B1' p1 d1', .slice B2' p2 d2', .slice B3' p3 d3'] 26)).alloc (.cells #[.int .i64 zc] 31))) := ((hk1.mono (Nat.le_refl _) t0w).alloc (by have := HBq5x.out; simp; omega) _).alloc (by have := hbz; have := HBq5x.out; simp; omega) _
              have hbf : Below b0 w5 (((w5.alloc (.cells #[.slice B1' p1 d1', .slice B2' p2 d2', .slice B3' p3 d3'] 26)).alloc (.cells #[.int .i64 zc] 31))) := hKf.below
              have HBa7 : Hid (Blk (((w5.alloc (.cells #[.slice B1' p1 d1', .slice B2' p2 d2', .slice B3' p3 d3'] 26)).alloc (.cells #[.int .i64 zc] 31))) ga 26 #[u.vn, u.vc, u.vt]) := Lib.hid (HBu5.out.alloc _).alloc _
              have HBg7 : Hid (Blk (((w5.alloc (.cells #[.slice B1' p1 d1', .slice B2' p2 d2', .slice B3' p3 d3'] 26)).alloc (.cells #[.int .i64 zc] 31))) g5 26 #[.slice E1 k1 f1, .slice E2 k2 f2, .slice E3 k3 f3]) := Lib.hid (HBg5.out.alloc _).alloc _
              have HZ7 := Lib.hid (HZ5.out.keeps hKf (by decide) (by decide) (by decide) (by decide) (by decide))
              have HSd7 : Hid ((((w5.alloc (.cells #[.slice B1' p1 d1', .slice B2' p2 d2', .slice B3' p3 d3'] 26)).alloc (.cells #[.int .i64 zc] 31))).ownsRow b0 31 1 (.slice S ls cS) ls (r.2.2.flatMap intC)) := Lib.hid (own_keep (own_keep (hk1.own HSd5.out (by decide)) ((Below.refl _ _).alloc (Nat.le_refl _) _)) ((Below.refl _ _).alloc (Nat.le_refl _) _))
              have Hsd7 : Hid ((((w5.alloc (.cells #[.slice B1' p1 d1', .slice B2' p2 d2', .slice B3' p3 d3'] 26)).alloc (.cells #[.int .i64 zc] 31))).ownsRow Bq 31 1 _ sd.length (sd.flatMap intC)) := Lib.hid (own_keep (own_keep (hk1.own Hsd5.out (by decide)) ((Below.refl _ _).alloc (Nat.le_refl _) _)) ((Below.refl _ _).alloc (Nat.le_refl _) _))
              have HSt7 : Hid (Stay b0 (((w5.alloc (.cells #[.slice B1' p1 d1', .slice B2' p2 d2', .slice B3' p3 d3'] 26)).alloc (.cells #[.int .i64 zc] 31))) u) := Lib.hid (HSt5.out.keeps hKf)
              have Hb7 := Lib.hid (Hb5.out.trans hbf)
              have Hbq7 : Hid (Bq ≤ (((w5.alloc (.cells #[.slice B1' p1 d1', .slice B2' p2 d2', .slice B3' p3 d3'] 26)).alloc (.cells #[.int .i64 zc] 31))).heap.size) := Lib.hid (by have := Hbq5.out; simp; omega)
              have HZs := Lib.hid (show SlAt (((w5.alloc (.cells #[.slice B1' p1 d1', .slice B2' p2 d2', .slice B3' p3 d3'] 26)).alloc (.cells #[.int .i64 zc] 31))) (some ⟨w5.heap.size + 1, 0, none⟩) [.int .i64 zc] from by
                have h1 := SlAt.of_heap (heap_alloc_new ((w5).alloc (.cells #[.slice B1' p1 d1', .slice B2' p2 d2', .slice B3' p3 d3'] 26)) (.cells #[.int .i64 zc] 31)) (xs := [.int .i64 zc]) rfl
                simpa using h1)
              obtain ⟨u0', u1', u2'⟩ := blk3 HBv5.out
              have f0 := HBv5.out.frozen 0
              have f1 := HBv5.out.frozen 1
              have f2 := HBv5.out.frozen 2
              have hlt5 := HBv5.out.lt
              clear hk1 hKf hbf HBg5 HZ5 HSd5 Hsd5 Hb5 Hbq5
              go_wp2_with (at_builtin; refine wpList_app _ rfl (.tmp 91) (.tmp 93) _ rfl Bq 31 _ 1 8 tyE _ sd.length (sd.flatMap intC) rfl Hsd7.out (some ⟨w5.heap.size + 1, 0, none⟩) 1 1 [.int .i64 zc] rfl rfl HZs.out (by simp [Value.oneCell']) (by simp) (by unfold maxLen; omega) (by omega) Hbq7.out ?_; intro v8 w8 hown8 hg8 _; have Ho8 := Lib.hid hown8; have Hg8 := Lib.hid hg8; clear hown8 hg8)
              have hkp : Keeps Bq [31] (((w5.alloc (.cells #[.slice B1' p1 d1', .slice B2' p2 d2', .slice B3' p3 d3'] 26)).alloc (.cells #[.int .i64 zc] 31))) w8 := (Keeps.refl _ _ _).grown Hsd7.out Hg8.out (by simp) Hbq7.out
              have hkT : Keeps b0 T0 (((w5.alloc (.cells #[.slice B1' p1 d1', .slice B2' p2 d2', .slice B3' p3 d3'] 26)).alloc (.cells #[.int .i64 zc] 31))) w8 := hkp.mono (by omega) t0e
              have HBa8 := Lib.hid (hkp.blk HBa7.out (by decide))
              have HBg8 := Lib.hid (hkp.blk HBg7.out (by decide))
              have HZ8 := Lib.hid (HZ7.out.keeps hkT (by decide) (by decide) (by decide) (by decide) (by decide))
              have HSd8 := Lib.hid (own_lt HSd7.out hkp.below Hslq.out)
              have HSt8 := Lib.hid (HSt7.out.keeps hkT)
              have Hb8 := Lib.hid (Hb7.out.trans hkT.below)
              have Hbq8 : Hid (Bq ≤ w8.heap.size) := Lib.hid (Nat.le_trans Hbq7.out hkp.size)
              have HT2 : Hid ((u.wd, sd ++ [zc]) = runL (newW N) ((xs.map Prod.fst).take (k + 1))) := Lib.hid (by
                rw [HTk.out, ← Hrun.out]
                unfold stepRun
                dsimp only
                rw [HDo.out, Hzc.out, if_neg h0])
              clear hkp hkT HBa7 HBg7 HZ7 HSd7 Hsd7 HSt7 Hb7 Hbq7 HZs Hg8
              go_roundw
              case rel => exact ⟨k + 1, u, sd ++ [zc], by omega, by go_num, HBa8.out, HSt8.out, by rw [List.length_append, List.flatMap_append]; exact Ho8.out, HT2.out, by rw [List.length_append, Hsl.out]; rfl, HBg8.out, HZ8.out, HSd8.out, Hb8.out, Hbq8.out⟩
              case measure => simp [intOf]; omega
          · obtain rfl : k = m := by omega
            have HF : Hid ((u.wd, sd) = runL (newW N) (xs.map Prod.fst)) := Lib.hid (by rw [Hrun.out, List.take_of_length_le (by rw [List.length_map, ← Hm.out]; exact Nat.le_refl _)])
            obtain ⟨A4, c4, rfl, _⟩ := own_slat Hsd.out
            obtain ⟨lq, hlq⟩ : ∃ lq, lq = sd.length := ⟨_, rfl⟩
            rw [← hlq] at Hsd ⊢
            have HEq := Lib.hid (equal_errs S A4 ls lq cS c4 r.2.2 sd wr Hls.out.symm hlq.symm (errs_in HSd.out).2 (errs_in Hsd.out).2 (errs_in HSd.out).1 (errs_in Hsd.out).1)
            have hdec : decide (r.2.2 = sd) = true := decide_eq_true (by rw [HRr.out]; show (runL (newW N) (xs.map Prod.fst)).2 = sd; rw [← HF.out])
            rw [hdec] at HEq
            obtain ⟨v0, v1, v2⟩ := blk3 HBv.out
            obtain ⟨z0, z1, z2⟩ := blk3 HBg.out
            have HSz := Lib.hid (fun (d : Nat) => sameWorld_eq z u (wr.drewN d) (HZ.out.below ((Below.refl wr.heap.size wr).drewN' d)).isWorld (HSt.out.is.below ((Below.refl wr.heap.size wr).drewN' d)) (by rw [Hzd.out, HRr.out]; show (runL (newW N) (xs.map Prod.fst)).1 = u.wd; rw [← HF.out]))
            rw [HVz.out, HVu.out] at HSz
            clear hlq hdec
            go_wp2_with fail
            refine (HEq.out).mono ?_
            rintro e w10 ⟨rfl, dd, rfl⟩
            go_wp2_with fail
            refine (HSz.out dd).mono ?_
            rintro e w11 ⟨rfl, hb11⟩
            have Hb11 := Lib.hid (HWk.out.trans ((((Below.refl wr.heap.size wr).drewN' dd).trans (hb11.mono (by simp))).mono HWk.out.size))
            clear hb11 z0 z1 z2 v0 v1 v2
            go_wp2_with fail
            go_ret
            exact ⟨rfl, Hb11.out⟩
theorem walk (W : World) (hml : ML W) (nn : Int) (wn : wfI nn) (v : Value) (xs : List Hx) (hx : IsL W hC (HapAt W) v xs) :
    Calls Tryz.prog 4 #[.int .i64 nn, v] W fun e W' => e = .returned (.bool true) ∧ Below W.heap.size W W' := walk0 W hml nn v xs hx
end Go.Proofs.YtdoegpklephelaaGreatDoor.WorldRun
