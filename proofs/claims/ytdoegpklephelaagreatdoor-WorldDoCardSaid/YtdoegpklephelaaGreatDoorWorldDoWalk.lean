/- reliquarylaw.WorldDo: the walk. -/
import Derived.Test.YtdoegpklephelaaGreatDoorStepOf
namespace Go.Proofs.YtdoegpklephelaaGreatDoor.WorldDo
open Go Go.RowKit Go.Proofs.YtdoegpklephelaaGreatDoor Go.Proofs.YtdoegpklephelaaGreatDoor.Name Go.Proofs.YtdoegpklephelaaGreatDoor.Merge Go.Proofs.YtdoegpklephelaaGreatDoor.Worlds
set_option linter.unusedVariables false

theorem isW_agg {w : World} {y : Wx} (h : IsWorld w y) : ∃ A1 n1 c1 A2 n2 c2 A3 n3 c3, wV y = .agg #[.slice A1 n1 c1, .slice A2 n2 c2, .slice A3 n3 c3] := by
  obtain ⟨⟨A1, c1, h1, _⟩, ⟨A2, c2, h2, _⟩, ⟨A3, c3, h3, _⟩⟩ := h
  exact ⟨A1, _, c1, A2, _, c2, A3, _, c3, by unfold wV; rw [h1, h2, h3]⟩
theorem wx0_is (w : World) : IsWorld w wx0 := (OwnW.none_ w 0).isWorld
set_option maxRecDepth 100000 in
set_option maxHeartbeats 4000000 in
theorem walk0 (W : World) (hml : ML W) (x : Wx) (hx : IsWorld W x) (hwd : WdK sizedK x) (h : Hx) (hh : HapAt W h) :
    Calls Tryz.prog 3 #[wV x, Worlds.hV h] W fun e W' => e = .returned (.bool true) ∧ Below W.heap.size W W' := by
  obtain ⟨A1, n1, c1, A2, n2, c2, A3, n3, c3, hVx⟩ := isW_agg hx
  have HX := Lib.hid hx
  have HVx := Lib.hid hVx
  have HT : Hid (∀ w, Below W.heap.size W w → Calls _ _ _ w _) := Lib.hid (fun w hb => told_any w (hml.below hb))
  have HCk : Hid (∀ w, Below W.heap.size W w → Calls _ _ _ w _) := Lib.hid (fun w hb => check_world x w (hml.below hb) (hx.below hb))
  have HRc : Hid (∀ w, Below W.heap.size W w → Calls _ _ _ w _) := Lib.hid (fun w hb => refCheckW x w (hml.below hb) (hx.below hb))
  have HOw : Hid (∀ w, Below W.heap.size W w → Calls _ _ _ w _) := Lib.hid (fun w hb => ownWorld_any x w (hx.below hb) hwd)
  have HDo := Lib.hid (fun (y : Wx) w (hb : Below W.heap.size W w) (hy : IsWorld w y) => do_any y h w (hml.below hb) hy (hh.below hb))
  have HSt := Lib.hid (fun w (hb : Below W.heap.size W w) (hok : WOk x.wd) => stepOf_any x h w (hml.below hb) (hx.below hb) hwd hok (hh.below hb) w.heap.size (Nat.le_refl _) (hap_low (hh.below hb)))
  rw [hVx] at HCk HRc HOw HSt ⊢
  obtain ⟨ck, hck⟩ : ∃ ck, ck = chkW x.wd := ⟨_, rfl⟩
  rw [← hck] at HCk HRc
  have HCk0 := Lib.hid hck
  obtain ⟨hp, hhp⟩ : ∃ hp, hp = h.1 := ⟨_, rfl⟩
  rw [← hhp] at HDo HSt
  obtain ⟨⟨kind, node, to_, nm, bytes⟩, Ab, nb, cb⟩ := h
  unfold Worlds.hV slv at HDo HSt ⊢
  dsimp only at HDo HSt ⊢
  obtain ⟨g0, hg0⟩ : ∃ g0, g0 = W.heap.size := ⟨_, rfl⟩
  obtain ⟨w1, hw1⟩ : ∃ w1, w1 = (W.alloc (.cells #[.slice A1 n1 c1, .slice A2 n2 c2, .slice A3 n3 c3] 26)).alloc (.cells #[.int .i64 kind, .int .i64 node, .int .i64 to_, .string (strB nm), .slice Ab nb cb] 29) := ⟨_, rfl⟩
  have hb1 : Below W.heap.size W w1 := by rw [hw1]; exact ((Below.refl _ _).alloc (Nat.le_refl _) _).alloc (by simp) _
  have HB1 := Lib.hid (show Blk w1 g0 26 #[.slice A1 n1 c1, .slice A2 n2 c2, .slice A3 n3 c3] by rw [hw1, hg0]; exact (Blk.new _ _ _).alloc _)
  have HH1 := Lib.hid (show Blk w1 (g0 + 1) 29 #[.int .i64 kind, .int .i64 node, .int .i64 to_, .string (strB nm), .slice Ab nb cb] by
    rw [hw1, hg0, show W.heap.size + 1 = (W.alloc (.cells #[.slice A1 n1 c1, .slice A2 n2 c2, .slice A3 n3 c3] 26)).heap.size by simp]
    exact Blk.new _ _ _)
  have Hb1 := Lib.hid hb1
  have Hw1 := Lib.hid hw1.symm
  have Hg0 := Lib.hid hg0.symm
  clear hml hVx hx hwd hh hck hhp hw1 hb1 hg0
  obtain ⟨x0, x1, x2⟩ := blk3 HB1.out
  go_enter Tryz.func3, Tryz.ntmps3
  go_wp2_with fail
  rw [Hw1.out, Hg0.out]
  refine (HOw.out _ Hb1.out).mono ?_
  rintro e w2 ⟨y, rfl, hy, hyd, hb2⟩
  obtain ⟨B1, m1, d1, B2, m2, d2, B3, m3, d3, hVy⟩ := isW_agg hy.isWorld
  have HVy := Lib.hid hVy
  have Hb2 := Lib.hid (Hb1.out.trans (hb2.mono Hb1.out.size))
  have HB2 := Lib.hid (HB1.out.below hb2 HB1.out.lt)
  have HH2 := Lib.hid (HH1.out.below hb2 HH1.out.lt)
  have Hyd := Lib.hid hyd
  obtain ⟨w3, hw3⟩ : ∃ w3, w3 = w2.alloc (.cells #[.slice B1 m1 d1, .slice B2 m2 d2, .slice B3 m3 d3] 26) := ⟨_, rfl⟩
  obtain ⟨gy, hgy⟩ : ∃ gy, gy = w2.heap.size := ⟨_, rfl⟩
  have hb3 : Below w2.heap.size w2 w3 := by rw [hw3]; exact (Below.refl _ _).alloc (Nat.le_refl _) _
  have HG3 := Lib.hid (show Blk w3 gy 26 #[.slice B1 m1 d1, .slice B2 m2 d2, .slice B3 m3 d3] by rw [hw3, hgy]; exact Blk.new _ _ _)
  have HY3 := Lib.hid (hy.isWorld.below hb3)
  have Hb3 := Lib.hid (Hb2.out.trans (hb3.mono Hb2.out.size))
  have HB3 := Lib.hid (HB2.out.below hb3 HB2.out.lt)
  have HH3 := Lib.hid (HH2.out.below hb3 HH2.out.lt)
  have HDy := Lib.hid (HDo.out y w3 Hb3.out HY3.out)
  have Hw3 := Lib.hid hw3.symm
  have Hgy := Lib.hid hgy.symm
  rw [hVy] at HDy ⊢
  rw [hyd] at HDy
  clear x0 x1 x2 hy hyd hVy hb2 hb3 hw3 hgy HDo HB1 HH1 Hw1
  have y0 : w2.cell? ⟨g0 + 1, 0, none⟩ = some (.int .i64 kind) := by rw [HH2.out.cell]; rfl
  have y1 : w2.cell? ⟨g0 + 1, 1, none⟩ = some (.int .i64 node) := by rw [HH2.out.cell]; rfl
  have y2 : w2.cell? ⟨g0 + 1, 2, none⟩ = some (.int .i64 to_) := by rw [HH2.out.cell]; rfl
  have y3 : w2.cell? ⟨g0 + 1, 3, none⟩ = some (.string (strB nm)) := by rw [HH2.out.cell]; rfl
  have y4 : w2.cell? ⟨g0 + 1, 4, none⟩ = some (.slice Ab nb cb) := by rw [HH2.out.cell]; rfl
  have hlt2 := HH2.out.lt
  dsimp only
  go_wp2_with fail
  rw [Hw3.out, Hgy.out]
  refine (HDy.out).mono ?_
  rintro e w4 ⟨z, rfl, hz, hzd, hb4⟩
  obtain ⟨E1, k1, f1, E2, k2, f2, E3, k3, f3, hVz⟩ := isW_agg hz.isWorld
  have HVz := Lib.hid hVz
  obtain ⟨r, hr⟩ : ∃ r, r = doR x.wd hp := ⟨_, rfl⟩
  rw [← hr] at hzd ⊢
  have HR := Lib.hid hr
  have Hb4 := Lib.hid (Hb3.out.trans (hb4.mono Hb3.out.size))
  have HB4 := Lib.hid (HB3.out.below hb4 HB3.out.lt)
  have HH4 := Lib.hid (HH3.out.below hb4 HH3.out.lt)
  have HG4 := Lib.hid (HG3.out.below hb4 HG3.out.lt)
  have HY4 := Lib.hid (HY3.out.below hb4)
  have Hzd := Lib.hid hzd
  obtain ⟨r1, hr1⟩ : ∃ r1, r1 = r.1 := ⟨_, rfl⟩
  rw [← hr1, hVz]
  have HR1 := Lib.hid hr1
  obtain ⟨w5, hw5⟩ : ∃ w5, w5 = w4.alloc (.cells #[.slice E1 k1 f1, .slice E2 k2 f2, .slice E3 k3 f3] 26) := ⟨_, rfl⟩
  obtain ⟨gz, hgz⟩ : ∃ gz, gz = w4.heap.size := ⟨_, rfl⟩
  have hb5 : Below w4.heap.size w4 w5 := by rw [hw5]; exact (Below.refl _ _).alloc (Nat.le_refl _) _
  have HZ5 := Lib.hid (show Blk w5 gz 26 #[.slice E1 k1 f1, .slice E2 k2 f2, .slice E3 k3 f3] by rw [hw5, hgz]; exact Blk.new _ _ _)
  have HZw5 := Lib.hid (hz.isWorld.below hb5)
  have Hb5 := Lib.hid (Hb4.out.trans (hb5.mono Hb4.out.size))
  have HB5 := Lib.hid (HB4.out.below hb5 HB4.out.lt)
  have HH5 := Lib.hid (HH4.out.below hb5 HH4.out.lt)
  have HG5 := Lib.hid (HG4.out.below hb5 HG4.out.lt)
  have HY5 := Lib.hid (HY4.out.below hb5)
  have Hw5 := Lib.hid hw5.symm
  have Hgz := Lib.hid hgz.symm
  clear y0 y1 y2 y3 y4 hlt2 hz hzd hVz hb4 hb5 hw5 hgz hr hr1 Hw3 Hgy HDy HB2 HH2 HB3 HH3 HG3 HY3
  obtain ⟨x0, x1, x2⟩ := blk3 HB4.out
  have hlt4 := HB4.out.lt
  dsimp only
  go_wp2_with fail
  rw [Hw5.out, Hgz.out]
  refine (HRc.out _ Hb5.out).mono ?_
  rintro e w6 ⟨rfl, hb6⟩
  have Hb6 := Lib.hid (Hb5.out.trans (hb6.mono Hb5.out.size))
  have HB6 := Lib.hid (HB5.out.below hb6 HB5.out.lt)
  have HH6 := Lib.hid (HH5.out.below hb6 HH5.out.lt)
  have HG6 := Lib.hid (HG5.out.below hb6 HG5.out.lt)
  have HZ6 := Lib.hid (HZ5.out.below hb6 HZ5.out.lt)
  have HZw6 := Lib.hid (HZw5.out.below hb6)
  have HY6 := Lib.hid (HY5.out.below hb6)
  clear x0 x1 x2 hlt4 hb6 Hw5 Hgz HB4 HH4 HG4 HY4 HB5 HH5 HG5 HZ5 HZw5 HY5 HRc
  go_wp2_with fail
  refine (HT.out _ Hb6.out).mono ?_
  rintro e w7 ⟨rfl, hb7⟩
  have Hb7 := Lib.hid (Hb6.out.trans (hb7.mono Hb6.out.size))
  have HB7 := Lib.hid (HB6.out.below hb7 HB6.out.lt)
  have HH7 := Lib.hid (HH6.out.below hb7 HH6.out.lt)
  have HG7 := Lib.hid (HG6.out.below hb7 HG6.out.lt)
  have HZ7 := Lib.hid (HZ6.out.below hb7 HZ6.out.lt)
  have HZw7 := Lib.hid (HZw6.out.below hb7)
  have HY7 := Lib.hid (HY6.out.below hb7)
  clear hb7 HB6 HH6 HG6 HZ6 HZw6 HY6 HT
  obtain ⟨x0, x1, x2⟩ := blk3 HB7.out
  go_wp2_with fail
  refine (HCk.out _ Hb7.out).mono ?_
  rintro e w8 ⟨rfl, hb8⟩
  have Hb8 := Lib.hid (Hb7.out.trans (hb8.mono Hb7.out.size))
  have HB8 := Lib.hid (HB7.out.below hb8 HB7.out.lt)
  have HH8 := Lib.hid (HH7.out.below hb8 HH7.out.lt)
  have HG8 := Lib.hid (HG7.out.below hb8 HG7.out.lt)
  have HZ8 := Lib.hid (HZ7.out.below hb8 HZ7.out.lt)
  have HZw8 := Lib.hid (HZw7.out.below hb8)
  have HY8 := Lib.hid (HY7.out.below hb8)
  have HSa := Lib.hid (sameWorld_eq y x w8 HY8.out (HX.out.below Hb8.out) Hyd.out)
  rw [HVy.out, HVx.out] at HSa
  clear x0 x1 x2 hb8 HB7 HH7 HG7 HZ7 HZw7 HY7 HCk
  obtain ⟨x0, x1, x2⟩ := blk3 HB8.out
  obtain ⟨y0, y1, y2⟩ := blk3 HG8.out
  go_wp2_with fail
  refine (HSa.out).mono ?_
  rintro e w9 ⟨rfl, hb9⟩
  have Hb9 := Lib.hid (Hb8.out.trans (hb9.mono Hb8.out.size))
  have HB9 := Lib.hid (HB8.out.below hb9 HB8.out.lt)
  have HH9 := Lib.hid (HH8.out.below hb9 HH8.out.lt)
  have HZ9 := Lib.hid (HZ8.out.below hb9 HZ8.out.lt)
  have HZw9 := Lib.hid (HZw8.out.below hb9)
  clear x0 x1 x2 y0 y1 y2 hb9 HB8 HH8 HG8 HZ8 HZw8 HY8 HSa
  by_cases h0 : ck = 0
  · have HWo : Hid (WOk x.wd) := Lib.hid (chkW_ok.1 (by rw [← HCk0.out]; exact h0))
    have HS9 := Lib.hid (HSt.out w9 Hb9.out HWo.out)
    have HRd : Hid (r = stepR x.wd hp) := Lib.hid (by rw [HR.out]; exact do_2 (chkW_ok.2 HWo.out))
    subst h0
    rw [← HRd.out] at HS9
    obtain ⟨x0, x1, x2⟩ := blk3 HB9.out
    have y0 : w9.cell? ⟨g0 + 1, 0, none⟩ = some (.int .i64 kind) := by rw [HH9.out.cell]; rfl
    have y1 : w9.cell? ⟨g0 + 1, 1, none⟩ = some (.int .i64 node) := by rw [HH9.out.cell]; rfl
    have y2 : w9.cell? ⟨g0 + 1, 2, none⟩ = some (.int .i64 to_) := by rw [HH9.out.cell]; rfl
    have y3 : w9.cell? ⟨g0 + 1, 3, none⟩ = some (.string (strB nm)) := by rw [HH9.out.cell]; rfl
    have y4 : w9.cell? ⟨g0 + 1, 4, none⟩ = some (.slice Ab nb cb) := by rw [HH9.out.cell]; rfl
    go_wp2_with fail
    refine (HS9.out).mono ?_
    rintro e w10 ⟨v, rfl, hv', hvd, hb10⟩
    have hv := hv' w10 (Keeps.refl _ _ _)
    clear hv'
    obtain ⟨F1, l1, q1, F2, l2, q2, F3, l3, q3, hVv⟩ := isW_agg hv
    rw [← HR1.out, hVv]
    obtain ⟨w11, hw11⟩ : ∃ w11, w11 = w10.alloc (.cells #[.slice F1 l1 q1, .slice F2 l2 q2, .slice F3 l3 q3] 26) := ⟨_, rfl⟩
    obtain ⟨gv, hgv⟩ : ∃ gv, gv = w10.heap.size := ⟨_, rfl⟩
    have hb11 : Below w10.heap.size w10 w11 := by rw [hw11]; exact (Below.refl _ _).alloc (Nat.le_refl _) _
    have hb911 := hb10.trans (hb11.mono hb10.size)
    have Hb11 := Lib.hid (Hb9.out.trans (hb911.mono Hb9.out.size))
    have HSa := Lib.hid (sameWorld_eq z v w11 (HZw9.out.below hb911) (hv.below hb11) (by rw [Hzd.out, hvd]))
    rw [HVz.out, hVv] at HSa
    obtain ⟨z0, z1, z2⟩ := blk3 (HZ9.out.below hb10 HZ9.out.lt)
    have hlt10 := (HZ9.out.below hb10 HZ9.out.lt).lt
    have Hw11 := Lib.hid hw11.symm
    have Hgv := Lib.hid hgv.symm
    clear x0 x1 x2 y0 y1 y2 y3 y4 hv hvd hb10 hb11 hb911 hVv hw11 hgv
    dsimp only
    go_wp2_with fail
    rw [Hw11.out]
    refine (HSa.out).mono ?_
    rintro e w12 ⟨rfl, hb12⟩
    have Hb12 := Lib.hid (Hb11.out.trans (hb12.mono Hb11.out.size))
    clear hb12 z0 z1 z2
    go_wp2_with fail
    go_ret
    exact ⟨rfl, Hb12.out⟩
  · have HRd : Hid (r = (ck, .none_)) := Lib.hid (by rw [HR.out, HCk0.out]; exact do_1 (by rw [← HCk0.out]; exact h0))
    have hrc : r1 = ck := by rw [HR1.out, HRd.out]
    subst hrc
    have hz1 : (r1 != 0) = true := by simpa using h0
    have HSa := Lib.hid (sameWorld_eq z wx0 w9 HZw9.out (wx0_is w9) (by rw [Hzd.out, HRd.out]; rfl))
    rw [HVz.out] at HSa
    unfold wx0 wV at HSa
    dsimp only at HSa
    obtain ⟨z0, z1, z2⟩ := blk3 HZ9.out
    clear h0
    go_wp2_with fail
    refine (HSa.out).mono ?_
    rintro e w12 ⟨rfl, hb12⟩
    have Hb12 := Lib.hid (Hb9.out.trans (hb12.mono Hb9.out.size))
    clear hb12 z0 z1 z2
    go_wp2_with fail
    go_ret
    exact ⟨rfl, Hb12.out⟩
theorem walk (W : World) (hml : ML W) (v0 : Value) (x : Wx) (h0 : v0 = wV x) (hx : IsWorld W x ∧ WdK sizedK x) (v1 : Value) (h : Hx) (h1 : v1 = Worlds.hV h ∧ HapAt W h) :
    Calls Tryz.prog 3 #[v0, v1] W fun e W' => e = .returned (.bool true) ∧ Below W.heap.size W W' := by
  obtain ⟨rfl, hh⟩ := h1
  subst h0
  exact walk0 W hml x hx.1 hx.2 h hh
end Go.Proofs.YtdoegpklephelaaGreatDoor.WorldDo
