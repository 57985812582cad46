/- reliquaryref: Later. -/
import Derived.Test.YtdoegpklephelaaDoorMergeNewer
import Derived.Test.YtdoegpklephelaaDoorMergeSame
import Derived.Test.YtdoegpklephelaaDoorMaps
namespace Go.Proofs.YtdoegpklephelaaDoor.Merge
open Go Go.RowKit Go.Proofs.YtdoegpklephelaaDoor Go.Proofs.YtdoegpklephelaaDoor.Name
set_option linter.unusedVariables false

theorem ci_gt' {x y : Int} (h : y < x) : ci x y = 1 := by unfold ci Lib.compareInt; rw [if_neg (by omega), if_pos (by omega)]
theorem ci_lt' {x y : Int} (h : x < y) : ci x y = -1 := by unfold ci Lib.compareInt; rw [if_pos h]
theorem later_1 {a b : Fl} {z : Int} (h : ci a.stamp b.stamp = z) (hz : z ≠ 0) : later a b = z := by unfold later orI; rw [if_pos (by rw [h]; exact hz), h]
theorem later_2 {a b : Fl} {z : Int} (h1 : a.stamp = b.stamp) (h : ci a.node b.node = z) (hz : z ≠ 0) : later a b = z := by
  unfold later orI; rw [if_neg (by rw [ci_zero.2 h1]; simp), if_pos (by rw [h]; exact hz), h]
theorem later_3 {a b : Fl} {z : Int} (h1 : a.stamp = b.stamp) (h2 : a.node = b.node) (h : ci (gi a.gone) (gi b.gone) = z) (hz : z ≠ 0) : later a b = z := by
  unfold later orI; rw [if_neg (by rw [ci_zero.2 h1]; simp), if_neg (by rw [ci_zero.2 h2]; simp), if_pos (by rw [h]; exact hz), h]
theorem later_4 {a b : Fl} (h1 : a.stamp = b.stamp) (h2 : a.node = b.node) (h3 : gi a.gone = gi b.gone) : later a b = cb a.bytes b.bytes := by
  unfold later orI; rw [if_neg (by rw [ci_zero.2 h1]; simp), if_neg (by rw [ci_zero.2 h2]; simp), if_neg (by rw [ci_zero.2 h3]; simp)]
theorem mget_gone (g : Bool) : (mget (mput ([] : List (Bool × Value)) true (.int .i64 1)) g).getD (.int .i64 0) = .int .i64 (gi g) := by cases g <;> rfl
theorem zeroB (w : World) : (zeroValue 3).run Tryd.prog w = .ok (.int .i64 0) w := by kernel_rfl
set_option maxRecDepth 100000 in
set_option maxHeartbeats 4000000 in
theorem refLater_any (x y : Fx) (w : World) (hx : FileAt w x) (hy : FileAt w y) :
    Calls Tryd.prog 21 #[fV x, fV y] w fun e w' => e = .returned (.int .i64 (later x.1 y.1)) ∧ Below w.heap.size w w' := by
  obtain ⟨⟨n1, b1, s1, d1, g1⟩, A1, l1, c1⟩ := x
  obtain ⟨⟨n2, b2, s2, d2, g2⟩, A2, l2, c2⟩ := y
  have Hx := Lib.hid hx
  have Hy := Lib.hid hy
  clear hx hy
  unfold fV slv
  dsimp only
  obtain ⟨R, hR⟩ : ∃ R, R = later (⟨n1, b1, s1, d1, g1⟩ : Fl) ⟨n2, b2, s2, d2, g2⟩ := ⟨_, rfl⟩
  have HR := Lib.hid hR
  rw [← hR]
  have hl1 : l1 = b1.length := Hx.out.len
  have hl2 : l2 = b2.length := Hy.out.len
  have Hl1 := Lib.hid hl1
  have Hl2 := Lib.hid hl2
  obtain ⟨w2, hw2⟩ : ∃ w2, w2 = (w.alloc (.cells #[.string (strB n1), .slice A1 l1 c1, .int .i64 s1, .int .i64 d1, .bool g1] 33)).alloc (.cells #[.string (strB n2), .slice A2 l2 c2, .int .i64 s2, .int .i64 d2, .bool g2] 33) := ⟨_, rfl⟩
  obtain ⟨gx, hgx⟩ : ∃ g, g = w.heap.size := ⟨_, rfl⟩
  have hb2 : Below w.heap.size w w2 := by rw [hw2]; exact ((Below.refl _ _).alloc (Nat.le_refl _) _).alloc (by simp) _
  have B1 : Blk w2 gx 33 #[.string (strB n1), .slice A1 l1 c1, .int .i64 s1, .int .i64 d1, .bool g1] := by rw [hw2, hgx]; exact (Blk.new _ _ _).alloc _
  have B2 : Blk w2 (gx + 1) 33 #[.string (strB n2), .slice A2 l2 c2, .int .i64 s2, .int .i64 d2, .bool g2] := by
    rw [hw2, hgx]
    have := Blk.new (w.alloc (.cells #[.string (strB n1), .slice A1 l1 c1, .int .i64 s1, .int .i64 d1, .bool g1] 33)) 33 #[.string (strB n2), .slice A2 l2 c2, .int .i64 s2, .int .i64 d2, .bool g2]
    simpa using this
  obtain ⟨w3, hw3⟩ : ∃ w3, w3 = w2.alloc (.map #[] 0) := ⟨_, rfl⟩
  obtain ⟨gm, hgm⟩ : ∃ g, g = w2.heap.size := ⟨_, rfl⟩
  have hb3 : Below w2.heap.size w2 w3 := by rw [hw3]; exact (Below.refl _ _).alloc (Nat.le_refl _) _
  have hgmx : gm = gx + 2 := by rw [hgm, hgx, hw2]; simp
  have HK3 : Hid (KM (fun x : Bool => Value.bool x) w3 gm []) := Lib.hid (by rw [hw3, hgm]; exact KM.made _ _)
  have Hb3 : Hid (Below w.heap.size w w3) := Lib.hid (hb2.trans (hb3.mono hb2.size))
  have HB1 := Lib.hid (B1.below hb3 B1.lt)
  have HB2 := Lib.hid (B2.below hb3 B2.lt)
  have Hw3 : Hid (((w.alloc (.cells #[.string (strB n1), .slice A1 l1 c1, .int .i64 s1, .int .i64 d1, .bool g1] 33)).alloc (.cells #[.string (strB n2), .slice A2 l2 c2, .int .i64 s2, .int .i64 d2, .bool g2] 33)).alloc (.map #[] 0) = w3) := Lib.hid (by rw [hw3, hw2])
  have Hgx := Lib.hid hgx.symm
  have Hgm : Hid (gx + 2 = gm) := Lib.hid hgmx.symm
  have Hgg : Hid (gm ≠ gx ∧ gm ≠ gx + 1) := Lib.hid (by omega)
  clear hl1 hl2 hw2 hw3 hgm hb2 hb3 B1 B2 hgx hgmx hR
  obtain ⟨w4, hrun, hk4, hg4, hsz4⟩ := HK3.out.put (P := Tryd.prog) (t := 79) Tryd.underlying79 Tryd.underlying4 keyF_bool true (.int .i64 1)
  have Hrun := Lib.hid hrun
  have Hb4 : Hid (Below w.heap.size w w4) := Lib.hid (Hb3.out.trans ⟨hg4.os, hg4.tape, hg4.output, hg4.size, fun k hk => hg4.block k (by have := Hb3.out.size; omega) (by have h1 := Hgx.out; have h2 := Hgm.out; intro e; injection e with e; omega)⟩)
  have HB14 := Lib.hid (HB1.out.grown hg4 (by intro e; injection e with e; exact Hgg.out.1 e))
  have HB24 := Lib.hid (HB2.out.grown hg4 (by intro e; injection e with e; exact Hgg.out.2 e))
  have hlo1 := (hk4.look (P := Tryd.prog) (t := 79) Tryd.underlying79 Tryd.underlying4 keyF_bool (zeroB _) g1).1
  have hlo2 := (hk4.look (P := Tryd.prog) (t := 79) Tryd.underlying79 Tryd.underlying4 keyF_bool (zeroB _) g2).1
  rw [mget_gone] at hlo1 hlo2
  have a2 : w4.cell? ⟨gx, 2, none⟩ = some (.int .i64 s1) := by rw [HB14.out.cell]; rfl
  have a3 : w4.cell? ⟨gx, 3, none⟩ = some (.int .i64 d1) := by rw [HB14.out.cell]; rfl
  have a4 : w4.cell? ⟨gx, 4, none⟩ = some (.bool g1) := by rw [HB14.out.cell]; rfl
  have b2_ : w4.cell? ⟨gx + 1, 2, none⟩ = some (.int .i64 s2) := by rw [HB24.out.cell]; rfl
  have b3_ : w4.cell? ⟨gx + 1, 3, none⟩ = some (.int .i64 d2) := by rw [HB24.out.cell]; rfl
  have b4_ : w4.cell? ⟨gx + 1, 4, none⟩ = some (.bool g2) := by rw [HB24.out.cell]; rfl
  obtain ⟨z1, hz1⟩ : ∃ z, z = gi g1 := ⟨_, rfl⟩
  obtain ⟨z2, hz2⟩ : ∃ z, z = gi g2 := ⟨_, rfl⟩
  rw [← hz1] at hlo1
  rw [← hz2] at hlo2
  have Hz1 := Lib.hid hz1
  have Hz2 := Lib.hid hz2
  obtain ⟨w5, hw5⟩ : ∃ w5, w5 = w4.alloc (.cells #[.int .i64 s1, .int .i64 s2, .int .i64 d1, .int .i64 d2, .int .i64 z1, .int .i64 z2] 80) := ⟨_, rfl⟩
  obtain ⟨gs, hgs⟩ : ∃ g, g = w4.heap.size := ⟨_, rfl⟩
  have hb5 : Below w4.heap.size w4 w5 := by rw [hw5]; exact (Below.refl _ _).alloc (Nat.le_refl _) _
  have HB5 := Lib.hid (show Blk w5 gs 80 #[.int .i64 s1, .int .i64 s2, .int .i64 d1, .int .i64 d2, .int .i64 z1, .int .i64 z2] by rw [hw5, hgs]; exact Blk.new _ _ _)
  have Hb5 := Lib.hid (Hb4.out.trans (hb5.mono Hb4.out.size))
  have HB15 := Lib.hid (HB14.out.below hb5 HB14.out.lt)
  have HB25 := Lib.hid (HB24.out.below hb5 HB24.out.lt)
  have Hw5 := Lib.hid hw5.symm
  have Hgs := Lib.hid hgs.symm
  have Hx5 := Lib.hid (Hx.out.below Hb5.out)
  have Hy5 := Lib.hid (Hy.out.below Hb5.out)
  clear hrun hk4 hg4 hsz4 hz1 hz2 hw5 hgs hb5 Hx Hy
  have hmm := @run_makeMap Tryd.prog
  go_enter Tryd.func21, Tryd.ntmps21
  go_wp2_with fail
  rw [Hw3.out, Hgx.out, show gx + 1 + 1 = gm from Hgm.out, Hrun.out]
  clear hmm
  go_wp2_with fail
  rw [Hw5.out, Hgs.out]
  clear a2 a3 a4 b2_ b3_ b4_ hlo1 hlo2
  go_loopw [31] (fun vi wr => ∃ k : Nat, k ≤ 3 ∧ vi = .int .i64 (k : Int) ∧ (1 ≤ k → s1 = s2) ∧ (2 ≤ k → d1 = d2) ∧ (3 ≤ k → z1 = z2) ∧ Below w5.heap.size w5 wr) (fun vi _ => 3 - (intOf vi).toNat)
  case atStart => exact ⟨0, Nat.zero_le _, rfl, by omega, by omega, by omega, Below.refl _ _⟩
  case round =>
    obtain ⟨k, hk, rfl, h1, h2, h3, hb⟩ := hrel
    have H1 := Lib.hid h1
    have H2 := Lib.hid h2
    have H3 := Lib.hid h3
    have Hb := Lib.hid hb
    have HBr := Lib.hid (HB5.out.below hb HB5.out.lt)
    have cc0 : wr.cell? ⟨gs, 0, none⟩ = some (.int .i64 s1) := by rw [HBr.out.cell]; rfl
    have cc1 : wr.cell? ⟨gs, 1, none⟩ = some (.int .i64 s2) := by rw [HBr.out.cell]; rfl
    have cc2 : wr.cell? ⟨gs, 2, none⟩ = some (.int .i64 d1) := by rw [HBr.out.cell]; rfl
    have cc3 : wr.cell? ⟨gs, 3, none⟩ = some (.int .i64 d2) := by rw [HBr.out.cell]; rfl
    have cc4 : wr.cell? ⟨gs, 4, none⟩ = some (.int .i64 z1) := by rw [HBr.out.cell]; rfl
    have cc5 : wr.cell? ⟨gs, 5, none⟩ = some (.int .i64 z2) := by rw [HBr.out.cell]; rfl
    clear h1 h2 h3 hb
    rcases (by omega : k = 0 ∨ k = 1 ∨ k = 2 ∨ k = 3) with rfl | rfl | rfl | rfl
    · rcases Int.lt_trichotomy s1 s2 with hlt | heq | hgt
      · have HF : Hid (R = -1) := Lib.hid (by rw [HR.out]; exact later_1 (ci_lt' hlt) (by decide))
        have hngt : ¬ s2 < s1 := by omega
        go_wp2_with fail
        go_ret
        exact ⟨ret_int HF.out.symm, Hb5.out.trans ((Hb.out.alloc Hb.out.size _).mono Hb5.out.size)⟩
      · have hn1 : ¬ s1 < s2 := by omega
        have hn2 : ¬ s2 < s1 := by omega
        have Heq := Lib.hid heq
        clear heq
        go_wp2_with fail
        go_roundw
        case rel => exact ⟨1, by omega, by go_num, fun _ => Heq.out, by omega, by omega, Hb.out.alloc Hb.out.size _⟩
        case measure => simp [intOf]
      · have HF : Hid (R = 1) := Lib.hid (by rw [HR.out]; exact later_1 (ci_gt' hgt) (by decide))
        go_wp2_with fail
        go_ret
        exact ⟨ret_int HF.out.symm, Hb5.out.trans ((Hb.out.alloc Hb.out.size _).mono Hb5.out.size)⟩
    · rcases Int.lt_trichotomy d1 d2 with hlt | heq | hgt
      · have HF : Hid (R = -1) := Lib.hid (by rw [HR.out]; exact later_2 (H1.out (by omega)) (ci_lt' hlt) (by decide))
        have hngt : ¬ d2 < d1 := by omega
        go_wp2_with fail
        go_ret
        exact ⟨ret_int HF.out.symm, Hb5.out.trans ((Hb.out.alloc Hb.out.size _).mono Hb5.out.size)⟩
      · have hn1 : ¬ d1 < d2 := by omega
        have hn2 : ¬ d2 < d1 := by omega
        have Heq := Lib.hid heq
        clear heq
        go_wp2_with fail
        go_roundw
        case rel => exact ⟨2, by omega, by go_num, fun _ => H1.out (by omega), fun _ => Heq.out, by omega, Hb.out.alloc Hb.out.size _⟩
        case measure => simp [intOf]
      · have HF : Hid (R = 1) := Lib.hid (by rw [HR.out]; exact later_2 (H1.out (by omega)) (ci_gt' hgt) (by decide))
        go_wp2_with fail
        go_ret
        exact ⟨ret_int HF.out.symm, Hb5.out.trans ((Hb.out.alloc Hb.out.size _).mono Hb5.out.size)⟩
    · rcases Int.lt_trichotomy z1 z2 with hlt | heq | hgt
      · have HF : Hid (R = -1) := Lib.hid (by rw [HR.out]; exact later_3 (H1.out (by omega)) (H2.out (by omega)) (by rw [← Hz1.out, ← Hz2.out]; exact ci_lt' hlt) (by decide))
        have hngt : ¬ z2 < z1 := by omega
        go_wp2_with fail
        go_ret
        exact ⟨ret_int HF.out.symm, Hb5.out.trans ((Hb.out.alloc Hb.out.size _).mono Hb5.out.size)⟩
      · have hn1 : ¬ z1 < z2 := by omega
        have hn2 : ¬ z2 < z1 := by omega
        have Heq := Lib.hid heq
        clear heq
        go_wp2_with fail
        go_roundw
        case rel => exact ⟨3, by omega, by go_num, fun _ => H1.out (by omega), fun _ => H2.out (by omega), fun _ => Heq.out, Hb.out.alloc Hb.out.size _⟩
        case measure => simp [intOf]
      · have HF : Hid (R = 1) := Lib.hid (by rw [HR.out]; exact later_3 (H1.out (by omega)) (H2.out (by omega)) (by rw [← Hz1.out, ← Hz2.out]; exact ci_gt' hgt) (by decide))
        go_wp2_with fail
        go_ret
        exact ⟨ret_int HF.out.symm, Hb5.out.trans ((Hb.out.alloc Hb.out.size _).mono Hb5.out.size)⟩
    · have HF : Hid (R = cb b1 b2) := Lib.hid (by rw [HR.out]; exact later_4 (H1.out (by omega)) (H2.out (by omega)) (by have := H3.out (by omega); rw [Hz1.out, Hz2.out] at this; exact this))
      have Hx6 := Hx5.out.below Hb.out
      have Hy6 := Hy5.out.below Hb.out
      have k1 := conv_bytes A1 l1 c1 b1 wr Hl1.out.symm Hx6.at_
      have k2 := conv_bytes A2 l2 c2 b2 wr Hl2.out.symm Hy6.at_
      have HB16 := HB15.out.below Hb.out HB15.out.lt
      have HB26 := HB25.out.below Hb.out HB25.out.lt
      have a1 : wr.cell? ⟨gx, 1, none⟩ = some (.slice A1 l1 c1) := by rw [HB16.cell]; rfl
      have b1_ : wr.cell? ⟨gx + 1, 1, none⟩ = some (.slice A2 l2 c2) := by rw [HB26.cell]; rfl
      clear cc0 cc1 cc2 cc3 cc4 cc5 Hx6 Hy6 HB16 HB26
      go_wp2_with fail
      refine (stringsCompare_any b1 b2 _).mono ?_
      rintro e w9 ⟨rfl, hw⟩
      have hw := hw.symm
      subst hw
      go_wp2_with fail
      go_ret
      exact ⟨ret_int HF.out.symm, Hb5.out.trans (Hb.out.mono Hb5.out.size)⟩
end Go.Proofs.YtdoegpklephelaaDoor.Merge
