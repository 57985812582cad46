/- package merge: Newer. -/
import Derived.Test.YtdoegpklephelaaDoorMergeCmp
namespace Go.Proofs.YtdoegpklephelaaDoor.Merge
open Go Go.RowKit Go.Proofs.YtdoegpklephelaaDoor Go.Proofs.YtdoegpklephelaaDoor.Name
set_option linter.unusedVariables false

theorem later_or4 (a b : Fl) : later a b = or4 (ci a.stamp b.stamp) (ci a.node b.node) (ci (gi a.gone) (gi b.gone)) (cb a.bytes b.bytes) := rfl
set_option maxRecDepth 100000 in
set_option maxHeartbeats 1600000 in
theorem newer_any (x y : Fx) (w : World) (hx : FileAt w x) (hy : FileAt w y) :
    Calls Tryd.prog 24 #[fV x, fV y] w fun e w' => e = .returned (.int .i64 (later x.1 y.1)) ∧ Below w.heap.size w w' := by
  obtain ⟨⟨n1, b1, s1, d1, g1⟩, A1, l1, c1⟩ := x
  obtain ⟨⟨n2, b2, s2, d2, g2⟩, A2, l2, c2⟩ := y
  have Hx := Lib.hid hx
  have Hy := Lib.hid hy
  clear hx hy
  unfold fV slv
  dsimp only
  obtain ⟨w2, hw2⟩ : ∃ w2, w2 = (w.alloc (.cells #[.string (strB n1), .slice A1 l1 c1, .int .i64 s1, .int .i64 d1, .bool g1] 33)).alloc (.cells #[.string (strB n2), .slice A2 l2 c2, .int .i64 s2, .int .i64 d2, .bool g2] 33) := ⟨_, rfl⟩
  have hb2 : Below w.heap.size w w2 := by rw [hw2]; exact ((Below.refl _ _).alloc (Nat.le_refl _) _).alloc (by simp) _
  have B1 : Blk w2 w.heap.size 33 #[.string (strB n1), .slice A1 l1 c1, .int .i64 s1, .int .i64 d1, .bool g1] := by rw [hw2]; exact (Blk.new _ _ _).alloc _
  have B2 : Blk w2 (w.heap.size + 1) 33 #[.string (strB n2), .slice A2 l2 c2, .int .i64 s2, .int .i64 d2, .bool g2] := by
    rw [hw2]
    have := Blk.new (w.alloc (.cells #[.string (strB n1), .slice A1 l1 c1, .int .i64 s1, .int .i64 d1, .bool g1] 33)) 33 #[.string (strB n2), .slice A2 l2 c2, .int .i64 s2, .int .i64 d2, .bool g2]
    simpa using this
  have Hx2 := Lib.hid (Hx.out.below hb2)
  have Hy2 := Lib.hid (Hy.out.below hb2)
  have Hb2 := Lib.hid hb2
  have p0 := fun p : BelowBy w2 => BelowBy.cell (show w2.cell? ⟨w.heap.size, 0, none⟩ = some (.string (strB n1)) by rw [B1.cell]; rfl) p
  have p1 := fun p : BelowBy w2 => BelowBy.cell (show w2.cell? ⟨w.heap.size, 1, none⟩ = some (.slice A1 l1 c1) by rw [B1.cell]; rfl) p
  have p2 := fun p : BelowBy w2 => BelowBy.cell (show w2.cell? ⟨w.heap.size, 2, none⟩ = some (.int .i64 s1) by rw [B1.cell]; rfl) p
  have p3 := fun p : BelowBy w2 => BelowBy.cell (show w2.cell? ⟨w.heap.size, 3, none⟩ = some (.int .i64 d1) by rw [B1.cell]; rfl) p
  have p4 := fun p : BelowBy w2 => BelowBy.cell (show w2.cell? ⟨w.heap.size, 4, none⟩ = some (.bool g1) by rw [B1.cell]; rfl) p
  have q0 := fun p : BelowBy w2 => BelowBy.cell (show w2.cell? ⟨w.heap.size + 1, 0, none⟩ = some (.string (strB n2)) by rw [B2.cell]; rfl) p
  have q1 := fun p : BelowBy w2 => BelowBy.cell (show w2.cell? ⟨w.heap.size + 1, 1, none⟩ = some (.slice A2 l2 c2) by rw [B2.cell]; rfl) p
  have q2 := fun p : BelowBy w2 => BelowBy.cell (show w2.cell? ⟨w.heap.size + 1, 2, none⟩ = some (.int .i64 s2) by rw [B2.cell]; rfl) p
  have q3 := fun p : BelowBy w2 => BelowBy.cell (show w2.cell? ⟨w.heap.size + 1, 3, none⟩ = some (.int .i64 d2) by rw [B2.cell]; rfl) p
  have q4 := fun p : BelowBy w2 => BelowBy.cell (show w2.cell? ⟨w.heap.size + 1, 4, none⟩ = some (.bool g2) by rw [B2.cell]; rfl) p
  have HL := Lib.hid (later_or4 ⟨n1, b1, s1, d1, g1⟩ ⟨n2, b2, s2, d2, g2⟩)
  have hl1 : l1 = b1.length := Hx.out.len
  have hl2 : l2 = b2.length := Hy.out.len
  have Hl1 := Lib.hid hl1
  have Hl2 := Lib.hid hl2
  have Hw2 := Lib.hid hw2.symm
  clear B1 B2 hb2 hl1 hl2 hw2
  go_enter Tryd.func24, Tryd.ntmps24
  go_wp2_with fail
  rw [Hw2.out]
  clear Hw2
  refine wp_region_below_tail 22 (by kernel_rfl) (by kernel_rfl) ?_
  simp only [List.take_succ_cons, List.take_zero, List.drop_succ_cons, List.drop_zero]
  repeat (quiet_step (first
    | exact belowBy_same (compareI_any _ _ _)
    | exact belowBy_calls (goneI_any (⟨n1, b1, s1, d1, g1⟩, A1, l1, c1) _)
    | exact belowBy_calls (goneI_any (⟨n2, b2, s2, d2, g2⟩, A2, l2, c2) _)
    | exact belowBy_same (bytesCompare_any _ _ _ _ _ _ _ _ _ Hl1.out Hl2.out (Hx2.out.below (BelowBy.h _)).at_ (Hy2.out.below (BelowBy.h _)).at_)))
  refine wpQuiet_nil ?_
  intro wq hq
  have hbq : Below w2.heap.size w2 wq := by obtain ⟨p, hp⟩ := hq; rw [hp]; exact p.h
  clear hq
  have Hbq := Lib.hid (Hb2.out.trans (hbq.mono Hb2.out.size))
  clear p0 p1 p2 p3 p4 q0 q1 q2 q3 q4 hbq
  have Bk := Lib.hid (Blk.new wq 3 #[.int .i64 (ci s1 s2), .int .i64 (ci d1 d2), .int .i64 (ci (gi g1) (gi g2)), .int .i64 (cb b1 b2)])
  have Hb3 := Lib.hid (Hbq.out.alloc Hbq.out.size (.cells #[.int .i64 (ci s1 s2), .int .i64 (ci d1 d2), .int .i64 (ci (gi g1) (gi g2)), .int .i64 (cb b1 b2)] 3))
  go_wp2_with fail
  refine (or4_any _ _ _ _ _ _ Bk.out).mono ?_
  rintro e wx ⟨rfl, hw⟩
  have hw := hw.symm
  subst hw
  go_wp2_with fail
  go_ret
  exact ⟨by rw [HL.out]; rfl, Hb3.out⟩
end Go.Proofs.YtdoegpklephelaaDoor.Merge
