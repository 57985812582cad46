/- package inflate: Unpack's deferred closure. -/
import Derived.Test.YthfbjgdophjelaaInfBlock
import Derived.Tactics
import Derived.Tactics2
import Derived.Defers
import Derived.Recover
namespace Go.Proofs.Ythfbjgdophjelaa.Inf
open Go Go.RowKit Go.Proofs.Ythfbjgdophjelaa Go.Proofs.Ythfbjgdophjelaa.Bits Go.Proofs.Ythfbjgdophjelaa.Code
set_option linter.unusedVariables false
set_option linter.unusedSimpArgs false

/-- the four results' variables -/
structure OutAt (w : World) (B g2 g3 g4 g5 : Nat) (v2 v3 v4 v5 : Value) : Prop where
  le2 : B ≤ g2
  le3 : B ≤ g3
  le4 : B ≤ g4
  le5 : B ≤ g5
  b2 : Blk w g2 22 #[v2]
  b3 : Blk w g3 3 #[v3]
  b4 : Blk w g4 23 #[v4]
  b5 : Blk w g5 24 #[v5]
theorem blk_ne {w : World} {g g' : Nat} {t t' : TypeId} {cs cs' : Array Value} (h : Blk w g t cs) (h' : Blk w g' t' cs') (hne : t ≠ t') : g ≠ g' := by
  rintro rfl
  have := h.symm.trans h'
  injection this with this
  injection this with _ e _
  exact hne e
theorem OutAt.s2 {w : World} {B g2 g3 g4 g5 : Nat} {v2 v3 v4 v5 : Value} (h : OutAt w B g2 g3 g4 g5 v2 v3 v4 v5) (u : Value) : OutAt (w.setCell ⟨g2, 0, none⟩ u) B g2 g3 g4 g5 u v3 v4 v5 :=
  ⟨h.le2, h.le3, h.le4, h.le5, h.b2.set_ 0 u, h.b3.far (p := ⟨g2, 0, none⟩) (blk_ne h.b3 h.b2 (by decide)) u, h.b4.far (p := ⟨g2, 0, none⟩) (blk_ne h.b4 h.b2 (by decide)) u, h.b5.far (p := ⟨g2, 0, none⟩) (blk_ne h.b5 h.b2 (by decide)) u⟩
theorem OutAt.s3 {w : World} {B g2 g3 g4 g5 : Nat} {v2 v3 v4 v5 : Value} (h : OutAt w B g2 g3 g4 g5 v2 v3 v4 v5) (u : Value) : OutAt (w.setCell ⟨g3, 0, none⟩ u) B g2 g3 g4 g5 v2 u v4 v5 :=
  ⟨h.le2, h.le3, h.le4, h.le5, h.b2.far (p := ⟨g3, 0, none⟩) (blk_ne h.b2 h.b3 (by decide)) u, h.b3.set_ 0 u, h.b4.far (p := ⟨g3, 0, none⟩) (blk_ne h.b4 h.b3 (by decide)) u, h.b5.far (p := ⟨g3, 0, none⟩) (blk_ne h.b5 h.b3 (by decide)) u⟩
theorem OutAt.s4 {w : World} {B g2 g3 g4 g5 : Nat} {v2 v3 v4 v5 : Value} (h : OutAt w B g2 g3 g4 g5 v2 v3 v4 v5) (u : Value) : OutAt (w.setCell ⟨g4, 0, none⟩ u) B g2 g3 g4 g5 v2 v3 u v5 :=
  ⟨h.le2, h.le3, h.le4, h.le5, h.b2.far (p := ⟨g4, 0, none⟩) (blk_ne h.b2 h.b4 (by decide)) u, h.b3.far (p := ⟨g4, 0, none⟩) (blk_ne h.b3 h.b4 (by decide)) u, h.b4.set_ 0 u, h.b5.far (p := ⟨g4, 0, none⟩) (blk_ne h.b5 h.b4 (by decide)) u⟩
theorem OutAt.s5 {w : World} {B g2 g3 g4 g5 : Nat} {v2 v3 v4 v5 : Value} (h : OutAt w B g2 g3 g4 g5 v2 v3 v4 v5) (u : Value) : OutAt (w.setCell ⟨g5, 0, none⟩ u) B g2 g3 g4 g5 v2 v3 v4 u :=
  ⟨h.le2, h.le3, h.le4, h.le5, h.b2.far (p := ⟨g5, 0, none⟩) (blk_ne h.b2 h.b5 (by decide)) u, h.b3.far (p := ⟨g5, 0, none⟩) (blk_ne h.b3 h.b5 (by decide)) u, h.b4.far (p := ⟨g5, 0, none⟩) (blk_ne h.b4 h.b5 (by decide)) u, h.b5.set_ 0 u⟩
theorem OutAt.below {w w' : World} {B g2 g3 g4 g5 : Nat} {v2 v3 v4 v5 : Value} (h : OutAt w B g2 g3 g4 g5 v2 v3 v4 v5) (hb : Below w.heap.size w w') : OutAt w' B g2 g3 g4 g5 v2 v3 v4 v5 :=
  ⟨h.le2, h.le3, h.le4, h.le5, h.b2.below hb h.b2.lt, h.b3.below hb h.b3.lt, h.b4.below hb h.b4.lt, h.b5.below hb h.b5.lt⟩
/-- what the variables' cells hold -/
structure OutC (w : World) (g2 g3 g4 g5 : Nat) (v2 v3 v4 v5 : Value) : Prop where
  c2 : w.cell? ⟨g2, 0, none⟩ = some v2
  c3 : w.cell? ⟨g3, 0, none⟩ = some v3
  c4 : w.cell? ⟨g4, 0, none⟩ = some v4
  c5 : w.cell? ⟨g5, 0, none⟩ = some v5
  f2 : w.frozen? ⟨g2, 0, none⟩ = false
  f3 : w.frozen? ⟨g3, 0, none⟩ = false
  f4 : w.frozen? ⟨g4, 0, none⟩ = false
  f5 : w.frozen? ⟨g5, 0, none⟩ = false
theorem OutAt.cells {w : World} {B g2 g3 g4 g5 : Nat} {v2 v3 v4 v5 : Value} (h : OutAt w B g2 g3 g4 g5 v2 v3 v4 v5) : OutC w g2 g3 g4 g5 v2 v3 v4 v5 :=
  ⟨h.b2.cell 0, h.b3.cell 0, h.b4.cell 0, h.b5.cell 0, h.b2.frozen 0, h.b3.frozen 0, h.b4.frozen 0, h.b5.frozen 0⟩
set_option maxRecDepth 100000 in
set_option maxHeartbeats 1600000 in
theorem catch_panicking (B g2 g3 g4 g5 : Nat) (v2 v3 v4 v5 : Value) (x : Int) (older : List PanicEntry) (w : World) (hBw : B ≤ w.heap.size) (h : OutAt w B g2 g3 g4 g5 v2 v3 v4 v5) :
    CallsD Try.prog 9 #[.pointer (some ⟨g2, 0, none⟩), .pointer (some ⟨g3, 0, none⟩), .pointer (some ⟨g4, 0, none⟩), .pointer (some ⟨g5, 0, none⟩)] (.panicking ({ v := .iface 35 (.agg #[.int .i64 x]), recovered := false } :: older)) w fun e u' w' =>
      e = .returned (.tuple #[]) ∧ u' = .panicking ({ v := .iface 35 (.agg #[.int .i64 x]), recovered := true } :: older) ∧
        OutAt w' B g2 g3 g4 g5 (.slice none 0 0) (.int .i64 0) (.slice none 0 0) (.int .i64 x) ∧ Below B w w' := by
  have H := Lib.hid h
  clear h
  refine callsD_of_wpS Try.func9 rfl fun c₀ cs hu => ?_
  apply wpS_seq
  apply wpS_region
  simp [wpOpsS, go_sem, recoverD, hu, Try.ntmps9, Exit.thenS]
  refine wpS_of_wp (wp_mono (Q := fun e a w' => e = .normal ∧ a.defers = [] ∧ OutAt w' B g2 g3 g4 g5 (.slice none 0 0) (.int .i64 0) (.slice none 0 0) (.int .i64 x) ∧ Below B w w') ?_ ?_)
  rotate_left
  · rintro e a w' ⟨rfl, hd, h1, h2⟩
    cases c₀
    simp only at hu
    subst hu
    exact ⟨hd, _, rfl, _, results_none rfl _ _ _, rfl, rfl, h1, h2⟩
  clear hu
  have htm : #[.pointer (some ⟨g2, 0, none⟩), .pointer (some ⟨g3, 0, none⟩), .pointer (some ⟨g4, 0, none⟩), .pointer (some ⟨g5, 0, none⟩)] ++ ((Array.replicate 16 undef).setIfInBounds 3 (.iface 35 (.agg #[.int .i64 x]))).setIfInBounds 0 (.iface 35 (.agg #[.int .i64 x])) = #[.pointer (some ⟨g2, 0, none⟩), .pointer (some ⟨g3, 0, none⟩), .pointer (some ⟨g4, 0, none⟩), .pointer (some ⟨g5, 0, none⟩), .iface 35 (.agg #[.int .i64 x]), undef, undef, .iface 35 (.agg #[.int .i64 x]), undef, undef, undef, undef, undef, undef, undef, undef, undef, undef, undef, undef] := rfl
  rw [htm]
  clear htm
  have has : ∀ (v : Value) (W : World), (Instr.typeAssert (.iface 35 v) 20 35 true).run Try.prog W = .ok (.tuple #[v, .bool true]) W := fun _ _ => by kernel_rfl
  go_wp2_with fail
  obtain ⟨gx, hgx⟩ : ∃ gx, gx = w.heap.size := ⟨_, rfl⟩
  have hb2 : Below w.heap.size w (w.alloc (.cells #[.int .i64 x] 35)) := (Below.refl _ _).alloc (Nat.le_refl _) _
  have H2 := Lib.hid (H.out.below hb2)
  have Hb2 := Lib.hid (hb2.mono hBw)
  have HX : Hid (Blk (w.alloc (.cells #[.int .i64 x] 35)) gx 35 #[.int .i64 x]) := Lib.hid (by rw [hgx]; exact Blk.new _ _ _)
  clear hb2
  rw [← hgx]
  clear hgx
  generalize w.alloc (.cells #[.int .i64 x] 35) = w2 at *
  refine wp_region_S (fun W => W.cell? ⟨gx, 0, none⟩ = some (.int .i64 x)) 5 (by kernel_rfl) ?_
  have hHeld : w2.drew.cell? ⟨gx, 0, none⟩ = some (.int .i64 x) := HX.out.cell 0
  have H3 := Lib.hid (H2.out.below ((Below.refl _ _).drew))
  have Hb3 := Lib.hid (Hb2.out.trans ((Below.refl B w2).drew))
  have HX3 : Hid (Blk w2.drew gx 35 #[.int .i64 x]) := Lib.hid HX.out
  clear H2 Hb2 HX
  generalize w2.drew = w3 at *
  refine wpAnyS_takeT (i := 0) (v := ?va0) (by kernel_rfl) (by kernel_rfl) rfl (by kernel_rfl) (by kernel_rfl) (by kernel_rfl) (fun _ _ _ h => h) (by rfl) (by assumption) ?hya0 ?resta0
  case hya0 => (intro W hSW; (try dsimp only at hSW); go_simp; try with_reducible rfl)
  (try simp only [Act.put, List.getElem_toArray, List.getElem_cons_zero, List.getElem_cons_succ, List.setIfInBounds_toArray, List.set_cons_zero, List.set_cons_succ])
  refine wpAnyS_takeT (i := 1) (v := ?va1) (by kernel_rfl) (by kernel_rfl) rfl (by kernel_rfl) (by kernel_rfl) (by kernel_rfl) (fun _ _ _ h => h) (by rfl) (by assumption) ?hya1 ?resta1
  case hya1 => (intro W hSW; (try dsimp only at hSW); go_simp; try with_reducible rfl)
  (try simp only [Act.put, List.getElem_toArray, List.getElem_cons_zero, List.getElem_cons_succ, List.setIfInBounds_toArray, List.set_cons_zero, List.set_cons_succ])
  obtain ⟨c2, c3, c4, c5, f2, f3, f4, f5⟩ := H3.out.cells
  refine wpAnyS_only (i := 2) rfl (by kernel_rfl) (fun K hK => ?_)
  go_simp
  have H4 := Lib.hid (H3.out.s2 (.slice none 0 0))
  have Hb4 := Lib.hid (Hb3.out.setCell (p := ⟨g2, 0, none⟩) H3.out.le2 (.slice none 0 0))
  have HX4 := Lib.hid (HX3.out.far (p := ⟨g2, 0, none⟩) (blk_ne HX3.out H3.out.b2 (by decide)) (.slice none 0 0))
  clear hHeld c2 c3 c4 c5 f2 f3 f4 f5
  refine hK.out _ _ (HX4.out.cell 0) (fun hHeld => ?_)
  clear hK K H3 Hb3 HX3
  (try simp only [Act.put, List.getElem_toArray, List.getElem_cons_zero, List.getElem_cons_succ, List.setIfInBounds_toArray, List.set_cons_zero, List.set_cons_succ])
  generalize w3.setCell ⟨g2, 0, none⟩ (.slice none 0 0) = w4 at *
  obtain ⟨c2, c3, c4, c5, f2, f3, f4, f5⟩ := H4.out.cells
  refine wpAnyS_only (i := 3) rfl (by kernel_rfl) (fun K hK => ?_)
  go_simp
  have H5 := Lib.hid (H4.out.s3 (.int .i64 0))
  have Hb5 := Lib.hid (Hb4.out.setCell (p := ⟨g3, 0, none⟩) H4.out.le3 (.int .i64 0))
  have HX5 := Lib.hid (HX4.out.far (p := ⟨g3, 0, none⟩) (blk_ne HX4.out H4.out.b3 (by decide)) (.int .i64 0))
  clear hHeld c2 c3 c4 c5 f2 f3 f4 f5
  refine hK.out _ _ (HX5.out.cell 0) (fun hHeld => ?_)
  clear hK K H4 Hb4 HX4
  (try simp only [Act.put, List.getElem_toArray, List.getElem_cons_zero, List.getElem_cons_succ, List.setIfInBounds_toArray, List.set_cons_zero, List.set_cons_succ])
  generalize w4.setCell ⟨g3, 0, none⟩ (.int .i64 0) = w5 at *
  obtain ⟨c2, c3, c4, c5, f2, f3, f4, f5⟩ := H5.out.cells
  refine wpAnyS_only (i := 4) rfl (by kernel_rfl) (fun K hK => ?_)
  go_simp
  have H6 := Lib.hid (H5.out.s4 (.slice none 0 0))
  have Hb6 := Lib.hid (Hb5.out.setCell (p := ⟨g4, 0, none⟩) H5.out.le4 (.slice none 0 0))
  have HX6 := Lib.hid (HX5.out.far (p := ⟨g4, 0, none⟩) (blk_ne HX5.out H5.out.b4 (by decide)) (.slice none 0 0))
  clear hHeld c2 c3 c4 c5 f2 f3 f4 f5
  refine hK.out _ _ (HX6.out.cell 0) (fun hHeld => ?_)
  clear hK K H5 Hb5 HX5
  (try simp only [Act.put, List.getElem_toArray, List.getElem_cons_zero, List.getElem_cons_succ, List.setIfInBounds_toArray, List.set_cons_zero, List.set_cons_succ])
  generalize w5.setCell ⟨g4, 0, none⟩ (.slice none 0 0) = w6 at *
  obtain ⟨c2, c3, c4, c5, f2, f3, f4, f5⟩ := H6.out.cells
  refine wpAnyS_last rfl (by kernel_rfl) (by kernel_rfl) (fun K hK => ?_)
  go_simp
  have H7 := Lib.hid (H6.out.s5 (.int .i64 x))
  have Hb7 := Lib.hid (Hb6.out.setCell (p := ⟨g5, 0, none⟩) H6.out.le5 (.int .i64 x))
  clear hHeld c2 c3 c4 c5 f2 f3 f4 f5
  refine hK.out _ _ ?_
  clear hK K
  exact ⟨rfl, rfl, H7.out, Hb7.out⟩
set_option maxRecDepth 100000 in
set_option maxHeartbeats 1600000 in
theorem catch_idle (g2 g3 g4 g5 : Nat) (w : World) :
    CallsD Try.prog 9 #[.pointer (some ⟨g2, 0, none⟩), .pointer (some ⟨g3, 0, none⟩), .pointer (some ⟨g4, 0, none⟩), .pointer (some ⟨g5, 0, none⟩)] .returning w fun e u' w' => e = .returned (.tuple #[]) ∧ u' = .returning ∧ w' = w := by
  refine callsD_of_wpS Try.func9 rfl fun c₀ cs hu => ?_
  apply wpS_seq
  apply wpS_region
  simp [wpOpsS, go_sem, recoverD, hu, Try.ntmps9, Exit.thenS]
  refine wpS_of_wp (wp_mono (Q := fun e a w' => e = .normal ∧ a.defers = [] ∧ w' = w) ?_ ?_)
  rotate_left
  · rintro e a w' ⟨rfl, hd, rfl⟩
    cases c₀
    simp only at hu
    subst hu
    exact ⟨hd, _, rfl, _, results_none rfl _ _ _, rfl, rfl, rfl⟩
  clear hu
  go_wp2_with fail
end Go.Proofs.Ythfbjgdophjelaa.Inf
