/- package block: the order in which the lengths of the code of lengths stand. -/
import Derived.Test.YthfbjgdophjelaaInfLen
import Derived.Laws.Tables
import Derived.Laws.Rows
namespace Go.Proofs.Ythfbjgdophjelaa.Inf
open Go Go.RowKit Go.Proofs.Ythfbjgdophjelaa Go.Proofs.Ythfbjgdophjelaa.Bits Go.Proofs.Ythfbjgdophjelaa.Code
set_option linter.unusedVariables false
set_option linter.unusedSimpArgs false

theorem wpList_build' {P : Program} {ops : Array Oper} {rest : List Oper} {o : Oper} {a : Act} {w : World} {Q : Exit → Act → World → Prop} (hg : o.guard = none) (t : TypeId) (parts : Array (Nat × Operand)) (ho : o.op = .build t parts) (cells : Array Value)
    (hf : P.built t (parts.map fun (i, x) => (i, a.eval x)).toList = some cells) (h : wpList P ops Q rest (a.put o.dst (.agg cells)) w) : wpList P ops Q (o :: rest) a w :=
  wpList_build hg t parts ho (by rw [hf]; rfl) (by rw [hf]; exact h)
theorem OldK.setRow {base B0 : Nat} {T : List TypeId} {w w' : World} (h : OldK base B0 T w w') {g : Nat} (hb : base ≤ g) (hB : B0 ≤ g) (cs : Array Value) : OldK base B0 T w (w'.setRow g cs) :=
  ⟨h.os, h.tape, h.output, by rw [setRow_size]; exact h.size, fun k hk => (setRow_other w' g k cs (by omega)).trans (h.block k hk), fun k o hk ho ht => (setRow_other w' g k cs (by omega)).trans (h.other k o hk ho ht)⟩
theorem below_setRow {B : Nat} {w w' : World} (h : Below B w w') {g : Nat} (hB : B ≤ g) (cs : Array Value) : Below B w (w'.setRow g cs) :=
  ⟨h.os, h.tape, h.output, by rw [setRow_size]; exact h.size, fun k hk => (setRow_other w' g k cs (by omega)).trans (h.block k hk)⟩
theorem OldK.mono {base B0 B1 : Nat} {T : List TypeId} {w w' : World} (h : OldK base B0 T w w') (hB : B1 ≤ B0) : OldK base B1 T w w' := ⟨h.os, h.tape, h.output, h.size, h.block, fun k o hk ho ht => h.other k o (by omega) ho ht⟩
/-- the order in which the lengths of the code of lengths stand -/
def ordA : Array Value := #[.int .i64 16, .int .i64 17, .int .i64 18, .int .i64 0, .int .i64 8, .int .i64 7, .int .i64 9, .int .i64 6, .int .i64 10, .int .i64 5, .int .i64 11, .int .i64 4, .int .i64 12, .int .i64 3, .int .i64 13, .int .i64 2, .int .i64 14, .int .i64 1, .int .i64 15]
theorem ordA_eq : ordA = (orderL.map natV).toArray := rfl
theorem store_ord (W : World) (old : Array Value) (h : old.size = 19) : (storeCells ⟨W.heap.size, 0, none⟩ ordA.toList).run Try.prog (W.alloc (.cells old 65)) = .ok () ((W.alloc (.cells old 65)).setRow W.heap.size ordA) := by
  have := run_storeCells_from (P := Try.prog) W.heap.size 65 ordA.toList 0 old (W.alloc (.cells old 65)) (heap_alloc_new _ _) (by rw [h]; rfl) (by decide)
  rw [this]
  congr 2
set_option maxRecDepth 100000 in
set_option maxHeartbeats 1600000 in
theorem order_any (w : World) : Calls Try.prog 26 #[] w fun e w' => e = .returned (.agg ordA) ∧ Below w.heap.size w w' := by
  go_enter Try.func26, Try.ntmps26
  have hst := store_ord w
  go_wp2_with (refine wpList_build' rfl _ _ rfl ordA (by kernel_rfl) ?_)
  refine bodyPost_ret (results_cell_row rfl _ _ w.heap.size 65 ordA (0, 0) _ rfl (setRow_heap _ _ _ _ _ _ (heap_alloc_new _ _)) Try.underlying65 rfl (by kernel_rfl)) rfl ?_
  exact ⟨rfl, below_setRow ((Below.refl _ _).alloc (Nat.le_refl _) _) (Nat.le_refl _) _⟩
end Go.Proofs.Ythfbjgdophjelaa.Inf
