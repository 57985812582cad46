/- rows of places, and what sort.SliceStable's functions are handed: less, swap. -/
import Derived.Test.YtfgkfakhlcbdbaaSortPure
import Derived.Test.YtfgkfakhlcbdbaaKeep
import Derived.Test.YtfgkfakhlcbdbaaProg
import Derived.Maps.AppendAt
import Derived.BigQuiet
import Derived.WalkSpells
import Derived.Lib.ReflectliteSwap
import Derived.Lib.ReflectliteSlice
import Derived.Laws.Externs
namespace Go.Proofs.Ytfgkfakhlcbdbaa.Slc
open Go Go.RowKit Go.Proofs.Ytfgkfakhlcbdbaa
set_option linter.unusedVariables false

/-- a place: its length, where it stands -/
abbrev El := Nat × Nat
abbrev TE := El × Nat
def nv (n : Nat) : Value := .int .i64 (n : Int)
def cellsE (e : TE) : List Value := [nv e.1.1, nv e.1.2]
def ekey (e : El) : Nat := e.1
def PkAt (w : World) (g : Nat) (rest : List Value) (d : List TE) : Prop := Blk w g 68 (d.flatMap cellsE ++ rest).toArray
theorem flat_len (d : List TE) : (d.flatMap cellsE).length = d.length * 2 := by
  induction d with
  | nil => rfl
  | cons a d ih => rw [List.flatMap_cons, List.length_append, ih]; simp [cellsE]; omega
theorem PkAt.c0 {w : World} {g : Nat} {rest : List Value} {X Y : List TE} {u : TE} (h : PkAt w g rest (X ++ u :: Y)) {i : Nat} (hi : i = X.length) : w.cell? ⟨g, i * 2, none⟩ = some (nv u.1.1) := by
  subst hi
  rw [Blk.cell h, List.getElem?_toArray, List.flatMap_append, List.append_assoc, List.getElem?_append_right (by rw [flat_len]; exact Nat.le_refl _), flat_len, Nat.sub_self]
  rfl
theorem PkAt.c1 {w : World} {g : Nat} {rest : List Value} {X Y : List TE} {u : TE} (h : PkAt w g rest (X ++ u :: Y)) {i : Nat} (hi : i = X.length) : w.cell? ⟨g, i * 2 + 1, none⟩ = some (nv u.1.2) := by
  subst hi
  rw [Blk.cell h, List.getElem?_toArray, List.flatMap_append, List.append_assoc, List.getElem?_append_right (by rw [flat_len]; omega), flat_len, show X.length * 2 + 1 - X.length * 2 = 1 by omega]
  rfl
theorem PkAt.mid {w : World} {g : Nat} {rest : List Value} {X Y Z : List TE} {u v : TE} (h : PkAt w g rest (X ++ u :: (Y ++ v :: Z))) : PkAt w g rest ((X ++ u :: Y) ++ v :: Z) := by
  have e : (X ++ u :: Y) ++ v :: Z = X ++ u :: (Y ++ v :: Z) := by simp
  rw [e]; exact h
theorem mid_len (X Y : List TE) (u : TE) {j : Nat} (h : j = X.length + 1 + Y.length) : j = (X ++ u :: Y).length := by rw [h]; simp; omega
theorem set4 (A B C : List Value) (u0 u1 v0 v1 x0 x1 y0 y1 : Value) :
    ((((A ++ u0 :: u1 :: (B ++ v0 :: v1 :: C)).set A.length x0).set (A.length + 1) x1).set (A.length + 2 + B.length) y0).set (A.length + 2 + B.length + 1) y1 = A ++ x0 :: x1 :: (B ++ y0 :: y1 :: C) := by
  have s1 : ∀ (L : List Value) (M : List Value) (n : Nat) (x : Value), (L ++ M).set (L.length + n) x = L ++ M.set n x := by
    intro L M n x
    rw [List.set_append_right _ _ (Nat.le_add_right _ _), Nat.add_sub_cancel_left]
  have h1 := s1 A (u0 :: u1 :: (B ++ v0 :: v1 :: C)) 0 x0
  rw [Nat.add_zero] at h1
  rw [h1, s1 A _ 1 x1, Nat.add_assoc A.length 2 B.length, s1 A _ (2 + B.length) y0, Nat.add_assoc A.length, s1 A _ (2 + B.length + 1) y1]
  congr 1
  have h2 := s1 B (v0 :: v1 :: C) 0 y0
  rw [Nat.add_zero] at h2
  rw [show 2 + B.length + 1 = (B.length + 1) + 1 + 1 by omega, show 2 + B.length = B.length + 1 + 1 by omega]
  show x0 :: x1 :: (((B ++ v0 :: v1 :: C).set B.length y0).set (B.length + 1) y1) = _
  rw [h2, List.set_cons_zero, s1 B _ 1 y1]
  rfl
theorem comm4 (l : List Value) (a b c d : Nat) (x0 x1 y0 y1 : Value) (h1 : a ≠ c) (h2 : a ≠ d) (h3 : b ≠ c) (h4 : b ≠ d) : (((l.set c y0).set d y1).set a x0).set b x1 = (((l.set a x0).set b x1).set c y0).set d y1 := by
  rw [List.set_comm y1 x0 (Ne.symm h2), List.set_comm y0 x0 (Ne.symm h1), List.set_comm y1 x1 (Ne.symm h4), List.set_comm y0 x1 (Ne.symm h3)]
theorem flat2 (X Y Z : List TE) (u v : TE) (rest : List Value) : (X ++ u :: (Y ++ v :: Z)).flatMap cellsE ++ rest = X.flatMap cellsE ++ nv u.1.1 :: (nv u.1.2) :: (Y.flatMap cellsE ++ nv v.1.1 :: (nv v.1.2) :: (Z.flatMap cellsE ++ rest)) := by
  simp [List.flatMap_append, List.flatMap_cons, cellsE]
theorem blk_eq {w : World} {g : Nat} {t : TypeId} {cs ds : Array Value} (h : Blk w g t cs) (e : cs = ds) : Blk w g t ds := e ▸ h
/-- two packs change places: the one further ahead is written first -/
theorem PkAt.swapU {w : World} {g : Nat} {rest : List Value} {X Y Z : List TE} {u v : TE} (h : PkAt w g rest (X ++ u :: (Y ++ v :: Z))) {i j : Nat} (hi : i = X.length) (hj : j = X.length + 1 + Y.length) :
    PkAt ((((w.setCell ⟨g, i * 2, none⟩ (nv v.1.1)).setCell ⟨g, i * 2 + 1, none⟩ (nv v.1.2)).setCell ⟨g, j * 2, none⟩ (nv u.1.1)).setCell ⟨g, j * 2 + 1, none⟩ (nv u.1.2)) g rest (X ++ v :: (Y ++ u :: Z)) := by
  subst hi hj
  have := (((Blk.set_ h (X.length * 2) (nv v.1.1)).set_ (X.length * 2 + 1) (nv v.1.2)).set_ ((X.length + 1 + Y.length) * 2) (nv u.1.1)).set_ ((X.length + 1 + Y.length) * 2 + 1) (nv u.1.2)
  unfold PkAt
  refine blk_eq this ?_
  apply Array.ext'
  simp only [Array.toList_setIfInBounds]
  rw [flat2, flat2]
  have s := set4 (X.flatMap cellsE) (Y.flatMap cellsE) (Z.flatMap cellsE ++ rest) (nv u.1.1) (nv u.1.2) (nv v.1.1) (nv v.1.2) (nv v.1.1) (nv v.1.2) (nv u.1.1) (nv u.1.2)
  rw [flat_len, flat_len] at s
  rw [← s, show (X.length + 1 + Y.length) * 2 = X.length * 2 + 2 + Y.length * 2 by omega]
/-- .. the one further behind is written first -/
theorem PkAt.swapD {w : World} {g : Nat} {rest : List Value} {X Y Z : List TE} {u v : TE} (h : PkAt w g rest (X ++ u :: (Y ++ v :: Z))) {i j : Nat} (hi : i = X.length) (hj : j = X.length + 1 + Y.length) :
    PkAt ((((w.setCell ⟨g, j * 2, none⟩ (nv u.1.1)).setCell ⟨g, j * 2 + 1, none⟩ (nv u.1.2)).setCell ⟨g, i * 2, none⟩ (nv v.1.1)).setCell ⟨g, i * 2 + 1, none⟩ (nv v.1.2)) g rest (X ++ v :: (Y ++ u :: Z)) := by
  subst hi hj
  have := (((Blk.set_ h ((X.length + 1 + Y.length) * 2) (nv u.1.1)).set_ ((X.length + 1 + Y.length) * 2 + 1) (nv u.1.2)).set_ (X.length * 2) (nv v.1.1)).set_ (X.length * 2 + 1) (nv v.1.2)
  unfold PkAt
  refine blk_eq this ?_
  apply Array.ext'
  simp only [Array.toList_setIfInBounds]
  rw [flat2, flat2]
  have s := set4 (X.flatMap cellsE) (Y.flatMap cellsE) (Z.flatMap cellsE ++ rest) (nv u.1.1) (nv u.1.2) (nv v.1.1) (nv v.1.2) (nv v.1.1) (nv v.1.2) (nv u.1.1) (nv u.1.2)
  rw [flat_len, flat_len] at s
  rw [← s, show (X.length + 1 + Y.length) * 2 = X.length * 2 + 2 + Y.length * 2 by omega]
  exact comm4 _ _ _ _ _ _ _ _ _ (by omega) (by omega) (by omega) (by omega)
theorem PkAt.pair {w : World} {g : Nat} {rest : List Value} {X Y Z : List TE} {u v : TE} (h : PkAt w g rest (X ++ u :: (Y ++ v :: Z))) {i j : Nat} (hi : i = X.length) (hj : j = X.length + 1 + Y.length) :
    w.cell? ⟨g, i * 2, none⟩ = some (nv u.1.1) ∧ w.cell? ⟨g, i * 2 + 1, none⟩ = some (nv u.1.2) ∧ w.cell? ⟨g, j * 2, none⟩ = some (nv v.1.1) ∧ w.cell? ⟨g, j * 2 + 1, none⟩ = some (nv v.1.2) ∧
    w.frozen? ⟨g, i * 2, none⟩ = false ∧ w.frozen? ⟨g, i * 2 + 1, none⟩ = false ∧ w.frozen? ⟨g, j * 2, none⟩ = false ∧ w.frozen? ⟨g, j * 2 + 1, none⟩ = false :=
  ⟨h.c0 hi, h.c1 hi, h.mid.c0 (mid_len X Y _ hj), h.mid.c1 (mid_len X Y _ hj), Blk.frozen h _, Blk.frozen h _, Blk.frozen h _, Blk.frozen h _⟩
/-- what the exchange of two leaves: written one behind the other -/
def swW (w : World) (g i j : Nat) (u0 u1 v0 v1 : Value) : World := (((w.setCell ⟨g, i * 2, none⟩ u0).setCell ⟨g, i * 2 + 1, none⟩ u1).setCell ⟨g, j * 2, none⟩ v0).setCell ⟨g, j * 2 + 1, none⟩ v1
theorem grown_set {w w' : World} {g : Nat} (h : w.grownBy w' (some g)) (i : Nat) (u : Value) : w.grownBy (w'.setCell ⟨g, i, none⟩ u) (some g) :=
  ⟨h.os, h.tape, h.output, by simpa [World.setCell] using h.size, fun k hk hne => by rw [Below.heap_setCell _ _ _ _ (by intro e; exact hne (by rw [e]))]; exact h.block k hk hne⟩
theorem grown_drew {w w' : World} {r : Option Nat} (h : w.grownBy w' r) : w.grownBy w'.drew r := ⟨h.os, h.tape, h.output, h.size, h.block⟩
theorem grown_drewN {w w' : World} {r : Option Nat} (h : w.grownBy w' r) (n : Nat) : w.grownBy (w'.drewN n) r := ⟨h.os, h.tape, h.output, h.size, h.block⟩
theorem grown_below {w w' w'' : World} {r : Option Nat} (h : w.grownBy w' r) (hb : Below w'.heap.size w' w'') : w.grownBy w'' r :=
  ⟨hb.os.trans h.os, hb.tape.trans h.tape, hb.output.trans h.output, Nat.le_trans h.size hb.size, fun k hk hne => (hb.block k (Nat.lt_of_lt_of_le hk h.size)).trans (h.block k hk hne)⟩
theorem grown_sw0 {w w' : World} {g : Nat} (h : w.grownBy w' (some g)) (i j : Nat) (u0 u1 v0 v1 : Value) : w.grownBy (swW w' g i j u0 u1 v0 v1) (some g) := grown_set (grown_set (grown_set (grown_set h _ _) _ _) _ _) _ _
theorem grown_sw {w w' : World} {g : Nat} (h : w.grownBy w' (some g)) (i j : Nat) (u0 u1 v0 v1 : Value) : w.grownBy (swW w' g i j u0 u1 v0 v1).drew (some g) := grown_drew (grown_set (grown_set (grown_set (grown_set h _ _) _ _) _ _) _ _)

theorem grown_low {w w' : World} {r : Option Nat} (hg : w.grownBy w' r) {x : Nat} {t : TypeId} {cs : Array Value} (h : Blk w x t cs) (hne : r ≠ some x) : Blk w' x t cs := Blk.grown h hg hne
/-- the handle of the element's type -/
noncomputable def hdl : Value := typeHandle Try.prog 68
def lessV (gv : Nat) : Value := .func (.func 34) #[] #[.pointer (some ⟨gv, 0, none⟩)]
noncomputable def swapV (g N cap : Nat) : Value := .func (.func 64) #[] #[.slice (some ⟨g, 0, none⟩) N cap, hdl]
noncomputable def dataV (g gv N cap : Nat) : Value := .agg #[lessV gv, swapV g N cap]
/-- the variable that less reads -/
structure Var (w : World) (g gv N cap : Nat) : Prop where
  var : Blk w gv 66 #[.slice (some ⟨g, 0, none⟩) N cap]
  ne : gv ≠ g
/-- while a row is sorted -/
structure Mm (w1 w : World) (bx g gv N cap : Nat) (rest : List Value) (d : List TE) : Prop where
  pk : PkAt w g rest d
  grown : w1.grownBy w (some g)
  box : Blk w bx 94 #[lessV gv, swapV g N cap]
  var : Var w g gv N cap
  bg : bx ≠ g
  len : d.length = N
  few : N ≤ 1000000
theorem Mm.start {w : World} {g gv N cap : Nat} {rest : List Value} {d : List TE} (h : PkAt w g rest d) (hv : Var w g gv N cap) (hn : d.length = N) (hN : N ≤ 1000000) :
    Mm (w.alloc (.cells #[lessV gv, swapV g N cap] 94)) (w.alloc (.cells #[lessV gv, swapV g N cap] 94)) w.heap.size g gv N cap rest d :=
  ⟨Blk.alloc h _, World.grownBy.refl _ _, Blk.new _ _ _, ⟨hv.var.alloc _, hv.ne⟩, by have := Blk.lt h; omega, hn, hN⟩
theorem Mm.more {w1 w w' : World} {bx g gv N cap : Nat} {rest : List Value} {d d' : List TE} (h : Mm w1 w bx g gv N cap rest d) (hg : w.grownBy w' (some g)) (hp : PkAt w' g rest d') (hl : d'.length = d.length) : Mm w1 w' bx g gv N cap rest d' :=
  ⟨hp, h.grown.trans hg, Blk.grown h.box hg (fun e => h.bg (by injection e with e; exact e.symm)), ⟨Blk.grown h.var.var hg (fun e => h.var.ne (by injection e with e; exact e.symm)), h.var.ne⟩, h.bg, hl.trans h.len, h.few⟩
theorem Mm.drewN {w1 w : World} {bx g gv N cap : Nat} {rest : List Value} {d : List TE} (h : Mm w1 w bx g gv N cap rest d) (q : Nat) : Mm w1 (w.drewN q) bx g gv N cap rest d :=
  ⟨h.pk, grown_drewN h.grown q, h.box, ⟨h.var.var, h.var.ne⟩, h.bg, h.len, h.few⟩
theorem Mm.c0 {w1 w : World} {bx g gv N cap : Nat} {rest : List Value} {d : List TE} (h : Mm w1 w bx g gv N cap rest d) : w.cell? ⟨bx, 0, none⟩ = some (lessV gv) := (h.box.cell 0).trans rfl
theorem Mm.c1 {w1 w : World} {bx g gv N cap : Nat} {rest : List Value} {d : List TE} (h : Mm w1 w bx g gv N cap rest d) : w.cell? ⟨bx, 1, none⟩ = some (swapV g N cap) := (h.box.cell 1).trans rfl
theorem Mm.done {w w' : World} {bx g gv N cap : Nat} {rest : List Value} {d : List TE} {o : Obj} (h : Mm (w.alloc o) w' bx g gv N cap rest d) : w.grownBy w' (some g) :=
  (grown_below (World.grownBy.refl w (some g)) ((Below.refl w.heap.size w).alloc (Nat.le_refl _) o)).trans h.grown
set_option maxRecDepth 100000 in
set_option maxHeartbeats 1600000 in
theorem less_cells (g gv N cap i j x y : Nat) (w : World) (hv : w.cell? ⟨gv, 0, none⟩ = some (.slice (some ⟨g, 0, none⟩) N cap)) (hi : w.cell? ⟨g, i * 2, none⟩ = some (.int .i64 (x : Int))) (hj : w.cell? ⟨g, j * 2, none⟩ = some (.int .i64 (y : Int))) (hiN : i < N) (hjN : j < N) (hN : N ≤ 1000000) :
    Calls Try.prog 34 #[.int .i64 (i : Int), .int .i64 (j : Int), .pointer (some ⟨gv, 0, none⟩)] w fun e w' => e = .returned (.bool (decide (x < y))) ∧ ∃ q, w' = w.drewN q := by
  have hi0 : (0 : Int) ≤ (i : Int) := by omega
  have hj0 : (0 : Int) ≤ (j : Int) := by omega
  have hi1 : (i : Int) < (N : Int) := by omega
  have hj1 : (j : Int) < (N : Int) := by omega
  have hb : ((x : Int) < (y : Int)) ↔ x < y := by omega
  go_enter Try.func34, Try.ntmps34
  go_wp2_with fail
  go_quiet (fail)
  go_wp2_with fail
  go_ret
  exact ⟨by simp, _, rfl⟩
/-- less at two of the row -/
theorem Mm.less {w1 w : World} {bx g gv N cap : Nat} {rest : List Value} {X Y Z : List TE} {u v : TE} (h : Mm w1 w bx g gv N cap rest (X ++ u :: (Y ++ v :: Z))) {i j : Nat} (hi : i = X.length) (hj : j = X.length + 1 + Y.length) :
    Calls Try.prog 34 #[.int .i64 (i : Int), .int .i64 (j : Int), .pointer (some ⟨gv, 0, none⟩)] w fun e w' => e = .returned (.bool (decide (u.1.1 < v.1.1))) ∧ Mm w1 w' bx g gv N cap rest (X ++ u :: (Y ++ v :: Z)) := by
  obtain ⟨c0, c1, c2, c3, _⟩ := h.pk.pair hi hj
  have hl := h.len
  simp only [List.length_append, List.length_cons] at hl
  refine (less_cells g gv N cap i j u.1.1 v.1.1 w ((h.var.var.cell 0).trans rfl) c0 c2 (by omega) (by omega) h.few).mono ?_
  rintro e w' ⟨rfl, q, rfl⟩
  exact ⟨rfl, h.drewN q⟩
theorem Mm.less' {w1 w : World} {bx g gv N cap : Nat} {rest : List Value} {X Y Z : List TE} {u v : TE} (h : Mm w1 w bx g gv N cap rest (X ++ u :: (Y ++ v :: Z))) {i j : Nat} (hi : i = X.length) (hj : j = X.length + 1 + Y.length) :
    Calls Try.prog 34 #[.int .i64 (j : Int), .int .i64 (i : Int), .pointer (some ⟨gv, 0, none⟩)] w fun e w' => e = .returned (.bool (decide (v.1.1 < u.1.1))) ∧ Mm w1 w' bx g gv N cap rest (X ++ u :: (Y ++ v :: Z)) := by
  obtain ⟨c0, c1, c2, c3, _⟩ := h.pk.pair hi hj
  have hl := h.len
  simp only [List.length_append, List.length_cons] at hl
  refine (less_cells g gv N cap j i v.1.1 u.1.1 w ((h.var.var.cell 0).trans rfl) c2 c0 (by omega) (by omega) h.few).mono ?_
  rintro e w' ⟨rfl, q, rfl⟩
  exact ⟨rfl, h.drewN q⟩
theorem swap_fn (args : Array Value) (w : World) : (callFunc 64 args).run Try.prog w = ((Extern.ReflectliteSwapper.swap false args).run Try.prog w).andThen fun v w' => .ok (.value v) w' :=
  run_callFunc_extern Try.func64 (by kernel_rfl) (by kernel_rfl) (by kernel_rfl) (by kernel_rfl) args w
theorem info_place : ∃ ie, Try.prog.info? 68 = some ie ∧ ie.size = 2 := by
  have h : (Try.prog.info? 68).map (·.size) = some 2 := by kernel_rfl
  cases hi : Try.prog.info? 68 with
  | none => rw [hi] at h; cases h
  | some ie => rw [hi] at h; exact ⟨ie, rfl, by simpa using h⟩
theorem agg_place (w : World) : (isAgg 68).run Try.prog w = .ok true w := by
  simp [isAgg, run_underlying Try.underlying68, go_sem]
theorem two_at {w : World} {g o : Nat} {a b : Value} (h0 : w.cell? ⟨g, o, none⟩ = some a) (h1 : w.cell? ⟨g, o + 1, none⟩ = some b) : ∀ k v, [a, b][k]? = some v → w.cell? ⟨g, 0 + o + k, none⟩ = some v := by
  intro k v hk
  rw [Nat.zero_add]
  match k, hk with
  | 0, hk => simp at hk; rw [← hk]; exact h0
  | 1, hk => simp at hk; rw [← hk]; exact h1
theorem two_fr {w : World} {g o : Nat} (h0 : w.frozen? ⟨g, o, none⟩ = false) (h1 : w.frozen? ⟨g, o + 1, none⟩ = false) : ∀ k, k < 2 → w.frozen? ⟨g, 0 + o + k, none⟩ = false := by
  intro k hk
  rw [Nat.zero_add]
  match k, hk with
  | 0, _ => exact h0
  | 1, _ => exact h1
theorem swap_run {w : World} {g N cap : Nat} {rest : List Value} {X Y Z : List TE} {u v : TE} (h : PkAt w g rest (X ++ u :: (Y ++ v :: Z))) {i j : Nat} (hi : i = X.length) (hj : j = X.length + 1 + Y.length) (hN : (X ++ u :: (Y ++ v :: Z)).length = N) :
    (callFunc 64 #[.int .i64 (i : Int), .int .i64 (j : Int), .slice (some ⟨g, 0, none⟩) N cap, hdl]).run Try.prog w = .ok (.value (.tuple #[])) (swW w g i j (nv v.1.1) (nv v.1.2) (nv u.1.1) (nv u.1.2)) := by
  obtain ⟨c0, c1, c2, c3, f0, f1, f2, f3⟩ := h.pair hi hj
  obtain ⟨ie, hie, hs⟩ := info_place
  simp only [List.length_append, List.length_cons] at hN
  have := Lib.run_swap_cells (P := Try.prog) false 68 ie hie agg_place g 0 N cap i j (by omega) (by omega) (cellsE u) (cellsE v) (by rw [hs]; rfl) (by rw [hs]; rfl) (by simp [cellsE, nv, Value.oneCell']) (by simp [cellsE, nv, Value.oneCell']) w
    (by rw [hs]; exact two_at c0 c1) (by rw [hs]; exact two_at c2 c3) (by rw [hs]; exact two_fr f0 f1) (by rw [hs]; exact two_fr f2 f3)
  rw [swap_fn, show hdl = typeHandle Try.prog 68 from rfl, this, hs]
  simp [World.setCells, cellsE, swW]
theorem swap_run' {w : World} {g N cap : Nat} {rest : List Value} {X Y Z : List TE} {u v : TE} (h : PkAt w g rest (X ++ u :: (Y ++ v :: Z))) {i j : Nat} (hi : i = X.length) (hj : j = X.length + 1 + Y.length) (hN : (X ++ u :: (Y ++ v :: Z)).length = N) :
    (callFunc 64 #[.int .i64 (j : Int), .int .i64 (i : Int), .slice (some ⟨g, 0, none⟩) N cap, hdl]).run Try.prog w = .ok (.value (.tuple #[])) (swW w g j i (nv u.1.1) (nv u.1.2) (nv v.1.1) (nv v.1.2)) := by
  obtain ⟨c0, c1, c2, c3, f0, f1, f2, f3⟩ := h.pair hi hj
  obtain ⟨ie, hie, hs⟩ := info_place
  simp only [List.length_append, List.length_cons] at hN
  have := Lib.run_swap_cells (P := Try.prog) false 68 ie hie agg_place g 0 N cap j i (by omega) (by omega) (cellsE v) (cellsE u) (by rw [hs]; rfl) (by rw [hs]; rfl) (by simp [cellsE, nv, Value.oneCell']) (by simp [cellsE, nv, Value.oneCell']) w
    (by rw [hs]; exact two_at c2 c3) (by rw [hs]; exact two_at c0 c1) (by rw [hs]; exact two_fr f2 f3) (by rw [hs]; exact two_fr f0 f1)
  rw [swap_fn, show hdl = typeHandle Try.prog 68 from rfl, this, hs]
  simp [World.setCells, cellsE, swW]
/-- two of the row change places -/
theorem Mm.swap {w1 w : World} {bx g gv N cap : Nat} {rest : List Value} {X Y Z : List TE} {u v : TE} (h : Mm w1 w bx g gv N cap rest (X ++ u :: (Y ++ v :: Z))) {i j : Nat} (hi : i = X.length) (hj : j = X.length + 1 + Y.length) :
    ∃ w', (callFunc 64 #[.int .i64 (i : Int), .int .i64 (j : Int), .slice (some ⟨g, 0, none⟩) N cap, hdl]).run Try.prog w = .ok (.value (.tuple #[])) w' ∧ Mm w1 w' bx g gv N cap rest (X ++ v :: (Y ++ u :: Z)) :=
  ⟨_, swap_run h.pk hi hj h.len, h.more (grown_sw0 (World.grownBy.refl _ _) _ _ _ _ _ _) (h.pk.swapU hi hj) (by simp)⟩
theorem Mm.swap' {w1 w : World} {bx g gv N cap : Nat} {rest : List Value} {X Y Z : List TE} {u v : TE} (h : Mm w1 w bx g gv N cap rest (X ++ u :: (Y ++ v :: Z))) {i j : Nat} (hi : i = X.length) (hj : j = X.length + 1 + Y.length) :
    ∃ w', (callFunc 64 #[.int .i64 (j : Int), .int .i64 (i : Int), .slice (some ⟨g, 0, none⟩) N cap, hdl]).run Try.prog w = .ok (.value (.tuple #[])) w' ∧ Mm w1 w' bx g gv N cap rest (X ++ v :: (Y ++ u :: Z)) :=
  ⟨_, swap_run' h.pk hi hj h.len, h.more (grown_sw0 (World.grownBy.refl _ _) _ _ _ _ _ _) (h.pk.swapD hi hj) (by simp)⟩
end Go.Proofs.Ytfgkfakhlcbdbaa.Slc
