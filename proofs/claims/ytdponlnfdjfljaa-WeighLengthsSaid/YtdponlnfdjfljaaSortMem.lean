/- rows of packs: what lies in memory while they are sorted. -/
import Derived.Test.YtdponlnfdjfljaaSortPure
import Derived.Test.YtdponlnfdjfljaaKeep
import Derived.Test.YtdponlnfdjfljaaEqual
import Derived.Test.YtdponlnfdjfljaaProg
import Derived.Maps.AppendAt
namespace Go.Proofs.Ytdponlnfdjfljaa.Weigh
open Go Go.RowKit Go.Proofs.Ytdponlnfdjfljaa
set_option linter.unusedVariables false

/-- a pack: how often, its slice, what lies there -/
abbrev Sl3 := Option Addr × Nat × Nat
def slv (s : Sl3) : Value := .slice s.1 s.2.1 s.2.2
abbrev El := Nat × Sl3 × List Nat
abbrev TE := El × Nat
def nv (n : Nat) : Value := .int .i64 (n : Int)
def cellsE (e : TE) : List Value := [nv e.1.1, slv e.1.2.1]
def ekey (e : El) : Nat := e.1
def PkAt (w : World) (g : Nat) (rest : List Value) (d : List TE) : Prop := Blk w g 94 (d.flatMap cellsE ++ rest).toArray
theorem flat_len (d : List TE) : (d.flatMap cellsE).length = d.length * 2 := by
  induction d with
  | nil => rfl
  | cons a d ih => rw [List.flatMap_cons, List.length_append, ih]; simp [cellsE]; omega
theorem PkAt.c0 {w : World} {g : Nat} {rest : List Value} {X Y : List TE} {u : TE} (h : PkAt w g rest (X ++ u :: Y)) {i : Nat} (hi : i = X.length) : w.cell? ⟨g, i * 2, none⟩ = some (nv u.1.1) := by
  subst hi
  rw [Blk.cell h, List.getElem?_toArray, List.flatMap_append, List.append_assoc, List.getElem?_append_right (by rw [flat_len]; exact Nat.le_refl _), flat_len, Nat.sub_self]
  rfl
theorem PkAt.c1 {w : World} {g : Nat} {rest : List Value} {X Y : List TE} {u : TE} (h : PkAt w g rest (X ++ u :: Y)) {i : Nat} (hi : i = X.length) : w.cell? ⟨g, i * 2 + 1, none⟩ = some (slv u.1.2.1) := by
  subst hi
  rw [Blk.cell h, List.getElem?_toArray, List.flatMap_append, List.append_assoc, List.getElem?_append_right (by rw [flat_len]; omega), flat_len, show X.length * 2 + 1 - X.length * 2 = 1 by omega]
  rfl
theorem PkAt.mid {w : World} {g : Nat} {rest : List Value} {X Y Z : List TE} {u v : TE} (h : PkAt w g rest (X ++ u :: (Y ++ v :: Z))) : PkAt w g rest ((X ++ u :: Y) ++ v :: Z) := by
  have e : (X ++ u :: Y) ++ v :: Z = X ++ u :: (Y ++ v :: Z) := by simp
  rw [e]; exact h
theorem mid_len (X Y : List TE) (u : TE) {j : Nat} (h : j = X.length + 1 + Y.length) : j = (X ++ u :: Y).length := by rw [h]; simp; omega
theorem set4 (A B C : List Value) (u0 u1 v0 v1 x0 x1 y0 y1 : Value) :
    ((((A ++ u0 :: u1 :: (B ++ v0 :: v1 :: C)).set A.length x0).set (A.length + 1) x1).set (A.length + 2 + B.length) y0).set (A.length + 2 + B.length + 1) y1 = A ++ x0 :: x1 :: (B ++ y0 :: y1 :: C) := by
  have s1 : ∀ (L : List Value) (M : List Value) (n : Nat) (x : Value), (L ++ M).set (L.length + n) x = L ++ M.set n x := by
    intro L M n x
    rw [List.set_append_right _ _ (Nat.le_add_right _ _), Nat.add_sub_cancel_left]
  have h1 := s1 A (u0 :: u1 :: (B ++ v0 :: v1 :: C)) 0 x0
  rw [Nat.add_zero] at h1
  rw [h1, s1 A _ 1 x1, Nat.add_assoc A.length 2 B.length, s1 A _ (2 + B.length) y0, Nat.add_assoc A.length, s1 A _ (2 + B.length + 1) y1]
  congr 1
  have h2 := s1 B (v0 :: v1 :: C) 0 y0
  rw [Nat.add_zero] at h2
  rw [show 2 + B.length + 1 = (B.length + 1) + 1 + 1 by omega, show 2 + B.length = B.length + 1 + 1 by omega]
  show x0 :: x1 :: (((B ++ v0 :: v1 :: C).set B.length y0).set (B.length + 1) y1) = _
  rw [h2, List.set_cons_zero, s1 B _ 1 y1]
  rfl
theorem comm4 (l : List Value) (a b c d : Nat) (x0 x1 y0 y1 : Value) (h1 : a ≠ c) (h2 : a ≠ d) (h3 : b ≠ c) (h4 : b ≠ d) : (((l.set c y0).set d y1).set a x0).set b x1 = (((l.set a x0).set b x1).set c y0).set d y1 := by
  rw [List.set_comm y1 x0 (Ne.symm h2), List.set_comm y0 x0 (Ne.symm h1), List.set_comm y1 x1 (Ne.symm h4), List.set_comm y0 x1 (Ne.symm h3)]
theorem flat2 (X Y Z : List TE) (u v : TE) (rest : List Value) : (X ++ u :: (Y ++ v :: Z)).flatMap cellsE ++ rest = X.flatMap cellsE ++ nv u.1.1 :: (slv u.1.2.1) :: (Y.flatMap cellsE ++ nv v.1.1 :: (slv v.1.2.1) :: (Z.flatMap cellsE ++ rest)) := by
  simp [List.flatMap_append, List.flatMap_cons, cellsE]
theorem blk_eq {w : World} {g : Nat} {t : TypeId} {cs ds : Array Value} (h : Blk w g t cs) (e : cs = ds) : Blk w g t ds := e ▸ h
/-- two packs change places: the one further ahead is written first -/
theorem PkAt.swapU {w : World} {g : Nat} {rest : List Value} {X Y Z : List TE} {u v : TE} (h : PkAt w g rest (X ++ u :: (Y ++ v :: Z))) {i j : Nat} (hi : i = X.length) (hj : j = X.length + 1 + Y.length) :
    PkAt ((((w.setCell ⟨g, i * 2, none⟩ (nv v.1.1)).setCell ⟨g, i * 2 + 1, none⟩ (slv v.1.2.1)).setCell ⟨g, j * 2, none⟩ (nv u.1.1)).setCell ⟨g, j * 2 + 1, none⟩ (slv u.1.2.1)) g rest (X ++ v :: (Y ++ u :: Z)) := by
  subst hi hj
  have := (((Blk.set_ h (X.length * 2) (nv v.1.1)).set_ (X.length * 2 + 1) (slv v.1.2.1)).set_ ((X.length + 1 + Y.length) * 2) (nv u.1.1)).set_ ((X.length + 1 + Y.length) * 2 + 1) (slv u.1.2.1)
  unfold PkAt
  refine blk_eq this ?_
  apply Array.ext'
  simp only [Array.toList_setIfInBounds]
  rw [flat2, flat2]
  have s := set4 (X.flatMap cellsE) (Y.flatMap cellsE) (Z.flatMap cellsE ++ rest) (nv u.1.1) (slv u.1.2.1) (nv v.1.1) (slv v.1.2.1) (nv v.1.1) (slv v.1.2.1) (nv u.1.1) (slv u.1.2.1)
  rw [flat_len, flat_len] at s
  rw [← s, show (X.length + 1 + Y.length) * 2 = X.length * 2 + 2 + Y.length * 2 by omega]
/-- .. the one further behind is written first -/
theorem PkAt.swapD {w : World} {g : Nat} {rest : List Value} {X Y Z : List TE} {u v : TE} (h : PkAt w g rest (X ++ u :: (Y ++ v :: Z))) {i j : Nat} (hi : i = X.length) (hj : j = X.length + 1 + Y.length) :
    PkAt ((((w.setCell ⟨g, j * 2, none⟩ (nv u.1.1)).setCell ⟨g, j * 2 + 1, none⟩ (slv u.1.2.1)).setCell ⟨g, i * 2, none⟩ (nv v.1.1)).setCell ⟨g, i * 2 + 1, none⟩ (slv v.1.2.1)) g rest (X ++ v :: (Y ++ u :: Z)) := by
  subst hi hj
  have := (((Blk.set_ h ((X.length + 1 + Y.length) * 2) (nv u.1.1)).set_ ((X.length + 1 + Y.length) * 2 + 1) (slv u.1.2.1)).set_ (X.length * 2) (nv v.1.1)).set_ (X.length * 2 + 1) (slv v.1.2.1)
  unfold PkAt
  refine blk_eq this ?_
  apply Array.ext'
  simp only [Array.toList_setIfInBounds]
  rw [flat2, flat2]
  have s := set4 (X.flatMap cellsE) (Y.flatMap cellsE) (Z.flatMap cellsE ++ rest) (nv u.1.1) (slv u.1.2.1) (nv v.1.1) (slv v.1.2.1) (nv v.1.1) (slv v.1.2.1) (nv u.1.1) (slv u.1.2.1)
  rw [flat_len, flat_len] at s
  rw [← s, show (X.length + 1 + Y.length) * 2 = X.length * 2 + 2 + Y.length * 2 by omega]
  exact comm4 _ _ _ _ _ _ _ _ _ (by omega) (by omega) (by omega) (by omega)
theorem PkAt.pair {w : World} {g : Nat} {rest : List Value} {X Y Z : List TE} {uk ub uc ut vk vb vc vt : Nat} {ua va : Option Addr} {um vm : List Nat} (h : PkAt w g rest (X ++ ((uk, (ua, ub, uc), um), ut) :: (Y ++ ((vk, (va, vb, vc), vm), vt) :: Z))) {i j : Nat} (hi : i = X.length) (hj : j = X.length + 1 + Y.length) :
    w.cell? ⟨g, i * 2, none⟩ = some (.int .i64 (uk : Int)) ∧ w.cell? ⟨g, i * 2 + 1, none⟩ = some (.slice ua ub uc) ∧ w.cell? ⟨g, j * 2, none⟩ = some (.int .i64 (vk : Int)) ∧ w.cell? ⟨g, j * 2 + 1, none⟩ = some (.slice va vb vc) ∧
    w.frozen? ⟨g, i * 2, none⟩ = false ∧ w.frozen? ⟨g, i * 2 + 1, none⟩ = false ∧ w.frozen? ⟨g, j * 2, none⟩ = false ∧ w.frozen? ⟨g, j * 2 + 1, none⟩ = false :=
  ⟨h.c0 hi, h.c1 hi, h.mid.c0 (mid_len X Y _ hj), h.mid.c1 (mid_len X Y _ hj), Blk.frozen h _, Blk.frozen h _, Blk.frozen h _, Blk.frozen h _⟩
/-- what the exchange of two leaves: written one behind the other -/
def swW (w : World) (g i j : Nat) (u0 u1 v0 v1 : Value) : World := (((w.setCell ⟨g, i * 2, none⟩ u0).setCell ⟨g, i * 2 + 1, none⟩ u1).setCell ⟨g, j * 2, none⟩ v0).setCell ⟨g, j * 2 + 1, none⟩ v1
theorem grown_set {w w' : World} {g : Nat} (h : w.grownBy w' (some g)) (i : Nat) (u : Value) : w.grownBy (w'.setCell ⟨g, i, none⟩ u) (some g) :=
  ⟨h.os, h.tape, h.output, by simpa [World.setCell] using h.size, fun k hk hne => by rw [Below.heap_setCell _ _ _ _ (by intro e; exact hne (by rw [e]))]; exact h.block k hk hne⟩
theorem grown_drew {w w' : World} {r : Option Nat} (h : w.grownBy w' r) : w.grownBy w'.drew r := ⟨h.os, h.tape, h.output, h.size, h.block⟩
theorem grown_drewN {w w' : World} {r : Option Nat} (h : w.grownBy w' r) (n : Nat) : w.grownBy (w'.drewN n) r := ⟨h.os, h.tape, h.output, h.size, h.block⟩
theorem grown_below {w w' w'' : World} {r : Option Nat} (h : w.grownBy w' r) (hb : Below w'.heap.size w' w'') : w.grownBy w'' r :=
  ⟨hb.os.trans h.os, hb.tape.trans h.tape, hb.output.trans h.output, Nat.le_trans h.size hb.size, fun k hk hne => (hb.block k (Nat.lt_of_lt_of_le hk h.size)).trans (h.block k hk hne)⟩
theorem grown_sw {w w' : World} {g : Nat} (h : w.grownBy w' (some g)) (i j : Nat) (u0 u1 v0 v1 : Value) : w.grownBy (swW w' g i j u0 u1 v0 v1).drew (some g) := grown_drew (grown_set (grown_set (grown_set (grown_set h _ _) _ _) _ _) _ _)
end Go.Proofs.Ytdponlnfdjfljaa.Weigh
