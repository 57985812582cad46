/- texts joined: CdsRep SlcMem SlcSwap SlcIns SlcSym SlcSym3 SlcStab SlcSort CdsSort. -/
import Derived.Test.YthpdcnjaodjjmaaGreatBlockPackQ6
import Derived.Test.YthpdcnjaodjjmaaGreatBlockPackQ4
import Derived.BigQuiet
import Derived.Test.YthpdcnjaodjjmaaGreatSortPure
import Derived.Test.YthpdcnjaodjjmaaGreatBlockPackQ1
import Derived.Test.YthpdcnjaodjjmaaGreatProg
import Derived.Maps.AppendAt
import Derived.WalkSpells
import Derived.Lib.ReflectliteSwap
import Derived.Lib.ReflectliteSlice
import Derived.Laws.Externs
import Derived.Deep.CutRange
/- strings.Repeat of "0", strings.LastIndexByte. -/
namespace Go.Proofs.YthpdcnjaodjjmaaGreat.Cds
open Go Go.RowKit Go.Proofs.YthpdcnjaodjjmaaGreat Go.Proofs.YthpdcnjaodjjmaaGreat.Bits
set_option linter.unusedVariables false
set_option linter.unusedSimpArgs false

set_option maxRecDepth 100000 in
set_option maxHeartbeats 1600000 in
theorem prefix_in (s : ByteArray) (w : World) (hs : s.size ≤ 1000) (h1 : 1 ≤ s.size) :
    Calls Tryz.prog 126 #[.string s, .string ⟨#[48]⟩] w fun e w' => (∃ b, e = .returned (.bool b) ∧ b = ((s.extract 0 1).toList == [48])) ∧ w' = w := by
  have hz : (⟨#[48]⟩ : ByteArray).size = 1 := rfl
  have i1 : (1 : Int) ≤ (s.size : Int) := by omega
  go_enter Tryz.func126, Tryz.ntmps126
  go_wp2_with fail
  go_ret
  exact ⟨⟨_, rfl, rfl⟩, rfl⟩
set_option maxRecDepth 100000 in
set_option maxHeartbeats 1600000 in
theorem hasPrefix_any (s : ByteArray) (w : World) (hs : s.size ≤ 1000) (h1 : 1 ≤ s.size) :
    Calls Tryz.prog 107 #[.string s, .string ⟨#[48]⟩] w fun e w' => (∃ b, e = .returned (.bool b) ∧ b = ((s.extract 0 1).toList == [48])) ∧ w' = w := by
  have HI := Lib.hid (prefix_in s w hs h1)
  go_enter Tryz.func107, Tryz.ntmps107
  go_wp2_with fail
  refine (HI.out).mono ?_
  rintro e w' ⟨⟨b, rfl, hb⟩, rfl⟩
  have Hb := Lib.hid hb
  clear hb
  go_wp2_with fail
  go_ret
  exact ⟨⟨_, rfl, Hb.out⟩, rfl⟩
theorem zeros_extract : ∀ k < 16, ByteArray.extract ⟨#[48, 48, 48, 48, 48, 48, 48, 48, 48, 48, 48, 48, 48, 48, 48, 48, 48, 48, 48, 48, 48, 48, 48, 48, 48, 48, 48, 48, 48, 48, 48, 48, 48, 48, 48, 48, 48, 48, 48, 48, 48, 48, 48, 48, 48, 48, 48, 48, 48, 48, 48, 48, 48, 48, 48, 48, 48, 48, 48, 48, 48, 48, 48, 48]⟩ 0 k = strB (List.replicate k 48) := by decide +kernel
set_option maxRecDepth 100000 in
set_option maxHeartbeats 1600000 in
/-- so many '0' -/
theorem repeat0_any (k : Nat) (w : World) (hk : k ≤ 15) :
    Calls Tryz.prog 90 #[.string ⟨#[48]⟩, .int .i64 (k : Int)] w fun e w' => e = .returned (.string (strB (List.replicate k 48))) ∧ w' = w := by
  rcases (by omega : k = 0 ∨ k = 1 ∨ 2 ≤ k) with h | h | h
  · subst h
    go_enter Tryz.func90, Tryz.ntmps90
    go_wp2_with fail
    go_ret
    exact ⟨rfl, rfl⟩
  · subst h
    go_enter Tryz.func90, Tryz.ntmps90
    go_wp2_with fail
    go_ret
    exact ⟨rfl, rfl⟩
  · have hv1 : k < 18446744073709551616 := by omega
    have HM : Hid (∀ W, Calls Tryz.prog 85 #[.int .u64 1, .int .u64 (k : Int)] W fun e w' => e = .returned (.tuple #[.int .u64 0, .int .u64 (k : Int)]) ∧ w' = W) := Lib.hid (fun W => by
      have h := Any.bits_Mul YthpdcnjaodjjmaaGreat.lays212 1 k (by omega) hv1 W
      rw [Nat.one_mul, Nat.div_eq_of_lt hv1, Nat.mod_eq_of_lt hv1] at h
      exact h)
    have hz : (⟨#[48]⟩ : ByteArray).size = 1 := rfl
    have e0 : ((k : Int) == 0) = false := by rw [beq_eq_false_iff_ne]; omega
    have e1 : ((k : Int) == 1) = false := by rw [beq_eq_false_iff_ne]; omega
    have i1 : (k : Int) ≤ 128 := by omega
    have i2 : (k : Int) ≤ 64 := by omega
    clear hv1
    go_enter Tryz.func90, Tryz.ntmps90
    go_wp2_with fail
    refine (HM.out _).mono ?_
    rintro e w2 ⟨rfl, hw2⟩
    cases hw2
    go_wp2_with fail
    refine (hasPrefix_any _ _ (by decide +kernel) (by decide +kernel)).mono ?_
    rintro e w3 ⟨⟨b, rfl, hb⟩, hw3⟩
    cases hw3
    obtain rfl : b = false := hb.trans (by decide +kernel)
    clear hb
    go_wp2_with fail
    refine (hasPrefix_any _ _ (by decide +kernel) (by decide +kernel)).mono ?_
    rintro e w4 ⟨⟨b, rfl, hb⟩, hw4⟩
    cases hw4
    obtain rfl : b = false := hb.trans (by decide +kernel)
    clear hb
    go_wp2_with fail
    refine (hasPrefix_any _ _ (by decide +kernel) (by decide +kernel)).mono ?_
    rintro e w5 ⟨⟨b, rfl, hb⟩, hw5⟩
    cases hw5
    obtain rfl : b = true := hb.trans (by decide +kernel)
    clear hb
    go_wp2_with fail
    go_ret
    exact ⟨congrArg (fun s => Ending.returned (.string s)) (zeros_extract k (by omega)), rfl⟩
set_option maxRecDepth 100000 in
set_option maxHeartbeats 1600000 in
theorem lastIn_any (a : List Bool) (t : Nat) (w : World) (hl : a.length + t ≤ 100) :
    Calls Tryz.prog 106 #[rowV (a ++ false :: List.replicate t true), .int .u8 48] w fun e w' => e = .returned (.int .i64 (a.length : Int)) ∧ w' = w := by
  obtain ⟨l, hl'⟩ : ∃ l, l = a ++ false :: List.replicate t true := ⟨_, rfl⟩
  have hlen : l.length = a.length + 1 + t := by rw [hl']; simp; omega
  have H1 : Hid (∀ (h : a.length < l.length), l[a.length] = false) := Lib.hid (fun h => by subst hl'; simp)
  have H2 : Hid (∀ j (h : j < l.length), a.length < j → l[j] = true) := Lib.hid (fun j h hj => by
    subst hl'
    rw [List.getElem_append_right (by omega), List.getElem_cons, dif_neg (by omega), List.getElem_replicate])
  rw [← hl']
  have hsz : (strB (rowS l)).size = l.length := by rw [strB_size, rowS_length]
  have hsz2 : (strB (rowS l)).size ≤ 101 := by omega
  have HSz := Lib.hid hsz
  have Hlen := Lib.hid hlen
  obtain ⟨n, hn⟩ : ∃ n, n = a.length := ⟨_, rfl⟩
  rw [← hn] at H1 H2 Hlen hl ⊢
  clear hl' hlen hsz hn
  unfold rowV
  go_enter Tryz.func106, Tryz.ntmps106
  go_wp2_with fail
  go_loopw [5] (fun i wr => ∃ k : Nat, n < k ∧ k ≤ l.length ∧ i = .int .i64 ((k : Int) - 1) ∧ wr = w) (fun i _ => ((intOf i) + 1).toNat)
  case atStart =>
    refine ⟨l.length, by have := Hlen.out; omega, Nat.le_refl _, ?_, rfl⟩
    rw [HSz.out]
  case round =>
    obtain ⟨k, hk1, hk2, rfl, rfl⟩ := hrel
    obtain ⟨j, rfl⟩ : ∃ j, k = j + 1 := ⟨k - 1, by omega⟩
    have e : (((j + 1 : Nat) : Int) - 1) = (j : Int) := by omega
    rw [e]
    clear e
    have hjs : j < (strB (rowS l)).size := by rw [HSz.out]; omega
    have hch := ch_get l j (by omega) (hs := hjs)
    have Hch := Lib.hid hch
    clear hch
    by_cases hjn : j = n
    · subst hjn
      have hb : l[j].toNat = 0 := by rw [H1.out (by omega)]; rfl
      have hc : (((strB (rowS l))[j]'hjs).toNat : Int) = 48 := by rw [Hch.out, hb]; rfl
      clear hb
      go_wp2_with fail
      go_ret
      exact ⟨rfl, rfl⟩
    · have hb : l[j].toNat = 1 := by rw [H2.out j (by omega) (by omega)]; rfl
      have hc : (((strB (rowS l))[j]'hjs).toNat : Int) = 49 := by rw [Hch.out, hb]; rfl
      have hw : IntKind.i64.wrap ((j : Int) - 1) = (j : Int) - 1 := IntWalk.i64_in _ (by omega)
      clear hb
      go_wp2_with fail
      go_roundw
      case rel => exact ⟨j, by omega, by omega, rfl, trivial⟩
      case measure => simp [intOf]
set_option maxRecDepth 100000 in
set_option maxHeartbeats 1600000 in
theorem last_any (a : List Bool) (t : Nat) (w : World) (hl : a.length + t ≤ 100) :
    Calls Tryz.prog 89 #[rowV (a ++ false :: List.replicate t true), .int .u8 48] w fun e w' => e = .returned (.int .i64 (a.length : Int)) ∧ w' = w := by
  have HI := Lib.hid (lastIn_any a t w hl)
  unfold rowV at *
  go_enter Tryz.func89, Tryz.ntmps89
  go_wp2_with fail
  refine (HI.out).mono ?_
  rintro e w' ⟨rfl, rfl⟩
  go_wp2_with fail
  go_ret
  exact ⟨rfl, rfl⟩
end Go.Proofs.YthpdcnjaodjjmaaGreat.Cds

/- rows of places, and what sort.SliceStable's functions are handed: less, swap. -/
namespace Go.Proofs.YthpdcnjaodjjmaaGreat.Slc
open Go Go.RowKit Go.Proofs.YthpdcnjaodjjmaaGreat
set_option linter.unusedVariables false

/-- a place: its length, where it stands -/
abbrev El := Nat × Nat
abbrev TE := El × Nat
def nv (n : Nat) : Value := .int .i64 (n : Int)
def cellsE (e : TE) : List Value := [nv e.1.1, nv e.1.2]
def ekey (e : El) : Nat := e.1
def PkAt (w : World) (g : Nat) (rest : List Value) (d : List TE) : Prop := Blk w g 150 (d.flatMap cellsE ++ rest).toArray
theorem flat_len (d : List TE) : (d.flatMap cellsE).length = d.length * 2 := by
  induction d with
  | nil => rfl
  | cons a d ih => rw [List.flatMap_cons, List.length_append, ih]; simp [cellsE]; omega
theorem PkAt.c0 {w : World} {g : Nat} {rest : List Value} {X Y : List TE} {u : TE} (h : PkAt w g rest (X ++ u :: Y)) {i : Nat} (hi : i = X.length) : w.cell? ⟨g, i * 2, none⟩ = some (nv u.1.1) := by
  subst hi
  rw [Blk.cell h, List.getElem?_toArray, List.flatMap_append, List.append_assoc, List.getElem?_append_right (by rw [flat_len]; exact Nat.le_refl _), flat_len, Nat.sub_self]
  rfl
theorem PkAt.c1 {w : World} {g : Nat} {rest : List Value} {X Y : List TE} {u : TE} (h : PkAt w g rest (X ++ u :: Y)) {i : Nat} (hi : i = X.length) : w.cell? ⟨g, i * 2 + 1, none⟩ = some (nv u.1.2) := by
  subst hi
  rw [Blk.cell h, List.getElem?_toArray, List.flatMap_append, List.append_assoc, List.getElem?_append_right (by rw [flat_len]; omega), flat_len, show X.length * 2 + 1 - X.length * 2 = 1 by omega]
  rfl
theorem PkAt.mid {w : World} {g : Nat} {rest : List Value} {X Y Z : List TE} {u v : TE} (h : PkAt w g rest (X ++ u :: (Y ++ v :: Z))) : PkAt w g rest ((X ++ u :: Y) ++ v :: Z) := by
  have e : (X ++ u :: Y) ++ v :: Z = X ++ u :: (Y ++ v :: Z) := by simp
  rw [e]; exact h
theorem mid_len (X Y : List TE) (u : TE) {j : Nat} (h : j = X.length + 1 + Y.length) : j = (X ++ u :: Y).length := by rw [h]; simp; omega
theorem set4 (A B C : List Value) (u0 u1 v0 v1 x0 x1 y0 y1 : Value) :
    ((((A ++ u0 :: u1 :: (B ++ v0 :: v1 :: C)).set A.length x0).set (A.length + 1) x1).set (A.length + 2 + B.length) y0).set (A.length + 2 + B.length + 1) y1 = A ++ x0 :: x1 :: (B ++ y0 :: y1 :: C) := by
  have s1 : ∀ (L : List Value) (M : List Value) (n : Nat) (x : Value), (L ++ M).set (L.length + n) x = L ++ M.set n x := by
    intro L M n x
    rw [List.set_append_right _ _ (Nat.le_add_right _ _), Nat.add_sub_cancel_left]
  have h1 := s1 A (u0 :: u1 :: (B ++ v0 :: v1 :: C)) 0 x0
  rw [Nat.add_zero] at h1
  rw [h1, s1 A _ 1 x1, Nat.add_assoc A.length 2 B.length, s1 A _ (2 + B.length) y0, Nat.add_assoc A.length, s1 A _ (2 + B.length + 1) y1]
  congr 1
  have h2 := s1 B (v0 :: v1 :: C) 0 y0
  rw [Nat.add_zero] at h2
  rw [show 2 + B.length + 1 = (B.length + 1) + 1 + 1 by omega, show 2 + B.length = B.length + 1 + 1 by omega]
  show x0 :: x1 :: (((B ++ v0 :: v1 :: C).set B.length y0).set (B.length + 1) y1) = _
  rw [h2, List.set_cons_zero, s1 B _ 1 y1]
  rfl
theorem comm4 (l : List Value) (a b c d : Nat) (x0 x1 y0 y1 : Value) (h1 : a ≠ c) (h2 : a ≠ d) (h3 : b ≠ c) (h4 : b ≠ d) : (((l.set c y0).set d y1).set a x0).set b x1 = (((l.set a x0).set b x1).set c y0).set d y1 := by
  rw [List.set_comm y1 x0 (Ne.symm h2), List.set_comm y0 x0 (Ne.symm h1), List.set_comm y1 x1 (Ne.symm h4), List.set_comm y0 x1 (Ne.symm h3)]
theorem flat2 (X Y Z : List TE) (u v : TE) (rest : List Value) : (X ++ u :: (Y ++ v :: Z)).flatMap cellsE ++ rest = X.flatMap cellsE ++ nv u.1.1 :: (nv u.1.2) :: (Y.flatMap cellsE ++ nv v.1.1 :: (nv v.1.2) :: (Z.flatMap cellsE ++ rest)) := by
  simp [List.flatMap_append, List.flatMap_cons, cellsE]
theorem blk_eq {w : World} {g : Nat} {t : TypeId} {cs ds : Array Value} (h : Blk w g t cs) (e : cs = ds) : Blk w g t ds := e ▸ h
/-- two packs change places: the one further ahead is written first -/
theorem PkAt.swapU {w : World} {g : Nat} {rest : List Value} {X Y Z : List TE} {u v : TE} (h : PkAt w g rest (X ++ u :: (Y ++ v :: Z))) {i j : Nat} (hi : i = X.length) (hj : j = X.length + 1 + Y.length) :
    PkAt ((((w.setCell ⟨g, i * 2, none⟩ (nv v.1.1)).setCell ⟨g, i * 2 + 1, none⟩ (nv v.1.2)).setCell ⟨g, j * 2, none⟩ (nv u.1.1)).setCell ⟨g, j * 2 + 1, none⟩ (nv u.1.2)) g rest (X ++ v :: (Y ++ u :: Z)) := by
  subst hi hj
  have := (((Blk.set_ h (X.length * 2) (nv v.1.1)).set_ (X.length * 2 + 1) (nv v.1.2)).set_ ((X.length + 1 + Y.length) * 2) (nv u.1.1)).set_ ((X.length + 1 + Y.length) * 2 + 1) (nv u.1.2)
  unfold PkAt
  refine blk_eq this ?_
  apply Array.ext'
  simp only [Array.toList_setIfInBounds]
  rw [flat2, flat2]
  have s := set4 (X.flatMap cellsE) (Y.flatMap cellsE) (Z.flatMap cellsE ++ rest) (nv u.1.1) (nv u.1.2) (nv v.1.1) (nv v.1.2) (nv v.1.1) (nv v.1.2) (nv u.1.1) (nv u.1.2)
  rw [flat_len, flat_len] at s
  rw [← s, show (X.length + 1 + Y.length) * 2 = X.length * 2 + 2 + Y.length * 2 by omega]
/-- .. the one further behind is written first -/
theorem PkAt.swapD {w : World} {g : Nat} {rest : List Value} {X Y Z : List TE} {u v : TE} (h : PkAt w g rest (X ++ u :: (Y ++ v :: Z))) {i j : Nat} (hi : i = X.length) (hj : j = X.length + 1 + Y.length) :
    PkAt ((((w.setCell ⟨g, j * 2, none⟩ (nv u.1.1)).setCell ⟨g, j * 2 + 1, none⟩ (nv u.1.2)).setCell ⟨g, i * 2, none⟩ (nv v.1.1)).setCell ⟨g, i * 2 + 1, none⟩ (nv v.1.2)) g rest (X ++ v :: (Y ++ u :: Z)) := by
  subst hi hj
  have := (((Blk.set_ h ((X.length + 1 + Y.length) * 2) (nv u.1.1)).set_ ((X.length + 1 + Y.length) * 2 + 1) (nv u.1.2)).set_ (X.length * 2) (nv v.1.1)).set_ (X.length * 2 + 1) (nv v.1.2)
  unfold PkAt
  refine blk_eq this ?_
  apply Array.ext'
  simp only [Array.toList_setIfInBounds]
  rw [flat2, flat2]
  have s := set4 (X.flatMap cellsE) (Y.flatMap cellsE) (Z.flatMap cellsE ++ rest) (nv u.1.1) (nv u.1.2) (nv v.1.1) (nv v.1.2) (nv v.1.1) (nv v.1.2) (nv u.1.1) (nv u.1.2)
  rw [flat_len, flat_len] at s
  rw [← s, show (X.length + 1 + Y.length) * 2 = X.length * 2 + 2 + Y.length * 2 by omega]
  exact comm4 _ _ _ _ _ _ _ _ _ (by omega) (by omega) (by omega) (by omega)
theorem PkAt.pair {w : World} {g : Nat} {rest : List Value} {X Y Z : List TE} {u v : TE} (h : PkAt w g rest (X ++ u :: (Y ++ v :: Z))) {i j : Nat} (hi : i = X.length) (hj : j = X.length + 1 + Y.length) :
    w.cell? ⟨g, i * 2, none⟩ = some (nv u.1.1) ∧ w.cell? ⟨g, i * 2 + 1, none⟩ = some (nv u.1.2) ∧ w.cell? ⟨g, j * 2, none⟩ = some (nv v.1.1) ∧ w.cell? ⟨g, j * 2 + 1, none⟩ = some (nv v.1.2) ∧
    w.frozen? ⟨g, i * 2, none⟩ = false ∧ w.frozen? ⟨g, i * 2 + 1, none⟩ = false ∧ w.frozen? ⟨g, j * 2, none⟩ = false ∧ w.frozen? ⟨g, j * 2 + 1, none⟩ = false :=
  ⟨h.c0 hi, h.c1 hi, h.mid.c0 (mid_len X Y _ hj), h.mid.c1 (mid_len X Y _ hj), Blk.frozen h _, Blk.frozen h _, Blk.frozen h _, Blk.frozen h _⟩
/-- what the exchange of two leaves: written one behind the other -/
def swW (w : World) (g i j : Nat) (u0 u1 v0 v1 : Value) : World := (((w.setCell ⟨g, i * 2, none⟩ u0).setCell ⟨g, i * 2 + 1, none⟩ u1).setCell ⟨g, j * 2, none⟩ v0).setCell ⟨g, j * 2 + 1, none⟩ v1
theorem grown_set {w w' : World} {g : Nat} (h : w.grownBy w' (some g)) (i : Nat) (u : Value) : w.grownBy (w'.setCell ⟨g, i, none⟩ u) (some g) :=
  ⟨h.os, h.tape, h.output, by simpa [World.setCell] using h.size, fun k hk hne => by rw [Below.heap_setCell _ _ _ _ (by intro e; exact hne (by rw [e]))]; exact h.block k hk hne⟩
theorem grown_drew {w w' : World} {r : Option Nat} (h : w.grownBy w' r) : w.grownBy w'.drew r := ⟨h.os, h.tape, h.output, h.size, h.block⟩
theorem grown_drewN {w w' : World} {r : Option Nat} (h : w.grownBy w' r) (n : Nat) : w.grownBy (w'.drewN n) r := ⟨h.os, h.tape, h.output, h.size, h.block⟩
theorem grown_below {w w' w'' : World} {r : Option Nat} (h : w.grownBy w' r) (hb : Below w'.heap.size w' w'') : w.grownBy w'' r :=
  ⟨hb.os.trans h.os, hb.tape.trans h.tape, hb.output.trans h.output, Nat.le_trans h.size hb.size, fun k hk hne => (hb.block k (Nat.lt_of_lt_of_le hk h.size)).trans (h.block k hk hne)⟩
theorem grown_sw0 {w w' : World} {g : Nat} (h : w.grownBy w' (some g)) (i j : Nat) (u0 u1 v0 v1 : Value) : w.grownBy (swW w' g i j u0 u1 v0 v1) (some g) := grown_set (grown_set (grown_set (grown_set h _ _) _ _) _ _) _ _
theorem grown_sw {w w' : World} {g : Nat} (h : w.grownBy w' (some g)) (i j : Nat) (u0 u1 v0 v1 : Value) : w.grownBy (swW w' g i j u0 u1 v0 v1).drew (some g) := grown_drew (grown_set (grown_set (grown_set (grown_set h _ _) _ _) _ _) _ _)

/-- the handle of the element's type -/
noncomputable def hdl : Value := typeHandle Tryz.prog 150
def lessV (gv : Nat) : Value := .func (.func 88) #[] #[.pointer (some ⟨gv, 0, none⟩)]
noncomputable def swapV (g N cap : Nat) : Value := .func (.func 123) #[] #[.slice (some ⟨g, 0, none⟩) N cap, hdl]
noncomputable def dataV (g gv N cap : Nat) : Value := .agg #[lessV gv, swapV g N cap]
/-- the variable that less reads -/
structure Var (w : World) (g gv N cap : Nat) : Prop where
  var : Blk w gv 148 #[.slice (some ⟨g, 0, none⟩) N cap]
  ne : gv ≠ g
/-- while a row is sorted -/
structure Mm (w1 w : World) (bx g gv N cap : Nat) (rest : List Value) (d : List TE) : Prop where
  pk : PkAt w g rest d
  grown : w1.grownBy w (some g)
  box : Blk w bx 177 #[lessV gv, swapV g N cap]
  var : Var w g gv N cap
  bg : bx ≠ g
  len : d.length = N
  few : N ≤ 1000000
theorem Mm.start {w : World} {g gv N cap : Nat} {rest : List Value} {d : List TE} (h : PkAt w g rest d) (hv : Var w g gv N cap) (hn : d.length = N) (hN : N ≤ 1000000) :
    Mm (w.alloc (.cells #[lessV gv, swapV g N cap] 177)) (w.alloc (.cells #[lessV gv, swapV g N cap] 177)) w.heap.size g gv N cap rest d :=
  ⟨Blk.alloc h _, World.grownBy.refl _ _, Blk.new _ _ _, ⟨hv.var.alloc _, hv.ne⟩, by have := Blk.lt h; omega, hn, hN⟩
theorem Mm.more {w1 w w' : World} {bx g gv N cap : Nat} {rest : List Value} {d d' : List TE} (h : Mm w1 w bx g gv N cap rest d) (hg : w.grownBy w' (some g)) (hp : PkAt w' g rest d') (hl : d'.length = d.length) : Mm w1 w' bx g gv N cap rest d' :=
  ⟨hp, h.grown.trans hg, Blk.grown h.box hg (fun e => h.bg (by injection e with e; exact e.symm)), ⟨Blk.grown h.var.var hg (fun e => h.var.ne (by injection e with e; exact e.symm)), h.var.ne⟩, h.bg, hl.trans h.len, h.few⟩
theorem Mm.drewN {w1 w : World} {bx g gv N cap : Nat} {rest : List Value} {d : List TE} (h : Mm w1 w bx g gv N cap rest d) (q : Nat) : Mm w1 (w.drewN q) bx g gv N cap rest d :=
  ⟨h.pk, grown_drewN h.grown q, h.box, ⟨h.var.var, h.var.ne⟩, h.bg, h.len, h.few⟩
theorem Mm.c0 {w1 w : World} {bx g gv N cap : Nat} {rest : List Value} {d : List TE} (h : Mm w1 w bx g gv N cap rest d) : w.cell? ⟨bx, 0, none⟩ = some (lessV gv) := (h.box.cell 0).trans rfl
theorem Mm.c1 {w1 w : World} {bx g gv N cap : Nat} {rest : List Value} {d : List TE} (h : Mm w1 w bx g gv N cap rest d) : w.cell? ⟨bx, 1, none⟩ = some (swapV g N cap) := (h.box.cell 1).trans rfl
theorem Mm.done {w w' : World} {bx g gv N cap : Nat} {rest : List Value} {d : List TE} {o : Obj} (h : Mm (w.alloc o) w' bx g gv N cap rest d) : w.grownBy w' (some g) :=
  (grown_below (World.grownBy.refl w (some g)) ((Below.refl w.heap.size w).alloc (Nat.le_refl _) o)).trans h.grown
set_option maxRecDepth 100000 in
set_option maxHeartbeats 1600000 in
theorem less_cells (g gv N cap i j x y : Nat) (w : World) (hv : w.cell? ⟨gv, 0, none⟩ = some (.slice (some ⟨g, 0, none⟩) N cap)) (hi : w.cell? ⟨g, i * 2, none⟩ = some (.int .i64 (x : Int))) (hj : w.cell? ⟨g, j * 2, none⟩ = some (.int .i64 (y : Int))) (hiN : i < N) (hjN : j < N) (hN : N ≤ 1000000) :
    Calls Tryz.prog 88 #[.int .i64 (i : Int), .int .i64 (j : Int), .pointer (some ⟨gv, 0, none⟩)] w fun e w' => e = .returned (.bool (decide (x < y))) ∧ ∃ q, w' = w.drewN q := by
  have hi0 : (0 : Int) ≤ (i : Int) := by omega
  have hj0 : (0 : Int) ≤ (j : Int) := by omega
  have hi1 : (i : Int) < (N : Int) := by omega
  have hj1 : (j : Int) < (N : Int) := by omega
  have hb : ((x : Int) < (y : Int)) ↔ x < y := by omega
  go_enter Tryz.func88, Tryz.ntmps88
  go_wp2_with fail
  go_quiet (fail)
  go_wp2_with fail
  go_ret
  exact ⟨by simp, _, rfl⟩
theorem Mm.less' {w1 w : World} {bx g gv N cap : Nat} {rest : List Value} {X Y Z : List TE} {u v : TE} (h : Mm w1 w bx g gv N cap rest (X ++ u :: (Y ++ v :: Z))) {i j : Nat} (hi : i = X.length) (hj : j = X.length + 1 + Y.length) :
    Calls Tryz.prog 88 #[.int .i64 (j : Int), .int .i64 (i : Int), .pointer (some ⟨gv, 0, none⟩)] w fun e w' => e = .returned (.bool (decide (v.1.1 < u.1.1))) ∧ Mm w1 w' bx g gv N cap rest (X ++ u :: (Y ++ v :: Z)) := by
  obtain ⟨c0, c1, c2, c3, _⟩ := h.pk.pair hi hj
  have hl := h.len
  simp only [List.length_append, List.length_cons] at hl
  refine (less_cells g gv N cap j i v.1.1 u.1.1 w ((h.var.var.cell 0).trans rfl) c2 c0 (by omega) (by omega) h.few).mono ?_
  rintro e w' ⟨rfl, q, rfl⟩
  exact ⟨rfl, h.drewN q⟩
theorem swap_fn (args : Array Value) (w : World) : (callFunc 123 args).run Tryz.prog w = ((Extern.ReflectliteSwapper.swap false args).run Tryz.prog w).andThen fun v w' => .ok (.value v) w' :=
  run_callFunc_extern Tryz.func123 (by kernel_rfl) (by kernel_rfl) (by kernel_rfl) (by kernel_rfl) args w
theorem info_place : ∃ ie, Tryz.prog.info? 150 = some ie ∧ ie.size = 2 := by
  have h : (Tryz.prog.info? 150).map (·.size) = some 2 := by kernel_rfl
  cases hi : Tryz.prog.info? 150 with
  | none => rw [hi] at h; cases h
  | some ie => rw [hi] at h; exact ⟨ie, rfl, by simpa using h⟩
theorem agg_place (w : World) : (isAgg 150).run Tryz.prog w = .ok true w := by
  simp [isAgg, run_underlying Tryz.underlying150, go_sem]
theorem two_at {w : World} {g o : Nat} {a b : Value} (h0 : w.cell? ⟨g, o, none⟩ = some a) (h1 : w.cell? ⟨g, o + 1, none⟩ = some b) : ∀ k v, [a, b][k]? = some v → w.cell? ⟨g, 0 + o + k, none⟩ = some v := by
  intro k v hk
  rw [Nat.zero_add]
  match k, hk with
  | 0, hk => simp at hk; rw [← hk]; exact h0
  | 1, hk => simp at hk; rw [← hk]; exact h1
theorem two_fr {w : World} {g o : Nat} (h0 : w.frozen? ⟨g, o, none⟩ = false) (h1 : w.frozen? ⟨g, o + 1, none⟩ = false) : ∀ k, k < 2 → w.frozen? ⟨g, 0 + o + k, none⟩ = false := by
  intro k hk
  rw [Nat.zero_add]
  match k, hk with
  | 0, _ => exact h0
  | 1, _ => exact h1
theorem swap_run {w : World} {g N cap : Nat} {rest : List Value} {X Y Z : List TE} {u v : TE} (h : PkAt w g rest (X ++ u :: (Y ++ v :: Z))) {i j : Nat} (hi : i = X.length) (hj : j = X.length + 1 + Y.length) (hN : (X ++ u :: (Y ++ v :: Z)).length = N) :
    (callFunc 123 #[.int .i64 (i : Int), .int .i64 (j : Int), .slice (some ⟨g, 0, none⟩) N cap, hdl]).run Tryz.prog w = .ok (.value (.tuple #[])) (swW w g i j (nv v.1.1) (nv v.1.2) (nv u.1.1) (nv u.1.2)) := by
  obtain ⟨c0, c1, c2, c3, f0, f1, f2, f3⟩ := h.pair hi hj
  obtain ⟨ie, hie, hs⟩ := info_place
  simp only [List.length_append, List.length_cons] at hN
  have := Lib.run_swap_cells (P := Tryz.prog) false 150 ie hie agg_place g 0 N cap i j (by omega) (by omega) (cellsE u) (cellsE v) (by rw [hs]; rfl) (by rw [hs]; rfl) (by simp [cellsE, nv, Value.oneCell']) (by simp [cellsE, nv, Value.oneCell']) w
    (by rw [hs]; exact two_at c0 c1) (by rw [hs]; exact two_at c2 c3) (by rw [hs]; exact two_fr f0 f1) (by rw [hs]; exact two_fr f2 f3)
  rw [swap_fn, show hdl = typeHandle Tryz.prog 150 from rfl, this, hs]
  simp [World.setCells, cellsE, swW]
theorem swap_run' {w : World} {g N cap : Nat} {rest : List Value} {X Y Z : List TE} {u v : TE} (h : PkAt w g rest (X ++ u :: (Y ++ v :: Z))) {i j : Nat} (hi : i = X.length) (hj : j = X.length + 1 + Y.length) (hN : (X ++ u :: (Y ++ v :: Z)).length = N) :
    (callFunc 123 #[.int .i64 (j : Int), .int .i64 (i : Int), .slice (some ⟨g, 0, none⟩) N cap, hdl]).run Tryz.prog w = .ok (.value (.tuple #[])) (swW w g j i (nv u.1.1) (nv u.1.2) (nv v.1.1) (nv v.1.2)) := by
  obtain ⟨c0, c1, c2, c3, f0, f1, f2, f3⟩ := h.pair hi hj
  obtain ⟨ie, hie, hs⟩ := info_place
  simp only [List.length_append, List.length_cons] at hN
  have := Lib.run_swap_cells (P := Tryz.prog) false 150 ie hie agg_place g 0 N cap j i (by omega) (by omega) (cellsE v) (cellsE u) (by rw [hs]; rfl) (by rw [hs]; rfl) (by simp [cellsE, nv, Value.oneCell']) (by simp [cellsE, nv, Value.oneCell']) w
    (by rw [hs]; exact two_at c2 c3) (by rw [hs]; exact two_at c0 c1) (by rw [hs]; exact two_fr f2 f3) (by rw [hs]; exact two_fr f0 f1)
  rw [swap_fn, show hdl = typeHandle Tryz.prog 150 from rfl, this, hs]
  simp [World.setCells, cellsE, swW]
/-- two of the row change places -/
theorem Mm.swap {w1 w : World} {bx g gv N cap : Nat} {rest : List Value} {X Y Z : List TE} {u v : TE} (h : Mm w1 w bx g gv N cap rest (X ++ u :: (Y ++ v :: Z))) {i j : Nat} (hi : i = X.length) (hj : j = X.length + 1 + Y.length) :
    ∃ w', (callFunc 123 #[.int .i64 (i : Int), .int .i64 (j : Int), .slice (some ⟨g, 0, none⟩) N cap, hdl]).run Tryz.prog w = .ok (.value (.tuple #[])) w' ∧ Mm w1 w' bx g gv N cap rest (X ++ v :: (Y ++ u :: Z)) :=
  ⟨_, swap_run h.pk hi hj h.len, h.more (grown_sw0 (World.grownBy.refl _ _) _ _ _ _ _ _) (h.pk.swapU hi hj) (by simp)⟩
theorem Mm.swap' {w1 w : World} {bx g gv N cap : Nat} {rest : List Value} {X Y Z : List TE} {u v : TE} (h : Mm w1 w bx g gv N cap rest (X ++ u :: (Y ++ v :: Z))) {i j : Nat} (hi : i = X.length) (hj : j = X.length + 1 + Y.length) :
    ∃ w', (callFunc 123 #[.int .i64 (j : Int), .int .i64 (i : Int), .slice (some ⟨g, 0, none⟩) N cap, hdl]).run Tryz.prog w = .ok (.value (.tuple #[])) w' ∧ Mm w1 w' bx g gv N cap rest (X ++ v :: (Y ++ u :: Z)) :=
  ⟨_, swap_run' h.pk hi hj h.len, h.more (grown_sw0 (World.grownBy.refl _ _) _ _ _ _ _ _) (h.pk.swapD hi hj) (by simp)⟩
end Go.Proofs.YthpdcnjaodjjmaaGreat.Slc

/- sort.swapRange_func, sort.rotate_func at rows of places. -/
namespace Go.Proofs.YthpdcnjaodjjmaaGreat.Slc
open Go Go.RowKit Go.Proofs.YthpdcnjaodjjmaaGreat
set_option linter.unusedVariables false

def srL (P U M V Q : List TE) (i : Nat) : List TE := P ++ V.take i ++ (U.drop i ++ (M ++ U.take i ++ (V.drop i ++ Q)))
theorem sr_here (P U M V Q : List TE) (i : Nat) (h1 : i < U.length) (h2 : i < V.length) : srL P U M V Q i = (P ++ V.take i) ++ U[i] :: ((U.drop (i + 1) ++ (M ++ U.take i)) ++ V[i] :: (V.drop (i + 1) ++ Q)) := by
  unfold srL
  rw [List.drop_eq_getElem_cons h1, List.drop_eq_getElem_cons h2]
  simp only [List.append_assoc, List.cons_append]
theorem sr_next (P U M V Q : List TE) (i : Nat) (h1 : i < U.length) (h2 : i < V.length) : srL P U M V Q (i + 1) = (P ++ V.take i) ++ V[i] :: ((U.drop (i + 1) ++ (M ++ U.take i)) ++ U[i] :: (V.drop (i + 1) ++ Q)) := by
  unfold srL
  rw [List.take_succ_eq_append_getElem h1, List.take_succ_eq_append_getElem h2]
  simp only [List.append_assoc, List.cons_append, List.nil_append]
set_option maxRecDepth 100000 in
set_option maxHeartbeats 4000000 in
theorem swapRange_any (g gv N cap a b k : Nat) (rest : List Value) (P U M V Q : List TE) (w : World) (h : PkAt w g rest (P ++ U ++ (M ++ (V ++ Q)))) (hv : Var w g gv N cap) (hU : U.length = k) (hV : V.length = k) (ha : P.length = a) (hb : P.length + U.length + M.length = b)
    (hN : (P ++ U ++ (M ++ (V ++ Q))).length = N) (hN2 : N ≤ 1000000) :
    Calls Tryz.prog 132 #[dataV g gv N cap, .int .i64 (a : Int), .int .i64 (b : Int), .int .i64 (k : Int)] w fun e w' => e = .returned (.tuple #[]) ∧ PkAt w' g rest (P ++ V ++ (M ++ (U ++ Q))) ∧ w.grownBy w' (some g) := by
  have hN3 : P.length + U.length + M.length + V.length + Q.length = N := by rw [← hN]; simp; omega
  have h0 : srL P U M V Q 0 = P ++ U ++ (M ++ (V ++ Q)) := by simp [srL]
  have h1 : srL P U M V Q k = P ++ V ++ (M ++ (U ++ Q)) := by unfold srL; rw [List.take_of_length_le (by omega), List.take_of_length_le (by omega), List.drop_of_length_le (by omega), List.drop_of_length_le (by omega)]; simp
  have H := Lib.hid (Mm.start h hv hN hN2)
  rw [← h0] at H
  have H1 := Lib.hid h1
  have HU := Lib.hid hU
  have HV := Lib.hid hV
  have HP := Lib.hid ha
  have HB := Lib.hid hb
  have hbk : b + k ≤ N := by omega
  have hak : a + k ≤ b := by omega
  clear h h0 h1 hN hN3 hU hV ha hb hv
  unfold dataV
  go_enter Tryz.func132, Tryz.ntmps132
  go_wp2_with fail
  generalize hw1 : w.alloc (.cells #[lessV gv, swapV g N cap] 177) = w1 at *
  generalize hbx : w.heap.size = bx at *
  have Hw1 := Lib.hid hw1
  clear hw1 hbx
  go_loopw [8] (fun i wr => ∃ j : Nat, j ≤ k ∧ i = .int .i64 (j : Int) ∧ Mm w1 wr bx g gv N cap rest (srL P U M V Q j)) (fun i _ => k - (intOf i).toNat)
  case atStart => exact ⟨0, Nat.zero_le _, rfl, H.out⟩
  case round =>
    obtain ⟨j, hj, rfl, hm⟩ := hrel
    by_cases hlt : j < k
    · have e1 : j < U.length := by rw [HU.out]; exact hlt
      have e2 : j < V.length := by rw [HV.out]; exact hlt
      rw [sr_here P U M V Q j e1 e2] at hm
      have hX : a + j = (P ++ V.take j).length := by rw [List.length_append, List.length_take, HP.out, HV.out]; omega
      have hY : b + j = (P ++ V.take j).length + 1 + (U.drop (j + 1) ++ (M ++ U.take j)).length := by
        have := HU.out; have := HV.out; have := HP.out; have := HB.out
        simp; omega
      obtain ⟨w9, hsw, hm9⟩ := hm.swap hX hY
      rw [← sr_next P U M V Q j e1 e2] at hm9
      have c1 := hm.c1
      have HM9 := Lib.hid hm9
      have q1 : ((a + j : Nat) : Int) = (a : Int) + (j : Int) := by omega
      have q2 : ((b + j : Nat) : Int) = (b : Int) + (j : Int) := by omega
      rw [q1, q2] at hsw
      unfold swapV at c1
      clear hm hm9 hX hY e1 e2 q1 q2
      go_wp2_with fail
      go_roundw
      case rel => exact ⟨j + 1, by omega, by go_num, HM9.out⟩
      case measure => simp [intOf]; omega
    · obtain rfl : j = k := by omega
      have HM := Lib.hid hm
      clear hm
      go_wp2_with fail
      go_end0
      exact ⟨rfl, by rw [← H1.out]; exact HM.out.pk, (Hw1.out ▸ HM.out : Mm (w.alloc _) _ _ _ _ _ _ _ _).done⟩
def rtL (P A U V B Q : List TE) : List TE := (P ++ A) ++ U ++ ([] ++ (V ++ (B ++ Q)))
set_option maxRecDepth 100000 in
set_option maxHeartbeats 4000000 in
theorem rotate_any (g gv N cap a m b : Nat) (rest : List Value) (P X Y Q : List TE) (w : World) (h : PkAt w g rest (P ++ X ++ (Y ++ Q))) (hv : Var w g gv N cap) (ha : P.length = a) (hm : a + X.length = m) (hb : m + Y.length = b) (hX : 1 ≤ X.length) (hY : 1 ≤ Y.length)
    (hN : (P ++ X ++ (Y ++ Q)).length = N) (hN2 : N ≤ 1000000) :
    Calls Tryz.prog 129 #[dataV g gv N cap, .int .i64 (a : Int), .int .i64 (m : Int), .int .i64 (b : Int)] w fun e w' => e = .returned (.tuple #[]) ∧ PkAt w' g rest (P ++ Y ++ (X ++ Q)) ∧ w.grownBy w' (some g) := by
  have hN3 : P.length + X.length + Y.length + Q.length = N := by rw [← hN]; simp; omega
  have HN3 := Lib.hid hN3
  have H := Lib.hid (Mm.start h hv hN hN2)
  have HP := Lib.hid ha
  have ei : (m : Int) - (a : Int) = ((X.length : Nat) : Int) := by omega
  have ej : (b : Int) - (m : Int) = ((Y.length : Nat) : Int) := by omega
  have hmb : m ≤ b := by omega
  have hbN : b ≤ N := by omega
  have ham : a ≤ m := by omega
  have Hx := Lib.hid hX
  have Hy := Lib.hid hY
  have Hm := Lib.hid hm
  have Hb := Lib.hid hb
  clear h hN hN3 ha hX hY hm hb hv
  generalize hxl : X.length = xl at *
  generalize hyl : Y.length = yl at *
  have Hxl := Lib.hid hxl
  have Hyl := Lib.hid hyl
  clear hxl hyl
  unfold dataV
  go_enter Tryz.func129, Tryz.ntmps129
  go_wp2_with fail
  generalize hw1 : w.alloc (.cells #[lessV gv, swapV g N cap] 177) = w1 at *
  generalize hbx : w.heap.size = bx at *
  have Hw1 := Lib.hid hw1
  clear hw1 hbx
  go_loopw [8, 9] (fun i j wr => ∃ A U V B : List TE, i = .int .i64 (U.length : Int) ∧ j = .int .i64 (V.length : Int) ∧ 1 ≤ U.length ∧ 1 ≤ V.length ∧ (P ++ A).length + U.length = m ∧ m + V.length ≤ b ∧ (rtL P A U V B Q).length = N ∧ Y ++ X = A ++ (V ++ U) ++ B ∧ Mm w1 wr bx g gv N cap rest (rtL P A U V B Q)) (fun i j _ => (intOf i).toNat + (intOf j).toNat)
  case atStart =>
    refine ⟨[], X, Y, [], by rw [Hxl.out], by rw [Hyl.out], by rw [Hxl.out]; exact Hx.out, by rw [Hyl.out]; exact Hy.out, ?_, ?_, ?_, by simp, ?_⟩
    · rw [List.append_nil, HP.out, Hxl.out]; exact Hm.out
    · rw [Hyl.out]; exact Nat.le_of_eq Hb.out
    · have := HN3.out; have := Hxl.out; have := Hyl.out; simp [rtL]; omega
    · simpa [rtL] using H.out
  case round =>
    obtain ⟨A, U, V, B, rfl, rfl, hu, hv, hA, hV, hL, htgt, hpk⟩ := hrel
    have c0 := hpk.c0
    have c1 := hpk.c1
    have Hpk := Lib.hid hpk
    have Htgt := Lib.hid htgt
    have HL := Lib.hid hL
    have HA := Lib.hid hA
    clear hpk htgt hL
    obtain ⟨i, hi⟩ : ∃ i, U.length = i := ⟨_, rfl⟩
    obtain ⟨j, hj⟩ : ∃ j, V.length = j := ⟨_, rfl⟩
    obtain ⟨p, hp⟩ : ∃ p, (P ++ A).length = p := ⟨_, rfl⟩
    have Hi := Lib.hid hi
    have Hj := Lib.hid hj
    have Hp := Lib.hid hp
    rw [hi, hp] at hA
    rw [hi] at hu ⊢
    rw [hj] at hv hV ⊢
    clear hi hj hp
    have e1 : (m : Int) - (i : Int) = (p : Int) := by omega
    by_cases hij : i = j
    · have hne : ((i : Int) != (j : Int)) = false := by simp; omega
      have hc := swapRange_any g gv N cap p m i rest (P ++ A) U [] V (B ++ Q) wr Hpk.out.pk Hpk.out.var Hi.out (by rw [Hj.out]; exact hij.symm) Hp.out (by rw [Hp.out, Hi.out]; simpa using hA) HL.out hN2
      unfold dataV at hc
      have Hc := Lib.hid hc
      have Hfin : Hid ((P ++ A) ++ V ++ ([] ++ (U ++ (B ++ Q))) = P ++ Y ++ (X ++ Q)) := Lib.hid (by
        have := Htgt.out
        have h2 : P ++ (Y ++ X) ++ Q = P ++ (A ++ (V ++ U) ++ B) ++ Q := by rw [this]
        simp only [List.append_assoc, List.nil_append] at h2 ⊢
        exact h2.symm)
      clear hc hij
      go_wp2_with fail
      refine (Hc.out).mono ?_
      rintro e w2 ⟨rfl, hp2, hg2⟩
      rw [Hfin.out] at hp2
      have Hp2 := Lib.hid hp2
      have Hg2 := Lib.hid hg2
      clear hp2 hg2
      go_wp2_with fail
      go_end0
      exact ⟨rfl, Hp2.out, (Hw1.out ▸ (Hpk.out.more Hg2.out Hp2.out (by have a7 := HL.out; have h9 := congrArg List.length Hfin.out; unfold rtL; simp only [List.length_append, List.length_nil] at h9 ⊢; omega)) : Mm (w.alloc _) _ _ _ _ _ _ _ _).done⟩
    · have hne : ((i : Int) != (j : Int)) = true := by simp; omega
      by_cases hlt : j < i
      · have hU : U = U.take j ++ U.drop j := (List.take_append_drop _ _).symm
        have hc := swapRange_any g gv N cap p m j rest (P ++ A) (U.take j) (U.drop j) V (B ++ Q) wr (by have := Hpk.out.pk; unfold rtL at this; rw [hU] at this; simpa only [List.append_assoc, List.nil_append] using this) Hpk.out.var (by rw [List.length_take, Hi.out]; omega) Hj.out Hp.out
          (by rw [Hp.out, List.length_take, List.length_drop, Hi.out]; omega) (by have := HL.out; unfold rtL at this; rw [hU] at this; simpa only [List.append_assoc, List.nil_append] using this) hN2
        unfold dataV at hc
        have Hc := Lib.hid hc
        have e3 : (i : Int) - (j : Int) = (((U.drop j).length : Nat) : Int) := by rw [List.length_drop, Hi.out]; omega
        have Hd : Hid ((U.drop j).length = i - j) := Lib.hid (by rw [List.length_drop, Hi.out])
        have Ht : Hid ((U.take j).length = j) := Lib.hid (by rw [List.length_take, Hi.out]; omega)
        have Htg2 : Hid (Y ++ X = (A ++ V) ++ (U.take j ++ U.drop j) ++ B) := Lib.hid (by rw [Htgt.out, List.take_append_drop]; simp only [List.append_assoc])
        have hjI : (j : Int) < (i : Int) := by omega
        clear hc hij hU
        generalize U.drop j = U2 at *
        generalize U.take j = U1 at *
        generalize hd : U2.length = dd at *
        have Hdl := Lib.hid hd
        clear hd
        go_wp2_with fail
        refine (Hc.out).mono ?_
        rintro e w2 ⟨rfl, hp2, hg2⟩
        have Hp2 : Hid (Mm w1 w2 bx g gv N cap rest (rtL P (A ++ V) U2 U1 B Q)) := Lib.hid (Hpk.out.more hg2 (by unfold rtL; simpa only [List.append_assoc, List.nil_append] using hp2) (by have a1 := Hd.out; have a2 := Ht.out; (try have a3 := Hdl.out); have a7 := HL.out; have a8 := Hi.out; have a9 := Hj.out; unfold rtL at a7 ⊢; simp only [List.length_append, List.length_nil] at a7 ⊢; omega))
        clear hp2 hg2
        go_wp2_with fail
        go_roundw
        case rel =>
          have a1 := Hd.out; have a2 := Ht.out; have a3 := Hdl.out; have a4 := Hj.out; have a5 := Hi.out; have a6 := Hp.out; have a7 := HL.out
          refine ⟨A ++ V, U2, U1, B, by rw [a3], by rw [a2], by omega, by omega, ?_, by omega, ?_, Htg2.out, Hp2.out⟩
          · simp only [List.length_append] at a6 ⊢; omega
          · unfold rtL at a7 ⊢; simp only [List.length_append, List.length_nil] at a7 a6 ⊢; omega
        case measure =>
          have a1 := Hd.out
          simp [intOf]; omega
      · have hV' : V = V.take (j - i) ++ V.drop (j - i) := (List.take_append_drop _ _).symm
        have hc := swapRange_any g gv N cap p (m + (j - i)) i rest (P ++ A) U (V.take (j - i)) (V.drop (j - i)) (B ++ Q) wr (by have := Hpk.out.pk; unfold rtL at this; rw [hV'] at this; simpa only [List.append_assoc, List.nil_append] using this) Hpk.out.var Hi.out (by rw [List.length_drop, Hj.out]; omega) Hp.out
          (by rw [Hp.out, List.length_take, Hi.out, Hj.out]; omega) (by have := HL.out; unfold rtL at this; rw [hV'] at this; simpa only [List.append_assoc, List.nil_append] using this) hN2
        unfold dataV at hc
        have Hc := Lib.hid hc
        have Hd : Hid ((V.drop (j - i)).length = i) := Lib.hid (by rw [List.length_drop, Hj.out]; omega)
        have Ht : Hid ((V.take (j - i)).length = j - i) := Lib.hid (by rw [List.length_take, Hj.out]; omega)
        have Htg2 : Hid (Y ++ X = A ++ (V.take (j - i) ++ V.drop (j - i)) ++ (U ++ B)) := Lib.hid (by rw [Htgt.out, List.take_append_drop]; simp only [List.append_assoc])
        have hjI : ¬ ((j : Int) < (i : Int)) := by omega
        obtain ⟨q, hq⟩ : ∃ q, m + (j - i) = q := ⟨_, rfl⟩
        have e2 : (m : Int) + (j : Int) - (i : Int) = (q : Int) := by omega
        obtain ⟨r, hr⟩ : ∃ r, j - i = r := ⟨_, rfl⟩
        have e3 : (j : Int) - (i : Int) = (r : Int) := by omega
        rw [hq] at Hc
        rw [hr] at Ht Hd Htg2 Hc
        have hrij : r + i = j := by omega
        have hr1 : 1 ≤ r := by omega
        clear hc hij hV' hq hr
        generalize V.drop r = V2 at *
        generalize V.take r = V1 at *
        go_wp2_with fail
        refine (Hc.out).mono ?_
        rintro e w2 ⟨rfl, hp2, hg2⟩
        have Hp2 : Hid (Mm w1 w2 bx g gv N cap rest (rtL P A V2 V1 (U ++ B) Q)) := Lib.hid (Hpk.out.more hg2 (by unfold rtL; simpa only [List.append_assoc, List.nil_append] using hp2) (by have a1 := Hd.out; have a2 := Ht.out; (try have a3 := Hdl.out); have a7 := HL.out; have a8 := Hi.out; have a9 := Hj.out; unfold rtL at a7 ⊢; simp only [List.length_append, List.length_nil] at a7 ⊢; omega))
        clear hp2 hg2
        go_wp2_with fail
        go_roundw
        case rel =>
          have a1 := Hd.out; have a2 := Ht.out; have a4 := Hj.out; have a5 := Hi.out; have a6 := Hp.out; have a7 := HL.out
          refine ⟨A, V2, V1, U ++ B, by rw [a1], by rw [a2], by omega, by omega, by rw [a6, a1]; omega, by omega, ?_, Htg2.out, Hp2.out⟩
          unfold rtL at a7 ⊢; simp only [List.length_append, List.length_nil] at a7 a6 ⊢; omega
        case measure => simp [intOf]; omega
end Go.Proofs.YthpdcnjaodjjmaaGreat.Slc

/- sort.insertionSort_func at rows of places. -/
namespace Go.Proofs.YthpdcnjaodjjmaaGreat.Slc
open Go Go.RowKit Go.Proofs.YthpdcnjaodjjmaaGreat Go.Proofs.YthpdcnjaodjjmaaGreat.SP
set_option linter.unusedVariables false

def isL (P S' : List TE) (x : TE) (R : List TE) (u : Nat) : List TE := (P ++ S'.take u) ++ x :: (S'.drop u ++ R)
theorem is_pre (P S' : List TE) (x : TE) (R : List TE) (u : Nat) (h : u < S'.length) : isL P S' x R (u + 1) = (P ++ S'.take u) ++ S'[u] :: ([] ++ x :: (S'.drop (u + 1) ++ R)) := by
  unfold isL
  rw [List.take_succ_eq_append_getElem h]
  simp only [List.append_assoc, List.cons_append, List.nil_append]
theorem is_post (P S' : List TE) (x : TE) (R : List TE) (u : Nat) (h : u < S'.length) : isL P S' x R u = (P ++ S'.take u) ++ x :: ([] ++ S'[u] :: (S'.drop (u + 1) ++ R)) := by
  unfold isL
  rw [List.drop_eq_getElem_cons h]
  simp only [List.append_assoc, List.cons_append, List.nil_append]
theorem ins_sorted (S' : List TE) (x : TE) (u : Nat) (hu : u ≤ S'.length) (hs : S'.Pairwise (lexP ekey)) (ht : ∀ y ∈ S', y.2 < x.2) (h1 : u = 0 ∨ ∃ h : u - 1 < S'.length, S'[u - 1].1.1 ≤ x.1.1) (h2 : u = S'.length ∨ ∃ h : u < S'.length, x.1.1 < S'[u].1.1) :
    (S'.take u ++ x :: S'.drop u).Pairwise (lexP ekey) := by
  refine put_sorted ekey x S' u hu hs ?_ ?_
  · rcases h1 with h | ⟨h, k⟩
    · exact .inl h
    · refine .inr ⟨h, ?_⟩
      have := ht _ (List.getElem_mem h)
      unfold lexP ekey; omega
  · rcases h2 with h | ⟨h, k⟩
    · exact .inl h
    · exact .inr ⟨h, .inl k⟩
theorem ins_perm (S' T : List TE) (x : TE) (u : Nat) (h : S'.Perm T) : (S'.take u ++ x :: S'.drop u).Perm (T ++ [x]) :=
  (put_perm x S' u).trans ((h.cons x).trans (List.perm_append_singleton x T).symm)
set_option maxRecDepth 100000 in
set_option maxHeartbeats 4000000 in
theorem insertion_any (g gv N cap a b : Nat) (rest : List Value) (P S Q : List TE) (w : World) (h : PkAt w g rest (P ++ S ++ Q)) (hv : Var w g gv N cap) (ha : P.length = a) (hb : a + S.length = b) (hr : Rise S) (hN : (P ++ S ++ Q).length = N) (hN2 : N ≤ 1000000) :
    Calls Tryz.prog 124 #[dataV g gv N cap, .int .i64 (a : Int), .int .i64 (b : Int)] w fun e w' => e = .returned (.tuple #[]) ∧ (∃ S', PkAt w' g rest (P ++ S' ++ Q) ∧ S'.Perm S ∧ S'.Pairwise (lexP ekey)) ∧ w.grownBy w' (some g) := by
  have hN3 : P.length + S.length + Q.length = N := by rw [← hN]; simp; omega
  have H := Lib.hid (Mm.start h hv hN hN2)
  have HP := Lib.hid ha
  have HR := Lib.hid hr
  have HS := Lib.hid hb
  have hbN : b ≤ N := by omega
  have hab : a ≤ b := by omega
  clear h hN hN3 ha hr hb hv
  unfold dataV
  go_enter Tryz.func124, Tryz.ntmps124
  go_wp2_with fail
  generalize hw1 : w.alloc (.cells #[lessV gv, swapV g N cap] 177) = w1 at *
  generalize hbx : w.heap.size = bx at *
  have Hw1 := Lib.hid hw1
  clear hw1 hbx
  go_loopw [6] (fun i wr => ∃ (t ti : Nat) (S' : List TE), a + t = ti ∧ i = .int .i64 (ti : Int) ∧ 1 ≤ t ∧ (t ≤ S.length ∨ t = 1) ∧ S'.Perm (S.take t) ∧ S'.Pairwise (lexP ekey) ∧ Mm w1 wr bx g gv N cap rest (P ++ S' ++ (S.drop t ++ Q))) (fun i _ => b - (intOf i).toNat)
  case atStart =>
    refine ⟨1, a + 1, S.take 1, rfl, by go_num, Nat.le_refl _, .inr rfl, List.Perm.refl _, ?_, ?_⟩
    · rcases S with _ | ⟨x, S⟩
      · exact List.Pairwise.nil
      · exact List.pairwise_singleton _ _
    · have := H.out
      rw [List.append_assoc, ← List.append_assoc (S.take 1), List.take_append_drop, ← List.append_assoc]; exact this
  case round =>
    obtain ⟨t, ti, S', hti, rfl, ht1, htS, hperm, hsort, hpk⟩ := hrel
    have Hpk := Lib.hid hpk
    have Hperm := Lib.hid hperm
    have Hsort := Lib.hid hsort
    have Hti := Lib.hid hti
    clear hpk hperm hsort
    by_cases hlt : ti < b
    · have htl : t < S.length := by have := HS.out; omega
      have HSl : Hid (S'.length = t) := Lib.hid (by rw [Hperm.out.length_eq, List.length_take]; omega)
      have Htag : Hid (∀ y ∈ S', y.2 < S[t].2) := Lib.hid (fun y hy => by
        have h1 := Hperm.out.mem_iff.1 hy
        obtain ⟨i, hi, rfl⟩ := List.mem_iff_getElem.1 h1
        rw [List.length_take] at hi
        rw [List.getElem_take]
        exact List.pairwise_iff_getElem.1 HR.out i t (by omega) htl (by omega))
      have Hst : Hid (P ++ S' ++ (S.drop t ++ Q) = isL P S' S[t] (S.drop (t + 1) ++ Q) t) := Lib.hid (by
        unfold isL
        rw [List.drop_eq_getElem_cons htl, List.take_of_length_le (Nat.le_of_eq HSl.out), List.drop_of_length_le (Nat.le_of_eq HSl.out)]
        simp only [List.append_assoc, List.cons_append, List.nil_append])
      have Htk : Hid (S.take (t + 1) = S.take t ++ [S[t]]) := Lib.hid (List.take_succ_eq_append_getElem htl)
      rw [Hst.out] at Hpk
      generalize S[t] = x at *
      clear Hst
      go_wp2_with fail
      go_loopw [7] (fun j wr => ∃ (u uj : Nat), a + u = uj ∧ j = .int .i64 (uj : Int) ∧ u ≤ t ∧ (u = S'.length ∨ ∃ h : u < S'.length, x.1.1 < S'[u].1.1) ∧ Mm w1 wr bx g gv N cap rest (isL P S' x (S.drop (t + 1) ++ Q) u)) (fun j _ => (intOf j).toNat)
      case atStart => exact ⟨t, ti, Hti.out, rfl, Nat.le_refl _, .inl HSl.out.symm, Hpk.out⟩
      case round =>
        obtain ⟨u, uj, huj, rfl, hut, hux, hpk⟩ := hrel
        have Hux := Lib.hid hux
        have c0 := hpk.c0
        have c1 := hpk.c1
        unfold lessV at c0
        unfold swapV at c1
        clear hux
        rcases u with _ | u
        · have d0 : decide (a < uj) = false := by simp; omega
          have d1 : ¬ (a : Int) < (uj : Int) := by omega
          have Hpk2 := Lib.hid hpk
          have Huj := Lib.hid huj
          clear hpk huj
          have hpr : Hid (uj ≤ ti) := Lib.hid (by have := Huj.out; have := Hti.out; omega)
          go_wp2_with fail
          go_roundw
          case rel =>
            have a0 := HSl.out
            have hu0 : (0 : Nat) ≤ S'.length := Nat.zero_le _
            have hso := ins_sorted S' x 0 hu0 Hsort.out Htag.out (.inl rfl) Hux.out
            have hpe := ins_perm S' _ x 0 Hperm.out
            rw [← Htk.out] at hpe
            exact ⟨t + 1, ti + 1, _, by omega, by go_num, by omega, .inl (by omega), hpe, hso, by have := Hpk2.out; unfold isL at this; simpa only [List.append_assoc, List.cons_append] using this⟩
          case measure => simp [intOf]; omega
        · obtain ⟨jm, hjm⟩ : ∃ jm, a + u = jm := ⟨_, rfl⟩
          have hju : uj = jm + 1 := by omega
          have hul : u < S'.length := by rw [HSl.out]; omega
          rw [is_pre P S' x _ u hul] at hpk
          have hX : jm = (P ++ S'.take u).length := by rw [List.length_append, List.length_take, HP.out, HSl.out]; omega
          have hY : uj = (P ++ S'.take u).length + 1 + ([] : List TE).length := by rw [← hX, hju]; rfl
          have e1 : (uj : Int) - 1 = (jm : Int) := by omega
          have hw : IntKind.i64.wrap (jm : Int) = (jm : Int) := IntWalk.i64_in _ (by omega)
          have hpr : Hid (uj ≤ ti ∧ jm + 1 = uj ∧ a ≤ jm) := Lib.hid (by omega)
          have ha2 : (a : Int) < (uj : Int) := by omega
          have hpost := is_post P S' x (S.drop (t + 1) ++ Q) u hul
          have Hpk3 := Lib.hid hpk
          obtain ⟨y, hy⟩ : ∃ y, S'[u] = y := ⟨_, rfl⟩
          rw [hy] at hpost Hpk3
          have Hy : Hid (∀ h : u < S'.length, S'[u] = y) := Lib.hid (fun _ => hy)
          have Hpost := Lib.hid hpost
          have HX := Lib.hid hX
          have HY := Lib.hid hY
          have Huj : Hid (a + (u + 1) = uj ∧ a + u = jm) := Lib.hid ⟨huj, hjm⟩
          have HL := Lib.hid (Hpk3.out.less' HX.out HY.out)
          clear hy hpost hpk hX hY huj hjm hju
          by_cases hc : x.1.1 < y.1.1
          · have hb1 : decide (x.1.1 < y.1.1) = true := by simp [hc]
            rw [hb1] at HL
            clear hb1
            go_wp2_with fail
            refine (HL.out).mono ?_
            rintro e w3 ⟨rfl, hm3⟩
            have c1 := hm3.c1
            unfold swapV at c1
            obtain ⟨w9, hsw, hm9⟩ := hm3.swap' HX.out HY.out
            rw [← Hpost.out] at hm9
            have HM9 := Lib.hid hm9
            clear hm3 hm9 c0
            go_wp2_with fail
            go_roundw
            case rel => exact ⟨u, jm, Huj.out.2, rfl, by omega, .inr ⟨hul, by rw [Hy.out]; exact hc⟩, HM9.out⟩
            case measure => simp [intOf]; omega
          · have hb1 : decide (x.1.1 < y.1.1) = false := by simp; omega
            rw [hb1] at HL
            have Hold : Hid (∀ W, Mm w1 W bx g gv N cap rest (P ++ S'.take u ++ y :: ([] ++ x :: (S'.drop (u + 1) ++ (S.drop (t + 1) ++ Q)))) → Mm w1 W bx g gv N cap rest (isL P S' x (S.drop (t + 1) ++ Q) (u + 1))) := Lib.hid (fun W hW => by rw [is_pre P S' _ _ u hul, Hy.out]; exact hW)
            clear hb1
            go_wp2_with fail
            refine (HL.out).mono ?_
            rintro e w3 ⟨rfl, hm3⟩
            have HM3 := Lib.hid (Hold.out _ hm3)
            clear hm3 Hold
            go_wp2_with fail
            go_roundw
            case rel =>
              have a0 := HSl.out
              have hu0 : u + 1 ≤ S'.length := hul
              have hso := ins_sorted S' x (u + 1) hu0 Hsort.out Htag.out (.inr ⟨hul, by rw [show S'[u + 1 - 1] = S'[u] from rfl, Hy.out]; omega⟩) Hux.out
              have hpe := ins_perm S' _ x (u + 1) Hperm.out
              rw [← Htk.out] at hpe
              exact ⟨t + 1, ti + 1, _, by omega, by go_num, by omega, .inl (by omega), hpe, hso, by have := HM3.out; unfold isL at this; simpa only [List.append_assoc, List.cons_append] using this⟩
            case measure => simp [intOf]; omega
    · have hall : S.length ≤ t := by have := HS.out; omega
      have Hp1 : Hid (S'.Perm S) := Lib.hid (by have := Hperm.out; rwa [List.take_of_length_le hall] at this)
      have Hpk1 : Hid (Mm w1 wr bx g gv N cap rest (P ++ S' ++ Q)) := Lib.hid (by have := Hpk.out; rwa [List.drop_of_length_le hall, List.nil_append] at this)
      go_wp2_with fail
      go_end0
      exact ⟨rfl, ⟨S', Hpk1.out.pk, Hp1.out, Hsort.out⟩, (Hw1.out ▸ Hpk1.out : Mm (w.alloc _) _ _ _ _ _ _ _ _).done⟩
end Go.Proofs.YthpdcnjaodjjmaaGreat.Slc

/- sort.symMerge_func at rows of places: one ahead; one behind. -/
namespace Go.Proofs.YthpdcnjaodjjmaaGreat.Slc
open Go Go.RowKit Go.Proofs.YthpdcnjaodjjmaaGreat Go.Proofs.YthpdcnjaodjjmaaGreat.SP
set_option linter.unusedVariables false

theorem put_up (x : TE) (R : List TE) (t : Nat) (ht : t ≤ R.length) (hs : R.Pairwise (lexP ekey)) (htag : ∀ y ∈ R, x.2 < y.2) (h1 : t = 0 ∨ ∃ h : t - 1 < R.length, R[t - 1].1.1 < x.1.1) (h2 : t = R.length ∨ ∃ h : t < R.length, x.1.1 ≤ R[t].1.1) :
    (R.take t ++ x :: R.drop t).Pairwise (lexP ekey) := by
  refine put_sorted ekey x R t ht hs ?_ ?_
  · rcases h1 with h | ⟨h, k⟩
    · exact .inl h
    · exact .inr ⟨h, .inl k⟩
  · rcases h2 with h | ⟨h, k⟩
    · exact .inl h
    · refine .inr ⟨h, ?_⟩
      have := htag _ (List.getElem_mem h)
      unfold lexP ekey; omega
theorem up_at (P R Q : List TE) (x : TE) (k : Nat) (h : k < R.length) : P ++ [x] ++ (R ++ Q) = P ++ x :: (R.take k ++ R[k] :: (R.drop (k + 1) ++ Q)) := by
  have : R = R.take k ++ R[k] :: R.drop (k + 1) := by rw [← List.drop_eq_getElem_cons h, List.take_append_drop]
  conv => lhs; rw [this]
  simp only [List.append_assoc, List.cons_append, List.nil_append]
def upL (P R Q : List TE) (x : TE) (s : Nat) : List TE := (P ++ R.take s) ++ x :: (R.drop s ++ Q)
theorem up_pre (P R Q : List TE) (x : TE) (s : Nat) (h : s < R.length) : upL P R Q x s = (P ++ R.take s) ++ x :: ([] ++ R[s] :: (R.drop (s + 1) ++ Q)) := by
  unfold upL
  rw [List.drop_eq_getElem_cons h]
  simp only [List.cons_append, List.nil_append]
theorem up_post (P R Q : List TE) (x : TE) (s : Nat) (h : s < R.length) : upL P R Q x (s + 1) = (P ++ R.take s) ++ R[s] :: ([] ++ x :: (R.drop (s + 1) ++ Q)) := by
  unfold upL
  rw [List.take_succ_eq_append_getElem h]
  simp only [List.append_assoc, List.cons_append, List.nil_append]
set_option maxRecDepth 100000 in
set_option maxHeartbeats 8000000 in
theorem sym_up (g gv N cap a m b : Nat) (rest : List Value) (P R Q : List TE) (x : TE) (w : World) (h : PkAt w g rest (P ++ [x] ++ (R ++ Q))) (hv : Var w g gv N cap) (ha : P.length = a) (hm : a + 1 = m) (hb : m + R.length = b) (hR : 1 ≤ R.length)
    (hs : R.Pairwise (lexP ekey)) (htag : ∀ y ∈ R, x.2 < y.2) (hN : (P ++ [x] ++ (R ++ Q)).length = N) (hN2 : N ≤ 1000000) :
    Calls Tryz.prog 125 #[dataV g gv N cap, .int .i64 (a : Int), .int .i64 (m : Int), .int .i64 (b : Int)] w fun e w' => e = .returned (.tuple #[]) ∧ (∃ S', PkAt w' g rest (P ++ S' ++ Q) ∧ S'.Perm ([x] ++ R) ∧ S'.Pairwise (lexP ekey)) ∧ w.grownBy w' (some g) := by
  have hN3 : P.length + 1 + R.length + Q.length = N := by rw [← hN]; simp; omega
  have H := Lib.hid (Mm.start h hv hN hN2)
  have HP := Lib.hid ha
  have Hs := Lib.hid hs
  have Htag := Lib.hid htag
  have Hb := Lib.hid hb
  have hbN : b ≤ N := by omega
  have hmb : m < b := by omega
  have ham : a < m := by omega
  have e1 : (m : Int) - (a : Int) = 1 := by omega
  have Hm := Lib.hid hm
  clear h hN hN3 ha hs htag hb hm hR hv
  unfold dataV
  go_enter Tryz.func125, Tryz.ntmps125
  go_wp2_with fail
  generalize hw1 : w.alloc (.cells #[lessV gv, swapV g N cap] 177) = w1 at *
  generalize hbx : w.heap.size = bx at *
  have Hw1 := Lib.hid hw1
  clear hw1 hbx
  clear e1
  go_loopw [8, 9] (fun iv jv wr => ∃ i j : Nat, iv = .int .i64 (i : Int) ∧ jv = .int .i64 (j : Int) ∧ m ≤ i ∧ i ≤ j ∧ j ≤ b ∧ (i = m ∨ ∃ h : i - m - 1 < R.length, R[i - m - 1].1.1 < x.1.1) ∧ (j = b ∨ ∃ h : j - m < R.length, x.1.1 ≤ R[j - m].1.1) ∧
    Mm w1 wr bx g gv N cap rest (P ++ [x] ++ (R ++ Q))) (fun iv jv _ => (intOf jv - intOf iv).toNat)
  case atStart => exact ⟨m, b, rfl, rfl, Nat.le_refl _, by omega, Nat.le_refl _, .inl rfl, .inl rfl, H.out⟩
  case round =>
    obtain ⟨i, j, rfl, rfl, hmi, hij, hjb, hI, hJ, hpk⟩ := hrel
    have HI := Lib.hid hI
    have HJ := Lib.hid hJ
    clear hI hJ
    have c0 := hpk.c0
    unfold lessV at c0
    by_cases hlt : i < j
    · obtain ⟨q, hq⟩ : ∃ q, q = (i + j) / 2 := ⟨_, rfl⟩
      have hqi : i ≤ q := by omega
      have hqj : q < j := by omega
      have hql : q - m < R.length := by have := Hb.out; omega
      have Hat := Lib.hid (up_at P R Q x (q - m) hql)
      have HX : Hid (a = P.length) := Lib.hid HP.out.symm
      have HY : Hid (q = P.length + 1 + (R.take (q - m)).length) := Lib.hid (by rw [List.length_take, HP.out]; have := Hm.out; omega)
      obtain ⟨y, hy⟩ : ∃ y, R[q - m] = y := ⟨_, rfl⟩
      have Hy : Hid (∀ h : q - m < R.length, R[q - m] = y) := Lib.hid (fun _ => hy)
      rw [Hat.out, hy] at hpk
      have HL := Lib.hid (hpk.less' HX.out HY.out)
      have Hback : Hid (∀ W, Mm w1 W bx g gv N cap rest (P ++ x :: (R.take (q - m) ++ y :: (R.drop (q - m + 1) ++ Q))) → Mm w1 W bx g gv N cap rest (P ++ [x] ++ (R ++ Q))) := Lib.hid (fun W hW => by rw [Hat.out, hy]; exact hW)
      have e2 : ((i : Int) + (j : Int)) / 2 = (q : Int) := by omega
      clear hpk hy hq
      by_cases hc : y.1.1 < x.1.1
      · have hb1 : decide (y.1.1 < x.1.1) = true := by simp [hc]
        rw [hb1] at HL
        clear hb1
        go_wp2_with fail
        refine (HL.out).mono ?_
        rintro e w3 ⟨rfl, hm3⟩
        have HM3 := Lib.hid (Hback.out _ hm3)
        clear hm3
        go_wp2_with fail
        go_roundw
        case rel => exact ⟨q + 1, j, by go_num, rfl, by omega, by omega, hjb, .inr ⟨by omega, by
          have e9 : q + 1 - m - 1 = q - m := by omega
          have := Hy.out hql
          simp only [e9, this]; exact hc⟩, HJ.out, HM3.out⟩
        case measure => simp [intOf]; omega
      · have hb1 : decide (y.1.1 < x.1.1) = false := by simp; omega
        rw [hb1] at HL
        clear hb1
        go_wp2_with fail
        refine (HL.out).mono ?_
        rintro e w3 ⟨rfl, hm3⟩
        have HM3 := Lib.hid (Hback.out _ hm3)
        clear hm3
        go_wp2_with fail
        go_roundw
        case rel => exact ⟨i, q, rfl, rfl, hmi, hqi, by omega, HI.out, .inr ⟨hql, by rw [Hy.out hql]; omega⟩, HM3.out⟩
        case measure => simp [intOf]; omega
    · obtain rfl : i = j := by omega
      obtain ⟨t, ht⟩ : ∃ t, a + t = i - 1 := ⟨i - 1 - a, by have := Hm.out; omega⟩
      have htm : i - m = t := by have := Hm.out; omega
      have htR : t ≤ R.length := by have := Hb.out; omega
      have hso : (R.take t ++ x :: R.drop t).Pairwise (lexP ekey) := by
        refine put_up _ R t htR Hs.out Htag.out ?_ ?_
        · rcases HI.out with h | ⟨h, k⟩
          · left; omega
          · right; simp only [htm] at h k; exact ⟨h, k⟩
        · rcases HJ.out with h | ⟨h, k⟩
          · left; have := Hb.out; omega
          · right; simp only [htm] at h k; exact ⟨h, k⟩
      have Hso := Lib.hid hso
      have Hpk : Hid (Mm w1 wr bx g gv N cap rest (upL P R Q x 0)) := Lib.hid (by
        have e : upL P R Q x 0 = P ++ [x] ++ (R ++ Q) := by simp [upL]
        rw [e]; exact hpk)
      have Hfin : Hid (upL P R Q x t = P ++ (R.take t ++ x :: R.drop t) ++ Q) := Lib.hid (by unfold upL; simp only [List.append_assoc, List.cons_append])
      have Hpe : Hid ((R.take t ++ x :: R.drop t).Perm ([x] ++ R)) := Lib.hid (put_perm _ R t)
      have Ht := Lib.hid ht
      obtain ⟨i1, hi1⟩ : ∃ i1, i = i1 + 1 := ⟨i - 1, by omega⟩
      have e3 : (i : Int) - 1 = (i1 : Int) := by omega
      have Hi1 : Hid (a + t = i1) := Lib.hid (by omega)
      have hi1N : i1 < N := by omega
      clear hpk hso ht htm HI HJ hi1 c0
      go_wp2_with fail
      go_loopw [11] (fun kv wr => ∃ s k : Nat, kv = .int .i64 (k : Int) ∧ a + s = k ∧ s ≤ t ∧ Mm w1 wr bx g gv N cap rest (upL P R Q x s)) (fun kv _ => i1 - (intOf kv).toNat)
      case atStart => exact ⟨0, a, rfl, rfl, Nat.zero_le _, Hpk.out⟩
      case round =>
        obtain ⟨s, k, rfl, hk, hst, hpk⟩ := hrel
        have Hk := Lib.hid hk
        have c1 := hpk.c1
        unfold swapV at c1
        by_cases hlt : k < i1
        · have hsl : s < R.length := by have := Hi1.out; omega
          have HX : Hid (k = (P ++ R.take s).length) := Lib.hid (by rw [List.length_append, List.length_take, HP.out]; omega)
          have HY : Hid (k + 1 = (P ++ R.take s).length + 1 + ([] : List TE).length) := Lib.hid (by rw [← HX.out]; rfl)
          rw [up_pre P R Q _ s hsl] at hpk
          have hpost := up_post P R Q x s hsl
          obtain ⟨w9, hsw, hm9⟩ := hpk.swap HX.out HY.out
          rw [← hpost] at hm9
          have HM9 := Lib.hid hm9
          have q1 : ((k + 1 : Nat) : Int) = (k : Int) + 1 := by omega
          rw [q1] at hsw
          clear hpk hpost hm9 q1
          go_wp2_with fail
          go_roundw
          case rel => exact ⟨s + 1, k + 1, by go_num, by have := Hk.out; omega, by have := Hi1.out; omega, HM9.out⟩
          case measure => simp [intOf]; omega
        · obtain rfl : s = t := by have := Hi1.out; omega
          obtain rfl : k = i1 := by have := Hi1.out; omega
          rw [Hfin.out] at hpk
          have Hpk2 := Lib.hid hpk
          clear hpk
          go_wp2_with fail
          refine bodyPost_ret (results_none rfl _ _ _) rfl ?_
          exact ⟨rfl, ⟨_, Hpk2.out.pk, Hpe.out, Hso.out⟩, (Hw1.out ▸ Hpk2.out : Mm (w.alloc _) _ _ _ _ _ _ _ _).done⟩
theorem dn_at (P L Q : List TE) (x : TE) (k : Nat) (h : k < L.length) : P ++ L ++ ([x] ++ Q) = (P ++ L.take k) ++ L[k] :: (L.drop (k + 1) ++ x :: Q) := by
  have : L = L.take k ++ L[k] :: L.drop (k + 1) := by rw [← List.drop_eq_getElem_cons h, List.take_append_drop]
  conv => lhs; rw [this]
  simp only [List.append_assoc, List.cons_append, List.nil_append]
set_option maxRecDepth 100000 in
set_option maxHeartbeats 8000000 in
theorem sym_dn (g gv N cap a m b : Nat) (rest : List Value) (P L Q : List TE) (x : TE) (w : World) (h : PkAt w g rest (P ++ L ++ ([x] ++ Q))) (hv : Var w g gv N cap) (ha : P.length = a) (hm : a + L.length = m) (hb : m + 1 = b) (hR : 2 ≤ L.length)
    (hs : L.Pairwise (lexP ekey)) (htag : ∀ y ∈ L, y.2 < x.2) (hN : (P ++ L ++ ([x] ++ Q)).length = N) (hN2 : N ≤ 1000000) :
    Calls Tryz.prog 125 #[dataV g gv N cap, .int .i64 (a : Int), .int .i64 (m : Int), .int .i64 (b : Int)] w fun e w' => e = .returned (.tuple #[]) ∧ (∃ S', PkAt w' g rest (P ++ S' ++ Q) ∧ S'.Perm (L ++ [x]) ∧ S'.Pairwise (lexP ekey)) ∧ w.grownBy w' (some g) := by
  have hN3 : P.length + L.length + 1 + Q.length = N := by rw [← hN]; simp; omega
  have H := Lib.hid (Mm.start h hv hN hN2)
  have HP := Lib.hid ha
  have Hs := Lib.hid hs
  have Htag := Lib.hid htag
  have hbN : b ≤ N := by omega
  have hmb : m < b := by omega
  have ham : a < m := by omega
  have e1 : (m : Int) - (a : Int) = ((L.length : Nat) : Int) := by omega
  have e0 : (((L.length : Nat) : Int) == 1) = false := by simp; omega
  have e2 : (b : Int) - (m : Int) = 1 := by omega
  have Hm := Lib.hid hm
  clear h hN hN3 ha hs htag hb hm hR hv
  generalize hll : L.length = ll at *
  have Hll := Lib.hid hll
  clear hll
  unfold dataV
  go_enter Tryz.func125, Tryz.ntmps125
  go_wp2_with fail
  generalize hw1 : w.alloc (.cells #[lessV gv, swapV g N cap] 177) = w1 at *
  generalize hbx : w.heap.size = bx at *
  have Hw1 := Lib.hid hw1
  clear hw1 hbx
  clear e1 e0 e2
  go_loopw [12, 13] (fun iv jv wr => ∃ i j : Nat, iv = .int .i64 (i : Int) ∧ jv = .int .i64 (j : Int) ∧ a ≤ i ∧ i ≤ j ∧ j ≤ m ∧ (i = a ∨ ∃ h : i - a - 1 < L.length, L[i - a - 1].1.1 ≤ x.1.1) ∧ (j = m ∨ ∃ h : j - a < L.length, x.1.1 < L[j - a].1.1) ∧
    Mm w1 wr bx g gv N cap rest (P ++ L ++ ([x] ++ Q))) (fun iv jv _ => (intOf jv - intOf iv).toNat)
  case atStart => exact ⟨a, m, rfl, rfl, Nat.le_refl _, by omega, Nat.le_refl _, .inl rfl, .inl rfl, H.out⟩
  case round =>
    obtain ⟨i, j, rfl, rfl, hmi, hij, hjb, hI, hJ, hpk⟩ := hrel
    have HI := Lib.hid hI
    have HJ := Lib.hid hJ
    clear hI hJ
    have c0 := hpk.c0
    unfold lessV at c0
    by_cases hlt : i < j
    · obtain ⟨q, hq⟩ : ∃ q, q = (i + j) / 2 := ⟨_, rfl⟩
      have hqi : i ≤ q := by omega
      have hqj : q < j := by omega
      have hql : q - a < L.length := by have := Hm.out; have := Hll.out; omega
      have Hat := Lib.hid (dn_at P L Q x (q - a) hql)
      have HX : Hid (q = (P ++ L.take (q - a)).length) := Lib.hid (by rw [List.length_append, List.length_take, HP.out]; omega)
      have HY : Hid (m = (P ++ L.take (q - a)).length + 1 + (L.drop (q - a + 1)).length) := Lib.hid (by rw [← HX.out, List.length_drop]; have := Hm.out; have := Hll.out; omega)
      obtain ⟨y, hy⟩ : ∃ y, L[q - a] = y := ⟨_, rfl⟩
      have Hy : Hid (∀ h : q - a < L.length, L[q - a] = y) := Lib.hid (fun _ => hy)
      rw [Hat.out, hy] at hpk
      have HL := Lib.hid (hpk.less' HX.out HY.out)
      have Hback : Hid (∀ W, Mm w1 W bx g gv N cap rest (P ++ L.take (q - a) ++ y :: (L.drop (q - a + 1) ++ x :: Q)) → Mm w1 W bx g gv N cap rest (P ++ L ++ ([x] ++ Q))) := Lib.hid (fun W hW => by rw [Hat.out, hy]; exact hW)
      have e2 : ((i : Int) + (j : Int)) / 2 = (q : Int) := by omega
      clear hpk hy hq
      by_cases hc : x.1.1 < y.1.1
      · have hb1 : decide (x.1.1 < y.1.1) = true := by simp [hc]
        rw [hb1] at HL
        clear hb1
        go_wp2_with fail
        refine (HL.out).mono ?_
        rintro e w3 ⟨rfl, hm3⟩
        have HM3 := Lib.hid (Hback.out _ hm3)
        clear hm3
        go_wp2_with fail
        go_roundw
        case rel => exact ⟨i, q, rfl, rfl, hmi, hqi, by omega, HI.out, .inr ⟨hql, by rw [Hy.out hql]; exact hc⟩, HM3.out⟩
        case measure => simp [intOf]; omega
      · have hb1 : decide (x.1.1 < y.1.1) = false := by simp; omega
        rw [hb1] at HL
        clear hb1
        go_wp2_with fail
        refine (HL.out).mono ?_
        rintro e w3 ⟨rfl, hm3⟩
        have HM3 := Lib.hid (Hback.out _ hm3)
        clear hm3
        go_wp2_with fail
        go_roundw
        case rel => exact ⟨q + 1, j, by go_num, rfl, by omega, by omega, hjb, .inr ⟨by omega, by
          have e9 : q + 1 - a - 1 = q - a := by omega
          have := Hy.out hql
          simp only [e9, this]; omega⟩, HJ.out, HM3.out⟩
        case measure => simp [intOf]; omega
    · obtain rfl : i = j := by omega
      obtain ⟨t, ht⟩ : ∃ t, a + t = i := ⟨i - a, by omega⟩
      have htm : i - a = t := by omega
      have htR : t ≤ L.length := by have := Hm.out; have := Hll.out; omega
      have hso : (L.take t ++ x :: L.drop t).Pairwise (lexP ekey) := by
        refine ins_sorted L _ t htR Hs.out Htag.out ?_ ?_
        · rcases HI.out with h | ⟨h, k⟩
          · left; omega
          · right; simp only [htm] at h k; exact ⟨h, k⟩
        · rcases HJ.out with h | ⟨h, k⟩
          · left; have := Hm.out; have := Hll.out; omega
          · right; simp only [htm] at h k; exact ⟨h, k⟩
      have Hso := Lib.hid hso
      have Hpk : Hid (Mm w1 wr bx g gv N cap rest (isL P L x Q L.length)) := Lib.hid (by
        have e : isL P L x Q L.length = P ++ L ++ ([x] ++ Q) := by simp [isL]
        rw [e]; exact hpk)
      have Hfin : Hid (isL P L x Q t = P ++ (L.take t ++ x :: L.drop t) ++ Q) := Lib.hid (by unfold isL; simp only [List.append_assoc, List.cons_append])
      have Hpe : Hid ((L.take t ++ x :: L.drop t).Perm (L ++ [x])) := Lib.hid (ins_perm L L _ t (List.Perm.refl _))
      have Ht := Lib.hid ht
      clear hpk hso ht htm HI HJ c0
      go_wp2_with fail
      go_loopw [15] (fun kv wr => ∃ s k : Nat, kv = .int .i64 (k : Int) ∧ a + s = k ∧ t ≤ s ∧ s ≤ L.length ∧ Mm w1 wr bx g gv N cap rest (isL P L x Q s)) (fun kv _ => (intOf kv).toNat)
      case atStart => exact ⟨L.length, m, rfl, by rw [Hll.out]; exact Hm.out, htR, Nat.le_refl _, Hpk.out⟩
      case round =>
        obtain ⟨s, k, rfl, hk, hst, hsL, hpk⟩ := hrel
        have c1 := hpk.c1
        unfold swapV at c1
        by_cases hlt : i < k
        · rcases s with _ | s
          · exfalso; have := Ht.out; omega
          obtain ⟨k1, hk1⟩ : ∃ k1, a + s = k1 := ⟨_, rfl⟩
          have hsl : s < L.length := by omega
          have Hk : Hid (k = k1 + 1 ∧ a + s = k1) := Lib.hid (by omega)
          have e4 : (k : Int) - 1 = (k1 : Int) := by omega
          have HX : Hid (k1 = (P ++ L.take s).length) := Lib.hid (by rw [List.length_append, List.length_take, HP.out]; omega)
          have HY : Hid (k = (P ++ L.take s).length + 1 + ([] : List TE).length) := Lib.hid (by rw [← HX.out]; exact Hk.out.1)
          rw [is_pre P L _ Q s hsl] at hpk
          have hpost := is_post P L x Q s hsl
          obtain ⟨w9, hsw, hm9⟩ := hpk.swap' HX.out HY.out
          rw [← hpost] at hm9
          have HM9 := Lib.hid hm9
          have hw : IntKind.i64.wrap (k1 : Int) = (k1 : Int) := IntWalk.i64_in _ (by have := Hm.out; have := Hll.out; omega)
          clear hpk hpost hk hk1 hm9
          go_wp2_with fail
          go_roundw
          case rel => exact ⟨s, k1, rfl, Hk.out.2, by have := Ht.out; have := Hk.out; omega, by omega, HM9.out⟩
          case measure => have := Hk.out; simp [intOf]; omega
        · obtain rfl : s = t := by have := Ht.out; omega
          obtain rfl : k = i := by have := Ht.out; omega
          rw [Hfin.out] at hpk
          have Hpk2 := Lib.hid hpk
          clear hpk hk
          go_wp2_with fail
          refine bodyPost_ret (results_none rfl _ _ _) rfl ?_
          exact ⟨rfl, ⟨_, Hpk2.out.pk, Hpe.out, Hso.out⟩, (Hw1.out ▸ Hpk2.out : Mm (w.alloc _) _ _ _ _ _ _ _ _).done⟩
end Go.Proofs.YthpdcnjaodjjmaaGreat.Slc

/- sort.symMerge_func at rows of places. -/
namespace Go.Proofs.YthpdcnjaodjjmaaGreat.Slc
open Go Go.RowKit Go.Proofs.YthpdcnjaodjjmaaGreat Go.Proofs.YthpdcnjaodjjmaaGreat.SP
set_option linter.unusedVariables false

/-- symMerge does what it should, of at most F -/
def SymAt (F : Nat) : Prop := ∀ (g gv N cap a m b : Nat) (rest : List Value) (P L R Q : List TE) (w : World), L.length + R.length ≤ F → PkAt w g rest (P ++ L ++ (R ++ Q)) → Var w g gv N cap → P.length = a → a + L.length = m → m + R.length = b → 1 ≤ L.length → 1 ≤ R.length →
    L.Pairwise (lexP ekey) → R.Pairwise (lexP ekey) → (∀ x ∈ L, ∀ y ∈ R, x.2 < y.2) → (P ++ L ++ (R ++ Q)).length = N → N ≤ 1000000 →
    Calls Tryz.prog 125 #[.agg #[lessV gv, swapV g N cap], .int .i64 (a : Int), .int .i64 (m : Int), .int .i64 (b : Int)] w fun e w' => e = .returned (.tuple #[]) ∧ (∃ S', PkAt w' g rest (P ++ S' ++ Q) ∧ S'.Perm (L ++ R) ∧ S'.Pairwise (lexP ekey)) ∧ w.grownBy w' (some g)
theorem md_at (P L R Q : List TE) (k l : Nat) (h : k < L.length) (h2 : l < R.length) : P ++ L ++ (R ++ Q) = (P ++ L.take k) ++ L[k] :: ((L.drop (k + 1) ++ R.take l) ++ R[l] :: (R.drop (l + 1) ++ Q)) := by
  have e1 : L = L.take k ++ L[k] :: L.drop (k + 1) := by rw [← List.drop_eq_getElem_cons h, List.take_append_drop]
  have e2 : R = R.take l ++ R[l] :: R.drop (l + 1) := by rw [← List.drop_eq_getElem_cons h2, List.take_append_drop]
  conv => lhs; rw [e1, e2]
  simp only [List.append_assoc, List.cons_append]
theorem md_done (L1 L2 R1 R2 M1 M2 : List TE) (p1 : M1.Perm (L1 ++ R1)) (p2 : M2.Perm (L2 ++ R2)) (s1 : M1.Pairwise (lexP ekey)) (s2 : M2.Pairwise (lexP ekey)) (hh : ∀ x ∈ L1 ++ R1, ∀ y ∈ L2 ++ R2, lexP ekey x y) :
    (M1 ++ M2).Perm ((L1 ++ L2) ++ (R1 ++ R2)) ∧ (M1 ++ M2).Pairwise (lexP ekey) := by
  refine ⟨(p1.append p2).trans ?_, join_sorted M1 M2 _ _ p1 p2 s1 s2 hh⟩
  simp only [List.append_assoc]
  exact List.Perm.append_left L1 (List.perm_append_comm_assoc R1 L2 R2)
set_option maxRecDepth 100000 in
set_option maxHeartbeats 8000000 in
theorem sym_mid (F : Nat) (ih : SymAt F) (g gv N cap a m b : Nat) (rest : List Value) (P L R Q : List TE) (w : World) (hF : L.length + R.length ≤ F + 1) (h : PkAt w g rest (P ++ L ++ (R ++ Q))) (hv : Var w g gv N cap) (ha : P.length = a) (hm : a + L.length = m) (hb : m + R.length = b) (hL : 2 ≤ L.length) (hR : 2 ≤ R.length)
    (hsL : L.Pairwise (lexP ekey)) (hsR : R.Pairwise (lexP ekey)) (htag : ∀ x ∈ L, ∀ y ∈ R, x.2 < y.2) (hN : (P ++ L ++ (R ++ Q)).length = N) (hN2 : N ≤ 1000000) :
    Calls Tryz.prog 125 #[.agg #[lessV gv, swapV g N cap], .int .i64 (a : Int), .int .i64 (m : Int), .int .i64 (b : Int)] w fun e w' => e = .returned (.tuple #[]) ∧ (∃ S', PkAt w' g rest (P ++ S' ++ Q) ∧ S'.Perm (L ++ R) ∧ S'.Pairwise (lexP ekey)) ∧ w.grownBy w' (some g) := by
  have hN3 : P.length + L.length + R.length + Q.length = N := by rw [← hN]; simp; omega
  have HN3 := Lib.hid hN3
  have Ih := Lib.hid ih
  have HF := Lib.hid hF
  have H := Lib.hid (Mm.start h hv hN hN2)
  have HP := Lib.hid ha
  have HsL := Lib.hid hsL
  have HsR := Lib.hid hsR
  have Htag := Lib.hid htag
  have hbN : b ≤ N := by omega
  have hmb : m + 2 ≤ b := by omega
  have ham : a + 2 ≤ m := by omega
  have e1 : (m : Int) - (a : Int) = ((L.length : Nat) : Int) := by omega
  have e0 : (((L.length : Nat) : Int) == 1) = false := by simp; omega
  have e2 : (b : Int) - (m : Int) = ((R.length : Nat) : Int) := by omega
  have e3 : (((R.length : Nat) : Int) == 1) = false := by simp; omega
  obtain ⟨mid, hmid⟩ : ∃ mid, mid = (a + b) / 2 := ⟨_, rfl⟩
  have e4 : ((a : Int) + (b : Int)) / 2 = (mid : Int) := by omega
  obtain ⟨n, hn⟩ : ∃ n, n = mid + m := ⟨_, rfl⟩
  have e5 : (mid : Int) + (m : Int) = (n : Int) := by omega
  obtain ⟨p, hp⟩ : ∃ p, n = p + 1 := ⟨n - 1, by omega⟩
  have e6 : (n : Int) - 1 = (p : Int) := by omega
  have Hmid : Hid (a + b = 2 * mid ∨ a + b = 2 * mid + 1) := Lib.hid (by omega)
  have Hn := Lib.hid hn
  have Hp := Lib.hid hp
  have Hm := Lib.hid hm
  have Hb := Lib.hid hb
  have hnN : n ≤ 2000000 := by omega
  have hpN : p ≤ 2000000 := by omega
  have hmN : mid ≤ 1000000 := by omega
  clear h hv hN hN3 ha hsL hsR htag hb hm hL hR hmid hn hp ih hF
  generalize hll : L.length = ll at *
  have Hll := Lib.hid hll
  generalize hrl : R.length = rl at *
  have Hrl := Lib.hid hrl
  clear hll hrl
  go_enter Tryz.func125, Tryz.ntmps125
  go_upto_if 106 with fail
  generalize hw1 : w.alloc (.cells #[lessV gv, swapV g N cap] 177) = w1 at *
  generalize hbx : w.heap.size = bx at *
  have Hw1 := Lib.hid hw1
  clear hw1 hbx
  clear e1 e0 e2 e3
  go_cut [18, 19] from 95 to 114 (fun sv rv wx => ∃ s r : Nat, sv = .int .i64 (s : Int) ∧ rv = .int .i64 (r : Int) ∧ a ≤ s ∧ n ≤ s + b ∧ s ≤ r ∧ r ≤ m ∧ r ≤ mid ∧ (s = a ∨ s + b = n) ∧ (r = m ∨ r = mid) ∧ wx = w1)
  case first =>
    by_cases hmm : mid < m
    · have e7 : (n : Int) - (b : Int) = ((n - b : Nat) : Int) := by have := Hmid.out; have := Hn.out; omega
      have Hnb : Hid (n - b + b = n) := Lib.hid (by have := Hmid.out; have := Hn.out; omega)
      generalize n - b = nb at *
      go_wp2_with fail
      go_meet
      case rel => exact ⟨nb, mid, rfl, rfl, by have := Hmid.out; have := Hn.out; have := Hnb.out; omega, by have := Hnb.out; omega, by have := Hmid.out; have := Hn.out; have := Hnb.out; omega, by omega, Nat.le_refl _, .inr Hnb.out, .inr rfl, rfl⟩
    · go_wp2_with fail
      go_meet
      case rel => exact ⟨a, m, rfl, rfl, Nat.le_refl _, by have := Hmid.out; have := Hn.out; omega, by omega, Nat.le_refl _, by omega, .inl rfl, .inl rfl, rfl⟩
  case rest =>
    obtain ⟨s0, r0, rfl, rfl, k1, k2, k3, k4, k5, k6, k7, hw⟩ := hcut
    have hw := hw.symm
    subst hw
    go_wp2_with fail
    go_loopw [18, 19] (fun sv rv wr => ∃ s r : Nat, sv = .int .i64 (s : Int) ∧ rv = .int .i64 (r : Int) ∧ s0 ≤ s ∧ s ≤ r ∧ r ≤ r0 ∧ (s = s0 ∨ ∃ (h1 : s - 1 - a < L.length) (h2 : n - s - m < R.length), L[s - 1 - a].1.1 ≤ R[n - s - m].1.1) ∧
      (r = r0 ∨ ∃ (h1 : r - a < L.length) (h2 : n - 1 - r - m < R.length), R[n - 1 - r - m].1.1 < L[r - a].1.1) ∧ Mm w1 wr bx g gv N cap rest (P ++ L ++ (R ++ Q))) (fun sv rv _ => (intOf rv - intOf sv).toNat)
    case atStart => exact ⟨s0, r0, rfl, rfl, Nat.le_refl _, k3, Nat.le_refl _, .inl rfl, .inl rfl, H.out⟩
    case round =>
      obtain ⟨s, r, rfl, rfl, hs0, hsr, hr0, hI, hJ, hpk⟩ := hrel
      have HI := Lib.hid hI
      have HJ := Lib.hid hJ
      have c0 := hpk.c0
      have c1 := hpk.c1
      have Hpk := Lib.hid hpk
      clear hI hJ
      by_cases hlt : s < r
      · obtain ⟨q, hq⟩ : ∃ q, q = (s + r) / 2 := ⟨_, rfl⟩
        have hqi : s ≤ q := by omega
        have hqj : q < r := by omega
        obtain ⟨z, hz⟩ : ∃ z, z = p - q := ⟨_, rfl⟩
        have hzp : z + q + 1 = n := by have := Hp.out; omega
        have hmz : m ≤ z := by have := Hn.out; omega
        have hzb : z < b := by omega
        have hql : q - a < L.length := by have := Hm.out; have := Hll.out; omega
        have hzl : z - m < R.length := by have := Hb.out; have := Hrl.out; omega
        have Hat := Lib.hid (md_at P L R Q (q - a) (z - m) hql hzl)
        have HX : Hid (q = (P ++ L.take (q - a)).length) := Lib.hid (by rw [List.length_append, List.length_take, HP.out]; omega)
        have HY : Hid (z = (P ++ L.take (q - a)).length + 1 + (L.drop (q - a + 1) ++ R.take (z - m)).length) := Lib.hid (by rw [← HX.out, List.length_append, List.length_drop, List.length_take]; have := Hm.out; have := Hll.out; have := Hrl.out; omega)
        obtain ⟨x, hx⟩ : ∃ x, L[q - a] = x := ⟨_, rfl⟩
        obtain ⟨y, hy⟩ : ∃ y, R[z - m] = y := ⟨_, rfl⟩
        have Hx : Hid (∀ h : q - a < L.length, L[q - a] = x) := Lib.hid (fun _ => hx)
        have Hy : Hid (∀ h : z - m < R.length, R[z - m] = y) := Lib.hid (fun _ => hy)
        rw [Hat.out, hx, hy] at hpk
        have HLs := Lib.hid (hpk.less' HX.out HY.out)
        have Hback : Hid (∀ W, Mm w1 W bx g gv N cap rest (P ++ L.take (q - a) ++ x :: (L.drop (q - a + 1) ++ R.take (z - m) ++ y :: (R.drop (z - m + 1) ++ Q))) → Mm w1 W bx g gv N cap rest (P ++ L ++ (R ++ Q))) := Lib.hid (fun W hW => by rw [Hat.out, hx, hy]; exact hW)
        have e2 : ((s : Int) + (r : Int)) / 2 = (q : Int) := by omega
        have e3 : (p : Int) - (q : Int) = (z : Int) := by omega
        have hw : IntKind.i64.wrap (z : Int) = (z : Int) := IntWalk.i64_in _ (by omega)
        have Hz : Hid (n - (q + 1) - m = z - m ∧ n - 1 - q - m = z - m ∧ q + 1 - 1 - a = q - a) := Lib.hid (by omega)
        unfold lessV at c0
        clear hpk hx hy hq hz c1
        by_cases hc : y.1.1 < x.1.1
        · have hb1 : decide (y.1.1 < x.1.1) = true := by simp [hc]
          rw [hb1] at HLs
          clear hb1
          go_wp2_with fail
          refine (HLs.out).mono ?_
          rintro e w3 ⟨rfl, hm3⟩
          have HM3 := Lib.hid (Hback.out _ hm3)
          clear hm3
          go_wp2_with fail
          go_roundw
          case rel => exact ⟨s, q, rfl, rfl, hs0, hqi, by omega, HI.out, .inr ⟨hql, by rw [Hz.out.2.1]; exact hzl, by
            have a1 := Hz.out.2.1
            have a2 := Hy.out hzl
            have a3 := Hx.out hql
            simp only [a1, a2, a3]; exact hc⟩, HM3.out⟩
          case measure => simp [intOf]; omega
        · have hb1 : decide (y.1.1 < x.1.1) = false := by simp; omega
          rw [hb1] at HLs
          clear hb1
          go_wp2_with fail
          refine (HLs.out).mono ?_
          rintro e w3 ⟨rfl, hm3⟩
          have HM3 := Lib.hid (Hback.out _ hm3)
          clear hm3
          go_wp2_with fail
          go_roundw
          case rel => exact ⟨q + 1, r, by go_num, rfl, by omega, by omega, hr0, .inr ⟨by rw [Hz.out.2.2]; exact hql, by rw [Hz.out.1]; exact hzl, by
            have a1 := Hz.out.1
            have a4 := Hz.out.2.2
            have a2 := Hy.out hzl
            have a3 := Hx.out hql
            simp only [a1, a4, a2, a3]; omega⟩, HJ.out, HM3.out⟩
          case measure => simp [intOf]; omega
      · obtain rfl : s = r := by omega
        have hh1 : s - a = 0 ∨ mid - s = R.length ∨ ∃ (h1 : s - a - 1 < L.length) (h2 : mid - s < R.length), lexP ekey L[s - a - 1] R[mid - s] := by
          rcases HI.out with h | ⟨h1, h2, h3⟩
          · rcases k6 with k | k
            · left; omega
            · right; left; have := Hn.out; have := Hb.out; have := Hrl.out; omega
          · right; right
            have a1 : s - a - 1 = s - 1 - a := by omega
            have a2 : mid - s = n - s - m := by have := Hn.out; omega
            simp only [a1, a2]
            refine ⟨h1, h2, ?_⟩
            have := Htag.out _ (List.getElem_mem h1) _ (List.getElem_mem h2)
            unfold lexP ekey; omega
        have hh2 : mid - s = 0 ∨ s - a = L.length ∨ ∃ (h1 : mid - s - 1 < R.length) (h2 : s - a < L.length), lexP ekey R[mid - s - 1] L[s - a] := by
          rcases HJ.out with h | ⟨h1, h2, h3⟩
          · rcases k7 with k | k
            · right; left; have := Hm.out; have := Hll.out; omega
            · left; omega
          · right; right
            have a2 : mid - s - 1 = n - 1 - s - m := by have := Hn.out; omega
            simp only [a2]
            exact ⟨h2, h1, .inl h3⟩
        have hhalf := halves (le := lexP ekey) (fun a b c => lexP_trans ekey a b c) L R (s - a) (mid - s) (by have := Hm.out; have := Hll.out; omega) (by have := Hn.out; have := Hb.out; have := Hrl.out; omega) HsL.out HsR.out hh1 hh2
        have hL : L = L.take (s - a) ++ L.drop (s - a) := (List.take_append_drop _ _).symm
        have hR : R = R.take (mid - s) ++ R.drop (mid - s) := (List.take_append_drop _ _).symm
        have l1 : (L.take (s - a)).length = s - a := by rw [List.length_take]; have := Hm.out; have := Hll.out; omega
        have l2 : (L.drop (s - a)).length = m - s := by rw [List.length_drop]; have := Hm.out; have := Hll.out; omega
        have l3 : (R.take (mid - s)).length = mid - s := by rw [List.length_take]; have := Hn.out; have := Hb.out; have := Hrl.out; omega
        have l4 : (R.drop (mid - s)).length = b - (n - s) := by rw [List.length_drop]; have := Hn.out; have := Hb.out; have := Hrl.out; omega
        generalize L.take (s - a) = L1 at *
        generalize L.drop (s - a) = L2 at *
        generalize R.take (mid - s) = R1 at *
        generalize R.drop (mid - s) = R2 at *
        obtain ⟨en, hen⟩ : ∃ en, en = n - s := ⟨_, rfl⟩
        have e8 : (n : Int) - (s : Int) = (en : Int) := by omega
        rw [← hen] at l4
        have Hen : Hid (en = m + (mid - s)) := Lib.hid (by have := Hn.out; omega)
        have Hl1 := Lib.hid l1
        have Hl2 := Lib.hid l2
        have Hl3 := Lib.hid l3
        have Hl4 := Lib.hid l4
        have HL := Lib.hid hL
        have HR := Lib.hid hR
        have Hhalf := Lib.hid hhalf
        have hsas : a ≤ s := by omega
        have hsm : s ≤ m := by omega
        have hsmid : s ≤ mid := by omega
        have henb : en ≤ b := by have := Hen.out; have := Hn.out; omega
        have henm : m ≤ en := by have := Hen.out; omega
        clear hh1 hh2 hhalf hL hR l1 l2 l3 l4 hen HI HJ k1 k2 k3 k4 k5 k6 k7 hpk
        have hpk5 : Mm w1 wr bx g gv N cap rest ((P ++ L1) ++ L2 ++ (R1 ++ (R2 ++ Q))) := by
          have := Hpk.out
          rw [HL.out, HR.out] at this
          simpa only [List.append_assoc] using this
        have Hpk5 := Lib.hid hpk5
        have HNN : Hid (((P ++ L1) ++ L2 ++ (R1 ++ (R2 ++ Q))).length = N) := Lib.hid (by
          have h1 := HN3.out; have h2 := congrArg List.length HL.out; have h3 := congrArg List.length HR.out; have h4 := Hll.out; have h5 := Hrl.out
          simp only [List.length_append] at h2 h3 ⊢
          omega)
        have Hp1 : Hid ((P ++ L1).length = s) := Lib.hid (by rw [List.length_append, HP.out, Hl1.out]; omega)
        clear hpk5 Hpk H
        go_upto_region 40 with fail
        clear e8
        go_cut [145] from 113 to 145 (fun v wx => v = .bool (decide (s < m ∧ m < en)) ∧ wx = wr)
        case first =>
          by_cases a1 : s < m
          · by_cases a2 : m < en
            · go_wp2_with fail
              go_meet
              case rel => exact ⟨by simp [a1, a2], rfl⟩
            · go_wp2_with fail
              go_meet
              case rel => exact ⟨by simp [a2], rfl⟩
          · go_wp2_with fail
            go_meet
            case rel => exact ⟨by simp [a1], rfl⟩
        case rest =>
          obtain ⟨rfl, hw⟩ := hcut
          have hw := hw.symm
          subst hw
          go_upto_if 145 with fail
          go_cut [18] from 138 to 150 (fun v wx => v = .int .i64 (s : Int) ∧ Mm w1 wx bx g gv N cap rest (P ++ L1 ++ (R1 ++ (L2 ++ (R2 ++ Q)))))
          case first =>
            by_cases hr : s < m ∧ m < en
            · rw [decide_eq_true hr]
              go_wp2_with fail
              refine (rotate_any g gv N cap s m en rest (P ++ L1) L2 R1 (R2 ++ Q) wr Hpk5.out.pk Hpk5.out.var Hp1.out (by rw [Hl2.out]; omega) (by rw [Hl3.out]; exact Hen.out.symm) (by rw [Hl2.out]; omega) (by rw [Hl3.out]; have := Hen.out; omega) HNN.out hN2).mono ?_
              rintro e w5 ⟨rfl, hp5, hg5⟩
              have Hp5 := Lib.hid (Hpk5.out.more hg5 hp5 (by simp only [List.length_append]; omega))
              clear hp5 hg5
              go_wp2_with fail
              go_meet
              case rel => exact ⟨rfl, by have := Hp5.out; simpa only [List.append_assoc] using this⟩
            · rw [decide_eq_false hr]
              go_wp2_with fail
              go_meet
              case rel =>
                refine ⟨rfl, ?_⟩
                have h1 := Hpk5.out
                have h2 : L2 = [] ∨ R1 = [] := by
                  rcases Nat.lt_or_ge s m with h | h
                  · right; exact List.eq_nil_of_length_eq_zero (by rw [Hl3.out]; have := Hen.out; omega)
                  · left; exact List.eq_nil_of_length_eq_zero (by rw [Hl2.out]; omega)
                rcases h2 with rfl | rfl
                · simpa only [List.append_assoc, List.nil_append] using h1
                · simpa only [List.append_assoc, List.nil_append] using h1
          case rest =>
            obtain ⟨rfl, hp6⟩ := hcut
            have c0 := hp6.c0
            have c1 := hp6.c1
            have Hp6 := Lib.hid hp6
            clear hp6 Hpk5
            generalize wc = w6 at *
            go_upto_region 42 with fail
            go_cut [158] from 146 to 158 (fun v wx => v = .bool (decide (a < s ∧ s < mid)) ∧ wx = w6)
            case first =>
              by_cases a1 : a < s
              · by_cases a2 : s < mid
                · go_wp2_with fail
                  go_meet
                  case rel => exact ⟨by simp [a1, a2], rfl⟩
                · go_wp2_with fail
                  go_meet
                  case rel => exact ⟨by simp [a2], rfl⟩
              · go_wp2_with fail
                go_meet
                case rel => exact ⟨by simp [a1], rfl⟩
            case rest =>
              obtain ⟨rfl, hw⟩ := hcut
              have hw := hw.symm
              subst hw
              go_upto_if 158 with fail
              go_cut [18] from 151 to 163 (fun v wx => v = .int .i64 (s : Int) ∧ (∃ M1, Mm w1 wx bx g gv N cap rest (P ++ M1 ++ (L2 ++ (R2 ++ Q))) ∧ M1.Perm (L1 ++ R1) ∧ M1.Pairwise (lexP ekey)))
              case first =>
                by_cases hr : a < s ∧ s < mid
                · rw [decide_eq_true hr]
                  go_wp2_with fail
                  refine (Ih.out g gv N cap a s mid rest P L1 R1 (L2 ++ (R2 ++ Q)) w6 (by rw [Hl1.out, Hl3.out]; have := HF.out; have := Hmid.out; have := Hm.out; have := Hb.out; omega) Hp6.out.pk Hp6.out.var HP.out (by rw [Hl1.out]; omega) (by rw [Hl3.out]; omega) (by rw [Hl1.out]; omega) (by rw [Hl3.out]; omega)
                    ((pw_append _ _).1 (HL.out ▸ HsL.out)).1 ((pw_append _ _).1 (HR.out ▸ HsR.out)).1 (fun x hx y hy => Htag.out x (by rw [HL.out]; exact List.mem_append_left _ hx) y (by rw [HR.out]; exact List.mem_append_left _ hy)) (by rw [← HNN.out]; simp; omega) hN2).mono ?_
                  rintro e w7 ⟨rfl, ⟨M1, hp7, hpe, hso⟩, hg7⟩
                  have Hp7 := Lib.hid (Hp6.out.more hg7 hp7 (by have := hpe.length_eq; simp only [List.length_append] at this ⊢; omega))
                  have Hpe := Lib.hid hpe
                  have Hso := Lib.hid hso
                  clear hp7 hg7 hpe hso
                  go_wp2_with fail
                  go_meet
                  case rel => exact ⟨rfl, ⟨M1, Hp7.out, Hpe.out, Hso.out⟩⟩
                · rw [decide_eq_false hr]
                  go_wp2_with fail
                  go_meet
                  case rel =>
                    refine ⟨rfl, ⟨L1 ++ R1, by have := Hp6.out; simpa only [List.append_assoc] using this, List.Perm.refl _, ?_⟩⟩
                    rcases Nat.lt_or_ge a s with h | h
                    · have : R1 = [] := List.eq_nil_of_length_eq_zero (by rw [Hl3.out]; omega)
                      subst this
                      rw [List.append_nil]; exact ((pw_append _ _).1 (HL.out ▸ HsL.out)).1
                    · have : L1 = [] := List.eq_nil_of_length_eq_zero (by rw [Hl1.out]; omega)
                      subst this
                      rw [List.nil_append]; exact ((pw_append _ _).1 (HR.out ▸ HsR.out)).1
              case rest =>
                obtain ⟨rfl, ⟨M1, hp8, hpe, hso⟩⟩ := hcut
                have c0 := hp8.c0
                have c1 := hp8.c1
                have Hp8 := Lib.hid hp8
                have Hpe := Lib.hid hpe
                have Hso := Lib.hid hso
                have HM1 : Hid ((P ++ M1).length = mid) := Lib.hid (by rw [List.length_append, HP.out, hpe.length_eq, List.length_append, Hl1.out, Hl3.out]; omega)
                clear hp8 hpe hso Hp6
                generalize wc = w8 at *
                go_upto_region 44 with fail
                go_cut [171] from 159 to 171 (fun v wx => v = .bool (decide (mid < en ∧ en < b)) ∧ wx = w8)
                case first =>
                  by_cases a1 : mid < en
                  · by_cases a2 : en < b
                    · go_wp2_with fail
                      go_meet
                      case rel => exact ⟨by simp [a1, a2], rfl⟩
                    · go_wp2_with fail
                      go_meet
                      case rel => exact ⟨by simp [a2], rfl⟩
                  · go_wp2_with fail
                    go_meet
                    case rel => exact ⟨by simp [a1], rfl⟩
                case rest =>
                  obtain ⟨rfl, hw⟩ := hcut
                  have hw := hw.symm
                  subst hw
                  by_cases hr : mid < en ∧ en < b
                  · rw [decide_eq_true hr]
                    go_wp2_with fail
                    refine (Ih.out g gv N cap mid en b rest (P ++ M1) L2 R2 Q w8 (by rw [Hl2.out, Hl4.out]; have := HF.out; have := Hmid.out; have := Hm.out; have := Hb.out; have := Hen.out; omega) (by have := Hp8.out.pk; simpa only [List.append_assoc] using this) Hp8.out.var HM1.out (by rw [Hl2.out]; have := Hen.out; omega) (by rw [Hl4.out]; omega) (by rw [Hl2.out]; have := Hen.out; omega) (by rw [Hl4.out]; omega)
                      ((pw_append _ _).1 (HL.out ▸ HsL.out)).2.1 ((pw_append _ _).1 (HR.out ▸ HsR.out)).2.1 (fun x hx y hy => Htag.out x (by rw [HL.out]; exact List.mem_append_right _ hx) y (by rw [HR.out]; exact List.mem_append_right _ hy)) (by have h1 := Hpe.out.length_eq; rw [← HNN.out]; simp only [List.length_append] at h1 ⊢; omega) hN2).mono ?_
                    rintro e w9 ⟨rfl, ⟨M2, hp9, hpe2, hso2⟩, hg9⟩
                    have Hp9 : Hid (Mm w1 w9 bx g gv N cap rest (P ++ (M1 ++ M2) ++ Q)) := Lib.hid (Hp8.out.more hg9 (by simpa only [List.append_assoc] using hp9) (by have := hpe2.length_eq; simp only [List.length_append] at this ⊢; omega))
                    have Hdone := Lib.hid (md_done L1 L2 R1 R2 M1 M2 Hpe.out hpe2 Hso.out hso2 Hhalf.out)
                    clear hp9 hg9 hpe2 hso2
                    go_wp2_with fail
                    go_end0
                    exact ⟨rfl, ⟨M1 ++ M2, Hp9.out.pk, by rw [HL.out, HR.out]; exact Hdone.out.1, Hdone.out.2⟩, (Hw1.out ▸ Hp9.out : Mm (w.alloc _) _ _ _ _ _ _ _ _).done⟩
                  · rw [decide_eq_false hr]
                    have Hdone := Lib.hid (md_done L1 L2 R1 R2 M1 (L2 ++ R2) Hpe.out (List.Perm.refl _) Hso.out (by
                      rcases Nat.lt_or_ge mid en with h | h
                      · have : R2 = [] := List.eq_nil_of_length_eq_zero (by rw [Hl4.out]; omega)
                        subst this
                        rw [List.append_nil]; exact ((pw_append _ _).1 (HL.out ▸ HsL.out)).2.1
                      · have : L2 = [] := List.eq_nil_of_length_eq_zero (by rw [Hl2.out]; have := Hen.out; omega)
                        subst this
                        rw [List.nil_append]; exact ((pw_append _ _).1 (HR.out ▸ HsR.out)).2.1) Hhalf.out)
                    go_wp2_with fail
                    go_end0
                    exact ⟨rfl, ⟨M1 ++ (L2 ++ R2), by have := Hp8.out.pk; simpa only [List.append_assoc] using this, by rw [HL.out, HR.out]; exact Hdone.out.1, Hdone.out.2⟩, (Hw1.out ▸ Hp8.out : Mm (w.alloc _) _ _ _ _ _ _ _ _).done⟩
theorem sym_any : ∀ F, SymAt F := by
  intro F
  induction F with
  | zero => intro g gv N cap a m b rest P L R Q w hF; intros; omega
  | succ F ih =>
    intro g gv N cap a m b rest P L R Q w hF h hv ha hm hb hL hR hsL hsR htag hN hN2
    by_cases h1 : L.length = 1
    · obtain ⟨x, rfl⟩ := List.length_eq_one_iff.1 h1
      exact sym_up g gv N cap a m b rest P R Q x w h hv ha hm hb hR hsR (fun y hy => htag x (by simp) y hy) hN hN2
    · by_cases h2 : R.length = 1
      · obtain ⟨x, rfl⟩ := List.length_eq_one_iff.1 h2
        exact sym_dn g gv N cap a m b rest P L Q x w h hv ha hm hb (by omega) hsL (fun y hy => htag y hy x (by simp)) hN hN2
      · exact sym_mid F ih g gv N cap a m b rest P L R Q w hF h hv ha hm hb (by omega) (by omega) hsL hsR htag hN hN2
end Go.Proofs.YthpdcnjaodjjmaaGreat.Slc

/- sort.stable_func, sort.SliceStable at rows of places. -/
namespace Go.Proofs.YthpdcnjaodjjmaaGreat.Slc
open Go Go.RowKit Go.Proofs.YthpdcnjaodjjmaaGreat Go.Proofs.YthpdcnjaodjjmaaGreat.SP
set_option linter.unusedVariables false

theorem Ahead.len {bs : Nat} {s0 s : List TE} (h : Ahead ekey bs s0 s) : s.Perm s0 := by
  have := (h [] [] (Ch.nil ekey bs)).perm
  simpa using this
set_option maxRecDepth 100000 in
set_option maxHeartbeats 8000000 in
theorem stable_any (g gv N cap : Nat) (rest : List Value) (d : List TE) (w : World) (h : PkAt w g rest d) (hv : Var w g gv N cap) (hN : d.length = N) (hN2 : N ≤ 1000000) (hr : Rise d) :
    Calls Tryz.prog 104 #[.agg #[lessV gv, swapV g N cap], .int .i64 (N : Int)] w fun e w' => e = .returned (.tuple #[]) ∧ (∃ d', PkAt w' g rest d' ∧ d'.Perm d ∧ d'.Pairwise (lexP ekey)) ∧ w.grownBy w' (some g) := by
  have H := Lib.hid (Mm.start h hv hN hN2)
  have HN := Lib.hid hN
  have Hr := Lib.hid hr
  clear h hN hr hv
  go_enter Tryz.func104, Tryz.ntmps104
  go_wp2_with fail
  generalize hw1 : w.alloc (.cells #[lessV gv, swapV g N cap] 177) = w1 at *
  generalize hbx : w.heap.size = bx at *
  have Hw1 := Lib.hid hw1
  clear hw1 hbx
  go_loopw [5, 6] (fun av bv wr => ∃ (a : Nat) (S0 S D : List TE), av = .int .i64 (a : Int) ∧ bv = .int .i64 ((a : Int) + 20) ∧ d = S0 ++ D ∧ S.length = a ∧ S.length + D.length = N ∧ Ahead ekey 20 S0 S ∧ Mm w1 wr bx g gv N cap rest (S ++ D)) (fun _ bv _ => N + 20 - (intOf bv).toNat)
  case atStart => exact ⟨0, [], [], d, rfl, rfl, rfl, rfl, by simpa using HN.out, Ahead.nil ekey 20, H.out⟩
  case round =>
    obtain ⟨a, S0, S, D, rfl, rfl, hd, hS, hSD, hah, hpk⟩ := hrel
    have Hd := Lib.hid hd
    have HS := Lib.hid hS
    have HSD := Lib.hid hSD
    have Hah := Lib.hid hah
    have c0 := hpk.c0
    have c1 := hpk.c1
    have Hpk := Lib.hid hpk
    have haN : a ≤ N := by omega
    have HrD : Hid (Rise D) := Lib.hid (Rise.right (hd ▸ Hr.out))
    clear hd hS hSD hah hpk
    by_cases hlt : a + 20 ≤ N
    · have hD : D = D.take 20 ++ D.drop 20 := (List.take_append_drop _ _).symm
      have l1 : (D.take 20).length = 20 := by rw [List.length_take]; have := HSD.out; have := HS.out; omega
      have HD := Lib.hid hD
      have Hl1 := Lib.hid l1
      generalize D.take 20 = D1 at *
      generalize D.drop 20 = D2 at *
      clear hD l1
      have Hc := Lib.hid (insertion_any g gv N cap a (a + 20) rest S D1 D2 wr (by have := Hpk.out.pk; rw [HD.out] at this; rw [List.append_assoc]; exact this) Hpk.out.var HS.out (by rw [Hl1.out]) (Rise.left (HD.out ▸ HrD.out)) (by have h1 := congrArg List.length HD.out; have := HSD.out; simp only [List.length_append] at h1 ⊢; omega) hN2)
      have e1 : (a : Int) + 20 = ((a + 20 : Nat) : Int) := by omega
      obtain ⟨b, hb⟩ : ∃ b, a + 20 = b := ⟨_, rfl⟩
      rw [hb] at Hc e1 hlt
      have Hb := Lib.hid hb
      rw [e1]
      have hle : (b : Int) ≤ (N : Int) := by omega
      clear hb e1
      go_wp2_with fail
      refine (Hc.out).mono ?_
      rintro e w2 ⟨rfl, ⟨S', hp2, hpe, hso⟩, hg2⟩
      have Hp2 := Lib.hid (Hpk.out.more hg2 hp2 (by have a1 := hpe.length_eq; have a6 := congrArg List.length HD.out; simp only [List.length_append] at a1 a6 ⊢; omega))
      have Hpe := Lib.hid hpe
      have Hso := Lib.hid hso
      clear hp2 hg2 hpe hso
      go_wp2_with fail
      go_roundw
      case rel =>
        have a1 := Hpe.out.length_eq; have a2 := Hl1.out; have a3 := HS.out; have a4 := Hb.out; have a5 := HSD.out; have a6 := congrArg List.length HD.out
        rw [List.length_append] at a6
        exact ⟨b, S0 ++ D1, S ++ S', D2, rfl, rfl, by rw [Hd.out, HD.out, List.append_assoc], by rw [List.length_append]; omega, by rw [List.length_append]; omega, Ahead.more ekey Hah.out (by omega) Hpe.out Hso.out, Hp2.out⟩
      case measure => have := Hb.out; simp [intOf]; omega
    · have Hc := Lib.hid (insertion_any g gv N cap a N rest S D [] wr (by rw [List.append_nil]; exact Hpk.out.pk) Hpk.out.var HS.out (by have := HSD.out; have := HS.out; omega) HrD.out (by have := HSD.out; simp only [List.length_append, List.length_nil]; omega) hN2)
      have hle : ¬ ((a : Int) + 20 ≤ (N : Int)) := by omega
      go_wp2_with fail
      refine (Hc.out).mono ?_
      rintro e w2 ⟨rfl, ⟨S', hp2, hpe, hso⟩, hg2⟩
      rw [List.append_nil] at hp2
      have Hp2 := Lib.hid (Hpk.out.more hg2 hp2 (by have a1 := hpe.length_eq; simp only [List.length_append] at a1 ⊢; omega))
      have Hch : Hid (Ch ekey 20 d (S ++ S')) := Lib.hid (by rw [Hd.out]; exact Hah.out _ _ (.last D S' (by rw [hpe.length_eq]; have := HSD.out; have := HS.out; omega) hpe hso))
      clear hp2 hg2 hpe hso Hc
      go_wp2_with fail
      clear Hd HS HSD Hah Hpk haN HrD hle c0 c1
      go_loopw [4] (fun bv wr => ∃ (bs : Nat) (d' : List TE), bv = .int .i64 (bs : Int) ∧ 1 ≤ bs ∧ bs ≤ 2000000 ∧ Ch ekey bs d d' ∧ Mm w1 wr bx g gv N cap rest d') (fun bv _ => N - (intOf bv).toNat)
      case atStart => exact ⟨20, _, rfl, by omega, by omega, Hch.out, Hp2.out⟩
      case round =>
        obtain ⟨bs, d', rfl, hb1, hb2, hch, hpk⟩ := hrel
        have Hch := Lib.hid hch
        have c0 := hpk.c0
        have c1 := hpk.c1
        have Hpk := Lib.hid hpk
        have Hlen : Hid (d'.length = N) := Lib.hid (by rw [hch.perm.length_eq]; exact HN.out)
        clear hch hpk
        by_cases hbN : bs < N
        · go_wp2_with fail
          go_loopw [5, 6] (fun av bv wr => ∃ (a b : Nat) (S0 S D0 D : List TE), av = .int .i64 (a : Int) ∧ bv = .int .i64 (b : Int) ∧ b = a + 2 * bs ∧ d = S0 ++ D0 ∧ S.length = a ∧ S.length + D.length = N ∧ Ahead ekey (2 * bs) S0 S ∧ Ch ekey bs D0 D ∧ Mm w1 wr bx g gv N cap rest (S ++ D)) (fun _ bv _ => N + 2 * bs - (intOf bv).toNat)
          case atStart => exact ⟨0, 2 * bs, [], [], d, d', rfl, int_eq (by omega), by omega, rfl, rfl, by simpa using Hlen.out, Ahead.nil ekey _, Hch.out, Hpk.out⟩
          case round =>
            obtain ⟨a, b, S0, S, D0, D, rfl, rfl, hb, hd, hS, hSD, hah, hch, hpk⟩ := hrel
            have Hd := Lib.hid hd
            have HS := Lib.hid hS
            have HSD := Lib.hid hSD
            have Hah := Lib.hid hah
            have Hchd := Lib.hid hch
            have c0 := hpk.c0
            have c1 := hpk.c1
            have Hpk3 := Lib.hid hpk
            have HB := Lib.hid hb
            have haN : a ≤ N := by omega
            have HrD : Hid (Rise D0) := Lib.hid (Rise.right (hd ▸ Hr.out))
            clear hd hS hSD hah hch hpk hb
            by_cases hlt : b ≤ N
            · obtain ⟨s0, s, r0, r, q1, q2, q3, q4, q5, q6⟩ := Ch.split ekey Hchd.out (by have := HB.out; have := HSD.out; have := HS.out; omega) (by omega)
              obtain ⟨t0, t, u0, u, y1, y2, y3, y4, y5, y6⟩ := Ch.split ekey q6 (by have := HB.out; have := HSD.out; have := HS.out; have h1 := congrArg List.length q2; rw [List.length_append] at h1; omega) (by omega)
              subst q1 q2 y1 y2
              obtain ⟨m, hm⟩ : ∃ m, a + bs = m := ⟨_, rfl⟩
              have em : (a : Int) + (bs : Int) = (m : Int) := by omega
              have Hm := Lib.hid hm
              have Hl1 := Lib.hid q3
              have Hl2 := Lib.hid y3
              have Hp0 := Lib.hid (And.intro q4 y4)
              have Hch6 := Lib.hid y6
              have Hc := Lib.hid (sym_any (s.length + t.length) g gv N cap a m b rest S s t u wr (Nat.le_refl _) (by have := Hpk3.out.pk; simpa only [List.append_assoc] using this) Hpk3.out.var HS.out (by rw [q3]; exact hm) (by rw [y3]; have := HB.out; omega) (by omega) (by omega) q5 y5
                (Rise.cross (a := s0) (b := t0) (by have := HrD.out; rw [← List.append_assoc] at this; exact Rise.left this) q4 y4) (by have := HSD.out; simp only [List.length_append] at this ⊢; omega) hN2)
              have hmN : m ≤ N := by have := HB.out; omega
              clear hm q3 q4 q5 q6 y3 y4 y5 y6
              go_wp2_with fail
              refine (Hc.out).mono ?_
              rintro e w4 ⟨rfl, ⟨M, hp4, hpe, hso⟩, hg4⟩
              have Hp4 := Lib.hid (Hpk3.out.more hg4 hp4 (by have a1 := hpe.length_eq; simp only [List.length_append] at a1 ⊢; omega))
              have Hpe := Lib.hid hpe
              have Hso := Lib.hid hso
              clear hp4 hg4 hpe hso
              go_wp2_with fail
              go_roundw
              case rel =>
                have a1 := Hpe.out.length_eq; have a2 := Hl1.out; have a3 := HS.out; have a4 := HB.out; have a5 := HSD.out; have a6 := Hl2.out
                rw [List.length_append] at a1
                simp only [List.length_append] at a5
                exact ⟨b, b + 2 * bs, S0 ++ (s0 ++ t0), S ++ M, u0, u, rfl, int_eq (by omega), rfl, by rw [Hd.out]; simp only [List.append_assoc], by rw [List.length_append]; omega, by rw [List.length_append]; omega, Ahead.more ekey Hah.out (by omega) (Hpe.out.trans (Hp0.out.1.append Hp0.out.2)) Hso.out, Hch6.out, Hp4.out⟩
              case measure => have := HB.out; simp [intOf]; omega
            · obtain ⟨m, hm⟩ : ∃ m, a + bs = m := ⟨_, rfl⟩
              have em : (a : Int) + (bs : Int) = (m : Int) := by omega
              have Hm := Lib.hid hm
              by_cases hmN : m < N
              · obtain ⟨s0, s, r0, r, q1, q2, q3, q4, q5, q6⟩ := Ch.split ekey Hchd.out (by have := HSD.out; have := HS.out; omega) (by omega)
                subst q1 q2
                have hrl : r.length < bs := by have h1 := HSD.out; have h2 := HS.out; have h3 := HB.out; simp only [List.length_append] at h1; omega
                obtain ⟨p1, p2⟩ := Ch.small ekey q6 (by omega)
                have Hl1 := Lib.hid q3
                have Hp0 := Lib.hid (And.intro q4 p1)
                have Hc := Lib.hid (sym_any (s.length + r.length) g gv N cap a m N rest S s r [] wr (Nat.le_refl _) (by have := Hpk3.out.pk; simpa only [List.append_assoc, List.append_nil] using this) Hpk3.out.var HS.out (by rw [q3]; exact hm) (by have h1 := HSD.out; have := HS.out; simp only [List.length_append] at h1; omega) (by omega) (by have h1 := HSD.out; have := HS.out; simp only [List.length_append] at h1; omega) q5 p2
                  (Rise.cross (a := s0) (b := r0) HrD.out q4 p1) (by have := HSD.out; simp only [List.length_append, List.length_nil] at this ⊢; omega) hN2)
                have Hrl := Lib.hid hrl
                clear hm q3 q4 q5 q6 p1 p2 hrl
                go_wp2_with fail
                refine (Hc.out).mono ?_
                rintro e w4 ⟨rfl, ⟨M, hp4, hpe, hso⟩, hg4⟩
                rw [List.append_nil] at hp4
                have Hp4 := Lib.hid (Hpk3.out.more hg4 hp4 (by have a1 := hpe.length_eq; simp only [List.length_append] at a1 ⊢; omega))
                have Hfin : Hid (Ch ekey (2 * bs) d (S ++ M)) := Lib.hid (by
                  rw [Hd.out]
                  refine Hah.out _ _ (.last _ M ?_ (hpe.trans (Hp0.out.1.append Hp0.out.2)) hso)
                  rw [hpe.length_eq, List.length_append]; have := Hl1.out; have := Hrl.out; omega)
                clear hp4 hg4 hpe hso
                go_wp2_with fail
                go_roundw
                case rel => exact ⟨2 * bs, _, int_eq (by omega), by omega, by omega, Hfin.out, Hp4.out⟩
                case measure => simp [intOf]; omega
              · have hDl : D.length ≤ bs := by have := HSD.out; have := HS.out; omega
                obtain ⟨p1, p2⟩ := Ch.small ekey Hchd.out hDl
                have Hfin : Hid (Ch ekey (2 * bs) d (S ++ D)) := Lib.hid (by rw [Hd.out]; exact Hah.out _ _ (.last _ D (by omega) p1 p2))
                clear hm p1 p2
                go_wp2_with fail
                go_roundw
                case rel => exact ⟨2 * bs, _, int_eq (by omega), by omega, by omega, Hfin.out, Hpk3.out⟩
                case measure => simp [intOf]; omega
        · obtain ⟨p1, p2⟩ := Ch.small ekey Hch.out (by rw [Hlen.out]; omega)
          have Hp1 := Lib.hid p1
          have Hp2 := Lib.hid p2
          clear p1 p2
          go_wp2_with fail
          go_end0
          exact ⟨rfl, ⟨d', Hpk.out.pk, Hp1.out, Hp2.out⟩, (Hw1.out ▸ Hpk.out : Mm (w.alloc _) _ _ _ _ _ _ _ _).done⟩
end Go.Proofs.YthpdcnjaodjjmaaGreat.Slc

/- sort.SliceStable at a row of places. -/
namespace Go.Proofs.YthpdcnjaodjjmaaGreat.Slc
open Go Go.RowKit Go.Proofs.YthpdcnjaodjjmaaGreat Go.Proofs.YthpdcnjaodjjmaaGreat.SP
set_option linter.unusedVariables false

def RowAt (w : World) (g : Nat) (rest : List Value) (l : List El) : Prop := Blk w g 150 (l.flatMap (fun e => [nv e.1, nv e.2]) ++ rest).toArray
theorem pk_row (w : World) (g : Nat) (rest : List Value) (d : List TE) : PkAt w g rest d ↔ RowAt w g rest (d.map (·.1)) := by
  unfold PkAt RowAt
  rw [List.flatMap_map]; rfl
def noSwap (f : FuncId) : Value := .func (.func f) #[] #[]
set_option maxRecDepth 100000 in
set_option maxHeartbeats 1600000 in
theorem insertion_none (gv n : Nat) (f : FuncId) (w : World) (hn : n ≤ 1) :
    Calls Tryz.prog 124 #[.agg #[lessV gv, noSwap f], .int .i64 0, .int .i64 (n : Int)] w fun e w' => e = .returned (.tuple #[]) ∧ Below w.heap.size w w' := by
  have h1 : ¬ (1 : Int) < (n : Int) := by omega
  unfold lessV noSwap
  go_enter Tryz.func124, Tryz.ntmps124
  go_wp2_with fail
  go_loopw [6] (fun i wr => i = .int .i64 1 ∧ Below w.heap.size w wr) (fun i _ => 0)
  case atStart => exact ⟨rfl, (Below.refl _ _).alloc (Nat.le_refl _) _⟩
  case round =>
    obtain ⟨rfl, hb⟩ := hrel
    have HB := Lib.hid hb
    clear hb
    go_wp2_with fail
    go_end0
    exact ⟨rfl, HB.out⟩
set_option maxRecDepth 100000 in
set_option maxHeartbeats 1600000 in
theorem stable_none (gv n : Nat) (f : FuncId) (w : World) (hn : n ≤ 1) :
    Calls Tryz.prog 104 #[.agg #[lessV gv, noSwap f], .int .i64 (n : Int)] w fun e w' => e = .returned (.tuple #[]) ∧ Below w.heap.size w w' := by
  have h1 : ¬ (20 : Int) ≤ (n : Int) := by omega
  have h2 : ¬ (20 : Int) < (n : Int) := by omega
  have HB : Hid (Below w.heap.size w (w.alloc (.cells #[lessV gv, noSwap f] 177))) := Lib.hid ((Below.refl _ _).alloc (Nat.le_refl _) _)
  have HI := Lib.hid (insertion_none gv n f (w.alloc (.cells #[lessV gv, noSwap f] 177)) hn)
  unfold lessV noSwap at *
  go_enter Tryz.func104, Tryz.ntmps104
  go_wp2_with fail
  go_loopw [5, 6] (fun a b wr => a = .int .i64 0 ∧ b = .int .i64 20 ∧ wr = w.alloc (.cells #[.func (.func 88) #[] #[.pointer (some ⟨gv, 0, none⟩)], .func (.func f) #[] #[]] 177)) (fun _ _ _ => 0)
  case atStart => exact ⟨rfl, rfl, rfl⟩
  case round =>
    obtain ⟨rfl, rfl, rfl⟩ := hrel
    go_wp2_with fail
    refine (HI.out).mono ?_
    rintro e w2 ⟨rfl, hb⟩
    have HB2 := Lib.hid (HB.out.trans (hb.mono HB.out.size))
    clear hb
    go_wp2_with fail
    go_loopw [4] (fun a wr => a = .int .i64 20 ∧ wr = w2) (fun _ _ => 0)
    case atStart => exact ⟨rfl, rfl⟩
    case round =>
      obtain ⟨rfl, rfl⟩ := hrel
      go_wp2_with fail
      go_end0
      exact ⟨rfl, HB2.out⟩
/-- what the library's entries give at a slice of places -/
structure Ent (a b : Addr) : Prop where
  val : ∀ (p : Option Addr) (n c : Nat) (W : World), (callFunc 102 #[.iface 148 (.slice p n c)]).run Tryz.prog W = .ok (.value (.agg #[.pointer (some a), .pointer (some ⟨W.heap.size, 0, none⟩), .int .u64 151])) (W.alloc (.cells #[.slice p n c] 148))
  len : ∀ (x : Addr) (p : Option Addr) (n c : Nat) (W : World), W.cell? x = some (.slice p n c) → (callFunc 105 #[.agg #[.pointer (some a), .pointer (some x), .int .u64 151]]).run Tryz.prog W = .ok (.value (.int .i64 (n : Int))) W
  swap : ∀ (p : Option Addr) (n c : Nat) (W : World), (callFunc 103 #[.iface 148 (.slice p n c)]).run Tryz.prog W = .ok (.value (if n = 0 then noSwap 115 else if n = 1 then noSwap 116 else .func (.func 123) #[] #[.slice p n c, .pointer (some b)])) W
  hdl : hdl = .pointer (some b)
theorem kind_place (w : World) : (Extern.Rtype.kind 150).run Tryz.prog w = .ok 25 w := by kernel_rfl
theorem entries : ∃ a b, Ent a b := by
  have h1 : (Tryz.prog.info? 148).map (fun i => i.desc) = some (.slice 150) := by kernel_rfl
  cases hi : Tryz.prog.info? 148 with
  | none => rw [hi] at h1; cases h1
  | some i =>
    rw [hi] at h1
    have hd : i.desc = .slice 150 := by simpa using h1
    have h2 : (Tryz.prog.info? 150).map (fun i => (i.hasPointers, i.bytes)) = some (false, 16) := by kernel_rfl
    cases hie : Tryz.prog.info? 150 with
    | none => rw [hie] at h2; cases h2
    | some ie =>
      rw [hie] at h2
      simp only [Option.map_some, Option.some.injEq, Prod.mk.injEq] at h2
      refine ⟨⟨Tryz.prog.globals.size, 148, none⟩, ⟨Tryz.prog.globals.size, 150, none⟩, ?_, ?_, ?_, rfl⟩
      · intro p n c W
        rw [run_callFunc_extern Tryz.func102 (by kernel_rfl) (by kernel_rfl) (by kernel_rfl) (e := fun args => Extern.ReflectliteValue.unpack (args.getD 0 (.tuple #[]))) (by kernel_rfl)]
        rw [show Sem.run Tryz.prog ((fun args : Array Value => Extern.ReflectliteValue.unpack (args.getD 0 (.tuple #[]))) #[.iface 148 (.slice p n c)]) W = _ from Lib.run_valueOf_slice (P := Tryz.prog) _ _ i hi hd p n c W]
        rfl
      · intro x p n c W hx
        rw [run_callFunc_extern Tryz.func105 (by kernel_rfl) (by kernel_rfl) (by kernel_rfl) (e := Extern.ReflectliteValue.method (Extern.ReflectliteValue.valueError "reflectlite.Value.Len" 0) Extern.ReflectliteValue.len) (by kernel_rfl)]
        rw [show Sem.run Tryz.prog (Extern.ReflectliteValue.method (Extern.ReflectliteValue.valueError "reflectlite.Value.Len" 0) Extern.ReflectliteValue.len #[.agg #[.pointer (some ⟨Tryz.prog.globals.size, 148, none⟩), .pointer (some x), .int .u64 151]]) W = _ from Lib.run_valueLen_slice (P := Tryz.prog) _ _ i hi hd (by kernel_rfl) x p n c W hx]
        rfl
      · intro p n c W
        rw [run_callFunc_extern Tryz.func103 (by kernel_rfl) (by kernel_rfl) (by kernel_rfl) (e := Extern.ReflectliteSwapper.swapper "internal/reflectlite" (Extern.ReflectliteValue.valueError "Swapper")) (by kernel_rfl)]
        rcases Nat.eq_zero_or_pos n with h0 | h0
        · subst h0
          have e9 : Lib.swapperK 0 ie 25 = 1 := rfl
          rw [Lib.run_swapper_slice (P := Tryz.prog) _ _ i ie hi hd hie 25 kind_place p 0 c 115 (by rw [e9]; kernel_rfl) W, e9]
          rfl
        · by_cases h1' : n = 1
          · subst h1'
            have e9 : Lib.swapperK 1 ie 25 = 2 := rfl
            rw [Lib.run_swapper_slice (P := Tryz.prog) _ _ i ie hi hd hie 25 kind_place p 1 c 116 (by rw [e9]; kernel_rfl) W, e9]
            rfl
          · have e9 : Lib.swapperK n ie 25 = 9 := by
              unfold Lib.swapperK
              rw [h2.1, h2.2]
              have e0 : (n == 0) = false := by simp; omega
              have e1 : (n == 1) = false := by simp; exact h1'
              simp [e0, e1]
            rw [Lib.run_swapper_slice (P := Tryz.prog) _ _ i ie hi hd hie 25 kind_place p n c 123 (by rw [e9]; kernel_rfl) W, e9, if_neg (by omega), if_neg (by omega), if_neg h1']
            rfl
set_option maxRecDepth 100000 in
set_option maxHeartbeats 1600000 in
theorem sliceStable_any (g gv N cap : Nat) (rest : List Value) (l : List El) (w : World) (h : RowAt w g rest l) (hv : Var w g gv N cap) (hN : l.length = N) (hN2 : N ≤ 1000000) :
    Calls Tryz.prog 87 #[.iface 148 (.slice (some ⟨g, 0, none⟩) N cap), lessV gv] w fun e w' => e = .returned (.tuple #[]) ∧ RowAt w' g rest (stab ekey l) ∧ w.grownBy w' (some g) := by
  obtain ⟨a, b, hent⟩ := entries
  have hval := hent.val
  have hlen := hent.len ⟨w.heap.size, 0, none⟩ (some ⟨g, 0, none⟩) N cap ((w.alloc (.cells #[.slice (some ⟨g, 0, none⟩) N cap] 148)).alloc (.cells #[.pointer (some a), .pointer (some ⟨w.heap.size, 0, none⟩), .int .u64 151] 172)) (by simp)
  have hswap := hent.swap (some ⟨g, 0, none⟩) N cap
  have Hh := Lib.hid hent.hdl
  have HR := Lib.hid h
  have HV := Lib.hid hv
  have HN := Lib.hid hN
  have hgv : gv < w.heap.size := hv.var.lt
  have hgg : g < w.heap.size := Blk.lt h
  clear hent h hv hN
  obtain ⟨w2, hw2⟩ : ∃ w2, w2 = ((w.alloc (.cells #[.slice (some ⟨g, 0, none⟩) N cap] 148)).alloc (.cells #[.pointer (some a), .pointer (some ⟨w.heap.size, 0, none⟩), .int .u64 151] 172)) := ⟨_, rfl⟩
  have hb2 : Below w.heap.size w w2 := by rw [hw2]; exact ((Below.refl _ _).alloc (Nat.le_refl _) _).alloc (by simp) _
  have Hb2 := Lib.hid hb2
  have HR2 : Hid (RowAt w2 g rest l) := Lib.hid (Blk.below HR.out hb2 hgg)
  have HV2 : Hid (Var w2 g gv N cap) := Lib.hid ⟨Blk.below HV.out.var hb2 hgv, HV.out.ne⟩
  have Hw2 := Lib.hid hw2
  clear hb2 hw2
  rcases (by omega : N = 0 ∨ N = 1 ∨ 2 ≤ N) with h0 | h0 | h0
  · subst h0
    rw [if_pos rfl] at hswap
    have HS := Lib.hid (stable_none gv 0 115 w2 (by omega))
    have hl : l = [] := List.eq_nil_of_length_eq_zero HN.out
    subst hl
    rw [Hw2.out] at HS
    unfold lessV noSwap at *
    go_enter Tryz.func87, Tryz.ntmps87
    go_wp2_with fail
    refine (HS.out).mono ?_
    rintro e w3 ⟨rfl, hb3⟩
    rw [← Hw2.out] at hb3
    have HB3 := Lib.hid (Hb2.out.trans (hb3.mono Hb2.out.size))
    have HR3 : Hid (RowAt w3 g rest []) := Lib.hid (Blk.below HR2.out hb3 (Blk.lt HR2.out))
    clear hb3 hval hlen hswap
    go_wp2_with fail
    go_end0
    exact ⟨rfl, by rw [List.perm_nil.1 (stab_perm ekey ([] : List El))]; exact HR3.out, grown_below (World.grownBy.refl _ _) HB3.out⟩
  · subst h0
    rw [if_neg (by omega), if_pos rfl] at hswap
    have HS := Lib.hid (stable_none gv 1 116 w2 (by omega))
    have hl : stab ekey l = l := by
      have := HN.out
      match l, this with
      | [x], _ => exact List.perm_singleton.1 (stab_perm ekey [x])
    have Hl := Lib.hid hl
    rw [Hw2.out] at HS
    unfold lessV noSwap at *
    clear hl
    go_enter Tryz.func87, Tryz.ntmps87
    go_wp2_with fail
    refine (HS.out).mono ?_
    rintro e w3 ⟨rfl, hb3⟩
    rw [← Hw2.out] at hb3
    have HB3 := Lib.hid (Hb2.out.trans (hb3.mono Hb2.out.size))
    have HR3 : Hid (RowAt w3 g rest l) := Lib.hid (Blk.below HR2.out hb3 (Blk.lt HR2.out))
    clear hb3 hval hlen hswap
    go_wp2_with fail
    go_end0
    exact ⟨rfl, by rw [Hl.out]; exact HR3.out, grown_below (World.grownBy.refl _ _) HB3.out⟩
  · rw [if_neg (by omega), if_neg (by omega)] at hswap
    have HS := Lib.hid (stable_any g gv N cap rest l.zipIdx w2 ((pk_row w2 g rest _).2 (by rw [List.zipIdx_map_fst]; exact HR2.out)) HV2.out (by simpa using HN.out) hN2 (rise_zip l 0))
    rw [Hw2.out] at HS
    unfold lessV swapV at *
    rw [Hh.out] at HS
    go_enter Tryz.func87, Tryz.ntmps87
    go_wp2_with fail
    refine (HS.out).mono ?_
    rintro e w3 ⟨rfl, ⟨d', hp, hpe, hso⟩, hg⟩
    rw [← Hw2.out] at hg
    have HR3 : Hid (RowAt w3 g rest (stab ekey l)) := Lib.hid (by
      rw [← stab_unique ekey l d' hpe hso]; exact (pk_row _ _ _ _).1 hp)
    have HG := Lib.hid ((grown_below (World.grownBy.refl w (some g)) Hb2.out).trans hg)
    clear hp hpe hso hg hval hlen hswap
    go_wp2_with fail
    go_end0
    exact ⟨rfl, HR3.out, HG.out⟩
end Go.Proofs.YthpdcnjaodjjmaaGreat.Slc

/- sort.SliceStable at an own row of places, none too. -/
namespace Go.Proofs.YthpdcnjaodjjmaaGreat.Slc
open Go Go.RowKit Go.Proofs.YthpdcnjaodjjmaaGreat Go.Proofs.YthpdcnjaodjjmaaGreat.SP
set_option linter.unusedVariables false

set_option maxRecDepth 100000 in
set_option maxHeartbeats 1600000 in
theorem sliceStable_nil (gv : Nat) (w : World) :
    Calls Tryz.prog 87 #[.iface 148 (.slice none 0 0), lessV gv] w fun e w' => e = .returned (.tuple #[]) ∧ Below w.heap.size w w' := by
  obtain ⟨a, b, hent⟩ := entries
  have hval := hent.val
  have hlen := hent.len ⟨w.heap.size, 0, none⟩ none 0 0 ((w.alloc (.cells #[.slice none 0 0] 148)).alloc (.cells #[.pointer (some a), .pointer (some ⟨w.heap.size, 0, none⟩), .int .u64 151] 172)) (by simp)
  have hswap := hent.swap none 0 0
  rw [if_pos rfl] at hswap
  clear hent
  obtain ⟨w2, hw2⟩ : ∃ w2, w2 = ((w.alloc (.cells #[.slice none 0 0] 148)).alloc (.cells #[.pointer (some a), .pointer (some ⟨w.heap.size, 0, none⟩), .int .u64 151] 172)) := ⟨_, rfl⟩
  have hb2 : Below w.heap.size w w2 := by rw [hw2]; exact ((Below.refl _ _).alloc (Nat.le_refl _) _).alloc (by simp) _
  have Hb2 := Lib.hid hb2
  have Hw2 := Lib.hid hw2
  have HS := Lib.hid (stable_none gv 0 115 w2 (by omega))
  rw [hw2] at HS
  clear hb2 hw2
  unfold lessV noSwap at *
  go_enter Tryz.func87, Tryz.ntmps87
  go_wp2_with fail
  refine (HS.out).mono ?_
  rintro e w3 ⟨rfl, hb3⟩
  rw [← Hw2.out] at hb3
  have HB3 := Lib.hid (Hb2.out.trans (hb3.mono Hb2.out.size))
  clear hb3 hval hlen hswap
  go_wp2_with fail
  go_end0
  exact ⟨rfl, HB3.out⟩
def plC (e : El) : List Value := [nv e.1, nv e.2]
theorem plC_len (l : List El) : (l.flatMap plC).length = l.length * 2 := by
  induction l with
  | nil => rfl
  | cons a l ih => rw [List.flatMap_cons, List.length_append, ih]; simp [plC]; omega
/-- an own row of places, sorted -/
theorem sort_own (base gv N : Nat) (v : Value) (l : List El) (w : World) (ho : w.ownsRow base 150 2 v N (l.flatMap plC)) (hv : Blk w gv 148 #[v]) (hgv : gv < base) (hN : N ≤ 1000000) :
    Calls Tryz.prog 87 #[.iface 148 v, lessV gv] w fun e w' => e = .returned (.tuple #[]) ∧ w'.ownsRow base 150 2 v N ((stab ekey l).flatMap plC) ∧ w.grownBy w' v.ownBlock := by
  have hl : l.length = N := by have := ho.1; rw [plC_len] at this; omega
  rcases ho.2 with ⟨rfl, hn⟩ | ⟨g, cap, cur, rfl, hbg, hg, hnc, hcm, hcs, htake⟩
  · have h0 : l = [] := List.eq_nil_of_length_eq_zero (hl.trans hn)
    subst h0
    refine (sliceStable_nil gv w).mono ?_
    rintro e w' ⟨rfl, hb⟩
    rw [List.perm_nil.1 (stab_perm ekey ([] : List El))]
    subst hn
    exact ⟨rfl, World.ownsRow_nil _ _ _ _, grown_below (World.grownBy.refl _ _) hb⟩
  · have hR : RowAt w g (cur.toList.drop (N * 2)) l := by
      unfold RowAt Blk
      rw [hg]
      have : l.flatMap (fun e => [nv e.1, nv e.2]) = cur.toList.take (N * 2) := htake.symm
      rw [this, List.take_append_drop]
    refine (sliceStable_any g gv N cap _ l w hR ⟨hv, by omega⟩ hl hN).mono ?_
    rintro e w' ⟨rfl, hR', hgr⟩
    refine ⟨rfl, ⟨by rw [plC_len, stab_length]; omega, .inr ⟨g, cap, _, rfl, hbg, hR', hnc, hcm, ?_, ?_⟩⟩, hgr⟩
    · have h1 : ((stab ekey l).flatMap plC).length = N * 2 := by rw [plC_len, stab_length, hl]
      show (((stab ekey l).flatMap plC) ++ cur.toList.drop (N * 2)).toArray.size = cap * 2
      have h2 : N * 2 ≤ cap * 2 := by omega
      simp [h1, hcs]; omega
    · have h1 : ((stab ekey l).flatMap plC).length = N * 2 := by rw [plC_len, stab_length, hl]
      show ((((stab ekey l).flatMap plC) ++ cur.toList.drop (N * 2)).toArray.toList).take (N * 2) = _
      rw [List.toList_toArray, List.take_append_of_le_length (by omega), List.take_of_length_le (by omega)]
end Go.Proofs.YthpdcnjaodjjmaaGreat.Slc
