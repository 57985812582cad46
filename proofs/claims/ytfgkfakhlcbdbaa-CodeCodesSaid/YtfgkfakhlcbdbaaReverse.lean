/- slices.Reverse at []byte. -/
import Derived.Test.YtfgkfakhlcbdbaaApp
import Derived.Test.YtfgkfakhlcbdbaaProg
import Derived.BigRegion
namespace Go.Proofs.Ytfgkfakhlcbdbaa
open Go Go.RowKit
set_option linter.unusedVariables false

/-- a row of which the first i and the last i are changed about -/
def revd (xs : List UInt8) (i : Nat) : List UInt8 := (List.range xs.length).map fun k => if k < i ∨ xs.length - i ≤ k then xs.getD (xs.length - 1 - k) 0 else xs.getD k 0
theorem revd_length (xs : List UInt8) (i : Nat) : (revd xs i).length = xs.length := by simp [revd]
theorem revd_get (xs : List UInt8) (i k : Nat) (h : k < xs.length) : (revd xs i)[k]? = some (if k < i ∨ xs.length - i ≤ k then xs.getD (xs.length - 1 - k) 0 else xs.getD k 0) := by
  simp [revd, h]
theorem revd_zero (xs : List UInt8) : revd xs 0 = xs := by
  apply List.ext_getElem?
  intro k
  by_cases h : k < xs.length
  · rw [revd_get xs 0 k h, if_neg (by omega)]; simp [h]
  · rw [List.getElem?_eq_none (by rw [revd_length]; omega), List.getElem?_eq_none (by omega)]
theorem revd_step (xs : List UInt8) (i j : Nat) (h : i < j) (hj : i + j + 1 = xs.length) : ((revd xs i).set i (xs.getD j 0)).set j (xs.getD i 0) = revd xs (i + 1) := by
  apply List.ext_getElem?
  intro k
  by_cases hk : k < xs.length
  · rw [revd_get xs (i + 1) k hk, List.getElem?_set, List.getElem?_set, revd_get xs i k hk]
    simp only [List.length_set, revd_length]
    by_cases h1 : j = k
    · subst h1
      rw [if_pos rfl, if_pos hk, if_pos (by omega)]
      congr 2; omega
    · rw [if_neg h1]
      by_cases h2 : i = k
      · subst h2
        rw [if_pos rfl, if_pos hk, if_pos (by omega)]
        congr 2; omega
      · rw [if_neg h2]
        by_cases h3 : k < i ∨ xs.length - i ≤ k
        · rw [if_pos h3, if_pos (by omega)]
        · rw [if_neg h3, if_neg (by omega)]
  · rw [List.getElem?_eq_none (by simp [revd_length]; omega), List.getElem?_eq_none (by rw [revd_length]; omega)]
theorem revd_all (xs : List UInt8) (i : Nat) (h : xs.length ≤ 2 * i + 1) : revd xs i = xs.reverse := by
  apply List.ext_getElem?
  intro k
  by_cases hk : k < xs.length
  · rw [revd_get xs i k hk, List.getElem?_reverse hk]
    by_cases h3 : k < i ∨ xs.length - i ≤ k
    · rw [if_pos h3, List.getD_eq_getElem?_getD, List.getElem?_eq_getElem (by omega)]; rfl
    · rw [if_neg h3, List.getD_eq_getElem?_getD, show xs.length - 1 - k = k by omega, List.getElem?_eq_getElem hk]; rfl
  · rw [List.getElem?_eq_none (by rw [revd_length]; omega), List.getElem?_eq_none (by simp; omega)]
theorem revd_lo (xs : List UInt8) (i j : Nat) (h : i < j) (hj : i + j + 1 = xs.length) : (revd xs i)[i]? = some (xs.getD i 0) := by
  rw [revd_get xs i i (by omega), if_neg (by omega)]
theorem revd_hi (xs : List UInt8) (i j : Nat) (h : i < j) (hj : i + j + 1 = xs.length) : (revd xs i)[j]? = some (xs.getD j 0) := by
  rw [revd_get xs i j (by omega), if_neg (by omega)]
/-- a block whose first cells are these bytes, none of them frozen -/
def Head (w : World) (g : Nat) (ys : List UInt8) : Prop :=
  ∃ (sp : List Value) (lo hi : Nat), w.heap[g]? = some (.cells (ys.map u8v ++ sp).toArray 5 (lo, hi)) ∧ ∀ k, k < ys.length → ¬ (lo ≤ k ∧ k < hi)
theorem Head.cell {w : World} {g : Nat} {ys : List UInt8} (h : Head w g ys) {k : Nat} {x : UInt8} (hk : ys[k]? = some x) : w.cell? ⟨g, k, none⟩ = some (.int .u8 (n8 x)) := by
  obtain ⟨sp, lo, hi, hb, _⟩ := h
  rw [cell_of_row w g k _ _ _ hb]
  have hl : k < ys.length := by
    rcases Nat.lt_or_ge k ys.length with h | h
    · exact h
    · rw [List.getElem?_eq_none h] at hk; cases hk
  simp [List.getElem?_append_left, hl] at hk ⊢
  simp [hk, u8v]
theorem Head.frozen {w : World} {g : Nat} {ys : List UInt8} (h : Head w g ys) {k : Nat} (hk : k < ys.length) : w.frozen? ⟨g, k, none⟩ = false := by
  obtain ⟨sp, lo, hi, hb, hf⟩ := h
  have := hf k hk
  simp only [World.frozen?, hb]
  simp only [Bool.and_eq_false_iff, decide_eq_false_iff_not]
  omega
theorem Head.set_ {w : World} {g : Nat} {ys : List UInt8} (h : Head w g ys) {k : Nat} (hk : k < ys.length) (x : UInt8) : Head (w.setCell ⟨g, k, none⟩ (.int .u8 (n8 x))) g (ys.set k x) := by
  obtain ⟨sp, lo, hi, hb, hf⟩ := h
  refine ⟨sp, lo, hi, ?_, fun j hj => hf j (by simpa using hj)⟩
  simp only [World.setCell, Array.getElem?_modify, hb, if_true, Option.map_some]
  simp [List.map_set, u8v, List.set_append_left, hk]
theorem Head.slat {w : World} {g : Nat} {ys : List UInt8} (h : Head w g ys) : ByAt w (some ⟨g, 0, none⟩) ys := fun _ =>
  ⟨g, 0, rfl, fun j v hj => by
    rw [List.getElem?_map] at hj
    obtain ⟨x, hx, rfl⟩ := Option.map_eq_some_iff.1 hj
    rw [Nat.zero_add]; exact h.cell hx⟩

set_option maxRecDepth 100000 in
set_option maxHeartbeats 800000 in
theorem reverse_any (g n c : Nat) (xs : List UInt8) (w : World) (hn : xs.length = n) (hx : n ≤ 1000000000) (h : Head w g xs) :
    Calls Try.prog 43 #[.slice (some ⟨g, 0, none⟩) n c] w fun e w' => e = .returned (.tuple #[]) ∧ Head w' g xs.reverse ∧ Below g w w' := by
  have Hn := Lib.hid hn
  have H := Lib.hid h
  clear hn h
  go_enter Try.func43, Try.ntmps43
  go_wp2_with fail
  go_loopw [2, 3] (fun i j wr => ∃ k : Nat, k ≤ n ∧ i = .int .i64 k ∧ j = .int .i64 ((n : Int) - 1 - k) ∧ Head wr g (revd xs k) ∧ Below g w wr) (fun i _ _ => n - (intOf i).toNat)
  case atStart => exact ⟨0, Nat.zero_le _, rfl, by simp, by rw [revd_zero]; exact H.out, Below.refl _ _⟩
  case round =>
    obtain ⟨k, hk, rfl, rfl, hB, hb⟩ := hrel
    by_cases hlt : 2 * k + 1 < n
    · obtain ⟨j, hj⟩ : ∃ j : Nat, j = n - 1 - k := ⟨_, rfl⟩
      have hkj : k < j := by omega
      have hjn : k + j + 1 = n := by omega
      have e : ((n : Int) - 1 - k) = (j : Int) := by omega
      rw [e]
      clear e hj
      have hkx : k + j + 1 = xs.length := by rw [Hn.out]; exact hjn
      have c1 := hB.cell (revd_lo xs k j hkj hkx)
      have c2 := hB.cell (revd_hi xs k j hkj hkx)
      have f1 := hB.frozen (k := k) (by rw [revd_length]; omega)
      have f2 := hB.frozen (k := j) (by rw [revd_length]; omega)
      have hl1 : k < (revd xs k).length := by rw [revd_length]; omega
      have hl2 : j < (revd xs k).length := by rw [revd_length]; omega
      have Hst := Lib.hid (revd_step xs k j hkj hkx)
      have HB := Lib.hid hB
      have Hb := Lib.hid hb
      have hI : (k : Int) < (j : Int) := by omega
      have hn1 : (k : Int) < (n : Int) := by omega
      have hn2 : (j : Int) < (n : Int) := by omega
      have Hjn := Lib.hid hjn
      clear hB hb hkx hjn
      generalize xs.getD k 0 = x at *
      generalize xs.getD j 0 = y at *
      go_wp2_with fail
      go_region
      go_wp2_with fail
      go_roundw
      case rel =>
        refine ⟨k + 1, by omega, by go_num, int_eq (by have := Hjn.out; omega), ?_, (Hb.out.setCell (p := ⟨g, k, none⟩) (Nat.le_refl _) _).setCell (p := ⟨g, j, none⟩) (Nat.le_refl _) _ |>.drew⟩
        rw [← Hst.out]
        exact (HB.out.set_ hl1 y).set_ (by simpa using hl2) x
      case measure => simp [intOf]; omega
    · have HB := Lib.hid hB
      have Hb := Lib.hid hb
      have hI : ¬ ((k : Int) < (n : Int) - 1 - k) := by omega
      clear hB hb
      go_wp2_with fail
      go_end0
      refine ⟨rfl, ?_, Hb.out⟩
      rw [← revd_all xs k (by rw [Hn.out]; omega)]
      exact HB.out
end Go.Proofs.Ytfgkfakhlcbdbaa
