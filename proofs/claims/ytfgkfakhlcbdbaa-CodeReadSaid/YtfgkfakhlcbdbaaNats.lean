/- rows of natural numbers. -/
import Derived.Test.YtfgkfakhlcbdbaaCodeCheck
import Derived.Test.YtfgkfakhlcbdbaaKeep
import Derived.WalkSpells
namespace Go.Proofs.Ytfgkfakhlcbdbaa.Code
open Go Go.RowKit Go.Proofs.Ytfgkfakhlcbdbaa
set_option linter.unusedVariables false

def natV (n : Nat) : Value := .int .i64 (n : Int)
theorem infoI : (Try.prog.info? 3).map (fun i => (i.zero, i.size, i.bytes)) = some (some (.int .i64 0), 1, 8) := by kernel_rfl
/-- make([]int, n) -/
theorem make_ints (n : Nat) (hn : n ≤ 1000000) (u : World) : (Instr.makeSlice 22 (.int .i64 (n : Int)) (.int .i64 (n : Int))).run Try.prog u =
      .ok (.slice (some ⟨u.heap.size, 0, none⟩) n n) (u.alloc (.cells (madeCells #[.int .i64 0] n) 3)) := by
  obtain ⟨i0, hi, hz0, hz1, hz2⟩ := info_parts infoI
  have h := run_make (P := Try.prog) u 22 3 i0 (.int .i64 0) Try.underlying22 hi hz0 .i64 .i64 (n : Int) (n : Int) (by omega) (Int.le_refl _) (by rw [hz2]; omega) (by omega)
  simpa [hz1, Value.cells] using h
/-- a block of numbers -/
def nats (l : List Nat) : Array Value := (l.map natV).toArray
theorem nats_zero (n : Nat) : madeCells #[.int .i64 0] n = nats (List.replicate n 0) := by
  unfold madeCells nats
  apply Array.ext'
  simp
  apply List.ext_getElem
  · simp
  · intro i h1 h2
    simp [natV, Nat.mod_one]
theorem nats_set (l : List Nat) (i x : Nat) : (nats l).setIfInBounds i (.int .i64 (x : Int)) = nats (l.set i x) := by
  unfold nats
  apply Array.ext'
  simp [List.map_set, natV]
theorem nats_get (l : List Nat) (i : Nat) (h : i < l.length) : (nats l)[i]? = some (.int .i64 (l[i] : Int)) := by
  simp [nats, h, natV]
theorem nats_own {w : World} {base g : Nat} {l : List Nat} (hb : base ≤ g) (h : Blk w g 3 (nats l)) (hl : l.length ≤ 1000000) : w.ownsRow base 3 1 (.slice (some ⟨g, 0, none⟩) l.length l.length) l.length (l.map natV) :=
  ⟨by simp, .inr ⟨g, l.length, nats l, rfl, hb, h, Nat.le_refl _, by unfold maxLen; omega, by simp [nats], by simp [nats, List.take_of_length_le]⟩⟩
theorem getD_of (zs : List Int) (k : Nat) (h : k < zs.length) : (lsOf zs).getD k 0 = zs[k].toNat := by
  simp [lsOf, List.getD_eq_getElem?_getD, h]
theorem lsOf_len (zs : List Int) : (lsOf zs).length = zs.length := by simp [lsOf]
end Go.Proofs.Ytfgkfakhlcbdbaa.Code
