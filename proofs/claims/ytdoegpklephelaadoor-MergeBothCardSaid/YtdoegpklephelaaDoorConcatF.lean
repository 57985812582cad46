/- slices.Concat[[]reliquary/api.File,reliquary/api.File]. -/
import Derived.Test.YtdoegpklephelaaDoorApp
import Derived.Test.YtdoegpklephelaaDoorProg
import Derived.WalkSpells
import Derived.Lib.AppendZeros
namespace Go.Proofs.YtdoegpklephelaaDoor.ConcatF
open Go Go.RowKit Go.Proofs.YtdoegpklephelaaDoor
set_option linter.unusedVariables false

theorem ty : SliceTy Tryd.prog 22 33 ((.agg #[.string ByteArray.empty, .slice none 0 0, .int .i64 0, .int .i64 0, .bool false])) 5 64 := ⟨Tryd.underlying22, by kernel_rfl, rfl, by omega⟩
theorem zeroCells_size (z : Array Value) (n : Nat) : (Builtin.zeroCells z n).size = n * z.size := by simp [Builtin.zeroCells]

set_option maxHeartbeats 400000 in
/-- room for so many, where there was none -/
theorem grow_any (n : Nat) (w : World) (hn : n * 64 ≤ 140737488355328) :
    Calls Tryd.prog 67 #[.slice none 0 0, .int .i64 (n : Int)] w fun e w' => ∃ v, e = .returned v ∧ w'.ownsRow w.heap.size 33 5 v 0 [] ∧ Below w.heap.size w w' := by
  by_cases h0 : n = 0
  · subst h0
    go_enter Tryd.func67, Tryd.ntmps67
    go_wp2_with fail
    go_ret
    exact ⟨_, rfl, World.ownsRow_nil _ _ _ _, Below.refl _ _⟩
  · obtain ⟨ht, i, hi, hz, hsize, hby, hzs, hsz⟩ := ty.parts
    have hpos : 0 < n := by omega
    have h1 : ¬ ((n : Int) < 0) := by omega
    have hp : (0 : Int) < (n : Int) := by omega
    have hb63 : (n : Int) ≤ 140737488355328 := by omega
    have hrun := Lib.run_append_nil_zeros (P := Tryd.prog) w 22 3 22 33 i ((.agg #[.string ByteArray.empty, .slice none 0 0, .int .i64 0, .int .i64 0, .bool false])) .i64 .i64 ht Tryd.underlying3 hi hz n hpos (by omega) (by omega) (by rw [hby]; omega)
    have hcap := grownCap_ge w n 0 33
    have hcm := grownCap_le_maxLen w n 0 33 (by unfold maxLen; omega)
    have hsz2 : (Builtin.zeroCells (Value.cells ((.agg #[.string ByteArray.empty, .slice none 0 0, .int .i64 0, .int .i64 0, .bool false]))) n ++ Builtin.zeroCells (Value.cells ((.agg #[.string ByteArray.empty, .slice none 0 0, .int .i64 0, .int .i64 0, .bool false]))) (grownCap w n 0 33 - n)).size = grownCap w n 0 33 * 5 := by
      rw [Array.size_append, zeroCells_size, zeroCells_size, hzs, ← Nat.add_mul, Nat.add_sub_cancel' hcap]
    have hblk : (w.drew.alloc (.cells (Builtin.zeroCells (Value.cells ((.agg #[.string ByteArray.empty, .slice none 0 0, .int .i64 0, .int .i64 0, .bool false]))) n ++ Builtin.zeroCells (Value.cells ((.agg #[.string ByteArray.empty, .slice none 0 0, .int .i64 0, .int .i64 0, .bool false]))) (grownCap w n 0 33 - n)) 33)).heap[w.heap.size]? = some (.cells (Builtin.zeroCells (Value.cells ((.agg #[.string ByteArray.empty, .slice none 0 0, .int .i64 0, .int .i64 0, .bool false]))) n ++ Builtin.zeroCells (Value.cells ((.agg #[.string ByteArray.empty, .slice none 0 0, .int .i64 0, .int .i64 0, .bool false]))) (grownCap w n 0 33 - n)) 33 (0, 0)) := heap_alloc_new w.drew _
    have hbel : Below w.heap.size w (w.drew.alloc (.cells (Builtin.zeroCells (Value.cells ((.agg #[.string ByteArray.empty, .slice none 0 0, .int .i64 0, .int .i64 0, .bool false]))) n ++ Builtin.zeroCells (Value.cells ((.agg #[.string ByteArray.empty, .slice none 0 0, .int .i64 0, .int .i64 0, .bool false]))) (grownCap w n 0 33 - n)) 33)) := ((Below.refl _ _).drew).alloc (Nat.le_refl _) _
    generalize (w.drew.alloc (.cells (Builtin.zeroCells (Value.cells ((.agg #[.string ByteArray.empty, .slice none 0 0, .int .i64 0, .int .i64 0, .bool false]))) n ++ Builtin.zeroCells (Value.cells ((.agg #[.string ByteArray.empty, .slice none 0 0, .int .i64 0, .int .i64 0, .bool false]))) (grownCap w n 0 33 - n)) 33)) = W at *
    generalize (Builtin.zeroCells (Value.cells ((.agg #[.string ByteArray.empty, .slice none 0 0, .int .i64 0, .int .i64 0, .bool false]))) n ++ Builtin.zeroCells (Value.cells ((.agg #[.string ByteArray.empty, .slice none 0 0, .int .i64 0, .int .i64 0, .bool false]))) (grownCap w n 0 33 - n)) = cs at *
    generalize grownCap w n 0 33 = cap at *
    have Hrun := Lib.hid hrun
    have Hsz := Lib.hid hsz2
    have Hblk := Lib.hid hblk
    have Hbel := Lib.hid hbel
    have hcm2 : cap ≤ 9223372036854775807 := by unfold maxLen at hcm; omega
    have Hcm := Lib.hid hcm
    clear hrun hsz2 hblk hbel hi hz hsize hby hzs hsz ht hcm
    go_enter Tryd.func67, Tryd.ntmps67
    go_wp2_with (at_builtin; refine Lib.wpList_append_run _ rfl (.tmp 20) (.tmp 21) _ _ rfl _ _ rfl rfl _ _ Hrun.out ?_)
    go_ret
    exact ⟨_, rfl, own_zero _ _ _ _ w.heap.size cap cs (Nat.le_refl _) Hblk.out Hcm.out Hsz.out, Hbel.out⟩

def total (rows : List (Value × Nat × List Value)) : Nat := (rows.map (·.2.1)).sum
def cellsOf (rows : List (Value × Nat × List Value)) : List Value := (rows.map (·.2.2)).flatten
theorem total_snoc (rows : List (Value × Nat × List Value)) (k : Nat) (h : k < rows.length) : total (rows.take (k + 1)) = total (rows.take k) + rows[k].2.1 := by
  unfold total; rw [take_snoc _ _ h]
  simp only [List.map_append, List.map_cons, List.map_nil, List.sum_append, List.sum_cons, List.sum_nil, Nat.add_zero]
theorem cellsOf_snoc (rows : List (Value × Nat × List Value)) (k : Nat) (h : k < rows.length) : cellsOf (rows.take (k + 1)) = cellsOf (rows.take k) ++ rows[k].2.2 := by
  unfold cellsOf; rw [take_snoc _ _ h]
  simp only [List.map_append, List.map_cons, List.map_nil, List.flatten_append, List.flatten_cons, List.flatten_nil, List.append_nil]
theorem sum_take_le (l : List Nat) (k : Nat) : (l.take k).sum ≤ l.sum := by
  induction l generalizing k with
  | nil => simp
  | cons a l ih => cases k with
    | zero => simp
    | succ k => simp only [List.take_succ_cons, List.sum_cons]; have := ih k; omega
theorem total_le (rows : List (Value × Nat × List Value)) (k : Nat) : total (rows.take k) ≤ total rows := by
  unfold total; rw [List.map_take]; exact sum_take_le _ _

set_option maxHeartbeats 800000 in
theorem concat_any (A : Option Addr) (m c : Nat) (rows : List (Value × Nat × List Value)) (w : World) (hm : rows.length = m) (hml : m ≤ 4611686018427387904) (ha : SlAt w A (rows.map (·.1)))
    (hrows : ∀ r ∈ rows, IsSl w 5 r.1 r.2.1 r.2.2) (h1 : ∀ r ∈ rows, ∀ u ∈ r.2.2, u.oneCell' = true) (ht : total rows * 64 ≤ 140737488355328) :
    Calls Tryd.prog 42 #[.slice A m c] w fun e w' => ∃ v, e = .returned v ∧ w'.ownsRow w.heap.size 33 5 v (total rows) (cellsOf rows) ∧ Below w.heap.size w w' := by
  have Hm := Lib.hid hm
  have Ha := Lib.hid ha
  have Hrows := Lib.hid hrows
  have H1 := Lib.hid h1
  have Ht := Lib.hid ht
  clear hm ha hrows h1 ht
  go_enter Tryd.func42, Tryd.ntmps42
  go_wp2_with fail
  go_loop [3, 11] (fun s i => ∃ k : Nat, k ≤ m ∧ i = .int .i64 k ∧ s = .int .i64 (total (rows.take k) : Nat)) (fun _ i => m - (intOf i).toNat)
  case atStart => exact ⟨0, Nat.zero_le _, rfl, rfl⟩
  case round =>
    obtain ⟨k, hk, rfl, rfl⟩ := hrel
    by_cases hlt : k < m
    · have hkr : k < rows.length := by rw [Hm.out]; exact hlt
      obtain ⟨b, o, rfl, hcell⟩ := Ha.out.get (k := k) (by simpa using hkr)
      obtain ⟨B, cb, hv, hl1, hl2, hl3, hB, hB0⟩ := Hrows.out rows[k] (List.getElem_mem hkr)
      simp only [List.getElem_map] at hcell
      rw [hv] at hcell
      have Hs := Lib.hid (total_snoc rows k hkr)
      have htl := total_le rows (k + 1)
      rw [Hs.out] at htl
      have hb1 : total (rows.take k) + rows[k].2.1 ≤ 140737488355328 := by have := Ht.out; omega
      have hnn : 0 ≤ ((total (rows.take k) : Nat) : Int) + ((rows[k].2.1 : Nat) : Int) := by omega
      clear htl hB hB0 hl3 hv
      generalize total (rows.take k) = s0 at *
      generalize rows[k].2.1 = n0 at *
      go_wp2_with fail
      go_round
      case rel => exact ⟨k + 1, by omega, by go_num, by rw [Hs.out]; go_num⟩
      case measure => simp [intOf]; omega
    · have hk2 : k = m := by omega
      have Hall : Hid (rows.take k = rows) := Lib.hid (List.take_of_length_le (by rw [Hm.out]; omega))
      rw [Hall.out]
      have htt : total rows ≤ 140737488355328 := by have := Ht.out; omega
      obtain ⟨T, hT⟩ : ∃ T, T = total rows := ⟨_, rfl⟩
      rw [← hT] at htt ⊢
      have HT := Lib.hid hT
      clear hT Hall hk2
      go_wp2_with fail
      refine (grow_any T _ (by rw [HT.out]; exact Ht.out)).mono ?_
      rintro e w1 ⟨v1, rfl, hown1, hb1⟩
      have Ho := Lib.hid hown1
      have Hb := Lib.hid hb1
      clear hown1 hb1
      go_wp2_with fail
      go_loopw [6, 27] (fun s i wr => ∃ k : Nat, k ≤ m ∧ i = .int .i64 k ∧ wr.ownsRow w.heap.size 33 5 s (total (rows.take k)) (cellsOf (rows.take k)) ∧ Below w.heap.size w wr) (fun _ i _ => m - (intOf i).toNat)
      case atStart => exact ⟨0, Nat.zero_le _, rfl, Ho.out, Hb.out⟩
      case round =>
        obtain ⟨k, hk, rfl, hown, hbr⟩ := hrel
        rename_i v3 _ _ _ _ _ _ _ _ _
        have How := Lib.hid hown
        have Hbr := Lib.hid hbr
        by_cases hlt : k < m
        · have hkr : k < rows.length := by rw [Hm.out]; exact hlt
          obtain ⟨b, o, rfl, hcell⟩ := (Ha.out.below hbr).get (k := k) (by simpa using hkr)
          obtain ⟨B, cb, hv, hl1, hl2, hl3, hB, hB0⟩ := (Hrows.out rows[k] (List.getElem_mem hkr)).below hbr
          simp only [List.getElem_map] at hcell
          rw [hv] at hcell
          have Hs := Lib.hid (total_snoc rows k hkr)
          have Hcs := Lib.hid (cellsOf_snoc rows k hkr)
          have htl := total_le rows (k + 1)
          rw [Hs.out] at htl
          have hb1 : total (rows.take k) + rows[k].2.1 ≤ maxLen ∧ (total (rows.take k) + rows[k].2.1) * 64 ≤ 140737488355328 := by
            have := Ht.out; unfold maxLen; omega
          have HB := Lib.hid hB
          have HB0 := Lib.hid hB0
          have Hl3 := Lib.hid hl3
          have Hone := Lib.hid (H1.out rows[k] (List.getElem_mem hkr))
          have Hb1 := Lib.hid hb1
          clear htl hv hB hB0 hl3 hb1 hown hbr
          go_wp2_with (at_builtin; refine wpList_appb rfl (.tmp 31) (.tmp 32) _ rfl 33 _ 5 64 ty _ _ _ rfl How.out Hbr.out B _ cb _ rfl Hl3.out HB.out Hone.out HB0.out Hb1.out.1 Hb1.out.2 ?_; intro v4 w4 hown4 hb4 _ _; have How4 := Lib.hid hown4; have Hb4 := Lib.hid hb4; clear hown4 hb4)
          go_roundw
          case rel => exact ⟨k + 1, by omega, by go_num, by rw [Hs.out, Hcs.out]; exact How4.out, Hb4.out⟩
          case measure => simp [intOf]; omega
        · have Hall : Hid (rows.take k = rows) := Lib.hid (List.take_of_length_le (by rw [Hm.out]; omega))
          go_wp2_with fail
          go_ret
          exact ⟨_, rfl, by have := How.out; rw [Hall.out] at this; exact this, Hbr.out⟩
end Go.Proofs.YtdoegpklephelaaDoor.ConcatF
