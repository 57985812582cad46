/- package merge: Both -/
import Derived.Test.YtdoegpklephelaaGreatDoorFile
import Derived.Test.YtdoegpklephelaaGreatDoorName2
import Derived.Test.YtdoegpklephelaaGreatDoorApp
import Derived.Test.YtdoegpklephelaaGreatDoorProg
import Derived.WalkSpells
import Derived.Lib.AppendZeros
import Derived.Test.YtdoegpklephelaaGreatDoorMergeChk4
import Derived.Test.YtdoegpklephelaaGreatDoorCloneFB
import Derived.Deep.RegionHeld3
import Derived.Deep.AppendLies
import Derived.Deep.DrawnRows
/- files: what stands behind the first one. -/
namespace Go.Proofs.YtdoegpklephelaaGreatDoor.Merge
open Go Go.RowKit Go.Proofs.YtdoegpklephelaaGreatDoor Go.Proofs.YtdoegpklephelaaGreatDoor.Name
set_option linter.unusedVariables false

theorem files_slice (A : Option Addr) (n c k : Nat) (hk : k ≤ n) (w : World) : (Instr.slice 46 (.slice A n c) (some (.int .i64 (k : Int))) none none).run Tryz.prog w = .ok (sliced A k n c 5) w := by
  have ht : Tryz.prog.underlying 46 = some (.slice (Tryz.prog.elem 46)) := by kernel_rfl
  have he : Tryz.prog.elem 46 = 49 := by kernel_rfl
  rw [run_slice_l _ _ _ _ _ ht .i64 (k : Int) (by omega) (by omega), he, Tryz.sizeOf49]
  simp [Result.andThen]
/-- where what stands behind the first lies -/
def adv (A : Option Addr) (c : Nat) : Option Addr := if c = 1 then A else A.map (·.add 5)
theorem files_tail {w : World} {A : Option Addr} {n c : Nat} {x : Fx} {l : List Fx} (h : IsFiles w (.slice A n c) (x :: l)) :
    (∀ w', (Instr.slice 46 (.slice A n c) (some (.int .i64 1)) none none).run Tryz.prog w' = .ok (.slice (adv A c) (n - 1) (c - 1)) w') ∧ IsFiles w (.slice (adv A c) (n - 1) (c - 1)) l ∧ n = l.length + 1 := by
  obtain ⟨A0, c0, e, h1, h2, h3, h4, h5⟩ := h
  injection e with e1 e2 e3
  subst e1 e2 e3
  refine ⟨fun w' => ?_, ?_, rfl⟩
  · have := files_slice A (x :: l).length c 1 (by simp) w'
    rw [show ((1 : Nat) : Int) = 1 from rfl] at this
    rw [this]
    rfl
  · refine ⟨adv A c, c - 1, by simp, by simp at h1; omega, by omega, ?_, ?_, fun y hy => h5 y (by simp [hy])⟩
    · by_cases hl : l = []
      · subst hl; exact SlAt.nil
      · have hlen := List.length_pos_iff.2 hl
        obtain ⟨b, o, e, _⟩ := h3 (by rw [fCs_len]; simp)
        subst e
        have hc : ¬ c = 1 := by simp at h1; omega
        unfold adv
        rw [if_neg hc]
        show SlAt w (some ((⟨b, o, none⟩ : Addr).add 5)) (l.flatMap fC)
        rw [addr_add]
        have := h3.drop 5
        rw [List.flatMap_cons, List.drop_append_of_le_length (by rw [fC_len]; exact Nat.le_refl _), List.drop_of_length_le (by rw [fC_len]; exact Nat.le_refl _)] at this
        exact this
    · intro e
      unfold adv at e
      split at e
      · cases h4 e
      · cases A with
        | none => cases h4 rfl
        | some a => cases e
end Go.Proofs.YtdoegpklephelaaGreatDoor.Merge

/- slices.Concat[[]reliquary/api.File,reliquary/api.File]. -/
namespace Go.Proofs.YtdoegpklephelaaGreatDoor.ConcatF
open Go Go.RowKit Go.Proofs.YtdoegpklephelaaGreatDoor
set_option linter.unusedVariables false

theorem ty : SliceTy Tryz.prog 46 49 ((.agg #[.string ByteArray.empty, .slice none 0 0, .int .i64 0, .int .i64 0, .bool false])) 5 64 := ⟨Tryz.underlying46, by kernel_rfl, rfl, by omega⟩
theorem zeroCells_size (z : Array Value) (n : Nat) : (Builtin.zeroCells z n).size = n * z.size := by simp [Builtin.zeroCells]

set_option maxHeartbeats 400000 in
/-- room for so many, where there was none -/
theorem grow_any (n : Nat) (w : World) (hn : n * 64 ≤ 140737488355328) :
    Calls Tryz.prog 74 #[.slice none 0 0, .int .i64 (n : Int)] w fun e w' => ∃ v, e = .returned v ∧ w'.ownsRow w.heap.size 49 5 v 0 [] ∧ Below w.heap.size w w' := by
  by_cases h0 : n = 0
  · subst h0
    go_enter Tryz.func74, Tryz.ntmps74
    go_wp2_with fail
    go_ret
    exact ⟨_, rfl, World.ownsRow_nil _ _ _ _, Below.refl _ _⟩
  · obtain ⟨ht, i, hi, hz, hsize, hby, hzs, hsz⟩ := ty.parts
    have hpos : 0 < n := by omega
    have h1 : ¬ ((n : Int) < 0) := by omega
    have hp : (0 : Int) < (n : Int) := by omega
    have hb63 : (n : Int) ≤ 140737488355328 := by omega
    have hrun := Lib.run_append_nil_zeros (P := Tryz.prog) w 46 3 46 49 i ((.agg #[.string ByteArray.empty, .slice none 0 0, .int .i64 0, .int .i64 0, .bool false])) .i64 .i64 ht Tryz.underlying3 hi hz n hpos (by omega) (by omega) (by rw [hby]; omega)
    have hcap := grownCap_ge w n 0 49
    have hcm := grownCap_le_maxLen w n 0 49 (by unfold maxLen; omega)
    have hsz2 : (Builtin.zeroCells (Value.cells ((.agg #[.string ByteArray.empty, .slice none 0 0, .int .i64 0, .int .i64 0, .bool false]))) n ++ Builtin.zeroCells (Value.cells ((.agg #[.string ByteArray.empty, .slice none 0 0, .int .i64 0, .int .i64 0, .bool false]))) (grownCap w n 0 49 - n)).size = grownCap w n 0 49 * 5 := by
      rw [Array.size_append, zeroCells_size, zeroCells_size, hzs, ← Nat.add_mul, Nat.add_sub_cancel' hcap]
    have hblk : (w.drew.alloc (.cells (Builtin.zeroCells (Value.cells ((.agg #[.string ByteArray.empty, .slice none 0 0, .int .i64 0, .int .i64 0, .bool false]))) n ++ Builtin.zeroCells (Value.cells ((.agg #[.string ByteArray.empty, .slice none 0 0, .int .i64 0, .int .i64 0, .bool false]))) (grownCap w n 0 49 - n)) 49)).heap[w.heap.size]? = some (.cells (Builtin.zeroCells (Value.cells ((.agg #[.string ByteArray.empty, .slice none 0 0, .int .i64 0, .int .i64 0, .bool false]))) n ++ Builtin.zeroCells (Value.cells ((.agg #[.string ByteArray.empty, .slice none 0 0, .int .i64 0, .int .i64 0, .bool false]))) (grownCap w n 0 49 - n)) 49 (0, 0)) := heap_alloc_new w.drew _
    have hbel : Below w.heap.size w (w.drew.alloc (.cells (Builtin.zeroCells (Value.cells ((.agg #[.string ByteArray.empty, .slice none 0 0, .int .i64 0, .int .i64 0, .bool false]))) n ++ Builtin.zeroCells (Value.cells ((.agg #[.string ByteArray.empty, .slice none 0 0, .int .i64 0, .int .i64 0, .bool false]))) (grownCap w n 0 49 - n)) 49)) := ((Below.refl _ _).drew).alloc (Nat.le_refl _) _
    generalize (w.drew.alloc (.cells (Builtin.zeroCells (Value.cells ((.agg #[.string ByteArray.empty, .slice none 0 0, .int .i64 0, .int .i64 0, .bool false]))) n ++ Builtin.zeroCells (Value.cells ((.agg #[.string ByteArray.empty, .slice none 0 0, .int .i64 0, .int .i64 0, .bool false]))) (grownCap w n 0 49 - n)) 49)) = W at *
    generalize (Builtin.zeroCells (Value.cells ((.agg #[.string ByteArray.empty, .slice none 0 0, .int .i64 0, .int .i64 0, .bool false]))) n ++ Builtin.zeroCells (Value.cells ((.agg #[.string ByteArray.empty, .slice none 0 0, .int .i64 0, .int .i64 0, .bool false]))) (grownCap w n 0 49 - n)) = cs at *
    generalize grownCap w n 0 49 = cap at *
    have Hrun := Lib.hid hrun
    have Hsz := Lib.hid hsz2
    have Hblk := Lib.hid hblk
    have Hbel := Lib.hid hbel
    have hcm2 : cap ≤ 9223372036854775807 := by unfold maxLen at hcm; omega
    have Hcm := Lib.hid hcm
    clear hrun hsz2 hblk hbel hi hz hsize hby hzs hsz ht hcm
    go_enter Tryz.func74, Tryz.ntmps74
    go_wp2_with (at_builtin; refine Lib.wpList_append_run _ rfl (.tmp 20) (.tmp 21) _ _ rfl _ _ rfl rfl _ _ Hrun.out ?_)
    go_ret
    exact ⟨_, rfl, own_zero _ _ _ _ w.heap.size cap cs (Nat.le_refl _) Hblk.out Hcm.out Hsz.out, Hbel.out⟩

def total (rows : List (Value × Nat × List Value)) : Nat := (rows.map (·.2.1)).sum
def cellsOf (rows : List (Value × Nat × List Value)) : List Value := (rows.map (·.2.2)).flatten
theorem total_snoc (rows : List (Value × Nat × List Value)) (k : Nat) (h : k < rows.length) : total (rows.take (k + 1)) = total (rows.take k) + rows[k].2.1 := by
  unfold total; rw [take_snoc _ _ h]
  simp only [List.map_append, List.map_cons, List.map_nil, List.sum_append, List.sum_cons, List.sum_nil, Nat.add_zero]
theorem cellsOf_snoc (rows : List (Value × Nat × List Value)) (k : Nat) (h : k < rows.length) : cellsOf (rows.take (k + 1)) = cellsOf (rows.take k) ++ rows[k].2.2 := by
  unfold cellsOf; rw [take_snoc _ _ h]
  simp only [List.map_append, List.map_cons, List.map_nil, List.flatten_append, List.flatten_cons, List.flatten_nil, List.append_nil]
theorem sum_take_le (l : List Nat) (k : Nat) : (l.take k).sum ≤ l.sum := by
  induction l generalizing k with
  | nil => simp
  | cons a l ih => cases k with
    | zero => simp
    | succ k => simp only [List.take_succ_cons, List.sum_cons]; have := ih k; omega
theorem total_le (rows : List (Value × Nat × List Value)) (k : Nat) : total (rows.take k) ≤ total rows := by
  unfold total; rw [List.map_take]; exact sum_take_le _ _

set_option maxHeartbeats 800000 in
theorem concat_any (A : Option Addr) (m c : Nat) (rows : List (Value × Nat × List Value)) (w : World) (hm : rows.length = m) (hml : m ≤ 4611686018427387904) (ha : SlAt w A (rows.map (·.1)))
    (hrows : ∀ r ∈ rows, IsSl w 5 r.1 r.2.1 r.2.2) (h1 : ∀ r ∈ rows, ∀ u ∈ r.2.2, u.oneCell' = true) (ht : total rows * 64 ≤ 140737488355328) :
    Calls Tryz.prog 53 #[.slice A m c] w fun e w' => ∃ v, e = .returned v ∧ w'.ownsRow w.heap.size 49 5 v (total rows) (cellsOf rows) ∧ Below w.heap.size w w' := by
  have Hm := Lib.hid hm
  have Ha := Lib.hid ha
  have Hrows := Lib.hid hrows
  have H1 := Lib.hid h1
  have Ht := Lib.hid ht
  clear hm ha hrows h1 ht
  go_enter Tryz.func53, Tryz.ntmps53
  go_wp2_with fail
  go_loop [3, 11] (fun s i => ∃ k : Nat, k ≤ m ∧ i = .int .i64 k ∧ s = .int .i64 (total (rows.take k) : Nat)) (fun _ i => m - (intOf i).toNat)
  case atStart => exact ⟨0, Nat.zero_le _, rfl, rfl⟩
  case round =>
    obtain ⟨k, hk, rfl, rfl⟩ := hrel
    by_cases hlt : k < m
    · have hkr : k < rows.length := by rw [Hm.out]; exact hlt
      obtain ⟨b, o, rfl, hcell⟩ := Ha.out.get (k := k) (by simpa using hkr)
      obtain ⟨B, cb, hv, hl1, hl2, hl3, hB, hB0⟩ := Hrows.out rows[k] (List.getElem_mem hkr)
      simp only [List.getElem_map] at hcell
      rw [hv] at hcell
      have Hs := Lib.hid (total_snoc rows k hkr)
      have htl := total_le rows (k + 1)
      rw [Hs.out] at htl
      have hb1 : total (rows.take k) + rows[k].2.1 ≤ 140737488355328 := by have := Ht.out; omega
      have hnn : 0 ≤ ((total (rows.take k) : Nat) : Int) + ((rows[k].2.1 : Nat) : Int) := by omega
      clear htl hB hB0 hl3 hv
      generalize total (rows.take k) = s0 at *
      generalize rows[k].2.1 = n0 at *
      go_wp2_with fail
      go_round
      case rel => exact ⟨k + 1, by omega, by go_num, by rw [Hs.out]; go_num⟩
      case measure => simp [intOf]; omega
    · have hk2 : k = m := by omega
      have Hall : Hid (rows.take k = rows) := Lib.hid (List.take_of_length_le (by rw [Hm.out]; omega))
      rw [Hall.out]
      have htt : total rows ≤ 140737488355328 := by have := Ht.out; omega
      obtain ⟨T, hT⟩ : ∃ T, T = total rows := ⟨_, rfl⟩
      rw [← hT] at htt ⊢
      have HT := Lib.hid hT
      clear hT Hall hk2
      go_wp2_with fail
      refine (grow_any T _ (by rw [HT.out]; exact Ht.out)).mono ?_
      rintro e w1 ⟨v1, rfl, hown1, hb1⟩
      have Ho := Lib.hid hown1
      have Hb := Lib.hid hb1
      clear hown1 hb1
      go_wp2_with fail
      go_loopw [6, 27] (fun s i wr => ∃ k : Nat, k ≤ m ∧ i = .int .i64 k ∧ wr.ownsRow w.heap.size 49 5 s (total (rows.take k)) (cellsOf (rows.take k)) ∧ Below w.heap.size w wr) (fun _ i _ => m - (intOf i).toNat)
      case atStart => exact ⟨0, Nat.zero_le _, rfl, Ho.out, Hb.out⟩
      case round =>
        obtain ⟨k, hk, rfl, hown, hbr⟩ := hrel
        rename_i v3 _ _ _ _ _ _ _ _ _
        have How := Lib.hid hown
        have Hbr := Lib.hid hbr
        by_cases hlt : k < m
        · have hkr : k < rows.length := by rw [Hm.out]; exact hlt
          obtain ⟨b, o, rfl, hcell⟩ := (Ha.out.below hbr).get (k := k) (by simpa using hkr)
          obtain ⟨B, cb, hv, hl1, hl2, hl3, hB, hB0⟩ := (Hrows.out rows[k] (List.getElem_mem hkr)).below hbr
          simp only [List.getElem_map] at hcell
          rw [hv] at hcell
          have Hs := Lib.hid (total_snoc rows k hkr)
          have Hcs := Lib.hid (cellsOf_snoc rows k hkr)
          have htl := total_le rows (k + 1)
          rw [Hs.out] at htl
          have hb1 : total (rows.take k) + rows[k].2.1 ≤ maxLen ∧ (total (rows.take k) + rows[k].2.1) * 64 ≤ 140737488355328 := by
            have := Ht.out; unfold maxLen; omega
          have HB := Lib.hid hB
          have HB0 := Lib.hid hB0
          have Hl3 := Lib.hid hl3
          have Hone := Lib.hid (H1.out rows[k] (List.getElem_mem hkr))
          have Hb1 := Lib.hid hb1
          clear htl hv hB hB0 hl3 hb1 hown hbr
          go_wp2_with (at_builtin; refine wpList_appb rfl (.tmp 31) (.tmp 32) _ rfl 49 _ 5 64 ty _ _ _ rfl How.out Hbr.out B _ cb _ rfl Hl3.out HB.out Hone.out HB0.out Hb1.out.1 Hb1.out.2 ?_; intro v4 w4 hown4 hb4 _ _; have How4 := Lib.hid hown4; have Hb4 := Lib.hid hb4; clear hown4 hb4)
          go_roundw
          case rel => exact ⟨k + 1, by omega, by go_num, by rw [Hs.out, Hcs.out]; exact How4.out, Hb4.out⟩
          case measure => simp [intOf]; omega
        · have Hall : Hid (rows.take k = rows) := Lib.hid (List.take_of_length_le (by rw [Hm.out]; omega))
          go_wp2_with fail
          go_ret
          exact ⟨_, rfl, by have := How.out; rw [Hall.out] at this; exact this, Hbr.out⟩
end Go.Proofs.YtdoegpklephelaaGreatDoor.ConcatF

/- package merge: Both, Put. -/
namespace Go.Proofs.YtdoegpklephelaaGreatDoor.Merge
open Go Go.RowKit Go.Proofs.YtdoegpklephelaaGreatDoor Go.Proofs.YtdoegpklephelaaGreatDoor.Name
set_option linter.unusedVariables false

/-- append onto a row of the call's own, as one step of a region that draws -/
theorem step_app {P : Program} {ops : Array Oper} {o : Oper} {a : Act} {w : World} {K : Act → World → Prop} {Q : Exit → Act → World → Prop} {E : Prop} (hgd : o.guard = none) (s x : Operand) (t : TypeId)
    (hop : o.op = .call { callee := .builtin .append, args := #[s, x], argTypes := #[t, t] })
    (base : Nat) (e : TypeId) (z : Value) (size bytes : Nat) (hT : SliceTy P t e z size bytes)
    (v : Value) (n : Nat) (xs : List Value) (hs : a.eval s = v) (hown : w.ownsRow base e size v n xs)
    (A : Option Addr) (m c : Nat) (news : List Value) (hx : a.eval x = .slice A m c) (hl : news.length = m * size) (hr : SlAt w A news) (h1 : ∀ u ∈ news, u.oneCell' = true)
    (hA : A = none → m = 0) (h63 : n + m ≤ maxLen) (hbytes : (n + m) * bytes ≤ 140737488355328) (hbase : base ≤ w.heap.size)
    (hK : ∀ v' w', w'.ownsRow base e size v' (n + m) (xs ++ news) → w.grownBy w' v.ownBlock → K (a.put o.dst v') w') :
    if Region.wanted o (yielded ops a.tmps) = true then Oper.wp P o a w K Q else E := by
  have hw : Region.wanted o (yielded ops a.tmps) = true := by simp [Region.wanted, hgd]
  rw [if_pos hw]
  obtain ⟨v', w', hrun, h2, h3, h4⟩ := run_app (P := P) w base t o.type e z size bytes hT v n xs hown A m c news hl hr h1 hA h63 hbytes hbase
  unfold Oper.wp
  simp [execOp, hop, resolve, invoke, builtin, hs, hx, hrun, Result.andThen]
  exact hK v' w' h2 h3
def BothPost (am bm : List Fl) (w : World) (e : Ending) (w' : World) : Prop :=
  ∃ v l', e = .returned (.tuple #[v, .int .i64 (bothR am bm).1]) ∧ OwnFs w' w.heap.size v l' ∧ l'.map Prod.fst = (bothR am bm).2 ∧ Below w.heap.size w w'
theorem bothR_1 {am bm : List Fl} (h : chkF am ≠ 0) : bothR am bm = (chkF am, []) := by unfold bothR; rw [if_pos h]
theorem bothR_2 {am bm : List Fl} (h : chkF am = 0) (h2 : chkF bm ≠ 0) : bothR am bm = (chkF bm, []) := by unfold bothR; rw [if_neg (by simpa using h), if_pos h2]
theorem bothR_3 {am bm : List Fl} (h : chkF am = 0) (h2 : chkF bm = 0) (h3 : 12 < (bothL am bm).length) : bothR am bm = (11, []) := by unfold bothR; rw [if_neg (by simpa using h), if_neg (by simpa using h2), if_pos h3]
theorem maxF_lt {a b : Fl} (h : later a b < 0) : maxF a b = b := by unfold maxF; rw [if_pos h]
theorem maxF_ge {a b : Fl} (h : ¬ later a b < 0) : maxF a b = a := by unfold maxF; rw [if_neg h]
theorem keep5 {w w' : World} (hb : Below w.heap.size w w') {p0 p1 p2 p3 p4 : Addr} {v0 v1 v2 v3 v4 : Value} (h : w.cell? p0 = some v0 ∧ w.cell? p1 = some v1 ∧ w.cell? p2 = some v2 ∧ w.cell? p3 = some v3 ∧ w.cell? p4 = some v4) :
    w'.cell? p0 = some v0 ∧ w'.cell? p1 = some v1 ∧ w'.cell? p2 = some v2 ∧ w'.cell? p3 = some v3 ∧ w'.cell? p4 = some v4 :=
  ⟨cell_below hb h.1, cell_below hb h.2.1, cell_below hb h.2.2.1, cell_below hb h.2.2.2.1, cell_below hb h.2.2.2.2⟩
theorem mem_l {α : Type} {os ar br : List α} {x : α} (u : α) (hu : u ∈ os ++ [x] ∨ u ∈ ar ∨ u ∈ br) : u ∈ os ∨ u ∈ x :: ar ∨ u ∈ br := by
  simp at hu ⊢; rcases hu with (h | h) | h | h <;> simp [h]
theorem mem_r {α : Type} {os ar br : List α} {y : α} (u : α) (hu : u ∈ os ++ [y] ∨ u ∈ ar ∨ u ∈ br) : u ∈ os ∨ u ∈ ar ∨ u ∈ y :: br := by
  simp at hu ⊢; rcases hu with (h | h) | h | h <;> simp [h]
theorem mem_b {α : Type} {os ar br : List α} {x y f : α} (hf : f = x ∨ f = y) (u : α) (hu : u ∈ os ++ [f] ∨ u ∈ ar ∨ u ∈ br) : u ∈ os ∨ u ∈ x :: ar ∨ u ∈ y :: br := by
  simp at hu ⊢; rcases hu with (h | h) | h | h
  · simp [h]
  · rcases hf with rfl | rfl <;> simp [h]
  · simp [h]
  · simp [h]
def lenV : Value → Nat | .slice _ n _ => n | _ => 0
theorem tyF : SliceTy Tryz.prog 46 49 (.agg #[.string ByteArray.empty, .slice none 0 0, .int .i64 0, .int .i64 0, .bool false]) 5 64 := ⟨Tryz.underlying46, by kernel_rfl, rfl, by omega⟩
set_option maxRecDepth 100000 in
set_option maxHeartbeats 4000000 in
theorem both_any (v1 v2 : Value) (a b : List Fx) (w : World) (hm : ML w) (h1 : IsFiles w v1 a) (h2 : IsFiles w v2 b) :
    Calls Tryz.prog 34 #[v1, v2] w (BothPost (a.map Prod.fst) (b.map Prod.fst) w) := by
  have HC1 := Lib.hid (fun w' (hb : Below w.heap.size w w') => check_any v1 a w' (hm.below hb) (h1.below hb))
  have HC2 := Lib.hid (fun w' (hb : Below w.heap.size w w') => check_any v2 b w' (hm.below hb) (h2.below hb))
  have H1 := Lib.hid h1
  have H2 := Lib.hid h2
  obtain ⟨A, c, rfl, _⟩ := h1
  obtain ⟨B, d, rfl, _⟩ := h2
  obtain ⟨n, hn⟩ : ∃ n, n = a.length := ⟨_, rfl⟩
  obtain ⟨m, hm'⟩ : ∃ m, m = b.length := ⟨_, rfl⟩
  have Hn := Lib.hid hn
  have Hm := Lib.hid hm'
  have HR1 := Lib.hid (bothR_1 (am := a.map Prod.fst) (bm := b.map Prod.fst))
  have HR2 := Lib.hid (bothR_2 (am := a.map Prod.fst) (bm := b.map Prod.fst))
  have HR3 := Lib.hid (bothR_3 (am := a.map Prod.fst) (bm := b.map Prod.fst))
  have HR4 := Lib.hid (bothR_of (a := a.map Prod.fst) (b := b.map Prod.fst))
  have HK1 : Hid (chkF (a.map Prod.fst) = 0 → a.length ≤ 12 ∧ ∀ x ∈ a, x.1.bytes.length ≤ 3000) := Lib.hid (fun h => by
    rw [chkF_ok] at h
    refine ⟨by have := h.1; rwa [List.length_map] at this, fun x hx => ?_⟩
    have := h.2.1 x.1 (List.mem_map_of_mem hx)
    unfold fileE at this
    split at this
    · rename_i g; exact absurd this g
    · split at this
      · simp at this
      · omega)
  have HK2 : Hid (chkF (b.map Prod.fst) = 0 → b.length ≤ 12 ∧ ∀ x ∈ b, x.1.bytes.length ≤ 3000) := Lib.hid (fun h => by
    rw [chkF_ok] at h
    refine ⟨by have := h.1; rwa [List.length_map] at this, fun x hx => ?_⟩
    have := h.2.1 x.1 (List.mem_map_of_mem hx)
    unfold fileE at this
    split at this
    · rename_i g; exact absurd this g
    · split at this
      · simp at this
      · omega)
  rw [← hn] at HC1 H1 ⊢
  rw [← hm'] at HC2 H2 ⊢
  clear hm hn hm'
  unfold BothPost
  generalize hR : bothR (a.map Prod.fst) (b.map Prod.fst) = R at *
  clear hR
  have i0 : ∀ w, (Instr.index 88 (.agg #[.slice A n c, .slice B m d]) (.int .i64 0)).run Tryz.prog w = .ok (.slice A n c) w := fun _ => by kernel_rfl
  have i1 : ∀ w, (Instr.index 88 (.agg #[.slice A n c, .slice B m d]) (.int .i64 1)).run Tryz.prog w = .ok (.slice B m d) w := fun _ => by kernel_rfl
  go_enter Tryz.func34, Tryz.ntmps34
  go_wp2_with fail
  go_loopw [15] (fun i wx => ∃ k : Nat, k ≤ 2 ∧ i = .int .i64 (k : Int) ∧ Below w.heap.size w wx ∧ (1 ≤ k → chkF (a.map Prod.fst) = 0) ∧ (2 ≤ k → chkF (b.map Prod.fst) = 0)) (fun i _ => 2 - (intOf i).toNat)
  case atStart => exact ⟨0, Nat.zero_le _, rfl, Below.refl _ _, by simp, by simp⟩
  case round =>
    obtain ⟨k, hk, rfl, hb, h1, h2⟩ := hrel
    have Hb := Lib.hid hb
    have K1 := Lib.hid h1
    have K2 := Lib.hid h2
    clear hb h1 h2
    rcases (by omega : k = 0 ∨ k = 1 ∨ k = 2) with rfl | rfl | rfl
    · go_wp2_with fail
      refine (HC1.out _ Hb.out).mono ?_
      rintro e wx ⟨rfl, hbx⟩
      have Hbx := Lib.hid (stepN Hb.out hbx)
      clear hbx
      by_cases he : chkF (a.map Prod.fst) = 0
      · rw [he]
        go_wp2_with fail
        go_roundw
        case rel => exact ⟨1, by omega, by go_num, Hbx.out, fun _ => he, by simp⟩
        case measure => simp [intOf]
      · have HU := Lib.hid (HR1.out he)
        generalize chkF (a.map Prod.fst) = z at *
        have hz1 : (z != 0) = true := by simpa using he
        go_wp2_with fail
        go_ret2
        exact ⟨_, [], by rw [HU.out]; rfl, OwnFs.nil _ _, by rw [HU.out]; rfl, Hbx.out⟩
    · have hs0 := K1.out (Nat.le_refl _)
      go_wp2_with fail
      refine (HC2.out _ Hb.out).mono ?_
      rintro e wx ⟨rfl, hbx⟩
      have Hbx := Lib.hid (stepN Hb.out hbx)
      clear hbx
      by_cases he : chkF (b.map Prod.fst) = 0
      · rw [he]
        go_wp2_with fail
        go_roundw
        case rel => exact ⟨2, by omega, by go_num, Hbx.out, fun _ => hs0, fun _ => he⟩
        case measure => simp [intOf]
      · have HU := Lib.hid (HR2.out hs0 he)
        generalize chkF (b.map Prod.fst) = z at *
        have hz1 : (z != 0) = true := by simpa using he
        go_wp2_with fail
        go_ret2
        exact ⟨_, [], by rw [HU.out]; rfl, OwnFs.nil _ _, by rw [HU.out]; rfl, Hbx.out⟩
    · have hca := K1.out (by omega)
      have hcb := K2.out (by omega)
      have HR5 := Lib.hid (HR3.out hca hcb)
      have HR6 := Lib.hid (HR4.out hca hcb)
      obtain ⟨ha12, _⟩ := HK1.out hca
      obtain ⟨hb12, _⟩ := HK2.out hcb
      have HBd : Hid (∀ x : Fx, (x ∈ a ∨ x ∈ b) → x.1.bytes.length ≤ 3000) := Lib.hid (fun x hx => by
        rcases hx with h | h
        · exact (HK1.out hca).2 x h
        · exact (HK2.out hcb).2 x h)
      clear HR1 HR2 HR3 HR4 HC1 HC2 hca hcb K1 K2 HK1 HK2
      rw [show ((2 : Nat) : Int) = (2 : Int) from rfl]
      go_wp2_with fail
      go_loopw [0, 1, 9] (fun va vb vo wx => ∃ ar br os : List Fx, IsFiles w va ar ∧ IsFiles w vb br ∧ wx.ownsRow w.heap.size 49 5 vo os.length (os.flatMap fC) ∧ (∀ x ∈ os, FileAt w x) ∧
        (∀ x : Fx, (x ∈ os ∨ x ∈ ar ∨ x ∈ br) → (x ∈ a ∨ x ∈ b)) ∧
        bothL (a.map Prod.fst) (b.map Prod.fst) = os.map Prod.fst ++ bothL (ar.map Prod.fst) (br.map Prod.fst) ∧ os.length + ar.length + br.length ≤ 24 ∧ Below w.heap.size w wx) (fun va vb _ _ => lenV va + lenV vb)
      case atStart => exact ⟨a, b, [], H1.out, H2.out, World.ownsRow_nil _ _ _ _, by simp, by simp, rfl, by simp; omega, Hb.out⟩
      case round =>
        obtain ⟨ar, br, os, hfa, hfb, hown, hos, hmem, heq, hlen, hbx⟩ := hrel
        have Hfa := Lib.hid hfa
        have Hfb := Lib.hid hfb
        have Hown := Lib.hid hown
        have Hos := Lib.hid hos
        have Hmem := Lib.hid hmem
        have Heq := Lib.hid heq
        have Hlen := Lib.hid hlen
        have Hbx := Lib.hid hbx
        clear hfa hfb hown hos hmem heq hlen hbx Hb
        obtain ⟨A1, c1, rfl, ha1, ha2, hsa, ha0, hda⟩ := Hfa.out
        obtain ⟨B1, d1, rfl, hb1, hb2, hsb, hb0, hdb⟩ := Hfb.out
        have Hsa := Lib.hid hsa
        have Hsb := Lib.hid hsb
        have Ha0 := Lib.hid ha0
        have Hb0 := Lib.hid hb0
        have Hda := Lib.hid hda
        have Hdb := Lib.hid hdb
        have Hca := Lib.hid (And.intro ha1 ha2)
        have Hcb := Lib.hid (And.intro hb1 hb2)
        clear hsa hsb ha0 hb0 hda hdb ha1 ha2 hb1 hb2
        by_cases hz : ar = [] ∨ br = []
        · obtain ⟨Ao, co, rfl, _, _, _, _⟩ := own_slat Hown.out
          have Hfs : Hid (∀ w', Below w.heap.size w w' → ∀ x ∈ os ++ ar ++ br, FileAt w' x) := Lib.hid (fun w' hb x hx => by
            rcases List.mem_append.1 hx with hx | hx
            · rcases List.mem_append.1 hx with hx | hx
              · exact (Hos.out x hx).below hb
              · exact (Hda.out x hx).below hb
            · exact (Hdb.out x hx).below hb)
          have Hbl : Hid (∀ x ∈ os ++ ar ++ br, x.1.bytes.length ≤ 3000) := Lib.hid (fun x hx => by
            refine HBd.out x (Hmem.out x ?_)
            simpa [or_assoc] using hx)
          have Heq2 : Hid (bothL (a.map Prod.fst) (b.map Prod.fst) = (os ++ ar ++ br).map Prod.fst) := Lib.hid (by
            rw [Heq.out, List.map_append, List.map_append, List.append_assoc]
            congr 1
            rcases hz with h | h
            · rw [h]; simp [both_nil]
            · rw [h]; simp [both_nil'])
          obtain ⟨an, han⟩ : ∃ an, an = ar.length := ⟨_, rfl⟩
          obtain ⟨bn, hbn⟩ : ∃ bn, bn = br.length := ⟨_, rfl⟩
          have Han := Lib.hid han
          have Hbn := Lib.hid hbn
          rw [← han] at Hca ⊢
          rw [← hbn] at Hcb ⊢
          clear han hbn
          have hz2 : an = 0 ∨ (0 < an ∧ bn = 0) := by
            rcases hz with h | h
            · left; rw [Han.out, h]; rfl
            · rcases Nat.eq_zero_or_pos an with h2 | h2
              · exact .inl h2
              · exact .inr ⟨h2, by rw [Hbn.out, h]; rfl⟩
          clear hz
          have HC : Hid (∀ w', Below wr.heap.size wr w' → SlAt w' (some ⟨wr.heap.size, 0, none⟩) [.slice Ao os.length co, .slice A1 an c1, .slice B1 bn d1] → Calls Tryz.prog 53 #[.slice (some ⟨wr.heap.size, 0, none⟩) 3 3] w' fun e w2 => ∃ v, e = .returned v ∧ IsFiles w2 v (os ++ ar ++ br) ∧ Below w'.heap.size w' w2) := Lib.hid (fun w' hb hs => by
            have hbw := Hbx.out.trans (hb.mono Hbx.out.size)
            refine (ConcatF.concat_any (some ⟨wr.heap.size, 0, none⟩) 3 3 [(.slice Ao os.length co, os.length, os.flatMap fC), (.slice A1 an c1, an, ar.flatMap fC), (.slice B1 bn d1, bn, br.flatMap fC)] w' rfl (by omega) hs ?_ ?_ ?_).mono ?_
            · intro r hr
              simp only [List.mem_cons, List.not_mem_nil, or_false] at hr
              rcases hr with rfl | rfl | rfl
              · obtain ⟨A9, c9, h1, h2, h3, h4, h5⟩ := own_slat Hown.out
                exact ⟨A9, c9, h1, h2, h3, fCs_len _, SlAt.below h4 hb, h5⟩
              · exact ⟨A1, c1, rfl, Hca.out.1, Hca.out.2, by rw [fCs_len, Han.out], SlAt.below Hsa.out hbw, fun e => by rw [Han.out, Ha0.out e]; rfl⟩
              · exact ⟨B1, d1, rfl, Hcb.out.1, Hcb.out.2, by rw [fCs_len, Hbn.out], SlAt.below Hsb.out hbw, fun e => by rw [Hbn.out, Hb0.out e]; rfl⟩
            · intro r hr
              simp only [List.mem_cons, List.not_mem_nil, or_false] at hr
              rcases hr with rfl | rfl | rfl <;> exact fCs_one _
            · simp only [ConcatF.total, List.map_cons, List.map_nil, List.sum_cons, List.sum_nil]
              have h1 := Hlen.out
              have h2 := Han.out
              have h3 := Hbn.out
              omega
            · rintro e w2 ⟨v, rfl, hown2, hb2⟩
              refine ⟨v, rfl, own_files (base := w'.heap.size) (n := ConcatF.total [(.slice Ao os.length co, os.length, os.flatMap fC), (.slice A1 an c1, an, ar.flatMap fC), (.slice B1 bn d1, bn, br.flatMap fC)]) ?_ ?_ (fun x hx => Hfs.out _ (hbw.trans (hb2.mono hbw.size)) x hx), hb2⟩
              · have e1 : ConcatF.cellsOf [(.slice Ao os.length co, os.length, os.flatMap fC), (.slice A1 an c1, an, ar.flatMap fC), (.slice B1 bn d1, bn, br.flatMap fC)] = (os ++ ar ++ br).flatMap fC := by simp [ConcatF.cellsOf]
                rw [e1] at hown2
                exact hown2
              · simp [ConcatF.total, Han.out, Hbn.out])
          have Hnw := Lib.hid ((Below.refl wr.heap.size wr).alloc (Nat.le_refl _) (.cells #[.slice Ao os.length co, .slice A1 an c1, .slice B1 bn d1] 46))
          have Hns : Hid (SlAt (wr.alloc (.cells #[.slice Ao os.length co, .slice A1 an c1, .slice B1 bn d1] 46)) (some ⟨wr.heap.size, 0, none⟩) [.slice Ao os.length co, .slice A1 an c1, .slice B1 bn d1]) := Lib.hid (SlAt.of_heap (heap_alloc_new _ _) rfl)
          have Hl3 : Hid ((os ++ ar ++ br).length ≤ 24) := Lib.hid (by have := Hlen.out; simp; omega)
          obtain ⟨rs, hrs⟩ : ∃ rs, rs = os ++ ar ++ br := ⟨_, rfl⟩
          rw [← hrs] at Hfs Hbl Heq2 HC Hl3
          clear hrs Heq Hlen Hmem HBd Hos Hown Hda Hdb Hsa Hsb Ha0 Hb0 Hfa Hfb Han Hbn Hca Hcb
          obtain ⟨N, hN⟩ : ∃ N, N = rs.length := ⟨_, rfl⟩
          have HN := Lib.hid hN
          clear hN
          rcases hz2 with rfl | ⟨hz3, rfl⟩
          all_goals (
            go_wp2_with fail
            refine (HC.out _ Hnw.out Hns.out).mono ?_
            rintro e w2 ⟨v, rfl, hf2, hb2⟩
            have Hf2 := Lib.hid hf2
            have Hb2 := Lib.hid ((Hbx.out.trans (Hnw.out.mono Hbx.out.size)).trans (hb2.mono (by have := Hbx.out.size; have := Hnw.out.size; omega)))
            clear hf2 hb2
            obtain ⟨A2, c2, rfl, _⟩ := Hf2.out
            rw [← HN.out] at Hf2 ⊢
            by_cases h12 : 12 < N
            · have HU := Lib.hid (HR5.out (by rw [Heq2.out, List.length_map, ← HN.out]; exact h12))
              go_wp2_with fail
              go_ret2
              exact ⟨_, [], by rw [HU.out]; rfl, OwnFs.nil _ _, by rw [HU.out]; rfl, Hb2.out⟩
            · have HU := Lib.hid (HR6.out (by rw [Heq2.out, List.length_map, ← HN.out]; omega))
              have HCo := Lib.hid (copy_any _ rs _ Hf2.out (by rw [← HN.out]; omega) (fun x hx => by have := Hbl.out x hx; omega))
              go_wp2_with fail
              refine (HCo.out).mono ?_
              rintro e w3 ⟨v3, l3, rfl, ho3, he3, hb3⟩
              have Ho3 := Lib.hid (ho3.base_ Hb2.out.size)
              have He3 := Lib.hid he3
              have Hb3 := Lib.hid (Hb2.out.trans (hb3.mono Hb2.out.size))
              clear ho3 he3 hb3
              go_wp2_with fail
              go_ret2
              exact ⟨_, l3, by rw [HU.out]; rfl, Ho3.out, by rw [HU.out, He3.out, Heq2.out], Hb3.out⟩)
        · obtain ⟨x, ar', rfl⟩ : ∃ x l, ar = x :: l := by
            cases ar with
            | nil => exact absurd (.inl rfl) hz
            | cons x l => exact ⟨x, l, rfl⟩
          obtain ⟨y, br', rfl⟩ : ∃ y l, br = y :: l := by
            cases br with
            | nil => exact absurd (.inr rfl) hz
            | cons x l => exact ⟨x, l, rfl⟩
          clear hz HR5 HR6 HBd
          obtain ⟨htA, hfA, hnA⟩ := files_tail Hfa.out
          obtain ⟨htB, hfB, hnB⟩ := files_tail Hfb.out
          have HfA := Lib.hid hfA
          have HfB := Lib.hid hfB
          have Hfx : Hid (FileAt w x) := Lib.hid (Hda.out x (by simp))
          have Hfy : Hid (FileAt w y) := Lib.hid (Hdb.out y (by simp))
          obtain ⟨ba, oa, rfl, ca0, ca1, ca2, ca3, ca4⟩ := files_cells Hsa.out (k := 0) (by simp)
          obtain ⟨bb, ob, rfl, cb0, cb1, cb2, cb3, cb4⟩ := files_cells Hsb.out (k := 0) (by simp)
          simp only [Nat.zero_mul, Nat.add_zero, List.getElem_cons_zero] at ca0 ca1 ca2 ca3 ca4 cb0 cb1 cb2 cb3 cb4
          obtain ⟨an, han⟩ : ∃ an, an = (x :: ar').length := ⟨_, rfl⟩
          obtain ⟨bn, hbn⟩ : ∃ bn, bn = (y :: br').length := ⟨_, rfl⟩
          rw [← han] at htA HfA hnA Hfa ⊢
          rw [← hbn] at htB HfB hnB Hfb ⊢
          have HnA := Lib.hid hnA
          have HnB := Lib.hid hnB
          have ha1 : 0 < an := by omega
          have hb1 : 0 < bn := by omega
          have ha2 : (0 : Int) < (an : Int) := by omega
          have hb2 : (0 : Int) < (bn : Int) := by omega
          have ha3 : decide ((0 : Int) < (an : Int)) = true := decide_eq_true ha2
          have hb3 : decide ((0 : Int) < (bn : Int)) = true := decide_eq_true hb2
          have hle : os.length ≤ 24 := by have := Hlen.out; omega
          have Hle2 : Hid (os.length + ar'.length + br'.length + 2 ≤ 24) := Lib.hid (by have := Hlen.out; simp at this; omega)
          clear hfA hfB han hbn hnA hnB Hlen Hsa Hsb Ha0 Hb0 Hda Hdb
          obtain ⟨⟨n1, b1, s1, d1, g1⟩, A3, l3, c3⟩ := x
          obtain ⟨⟨n2, b2, s2, d2, g2⟩, A4, l4, c4⟩ := y
          simp only [slv] at ca0 ca1 ca2 ca3 ca4 cb0 cb1 cb2 cb3 cb4
          have qa0 := fun p : BelowBy wr => BelowBy.cell (show wr.cell? ⟨ba, oa, none⟩ = _ from cell_below Hbx.out ca0) p
          have qb0 := fun p : BelowBy wr => BelowBy.cell (show wr.cell? ⟨bb, ob, none⟩ = _ from cell_below Hbx.out cb0) p
          have Hca := Lib.hid (And.intro ca0 (And.intro ca1 (And.intro ca2 (And.intro ca3 ca4))))
          have Hcb := Lib.hid (And.intro cb0 (And.intro cb1 (And.intro cb2 (And.intro cb3 cb4))))
          clear ca0 ca1 ca2 ca3 ca4 cb0 cb1 cb2 cb3 cb4
          go_wp2_with fail
          refine wp_region_below (by kernel_rfl) (by kernel_rfl) ?_
          repeat (quiet_step (first | exact belowBy_same (stringsCompare_any _ _ _)))
          refine wpQuiet_nil ?_
          intro wq hq
          have hbq : Below wr.heap.size wr wq := by obtain ⟨p, hp⟩ := hq; rw [hp]; exact p.h
          have Hbq := Lib.hid (Hbx.out.trans (hbq.mono Hbx.out.size))
          have Hownq := Lib.hid (own_keep Hown.out hbq)
          clear hq hbq qa0 qb0 Hbx Hown
          obtain ⟨ca0, ca1, ca2, ca3, ca4⟩ := Hca.out
          obtain ⟨cb0, cb1, cb2, cb3, cb4⟩ := Hcb.out
          have ea0 := cell_below Hbq.out ca0
          have ea1 := cell_below Hbq.out ca1
          have ea2 := cell_below Hbq.out ca2
          have ea3 := cell_below Hbq.out ca3
          have ea4 := cell_below Hbq.out ca4
          have eb0 := cell_below Hbq.out cb0
          have eb1 := cell_below Hbq.out cb1
          have eb2 := cell_below Hbq.out cb2
          have eb3 := cell_below Hbq.out cb3
          have eb4 := cell_below Hbq.out cb4
          clear ca0 ca1 ca2 ca3 ca4 cb0 cb1 cb2 cb3 cb4
          have HL := Lib.hid (both_lt (x := (⟨n1, b1, s1, d1, g1⟩ : Fl)) (y := (⟨n2, b2, s2, d2, g2⟩ : Fl)) (ar'.map Prod.fst) (br'.map Prod.fst))
          have HG := Lib.hid (both_gt (x := (⟨n1, b1, s1, d1, g1⟩ : Fl)) (y := (⟨n2, b2, s2, d2, g2⟩ : Fl)) (ar'.map Prod.fst) (br'.map Prod.fst))
          have HE := Lib.hid (both_eq (x := (⟨n1, b1, s1, d1, g1⟩ : Fl)) (y := (⟨n2, b2, s2, d2, g2⟩ : Fl)) (ar'.map Prod.fst) (br'.map Prod.fst))
          obtain ⟨z, hz⟩ : ∃ z, cb n1 n2 = z := ⟨_, rfl⟩
          have Hz := Lib.hid hz
          rw [hz]
          clear hz
          rcases (by omega : z < 0 ∨ 0 < z ∨ z = 0) with h | h | rfl
          · have hd1 : decide (z < 0) = true := decide_eq_true h
            have hd2 : decide (z > 0) = false := decide_eq_false (by omega)
            have Hp7 : Hid ((wq.drew.alloc (.cells #[.string (strB n1), .slice A3 l3 c3, .int .i64 s1, .int .i64 d1, .bool g1] 49)).ownsRow w.heap.size 49 5 u9 os.length (os.flatMap fC)) := Lib.hid ((own_drew Hownq.out).alloc _)
            have Hb7 : Hid (Below w.heap.size w (wq.drew.alloc (.cells #[.string (strB n1), .slice A3 l3 c3, .int .i64 s1, .int .i64 d1, .bool g1] 49))) := Lib.hid (Hbq.out.drew.alloc Hbq.out.size _)
            have Hs7 : Hid (SlAt (wq.drew.alloc (.cells #[.string (strB n1), .slice A3 l3 c3, .int .i64 s1, .int .i64 d1, .bool g1] 49)) (some ⟨wq.heap.size, 0, none⟩) [.string (strB n1), .slice A3 l3 c3, .int .i64 s1, .int .i64 d1, .bool g1]) := Lib.hid (SlAt.of_heap (heap_alloc_new _ _) rfl)
            go_wp2_with fail
            go_region_held3 (fun W => W.cell? ⟨ba, oa, none⟩ = some (.string (strB n1)) ∧ W.cell? ⟨ba, oa + 1, none⟩ = some (.slice A3 l3 c3) ∧ W.cell? ⟨ba, oa + 2, none⟩ = some (.int .i64 s1) ∧ W.cell? ⟨ba, oa + 3, none⟩ = some (.int .i64 d1) ∧ W.cell? ⟨ba, oa + 4, none⟩ = some (.bool g1)) (first | exact keep5 Hbq.out.drew Hca.out | exact keep5 Hb7.out Hca.out | exact keep5 (own_below Hp7.out Hg8.out Hb7.out Hb7.out.size) Hca.out) ((refine step_app rfl (.tmp 66) (.tmp 70) _ rfl w.heap.size 49 _ 5 64 tyF u9 os.length (os.flatMap fC) (by simp [Act.eval]) Hp7.out (some ⟨wq.heap.size, 0, none⟩) 1 1 [.string (strB n1), .slice A3 l3 c3, .int .i64 s1, .int .i64 d1, .bool g1] (by simp [Act.eval]) rfl Hs7.out (by simp [Value.oneCell']) (by simp) (by unfold maxLen; omega) (by omega) Hb7.out.size ?_; intro v8 w8 hown8 hg8; have Ho8 := Lib.hid hown8; have Hg8 := Lib.hid hg8; clear hown8 hg8))
            all_goals (
              have Hb8 := Lib.hid (own_below Hp7.out Hg8.out Hb7.out Hb7.out.size)
              clear Hp7 Hb7 Hs7 Hg8
              go_wp2_with fail
              go_roundw
              case rel => skip; exact ⟨ar', (⟨n2, b2, s2, d2, g2⟩, A4, l4, c4) :: br', os ++ [(⟨n1, b1, s1, d1, g1⟩, A3, l3, c3)], HfA.out, Hfb.out, by rw [List.length_append, List.flatMap_append]; exact Ho8.out, (fun u hu => by
                  rcases List.mem_append.1 hu with hu | hu
                  · exact Hos.out u hu
                  · rw [List.mem_singleton.1 hu]; exact Hfx.out), (fun u hu => Hmem.out u (mem_l u hu)), by rw [Heq.out, List.map_cons, List.map_cons, HL.out (by rw [Hz.out]; exact h), List.map_append, List.append_assoc]; rfl, by have := Hle2.out; simp; omega, Hb8.out⟩
              case measure => simp [lenV]; omega)
            
          · have hd1 : decide (z < 0) = false := decide_eq_false (by omega)
            have hd2 : decide (z > 0) = true := decide_eq_true h
            have Hp7 : Hid ((wq.drew.alloc (.cells #[.string (strB n2), .slice A4 l4 c4, .int .i64 s2, .int .i64 d2, .bool g2] 49)).ownsRow w.heap.size 49 5 u9 os.length (os.flatMap fC)) := Lib.hid ((own_drew Hownq.out).alloc _)
            have Hb7 : Hid (Below w.heap.size w (wq.drew.alloc (.cells #[.string (strB n2), .slice A4 l4 c4, .int .i64 s2, .int .i64 d2, .bool g2] 49))) := Lib.hid (Hbq.out.drew.alloc Hbq.out.size _)
            have Hs7 : Hid (SlAt (wq.drew.alloc (.cells #[.string (strB n2), .slice A4 l4 c4, .int .i64 s2, .int .i64 d2, .bool g2] 49)) (some ⟨wq.heap.size, 0, none⟩) [.string (strB n2), .slice A4 l4 c4, .int .i64 s2, .int .i64 d2, .bool g2]) := Lib.hid (SlAt.of_heap (heap_alloc_new _ _) rfl)
            go_wp2_with fail
            go_region_held3 (fun W => W.cell? ⟨bb, ob, none⟩ = some (.string (strB n2)) ∧ W.cell? ⟨bb, ob + 1, none⟩ = some (.slice A4 l4 c4) ∧ W.cell? ⟨bb, ob + 2, none⟩ = some (.int .i64 s2) ∧ W.cell? ⟨bb, ob + 3, none⟩ = some (.int .i64 d2) ∧ W.cell? ⟨bb, ob + 4, none⟩ = some (.bool g2)) (first | exact keep5 Hbq.out.drew Hcb.out | exact keep5 Hb7.out Hcb.out | exact keep5 (own_below Hp7.out Hg8.out Hb7.out Hb7.out.size) Hcb.out) ((refine step_app rfl (.tmp 77) (.tmp 81) _ rfl w.heap.size 49 _ 5 64 tyF u9 os.length (os.flatMap fC) (by simp [Act.eval]) Hp7.out (some ⟨wq.heap.size, 0, none⟩) 1 1 [.string (strB n2), .slice A4 l4 c4, .int .i64 s2, .int .i64 d2, .bool g2] (by simp [Act.eval]) rfl Hs7.out (by simp [Value.oneCell']) (by simp) (by unfold maxLen; omega) (by omega) Hb7.out.size ?_; intro v8 w8 hown8 hg8; have Ho8 := Lib.hid hown8; have Hg8 := Lib.hid hg8; clear hown8 hg8))
            all_goals (
              have Hb8 := Lib.hid (own_below Hp7.out Hg8.out Hb7.out Hb7.out.size)
              clear Hp7 Hb7 Hs7 Hg8
              go_wp2_with fail
              go_roundw
              case rel => skip; exact ⟨(⟨n1, b1, s1, d1, g1⟩, A3, l3, c3) :: ar', br', os ++ [(⟨n2, b2, s2, d2, g2⟩, A4, l4, c4)], Hfa.out, HfB.out, by rw [List.length_append, List.flatMap_append]; exact Ho8.out, (fun u hu => by
                  rcases List.mem_append.1 hu with hu | hu
                  · exact Hos.out u hu
                  · rw [List.mem_singleton.1 hu]; exact Hfy.out), (fun u hu => Hmem.out u (mem_r u hu)), by rw [Heq.out, List.map_cons, List.map_cons, HG.out (by rw [Hz.out]; exact h), List.map_append, List.append_assoc]; rfl, by have := Hle2.out; simp; omega, Hb8.out⟩
              case measure => simp [lenV]; omega)
            
          · have Hbq3 := Lib.hid (Hbq.out.alloc Hbq.out.size (.cells #[.string (strB n1), .slice A3 l3 c3, .int .i64 s1, .int .i64 d1, .bool g1] 49))
            have B3 := Lib.hid (Blk.new wq 49 #[.string (strB n1), .slice A3 l3 c3, .int .i64 s1, .int .i64 d1, .bool g1])
            have Hown3 := Lib.hid (Hownq.out.alloc (.cells #[.string (strB n1), .slice A3 l3 c3, .int .i64 s1, .int .i64 d1, .bool g1] 49))
            have Hne : Hid (u9.ownBlock ≠ some wq.heap.size) := Lib.hid (fun h => by have := (Hownq.out.lt _ h).2; omega)
            have Hgle : Hid (∀ k : Nat, w.heap.size ≤ (⟨wq.heap.size, k, none⟩ : Addr).block) := Lib.hid (fun _ => Hbq.out.size)
            obtain ⟨w3, hw3⟩ : ∃ w3, w3 = wq.alloc (.cells #[.string (strB n1), .slice A3 l3 c3, .int .i64 s1, .int .i64 d1, .bool g1] 49) := ⟨_, rfl⟩
            rw [← hw3] at Hbq3 B3 Hown3
            have Hw3 := Lib.hid hw3.symm
            clear hw3
            go_wp2_with fail
            rw [Hw3.out]
            clear Hw3 ea0 ea1 ea2 ea3 ea4 eb0 eb1 eb2 eb3 eb4
            have Hfx3 := Lib.hid (Hfx.out.below Hbq3.out)
            have Hfy3 := Lib.hid (Hfy.out.below Hbq3.out)
            obtain ⟨ca0, ca1, ca2, ca3, ca4⟩ := keep5 Hbq3.out Hca.out
            obtain ⟨cb0, cb1, cb2, cb3, cb4⟩ := keep5 Hbq3.out Hcb.out
            have p0 := fun p : BelowBy w3 => BelowBy.cell ca0 p
            have q0 := fun p : BelowBy w3 => BelowBy.cell cb0 p
            have p1 := fun p : BelowBy w3 => BelowBy.cell ca1 p
            have q1 := fun p : BelowBy w3 => BelowBy.cell cb1 p
            have p2 := fun p : BelowBy w3 => BelowBy.cell ca2 p
            have q2 := fun p : BelowBy w3 => BelowBy.cell cb2 p
            have p3 := fun p : BelowBy w3 => BelowBy.cell ca3 p
            have q3 := fun p : BelowBy w3 => BelowBy.cell cb3 p
            have p4 := fun p : BelowBy w3 => BelowBy.cell ca4 p
            have q4 := fun p : BelowBy w3 => BelowBy.cell cb4 p
            clear ca0 ca1 ca2 ca3 ca4 cb0 cb1 cb2 cb3 cb4
            refine wp_region_below (by kernel_rfl) (by kernel_rfl) ?_
            repeat (quiet_step (first | exact belowBy_calls (newer_any (⟨n1, b1, s1, d1, g1⟩, A3, l3, c3) (⟨n2, b2, s2, d2, g2⟩, A4, l4, c4) _ (Hfx3.out.below (BelowBy.h _)) (Hfy3.out.below (BelowBy.h _)))))
            refine wpQuiet_nil ?_
            intro w4 hq
            have hb4 : Below w3.heap.size w3 w4 := by obtain ⟨p, hp⟩ := hq; rw [hp]; exact p.h
            have Hb4 := Lib.hid (Hbq3.out.trans (hb4.mono Hbq3.out.size))
            have B4 := Lib.hid (B3.out.below hb4 B3.out.lt)
            have Hown4 := Lib.hid (own_keep Hown3.out hb4)
            clear hq hb4 Hfx3 Hfy3 B3 Hown3 Hbq3 p0 p1 p2 p3 p4 q0 q1 q2 q3 q4
            obtain ⟨z2, hz2⟩ : ∃ z2, later (⟨n1, b1, s1, d1, g1⟩ : Fl) ⟨n2, b2, s2, d2, g2⟩ = z2 := ⟨_, rfl⟩
            have Hz2 := Lib.hid hz2
            try simp only
            rw [hz2]
            clear hz2
            by_cases h : z2 < 0
            · have hd3 : decide (z2 < 0) = true := decide_eq_true h
              obtain ⟨eb0, eb1, eb2, eb3, eb4⟩ := keep5 Hb4.out Hcb.out
              obtain ⟨ex0, ex1, ex2, ex3, ex4⟩ := blk5 B4.out
              have hf0 := B4.out.frozen 0
              have hf1 := B4.out.frozen 1
              have hf2 := B4.out.frozen 2
              have hf3 := B4.out.frozen 3
              have hf4 := B4.out.frozen 4
              have B5 : Hid (Blk (((((w4.setCell ⟨wq.heap.size, 0, none⟩ (.string (strB n2))).setCell ⟨wq.heap.size, 1, none⟩ (.slice A4 l4 c4)).setCell ⟨wq.heap.size, 2, none⟩ (.int .i64 s2)).setCell ⟨wq.heap.size, 3, none⟩ (.int .i64 d2)).setCell ⟨wq.heap.size, 4, none⟩ (.bool g2)) wq.heap.size 49 #[.string (strB n2), .slice A4 l4 c4, .int .i64 s2, .int .i64 d2, .bool g2]) := Lib.hid (((((B4.out.set_ 0 (.string (strB n2))).set_ 1 (.slice A4 l4 c4)).set_ 2 (.int .i64 s2)).set_ 3 (.int .i64 d2)).set_ 4 (.bool g2))
              have Hown5 := Lib.hid (ownsRow_setCell_other (ownsRow_setCell_other (ownsRow_setCell_other (ownsRow_setCell_other (ownsRow_setCell_other Hown4.out (a := ⟨wq.heap.size, 0, none⟩) Hne.out (.string (strB n2))) (a := ⟨wq.heap.size, 1, none⟩) Hne.out (.slice A4 l4 c4)) (a := ⟨wq.heap.size, 2, none⟩) Hne.out (.int .i64 s2)) (a := ⟨wq.heap.size, 3, none⟩) Hne.out (.int .i64 d2)) (a := ⟨wq.heap.size, 4, none⟩) Hne.out (.bool g2))
              have Hb5 := Lib.hid (((((Hb4.out.setCell (show w.heap.size ≤ (⟨wq.heap.size, 0, none⟩ : Addr).block from Hgle.out 0) (.string (strB n2))).setCell (show w.heap.size ≤ (⟨wq.heap.size, 1, none⟩ : Addr).block from Hgle.out 1) (.slice A4 l4 c4)).setCell (show w.heap.size ≤ (⟨wq.heap.size, 2, none⟩ : Addr).block from Hgle.out 2) (.int .i64 s2)).setCell (show w.heap.size ≤ (⟨wq.heap.size, 3, none⟩ : Addr).block from Hgle.out 3) (.int .i64 d2)).setCell (show w.heap.size ≤ (⟨wq.heap.size, 4, none⟩ : Addr).block from Hgle.out 4) (.bool g2))
              obtain ⟨w5, hw5⟩ : ∃ w5, w5 = (((((w4.setCell ⟨wq.heap.size, 0, none⟩ (.string (strB n2))).setCell ⟨wq.heap.size, 1, none⟩ (.slice A4 l4 c4)).setCell ⟨wq.heap.size, 2, none⟩ (.int .i64 s2)).setCell ⟨wq.heap.size, 3, none⟩ (.int .i64 d2)).setCell ⟨wq.heap.size, 4, none⟩ (.bool g2)) := ⟨_, rfl⟩
              rw [← hw5] at B5 Hown5 Hb5
              have Hw5 := Lib.hid hw5.symm
              clear hw5
              go_wp2_with fail
              rw [Hw5.out]
              clear Hw5 eb0 eb1 eb2 eb3 eb4 ex0 ex1 ex2 ex3 ex4 hf0 hf1 hf2 hf3 hf4 B4 Hown4 Hb4
              have Hp7 : Hid ((w5.drew.alloc (.cells #[.string (strB n2), .slice A4 l4 c4, .int .i64 s2, .int .i64 d2, .bool g2] 49)).ownsRow w.heap.size 49 5 u9 os.length (os.flatMap fC)) := Lib.hid ((own_drew Hown5.out).alloc _)
              have Hb7 : Hid (Below w.heap.size w (w5.drew.alloc (.cells #[.string (strB n2), .slice A4 l4 c4, .int .i64 s2, .int .i64 d2, .bool g2] 49))) := Lib.hid (Hb5.out.drew.alloc Hb5.out.size _)
              have Hs7 : Hid (SlAt (w5.drew.alloc (.cells #[.string (strB n2), .slice A4 l4 c4, .int .i64 s2, .int .i64 d2, .bool g2] 49)) (some ⟨w5.heap.size, 0, none⟩) [.string (strB n2), .slice A4 l4 c4, .int .i64 s2, .int .i64 d2, .bool g2]) := Lib.hid (SlAt.of_heap (heap_alloc_new _ _) rfl)
              go_wp2_with fail
              go_region_held3 (fun W => W.cell? ⟨wq.heap.size, 0, none⟩ = some (.string (strB n2)) ∧ W.cell? ⟨wq.heap.size, 1, none⟩ = some (.slice A4 l4 c4) ∧ W.cell? ⟨wq.heap.size, 2, none⟩ = some (.int .i64 s2) ∧ W.cell? ⟨wq.heap.size, 3, none⟩ = some (.int .i64 d2) ∧ W.cell? ⟨wq.heap.size, 4, none⟩ = some (.bool g2)) (first | exact blk5 B5.out.drew | exact blk5 (B5.out.drew.alloc _) | exact blk5 ((B5.out.drew.alloc _).grown Hg8.out Hne.out)) ((refine step_app rfl (.tmp 55) (.tmp 57) _ rfl w.heap.size 49 _ 5 64 tyF u9 os.length (os.flatMap fC) (by simp [Act.eval]) Hp7.out (some ⟨w5.heap.size, 0, none⟩) 1 1 [.string (strB n2), .slice A4 l4 c4, .int .i64 s2, .int .i64 d2, .bool g2] (by simp [Act.eval]) rfl Hs7.out (by simp [Value.oneCell']) (by simp) (by unfold maxLen; omega) (by omega) Hb7.out.size ?_; intro v8 w8 hown8 hg8; have Ho8 := Lib.hid hown8; have Hg8 := Lib.hid hg8; clear hown8 hg8))
              all_goals (
                have Hb8 := Lib.hid (own_below Hp7.out Hg8.out Hb7.out Hb7.out.size)
                clear Hp7 Hb7 Hs7 Hg8
                go_wp2_with fail
                go_roundw
                case rel => skip; exact ⟨ar', br', os ++ [(⟨n2, b2, s2, d2, g2⟩, A4, l4, c4)], HfA.out, HfB.out, by rw [List.length_append, List.flatMap_append]; exact Ho8.out, (fun u hu => by
                    rcases List.mem_append.1 hu with hu | hu
                    · exact Hos.out u hu
                    · rw [List.mem_singleton.1 hu]; exact Hfy.out), (fun u hu => Hmem.out u (mem_b (by simp) u hu)), by rw [Heq.out, List.map_cons, List.map_cons, HE.out Hz.out, maxF_lt (by have := Hz2.out; omega), List.map_append, List.append_assoc]; rfl, by have := Hle2.out; simp; omega, Hb8.out⟩
                case measure => simp [lenV]; omega)
              
            · have hd3 : decide (z2 < 0) = false := decide_eq_false h
              have B5 := B4
              have Hown5 := Hown4
              have Hb5 := Hb4
              clear B4 Hown4 Hb4
              have Hp7 : Hid ((w4.drew.alloc (.cells #[.string (strB n1), .slice A3 l3 c3, .int .i64 s1, .int .i64 d1, .bool g1] 49)).ownsRow w.heap.size 49 5 u9 os.length (os.flatMap fC)) := Lib.hid ((own_drew Hown5.out).alloc _)
              have Hb7 : Hid (Below w.heap.size w (w4.drew.alloc (.cells #[.string (strB n1), .slice A3 l3 c3, .int .i64 s1, .int .i64 d1, .bool g1] 49))) := Lib.hid (Hb5.out.drew.alloc Hb5.out.size _)
              have Hs7 : Hid (SlAt (w4.drew.alloc (.cells #[.string (strB n1), .slice A3 l3 c3, .int .i64 s1, .int .i64 d1, .bool g1] 49)) (some ⟨w4.heap.size, 0, none⟩) [.string (strB n1), .slice A3 l3 c3, .int .i64 s1, .int .i64 d1, .bool g1]) := Lib.hid (SlAt.of_heap (heap_alloc_new _ _) rfl)
              go_wp2_with fail
              go_region_held3 (fun W => W.cell? ⟨wq.heap.size, 0, none⟩ = some (.string (strB n1)) ∧ W.cell? ⟨wq.heap.size, 1, none⟩ = some (.slice A3 l3 c3) ∧ W.cell? ⟨wq.heap.size, 2, none⟩ = some (.int .i64 s1) ∧ W.cell? ⟨wq.heap.size, 3, none⟩ = some (.int .i64 d1) ∧ W.cell? ⟨wq.heap.size, 4, none⟩ = some (.bool g1)) (first | exact blk5 B5.out.drew | exact blk5 (B5.out.drew.alloc _) | exact blk5 ((B5.out.drew.alloc _).grown Hg8.out Hne.out)) ((refine step_app rfl (.tmp 55) (.tmp 57) _ rfl w.heap.size 49 _ 5 64 tyF u9 os.length (os.flatMap fC) (by simp [Act.eval]) Hp7.out (some ⟨w4.heap.size, 0, none⟩) 1 1 [.string (strB n1), .slice A3 l3 c3, .int .i64 s1, .int .i64 d1, .bool g1] (by simp [Act.eval]) rfl Hs7.out (by simp [Value.oneCell']) (by simp) (by unfold maxLen; omega) (by omega) Hb7.out.size ?_; intro v8 w8 hown8 hg8; have Ho8 := Lib.hid hown8; have Hg8 := Lib.hid hg8; clear hown8 hg8))
              all_goals (
                have Hb8 := Lib.hid (own_below Hp7.out Hg8.out Hb7.out Hb7.out.size)
                clear Hp7 Hb7 Hs7 Hg8
                go_wp2_with fail
                go_roundw
                case rel => skip; exact ⟨ar', br', os ++ [(⟨n1, b1, s1, d1, g1⟩, A3, l3, c3)], HfA.out, HfB.out, by rw [List.length_append, List.flatMap_append]; exact Ho8.out, (fun u hu => by
                    rcases List.mem_append.1 hu with hu | hu
                    · exact Hos.out u hu
                    · rw [List.mem_singleton.1 hu]; exact Hfx.out), (fun u hu => Hmem.out u (mem_b (by simp) u hu)), by rw [Heq.out, List.map_cons, List.map_cons, HE.out Hz.out, maxF_ge (by have := Hz2.out; omega), List.map_append, List.append_assoc]; rfl, by have := Hle2.out; simp; omega, Hb8.out⟩
                case measure => simp [lenV]; omega)
              
end Go.Proofs.YtdoegpklephelaaGreatDoor.Merge
