/- texts joined: ConcatP WeighRow WeighBd WeighBest RtBits RtLens WeighLen Row0 Src CodeTable CodeNext. -/
import Derived.Test.YthpdcnjaodjjmaaGreatGzUnpackQ1
import Derived.Test.YthpdcnjaodjjmaaGreatProg
import Derived.WalkSpells
import Derived.Lib.AppendZeros
import Derived.Test.YthpdcnjaodjjmaaGreatGzUnpackQ2
import Derived.StillTailTactics
import Derived.Deep.CutRange
import Derived.Deep.RegionLaw
import Derived.Deep.QuietTactic
import Derived.BigQuiet
/- slices.Concat[[]reliquary/weigh.pack,reliquary/weigh.pack]. -/
namespace Go.Proofs.YthpdcnjaodjjmaaGreat.ConcatP
open Go Go.RowKit Go.Proofs.YthpdcnjaodjjmaaGreat
set_option linter.unusedVariables false

theorem ty : SliceTy Tryz.prog 133 135 (.agg #[.int .i64 0, .slice none 0 0]) 2 32 := ⟨Tryz.underlying133, by kernel_rfl, rfl, by omega⟩
theorem zeroCells_size (z : Array Value) (n : Nat) : (Builtin.zeroCells z n).size = n * z.size := by simp [Builtin.zeroCells]

set_option maxHeartbeats 400000 in
theorem grow_any (n : Nat) (w : World) (hn : n * 32 ≤ 140737488355328) :
  Calls Tryz.prog 99 #[.slice none 0 0, .int .i64 (n : Int)] w fun e w' => ∃ v, e = .returned v ∧ w'.ownsRow w.heap.size 135 2 v 0 [] ∧ Below w.heap.size w w' := by
 by_cases h0 : n = 0
 ·subst h0
  go_enter Tryz.func99, Tryz.ntmps99
  go_wp2_with fail
  go_ret
  exact ⟨_, rfl, World.ownsRow_nil _ _ _ _, Below.refl _ _⟩
 ·obtain ⟨ht, i, hi, hz, hsize, hby, hzs, hsz⟩ := ty.parts
  have hpos : 0 < n := by omega
  have h1 : ¬ ((n : Int) < 0) := by omega
  have hp : (0 : Int) < (n : Int) := by omega
  have hb63 : (n : Int) ≤ 140737488355328 := by omega
  have hrun := Lib.run_append_nil_zeros (P := Tryz.prog) w 133 3 133 135 i (.agg #[.int .i64 0, .slice none 0 0]) .i64 .i64 ht Tryz.underlying3 hi hz n hpos (by omega) (by omega) (by rw [hby]; omega)
  have hcap := grownCap_ge w n 0 135
  have hcm := grownCap_le_maxLen w n 0 135 (by unfold maxLen; omega)
  have hsz2 : (Builtin.zeroCells (Value.cells (.agg #[.int .i64 0, .slice none 0 0])) n ++ Builtin.zeroCells (Value.cells (.agg #[.int .i64 0, .slice none 0 0])) (grownCap w n 0 135 - n)).size = grownCap w n 0 135 * 2 := by
   rw [Array.size_append, zeroCells_size, zeroCells_size, hzs, ← Nat.add_mul, Nat.add_sub_cancel' hcap]
  have hblk : (w.drew.alloc (.cells (Builtin.zeroCells (Value.cells (.agg #[.int .i64 0, .slice none 0 0])) n ++ Builtin.zeroCells (Value.cells (.agg #[.int .i64 0, .slice none 0 0])) (grownCap w n 0 135 - n)) 135)).heap[w.heap.size]? = some (.cells (Builtin.zeroCells (Value.cells (.agg #[.int .i64 0, .slice none 0 0])) n ++ Builtin.zeroCells (Value.cells (.agg #[.int .i64 0, .slice none 0 0])) (grownCap w n 0 135 - n)) 135 (0, 0)) := heap_alloc_new w.drew _
  have hbel : Below w.heap.size w (w.drew.alloc (.cells (Builtin.zeroCells (Value.cells (.agg #[.int .i64 0, .slice none 0 0])) n ++ Builtin.zeroCells (Value.cells (.agg #[.int .i64 0, .slice none 0 0])) (grownCap w n 0 135 - n)) 135)) := ((Below.refl _ _).drew).alloc (Nat.le_refl _) _
  generalize (w.drew.alloc (.cells (Builtin.zeroCells (Value.cells (.agg #[.int .i64 0, .slice none 0 0])) n ++ Builtin.zeroCells (Value.cells (.agg #[.int .i64 0, .slice none 0 0])) (grownCap w n 0 135 - n)) 135)) = W at *
  generalize (Builtin.zeroCells (Value.cells (.agg #[.int .i64 0, .slice none 0 0])) n ++ Builtin.zeroCells (Value.cells (.agg #[.int .i64 0, .slice none 0 0])) (grownCap w n 0 135 - n)) = cs at *
  generalize grownCap w n 0 135 = cap at *
  have Hrun := Lib.hid hrun
  have Hsz := Lib.hid hsz2
  have Hblk := Lib.hid hblk
  have Hbel := Lib.hid hbel
  have hcm2 : cap ≤ 9223372036854775807 := by unfold maxLen at hcm; omega
  have Hcm := Lib.hid hcm
  clear hrun hsz2 hblk hbel hi hz hsize hby hzs hsz ht hcm
  go_enter Tryz.func99, Tryz.ntmps99
  go_wp2_with (at_builtin; refine Lib.wpList_append_run _ rfl (.tmp 20) (.tmp 21) _ _ rfl _ _ rfl rfl _ _ Hrun.out ?_)
  go_ret
  exact ⟨_, rfl, own_zero _ _ _ _ w.heap.size cap cs (Nat.le_refl _) Hblk.out Hcm.out Hsz.out, Hbel.out⟩

def total (rows : List (Value × Nat × List Value)) : Nat := (rows.map (·.2.1)).sum
def cellsOf (rows : List (Value × Nat × List Value)) : List Value := (rows.map (·.2.2)).flatten
theorem total_snoc (rows : List (Value × Nat × List Value)) (k : Nat) (h : k < rows.length) : total (rows.take (k + 1)) = total (rows.take k) + rows[k].2.1 := by
 unfold total; rw [take_snoc _ _ h]
 simp only [List.map_append, List.map_cons, List.map_nil, List.sum_append, List.sum_cons, List.sum_nil, Nat.add_zero]
theorem cellsOf_snoc (rows : List (Value × Nat × List Value)) (k : Nat) (h : k < rows.length) : cellsOf (rows.take (k + 1)) = cellsOf (rows.take k) ++ rows[k].2.2 := by
 unfold cellsOf; rw [take_snoc _ _ h]
 simp only [List.map_append, List.map_cons, List.map_nil, List.flatten_append, List.flatten_cons, List.flatten_nil, List.append_nil]
theorem sum_take_le (l : List Nat) (k : Nat) : (l.take k).sum ≤ l.sum := by
 induction l generalizing k with
 | nil => simp
 | cons a l ih => cases k with
  | zero => simp
  | succ k => simp only [List.take_succ_cons, List.sum_cons]; have := ih k; omega
theorem total_le (rows : List (Value × Nat × List Value)) (k : Nat) : total (rows.take k) ≤ total rows := by
 unfold total; rw [List.map_take]; exact sum_take_le _ _

set_option maxHeartbeats 800000 in
theorem concat_any (A : Option Addr) (m c : Nat) (rows : List (Value × Nat × List Value)) (w : World) (hm : rows.length = m) (hml : m ≤ 4611686018427387904) (ha : SlAt w A (rows.map (·.1)))
  (hrows : ∀ r ∈ rows, IsSl w 2 r.1 r.2.1 r.2.2) (h1 : ∀ r ∈ rows, ∀ u ∈ r.2.2, u.oneCell' = true) (ht : total rows * 32 ≤ 140737488355328) :
  Calls Tryz.prog 80 #[.slice A m c] w fun e w' => ∃ v, e = .returned v ∧ w'.ownsRow w.heap.size 135 2 v (total rows) (cellsOf rows) ∧ Below w.heap.size w w' := by
 have Hm := Lib.hid hm
 have Ha := Lib.hid ha
 have Hrows := Lib.hid hrows
 have H1 := Lib.hid h1
 have Ht := Lib.hid ht
 clear hm ha hrows h1 ht
 go_enter Tryz.func80, Tryz.ntmps80
 go_wp2_with fail
 go_loop [3, 11] (fun s i => ∃ k : Nat, k ≤ m ∧ i = .int .i64 k ∧ s = .int .i64 (total (rows.take k) : Nat)) (fun _ i => m - (intOf i).toNat)
 case atStart => exact ⟨0, Nat.zero_le _, rfl, rfl⟩
 case round =>
  obtain ⟨k, hk, rfl, rfl⟩ := hrel
  by_cases hlt : k < m
  ·have hkr : k < rows.length := by rw [Hm.out]; exact hlt
   obtain ⟨b, o, rfl, hcell⟩ := Ha.out.get (k := k) (by simpa using hkr)
   obtain ⟨B, cb, hv, hl1, hl2, hl3, hB, hB0⟩ := Hrows.out rows[k] (List.getElem_mem hkr)
   simp only [List.getElem_map] at hcell
   rw [hv] at hcell
   have Hs := Lib.hid (total_snoc rows k hkr)
   have htl := total_le rows (k + 1)
   rw [Hs.out] at htl
   have hb1 : total (rows.take k) + rows[k].2.1 ≤ 140737488355328 := by have := Ht.out; omega
   have hnn : 0 ≤ ((total (rows.take k) : Nat) : Int) + ((rows[k].2.1 : Nat) : Int) := by omega
   clear htl hB hB0 hl3 hv
   generalize total (rows.take k) = s0 at *
   generalize rows[k].2.1 = n0 at *
   go_wp2_with fail
   go_round
   case rel => exact ⟨k + 1, by omega, by go_num, by rw [Hs.out]; go_num⟩
   case measure => simp [intOf]; omega
  ·have hk2 : k = m := by omega
   have Hall : Hid (rows.take k = rows) := Lib.hid (List.take_of_length_le (by rw [Hm.out]; omega))
   rw [Hall.out]
   have htt : total rows ≤ 140737488355328 := by have := Ht.out; omega
   obtain ⟨T, hT⟩ : ∃ T, T = total rows := ⟨_, rfl⟩
   rw [← hT] at htt ⊢
   have HT := Lib.hid hT
   clear hT Hall hk2
   go_wp2_with fail
   refine (grow_any T _ (by rw [HT.out]; exact Ht.out)).mono ?_
   rintro e w1 ⟨v1, rfl, hown1, hb1⟩
   have Ho := Lib.hid hown1
   have Hb := Lib.hid hb1
   clear hown1 hb1
   go_wp2_with fail
   go_loopw [6, 27] (fun s i wr => ∃ k : Nat, k ≤ m ∧ i = .int .i64 k ∧ wr.ownsRow w.heap.size 135 2 s (total (rows.take k)) (cellsOf (rows.take k)) ∧ Below w.heap.size w wr) (fun _ i _ => m - (intOf i).toNat)
   case atStart => exact ⟨0, Nat.zero_le _, rfl, Ho.out, Hb.out⟩
   case round =>
    obtain ⟨k, hk, rfl, hown, hbr⟩ := hrel
    rename_i v3 _ _ _ _ _ _ _ _ _
    have How := Lib.hid hown
    have Hbr := Lib.hid hbr
    by_cases hlt : k < m
    ·have hkr : k < rows.length := by rw [Hm.out]; exact hlt
     obtain ⟨b, o, rfl, hcell⟩ := (Ha.out.below hbr).get (k := k) (by simpa using hkr)
     obtain ⟨B, cb, hv, hl1, hl2, hl3, hB, hB0⟩ := (Hrows.out rows[k] (List.getElem_mem hkr)).below hbr
     simp only [List.getElem_map] at hcell
     rw [hv] at hcell
     have Hs := Lib.hid (total_snoc rows k hkr)
     have Hcs := Lib.hid (cellsOf_snoc rows k hkr)
     have htl := total_le rows (k + 1)
     rw [Hs.out] at htl
     have hb1 : total (rows.take k) + rows[k].2.1 ≤ maxLen ∧ (total (rows.take k) + rows[k].2.1) * 32 ≤ 140737488355328 := by
      have := Ht.out; unfold maxLen; omega
     have HB := Lib.hid hB
     have HB0 := Lib.hid hB0
     have Hl3 := Lib.hid hl3
     have Hone := Lib.hid (H1.out rows[k] (List.getElem_mem hkr))
     have Hb1 := Lib.hid hb1
     clear htl hv hB hB0 hl3 hb1 hown hbr
     go_wp2_with (at_builtin; refine wpList_appb rfl (.tmp 31) (.tmp 32) _ rfl 135 _ 2 32 ty _ _ _ rfl How.out Hbr.out B _ cb _ rfl Hl3.out HB.out Hone.out HB0.out Hb1.out.1 Hb1.out.2 ?_; intro v4 w4 hown4 hb4 _ _; have How4 := Lib.hid hown4; have Hb4 := Lib.hid hb4; clear hown4 hb4)
     go_roundw
     case rel => exact ⟨k + 1, by omega, by go_num, by rw [Hs.out, Hcs.out]; exact How4.out, Hb4.out⟩
     case measure => simp [intOf]; omega
    ·have Hall : Hid (rows.take k = rows) := Lib.hid (List.take_of_length_le (by rw [Hm.out]; omega))
     go_wp2_with fail
     go_ret
     exact ⟨_, rfl, by have := How.out; rw [Hall.out] at this; exact this, Hbr.out⟩
end Go.Proofs.YthpdcnjaodjjmaaGreat.ConcatP

/- package weigh: rows of packs in memory; sorting one. -/
namespace Go.Proofs.YthpdcnjaodjjmaaGreat.Weigh
open Go Go.RowKit Go.Proofs.YthpdcnjaodjjmaaGreat Go.Proofs.YthpdcnjaodjjmaaGreat.SP
set_option linter.unusedVariables false

def f2 (e : El) : Pk := (e.1, e.2.2)
def ManyAt (w : World) (base m : Nat) (e : El) : Prop := ∃ g cap, e.2.1 = (some ⟨g, 0, none⟩, m, cap) ∧ w.ownsRow base 3 1 (.slice (some ⟨g, 0, none⟩) m cap) m (e.2.2.map nv)
theorem ManyAt.below {w w' : World} {base m : Nat} {e : El} (h : ManyAt w base m e) (hb : Below w.heap.size w w') : ManyAt w' base m e := by
 obtain ⟨g, cap, h1, h2⟩ := h
 exact ⟨g, cap, h1, own_keep h2 hb⟩
theorem ManyAt.base {w : World} {base base' m : Nat} {e : El} (h : ManyAt w base m e) (hb : base' ≤ base) : ManyAt w base' m e := by
 obtain ⟨g, cap, h1, h2⟩ := h
 exact ⟨g, cap, h1, own_base h2 hb⟩
theorem own_grown {w w' : World} {base size n g : Nat} {el t : TypeId} {v : Value} {xs : List Value} {cs : Array Value} (h : w.ownsRow base el size v n xs) (hg : w.grownBy w' (some g)) (hb : Blk w g t cs) (hne : el ≠ t) : w'.ownsRow base el size v n xs := by
 refine ⟨h.1, ?_⟩
 have h0 := own_ne h hb hne
 rcases h.2 with h1 | ⟨g', cap, cur, rfl, hbg, hgb, r⟩
 ·exact .inl h1
 ·refine .inr ⟨g', cap, cur, rfl, hbg, ?_, r⟩
  have hne2 : g' ≠ g := by simpa [Value.ownBlock] using h0
  rw [hg.block g' (lt_of_block hgb) (by intro e; injection e with e; exact hne2 e)]; exact hgb
theorem own_grownV {w w' : World} {b1 b2 s1 s2 n1 n2 : Nat} {el t : TypeId} {v1 v2 : Value} {x1 x2 : List Value} (h : w.ownsRow b1 el s1 v1 n1 x1) (ho : w.ownsRow b2 t s2 v2 n2 x2) (hg : w.grownBy w' v2.ownBlock) (hne : el ≠ t) : w'.ownsRow b1 el s1 v1 n1 x1 := by
 rcases ho.2 with ⟨rfl, _⟩ | ⟨g, cap, cur, rfl, _, hgb, _⟩
 ·refine ⟨h.1, ?_⟩
  rcases h.2 with h1 | ⟨g', cap, cur, rfl, hbg, hgb, r⟩
  ·exact .inl h1
  ·refine .inr ⟨g', cap, cur, rfl, hbg, ?_, r⟩
   rw [hg.block g' (lt_of_block hgb) (by simp [Value.ownBlock])]; exact hgb
 ·exact own_grown h hg hgb hne
theorem ManyAt.grownV {w w' : World} {base m b2 s2 n2 : Nat} {e : El} {v2 : Value} {x2 : List Value} (h : ManyAt w base m e) (ho : w.ownsRow b2 135 s2 v2 n2 x2) (hg : w.grownBy w' v2.ownBlock) : ManyAt w' base m e := by
 obtain ⟨g', cap, h1, h2⟩ := h
 exact ⟨g', cap, h1, own_grownV h2 ho hg (by decide)⟩
theorem ManyAt.grown {w w' : World} {base m g : Nat} {e : El} {cs : Array Value} (h : ManyAt w base m e) (hg : w.grownBy w' (some g)) (hb : Blk w g 135 cs) : ManyAt w' base m e := by
 obtain ⟨g', cap, h1, h2⟩ := h
 exact ⟨g', cap, h1, own_grown h2 hg hb (by decide)⟩
theorem ManyAt.set_ {w : World} {base m : Nat} {e : El} (h : ManyAt w base m e) (p : Addr) (hp : p.block < base) (u : Value) : ManyAt (w.setCell p u) base m e := by
 obtain ⟨g, cap, h1, h2⟩ := h
 refine ⟨g, cap, h1, ownsRow_setCell_other h2 ?_ u⟩
 have := (h2.lt g rfl).1
 simp [Value.ownBlock]; omega
theorem ManyAt.len {w : World} {base m : Nat} {e : El} (h : ManyAt w base m e) : e.2.2.length = m := by
 obtain ⟨g, cap, h1, h2⟩ := h
 have := h2.1; simpa using this
theorem ManyAt.val {w : World} {base m : Nat} {e : El} (h : ManyAt w base m e) : ∃ g cap, slv e.2.1 = .slice (some ⟨g, 0, none⟩) m cap ∧ SlAt w (some ⟨g, 0, none⟩) (e.2.2.map nv) := by
 obtain ⟨g, cap, h1, h2⟩ := h
 obtain ⟨A, c, h3, _, _, h4, _⟩ := own_slat h2
 injection h3 with h3
 subst h3
 exact ⟨g, cap, by rw [h1]; rfl, h4⟩
theorem cellsP_len (es : List El) : (es.flatMap cellsP).length = es.length * 2 := by
 induction es with
 | nil => rfl
 | cons a d ih => rw [List.flatMap_cons, List.length_append, ih]; simp [cellsP]; omega
theorem cellsP_one (es : List El) : ∀ u ∈ es.flatMap cellsP, u.oneCell' = true := by
 intro u hu
 obtain ⟨e, _, he⟩ := List.mem_flatMap.1 hu
 simp [cellsP] at he
 rcases he with rfl | rfl <;> rfl
theorem own_row {w : World} {base g n cap : Nat} {es : List El} (h : w.ownsRow base 135 2 (.slice (some ⟨g, 0, none⟩) n cap) n (es.flatMap cellsP)) :
  ∃ rest, RowPk w g rest es ∧ es.length = n ∧ n * 2 + rest.length = cap * 2 ∧ base ≤ g ∧ n ≤ cap ∧ cap ≤ maxLen := by
 have hl := h.1
 rw [cellsP_len] at hl
 rcases h.2 with ⟨h1, _⟩ | ⟨g', cap', cur, hv, hbg, hgb, hnc, hcm, hcs, htk⟩
 ·cases h1
 ·injection hv with h1 h2 h3
  injection h1 with h1
  injection h1 with h1
  subst h1 h3
  refine ⟨cur.toList.drop (n * 2), ?_, by omega, ?_, hbg, hnc, hcm⟩
  ·unfold RowPk
   rw [← htk, List.take_append_drop]
   exact hgb
  ·rw [List.length_drop, Array.length_toList, hcs]; omega
theorem row_own {w : World} {base g n cap : Nat} {rest : List Value} {es : List El} (h : RowPk w g rest es) (hl : es.length = n) (hr : n * 2 + rest.length = cap * 2) (hb : base ≤ g) (hn : n ≤ cap) (hc : cap ≤ maxLen) :
  w.ownsRow base 135 2 (.slice (some ⟨g, 0, none⟩) n cap) n (es.flatMap cellsP) := by
 refine ⟨by rw [cellsP_len, hl], .inr ⟨g, cap, _, rfl, hb, h, hn, hc, ?_, ?_⟩⟩
 ·rw [List.size_toArray, List.length_append, cellsP_len, hl, hr]
 ·rw [List.toList_toArray, List.take_append_of_le_length (by rw [cellsP_len, hl]; exact Nat.le_refl _), List.take_of_length_le (by rw [cellsP_len, hl]; exact Nat.le_refl _)]
set_option maxHeartbeats 800000 in
theorem rising_any (base g n cap : Nat) (es : List El) (w : World) (h : w.ownsRow base 135 2 (.slice (some ⟨g, 0, none⟩) n cap) n (es.flatMap cellsP)) (hN : n ≤ 1000000) (hk : ∀ e ∈ es, e.1 ≤ 1152921504606846976) :
  Calls Tryz.prog 75 #[.slice (some ⟨g, 0, none⟩) n cap] w fun e w' => e = .returned (.slice (some ⟨g, 0, none⟩) n cap) ∧ w'.ownsRow base 135 2 (.slice (some ⟨g, 0, none⟩) n cap) n ((stab ekey es).flatMap cellsP) ∧ w.grownBy w' (some g) := by
 obtain ⟨rest, h1, h2, h3, h4, h5, h6⟩ := own_row h
 have Hc := Lib.hid (sortStable_any g n cap rest es w h1 h2 hN hk)
 have Hx := Lib.hid (And.intro h2 (And.intro h3 (And.intro h4 (And.intro h5 h6))))
 clear h h1 h2 h3 h4 h5 h6 hk
 unfold cmpV at Hc
 go_enter Tryz.func75, Tryz.ntmps75
 go_wp2_with fail
 refine (Hc.out).mono ?_
 rintro e w2 ⟨rfl, hp, hg⟩
 have Hp := Lib.hid hp
 have Hg := Lib.hid hg
 clear hp hg
 go_wp2_with fail
 go_ret
 exact ⟨rfl, row_own Hp.out (by rw [stab_length]; exact Hx.out.1) Hx.out.2.1 Hx.out.2.2.1 Hx.out.2.2.2.1 Hx.out.2.2.2.2, Hg.out⟩
def onesK (ls : List Nat) (k : Nat) : List Pk := (((List.range k).filter fun i => decide (0 < ls.getD i 0)).map fun i => (ls.getD i 0, unit ls.length i))
theorem onesK_all (ls : List Nat) : onesK ls ls.length = ones ls := rfl
theorem onesK_next (ls : List Nat) (k : Nat) : onesK ls (k + 1) = onesK ls k ++ if 0 < ls.getD k 0 then [(ls.getD k 0, unit ls.length k)] else [] := by
 unfold onesK
 rw [List.range_succ, List.filter_append, List.map_append]
 congr 1
 by_cases h : 0 < ls.getD k 0
 ·rw [if_pos h, List.filter_cons_of_pos (by simpa using h)]; rfl
 ·rw [if_neg h, List.filter_cons_of_neg (by simpa using h)]; rfl
theorem unit_set (n i : Nat) : (List.replicate n 0).set i 1 = unit n i := by
 apply List.ext_getElem
 ·simp [unit]
 ·intro j h1 h2
  simp [unit, List.getElem_set]
  by_cases hx : i = j
  ·simp [hx]
  ·rw [if_neg hx, if_neg (fun e => hx e.symm)]
end Go.Proofs.YthpdcnjaodjjmaaGreat.Weigh

/- package weigh: how great packs are; pairs, one behind the other. -/
namespace Go.Proofs.YthpdcnjaodjjmaaGreat.Weigh
open Go Go.RowKit Go.Proofs.YthpdcnjaodjjmaaGreat Go.Proofs.YthpdcnjaodjjmaaGreat.SP
set_option linter.unusedVariables false

theorem step_app {P : Program} {ops : Array Oper} {o : Oper} {a : Act} {w : World} {K : Act → World → Prop} {Q : Exit → Act → World → Prop} {E : Prop} (hgd : o.guard = none) (s x : Operand) (t : TypeId)
  (hop : o.op = .call { callee := .builtin .append, args := #[s, x], argTypes := #[t, t] })
  (base : Nat) (e : TypeId) (z : Value) (size bytes : Nat) (hT : SliceTy P t e z size bytes)
  (v : Value) (n : Nat) (xs : List Value) (hs : a.eval s = v) (hown : w.ownsRow base e size v n xs)
  (A : Option Addr) (m c : Nat) (news : List Value) (hx : a.eval x = .slice A m c) (hl : news.length = m * size) (hr : SlAt w A news) (h1 : ∀ u ∈ news, u.oneCell' = true)
  (hA : A = none → m = 0) (h63 : n + m ≤ maxLen) (hbytes : (n + m) * bytes ≤ 140737488355328) (hbase : base ≤ w.heap.size)
  (hK : ∀ v' w', w'.ownsRow base e size v' (n + m) (xs ++ news) → w.grownBy w' v.ownBlock → K (a.put o.dst v') w') :
  if Region.wanted o (yielded ops a.tmps) = true then Oper.wp P o a w K Q else E := by
 have hw : Region.wanted o (yielded ops a.tmps) = true := by simp [Region.wanted, hgd]
 rw [if_pos hw]
 obtain ⟨v', w', hrun, h2, h3, h4⟩ := run_app (P := P) w base t o.type e z size bytes hT v n xs hown A m c news hl hr h1 hA h63 hbytes hbase
 unfold Oper.wp
 simp [execOp, hop, resolve, invoke, builtin, hs, hx, hrun, Result.andThen]
 exact hK v' w' h2 h3
theorem own_low {w w' : World} {base el size n m c g : Nat} {xs : List Value} {B : Nat} (h : w.ownsRow base el size (.slice (some ⟨g, 0, none⟩) m c) n xs) (hb : Below B w w') (hg : g < B) : w'.ownsRow base el size (.slice (some ⟨g, 0, none⟩) m c) n xs := by
 refine ⟨h.1, ?_⟩
 rcases h.2 with h1 | ⟨g', cap, cur, hv, hbg, hgb, r⟩
 ·exact .inl h1
 ·refine .inr ⟨g', cap, cur, hv, hbg, ?_, r⟩
  have : g' = g := by injection hv with hv; injection hv with hv; injection hv with hv; exact hv.symm
  subst this
  rw [hb.block g' hg]; exact hgb
def BdP (t : Nat) (p : Pk) : Prop := p.1 ≤ 1000000 * 2 ^ t ∧ ∀ x ∈ p.2, x ≤ 2 ^ t
theorem BdP.up {t : Nat} {p : Pk} (h : BdP t p) : BdP (t + 1) p := by
 obtain ⟨h1, h2⟩ := h
 refine ⟨by rw [Nat.pow_succ]; omega, fun x hx => ?_⟩
 have := h2 x hx
 rw [Nat.pow_succ]; omega
theorem zip_mem (a b : List Nat) (x : Nat) (h : x ∈ List.zipWith (· + ·) a b) : ∃ y ∈ a, ∃ z ∈ b, x = y + z := by
 induction a generalizing b with
 | nil => simp at h
 | cons c a ih =>
  cases b with
  | nil => simp at h
  | cons d b =>
   rw [List.zipWith_cons_cons, List.mem_cons] at h
   rcases h with h | h
   ·exact ⟨c, by simp, d, by simp, h⟩
   ·obtain ⟨y, hy, z, hz, e⟩ := ih b h
    exact ⟨y, by simp [hy], z, by simp [hz], e⟩
theorem BdP.both {t : Nat} {p q : Pk} (h : BdP t p) (k : BdP t q) : BdP (t + 1) (both p q) := by
 obtain ⟨h1, h2⟩ := h
 obtain ⟨k1, k2⟩ := k
 refine ⟨by show p.1 + q.1 ≤ _; rw [Nat.pow_succ]; omega, fun x hx => ?_⟩
 obtain ⟨y, hy, z, hz, rfl⟩ := zip_mem _ _ _ hx
 have := h2 y hy
 have := k2 z hz
 rw [Nat.pow_succ]; omega
theorem pairs_two (l : List Pk) (a b : Pk) (j : Nat) (h : l.length = 2 * j) : pairs (l ++ [a, b]) = pairs l ++ [both a b] := by
 induction j generalizing l with
 | zero =>
  have : l = [] := List.eq_nil_of_length_eq_zero (by omega)
  subst this; rfl
 | succ j ih =>
  rcases l with _ | ⟨x, _ | ⟨y, l⟩⟩
  ·simp at h
  ·simp at h; omega
  ·simp only [List.cons_append, pairs]
   rw [ih l (by simp at h; omega)]
theorem pairs_cut (l : List Pk) (j : Nat) (h1 : l.length ≤ 2 * j + 1) (h2 : 2 * j ≤ l.length) : pairs (l.take (2 * j)) = pairs l := by
 induction j generalizing l with
 | zero =>
  rcases l with _ | ⟨x, _ | ⟨y, l⟩⟩
  ·rfl
  ·rfl
  ·simp at h1
 | succ j ih =>
  rcases l with _ | ⟨x, _ | ⟨y, l⟩⟩
  ·simp at h2
  ·simp at h2; omega
  ·have e : 2 * (j + 1) = 2 * j + 1 + 1 := by omega
   rw [e, List.take_succ_cons, List.take_succ_cons]
   simp only [pairs]
   rw [ih l (by simp at h1; omega) (by simp at h2; omega)]
theorem pairs_mem (l : List Pk) (p : Pk) (h : p ∈ pairs l) : ∃ a ∈ l, ∃ b ∈ l, p = both a b := by
 have : ∀ n, ∀ l : List Pk, l.length ≤ n → p ∈ pairs l → ∃ a ∈ l, ∃ b ∈ l, p = both a b := by
  intro n
  induction n with
  | zero => intro l hl hp; rw [List.eq_nil_of_length_eq_zero (by omega : l.length = 0)] at hp; simp [pairs] at hp
  | succ n ih =>
   intro l hl hp
   rcases l with _ | ⟨x, _ | ⟨y, l⟩⟩
   ·simp [pairs] at hp
   ·simp [pairs] at hp
   ·simp only [pairs, List.mem_cons] at hp
    rcases hp with hp | hp
    ·exact ⟨x, by simp, y, by simp, hp⟩
    ·obtain ⟨a, ha, b, hb, e⟩ := ih l (by simp at hl; omega) hp
     exact ⟨a, by simp [ha], b, by simp [hb], e⟩
 exact this _ l (Nat.le_refl _) h
theorem rows_bd (one : List Pk) (h : ∀ p ∈ one, BdP 0 p) (t : Nat) : ∀ p ∈ rowsP one t, BdP t p := by
 induction t with
 | zero => exact h
 | succ t ih =>
  intro p hp
  have h1 := (stab_perm pkey _).mem_iff.1 hp
  rcases List.mem_append.1 h1 with h2 | h2
  ·have : ∀ s, BdP s p := fun s => by
    induction s with
    | zero => exact h p h2
    | succ s ih => exact ih.up
   exact this _
  ·obtain ⟨a, ha, b, hb, rfl⟩ := pairs_mem _ p h2
   exact (ih a ha).both (ih b hb)
theorem ones_bd (ls : List Nat) (h : ∀ x ∈ ls, x ≤ 1000000) : ∀ p ∈ stab pkey (ones ls), BdP 0 p := by
 intro p hp
 have h1 := (stab_perm pkey _).mem_iff.1 hp
 unfold ones at h1
 obtain ⟨i, hi, rfl⟩ := List.mem_map.1 h1
 refine ⟨?_, fun x hx => ?_⟩
 ·show ls.getD i 0 ≤ _
  rw [List.getD_eq_getElem?_getD]
  by_cases hl : i < ls.length
  ·rw [List.getElem?_eq_getElem hl]
   have := h _ (List.getElem_mem hl)
   simp; omega
  ·rw [List.getElem?_eq_none (by omega)]; simp
 ·simp [unit] at hx
  obtain ⟨j, _, rfl⟩ := hx
  split <;> simp
theorem bd_row {t : Nat} {e : El} (h : BdP t (f2 e)) (ht : t ≤ 15) : e.1 ≤ 40000000000 ∧ ∀ x ∈ e.2.2, x ≤ 40000 := by
 have h2 : (2 : Nat) ^ t ≤ 2 ^ 15 := Nat.pow_le_pow_right (by omega) ht
 refine ⟨?_, fun x hx => ?_⟩
 ·have := h.1
  show (f2 e).1 ≤ _
  omega
 ·have := h.2 x hx
  omega
theorem cellsP_split (es : List El) (k : Nat) (h : k < es.length) : es.flatMap cellsP = (es.take k).flatMap cellsP ++ (nv es[k].1 :: slv es[k].2.1 :: (es.drop (k + 1)).flatMap cellsP) := by
 have e : es = es.take k ++ es[k] :: es.drop (k + 1) := by rw [← List.drop_eq_getElem_cons h, List.take_append_drop]
 conv => lhs; rw [e]
 rw [List.flatMap_append, List.flatMap_cons]; rfl
theorem cellsP_0 (es : List El) (k : Nat) (h : k < es.length) : (es.flatMap cellsP)[k * 2]? = some (nv es[k].1) := by
 have l : ((es.take k).flatMap cellsP).length = k * 2 := by rw [cellsP_len, List.length_take]; omega
 rw [cellsP_split es k h, List.getElem?_append_right (by omega), l]
 simp
theorem cellsP_1 (es : List El) (k : Nat) (h : k < es.length) : (es.flatMap cellsP)[k * 2 + 1]? = some (slv es[k].2.1) := by
 have l : ((es.take k).flatMap cellsP).length = k * 2 := by rw [cellsP_len, List.length_take]; omega
 rw [cellsP_split es k h, List.getElem?_append_right (by omega), l]
 simp
theorem addAll_snoc (n : Nat) (l : List Pk) (p : Pk) : addAll n (l ++ [p]) = List.zipWith (· + ·) (addAll n l) p.2 := by simp [addAll]
theorem addAll_len (n : Nat) (l : List Pk) (h : ∀ p ∈ l, p.2.length = n) : (addAll n l).length = n := by
 have : ∀ m, ∀ l : List Pk, l.length = m → (∀ p ∈ l, p.2.length = n) → (addAll n l).length = n := by
  intro m
  induction m with
  | zero => intro l hl _; rw [List.eq_nil_of_length_eq_zero hl]; simp [addAll]
  | succ m ih =>
   intro l hl hp
   have hne : l ≠ [] := fun e => by rw [e] at hl; simp at hl
   rw [← List.dropLast_concat_getLast hne, addAll_snoc, List.length_zipWith, ih _ (by simp [hl]) (fun p hp' => hp p ((List.dropLast_sublist l).subset hp')), hp _ (List.getLast_mem hne)]
   omega
 exact this _ l rfl h
theorem addAll_bd (n c : Nat) (l : List Pk) (h : ∀ p ∈ l, ∀ x ∈ p.2, x ≤ c) : ∀ x ∈ addAll n l, x ≤ c * l.length := by
 have : ∀ m, ∀ l : List Pk, l.length = m → (∀ p ∈ l, ∀ x ∈ p.2, x ≤ c) → ∀ x ∈ addAll n l, x ≤ c * l.length := by
  intro m
  induction m with
  | zero => intro l hl _ x hx; rw [List.eq_nil_of_length_eq_zero hl] at hx; simp [addAll] at hx; omega
  | succ m ih =>
   intro l hl hp x hx
   have hne : l ≠ [] := fun e => by rw [e] at hl; simp at hl
   rw [← List.dropLast_concat_getLast hne, addAll_snoc] at hx
   obtain ⟨y, hy, z, hz, rfl⟩ := zip_mem _ _ _ hx
   have h1 := ih l.dropLast (by simp [hl]) (fun p hp' => hp p ((List.dropLast_sublist l).subset hp')) y hy
   have h2 := hp _ (List.getLast_mem hne) z hz
   rw [List.length_dropLast, hl, Nat.add_sub_cancel] at h1
   rw [hl, Nat.mul_succ]; omega
 exact this _ l rfl h
theorem used_ones (zs : List Int) : usedI zs = (ones (natsOf zs)).length := by
 rw [used_len]
 unfold usedI used
 have e : natsOf zs = (List.range (natsOf zs).length).map (fun i => (natsOf zs).getD i 0) := by
  apply List.ext_getElem
  ·simp
  ·intro i h1 h2
   simp [List.getD_eq_getElem?_getD, h1]
 have h : ((natsOf zs).filter (fun x => decide (0 < x))).length = ((List.range (natsOf zs).length).filter fun i => decide (0 < (natsOf zs).getD i 0)).length := by
  conv => lhs; rw [e]
  rw [List.filter_map, List.length_map]; rfl
 rw [← h]
 unfold natsOf
 rw [List.filter_map, List.length_map]
 congr 1
 apply List.filter_congr
 intro x _
 simp [Function.comp]
theorem ones_le (ls : List Nat) : (ones ls).length ≤ ls.length := by
 rw [used_len]
 unfold used
 have := List.length_filter_le (fun i => decide (0 < ls.getD i 0)) (List.range ls.length)
 rwa [List.length_range] at this
end Go.Proofs.YthpdcnjaodjjmaaGreat.Weigh

/- package weigh: the shortest lengths; the plain law of the statements. -/
namespace Go.Proofs.YthpdcnjaodjjmaaGreat.SP
set_option linter.unusedVariables false

def ValidZ (ps : List (Nat × Nat)) (L : Nat) : Prop := (∀ p ∈ ps, 0 < p.1 → 1 ≤ p.2 ∧ p.2 ≤ L) ∧ (ps.map fun p => if 0 < p.1 then 2 ^ (L - p.2) else 0).sum ≤ 2 ^ L
def costZ (ps : List (Nat × Nat)) : Nat := (ps.map fun p => p.1 * p.2).sum
theorem zip_range {β : Type} (g : Nat × Nat → β) (ls ms : List Nat) (h : ms.length = ls.length) : (ls.zip ms).map g = (List.range ls.length).map fun i => g (ls.getD i 0, ms.getD i 0) := by
 apply List.ext_getElem
 ·simp [h]
 ·intro i h1 h2
  simp at h1 h2
  simp [List.getD_eq_getElem?_getD, h2, h]
theorem costZ_cost (ls ms : List Nat) (h : ms.length = ls.length) : costZ (ls.zip ms) = cost ls ms := by
 unfold costZ cost
 rw [zip_range _ ls ms h]
theorem cost_used (ls ms : List Nat) : cost ls ms = ((used ls).map fun i => ls.getD i 0 * ms.getD i 0).sum := sum_used ls _ (fun i _ h => by rw [h]; simp)
theorem wide_used (ls ms : List Nat) (f : Nat → Nat) (h : ms.length = ls.length) : ((ls.zip ms).map fun p => if 0 < p.1 then f p.2 else 0).sum = ((used ls).map fun i => f (ms.getD i 0)).sum := by
 rw [zip_range _ ls ms h, sum_used ls _ (fun i _ h => by show (if 0 < ls.getD i 0 then _ else 0) = 0; rw [h]; rfl)]
 congr 1
 apply List.map_congr_left
 intro i hi
 have := (used_mem ls i).1 hi
 rw [if_pos this.2]
theorem zip_mem_get (ls ms : List Nat) (h : ms.length = ls.length) (p : Nat × Nat) (hp : p ∈ ls.zip ms) : ∃ i, i < ls.length ∧ p = (ls.getD i 0, ms.getD i 0) := by
 obtain ⟨i, hi, rfl⟩ := List.mem_iff_getElem.1 hp
 rw [List.length_zip] at hi
 have h1 : i < ls.length := by omega
 have h2 : i < ms.length := by omega
 exact ⟨i, h1, by simp [List.getD_eq_getElem?_getD, h1, h2]⟩
theorem get_zip_mem (ls ms : List Nat) (h : ms.length = ls.length) (i : Nat) (hi : i < ls.length) : (ls.getD i 0, ms.getD i 0) ∈ ls.zip ms := by
 rw [List.mem_iff_getElem]
 have h2 : i < ms.length := by omega
 exact ⟨i, by rw [List.length_zip]; omega, by simp [List.getD_eq_getElem?_getD, hi, h2]⟩
theorem validZ_used (ls ms : List Nat) (L : Nat) (h : ms.length = ls.length) : ValidZ (ls.zip ms) L ↔ (∀ i ∈ used ls, 1 ≤ ms.getD i 0 ∧ ms.getD i 0 ≤ L) ∧ ((used ls).map fun i => 2 ^ (L - ms.getD i 0)).sum ≤ 2 ^ L := by
 unfold ValidZ
 rw [wide_used ls ms (fun x => 2 ^ (L - x)) h]
 constructor
 ·rintro ⟨h1, h2⟩
  refine ⟨fun i hi => ?_, h2⟩
  have := (used_mem ls i).1 hi
  exact h1 _ (get_zip_mem ls ms h i this.1) this.2
 ·rintro ⟨h1, h2⟩
  refine ⟨fun p hp h0 => ?_, h2⟩
  obtain ⟨i, hi, rfl⟩ := zip_mem_get ls ms h p hp
  exact h1 i ((used_mem ls i).2 ⟨hi, h0⟩)
theorem best (ls : List Nat) (L : Nat) (hL : 1 ≤ L) (hn : (ones ls).length ≤ 2 ^ L) : (lengthsP ls L).length = ls.length ∧ ValidZ (ls.zip (lengthsP ls L)) L ∧ (∀ x ∈ lengthsP ls L, x ≤ L) ∧
  ∀ ms : List Nat, ms.length = ls.length → ValidZ (ls.zip ms) L → costZ (ls.zip (lengthsP ls L)) ≤ costZ (ls.zip ms) := by
 by_cases h2 : 2 ≤ (ones ls).length
 ·obtain ⟨h3, h4, h5, _⟩ := lengths_many ls L hL h2 hn
  refine ⟨h3, (validZ_used ls _ L h3).2 ⟨fun i hi => ?_, Nat.le_of_eq h5⟩, fun x hx => ?_, fun ms hm hv => ?_⟩
  ·have hu := (used_mem ls i).1 hi
   have := h4 i hu.1
   refine ⟨?_, this.2⟩
   rcases Nat.eq_zero_or_pos ((lengthsP ls L).getD i 0) with h | h
   ·have := this.1.1 h; omega
   ·exact h
  ·obtain ⟨i, hi, rfl⟩ := List.mem_iff_getElem.1 hx
   have := (h4 i (by omega)).2
   simpa [List.getD_eq_getElem?_getD, hi] using this
  ·rw [costZ_cost _ _ h3, costZ_cost _ _ hm]
   obtain ⟨v1, v2⟩ := (validZ_used ls ms L hm).1 hv
   exact lengths_best ls ms L hL h2 hn (fun i hi => (v1 i hi).2) v2
 ·by_cases h0 : (ones ls).length = 0
  ·have hu : used ls = [] := List.eq_nil_of_length_eq_zero (by rw [← used_len]; exact h0)
   have hl : lengthsP ls L = List.replicate ls.length 0 := by unfold lengthsP; rw [if_pos h0]
   have h3 : (lengthsP ls L).length = ls.length := by rw [hl]; simp
   refine ⟨h3, (validZ_used ls _ L h3).2 ⟨by rw [hu]; simp, by rw [hu]; simp⟩, fun x hx => ?_, fun ms hm hv => ?_⟩
   ·rw [hl] at hx
    have := (List.mem_replicate.1 hx).2
    omega
   ·rw [costZ_cost _ _ h3, cost_used, hu]; simp
  ·have h1 : (ones ls).length = 1 := by omega
   have hul : (used ls).length = 1 := by rw [← used_len]; exact h1
   obtain ⟨i, hu⟩ := List.length_eq_one_iff.1 hul
   have him := (used_mem ls i).1 (by rw [hu]; simp)
   have hl : lengthsP ls L = unit ls.length i := by
    unfold lengthsP
    rw [if_neg h0, if_pos h1]
    unfold ones
    rw [hu]; rfl
   have h3 : (lengthsP ls L).length = ls.length := by rw [hl, unit_len]
   have hg : (lengthsP ls L).getD i 0 = 1 := by rw [hl, unit_get _ _ _ him.1, if_pos rfl]
   refine ⟨h3, (validZ_used ls _ L h3).2 ⟨?_, ?_⟩, fun x hx => ?_, fun ms hm hv => ?_⟩
   ·rw [hu]; intro j hj; simp at hj; subst hj; rw [hg]; omega
   ·rw [hu]
    simp only [List.map_cons, List.map_nil, List.sum_cons, List.sum_nil, Nat.add_zero, hg]
    exact Nat.pow_le_pow_right (by omega) (by omega)
   ·rw [hl] at hx
    obtain ⟨j, hj, rfl⟩ := List.mem_iff_getElem.1 hx
    have : (unit ls.length i).getD j 0 ≤ 1 := by rw [unit_get _ _ _ (by simpa [unit] using hj)]; split <;> omega
    rw [List.getD_eq_getElem?_getD, List.getElem?_eq_getElem hj] at this
    simp at this; omega
   ·rw [costZ_cost _ _ h3, costZ_cost _ _ hm, cost_used, cost_used, hu]
    simp only [List.map_cons, List.map_nil, List.sum_cons, List.sum_nil, Nat.add_zero, hg]
    have hv1 := ((validZ_used ls ms L hm).1 hv).1 i (by rw [hu]; simp)
    exact Nat.mul_le_mul_left _ hv1.1
end Go.Proofs.YthpdcnjaodjjmaaGreat.SP

/- what is packed is read: numbers, symbols, bytes, tokens; the plain law. No program in sight. -/
namespace Go.Proofs.YthpdcnjaodjjmaaGreat.Rt
open Go.Proofs.YthpdcnjaodjjmaaGreat.Bits Go.Proofs.YthpdcnjaodjjmaaGreat.Code Go.Proofs.YthpdcnjaodjjmaaGreat.Match Go.Proofs.YthpdcnjaodjjmaaGreat.SP Go.Proofs.YthpdcnjaodjjmaaGreat.Inf Go.Proofs.YthpdcnjaodjjmaaGreat.Blk
set_option linter.unusedVariables false

theorem thn {α β : Type} (a : α) (f : α → Inf.Rd β) : (Inf.Rd.ok a).then_ f = f a := rfl
def Has (row : List Bool) (p : Nat) (bs : List Bool) : Prop := p ≤ row.length ∧ ∃ t, row.drop p = bs ++ t
section
variable {row a b bs : List Bool} {p : Nat}
theorem Has.le (h : Has row p bs) : p + bs.length ≤ row.length := by
 obtain ⟨h1, t, h2⟩ := h
 have := congrArg List.length h2
 rw [List.length_drop, List.length_append] at this; omega
theorem Has.left (h : Has row p (a ++ b)) : Has row p a := by
 obtain ⟨h1, t, h2⟩ := h
 exact ⟨h1, b ++ t, by rw [h2, List.append_assoc]⟩
theorem Has.right (h : Has row p (a ++ b)) : Has row (p + a.length) b := by
 have hl := h.le
 obtain ⟨h1, t, h2⟩ := h
 rw [List.length_append] at hl
 exact ⟨by omega, t, by rw [← List.drop_drop, h2, List.append_assoc, List.drop_left]⟩
theorem get_has {n k : Nat} (h : Has row p (numBits n k)) (hn : n < 2 ^ k) : getR row p k = .ok (n, p + k) := by
 have hl := h.le
 rw [numBits_length] at hl
 unfold getR
 rw [if_pos hl]
 obtain ⟨_, t, h2⟩ := h
 rw [h2, List.take_append_of_le_length (by rw [numBits_length]; exact Nat.le_refl _), List.take_of_length_le (by rw [numBits_length]; exact Nat.le_refl _), num_numBits, Nat.mod_eq_of_lt hn]
structure Cd (ls : List Nat) : Prop where
 le : ∀ x ∈ ls, x ≤ 15
 room : room ls ≤ 32768
theorem getD_lt {ls : List Nat} {i : Nat} (h : ls.getD i 0 ≠ 0) : i < ls.length := by
 rcases Nat.lt_or_ge i ls.length with h1 | h1
 ·exact h1
 ·rw [List.getD_eq_getElem?_getD, List.getElem?_eq_none h1] at h; exact absurd rfl h
theorem Cd.bits {ls : List Nat} (hc : Cd ls) {i : Nat} : ls.getD i 0 ≤ 15 := by
 rw [List.getD_eq_getElem?_getD]
 rcases Nat.lt_or_ge i ls.length with h1 | h1
 ·rw [List.getElem?_eq_getElem h1]; exact hc.le _ (List.getElem_mem h1)
 ·rw [List.getElem?_eq_none h1]; exact Nat.zero_le _
theorem sym_has {ls : List Nat} {i : Nat} (hc : Cd ls) (h : Has row p (codeB ls i)) (h0 : ls.getD i 0 ≠ 0) : symR row ls p = .ok (i, p + ls.getD i 0) := by
 obtain ⟨_, t, h2⟩ := h
 have hn := next_code ls i t (getD_lt h0) h0 hc.le hc.room
 unfold codeB at h2
 unfold symR
 rw [h2, hn]; rfl
theorem codeB_length (ls : List Nat) (i : Nat) : (codeB ls i).length = ls.getD i 0 := hi_length _ _
end
theorem ofNat_toNat8 (x : UInt8) : UInt8.ofNat x.toNat = x := by apply UInt8.toNat_inj.1; simp
theorem push_ok {out : List UInt8} (x : UInt8) (h : out.length < 3000) : pushR out x = .ok (out ++ [x]) := by
 unfold pushR; rw [if_neg (by omega)]
theorem raw_has {row : List Bool} : ∀ (b : List UInt8) (p : Nat) (out : List UInt8), Has row p (bitsL b) → out.length + b.length ≤ 3000 → rawR row b.length p out = .ok (p + 8 * b.length, out ++ b)
 | [], p, out, h, hl => by simp [rawR]
 | x :: b, p, out, h, hl => by
  rw [List.length_cons] at hl
  rw [bitsL_cons] at h
  have h1 := h.left
  have h2 := h.right
  rw [bitsOf_length] at h2
  have e : getR row p 8 = .ok (x.toNat, p + 8) := get_has h1 x.toNat_lt
  show (getR row p 8).then_ _ = _
  rw [e, thn]
  dsimp only
  rw [ofNat_toNat8, push_ok x (by omega), thn, raw_has b (p + 8) (out ++ [x]) h2 (by simp; omega), List.append_assoc]
  congr 2
  rw [List.length_cons]; omega
theorem symK_max (l : List (Nat × Nat)) (n : Nat) : ∀ K j, symK l n K < j → j < K → n < (l.getD j (0, 0)).1
 | 0, j, _, h => absurd h (by omega)
 | K + 1, j, h, hj => by
  unfold symK at h
  split at h
  ·omega
  ·rename_i hn
   by_cases e : j = K
   ·subst e; omega
   ·exact symK_max l n K j h (by omega)
theorem sames_next : ∀ k < 28, (sameL.getD (k + 1) (0, 0)).1 ≤ (sameL.getD k (0, 0)).1 + 2 ^ (sameL.getD k (0, 0)).2 := by decide
theorem fars_next : ∀ k < 29, (farL.getD (k + 1) (0, 0)).1 ≤ (farL.getD k (0, 0)).1 + 2 ^ (farL.getD k (0, 0)).2 := by decide
theorem same_sym (n : Nat) (h1 : 3 ≤ n) (h2 : n ≤ 258) : symS sameL n < 29 ∧ (sameL.getD (symS sameL n) (0, 0)).1 ≤ n ∧ n - (sameL.getD (symS sameL n) (0, 0)).1 < 2 ^ (sameL.getD (symS sameL n) (0, 0)).2 := by
 have h3 : symS sameL n < 29 := symS_lt sameL n (by decide)
 have h4 := symS_le sameL n (by decide) h1
 have h5 := symK_max sameL n 29
 have e : symK sameL n 29 = symS sameL n := rfl
 rw [e] at h5
 refine ⟨h3, h4, ?_⟩
 generalize symS sameL n = k at *
 by_cases hk : k < 28
 ·have := h5 (k + 1) (by omega) (by omega)
  have := sames_next k hk
  omega
 ·obtain rfl : k = 28 := by omega
  have e28 : sameL.getD 28 (0, 0) = (258, 0) := rfl
  rw [e28] at h4 ⊢
  dsimp only at h4 ⊢
  omega
theorem far_sym (n : Nat) (h1 : 1 ≤ n) (h2 : n ≤ 3000) : symS farL n < 30 ∧ (farL.getD (symS farL n) (0, 0)).1 ≤ n ∧ n - (farL.getD (symS farL n) (0, 0)).1 < 2 ^ (farL.getD (symS farL n) (0, 0)).2 := by
 have h3 : symS farL n < 30 := symS_lt farL n (by decide)
 have h4 := symS_le farL n (by decide) h1
 have h5 := symK_max farL n 30
 have e : symK farL n 30 = symS farL n := rfl
 rw [e] at h5
 refine ⟨h3, h4, ?_⟩
 generalize symS farL n = k at *
 by_cases hk : k < 29
 ·have := h5 (k + 1) (by omega) (by omega)
  have := fars_next k hk
  omega
 ·obtain rfl : k = 29 := by omega
  have e29 : farL.getD 29 (0, 0) = (24577, 13) := rfl
  rw [e29] at h4
  dsimp only at h4
  omega
theorem cpy_succ' (d : Nat) : ∀ (n : Nat) (l : List UInt8), cpy d (n + 1) l = cpy d n (l ++ [l.getD (l.length - d) 0])
 | 0, l => rfl
 | n + 1, l => by
  have ih := cpy_succ' d n l
  show cpy d (n + 1) l ++ [(cpy d (n + 1) l).getD ((cpy d (n + 1) l).length - d) 0] = _
  rw [ih]; rfl
theorem copy_ok (d : Nat) : ∀ (n : Nat) (out : List UInt8), out.length + n ≤ 3000 → copyR d n out = .ok (cpy d n out)
 | 0, out, _ => rfl
 | n + 1, out, h => by
  show (pushR out (out.getD (out.length - d) 0)).then_ _ = _
  rw [push_ok _ (by omega), thn, copy_ok d n _ (by simp; omega), cpy_succ']
theorem cpy_front (o : List UInt8) (d : Nat) (h1 : 1 ≤ d) : ∀ (n : Nat) (l : List UInt8), d ≤ l.length → cpy d n (o ++ l) = o ++ cpy d n l
 | 0, l, _ => rfl
 | n + 1, l, h => by
  show cpy d n (o ++ l) ++ [(cpy d n (o ++ l)).getD ((cpy d n (o ++ l)).length - d) 0] = o ++ (cpy d n l ++ [(cpy d n l).getD ((cpy d n l).length - d) 0])
  rw [cpy_front o d h1 n l h, ← List.append_assoc]
  congr 2
  have hl := cpy_length d n l
  rw [List.getD_eq_getElem?_getD, List.getD_eq_getElem?_getD, List.length_append, List.getElem?_append_right (by omega)]
  congr 2
  omega
theorem say_front (o : List UInt8) : ∀ (ts : List Tok) (l : List UInt8), (chkAll ts (l.length : Int)).1 = 0 → ts.foldl putTok (o ++ l) = o ++ ts.foldl putTok l
 | [], l, _ => rfl
 | t :: ts, l, h => by
  simp only [chkAll] at h
  have ht : (chkTok (l.length : Int) t).1 = 0 := by
   by_cases h1 : (chkTok (l.length : Int) t).1 = 0
   ·exact h1
   ·rw [if_neg h1] at h; exact h
  rw [if_pos ht] at h
  rw [List.foldl_cons, List.foldl_cons]
  have hp : putTok (o ++ l) t = o ++ putTok l t ∧ (chkTok (l.length : Int) t).2 = ((putTok l t).length : Int) := by
   unfold chkTok at ht ⊢
   unfold putTok
   by_cases h1 : t.2.1 = 0
   ·rw [if_pos h1] at ht ⊢
    rw [if_pos h1, if_pos h1]
    by_cases h2 : t.2.2 ≠ 0
    ·rw [if_pos h2] at ht; simp at ht
    ·rw [if_neg h2]; simp
   ·rw [if_neg h1] at ht ⊢
    rw [if_neg h1, if_neg h1]
    by_cases h2 : t.1 ≠ 0
    ·rw [if_pos h2] at ht; simp at ht
    ·rw [if_neg h2] at ht ⊢
     by_cases h3 : t.2.1 < 3 ∨ 258 < t.2.1 ∨ t.2.2 < 1
     ·rw [if_pos h3] at ht; simp at ht
     ·rw [if_neg h3] at ht ⊢
      by_cases h4 : (l.length : Int) < t.2.2
      ·rw [if_pos h4] at ht; simp at ht
      ·rw [if_neg h4]
       refine ⟨cpy_front o _ (by omega) _ l (by omega), ?_⟩
       rw [cpy_length]; dsimp only; omega
  rw [hp.1]
  rw [hp.2] at h
  exact say_front o ts (putTok l t) h
def TokFit (lit far : List Nat) (t : Tok) : Prop :=
 if t.2.1 = 0 then lit.getD t.1.toNat 0 ≠ 0 else lit.getD (257 + symS sameL t.2.1.toNat) 0 ≠ 0 ∧ far.getD (symS farL t.2.2.toNat) 0 ≠ 0
theorem tok_lit {row : List Bool} {lit far : List Nat} {p : Nat} {out : List UInt8} {t : Tok} (hc : Cd lit) (h : Has row p (tokB lit far t)) (h0 : t.2.1 = 0) (hf : TokFit lit far t) (hl : out.length < 3000) :
  bodyStep row lit far p out = .ok (false, p + (tokB lit far t).length, out ++ [t.1]) := by
 unfold tokB at h ⊢
 unfold TokFit at hf
 rw [if_pos h0] at h hf ⊢
 have hx := t.1.toNat_lt
 unfold bodyStep
 rw [sym_has hc h hf, thn, codeB_length]
 dsimp only
 rw [if_pos (by omega), ofNat_toNat8, push_ok _ hl, thn]
theorem tok_cpy {row : List Bool} {lit far : List Nat} {p s f : Nat} {out : List UInt8} {x : UInt8} (hc : Cd lit) (hd : Cd far) (h : Has row p (tokB lit far (x, (s : Int), (f : Int)))) (hf : TokFit lit far (x, (s : Int), (f : Int)))
  (h1 : 3 ≤ s) (h2 : s ≤ 258) (h3 : 1 ≤ f) (h4 : f ≤ 3000) (h5 : f ≤ out.length) (hl : out.length + s ≤ 3000) :
  bodyStep row lit far p out = .ok (false, p + (tokB lit far (x, (s : Int), (f : Int))).length, cpy f s out) := by
 have hz : ¬ ((x, (s : Int), (f : Int)) : Tok).2.1 = 0 := by dsimp only; omega
 unfold tokB at h ⊢
 unfold TokFit at hf
 rw [if_neg hz] at h hf ⊢
 dsimp only at h hf ⊢
 simp only [Int.toNat_natCast] at h hf ⊢
 obtain ⟨k1, k2, k3⟩ := same_sym s h1 h2
 obtain ⟨g1, g2, g3⟩ := far_sym f h3 h4
 have a1 := h.left.left.left
 have a2 := h.left.left.right
 have a3 := h.left.right
 have a4 := h.right
 simp only [List.length_append, numBits_length, codeB_length] at a2 a3 a4 ⊢
 unfold bodyStep
 rw [sym_has hc a1 hf.1, thn]
 dsimp only
 rw [if_neg (by omega), if_neg (by omega), show 257 + symS sameL s - 257 = symS sameL s by omega, if_neg (by omega), get_has a2 k3, thn]
 dsimp only
 rw [sym_has hd (by simp only [Nat.add_assoc] at a3 ⊢; exact a3) hf.2, thn]
 dsimp only
 rw [if_neg (by omega), get_has (by simp only [Nat.add_assoc] at a4 ⊢; exact a4) g3, thn]
 dsimp only
 rw [show (farL.getD (symS farL f) (0, 0)).1 + (f - (farL.getD (symS farL f) (0, 0)).1) = f by omega, show (sameL.getD (symS sameL s) (0, 0)).1 + (s - (sameL.getD (symS sameL s) (0, 0)).1) = s by omega, if_neg (by omega), copy_ok f s out hl, thn]
 simp only [Nat.add_assoc]
theorem put_ge (l : List UInt8) (t : Tok) : l.length ≤ (putTok l t).length := by
 unfold putTok
 split
 ·simp
 ·rw [cpy_length]; omega
theorem say_ge : ∀ (ts : List Tok) (l : List UInt8), l.length ≤ (ts.foldl putTok l).length
 | [], l => Nat.le_refl _
 | t :: ts, l => Nat.le_trans (put_ge l t) (say_ge ts _)
theorem bodyB_cons (t : Tok) (ts : List Tok) (lit far : List Nat) : bodyB (t :: ts) lit far = tokB lit far t ++ bodyB ts lit far := by
 unfold bodyB; rw [List.flatMap_cons, List.append_assoc]
theorem body_has {row : List Bool} {lit far : List Nat} (hc : Cd lit) (hd : Cd far) (he : lit.getD 256 0 ≠ 0) : ∀ (ts : List Tok) (p : Nat) (out : List UInt8) (fuel : Nat) (n : Int), Has row p (bodyB ts lit far) → (∀ t ∈ ts, TokFit lit far t) →
  (chkAll ts n).1 = 0 → 0 ≤ n → n ≤ (out.length : Int) → (ts.foldl putTok out).length ≤ 3000 → ts.length < fuel → bodyR row lit far fuel p out = .ok (p + (bodyB ts lit far).length, ts.foldl putTok out)
 | ts, p, out, 0, n, _, _, _, _, _, _, hf => absurd hf (by omega)
 | [], p, out, g + 1, n, h, hfit, hk, hn0, hn, hl, hf => by
  have h' : Has row p (codeB lit 256) := h
  show (bodyStep row lit far p out).then_ _ = _
  unfold bodyStep
  rw [sym_has hc h' he, thn]
  dsimp only
  rw [if_neg (by omega), if_pos rfl, thn, if_pos rfl]
  show Inf.Rd.ok _ = Inf.Rd.ok (p + (codeB lit 256).length, out)
  rw [codeB_length]
 | t :: ts, p, out, g + 1, n, h, hfit, hk, hn0, hn, hl, hf => by
  rw [bodyB_cons] at h ⊢
  have ha := h.left
  have hb := h.right
  have hft := hfit t List.mem_cons_self
  rw [List.foldl_cons] at hl ⊢
  have hl1 : (putTok out t).length ≤ 3000 := Nat.le_trans (say_ge ts (putTok out t)) hl
  simp only [chkAll] at hk
  have ht : (chkTok n t).1 = 0 := by
   by_cases h1 : (chkTok n t).1 = 0
   ·exact h1
   ·rw [if_neg h1] at hk; exact hk
  rw [if_pos ht] at hk
  have key : bodyStep row lit far p out = .ok (false, p + (tokB lit far t).length, putTok out t) ∧ 0 ≤ (chkTok n t).2 ∧ (chkTok n t).2 ≤ ((putTok out t).length : Int) := by
   obtain ⟨x, s, f⟩ := t
   unfold chkTok at ht ⊢
   unfold putTok at hl1 ⊢
   dsimp only at ht hl1 ⊢
   by_cases h1 : s = 0
   ·rw [if_pos h1] at ht hl1 ⊢
    rw [if_pos h1]
    by_cases h2 : f ≠ 0
    ·rw [if_pos h2] at ht; simp at ht
    ·rw [if_neg h2]
     rw [List.length_append, List.length_singleton] at hl1
     refine ⟨tok_lit hc ha h1 hft (by omega), by dsimp only; omega, ?_⟩
     rw [List.length_append, List.length_singleton]; dsimp only; omega
   ·rw [if_neg h1] at ht hl1 ⊢
    rw [if_neg h1]
    by_cases h2 : x ≠ 0
    ·rw [if_pos h2] at ht; simp at ht
    ·rw [if_neg h2] at ht ⊢
     by_cases h3 : s < 3 ∨ 258 < s ∨ f < 1
     ·rw [if_pos h3] at ht; simp at ht
     ·rw [if_neg h3] at ht ⊢
      by_cases h4 : n < f
      ·rw [if_pos h4] at ht; simp at ht
      ·rw [if_neg h4]
       rw [cpy_length] at hl1 ⊢
       obtain ⟨s', rfl⟩ := Int.eq_ofNat_of_zero_le (by omega : 0 ≤ s)
       obtain ⟨f', rfl⟩ := Int.eq_ofNat_of_zero_le (by omega : 0 ≤ f)
       rw [Int.toNat_natCast] at hl1 ⊢
       rw [Int.toNat_natCast]
       refine ⟨tok_cpy hc hd ha hft (by omega) (by omega) (by omega) (by omega) (by omega) (by omega), by dsimp only; omega, by dsimp only; omega⟩
  show (bodyStep row lit far p out).then_ _ = _
  rw [key.1, thn]
  rw [if_neg (by simp)]
  dsimp only
  rw [body_has hc hd he ts _ _ g _ hb (fun t ht => hfit t (List.mem_cons_of_mem _ ht)) hk key.2.1 key.2.2 hl (by simpa using hf)]
  rw [List.length_append, Nat.add_assoc]
end Go.Proofs.YthpdcnjaodjjmaaGreat.Rt

/- lengths that are found make a code; without its last noughts a code is the same; the plain law. No program in sight. -/
namespace Go.Proofs.YthpdcnjaodjjmaaGreat.Rt
open Go.Proofs.YthpdcnjaodjjmaaGreat.Bits Go.Proofs.YthpdcnjaodjjmaaGreat.Code Go.Proofs.YthpdcnjaodjjmaaGreat.Match Go.Proofs.YthpdcnjaodjjmaaGreat.SP Go.Proofs.YthpdcnjaodjjmaaGreat.Inf Go.Proofs.YthpdcnjaodjjmaaGreat.Blk
set_option linter.unusedVariables false

theorem one_unit (ls : List Nat) (L : Nat) (h1 : (ones ls).length = 1) : ∃ i, i < ls.length ∧ 0 < ls.getD i 0 ∧ (∀ j, j < ls.length → 0 < ls.getD j 0 → j = i) ∧ lengthsP ls L = unit ls.length i := by
 have hul : (used ls).length = 1 := by rw [← used_len]; exact h1
 obtain ⟨i, hu⟩ := List.length_eq_one_iff.1 hul
 have him := (used_mem ls i).1 (by rw [hu]; simp)
 refine ⟨i, him.1, him.2, fun j hj h0 => ?_, ?_⟩
 ·have := (used_mem ls j).2 ⟨hj, h0⟩
  rw [hu] at this
  simpa using this
 ·unfold lengthsP
  rw [if_neg (by omega), if_pos h1]
  unfold ones
  rw [hu]; rfl
theorem no_len (ls : List Nat) (L : Nat) (h0 : (ones ls).length = 0) : lengthsP ls L = List.replicate ls.length 0 ∧ ∀ i, ls.getD i 0 = 0 := by
 refine ⟨by unfold lengthsP; rw [if_pos h0], fun i => ?_⟩
 rcases Nat.eq_zero_or_pos (ls.getD i 0) with h | h
 ·exact h
 ·have := (used_mem ls i).2 ⟨getD_lt (by omega), h⟩
  have hu : used ls = [] := List.eq_nil_of_length_eq_zero (by rw [← used_len]; exact h0)
  rw [hu] at this; cases this
theorem rep_getD (n i : Nat) : (List.replicate n 0).getD i 0 = 0 := by
 simp [List.getD_eq_getElem?_getD, List.getElem?_replicate]; split <;> rfl
theorem room_rep (n : Nat) : room (List.replicate n 0) = 0 := by
 induction n with
 | zero => rfl
 | succ n ih => rw [List.replicate_succ']; rw [room_snoc, ih]; rfl
theorem room_unit (n i : Nat) (h : i < n) : room (unit n i) = 16384 := by
 have key : ∀ m, room ((List.range m).map fun j => if j = i then 1 else 0) = if i < m then 16384 else 0 := by
  intro m
  induction m with
  | zero => rfl
  | succ m ih =>
   rw [List.range_succ, List.map_append, List.map_cons, List.map_nil, room_snoc, ih]
   by_cases h1 : m = i
   ·subst h1
    have e1 : (if m < m then 16384 else 0) = 0 := if_neg (by omega)
    have e2 : (if m < m + 1 then 16384 else 0) = 16384 := if_pos (by omega)
    rw [e1, e2, if_pos rfl]; rfl
   ·rw [if_neg h1]
    by_cases h2 : i < m
    ·have e1 : (if i < m then 16384 else 0) = 16384 := if_pos h2
     have e2 : (if i < m + 1 then 16384 else 0) = 16384 := if_pos (by omega)
     rw [e1, e2]; rfl
    ·have e1 : (if i < m then 16384 else 0) = 0 := if_neg h2
     have e2 : (if i < m + 1 then 16384 else 0) = 0 := if_neg (by omega)
     rw [e1, e2]; rfl
 have := key n
 rw [if_pos h] at this
 exact this
theorem lens_fine (ls : List Nat) (L : Nat) (hL : 1 ≤ L) (hL2 : L ≤ 15) (hn : (ones ls).length ≤ 2 ^ L) :
  (lengthsP ls L).length = ls.length ∧ Cd (lengthsP ls L) ∧ (∀ x ∈ lengthsP ls L, x ≤ L) ∧ ∀ i, (lengthsP ls L).getD i 0 = 0 ↔ ls.getD i 0 = 0 := by
 obtain ⟨b1, b2, b3, b4⟩ := best ls L hL hn
 have hout : ∀ i, ¬ i < ls.length → ((lengthsP ls L).getD i 0 = 0 ↔ ls.getD i 0 = 0) := fun i hi => by
  rw [List.getD_eq_getElem?_getD, List.getD_eq_getElem?_getD, List.getElem?_eq_none (by omega), List.getElem?_eq_none (by omega)]
 by_cases h0 : (ones ls).length = 0
 ·obtain ⟨e, hz⟩ := no_len ls L h0
  refine ⟨b1, ⟨fun x hx => Nat.le_trans (b3 x hx) hL2, by rw [e, room_rep]; omega⟩, b3, fun i => ?_⟩
  rw [e, rep_getD]
  exact ⟨fun _ => hz i, fun _ => rfl⟩
 ·by_cases h1 : (ones ls).length = 1
  ·obtain ⟨i, hi, hp, hu, e⟩ := one_unit ls L h1
   refine ⟨b1, ⟨fun x hx => Nat.le_trans (b3 x hx) hL2, by rw [e, room_unit _ _ hi]; omega⟩, b3, fun j => ?_⟩
   by_cases hj : j < ls.length
   ·rw [e, unit_get _ _ _ hj]
    by_cases hji : j = i
    ·subst hji; rw [if_pos rfl]; omega
    ·rw [if_neg hji]
     refine ⟨fun _ => ?_, fun _ => rfl⟩
     rcases Nat.eq_zero_or_pos (ls.getD j 0) with h | h
     ·exact h
     ·exact absurd (hu j hj h) hji
   ·exact hout j hj
  ·obtain ⟨h3, h4, h5, _⟩ := lengths_many ls L hL (by omega) hn
   refine ⟨b1, ⟨fun x hx => Nat.le_trans (b3 x hx) hL2, ?_⟩, b3, fun i => ?_⟩
   ·generalize hm : lengthsP ls L = m at *
    have hr : room m = (ls.zip m |>.map fun p => if 0 < p.1 then 2 ^ (15 - p.2) else 0).sum := by
     unfold room
     have e : m = (ls.zip m).map (·.2) := by rw [List.map_snd_zip (by omega)]
     conv => lhs; rw [e]
     rw [List.map_map]
     congr 1
     apply List.map_congr_left
     intro p hp
     obtain ⟨i, hi, rfl⟩ := zip_mem_get _ _ h3 p hp
     have := (h4 i hi).1
     simp only [Function.comp]
     by_cases h0 : ls.getD i 0 = 0
     ·rw [if_pos (this.2 h0), if_neg (by omega)]
     ·rw [if_neg (fun hh => h0 (this.1 hh)), if_pos (by omega)]
    rw [hr, wide_used ls m (fun x => 2 ^ (15 - x)) h3]
    have e2 : ((used ls).map fun i => 2 ^ (15 - m.getD i 0)) = (used ls).map fun i => 2 ^ (15 - L) * 2 ^ (L - m.getD i 0) := by
     apply List.map_congr_left
     intro i hi
     have h6 := (h4 i ((used_mem _ i).1 hi).1).2
     rw [← Nat.pow_add, show 15 - L + (L - m.getD i 0) = 15 - m.getD i 0 by omega]
    rw [e2]
    have e3 : ∀ l : List Nat, (l.map fun i => 2 ^ (15 - L) * 2 ^ (L - m.getD i 0)).sum = 2 ^ (15 - L) * (l.map fun i => 2 ^ (L - m.getD i 0)).sum := by
     intro l
     induction l with
     | nil => simp
     | cons a l ih => simp only [List.map_cons, List.sum_cons, ih, Nat.mul_add]
    rw [e3, h5, ← Nat.pow_add, show 15 - L + L = 15 by omega]
    exact Nat.le_refl _
   ·by_cases hi : i < ls.length
    ·exact (h4 i hi).1
    ·exact hout i hi
theorem ordN_zeros (ls : List Nat) (n k : Nat) (hn : n ≠ 0) : ordN (ls ++ List.replicate k 0) n = ordN ls n := by
 induction k with
 | zero => rw [List.replicate_zero, List.append_nil]
 | succ k ih =>
  rw [List.replicate_succ', ← List.append_assoc, ordN_snoc, ih, if_neg (fun h => hn h.symm), List.append_nil]
theorem cnt_zeros (ls : List Nat) (n k : Nat) : cnt (ls ++ List.replicate k 0) n = cnt ls n := by
 unfold cnt
 by_cases h : n = 0
 ·rw [if_pos h, if_pos h]
 ·rw [if_neg h, if_neg h, ordN_zeros _ _ _ h]
theorem first_zeros (ls : List Nat) (k : Nat) : ∀ n, first (ls ++ List.replicate k 0) n = first ls n
 | 0 => rfl
 | n + 1 => by unfold first; rw [first_zeros ls k n, cnt_zeros]
theorem room_zeros (ls : List Nat) (k : Nat) : room (ls ++ List.replicate k 0) = room ls := by
 induction k with
 | zero => rw [List.replicate_zero, List.append_nil]
 | succ k ih => rw [List.replicate_succ', ← List.append_assoc, room_snoc, ih, if_pos rfl, Nat.add_zero]
theorem getD_zeros (ls : List Nat) (k i : Nat) : (ls ++ List.replicate k 0).getD i 0 = ls.getD i 0 := by
 rw [List.getD_eq_getElem?_getD, List.getD_eq_getElem?_getD]
 rcases Nat.lt_or_ge i ls.length with h | h
 ·rw [List.getElem?_append_left h]
 ·rw [List.getElem?_append_right h, List.getElem?_eq_none h, List.getElem?_replicate]; split <;> rfl
theorem code_zeros (ls : List Nat) (k i : Nat) : codeB (ls ++ List.replicate k 0) i = codeB ls i := by
 unfold codeB
 rw [getD_zeros]
 by_cases h0 : ls.getD i 0 = 0
 ·rw [h0]; rfl
 ·congr 1
  have hi := getD_lt h0
  unfold codeOf
  rw [getD_zeros, if_neg h0, if_neg h0, first_zeros]
  unfold rank
  rw [getD_zeros, List.take_append_of_le_length (by omega)]
theorem trimN_zero (l : List Nat) (least : Nat) : ∀ n j, trimN l least n ≤ j → j < n → l.getD j 0 = 0
 | 0, j, _, h => absurd h (by omega)
 | n + 1, j, h, hj => by
  unfold trimN at h
  split at h
  ·rename_i h1
   by_cases e : j = n
   ·subst e; exact h1.2
   ·exact trimN_zero l least n j h (by omega)
  ·omega
theorem trim_split (l : List Nat) (least : Nat) : l = trimP l least ++ List.replicate (l.length - trimN l least l.length) 0 := by
 have hle := trimN_le l least l.length
 have hz := trimN_zero l least l.length
 unfold trimP
 generalize trimN l least l.length = m at *
 apply List.ext_getElem
 ·simp; omega
 ·intro i h1 h2
  by_cases hi : i < m
  ·rw [List.getElem_append_left (by simp; omega)]; simp
  ·rw [List.getElem_append_right (by simp; omega), List.getElem_replicate]
   have := hz i (by omega) h1
   rw [List.getD_eq_getElem?_getD, List.getElem?_eq_getElem h1] at this
   exact this
theorem trim_getD (l : List Nat) (least i : Nat) : (trimP l least).getD i 0 = l.getD i 0 := by
 conv => rhs; rw [trim_split l least]
 rw [getD_zeros]
theorem trim_code (l : List Nat) (least i : Nat) : codeB (trimP l least) i = codeB l i := by
 conv => rhs; rw [trim_split l least]
 rw [code_zeros]
theorem trim_cd (l : List Nat) (least : Nat) (h : Cd l) : Cd (trimP l least) := by
 refine ⟨fun x hx => h.le x (List.mem_of_mem_take hx), ?_⟩
 have := h.room
 rw [trim_split l least, room_zeros] at this
 exact this
theorem trim_len (l : List Nat) (least : Nat) (h : least ≤ l.length) : least ≤ (trimP l least).length ∧ (trimP l least).length ≤ l.length := by
 have h1 := trimN_le l least l.length
 have h2 := trimN_ge l least l.length h
 unfold trimP
 rw [List.length_take]; omega
theorem trim_tok (lit far : List Nat) (a b : Nat) (t : Tok) : tokB (trimP lit a) (trimP far b) t = tokB lit far t := by
 unfold tokB; simp only [trim_code]
theorem trim_body (ts : List Tok) (lit far : List Nat) (a b : Nat) : bodyB ts (trimP lit a) (trimP far b) = bodyB ts lit far := by
 unfold bodyB
 rw [trim_code]
 congr 1
 induction ts with
 | nil => rfl
 | cons t ts ih => rw [List.flatMap_cons, List.flatMap_cons, trim_tok, ih]
theorem trim_fit (lit far : List Nat) (a b : Nat) (t : Tok) (h : TokFit lit far t) : TokFit (trimP lit a) (trimP far b) t := by
 unfold TokFit at h ⊢; simp only [trim_getD]; exact h
theorem lsOf_zsOf (l : List Nat) : lsOf (zsOf l) = l := by
 unfold lsOf zsOf; rw [List.map_map]
 conv => rhs; rw [← List.map_id l]
 apply List.map_congr_left
 intro x _; rfl
theorem table_ok (l : List Nat) (h : Cd l) (hl : l.length ≤ 288) : tableR (zsOf l) = .ok l := by
 have hc : chkL (zsOf l) = 0 := by
  unfold chkL
  rw [if_neg (by unfold zsOf; rw [List.length_map]; omega), if_neg, lsOf_zsOf, if_neg (by have := h.room; omega)]
  rw [Bool.not_eq_true, List.any_eq_false]
  intro x hx
  obtain ⟨y, hy, rfl⟩ := List.mem_map.1 hx
  have := h.le y hy
  have e : Int.ofNat y = (y : Int) := rfl
  rw [e]
  simp [badLen]; omega
 unfold tableR
 rw [if_pos hc, lsOf_zsOf]
end Go.Proofs.YthpdcnjaodjjmaaGreat.Rt

/- package weigh: Lengths. -/
namespace Go.Proofs.YthpdcnjaodjjmaaGreat.Weigh
open Go Go.RowKit Go.Proofs.YthpdcnjaodjjmaaGreat Go.Proofs.YthpdcnjaodjjmaaGreat.SP
set_option linter.unusedVariables false

theorem infoI : (Tryz.prog.info? 3).map (fun i => (i.zero, i.size, i.bytes)) = some (some (.int .i64 0), 1, 8) := by kernel_rfl
theorem make_ints (n : Nat) (hn : n ≤ 1000000) (u : World) : (Instr.makeSlice 23 (.int .i64 (n : Int)) (.int .i64 (n : Int))).run Tryz.prog u =
   .ok (.slice (some ⟨u.heap.size, 0, none⟩) n n) (u.alloc (.cells (madeCells #[.int .i64 0] n) 3)) := by
 obtain ⟨i0, hi, hz0, hz1, hz2⟩ := info_parts infoI
 have h := run_make (P := Tryz.prog) u 23 3 i0 (.int .i64 0) Tryz.underlying23 hi hz0 .i64 .i64 (n : Int) (n : Int) (by omega) (Int.le_refl _) (by rw [hz2]; omega) (by omega)
 simpa [hz1, Value.cells] using h
theorem made_zero (n : Nat) : madeCells #[.int .i64 0] n = ((List.replicate n 0).map nv).toArray := by
 unfold madeCells
 apply Array.ext'
 simp
 apply List.ext_getElem
 ·simp
 ·intro i h1 h2
  simp [nv, Nat.mod_one]
theorem own_made (w : World) (base n : Nat) (l : List Nat) (hb : base ≤ w.heap.size) (hl : l.length = n) (hn : n ≤ 1000000) : (w.alloc (.cells ((l.map nv).toArray) 3)).ownsRow base 3 1 (.slice (some ⟨w.heap.size, 0, none⟩) n n) n (l.map nv) :=
 ⟨by simp [hl], .inr ⟨w.heap.size, n, _, rfl, hb, heap_alloc_new w _, Nat.le_refl _, by unfold maxLen; omega, by simp [hl], by rw [List.toList_toArray, Nat.mul_one, List.take_of_length_le (by simp [hl])]⟩⟩
theorem tyP : SliceTy Tryz.prog 133 135 (.agg #[.int .i64 0, .slice none 0 0]) 2 32 := ⟨Tryz.underlying133, by kernel_rfl, rfl, by omega⟩
def LenPost (zs : List Int) (most : Int) (w : World) (e : Ending) (w' : World) : Prop :=
  (chkW zs most ≠ 0 ∧ e = .returned (.tuple #[.slice none 0 0, .int .i64 (chkW zs most)]) ∨
   chkW zs most = 0 ∧ ∃ v, e = .returned (.tuple #[v, .int .i64 0]) ∧ w'.ownsRow w.heap.size 3 1 v zs.length ((lengthsP (natsOf zs) most.toNat).map nv)) ∧ Below w.heap.size w w'
theorem natsOf_get (zs : List Int) (k : Nat) (h : k < zs.length) : (natsOf zs).getD k 0 = zs[k].toNat := by simp [natsOf, List.getD_eq_getElem?_getD, h]
theorem natsOf_len (zs : List Int) : (natsOf zs).length = zs.length := by simp [natsOf]
theorem rows_ge (one : List Pk) (t : Nat) : one.length ≤ (rowsP one t).length := by
 cases t with
 | zero => exact Nat.le_refl _
 | succ t => rw [rows_len]; exact Nat.le_add_right _ _
theorem f2_stab (es : List El) : (stab ekey es).map f2 = stab pkey (es.map f2) := stab_map pkey f2 es
set_option maxRecDepth 100000 in
set_option maxHeartbeats 8000000 in
theorem lengths_go (A : Option Addr) (n c L : Nat) (zs : List Int) (w : World) (hn : zs.length = n) (hx : n ≤ maxLen) (hA : InAt w A zs) (h0 : chkW zs (L : Int) = 0) :
    Calls Tryz.prog 49 #[.slice A n c, .int .i64 (L : Int)] w (LenPost zs L w) := by
  have Hn := Lib.hid hn
  have HA := Lib.hid hA
  have hc := checkW_any A n c zs L w hn hx hA
  rw [h0] at hc
  have HC := Lib.hid hc
  obtain ⟨f1, f2, f3, f4, f5⟩ := chkW_fine zs L h0
  have H0 := Lib.hid h0
  have F2 := Lib.hid f2
  have F5 := Lib.hid f5
  have hn288 : n ≤ 288 := by omega
  have hL1 : 1 ≤ L := by omega
  have hL15 : L ≤ 15 := by omega
  have hmk := make_ints n (by omega)
  have Hnl : Hid ((natsOf zs).length = n) := Lib.hid (by rw [natsOf_len]; exact hn)
  clear hn hx hA h0 hc f1 f2 f3 f4 f5
  go_enter Tryz.func49, Tryz.ntmps49
  go_wp2_with fail
  refine (HC.out).mono ?_
  rintro e wx ⟨rfl, hw⟩
  have hw := hw.symm
  subst hw
  go_wp2_with fail
  have Hout := Lib.hid (own_made w w.heap.size n (List.replicate n 0) (Nat.le_refl _) (by simp) (by omega))
  rw [← made_zero] at Hout
  have Hb1 := Lib.hid ((Below.refl w.heap.size w).alloc (Nat.le_refl _) (.cells (madeCells #[.int .i64 0] n) 3))
  have Hs1 : Hid ((w.alloc (.cells (madeCells #[.int .i64 0] n) 3)).heap.size = w.heap.size + 1) := Lib.hid (by simp)
  generalize w.alloc (.cells (madeCells #[.int .i64 0] n) 3) = w1 at *
  generalize hg0 : w.heap.size = g0 at *
  have Hg0 := Lib.hid hg0
  clear hg0
  go_loopw [8, 31] (fun v i wr => ∃ (k : Nat) (es : List El), k ≤ n ∧ i = .int .i64 (k : Int) ∧ wr.ownsRow (g0 + 1) 135 2 v es.length (es.flatMap cellsP) ∧ (∀ e ∈ es, ManyAt wr (g0 + 1) n e) ∧ es.map f2 = onesK (natsOf zs) k ∧ Below (g0 + 1) w1 wr) (fun _ i _ => n - (intOf i).toNat)
  case atStart => exact ⟨0, [], Nat.zero_le _, rfl, World.ownsRow_nil _ _ _ _, by simp, rfl, Below.refl _ _⟩
  case round =>
    obtain ⟨k, es, hk, rfl, hown, hman, hones, hbr⟩ := hrel
    have Hown := Lib.hid hown
    have Hman := Lib.hid hman
    have Hones := Lib.hid hones
    have Hbr := Lib.hid hbr
    have hel : es.length ≤ 288 := by
      have h1 := congrArg List.length hones
      rw [List.length_map] at h1
      have h2 : (onesK (natsOf zs) k).length ≤ k := by
        unfold onesK
        rw [List.length_map]
        have := List.length_filter_le (fun i => decide (0 < (natsOf zs).getD i 0)) (List.range k)
        rw [List.length_range] at this
        exact this
      omega
    clear hown hman hones hbr
    by_cases hlt : k < n
    · have hkl : k < zs.length := by rw [Hn.out]; exact hlt
      obtain ⟨b, o, rfl, hcell⟩ := ((HA.out.below (Hg0.out.symm ▸ Hb1.out)).below (Hbr.out.mono (by rw [Hs1.out]; exact Nat.le_refl _))).get hkl
      have hz := F2.out zs[k] (List.getElem_mem hkl)
      have Hd := Lib.hid (natsOf_get zs k hkl)
      have Hnext := Lib.hid (onesK_next (natsOf zs) k)
      rw [Hd.out, Hnl.out] at Hnext
      generalize zs[k] = z at *
      obtain ⟨x, rfl⟩ := Int.eq_ofNat_of_zero_le hz.1
      rw [Int.toNat_natCast] at Hnext
      by_cases h0 : x = 0
      · subst h0
        rw [if_neg (by omega), List.append_nil] at Hnext
        go_wp2_with fail
        go_roundw
        case rel => exact ⟨k + 1, es, by omega, by go_num, Hown.out, Hman.out, by rw [Hnext.out]; exact Hones.out, Hbr.out⟩
        case measure => simp [intOf]; omega
      · have hx0 : (0 : Int) < (x : Int) := by omega
        rw [if_pos (by omega)] at Hnext
        go_upto_region 11 with fail
        have hm := own_made wr (g0 + 1) n (List.replicate n 0) (by have := Hbr.out.size; have := Hs1.out; omega) (by simp) (by omega)
        rw [← made_zero] at hm
        have Hm := Lib.hid (hm.alloc (.cells #[.int .i64 (x : Int), .slice (some ⟨wr.heap.size, 0, none⟩) n n] 135))
        have hp := Blk.new (wr.alloc (.cells (madeCells #[.int .i64 0] n) 3)) 135 #[.int .i64 (x : Int), .slice (some ⟨wr.heap.size, 0, none⟩) n n]
        rw [show (wr.alloc (.cells (madeCells #[.int .i64 0] n) 3)).heap.size = wr.heap.size + 1 by simp] at hp
        have Hp := Lib.hid hp
        have HbW := Lib.hid (((Below.refl wr.heap.size wr).alloc (Nat.le_refl _) (.cells (madeCells #[.int .i64 0] n) 3)).alloc (by simp) (.cells #[.int .i64 (x : Int), .slice (some ⟨wr.heap.size, 0, none⟩) n n] 135))
        clear hm hp
        generalize (wr.alloc (.cells (madeCells #[.int .i64 0] n) 3)).alloc (.cells #[.int .i64 (x : Int), .slice (some ⟨wr.heap.size, 0, none⟩) n n] 135) = W at *
        generalize hy0 : wr.heap.size = y0 at *
        have Hy0 := Lib.hid hy0
        clear hy0
        have c1 := Hp.out.c1
        have ck : W.cell? ⟨y0, k, none⟩ = some (.int .i64 0) := by rw [Hm.out.cellAt k (by omega)]; simp [hlt, nv]
        have fk := Hm.out.frozenAt k
        go_upto_region 12 with fail
        have Hm2 : Hid ((W.setCell ⟨y0, k, none⟩ (.int .i64 1)).ownsRow (g0 + 1) 3 1 (.slice (some ⟨y0, 0, none⟩) n n) n ((unit n k).map nv)) := Lib.hid (by
          have := (Hm.out.stored k (.int .i64 1)).1
          rw [← unit_set, List.map_set]; exact this)
        have Hp2 : Hid (Blk (W.setCell ⟨y0, k, none⟩ (.int .i64 1)) (y0 + 1) 135 #[.int .i64 (x : Int), .slice (some ⟨y0, 0, none⟩) n n]) := Lib.hid (Hp.out.far (by show y0 + 1 ≠ y0; omega) _)
        have HbW2 : Hid (Below wr.heap.size wr (W.setCell ⟨y0, k, none⟩ (.int .i64 1))) := Lib.hid (by rw [Hy0.out]; exact HbW.out.setCell (Nat.le_refl _) _)
        clear Hm Hp HbW c1 ck fk
        generalize W.setCell ⟨y0, k, none⟩ (.int .i64 1) = W2 at *
        have Hown2 := Lib.hid ((own_keep Hown.out HbW2.out).alloc (.cells #[.int .i64 (x : Int), .slice (some ⟨y0, 0, none⟩) n n] 135))
        have Hm3 := Lib.hid (Hm2.out.alloc (.cells #[.int .i64 (x : Int), .slice (some ⟨y0, 0, none⟩) n n] 135))
        have Hb3 : Hid (Below wr.heap.size wr (W2.alloc (.cells #[.int .i64 (x : Int), .slice (some ⟨y0, 0, none⟩) n n] 135))) := Lib.hid (HbW2.out.alloc HbW2.out.size _)
        have Hsl : Hid (SlAt (W2.alloc (.cells #[.int .i64 (x : Int), .slice (some ⟨y0, 0, none⟩) n n] 135)) (some ⟨W2.heap.size, 0, none⟩) [.int .i64 (x : Int), .slice (some ⟨y0, 0, none⟩) n n]) := Lib.hid (SlAt.of_heap (heap_alloc_new _ _) rfl)
        have Hbr3 := Lib.hid (Hbr.out.trans (Hb3.out.mono (by have := Hbr.out.size; have := Hs1.out; omega)))
        have hc0 := Hp2.out.c0
        have hc1 := Hp2.out.c1
        have Hbs : Hid (g0 + 1 ≤ (W2.alloc (.cells #[.int .i64 (x : Int), .slice (some ⟨y0, 0, none⟩) n n] 135)).heap.size) := Lib.hid (by have := Hbr3.out.size; have := Hs1.out; omega)
        go_wp2_with (at_builtin; refine wpList_app _ rfl (.tmp 47) (.tmp 49) _ rfl (g0 + 1) 135 _ 2 32 tyP u8 es.length (es.flatMap cellsP) rfl Hown2.out (some ⟨W2.heap.size, 0, none⟩) 1 1 [.int .i64 (x : Int), .slice (some ⟨y0, 0, none⟩) n n] rfl rfl Hsl.out (by simp [Value.oneCell']) (by simp) (by unfold maxLen; omega) (by omega) Hbs.out ?_; intro v4 w4 hown4 hg4 _; have Ho4 := Lib.hid hown4; have Hg4 := Lib.hid hg4; clear hown4 hg4)
        go_roundw
        case rel =>
          refine ⟨k + 1, es ++ [(x, (some ⟨y0, 0, none⟩, n, n), unit n k)], by omega, by go_num, ?_, ?_, ?_, ?_⟩
          · rw [List.length_append, List.flatMap_append]; exact Ho4.out
          · intro e he
            rcases List.mem_append.1 he with he | he
            · exact ((Hman.out e he).below Hb3.out).grownV Hown2.out Hg4.out
            · simp at he
              subst he
              exact ManyAt.grownV ⟨y0, n, rfl, Hm3.out⟩ Hown2.out Hg4.out
          · rw [List.map_append, Hones.out, Hnext.out]; rfl
          · exact own_below Hown2.out Hg4.out Hbr3.out Hbs.out
        case measure => simp [intOf]; omega
    · obtain rfl : k = n := by omega
      have hon := Hones.out
      rw [← Hnl.out, onesK_all] at hon
      have Hon := Lib.hid hon
      have Hon2 : Hid ((ones (natsOf zs)).length = es.length) := Lib.hid (by rw [← hon, List.length_map])
      have Hbw : Hid (Below g0 w wr) := Lib.hid (Hb1.out.trans (Hbr.out.mono (by omega)))
      have Hout2 : Hid (wr.ownsRow g0 3 1 (.slice (some ⟨g0, 0, none⟩) k k) k ((List.replicate k 0).map nv)) := Lib.hid (by
        have := Hout.out
        refine ⟨this.1, ?_⟩
        rcases this.2 with h1 | ⟨g', cap, cur, hv, hbg, hgb, r⟩
        · exact .inl h1
        · refine .inr ⟨g', cap, cur, hv, hbg, ?_, r⟩
          have : g' = g0 := by injection hv with hv; injection hv with hv; injection hv with hv; exact hv.symm
          subst this
          rw [Hbr.out.block g' (by omega)]; exact hgb)
      clear hon Hones
      obtain ⟨N1, hN⟩ : ∃ N1, es.length = N1 := ⟨_, rfl⟩
      have HN1 := Lib.hid hN
      rw [hN] at Hown Hon2 hel
      clear hN
      by_cases hN0 : N1 = 0
      · have Hf : Hid (lengthsP (natsOf zs) (L : Int).toNat = List.replicate k 0) := Lib.hid (by unfold lengthsP; rw [if_pos (by rw [Hon2.out]; exact hN0), Hnl.out])
        have e0 : ((N1 : Int) == 0) = true := by simp; omega
        obtain ⟨A1, c1, hv, _, _, _, _⟩ := own_slat Hown.out
        subst hv
        clear hN0
        go_wp2_with fail
        go_ret2
        refine ⟨.inr ⟨H0.out, _, rfl, ?_⟩, by rw [Hg0.out]; exact Hbw.out⟩
        rw [Hf.out, Hn.out, Hg0.out]; exact Hout2.out
      · have e0 : ((N1 : Int) == 0) = false := by simp; omega
        obtain ⟨g1, c1, hv, hg1, hg2⟩ := Hown.out.form (by omega)
        subst hv
        have Hg1 := Lib.hid hg1
        clear hg1 hg2
        by_cases hN1 : N1 = 1
        · obtain ⟨e, hee⟩ := List.length_eq_one_iff.1 (HN1.out.trans hN1)
          subst hee
          obtain ⟨g', cap, he1, he2⟩ := Hman.out e (by simp)
          have hcell : wr.cell? ⟨g1, 1, none⟩ = some (.slice (some ⟨g', 0, none⟩) k cap) := by
            rw [Hown.out.cellAt 1 (by omega)]
            show some (slv e.2.1) = _
            rw [he1]; rfl
          have Hf : Hid (lengthsP (natsOf zs) (L : Int).toNat = e.2.2) := Lib.hid (by
            unfold lengthsP
            rw [if_neg (by rw [Hon2.out]; exact hN0), if_pos (by rw [Hon2.out]; exact hN1), ← Hon.out]; rfl)
          have He2 := Lib.hid he2
          have e1 : ((N1 : Int) == 1) = true := by simp; omega
          have e2 : 0 < N1 := by omega
          clear he1 he2 hN0 hN1
          go_wp2_with fail
          go_ret2
          refine ⟨.inr ⟨H0.out, _, rfl, ?_⟩, by rw [Hg0.out]; exact Hbw.out⟩
          rw [Hf.out, Hn.out, Hg0.out]; exact own_base He2.out (by omega)
        · have e1 : ((N1 : Int) == 1) = false := by simp; omega
          have hbd1 : ∀ e ∈ es, e.1 ≤ 1152921504606846976 := fun e he => by
            have h1 : f2 e ∈ stab pkey (ones (natsOf zs)) := (stab_perm pkey _).mem_iff.2 (by rw [← Hon.out]; exact List.mem_map_of_mem he)
            have := (bd_row (ones_bd (natsOf zs) (fun x hx => by
              obtain ⟨z, hz, rfl⟩ := List.mem_map.1 hx
              have := F2.out z hz; omega) _ h1) (by omega)).1
            omega
          have Hr := rising_any (g0 + 1) g1 N1 c1 es wr Hown.out (by omega) hbd1
          have HR := Lib.hid Hr
          have hN2 : 2 ≤ N1 := by omega
          have hN288 : N1 ≤ 288 := by omega
          clear hN0 hN1 hbd1 Hr hel
          go_wp2_with fail
          refine (HR.out).mono ?_
          rintro e w2 ⟨rfl, hown2, hg2⟩
          have hsz1 : g0 + 1 ≤ wr.heap.size := by have := Hbr.out.size; have := Hs1.out; omega
          have Hown2 := Lib.hid hown2
          have Hb2 := Lib.hid (own_below Hown.out hg2 Hbr.out hsz1)
          have Hman2 : Hid (∀ e ∈ stab ekey es, ManyAt w2 (g0 + 1) k e) := Lib.hid (fun e he => (Hman.out e ((stab_perm ekey es).mem_iff.1 he)).grownV Hown.out hg2)
          have Hone : Hid ((stab ekey es).map f2 = stab pkey (ones (natsOf zs))) := Lib.hid (by rw [f2_stab, Hon.out])
          have Hln : Hid ((stab ekey es).length = N1) := Lib.hid (by rw [stab_length]; exact HN1.out)
          have Hol : Hid ((stab pkey (ones (natsOf zs))).length = N1) := Lib.hid (by rw [stab_length]; exact Hon2.out)
          have Hobd : Hid (∀ p ∈ stab pkey (ones (natsOf zs)), BdP 0 p) := Lib.hid (ones_bd (natsOf zs) (fun x hx => by
            obtain ⟨z, hz, rfl⟩ := List.mem_map.1 hx
            have := F2.out z hz; omega))
          have HLP : Hid (lengthsP (natsOf zs) (L : Int).toNat = addAll k ((rowsP (stab pkey (ones (natsOf zs))) (L - 1)).take (2 * N1 - 2))) := Lib.hid (by
            unfold lengthsP
            rw [if_neg (by rw [Hon2.out]; omega), if_neg (by rw [Hon2.out]; omega), Hon2.out, Hnl.out, Int.toNat_natCast])
          have Hus : Hid (N1 ≤ 2 ^ L) := Lib.hid (by
            have h1 := F5.out
            rw [Int.toNat_natCast] at h1
            have h2 := used_ones zs
            rw [Hon2.out] at h2
            omega)
          have Hk1 : Hid (N1 ≤ k) := Lib.hid (by have := ones_le (natsOf zs); rw [Hon2.out, Hnl.out] at this; exact this)
          clear hown2 hg2 HR Hown Hbr Hman Hout2 Hbw hsz1 HC
          generalize stab ekey es = e1s at *
          generalize stab pkey (ones (natsOf zs)) = one1 at *
          have hcb : N1 * 32 ≤ 140737488355328 := by omega
          go_wp2_with fail
          refine (CloneP.clone_any (some ⟨g1, 0, none⟩) N1 c1 (e1s.flatMap cellsP) w2 (by rw [cellsP_len, Hln.out]) (by obtain ⟨A9, c9, h9, _, _, h10, _⟩ := own_slat Hown2.out; injection h9 with h9; rw [h9]; exact h10) (by simp) (cellsP_one e1s) (by unfold maxLen; omega) hcb).mono ?_
          rintro e w3 ⟨v3, rfl, hown3, hb3⟩
          have Hown3 : Hid (w3.ownsRow (g0 + 1) 135 2 v3 e1s.length (e1s.flatMap cellsP)) := Lib.hid (by rw [Hln.out]; exact own_base hown3 (by have := Hb2.out.size; have := Hs1.out; omega))
          have Hb3 := Lib.hid hb3
          clear hown3 hb3
          obtain ⟨L1, hL⟩ : ∃ L1, L = L1 + 1 := ⟨L - 1, by omega⟩
          have eL : (L : Int) - 1 = (L1 : Int) := by omega
          have HL := Lib.hid hL
          have hL14 : L1 ≤ 14 := by omega
          clear hL
          go_wp2_with fail
          clear eL
          go_loopw [13, 70] (fun rv i wr => ∃ (t : Nat) (et : List El), t ≤ L1 ∧ i = .int .i64 (t : Int) ∧ wr.ownsRow (g0 + 1) 135 2 rv et.length (et.flatMap cellsP) ∧ (∀ e ∈ et, ManyAt wr (g0 + 1) k e) ∧ et.map f2 = rowsP one1 t ∧ Below w2.heap.size w2 wr) (fun _ i _ => L1 - (intOf i).toNat)
          case atStart => exact ⟨0, e1s, Nat.zero_le _, rfl, Hown3.out, fun e he => (Hman2.out e he).below Hb3.out, Hone.out, Hb3.out⟩
          case round =>
            obtain ⟨t, et, ht, rfl, hown, hman, hrow, hbr⟩ := hrel
            have Hman := Lib.hid hman
            have Hrow := Lib.hid hrow
            have Hbr := Lib.hid hbr
            obtain ⟨Nt, hNt⟩ : ∃ Nt, et.length = Nt := ⟨_, rfl⟩
            have HNt := Lib.hid hNt
            have hNt2 : Nt ≤ 576 := by
              have h1 := (rows_big one1 t).1
              rw [← hrow, List.length_map, hNt, Hol.out] at h1
              omega
            have hNt1 : N1 ≤ Nt := by
              have h1 := rows_ge one1 t
              rw [← hrow, List.length_map, hNt, Hol.out] at h1
              exact h1
            rw [hNt] at hown
            obtain ⟨gr, cr, hv, hgr1, hgr2⟩ := hown.form (by omega)
            subst hv
            have Hown := Lib.hid hown
            clear hown hman hrow hbr hNt
            by_cases hlt : t < L1
            · generalize hB : wr.heap.size = B at *
              have HB := Lib.hid hB
              clear hB
              go_wp2_with fail
              go_loopw [14, 15] (fun pv kv wx => ∃ (j : Nat) (ps : List El), kv = .int .i64 ((2 * j : Nat) : Int) ∧ 2 * j ≤ Nt ∧ wx.ownsRow B 135 2 pv ps.length (ps.flatMap cellsP) ∧ (∀ e ∈ ps, ManyAt wx (g0 + 1) k e) ∧ ps.map f2 = pairs ((rowsP one1 t).take (2 * j)) ∧ Below B wr wx) (fun _ kv _ => Nt - (intOf kv).toNat)
              case atStart => exact ⟨0, [], rfl, Nat.zero_le _, World.ownsRow_nil _ _ _ _, by simp, rfl, Below.refl _ _⟩
              case round =>
                obtain ⟨j, ps, rfl, hj, hown, hman, hps, hbr⟩ := hrel
                have Hpown := Lib.hid hown
                have Hpman := Lib.hid hman
                have Hps := Lib.hid hps
                have Hbx := Lib.hid hbr
                have hpl : ps.length ≤ 576 := by
                  have h1 := congrArg List.length hps
                  rw [List.length_map, pairs_len, List.length_take] at h1
                  omega
                clear hown hman hps hbr
                obtain ⟨kk, hkk⟩ : ∃ kk, kk = 2 * j := ⟨_, rfl⟩
                have e2 : (kk : Int) + 1 = ((kk + 1 : Nat) : Int) := by omega
                obtain ⟨kq, hkq⟩ : ∃ kq, kq = kk + 1 := ⟨_, rfl⟩
                rw [← hkq] at e2
                rw [← hkk] at hj ⊢
                have Hkk := Lib.hid (And.intro hkk hkq)
                clear hkk
                by_cases hlt2 : kq < Nt
                · have hkl : kk < et.length := by rw [HNt.out]; omega
                  have hql : kq < et.length := by rw [HNt.out]; omega
                  have hrow2 := own_keep Hown.out (HB.out.symm ▸ Hbx.out)
                  have Hma := Lib.hid ((Hman.out _ (List.getElem_mem hkl)).below (HB.out.symm ▸ Hbx.out))
                  have Hmb := Lib.hid ((Hman.out _ (List.getElem_mem hql)).below (HB.out.symm ▸ Hbx.out))
                  obtain ⟨ga, ca, hva, hSa⟩ := Hma.out.val
                  obtain ⟨gb, cb, hvb, hSb⟩ := Hmb.out.val
                  have ck0 : wr.cell? ⟨gr, kk * 2, none⟩ = some (.int .i64 (et[kk].1 : Int)) := by rw [hrow2.cellAt (kk * 2) (by omega), cellsP_0 et kk hkl]; rfl
                  have ck1 : wr.cell? ⟨gr, kk * 2 + 1, none⟩ = some (.slice (some ⟨ga, 0, none⟩) k ca) := by rw [hrow2.cellAt (kk * 2 + 1) (by omega), cellsP_1 et kk hkl, hva]
                  have cq0 : wr.cell? ⟨gr, kq * 2, none⟩ = some (.int .i64 (et[kq].1 : Int)) := by rw [hrow2.cellAt (kq * 2) (by omega), cellsP_0 et kq hql]; rfl
                  have cq1 : wr.cell? ⟨gr, kq * 2 + 1, none⟩ = some (.slice (some ⟨gb, 0, none⟩) k cb) := by rw [hrow2.cellAt (kq * 2 + 1) (by omega), cellsP_1 et kq hql, hvb]
                  have hba := bd_row (rows_bd one1 Hobd.out t _ (by rw [← Hrow.out]; exact List.mem_map_of_mem (List.getElem_mem hkl))) (by omega)
                  have hbb := bd_row (rows_bd one1 Hobd.out t _ (by rw [← Hrow.out]; exact List.mem_map_of_mem (List.getElem_mem hql))) (by omega)
                  have hla := Hma.out.len
                  have hlb := Hmb.out.len
                  have Hsnoc : Hid (pairs ((rowsP one1 t).take (2 * (j + 1))) = pairs ((rowsP one1 t).take (2 * j)) ++ [both (f2 et[kk]) (f2 et[kq])]) := Lib.hid (by
                    have h1 := Hkk.out
                    have e : (rowsP one1 t).take (2 * (j + 1)) = (rowsP one1 t).take (2 * j) ++ [f2 et[kk], f2 et[kq]] := by
                      rw [← Hrow.out, show 2 * (j + 1) = kk + 1 + 1 by omega, ← List.map_take, ← List.map_take, List.take_succ_eq_append_getElem (by omega : kk + 1 < et.length), List.take_succ_eq_append_getElem hkl, ← h1.1]
                      have h3 : et[kk + 1] = et[kq] := by simp only [h1.2]
                      rw [h3]; simp only [List.map_append, List.map_cons, List.map_nil, List.append_assoc, List.cons_append, List.nil_append]
                    rw [e]
                    exact pairs_two _ _ _ j (by rw [← Hrow.out, List.length_take, List.length_map, HNt.out]; omega))
                  obtain ⟨x, hx⟩ : ∃ x, et[kk] = x := ⟨_, rfl⟩
                  obtain ⟨y, hy⟩ : ∃ y, et[kq] = y := ⟨_, rfl⟩
                  rw [hx] at hSa ck0 hba hla Hsnoc
                  rw [hy] at hSb cq0 hbb hlb Hsnoc
                  have HSa := Lib.hid hSa
                  have HSb := Lib.hid hSb
                  have Hla := Lib.hid hla
                  have Hlb := Lib.hid hlb
                  have Hba := Lib.hid hba
                  have Hbb := Lib.hid hbb
                  have hkkN : kk < Nt := by omega
                  obtain ⟨sm, hsm⟩ : ∃ sm, x.1 + y.1 = sm := ⟨_, rfl⟩
                  have Hsm := Lib.hid hsm
                  clear hsm
                  have hw : IntKind.i64.wrap (kq : Int) = (kq : Int) := IntWalk.i64_in _ (by omega)
                  have hn1 : Hid (1 ≤ k) := Lib.hid (by have := Hk1.out; omega)
                  have Hgd := Lib.hid (Hbx.out.drew)
                  clear hSa hSb hla hlb hba hbb hx hy hva hvb hrow2 Hma Hmb hkl hql hkq
                  go_wp2_with fail
                  go_region_law ((first
                    | (refine step_app rfl (.tmp 79) (.tmp 90) _ rfl B 135 _ 2 32 tyP u14 ps.length (ps.flatMap cellsP) (by simp [Act.eval]) Hp7.out (some ⟨w5.heap.size, 0, none⟩) 1 1 [.int .i64 (sm : Int), .slice (some ⟨gm, 0, none⟩) k cm] (by simp [Act.eval]) rfl Hs7.out (by simp [Value.oneCell']) (by simp) (by unfold maxLen; omega) (by omega) Hbs7.out ?_
                       intro v8 w8 hown8 hg8
                       have Ho8 := Lib.hid hown8
                       have Hg8 := Lib.hid hg8
                       clear hown8 hg8)
                    | (go_simp
                       go_at_call 79
                       refine (both_any x.1 y.1 k ca cb _ _ x.2.2 y.2.2 _ Hla.out Hlb.out hn1.out hn288 (by have := Hba.out.1; omega) (by have := Hbb.out.1; omega) (by exact HSa.out) (by exact HSb.out) (fun z hz => by have := Hba.out.2 z hz; omega) (fun z hz => by have := Hbb.out.2 z hz; omega)).mono ?_
                       rintro e w5 ⟨⟨gm, cm, rfl, hm5⟩, hb5⟩
                       rw [Hsm.out]
                       have Hm7 := Lib.hid (hm5.alloc (.cells #[.int .i64 (sm : Int), .slice (some ⟨gm, 0, none⟩) k cm] 135))
                       have Hp7 := Lib.hid ((own_keep (own_drew Hpown.out) hb5).alloc (.cells #[.int .i64 (sm : Int), .slice (some ⟨gm, 0, none⟩) k cm] 135))
                       have Hbw7 := Lib.hid (hb5.alloc hb5.size (.cells #[.int .i64 (sm : Int), .slice (some ⟨gm, 0, none⟩) k cm] 135))
                       have Hb7 := Lib.hid ((Hbx.out.drew).trans (Hbw7.out.mono (by have := Hbx.out.size; have := HB.out; show B ≤ wr.heap.size; omega)))
                       have Hbs7 : Hid (B ≤ (w5.alloc (.cells #[.int .i64 (sm : Int), .slice (some ⟨gm, 0, none⟩) k cm] 135)).heap.size) := Lib.hid (by have := Hb7.out.size; have := HB.out; omega)
                       have Hs7 : Hid (SlAt (w5.alloc (.cells #[.int .i64 (sm : Int), .slice (some ⟨gm, 0, none⟩) k cm] 135)) (some ⟨w5.heap.size, 0, none⟩) [.int .i64 (sm : Int), .slice (some ⟨gm, 0, none⟩) k cm]) := Lib.hid (SlAt.of_heap (heap_alloc_new _ _) rfl)
                       have Hman7 : Hid (∀ e ∈ ps, ManyAt (w5.alloc (.cells #[.int .i64 (sm : Int), .slice (some ⟨gm, 0, none⟩) k cm] 135)) (g0 + 1) k e) := Lib.hid (fun e he => ManyAt.below (w := wr.drew) (by exact Hpman.out e he) Hbw7.out)
                       clear hm5 hb5)))
                  all_goals (
                    have Hb8 := Lib.hid (own_below Hp7.out Hg8.out Hb7.out Hbs7.out)
                    have Hman8 : Hid (∀ e ∈ ps ++ [(sm, (some ⟨gm, 0, none⟩, k, cm), List.zipWith (· + ·) x.2.2 y.2.2)], ManyAt w8 (g0 + 1) k e) := Lib.hid (fun e he => by
                      rcases List.mem_append.1 he with he | he
                      · exact (Hman7.out e he).grownV Hp7.out Hg8.out
                      · simp at he
                        subst he
                        have hle : g0 + 1 ≤ wr.drew.heap.size := by
                          show g0 + 1 ≤ wr.heap.size
                          have h1 := Hb2.out.size; have h2 := Hs1.out; have h3 := Hbr.out.size; have h4 := Hbx.out.size; have h5 := HB.out; omega
                        have hmm : ManyAt (w5.alloc (.cells #[.int .i64 (sm : Int), .slice (some ⟨gm, 0, none⟩) k cm] 135)) (g0 + 1) k (sm, (some ⟨gm, 0, none⟩, k, cm), List.zipWith (· + ·) x.2.2 y.2.2) := ⟨gm, cm, rfl, own_base Hm7.out hle⟩
                        exact hmm.grownV Hp7.out Hg8.out)
                    have Hps8 : Hid ((ps ++ ([(sm, (some ⟨gm, 0, none⟩, k, cm), List.zipWith (· + ·) x.2.2 y.2.2)] : List El)).map f2 = pairs ((rowsP one1 t).take (2 * (j + 1)))) := Lib.hid (by rw [Hsnoc.out, List.map_append, Hps.out, ← Hsm.out]; rfl)
                    clear Hm7 Hp7 Hb7 Hbs7 Hs7 Hman7 Hbw7 Hg8 ck0 ck1 cq0 cq1
                    go_wp2_with fail
                    go_roundw
                    case rel => exact ⟨j + 1, _, int_eq (by have := Hkk.out; omega), by have := Hkk.out; omega, by rw [List.length_append, List.flatMap_append]; exact Ho8.out, Hman8.out, Hps8.out, Hb8.out⟩
                    case measure => simp [intOf]; omega)
                · have Hpf : Hid (ps.map f2 = pairs (rowsP one1 t)) := Lib.hid (by
                    have h1 := Hkk.out
                    have h2 : (rowsP one1 t).length = Nt := by rw [← Hrow.out, List.length_map, HNt.out]
                    rw [Hps.out]
                    exact pairs_cut _ j (by omega) (by omega))
                  obtain ⟨PA, pc, hv, _, _, _, _⟩ := own_slat Hpown.out
                  subst hv
                  obtain ⟨pl, hpl2⟩ : ∃ pl, ps.length = pl := ⟨_, rfl⟩
                  have Hpl := Lib.hid hpl2
                  rw [hpl2] at Hpown ⊢
                  have hplb : pl ≤ 576 := by omega
                  clear hpl hpl2 Hkk Hps hkq
                  have H1o := Lib.hid (own_keep (own_keep Hown2.out Hbr.out) (HB.out.symm ▸ Hbx.out))
                  have HIs1 : Hid (IsSl (wr.alloc (.cells #[.slice (some ⟨g1, 0, none⟩) N1 c1, .slice PA pl pc] 133)) 2 (.slice (some ⟨g1, 0, none⟩) N1 c1) N1 (e1s.flatMap cellsP)) := Lib.hid (own_issl (H1o.out.alloc _))
                  have HIs2 : Hid (IsSl (wr.alloc (.cells #[.slice (some ⟨g1, 0, none⟩) N1 c1, .slice PA pl pc] 133)) 2 (.slice PA pl pc) pl (ps.flatMap cellsP)) := Lib.hid (own_issl (Hpown.out.alloc _))
                  have HSr : Hid (SlAt (wr.alloc (.cells #[.slice (some ⟨g1, 0, none⟩) N1 c1, .slice PA pl pc] 133)) (some ⟨wr.heap.size, 0, none⟩) [.slice (some ⟨g1, 0, none⟩) N1 c1, .slice PA pl pc]) := Lib.hid (SlAt.of_heap (heap_alloc_new _ _) rfl)
                  have Hbw : Hid (Below wr.heap.size wr (wr.alloc (.cells #[.slice (some ⟨g1, 0, none⟩) N1 c1, .slice PA pl pc] 133))) := Lib.hid ((Below.refl _ _).alloc (Nat.le_refl _) _)
                  go_wp2_with fail
                  refine (ConcatP.concat_any (some ⟨wr.heap.size, 0, none⟩) 2 2 [(.slice (some ⟨g1, 0, none⟩) N1 c1, N1, e1s.flatMap cellsP), (.slice PA pl pc, pl, ps.flatMap cellsP)] _ rfl (by omega) HSr.out (fun r hr => by
                    simp at hr
                    rcases hr with rfl | rfl
                    · exact HIs1.out
                    · exact HIs2.out) (fun r hr => by
                    simp at hr
                    rcases hr with rfl | rfl
                    · exact cellsP_one e1s
                    · exact cellsP_one ps) (by simp [ConcatP.total]; omega)).mono ?_
                  rintro e w6 ⟨v6, rfl, hown6, hb6⟩
                  have hcc : ConcatP.cellsOf [(Value.slice (some ⟨g1, 0, none⟩) N1 c1, N1, e1s.flatMap cellsP), (Value.slice PA pl pc, pl, ps.flatMap cellsP)] = (e1s ++ ps).flatMap cellsP := by simp [ConcatP.cellsOf]
                  have htt : ConcatP.total [(Value.slice (some ⟨g1, 0, none⟩) N1 c1, N1, e1s.flatMap cellsP), (Value.slice PA pl pc, pl, ps.flatMap cellsP)] = N1 + pl := by simp [ConcatP.total]
                  rw [hcc, htt] at hown6
                  obtain ⟨NN, hNN⟩ : ∃ NN, N1 + pl = NN := ⟨_, rfl⟩
                  rw [hNN] at hown6
                  obtain ⟨g6, c6, hv6, hg6, hg62⟩ := hown6.form (by omega)
                  subst hv6
                  have Hsz6 : Hid (g0 + 1 ≤ wr.heap.size ∧ w2.heap.size ≤ wr.heap.size) := Lib.hid (by
                    have h1 := Hb2.out.size; have h2 := Hs1.out; have h3 := Hbr.out.size; have h4 := Hbx.out.size; have h5 := HB.out; omega)
                  have Hown6 := Lib.hid (own_base hown6 (by have h1 := Hbw.out.size; have := Hsz6.out.2; omega : w2.heap.size ≤ _))
                  have Hb06 := Lib.hid (Hbr.out.trans ((Hbx.out.mono (by have h3 := Hbr.out.size; have h5 := HB.out; omega)).trans ((Hbw.out.mono Hsz6.out.2).trans (hb6.mono (by have h1 := Hbw.out.size; have := Hsz6.out.2; omega)))))
                  have Hm1 : Hid (∀ e ∈ e1s ++ ps, ManyAt w6 (g0 + 1) k e) := Lib.hid (fun e he => by
                    rcases List.mem_append.1 he with he | he
                    · exact ((Hman2.out e he).below Hb06.out)
                    · exact (((Hpman.out e he).below Hbw.out).below hb6))
                  have Hmap : Hid ((stab ekey (e1s ++ ps)).map f2 = rowsP one1 (t + 1)) := Lib.hid (by rw [f2_stab, List.map_append, Hone.out, Hpf.out]; rfl)
                  have Hr6 := Lib.hid (rising_any w2.heap.size g6 NN c6 (e1s ++ ps) w6 Hown6.out (by omega) (fun e he => by
                    have h1 : f2 e ∈ rowsP one1 (t + 1) := by rw [← Hmap.out]; exact List.mem_map_of_mem ((stab_perm ekey _).mem_iff.2 he)
                    have := (bd_row (rows_bd one1 Hobd.out (t + 1) _ h1) (by omega)).1
                    omega))
                  have Hlen6 : Hid ((stab ekey (e1s ++ ps)).length = NN) := Lib.hid (by rw [stab_length, List.length_append, Hln.out, Hpl.out]; exact hNN)
                  clear hown6 hb6 hcc htt hg6 hg62 HIs1 HIs2 HSr H1o Hpown Hpman
                  go_wp2_with fail
                  refine (Hr6.out).mono ?_
                  rintro e w7 ⟨rfl, hown7, hg7⟩
                  have Hown7 := Lib.hid (own_base hown7 (by have h1 := Hb2.out.size; have h2 := Hs1.out; omega : g0 + 1 ≤ w2.heap.size))
                  have Hb07 := Lib.hid (own_below Hown6.out hg7 Hb06.out Hb06.out.size)
                  have Hm7 : Hid (∀ e ∈ stab ekey (e1s ++ ps), ManyAt w7 (g0 + 1) k e) := Lib.hid (fun e he => (Hm1.out e ((stab_perm ekey _).mem_iff.1 he)).grownV Hown6.out hg7)
                  clear hown7 hg7 Hr6
                  go_wp2_with fail
                  go_roundw
                  case rel => exact ⟨t + 1, stab ekey (e1s ++ ps), by omega, by go_num, by rw [Hlen6.out]; exact Hown7.out, Hm7.out, Hmap.out, Hb07.out⟩
                  case measure => simp [intOf]; omega
            · obtain rfl : t = L1 := by omega
              obtain ⟨M, hM⟩ : ∃ M, M = 2 * N1 - 2 := ⟨_, rfl⟩
              have hMN : M ≤ Nt := by
                have h1 := rows_enough one1 L hL1 (by rw [Hol.out]; exact Hus.out)
                rw [show L - 1 = t by have := HL.out; omega, ← Hrow.out, List.length_map, HNt.out, Hol.out] at h1
                omega
              obtain ⟨A9, c9, hv9, hcap, _, _, _⟩ := own_slat Hown.out
              injection hv9 with hv1 hv2 hv3
              subst hv3
              clear hv1 hv2
              have eM : 2 * (N1 : Int) - 2 = (M : Int) := by omega
              have hMc : M ≤ cr := by omega
              have Hout3 : Hid (wr.ownsRow g0 3 1 (.slice (some ⟨g0, 0, none⟩) k k) k ((addAll k (([] : List El).map f2)).map nv)) := Lib.hid (by
                have h1 := own_low Hout.out (Hb2.out.trans (Hbr.out.mono (by have h1 := Hb2.out.size; have h2 := Hs1.out; omega))) (by omega : g0 < g0 + 1)
                simpa [addAll] using h1)
              have Hbw : Hid (Below g0 w wr) := Lib.hid (Hb1.out.trans ((Hb2.out.mono (by omega)).trans (Hbr.out.mono (by have h1 := Hb2.out.size; have h2 := Hs1.out; omega))))
              have HLP2 : Hid (lengthsP (natsOf zs) (L : Int).toNat = addAll k ((et.map f2).take M)) := Lib.hid (by rw [HLP.out, hM, Hrow.out, show L - 1 = t by have := HL.out; omega])
              have Hlen : Hid (∀ e ∈ et, e.2.2.length = k) := Lib.hid (fun e he => (Hman.out e he).len)
              have Hbd : Hid (∀ e ∈ et, ∀ x ∈ e.2.2, x ≤ 40000) := Lib.hid (fun e he => (bd_row (rows_bd one1 Hobd.out t _ (by rw [← Hrow.out]; exact List.mem_map_of_mem he)) (by omega)).2)
              clear hM Hout Hb2 Hman2 Hone Hln Hol Hobd HLP Hus Hown2 Hbr Hrow
              go_wp2_with fail
              clear eM
              go_loopw [106] (fun i wr => ∃ j : Nat, j ≤ M ∧ i = .int .i64 (j : Int) ∧ wr.ownsRow g0 3 1 (.slice (some ⟨g0, 0, none⟩) k k) k ((addAll k ((et.map f2).take j)).map nv) ∧ wr.ownsRow (g0 + 1) 135 2 (.slice (some ⟨gr, 0, none⟩) Nt cr) Nt (et.flatMap cellsP) ∧ (∀ e ∈ et, ManyAt wr (g0 + 1) k e) ∧ Below g0 w wr) (fun i _ => M - (intOf i).toNat)
              case atStart => exact ⟨0, Nat.zero_le _, rfl, by simpa using Hout3.out, Hown.out, Hman.out, Hbw.out⟩
              case round =>
                obtain ⟨j, hj, rfl, hout, hown, hman, hbw⟩ := hrel
                have Hout := Lib.hid hout
                have Howr := Lib.hid hown
                have Hmanr := Lib.hid hman
                have Hbwr := Lib.hid hbw
                clear hout hman hbw
                by_cases hlt : j < M
                · have hjl : j < et.length := by rw [HNt.out]; omega
                  obtain ⟨ga, ca, hva, _⟩ := (Hmanr.out _ (List.getElem_mem hjl)).val
                  have c0 : wr.cell? ⟨gr, j * 2, none⟩ = some (.int .i64 (et[j].1 : Int)) := by rw [hown.cellAt (j * 2) (by omega), cellsP_0 et j hjl]; rfl
                  have c1 : wr.cell? ⟨gr, j * 2 + 1, none⟩ = some (.slice (some ⟨ga, 0, none⟩) k ca) := by rw [hown.cellAt (j * 2 + 1) (by omega), cellsP_1 et j hjl, hva]
                  have Hsn : Hid ((et.map f2).take (j + 1) = (et.map f2).take j ++ [f2 et[j]]) := Lib.hid (by rw [List.take_succ_eq_append_getElem (by rw [List.length_map]; exact hjl), List.getElem_map])
                  have Hme := Lib.hid (List.getElem_mem hjl)
                  obtain ⟨x, hx⟩ : ∃ x, et[j] = x := ⟨_, rfl⟩
                  rw [hx] at hva c0 Hsn Hme
                  have Hxl := Lib.hid (Hlen.out x Hme.out)
                  have Hxb := Lib.hid (Hbd.out x Hme.out)
                  have Hcl : Hid ((addAll k ((et.map f2).take j)).length = k) := Lib.hid (addAll_len k _ (fun p hp => by
                    obtain ⟨e, he, rfl⟩ := List.mem_map.1 (List.mem_of_mem_take hp)
                    exact Hlen.out e he))
                  have Hcb : Hid (∀ z ∈ addAll k ((et.map f2).take j), z ≤ 100000000) := Lib.hid (fun z hz => by
                    have := addAll_bd k 40000 _ (fun p hp => by
                      obtain ⟨e, he, rfl⟩ := List.mem_map.1 (List.mem_of_mem_take hp)
                      exact Hbd.out e he) z hz
                    rw [List.length_take] at this
                    have h2 : min j (et.map f2).length ≤ j := Nat.min_le_left _ _
                    have h3 : 40000 * min j (et.map f2).length ≤ 40000 * 576 := Nat.mul_le_mul_left _ (by omega)
                    omega)
                  have Hva := Lib.hid hva
                  have hjc : j < cr := by omega
                  clear hown hva hx
                  generalize hcur : addAll k ((et.map f2).take j) = cur at *
                  have Hcur := Lib.hid hcur
                  clear hcur
                  go_wp2_with fail
                  have Hout4 := Lib.hid (Hout.out.alloc (.cells #[.int .i64 (x.1 : Int), .slice (some ⟨ga, 0, none⟩) k ca] 135))
                  have Howr4 := Lib.hid (Howr.out.alloc (.cells #[.int .i64 (x.1 : Int), .slice (some ⟨ga, 0, none⟩) k ca] 135))
                  have Hman4 : Hid (∀ e ∈ et, ManyAt (wr.alloc (.cells #[.int .i64 (x.1 : Int), .slice (some ⟨ga, 0, none⟩) k ca] 135)) (g0 + 1) k e) := Lib.hid (fun e he => (Hmanr.out e he).below ((Below.refl _ _).alloc (Nat.le_refl _) _))
                  have Hbw4 := Lib.hid (Hbwr.out.alloc (by rw [← Hg0.out]; exact Hbwr.out.size) (.cells #[.int .i64 (x.1 : Int), .slice (some ⟨ga, 0, none⟩) k ca] 135))
                  clear Hout Howr Hmanr Hbwr c0 c1
                  generalize wr.alloc (.cells #[.int .i64 (x.1 : Int), .slice (some ⟨ga, 0, none⟩) k ca] 135) = wq at *
                  go_loopw [113] (fun i wx => ∃ q : Nat, q ≤ k ∧ i = .int .i64 (q : Int) ∧ wx.ownsRow g0 3 1 (.slice (some ⟨g0, 0, none⟩) k k) k ((addTo cur x.2.2 q).map nv) ∧ wx.ownsRow (g0 + 1) 135 2 (.slice (some ⟨gr, 0, none⟩) Nt cr) Nt (et.flatMap cellsP) ∧ (∀ e ∈ et, ManyAt wx (g0 + 1) k e) ∧ Below g0 w wx) (fun i _ => k - (intOf i).toNat)
                  case atStart => exact ⟨0, Nat.zero_le _, rfl, by rw [addTo_zero]; exact Hout4.out, Howr4.out, Hman4.out, Hbw4.out⟩
                  case round =>
                    obtain ⟨q, hq, rfl, hout, hown, hman, hbw⟩ := hrel
                    have Howr5 := Lib.hid hown
                    have Hman5 := Lib.hid hman
                    have Hbw5 := Lib.hid hbw
                    clear hown hman hbw
                    by_cases hlt3 : q < k
                    · have q1 : q < cur.length := by rw [Hcl.out]; exact hlt3
                      have q2 : q < x.2.2.length := by rw [Hxl.out]; exact hlt3
                      obtain ⟨ga', ca', hva', hS⟩ := (Hman5.out x Hme.out).val
                      rw [Hva.out] at hva'
                      injection hva' with v1 v2 v3
                      injection v1 with v1
                      injection v1 with v1
                      subst v1
                      obtain ⟨b9, o9, hb9, hc9⟩ := SlAt.get hS (k := q) (by rw [List.length_map]; exact q2)
                      injection hb9 with hb9
                      injection hb9 with hb91 hb92
                      subst hb91 hb92
                      have hcx : wr.cell? ⟨ga, q, none⟩ = some (.int .i64 (x.2.2[q] : Int)) := by
                        have := hc9
                        simpa [nv] using this
                      have hget := addTo_get cur x.2.2 q q1 q2
                      have Hnext := Lib.hid (addTo_next cur x.2.2 q q1 q2)
                      have hco : wr.cell? ⟨g0, q, none⟩ = some (.int .i64 (cur[q] : Int)) := by rw [hout.cellAt q (by omega), List.getElem?_map, hget]; rfl
                      have hfz := hout.frozenAt q
                      have Hst := Lib.hid (fun u => (hout.stored q u).1)
                      have hb1 := Hcb.out _ (List.getElem_mem q1)
                      have hb2 := Hxb.out _ (List.getElem_mem q2)
                      generalize cur[q] = a1 at *
                      generalize x.2.2[q] = a2 at *
                      clear hout hget hc9 hS v2 v3
                      go_wp2_with fail
                      go_roundw
                      case rel =>
                        refine ⟨q + 1, by omega, by go_num, ?_, ownsRow_setCell_other Howr5.out (by simp [Value.ownBlock]; omega) _, fun e he => (Hman5.out e he).set_ _ (by show g0 < g0 + 1; omega) _, Hbw5.out.setCell (Nat.le_refl _) _⟩
                        have := Hst.out (.int .i64 ((a1 : Int) + (a2 : Int)))
                        rw [Hnext.out, List.map_set]
                        exact this
                      case measure => simp [intOf]; omega
                    · obtain rfl : q = k := by omega
                      have hall := addTo_all cur x.2.2 (by rw [Hcl.out, Hxl.out])
                      rw [Hcl.out] at hall
                      rw [hall] at hout
                      have Hout5 := Lib.hid hout
                      clear hout hall
                      go_wp2_with fail
                      go_roundw
                      case rel => exact ⟨j + 1, by omega, by go_num, by rw [Hsn.out, addAll_snoc, Hcur.out]; exact Hout5.out, Howr5.out, Hman5.out, Hbw5.out⟩
                      case measure => simp [intOf]; omega
                · obtain rfl : j = M := by omega
                  go_wp2_with fail
                  go_ret2
                  refine ⟨.inr ⟨H0.out, _, rfl, ?_⟩, by rw [Hg0.out]; exact Hbwr.out⟩
                  rw [HLP2.out, Hn.out, Hg0.out]; exact Hout.out
theorem lengths_any (A : Option Addr) (n c : Nat) (zs : List Int) (most : Int) (w : World) (hn : zs.length = n) (hx : n ≤ maxLen) (hA : InAt w A zs) :
  Calls Tryz.prog 49 #[.slice A n c, .int .i64 most] w (LenPost zs most w) := by
 by_cases h0 : chkW zs most = 0
 ·obtain ⟨L, rfl⟩ := Int.eq_ofNat_of_zero_le (by have := chkW_fine zs most h0; omega : 0 ≤ most)
  exact lengths_go A n c L zs w hn hx hA h0
 ·have HC := Lib.hid (checkW_any A n c zs most w hn hx hA)
  clear hn hx hA
  generalize hz : chkW zs most = z at *
  have Hz := Lib.hid hz
  have h1 : (z == 0) = false := by simpa using h0
  clear hz
  go_enter Tryz.func49, Tryz.ntmps49
  go_wp2_with fail
  refine (HC.out).mono ?_
  rintro e wx ⟨rfl, rfl⟩
  go_wp2_with fail
  go_ret2
  exact ⟨.inl ⟨by rw [Hz.out]; exact h0, by rw [Hz.out]; rfl⟩, Below.refl _ _⟩
end Go.Proofs.YthpdcnjaodjjmaaGreat.Weigh

/- bits of numbers, as the machine reckons them. No program's text in sight. -/
namespace Go.Proofs.YthpdcnjaodjjmaaGreat.Bits
open Go Go.RowKit Go.Proofs.YthpdcnjaodjjmaaGreat
set_option linter.unusedVariables false

theorem ty8 : SliceTy Tryz.prog 24 5 (.int .u8 0) 1 1 := ⟨Tryz.underlying24, by kernel_rfl, rfl, by omega⟩
theorem and_bit64 (n k : Nat) (h : n < 9223372036854775808) : bits .and .i64 ((n : Int) / 2 ^ k) 1 = ((n.testBit k).toNat : Int) := by
 have h2 : (n : Int) / 2 ^ k = ((n / 2 ^ k : Nat) : Int) := by simp
 have hlt : n / 2 ^ k < 9223372036854775808 := Nat.lt_of_le_of_lt (Nat.div_le_self _ _) h
 have hx : BitVec.ofInt 64 ((n / 2 ^ k : Nat) : Int) = BitVec.ofNat 64 (n / 2 ^ k) := by rw [BitVec.ofInt_natCast]
 rw [h2]
 show IntKind.i64.wrap ((BitVec.ofInt 64 ((n / 2 ^ k : Nat) : Int) &&& BitVec.ofInt 64 (1 : Int)).toNat : Int) = _
 have h1 : (BitVec.ofInt 64 ((n / 2 ^ k : Nat) : Int) &&& BitVec.ofInt 64 (1 : Int)).toNat = (n / 2 ^ k) % 2 := by
  rw [hx, BitVec.toNat_and, BitVec.toNat_ofNat, Nat.mod_eq_of_lt (by omega), show (BitVec.ofInt 64 (1 : Int)).toNat = 1 from rfl, nat_mask1]
 rw [h1, Nat.toNat_testBit]; exact IntWalk.i64_in _ (by omega)
def bitI (b : Bool) : Int := (b.toNat : Int)
theorem and_bitI (n k : Nat) (h : n < 9223372036854775808) : bits .and .i64 ((n : Int) / 2 ^ k) 1 = bitI (n.testBit k) := and_bit64 n k h

end Go.Proofs.YthpdcnjaodjjmaaGreat.Bits

/- package bits: bits that are read. -/
namespace Go.Proofs.YthpdcnjaodjjmaaGreat.Bits
open Go Go.RowKit Go.Proofs.YthpdcnjaodjjmaaGreat
set_option linter.unusedVariables false

def SrcAt (w : World) (p : Nat) (A : Option Addr) (n c : Nat) (pos : Nat) : Prop := Blk w p 122 #[.slice A n c, .int .i64 (pos : Int)]
def srcT : List TypeId := [122]

theorem u8_and_bitI (x : UInt8) (r : Nat) : bits .and .u8 (n8 x / 2 ^ r) 1 = bitI (x.toNat.testBit r) := by
 have hx := x.toNat_lt
 have hlt : x.toNat / 2 ^ r < 256 := Nat.lt_of_le_of_lt (Nat.div_le_self _ _) hx
 have h2 : n8 x / 2 ^ r = ((x.toNat / 2 ^ r : Nat) : Int) := by unfold n8; simp
 rw [h2, show (1 : Int) = ((1 : Nat) : Int) from rfl, u8_and_nat _ _ hlt (by omega), nat_mask1]
 unfold bitI; rw [Nat.toNat_testBit]
theorem bitI_bd (b : Bool) : 0 ≤ bitI b ∧ bitI b ≤ 1 := by cases b <;> decide
theorem or64 (a b i : Nat) (ha : a % 2 ^ i = 0) (hb : b < 2 ^ i) (hs : a + b < 9223372036854775808) : bits .or .i64 (a : Int) (b : Int) = ((a + b : Nat) : Int) := by
 have h1 : BitVec.ofInt 64 (a : Int) = BitVec.ofNat 64 a := by rw [BitVec.ofInt_natCast]
 have h2 : BitVec.ofInt 64 (b : Int) = BitVec.ofNat 64 b := by rw [BitVec.ofInt_natCast]
 show IntKind.i64.wrap ((BitVec.ofInt 64 (a : Int) ||| BitVec.ofInt 64 (b : Int)).toNat : Int) = _
 rw [h1, h2, BitVec.toNat_or, BitVec.toNat_ofNat, BitVec.toNat_ofNat, Nat.mod_eq_of_lt (by omega), Nat.mod_eq_of_lt (by omega), nat_join i a b ha hb]
 exact IntWalk.i64_in _ (by omega)
theorem or_comm64 (a b : Int) : bits .or .i64 a b = bits .or .i64 b a := by
 show IntKind.i64.wrap ((BitVec.ofInt 64 a ||| BitVec.ofInt 64 b).toNat : Int) = IntKind.i64.wrap ((BitVec.ofInt 64 b ||| BitVec.ofInt 64 a).toNat : Int)
 rw [BitVec.or_comm]
theorem or_bit64 (n k : Nat) (b : Bool) (hn : n < 2 ^ k) (hk : k ≤ 61) : bits .or .i64 (n : Int) (wrap64 (bitI b * 2 ^ k)) = ((n + b.toNat * 2 ^ k : Nat) : Int) := by
 have h2 : 2 ^ k ≤ 2 ^ 61 := Nat.pow_le_pow_right (by omega) hk
 have hb : b.toNat ≤ 1 := by cases b <;> simp
 have hbb : b.toNat * 2 ^ k ≤ 1 * 2 ^ k := Nat.mul_le_mul_right _ hb
 have e : bitI b * 2 ^ k = ((b.toNat * 2 ^ k : Nat) : Int) := by unfold bitI; simp
 have e2 : wrap64 ((b.toNat * 2 ^ k : Nat) : Int) = ((b.toNat * 2 ^ k : Nat) : Int) := by unfold wrap64; omega
 rw [e, e2, or_comm64, or64 _ _ k (Nat.mul_mod_left _ _) hn (by omega), Nat.add_comm]
theorem slat_setCell {w : World} {A : Option Addr} {cs : List Value} (h : SlAt w A cs) {p : Addr} (hne : ∀ b o, A = some ⟨b, o, none⟩ → 0 < cs.length → b ≠ p.block) (u : Value) : SlAt (w.setCell p u) A cs := fun hp => by
 obtain ⟨b, o, e, hc⟩ := h hp
 refine ⟨b, o, e, fun j v hj => ?_⟩
 rw [World.cell?_of_block (Below.heap_setCell w p u b (hne b o e hp))]
 exact hc j v hj
theorem num_take_snoc (l : List Bool) (k : Nat) (h : k < l.length) : num (l.take (k + 1)) = num (l.take k) + l[k].toNat * 2 ^ k := by
 rw [take_snoc _ _ h, num_append]
 simp [num, Nat.min_eq_left (Nat.le_of_lt h)]
 exact Nat.mul_comm _ _

theorem of_any (A : Option Addr) (n c : Nat) (w : World) :
  Calls Tryz.prog 42 #[.slice A n c] w fun e w' => e = .returned (.pointer (some ⟨w.heap.size, 0, none⟩)) ∧ SrcAt w' w.heap.size A n c 0 ∧ Below w.heap.size w w' := by
 go_enter Tryz.func42, Tryz.ntmps42
 go_wp2
 go_ret
 exact ⟨rfl, Blk.new w _ _, (Below.refl _ _).alloc (Nat.le_refl _) _⟩

def GetPost (p : Nat) (A : Option Addr) (n c pos size : Nat) (xs : List UInt8) (w : World) (e : Ending) (w' : World) : Prop :=
  (pos + size ≤ 8 * n ∧ e = .returned (.tuple #[.int .i64 (num (((bitsL xs).drop pos).take size) : Nat), .bool true]) ∧ SrcAt w' p A n c (pos + size) ∨
   8 * n < pos + size ∧ e = .returned (.tuple #[.int .i64 0, .bool false]) ∧ ∃ q, SrcAt w' p A n c q) ∧ Keeps p srcT w w'

set_option maxRecDepth 100000 in
set_option maxHeartbeats 1600000 in
theorem get_any (p : Nat) (A : Option Addr) (n c pos size : Nat) (xs : List UInt8) (w : World) (h : SrcAt w p A n c pos) (hn : xs.length = n) (hA : ByAt w A xs) (hs : size ≤ 61) (hp : pos ≤ 8 * n) (hnn : n ≤ 1099511627776) (hbx : ∀ b o, A = some ⟨b, o, none⟩ → 0 < n → b ≠ p) :
  Calls Tryz.prog 91 #[.pointer (some ⟨p, 0, none⟩), .int .i64 (size : Int)] w (GetPost p A n c pos size xs w) := by
 have H := Lib.hid h
 have Hn := Lib.hid hn
 have HA := Lib.hid hA
 have Hbx := Lib.hid hbx
 clear h hn hA hbx
 go_enter Tryz.func91, Tryz.ntmps91
 go_wp2_with fail
 go_loopw [6, 9] (fun a i wr => ∃ k : Nat, k ≤ size ∧ pos + k ≤ 8 * n ∧ i = .int .i64 k ∧ a = .int .i64 (num (((bitsL xs).drop pos).take k) : Nat) ∧ SrcAt wr p A n c (pos + k) ∧ Keeps p srcT w wr ∧ ByAt wr A xs) (fun _ i _ => size - (intOf i).toNat)
 case atStart => exact ⟨0, Nat.zero_le _, hp, rfl, rfl, H.out, Keeps.refl _ _ _, HA.out⟩
 case round =>
  obtain ⟨k, hk, hpk, rfl, rfl, hsrc, hkeep, hby⟩ := hrel
  have Hsrc := Lib.hid hsrc
  have Hkeep := Lib.hid hkeep
  have Hby := Lib.hid hby
  have e0 := hsrc.c0
  have e1 := hsrc.c1
  have z1 := hsrc.frozen 1
  obtain ⟨q, hq⟩ : ∃ q, q = pos + k := ⟨_, rfl⟩
  rw [← hq] at e1 hpk Hsrc
  have Hq := Lib.hid hq
  clear hsrc hkeep hby hq
  by_cases hlt : k < size
  ·by_cases hin : q < 8 * n
   ·have hql : q < (bitsL xs).length := by rw [bitsL_length, Hn.out]; exact hin
    have hkd : k < ((bitsL xs).drop pos).length := by rw [List.length_drop]; have := Hq.out; omega
    have hx : q / 8 < xs.length := by rw [Hn.out]; omega
    obtain ⟨b, o, rfl, hc⟩ := Hby.out.get hx
    have Hnum := Lib.hid (num_take_snoc ((bitsL xs).drop pos) k hkd)
    have hbit : ((bitsL xs).drop pos)[k] = xs[q / 8].toNat.testBit (q % 8) := by
     have h1 := bitsL_get xs q (by rw [Hn.out]; exact hin)
     rw [List.getElem_drop]
     have h2 : (bitsL xs)[pos + k]? = (bitsL xs)[q]? := by rw [Hq.out]
     rw [h1] at h2
     have h3 : (bitsL xs)[pos + k]'(by have := Hq.out; omega) = xs[q / 8].toNat.testBit (q % 8) := by
      have h4 := List.getElem?_eq_getElem (l := bitsL xs) (i := pos + k) (by have := Hq.out; omega)
      rw [h4] at h2
      injection h2 with h2
      rw [h2]; simp [List.getD, hx]
     exact h3
    rw [hbit] at Hnum
    have hnlt : num (((bitsL xs).drop pos).take k) < 2 ^ k := by
     have := num_lt (((bitsL xs).drop pos).take k)
     rwa [List.length_take, Nat.min_eq_left (by omega)] at this
    have hor := or_bit64 _ k (xs[q / 8].toNat.testBit (q % 8)) hnlt (by omega)
    have hand := u8_and_bitI xs[q / 8] (q % 8)
    generalize num (((bitsL xs).drop pos).take k) = m at *
    generalize xs[q / 8] = x at *
    generalize x.toNat.testBit (q % 8) = bb at *
    have hbb := bitI_bd bb
    have hr8 : q % 8 < 8 := by omega
    have hge : ¬ (8 * (n : Int) ≤ (q : Int)) := by omega
    clear hbit hx
    go_wp2_with fail
    go_quiet (fail)
    go_wp2_with fail
    go_quiet (fail)
    go_wp2_with fail
    go_roundw
    case rel =>
     refine ⟨k + 1, by omega, by have := Hq.out; omega, by go_num, int_eq (by rw [Hnum.out]; simp), ?_, ?_, ?_⟩
     ·have h2 : ((pos + (k + 1) : Nat) : Int) = (q : Int) + 1 := by have := Hq.out; omega
      unfold SrcAt
      rw [h2]; exact Blk.s1 (Blk.drewN Hsrc.out _) _
     ·exact (Hkeep.out.drewN _).setBlk (Hsrc.out.drewN _) (by simp [srcT]) (Nat.le_refl _) 1 _
     ·exact slat_setCell (Hby.out) (fun b' o' e _ => Hbx.out b' o' e (by omega)) _
    case measure => simp [intOf]; omega
   ·have hge : 8 * (n : Int) ≤ (q : Int) := by omega
    go_wp2_with fail
    go_quiet (fail)
    go_wp2_with fail
    go_ret2
    exact ⟨.inr ⟨by have := Hq.out; omega, rfl, q, Hsrc.out⟩, Hkeep.out.drewN _⟩
  ·have hk2 : k = size := by omega
   have Hk2 := Lib.hid hk2
   clear hk2
   go_wp2_with fail
   go_ret2
   refine ⟨.inl ⟨by have := Hq.out; have := Hk2.out; omega, by rw [← Hk2.out]; rfl, ?_⟩, Hkeep.out⟩
   have h1 := Hsrc.out
   rw [Hq.out, Hk2.out] at h1
   exact h1
end Go.Proofs.YthpdcnjaodjjmaaGreat.Bits

/- package code: Make. -/
namespace Go.Proofs.YthpdcnjaodjjmaaGreat.Code
open Go Go.RowKit Go.Proofs.YthpdcnjaodjjmaaGreat Go.Proofs.YthpdcnjaodjjmaaGreat.Bits
set_option linter.unusedVariables false

theorem tyI : SliceTy Tryz.prog 23 3 (.int .i64 0) 1 8 := ⟨Tryz.underlying23, by kernel_rfl, rfl, by omega⟩
def tab (cs : List Nat) (v : Value) : Array Value := (cs.map natV ++ [v]).toArray
theorem tab_get (cs : List Nat) (v : Value) (i : Nat) (h : i < cs.length) : (tab cs v)[i]? = some (.int .i64 (cs[i] : Int)) := by
 simp [tab, List.getElem?_append_left, h, natV]
theorem tab_last (cs : List Nat) (v : Value) : (tab cs v)[cs.length]? = some v := by
 simp [tab]
theorem tab_set (cs : List Nat) (v : Value) (i x : Nat) (h : i < cs.length) : (tab cs v).setIfInBounds i (.int .i64 (x : Int)) = tab (cs.set i x) v := by
 unfold tab
 apply Array.ext'
 simp [natV, h]
theorem tab_setv (cs : List Nat) (v u : Value) : (tab cs v).setIfInBounds cs.length u = tab cs u := by
 unfold tab
 apply Array.ext'
 simp
def cnk (ls : List Nat) (k : Nat) : List Nat := (List.range 16).map fun s => (ordN (ls.take k) s).length
theorem cnk_length (ls : List Nat) (k : Nat) : (cnk ls k).length = 16 := by simp [cnk]
theorem cnk_zero (ls : List Nat) : cnk ls 0 = List.replicate 16 0 := by simp [cnk, ordN]; decide
theorem cnk_get (ls : List Nat) (k s : Nat) (h : s < 16) : (cnk ls k)[s]'(by rw [cnk_length]; exact h) = (ordN (ls.take k) s).length := by simp [cnk]
theorem cnk_next (ls : List Nat) (k : Nat) (h : k < ls.length) (h15 : ls.getD k 0 < 16) : cnk ls (k + 1) = (cnk ls k).set (ls.getD k 0) ((ordN (ls.take k) (ls.getD k 0)).length + 1) := by
 apply List.ext_getElem
 ·simp [cnk]
 ·intro i h1 h2
  have hi : i < 16 := by simpa [cnk] using h1
  rw [cnk_get _ _ _ hi, ordN_take ls k i h, List.getElem_set]
  by_cases hx : ls.getD k 0 = i
  ·rw [if_pos hx, if_pos hx, hx]; simp
  ·rw [if_neg hx, if_neg hx, cnk_get _ _ _ hi]; simp
def cntL (ls : List Nat) : List Nat := (List.range 16).map (cnt ls)
theorem cntL_of (ls : List Nat) : (cnk ls ls.length).set 0 0 = cntL ls := by
 apply List.ext_getElem
 ·simp [cnk, cntL]
 ·intro i h1 h2
  have hi : i < 16 := by simpa [cnk] using h1
  rw [List.getElem_set]
  simp only [cntL, List.getElem_map, List.getElem_range]
  by_cases hx : 0 = i
  ·rw [if_pos hx, ← hx]; rfl
  ·rw [if_neg hx, cnk_get _ _ _ hi, List.take_length]; unfold cnt; rw [if_neg (by omega)]
theorem cntL_length (ls : List Nat) : (cntL ls).length = 16 := by simp [cntL]
theorem cntL_get (ls : List Nat) (s : Nat) (h : s < 16) : (cntL ls)[s]'(by rw [cntL_length]; exact h) = cnt ls s := by simp [cntL]
def TabAt (w : World) (base p : Nat) (ls : List Nat) : Prop := base ≤ p ∧ ∃ v, Blk w p 160 (tab (cntL ls) v) ∧ w.ownsRow base 3 1 v (ordUp ls 15).length ((ordUp ls 15).map natV)
theorem ordUp_le (ls : List Nat) (t : Nat) : (ordUp ls t).length ≤ t * ls.length := by
 induction t with
 | zero => simp [ordUp]
 | succ t ih =>
  rw [ordUp_succ, List.length_append, Nat.succ_mul]
  have := ordN_len_le ls (t + 1)
  omega
set_option maxRecDepth 100000 in
set_option maxHeartbeats 1600000 in
theorem make_any (A : Option Addr) (n c : Nat) (zs : List Int) (w : World) (hn : zs.length = n) (hA : InAt w A zs) (hc : chkL zs = 0) :
  Calls Tryz.prog 69 #[.slice A n c] w fun e w' => (∃ p, e = .returned (.pointer (some ⟨p, 0, none⟩)) ∧ TabAt w' w.heap.size p (lsOf zs)) ∧ Below w.heap.size w w' := by
 obtain ⟨f1, f2, f3, f4, f5⟩ := chk_fine zs hc
 have hx : n ≤ 288 := by omega
 have Hl := Lib.hid (lsOf_len zs)
 rw [hn] at Hl
 have H5 := Lib.hid f5
 have Hn := Lib.hid hn
 have HA := Lib.hid hA
 have Hcz := Lib.hid (cnk_zero (lsOf zs))
 clear hn hA hc f1 f2 f3 f4 f5
 go_enter Tryz.func69, Tryz.ntmps69
 go_wp2_with fail
 generalize hg : w.heap.size = g at *
 have Hg := Lib.hid hg
 clear hg
 go_loopw [13] (fun i wr => ∃ k : Nat, k ≤ n ∧ i = .int .i64 (k : Int) ∧ Blk wr g 160 (tab (cnk (lsOf zs) k) (.slice none 0 0)) ∧ Below w.heap.size w wr) (fun i _ => n - (intOf i).toNat)
 case atStart =>
  refine ⟨0, Nat.zero_le _, rfl, ?_, (Below.refl _ _).alloc (Nat.le_refl _) _⟩
  rw [Hcz.out, ← Hg.out]; exact Blk.new w _ _
 case round =>
  obtain ⟨k, hk, rfl, hblk, hb⟩ := hrel
  have Hblk := Lib.hid hblk
  have Hb := Lib.hid hb
  clear hblk hb
  by_cases hlt : k < n
  ·have hkl : k < zs.length := by rw [Hn.out]; exact hlt
   have hkl2 : k < (lsOf zs).length := by rw [Hl.out]; exact hlt
   obtain ⟨b, o, rfl, hcell⟩ := (HA.out.below Hb.out).get hkl
   have hz := H5.out zs[k] (List.getElem_mem hkl)
   have Hd := Lib.hid (getD_of zs k hkl)
   have Hs := Lib.hid (cnk_next (lsOf zs) k hkl2)
   rw [Hd.out] at Hs
   generalize zs[k] = z at *
   obtain ⟨x, rfl⟩ := Int.eq_ofNat_of_zero_le hz.1
   rw [Int.toNat_natCast] at Hs
   have hx16 : x < 16 := by omega
   have hxl : x < (cnk (lsOf zs) k).length := by rw [cnk_length]; exact hx16
   have hcc : wr.cell? ⟨g, x, none⟩ = some (.int .i64 ((ordN ((lsOf zs).take k) x).length : Int)) := by rw [Hblk.out.cell, tab_get _ _ _ hxl, cnk_get _ _ _ hx16]
   have hfz := Hblk.out.frozen x
   have hq : (ordN ((lsOf zs).take k) x).length ≤ 288 := by
    have h1 := ordN_len_le ((lsOf zs).take k) x
    have h2 : ((lsOf zs).take k).length ≤ k := by simp; omega
    omega
   generalize (ordN ((lsOf zs).take k) x).length = q at *
   go_wp2_with fail
   go_region
   go_wp2_with fail
   go_roundw
   case rel =>
    refine ⟨k + 1, by omega, by go_num, ?_, ?_⟩
    ·rw [Hs.out hx16, ← tab_set _ _ _ _ hxl]; exact (Hblk.out.set_ x _).drew
    ·exact (Hb.out.setCell (by show w.heap.size ≤ g; rw [Hg.out]; exact Nat.le_refl _) _).drew
   case measure => simp [intOf]; omega
  ·obtain rfl : k = n := by omega
   have h0l : 0 < (cnk (lsOf zs) k).length := by rw [cnk_length]; omega
   have Hlen := Lib.hid (cnk_length (lsOf zs) k)
   have Hcf : Hid ((cnk (lsOf zs) k).set 0 0 = cntL (lsOf zs)) := Lib.hid (by rw [← cntL_of, Hl.out])
   have hfz := Hblk.out.frozen 0
   have hcc : wr.cell? ⟨g, 0, none⟩ = some (.int .i64 (((cnk (lsOf zs) k)[0]'h0l : Nat) : Int)) := by rw [Hblk.out.cell, tab_get _ _ _ h0l]
   generalize (cnk (lsOf zs) k)[0]'h0l = q at *
   have Hb1 := Lib.hid (Hb.out.setCell (p := ⟨g, 0, none⟩) (by show w.heap.size ≤ g; rw [Hg.out]; exact Nat.le_refl _) (.int .i64 0))
   have Hblk1 : Hid (Blk (wr.setCell ⟨g, 0, none⟩ (.int .i64 0)) g 160 (tab (cntL (lsOf zs)) (.slice none 0 0))) := Lib.hid (by
    rw [← Hcf.out]
    have := tab_set (cnk (lsOf zs) k) (.slice none 0 0) 0 0 h0l
    rw [← this]; exact Hblk.out.set_ 0 _)
   go_wp2_with fail
   clear hcc hfz
   generalize wr.setCell ⟨g, 0, none⟩ (.int .i64 0) = wz at *
   clear Hb Hblk Hcf
   go_loopw [6] (fun s wo => ∃ t : Nat, t ≤ 15 ∧ s = .int .i64 ((t : Int) + 1) ∧ (∃ v, Blk wo g 160 (tab (cntL (lsOf zs)) v) ∧ wo.ownsRow w.heap.size 3 1 v (ordUp (lsOf zs) t).length ((ordUp (lsOf zs) t).map natV)) ∧ Below w.heap.size w wo) (fun s _ => 17 - (intOf s).toNat)
   case atStart => exact ⟨0, Nat.zero_le _, rfl, ⟨_, Hblk1.out, ⟨rfl, .inl ⟨rfl, rfl⟩⟩⟩, Hb1.out⟩
   case round =>
    obtain ⟨t, ht, rfl, ⟨v, hblk, hown⟩, hb⟩ := hrel
    have Hblk := Lib.hid hblk
    have Hown := Lib.hid hown
    have Hb := Lib.hid hb
    clear hblk hb hown
    by_cases hlt : t < 15
    ·have e15 : decide ((t : Int) + 1 ≤ 15) = true := by simp; omega
     go_wp2_with fail
     clear e15
     go_loopw [38] (fun i wx => ∃ j : Nat, j ≤ k ∧ i = .int .i64 (j : Int) ∧ (∃ v, Blk wx g 160 (tab (cntL (lsOf zs)) v) ∧ wx.ownsRow w.heap.size 3 1 v (ordUp (lsOf zs) t ++ ordN ((lsOf zs).take j) (t + 1)).length ((ordUp (lsOf zs) t ++ ordN ((lsOf zs).take j) (t + 1)).map natV)) ∧ Below w.heap.size w wx) (fun i _ => k - (intOf i).toNat)
     case atStart => exact ⟨0, Nat.zero_le _, rfl, ⟨v, Hblk.out, by simpa [ordN] using Hown.out⟩, Hb.out⟩
     case round =>
      obtain ⟨j, hj, rfl, ⟨v2, hblk, hown⟩, hb⟩ := hrel
      by_cases hjk : j < k
      ·have hjl : j < zs.length := by rw [Hn.out]; exact hjk
       have hjl2 : j < (lsOf zs).length := by rw [Hl.out]; exact hjk
       obtain ⟨b, o, rfl, hcell⟩ := (HA.out.below hb).get hjl
       have hz := H5.out zs[j] (List.getElem_mem hjl)
       have Hd := Lib.hid (getD_of zs j hjl)
       have Ht := Lib.hid (ordN_take (lsOf zs) j (t + 1) hjl2)
       rw [Hd.out] at Ht
       have hN : (ordUp (lsOf zs) t ++ ordN ((lsOf zs).take j) (t + 1)).length ≤ 100000 := by
        rw [List.length_append]
        have h1 := ordUp_le (lsOf zs) t
        have h2 := ordN_len_le ((lsOf zs).take j) (t + 1)
        have h3 : ((lsOf zs).take j).length ≤ j := by simp; omega
        rw [Hl.out] at h1
        have h4 : t * k ≤ 15 * k := Nat.mul_le_mul_right _ ht
        omega
       generalize zs[j] = z at *
       obtain ⟨x, rfl⟩ := Int.eq_ofNat_of_zero_le hz.1
       rw [Int.toNat_natCast] at Ht
       generalize hys : ordUp (lsOf zs) t ++ ordN ((lsOf zs).take j) (t + 1) = ys at *
       have Hys := Lib.hid hys
       clear hys
       generalize hNN : ys.length = N at *
       have HN := Lib.hid hNN
       clear hNN
       by_cases hxt : x = t + 1
       ·have e1 : ((x : Int) == (t : Int) + 1) = true := by simp; omega
        have Hr : Hid (ordUp (lsOf zs) t ++ ordN ((lsOf zs).take (j + 1)) (t + 1) = ys ++ [j]) := Lib.hid (by rw [Ht.out, if_pos hxt, ← List.append_assoc, Hys.out])
        clear Ht hxt
        have hc16 : wr.cell? ⟨g, 16, none⟩ = some v2 := by rw [hblk.cell, ← cntL_length (lsOf zs), tab_last]
        have Hown2 := Lib.hid (hown.alloc (.cells #[.int .i64 (j : Int)] 3))
        have Hsl := Lib.hid (slat_one wr 3 (.int .i64 (j : Int)))
        have Hblk2 := Lib.hid (hblk.alloc (.cells #[.int .i64 (j : Int)] 3))
        have Hb2 := Lib.hid (hb.alloc hb.size (.cells #[.int .i64 (j : Int)] 3))
        have Hbs := Lib.hid Hb2.out.size
        clear hblk hown hb
        go_wp2_with (at_builtin; refine wpList_app _ rfl (.tmp 50) (.tmp 52) _ rfl w.heap.size 3 _ 1 8 tyI v2 N (ys.map natV) rfl Hown2.out (some ⟨wr.heap.size, 0, none⟩) 1 1 [.int .i64 (j : Int)] rfl rfl Hsl.out (by simp [Value.oneCell']) (by simp) (by unfold maxLen; omega) (by omega) Hbs.out ?_; intro v3 w3 hown3 hg3 _; obtain ⟨g3, c3, hv3, _, _⟩ := hown3.form (by omega); subst hv3; have Ho3 := Lib.hid hown3; have Hb3 := Lib.hid (Hblk2.out.grown hg3 (own_ne Hown2.out Hblk2.out (by decide))); have Hk3 := Lib.hid (own_below Hown2.out hg3 Hb2.out Hbs.out); clear hown3 hg3; have hy16 := Hb3.out.frozen 16; have hd16 : w3.cell? ⟨g, 16, none⟩ = some v2 := (by rw [Hb3.out.cell, ← cntL_length (lsOf zs), tab_last]))
        go_roundw
        case rel =>
         refine ⟨j + 1, by omega, by go_num, ⟨Go.Value.slice (some ⟨g3, 0, none⟩) (N + 1) c3, ?_, ?_⟩, ?_⟩
         ·have := tab_setv (cntL (lsOf zs)) v2 (Go.Value.slice (some ⟨g3, 0, none⟩) (N + 1) c3)
          rw [cntL_length] at this
          rw [← this]; exact Hb3.out.set_ 16 _
         ·rw [Hr.out, List.length_append, HN.out, List.map_append]
          exact ownsRow_setCell_other Ho3.out (a := ⟨g, 16, none⟩) (by exact own_ne Ho3.out Hb3.out (by decide)) _
         ·exact Hk3.out.setCell (by show w.heap.size ≤ g; rw [Hg.out]; exact Nat.le_refl _) _
        case measure => simp [intOf]; omega
       ·have e1 : ((x : Int) == (t : Int) + 1) = false := by simp; omega
        have Hr : Hid (ordUp (lsOf zs) t ++ ordN ((lsOf zs).take (j + 1)) (t + 1) = ys) := Lib.hid (by rw [Ht.out, if_neg hxt, List.append_nil, Hys.out])
        have Hblk := Lib.hid hblk
        have Hown := Lib.hid hown
        have Hb := Lib.hid hb
        clear Ht hxt hblk hown hb
        go_wp2_with fail
        go_roundw
        case rel => exact ⟨j + 1, by omega, by go_num, ⟨v2, Hblk.out, by rw [Hr.out, HN.out]; exact Hown.out⟩, Hb.out⟩
        case measure => simp [intOf]; omega
      ·obtain rfl : j = k := by omega
       have Hall : Hid ((lsOf zs).take j = lsOf zs) := Lib.hid (List.take_of_length_le (by rw [Hl.out]; omega))
       have Hblk := Lib.hid hblk
       have Hown := Lib.hid hown
       have Hb := Lib.hid hb
       clear hblk hown hb
       rw [Hall.out, ← ordUp_succ] at Hown
       go_wp2_with fail
       go_roundw
       case rel => exact ⟨t + 1, by omega, by go_num, ⟨v2, Hblk.out, Hown.out⟩, Hb.out⟩
       case measure => simp [intOf]; omega
    ·obtain rfl : t = 15 := by omega
     go_wp2_with fail
     go_ret
     exact ⟨⟨g, rfl, by rw [Hg.out]; exact Nat.le_refl _, v, Hblk.out, Hown.out⟩, Hb.out⟩
end Go.Proofs.YthpdcnjaodjjmaaGreat.Code

/- package code: Table.Read. -/
namespace Go.Proofs.YthpdcnjaodjjmaaGreat.Code
open Go Go.RowKit Go.Proofs.YthpdcnjaodjjmaaGreat Go.Proofs.YthpdcnjaodjjmaaGreat.Bits
set_option linter.unusedVariables false

theorem val_next (row : List Bool) (t : Nat) (h : t < row.length) : val (row.take (t + 1)) = 2 * val (row.take t) + num ((row.drop t).take 1) := by
 rw [take_snoc _ _ h, val_snoc, List.drop_eq_getElem_cons h]
 show 2 * _ + _ = 2 * _ + num [row[t]]
 simp [num]
theorem one_bit (l : List Bool) : num (l.take 1) ≤ 1 := by
 have := num_lt (l.take 1)
 have h2 : (l.take 1).length ≤ 1 := by rw [List.length_take]; omega
 have h3 : 2 ^ (l.take 1).length ≤ 2 ^ 1 := Nat.pow_le_pow_right (by omega) h2
 omega
theorem or_next (v b : Nat) (hv : v ≤ 1000000) (hb : b ≤ 1) : Go.bits .or .i64 (2 * (v : Int)) (b : Int) = ((2 * v + b : Nat) : Int) := by
 have := or64 (2 * v) b 1 (by omega) (by omega) (by omega)
 rwa [Int.natCast_mul] at this
theorem SlAt.keepsB {w w' : World} {A : Option Addr} {cs : List Value} {q : Nat} {T : List TypeId} (h : SlAt w A cs) (hk : Keeps q T w w') (hlt : ∀ b o, A = some ⟨b, o, none⟩ → 0 < cs.length → b < q) : SlAt w' A cs := fun hp => by
 obtain ⟨b, o, e, hc⟩ := h hp
 refine ⟨b, o, e, fun j v hj => ?_⟩
 rw [World.cell?_of_block (hk.block b (hlt b o e hp))]
 exact hc j v hj
def NextPost (q : Nat) (A : Option Addr) (n c pos : Nat) (xs : List UInt8) (ls : List Nat) (w : World) (e : Ending) (w' : World) : Prop :=
 (∃ k m x, next ls ((bitsL xs).drop pos) = (k, m, x) ∧ e = .returned (.tuple #[.int .i64 (k : Int), .int .i64 x]) ∧ (x = 0 → SrcAt w' q A n c (pos + m) ∧ pos + m ≤ 8 * n)) ∧ Keeps q srcT w w'
theorem TabAt.keeps {w w' : World} {base p q : Nat} {ls : List Nat} (h : TabAt w base p ls) (hk : Keeps q srcT w w') : TabAt w' base p ls := by
 obtain ⟨h1, v, h2, h3⟩ := h
 exact ⟨h1, v, hk.blk h2 (by simp [srcT]), hk.own h3 (by simp [srcT])⟩
theorem TabAt.cnt {w : World} {base p : Nat} {ls : List Nat} (h : TabAt w base p ls) (s : Nat) (hs : s < 16) : w.cell? ⟨p, s, none⟩ = some (.int .i64 (cnt ls s : Int)) := by
 obtain ⟨h1, v, h2, h3⟩ := h
 rw [h2.cell, tab_get _ _ _ (by rw [cntL_length]; exact hs), cntL_get _ _ hs]
theorem TabAt.ord {w : World} {base p : Nat} {ls : List Nat} (h : TabAt w base p ls) : ∃ A cap, w.cell? ⟨p, 16, none⟩ = some (.slice A (ordUp ls 15).length cap) ∧ SlAt w A ((ordUp ls 15).map natV) := by
 obtain ⟨h1, v, h2, h3⟩ := h
 obtain ⟨A, cap, rfl, _, _, h4, _⟩ := own_slat h3
 exact ⟨A, cap, by rw [h2.cell, ← cntL_length ls, tab_last], h4⟩
set_option maxRecDepth 100000 in
set_option maxHeartbeats 1600000 in
theorem tread_any (base p q : Nat) (A : Option Addr) (n c pos : Nat) (xs : List UInt8) (ls : List Nat) (w : World) (hT : TabAt w base p ls) (hS : SrcAt w q A n c pos) (hn : xs.length = n) (hA : ByAt w A xs) (hp : pos ≤ 8 * n) (hnn : n ≤ 1099511627776)
  (hbx : ∀ b o, A = some ⟨b, o, none⟩ → 0 < n → b < q) (hl : ∀ x ∈ ls, x ≤ 15) (hr : room ls ≤ 32768) (hlen : ls.length ≤ 288) :
  Calls Tryz.prog 111 #[.pointer (some ⟨p, 0, none⟩), .pointer (some ⟨q, 0, none⟩)] w (NextPost q A n c pos xs ls w) := by
 have HT := Lib.hid hT
 have HS := Lib.hid hS
 have Hn := Lib.hid hn
 have HA := Lib.hid hA
 have Hbx := Lib.hid hbx
 have Hacc : Hid (∀ s, s ≤ 15 → first ls s + cnt ls s ≤ 32768) := Lib.hid (fun s hs => by
  have h1 := acc_le ls s hs hl hr
  have h2 : (2 : Nat) ^ s ≤ 2 ^ 15 := Nat.pow_le_pow_right (by omega) hs
  omega)
 have Hlen := Lib.hid hlen
 clear hT hS hn hA hbx hl hr
 go_enter Tryz.func111, Tryz.ntmps111
 go_wp2_with fail
 go_loopw [6, 7, 8, 9] (fun cd ft at_ sz wr => ∃ t : Nat, t ≤ 15 ∧ sz = .int .i64 ((t : Int) + 1) ∧ cd = .int .i64 ((2 * val (((bitsL xs).drop pos).take t) : Nat) : Int) ∧ ft = .int .i64 ((first ls (t + 1) : Nat) : Int) ∧ at_ = .int .i64 ((ordUp ls t).length : Int) ∧
  first ls (t + 1) ≤ 2 * val (((bitsL xs).drop pos).take t) ∧ pos + t ≤ 8 * n ∧ next ls ((bitsL xs).drop pos) = nxt ls ((bitsL xs).drop pos) (15 - t) (t + 1) ∧ SrcAt wr q A n c (pos + t) ∧ TabAt wr base p ls ∧ ByAt wr A xs ∧ Keeps q srcT w wr) (fun _ _ _ sz _ => 17 - (intOf sz).toNat)
 case atStart => exact ⟨0, Nat.zero_le _, rfl, rfl, rfl, rfl, by simp [first, cnt, val_nil], hp, rfl, HS.out, HT.out, HA.out, Keeps.refl _ _ _⟩
 case round =>
  obtain ⟨t, ht, rfl, rfl, rfl, rfl, hfi, hpt, hnx, hsrc, htab, hby, hk⟩ := hrel
  have Hnx := Lib.hid hnx
  have Htab := Lib.hid htab
  have Hk := Lib.hid hk
  have hrl : ((bitsL xs).drop pos).length = 8 * n - pos := by rw [List.length_drop, bitsL_length, Hn.out]
  have Hrl := Lib.hid hrl
  by_cases hlt : t < 15
  ·have Hget := Lib.hid (get_any q A n c (pos + t) 1 xs wr hsrc Hn.out hby (by omega) hpt hnn (fun b o e h => Nat.ne_of_lt (Hbx.out b o e h)))
   have Hbyr := Lib.hid hby
   clear hsrc htab hby hk hnx hrl
   go_wp2_with fail
   refine (Hget.out).mono ?_
   rintro e w1 ⟨hg, hk1⟩
   have Hk1 := Lib.hid (Hk.out.trans hk1)
   have Htab1 := Lib.hid (Htab.out.keeps hk1)
   have Hby : Hid (ByAt w1 A xs) := Lib.hid (SlAt.keepsB Hbyr.out hk1 (fun b o e h => Hbx.out b o e (by rw [List.length_map, Hn.out] at h; exact h)))
   clear Hbyr
   clear hk1
   rcases hg with ⟨hfit, rfl, hs3⟩ | ⟨hno, rfl, q3, hs3⟩
   ·have Hs3 := Lib.hid hs3
    clear hs3
    have htl : t < ((bitsL xs).drop pos).length := by rw [Hrl.out]; omega
    have Hval := Lib.hid (val_next _ t htl)
    rw [List.drop_drop] at Hval
    have hb1 := one_bit ((bitsL xs).drop (pos + t))
    have hvl := val_lt (((bitsL xs).drop pos).take t)
    have hv2 : val (((bitsL xs).drop pos).take t) ≤ 32768 := by
     have h1 : (((bitsL xs).drop pos).take t).length ≤ 15 := by rw [List.length_take]; omega
     have h2 : (2 : Nat) ^ (((bitsL xs).drop pos).take t).length ≤ 2 ^ 15 := Nat.pow_le_pow_right (by omega) h1
     omega
    generalize num (((bitsL xs).drop (pos + t)).take 1) = b at *
    generalize val (((bitsL xs).drop pos).take t) = v at *
    have hor := or_next v b (by omega) hb1
    have hcn := Htab1.out.cnt (t + 1) (by omega)
    have ha1 := Hacc.out (t + 1) (by omega)
    have hup : (ordUp ls t).length ≤ 5000 := by
     have h1 := ordUp_le ls t
     have h2 := Nat.mul_le_mul ht Hlen.out
     omega
    have Hff : Hid (first ls (t + 1 + 1) = 2 * (first ls (t + 1) + cnt ls (t + 1))) := Lib.hid rfl
    have Hupn : Hid ((ordUp ls (t + 1)).length = (ordUp ls t).length + cnt ls (t + 1)) := Lib.hid (by rw [ordUp_succ, List.length_append]; simp [cnt])
    clear hvl
    by_cases hit : 2 * v + b < first ls (t + 1) + cnt ls (t + 1)
    ·obtain ⟨i, hi1, hi2⟩ := findC_some ls (t + 1) (val (((bitsL xs).drop pos).take (t + 1))) (by rw [Hval.out]; omega)
     have Hhit := Lib.hid (nxt_hit ls ((bitsL xs).drop pos) (14 - t) (t + 1) i (by omega) hi1)
     have Hpl := Lib.hid (ordUp_get ls t _ i hlt hi1)
     rw [Hval.out] at Hpl
     obtain ⟨B, cap, hB1, hB2⟩ := Htab1.out.ord
     have Hnn := Hnx.out
     rw [show 15 - t = 14 - t + 1 by omega, Hhit.out] at Hnn
     have hlk := (List.getElem?_eq_some_iff.1 Hpl.out).1
     obtain ⟨b2, o2, hBe, hBc⟩ := SlAt.get hB2 (k := (ordUp ls t).length + (2 * v + b - first ls (t + 1))) (by simpa using hlk)
     subst hBe
     have hcell : w1.cell? ⟨b2, o2 + ((ordUp ls t).length + (2 * v + b - first ls (t + 1))), none⟩ = some (.int .i64 (i : Int)) := by
      rw [hBc]
      have h1 := Hpl.out
      rw [List.getElem?_eq_getElem hlk] at h1
      injection h1 with h1
      simp [natV, h1]
     have Hdone := Lib.hid Hnn
     clear hBc hB2 hi1 hi2 Hnn Hhit Hpl Hval Hupn Hff
     generalize hix : (ordUp ls t).length + (2 * v + b - first ls (t + 1)) = ix at *
     have hixI : (((ordUp ls t).length : Nat) : Int) + ((2 * v + b : Nat) : Int) - ((first ls (t + 1) : Nat) : Int) = (ix : Int) := by omega
     generalize (ordUp ls 15).length = m15 at *
     generalize (ordUp ls t).length = ut at *
     generalize first ls (t + 1) = ff at *
     generalize cnt ls (t + 1) = cc at *
     generalize hvb : 2 * v + b = vb at *
     have hlt1 : ((vb : Nat) : Int) - (ff : Int) < (cc : Int) := by omega
     go_wp2_with fail
     go_ret2
     refine ⟨⟨i, t + 1, 0, Hdone.out, rfl, fun _ => ⟨?_, by omega⟩⟩, Hk1.out⟩
     rw [← Nat.add_assoc]; exact Hs3.out
    ·have hno : ¬ (first ls (t + 1) ≤ val (((bitsL xs).drop pos).take (t + 1)) ∧ val (((bitsL xs).drop pos).take (t + 1)) < first ls (t + 1) + cnt ls (t + 1)) := by rw [Hval.out]; omega
     have Hmiss := Lib.hid (nxt_miss ls ((bitsL xs).drop pos) (14 - t) (t + 1) (by omega) (findC_none ls _ _ hno))
     have Hnn := Hnx.out
     rw [show 15 - t = 14 - t + 1 by omega, Hmiss.out] at Hnn
     have Hnx2 := Lib.hid Hnn
     clear hno Hmiss Hnn Hnx
     generalize hut : (ordUp ls t).length = ut at *
     generalize hff : first ls (t + 1) = ff at *
     generalize hcc : cnt ls (t + 1) = cc at *
     generalize hvb : 2 * v + b = vb at *
     have Hcc := Lib.hid hcc
     clear hcc hut hff
     have hlt1 : ¬ (((vb : Nat) : Int) - (ff : Int) < (cc : Int)) := by omega
     go_wp2_with fail
     go_roundw
     case rel =>
      refine ⟨t + 1, by omega, by go_num, int_eq (by rw [Hval.out]; omega), int_eq (by rw [Hff.out]; omega), int_eq (by rw [Hupn.out]; omega), by rw [Hval.out, Hff.out]; omega, by omega, ?_, ?_, Htab1.out, Hby.out, Hk1.out⟩
      ·rw [Hnx2.out, show 15 - (t + 1) = 14 - t by omega]
      ·rw [← Nat.add_assoc]; exact Hs3.out
     case measure => simp [intOf]; omega
   ·have Ht := Lib.hid (nxt_torn ls ((bitsL xs).drop pos) (14 - t) (t + 1) (by rw [Hrl.out]; omega))
    have Hnn := Hnx.out
    rw [show 15 - t = 14 - t + 1 by omega, Ht.out] at Hnn
    have Hdone := Lib.hid Hnn
    clear Hnn Ht hs3
    go_wp2_with fail
    go_ret2
    exact ⟨⟨0, 0, 7, Hdone.out, rfl, fun h => by omega⟩, Hk1.out⟩
  ·obtain rfl : t = 15 := by omega
   clear hsrc htab hby hk hnx hrl
   go_wp2_with fail
   go_ret2
   exact ⟨⟨0, 0, 8, by rw [Hnx.out]; rfl, rfl, fun h => by omega⟩, Hk.out⟩
end Go.Proofs.YthpdcnjaodjjmaaGreat.Code
