/- package weigh: both. -/
import Derived.Test.YtdponlnfdjfljaaWeighCost
import Derived.Test.YtdponlnfdjfljaaSortStab
namespace Go.Proofs.Ytdponlnfdjfljaa.Weigh
open Go Go.RowKit Go.Proofs.Ytdponlnfdjfljaa
set_option linter.unusedVariables false

/-- so many added, the rest as it was -/
def addTo (l1 l2 : List Nat) (k : Nat) : List Nat := (List.zipWith (· + ·) l1 l2).take k ++ l1.drop k
theorem addTo_get (l1 l2 : List Nat) (k : Nat) (h1 : k < l1.length) (h2 : k < l2.length) : (addTo l1 l2 k)[k]? = some l1[k] := by
  unfold addTo
  have e : ((List.zipWith (· + ·) l1 l2).take k).length = k := by rw [List.length_take, List.length_zipWith]; omega
  rw [List.getElem?_append_right (by omega), e]
  simp [h1]
theorem addTo_next (l1 l2 : List Nat) (k : Nat) (h1 : k < l1.length) (h2 : k < l2.length) : addTo l1 l2 (k + 1) = (addTo l1 l2 k).set k (l1[k] + l2[k]) := by
  unfold addTo
  rw [List.set_append_right _ _ (by simp; omega), List.drop_eq_getElem_cons h1]
  have e : k - ((List.zipWith (· + ·) l1 l2).take k).length = 0 := by simp; omega
  rw [e, List.set_cons_zero, take_snoc _ _ (by simp; omega)]
  simp
theorem addTo_zero (l1 l2 : List Nat) : addTo l1 l2 0 = l1 := by simp [addTo]
theorem addTo_all (l1 l2 : List Nat) (h : l1.length = l2.length) : addTo l1 l2 l1.length = List.zipWith (· + ·) l1 l2 := by
  unfold addTo
  rw [List.drop_length, List.append_nil, List.take_of_length_le (by rw [List.length_zipWith]; omega)]
theorem addTo_len (l1 l2 : List Nat) (k : Nat) (h : l1.length = l2.length) (hk : k ≤ l1.length) : (addTo l1 l2 k).length = l1.length := by
  unfold addTo; rw [List.length_append, List.length_take, List.length_drop, List.length_zipWith]; omega
theorem nv_one (l : List Nat) : ∀ u ∈ l.map nv, u.oneCell' = true := by
  intro u hu; obtain ⟨x, _, rfl⟩ := List.mem_map.1 hu; rfl
set_option maxRecDepth 100000 in
set_option maxHeartbeats 1600000 in
theorem both_any (p q n ca cb : Nat) (A B : Option Addr) (l1 l2 : List Nat) (w : World) (h1 : l1.length = n) (h2 : l2.length = n) (hn : 1 ≤ n) (hn2 : n ≤ 288) (hp : p ≤ 1152921504606846976) (hq : q ≤ 1152921504606846976) (hA : SlAt w A (l1.map nv)) (hB : SlAt w B (l2.map nv))
    (hb1 : ∀ x ∈ l1, x ≤ 1152921504606846976) (hb2 : ∀ x ∈ l2, x ≤ 1152921504606846976) :
    Calls Try.prog 63 #[.agg #[.int .i64 (p : Int), .slice A n ca], .agg #[.int .i64 (q : Int), .slice B n cb]] w fun e w' =>
      (∃ g cap, e = .returned (.agg #[.int .i64 ((p + q : Nat) : Int), .slice (some ⟨g, 0, none⟩) n cap]) ∧ w'.ownsRow w.heap.size 3 1 (.slice (some ⟨g, 0, none⟩) n cap) n ((List.zipWith (· + ·) l1 l2).map nv)) ∧ Below w.heap.size w w' := by
  have H1 := Lib.hid h1
  have H2 := Lib.hid h2
  have HA := Lib.hid hA
  have HB := Lib.hid hB
  have Hb1 := Lib.hid hb1
  have Hb2 := Lib.hid hb2
  obtain ⟨bA, oA, hAe, _⟩ := HA.out (by simp; omega)
  subst hAe
  clear h1 h2 hA hB hb1 hb2
  have Hsz : Hid ((((w.alloc (.cells #[.int .i64 (p : Int), .slice (some ⟨bA, oA, none⟩) n ca] 94)).alloc (.cells #[.int .i64 (q : Int), .slice B n cb] 94)).alloc (.cells #[.int .i64 0, .slice none 0 0] 94)).heap.size = w.heap.size + 3) := Lib.hid (by simp)
  have Hw3 := Lib.hid ((((Below.refl w.heap.size w).alloc (Nat.le_refl _) (.cells #[.int .i64 (p : Int), .slice (some ⟨bA, oA, none⟩) n ca] 94)).alloc (by simp) (.cells #[.int .i64 (q : Int), .slice B n cb] 94)).alloc (by simp; omega) (.cells #[.int .i64 0, .slice none 0 0] 94))
  have hz := Blk.new ((w.alloc (.cells #[.int .i64 (p : Int), .slice (some ⟨bA, oA, none⟩) n ca] 94)).alloc (.cells #[.int .i64 (q : Int), .slice B n cb] 94)) 94 #[.int .i64 0, .slice none 0 0]
  have hy := (Blk.new (w.alloc (.cells #[.int .i64 (p : Int), .slice (some ⟨bA, oA, none⟩) n ca] 94)) 94 #[.int .i64 (q : Int), .slice B n cb]).alloc (.cells #[.int .i64 0, .slice none 0 0] 94)
  have hx := ((Blk.new w 94 #[.int .i64 (p : Int), .slice (some ⟨bA, oA, none⟩) n ca]).alloc (.cells #[.int .i64 (q : Int), .slice B n cb] 94)).alloc (.cells #[.int .i64 0, .slice none 0 0] 94)
  have hs1 : (w.alloc (.cells #[.int .i64 (p : Int), .slice (some ⟨bA, oA, none⟩) n ca] 94)).heap.size = w.heap.size + 1 := by simp
  have hs2 : ((w.alloc (.cells #[.int .i64 (p : Int), .slice (some ⟨bA, oA, none⟩) n ca] 94)).alloc (.cells #[.int .i64 (q : Int), .slice B n cb] 94)).heap.size = w.heap.size + 2 := by simp
  rw [hs2] at hz
  rw [hs1] at hy
  have Hx := Lib.hid hx
  have Hy := Lib.hid hy
  have Hz := Lib.hid hz
  clear hx hy hz
  go_enter Try.func63, Try.ntmps63
  go_wp2_with fail
  clear hs1 hs2
  generalize ((w.alloc (.cells #[.int .i64 (p : Int), .slice (some ⟨bA, oA, none⟩) n ca] 94)).alloc (.cells #[.int .i64 (q : Int), .slice B n cb] 94)).alloc (.cells #[.int .i64 0, .slice none 0 0] 94) = w3 at *
  refine (CloneI.clone_any (some ⟨bA, oA, none⟩) n ca (l1.map nv) w3 (by rw [List.length_map, H1.out]; omega) (HA.out.below Hw3.out) (by simp) (nv_one l1) (by unfold maxLen; omega) (by omega)).mono ?_
  rintro e w4 ⟨v, rfl, hown, hb4⟩
  obtain ⟨g, cap, rfl, hg1, hg2⟩ := hown.form (by omega)
  have Hown := Lib.hid hown
  have Hb4 := Lib.hid hb4
  have Hx4 := Lib.hid (Hx.out.below hb4 Hx.out.lt)
  have Hy4 := Lib.hid (Hy.out.below hb4 Hy.out.lt)
  have Hz4 := Lib.hid (Hz.out.below hb4 Hz.out.lt)
  have Hlx := Lib.hid Hx.out.lt
  have Hly := Lib.hid Hy.out.lt
  have Hlz := Lib.hid Hz.out.lt
  clear hown hb4 Hx Hy Hz
  have Hg1 := Lib.hid hg1
  have hy1 := Hy4.out.c1
  clear hg1 hg2
  generalize hx0 : w.heap.size = x0 at *
  have Hx0 := Lib.hid hx0
  clear hx0
  go_wp2_with fail
  clear hy1
  go_loopw [14] (fun i wr => ∃ k : Nat, k ≤ n ∧ i = .int .i64 (k : Int) ∧ wr.ownsRow w3.heap.size 3 1 (.slice (some ⟨g, 0, none⟩) n cap) n ((addTo l1 l2 k).map nv) ∧ Below w3.heap.size w3 wr) (fun i _ => n - (intOf i).toNat)
  case atStart => exact ⟨0, Nat.zero_le _, rfl, by rw [addTo_zero]; exact Hown.out, Hb4.out⟩
  case round =>
    obtain ⟨k, hk, rfl, hown, hbr⟩ := hrel
    have Hbr := Lib.hid hbr
    by_cases hlt : k < n
    · have h1 : k < l1.length := by rw [H1.out]; exact hlt
      have h2 : k < l2.length := by rw [H2.out]; exact hlt
      obtain ⟨b, o, rfl, hc⟩ := SlAt.get ((HB.out.below (Hx0.out.symm ▸ Hw3.out)).below hbr) (k := k) (by rw [List.length_map]; exact h2)
      have hget := addTo_get l1 l2 k h1 h2
      have Hnext := Lib.hid (addTo_next l1 l2 k h1 h2)
      have hcg : wr.cell? ⟨g, k, none⟩ = some (.int .i64 (l1[k] : Int)) := by rw [hown.cellAt k (by omega), List.getElem?_map, hget]; rfl
      have hfz := hown.frozenAt k
      have Hst := Lib.hid (fun u => (hown.stored k u).1)
      have hcb : wr.cell? ⟨b, o + k, none⟩ = some (.int .i64 (l2[k] : Int)) := by rw [hc]; simp [nv]
      have hbd1 := Hb1.out _ (List.getElem_mem h1)
      have hbd2 := Hb2.out _ (List.getElem_mem h2)
      generalize l1[k] = c1 at *
      generalize l2[k] = c2 at *
      clear hown hbr hget hc
      go_wp2_with fail
      go_roundw
      case rel =>
        refine ⟨k + 1, by omega, by go_num, ?_, Hbr.out.setCell (by exact Hg1.out) _⟩
        have := Hst.out (.int .i64 ((c1 : Int) + (c2 : Int)))
        rw [Hnext.out, List.map_set]
        exact this
      case measure => simp [intOf]; omega
    · obtain rfl : k = n := by omega
      have Hall := Lib.hid (addTo_all l1 l2 (by rw [H1.out, H2.out]))
      rw [H1.out] at Hall
      rw [Hall.out] at hown
      have Hown2 := Lib.hid hown
      have hx0 : wr.cell? ⟨x0, 0, none⟩ = some (.int .i64 (p : Int)) := by rw [(show Blk wr x0 _ _ from (hbr.block x0 Hlx.out).trans ((Hb4.out.block x0 Hlx.out).symm.trans Hx4.out)).cell]; rfl
      have hy0 : wr.cell? ⟨x0 + 1, 0, none⟩ = some (.int .i64 (q : Int)) := by rw [(show Blk wr (x0 + 1) _ _ from (hbr.block (x0 + 1) Hly.out).trans ((Hb4.out.block (x0 + 1) Hly.out).symm.trans Hy4.out)).cell]; rfl
      have hzb : Blk wr (x0 + 2) 94 #[.int .i64 0, .slice none 0 0] := (hbr.block (x0 + 2) Hlz.out).trans ((Hb4.out.block (x0 + 2) Hlz.out).symm.trans Hz4.out)
      have hz0 := hzb.c0
      have hz1 := hzb.c1
      have fz0 := hzb.frozen 0
      have fz1 := hzb.frozen 1
      have Hzb := Lib.hid hzb
      clear hown hbr hzb
      go_wp2_with fail
      have Hfin := Lib.hid ((Hzb.out.s0 (.int .i64 ((p : Int) + (q : Int)))).s1 (.slice (some ⟨g, 0, none⟩) k cap))
      refine bodyPost_ret (results_cell_row rfl _ _ (x0 + 2) 94 #[.int .i64 ((p : Int) + (q : Int)), .slice (some ⟨g, 0, none⟩) k cap] (0, 0) _ rfl Hfin.out Try.underlying94 rfl (by kernel_rfl)) rfl ?_
      have hgne : g ≠ x0 + 2 := by have := Hg1.out; have := Hlz.out; omega
      refine ⟨⟨g, cap, by rw [Int.natCast_add], ?_⟩, ?_⟩
      · have h1 := ownsRow_setCell_other (ownsRow_setCell_other Hown2.out (a := ⟨x0 + 2, 0, none⟩) (by simp [Value.ownBlock]; exact hgne) (.int .i64 ((p : Int) + (q : Int)))) (a := ⟨x0 + 2, 1, none⟩) (by simp [Value.ownBlock]; exact hgne) (.slice (some ⟨g, 0, none⟩) k cap)
        exact own_base h1 (by rw [Hx0.out, Hsz.out]; omega)
      · rw [Hx0.out]
        exact ((Hw3.out.trans (Hbr.out.mono (by rw [Hsz.out]; omega))).setCell (by show x0 ≤ x0 + 2; omega) _).setCell (by show x0 ≤ x0 + 2; omega) _
end Go.Proofs.Ytdponlnfdjfljaa.Weigh
