/- package weigh: rows of packs in memory; sorting one. -/
import Derived.Test.YtdponlnfdjfljaaWeighBoth
import Derived.Test.YtdponlnfdjfljaaCloneP
import Derived.Test.YtdponlnfdjfljaaConcatP
namespace Go.Proofs.Ytdponlnfdjfljaa.Weigh
open Go Go.RowKit Go.Proofs.Ytdponlnfdjfljaa Go.Proofs.Ytdponlnfdjfljaa.SP
set_option linter.unusedVariables false

def f2 (e : El) : Pk := (e.1, e.2.2)
/-- a pack's own numbers -/
def ManyAt (w : World) (base m : Nat) (e : El) : Prop := ∃ g cap, e.2.1 = (some ⟨g, 0, none⟩, m, cap) ∧ w.ownsRow base 3 1 (.slice (some ⟨g, 0, none⟩) m cap) m (e.2.2.map nv)
theorem ManyAt.below {w w' : World} {base m : Nat} {e : El} (h : ManyAt w base m e) (hb : Below w.heap.size w w') : ManyAt w' base m e := by
  obtain ⟨g, cap, h1, h2⟩ := h
  exact ⟨g, cap, h1, own_keep h2 hb⟩
theorem ManyAt.base {w : World} {base base' m : Nat} {e : El} (h : ManyAt w base m e) (hb : base' ≤ base) : ManyAt w base' m e := by
  obtain ⟨g, cap, h1, h2⟩ := h
  exact ⟨g, cap, h1, own_base h2 hb⟩
theorem own_grown {w w' : World} {base size n g : Nat} {el t : TypeId} {v : Value} {xs : List Value} {cs : Array Value} (h : w.ownsRow base el size v n xs) (hg : w.grownBy w' (some g)) (hb : Blk w g t cs) (hne : el ≠ t) : w'.ownsRow base el size v n xs := by
  refine ⟨h.1, ?_⟩
  have h0 := own_ne h hb hne
  rcases h.2 with h1 | ⟨g', cap, cur, rfl, hbg, hgb, r⟩
  · exact .inl h1
  · refine .inr ⟨g', cap, cur, rfl, hbg, ?_, r⟩
    have hne2 : g' ≠ g := by simpa [Value.ownBlock] using h0
    rw [hg.block g' (lt_of_block hgb) (by intro e; injection e with e; exact hne2 e)]; exact hgb
theorem own_grownV {w w' : World} {b1 b2 s1 s2 n1 n2 : Nat} {el t : TypeId} {v1 v2 : Value} {x1 x2 : List Value} (h : w.ownsRow b1 el s1 v1 n1 x1) (ho : w.ownsRow b2 t s2 v2 n2 x2) (hg : w.grownBy w' v2.ownBlock) (hne : el ≠ t) : w'.ownsRow b1 el s1 v1 n1 x1 := by
  rcases ho.2 with ⟨rfl, _⟩ | ⟨g, cap, cur, rfl, _, hgb, _⟩
  · refine ⟨h.1, ?_⟩
    rcases h.2 with h1 | ⟨g', cap, cur, rfl, hbg, hgb, r⟩
    · exact .inl h1
    · refine .inr ⟨g', cap, cur, rfl, hbg, ?_, r⟩
      rw [hg.block g' (lt_of_block hgb) (by simp [Value.ownBlock])]; exact hgb
  · exact own_grown h hg hgb hne
theorem ManyAt.grownV {w w' : World} {base m b2 s2 n2 : Nat} {e : El} {v2 : Value} {x2 : List Value} (h : ManyAt w base m e) (ho : w.ownsRow b2 94 s2 v2 n2 x2) (hg : w.grownBy w' v2.ownBlock) : ManyAt w' base m e := by
  obtain ⟨g', cap, h1, h2⟩ := h
  exact ⟨g', cap, h1, own_grownV h2 ho hg (by decide)⟩
theorem ManyAt.grown {w w' : World} {base m g : Nat} {e : El} {cs : Array Value} (h : ManyAt w base m e) (hg : w.grownBy w' (some g)) (hb : Blk w g 94 cs) : ManyAt w' base m e := by
  obtain ⟨g', cap, h1, h2⟩ := h
  exact ⟨g', cap, h1, own_grown h2 hg hb (by decide)⟩
theorem ManyAt.set_ {w : World} {base m : Nat} {e : El} (h : ManyAt w base m e) (p : Addr) (hp : p.block < base) (u : Value) : ManyAt (w.setCell p u) base m e := by
  obtain ⟨g, cap, h1, h2⟩ := h
  refine ⟨g, cap, h1, ownsRow_setCell_other h2 ?_ u⟩
  have := (h2.lt g rfl).1
  simp [Value.ownBlock]; omega
theorem ManyAt.len {w : World} {base m : Nat} {e : El} (h : ManyAt w base m e) : e.2.2.length = m := by
  obtain ⟨g, cap, h1, h2⟩ := h
  have := h2.1; simpa using this
theorem ManyAt.val {w : World} {base m : Nat} {e : El} (h : ManyAt w base m e) : ∃ g cap, slv e.2.1 = .slice (some ⟨g, 0, none⟩) m cap ∧ SlAt w (some ⟨g, 0, none⟩) (e.2.2.map nv) := by
  obtain ⟨g, cap, h1, h2⟩ := h
  obtain ⟨A, c, h3, _, _, h4, _⟩ := own_slat h2
  injection h3 with h3
  subst h3
  exact ⟨g, cap, by rw [h1]; rfl, h4⟩
theorem cellsP_len (es : List El) : (es.flatMap cellsP).length = es.length * 2 := by
  induction es with
  | nil => rfl
  | cons a d ih => rw [List.flatMap_cons, List.length_append, ih]; simp [cellsP]; omega
theorem cellsP_one (es : List El) : ∀ u ∈ es.flatMap cellsP, u.oneCell' = true := by
  intro u hu
  obtain ⟨e, _, he⟩ := List.mem_flatMap.1 hu
  simp [cellsP] at he
  rcases he with rfl | rfl <;> rfl
theorem own_row {w : World} {base g n cap : Nat} {es : List El} (h : w.ownsRow base 94 2 (.slice (some ⟨g, 0, none⟩) n cap) n (es.flatMap cellsP)) :
    ∃ rest, RowPk w g rest es ∧ es.length = n ∧ n * 2 + rest.length = cap * 2 ∧ base ≤ g ∧ n ≤ cap ∧ cap ≤ maxLen := by
  have hl := h.1
  rw [cellsP_len] at hl
  rcases h.2 with ⟨h1, _⟩ | ⟨g', cap', cur, hv, hbg, hgb, hnc, hcm, hcs, htk⟩
  · cases h1
  · injection hv with h1 h2 h3
    injection h1 with h1
    injection h1 with h1
    subst h1 h3
    refine ⟨cur.toList.drop (n * 2), ?_, by omega, ?_, hbg, hnc, hcm⟩
    · unfold RowPk
      rw [← htk, List.take_append_drop]
      exact hgb
    · rw [List.length_drop, Array.length_toList, hcs]; omega
theorem row_own {w : World} {base g n cap : Nat} {rest : List Value} {es : List El} (h : RowPk w g rest es) (hl : es.length = n) (hr : n * 2 + rest.length = cap * 2) (hb : base ≤ g) (hn : n ≤ cap) (hc : cap ≤ maxLen) :
    w.ownsRow base 94 2 (.slice (some ⟨g, 0, none⟩) n cap) n (es.flatMap cellsP) := by
  refine ⟨by rw [cellsP_len, hl], .inr ⟨g, cap, _, rfl, hb, h, hn, hc, ?_, ?_⟩⟩
  · rw [List.size_toArray, List.length_append, cellsP_len, hl, hr]
  · rw [List.toList_toArray, List.take_append_of_le_length (by rw [cellsP_len, hl]; exact Nat.le_refl _), List.take_of_length_le (by rw [cellsP_len, hl]; exact Nat.le_refl _)]
set_option maxHeartbeats 800000 in
theorem rising_any (base g n cap : Nat) (es : List El) (w : World) (h : w.ownsRow base 94 2 (.slice (some ⟨g, 0, none⟩) n cap) n (es.flatMap cellsP)) (hN : n ≤ 1000000) (hk : ∀ e ∈ es, e.1 ≤ 1152921504606846976) :
    Calls Try.prog 59 #[.slice (some ⟨g, 0, none⟩) n cap] w fun e w' => e = .returned (.slice (some ⟨g, 0, none⟩) n cap) ∧ w'.ownsRow base 94 2 (.slice (some ⟨g, 0, none⟩) n cap) n ((stab ekey es).flatMap cellsP) ∧ w.grownBy w' (some g) := by
  obtain ⟨rest, h1, h2, h3, h4, h5, h6⟩ := own_row h
  have Hc := Lib.hid (sortStable_any g n cap rest es w h1 h2 hN hk)
  have Hx := Lib.hid (And.intro h2 (And.intro h3 (And.intro h4 (And.intro h5 h6))))
  clear h h1 h2 h3 h4 h5 h6 hk
  unfold cmpV at Hc
  go_enter Try.func59, Try.ntmps59
  go_wp2_with fail
  refine (Hc.out).mono ?_
  rintro e w2 ⟨rfl, hp, hg⟩
  have Hp := Lib.hid hp
  have Hg := Lib.hid hg
  clear hp hg
  go_wp2_with fail
  go_ret
  exact ⟨rfl, row_own Hp.out (by rw [stab_length]; exact Hx.out.1) Hx.out.2.1 Hx.out.2.2.1 Hx.out.2.2.2.1 Hx.out.2.2.2.2, Hg.out⟩
/-- the packs of the first k -/
def onesK (ls : List Nat) (k : Nat) : List Pk := (((List.range k).filter fun i => decide (0 < ls.getD i 0)).map fun i => (ls.getD i 0, unit ls.length i))
theorem onesK_all (ls : List Nat) : onesK ls ls.length = ones ls := rfl
theorem onesK_next (ls : List Nat) (k : Nat) : onesK ls (k + 1) = onesK ls k ++ if 0 < ls.getD k 0 then [(ls.getD k 0, unit ls.length k)] else [] := by
  unfold onesK
  rw [List.range_succ, List.filter_append, List.map_append]
  congr 1
  by_cases h : 0 < ls.getD k 0
  · rw [if_pos h, List.filter_cons_of_pos (by simpa using h)]; rfl
  · rw [if_neg h, List.filter_cons_of_neg (by simpa using h)]; rfl
theorem unit_set (n i : Nat) : (List.replicate n 0).set i 1 = unit n i := by
  apply List.ext_getElem
  · simp [unit]
  · intro j h1 h2
    simp [unit, List.getElem_set]
    by_cases hx : i = j
    · simp [hx]
    · rw [if_neg hx, if_neg (fun e => hx e.symm)]
end Go.Proofs.Ytdponlnfdjfljaa.Weigh
