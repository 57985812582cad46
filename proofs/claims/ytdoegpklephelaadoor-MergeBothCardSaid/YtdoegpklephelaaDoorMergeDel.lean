/- slices.DeleteFunc at files that are gone. -/
import Derived.Test.YtdoegpklephelaaDoorFuncF
import Derived.Test.YtdoegpklephelaaDoorLay
import Derived.Test.YtdoegpklephelaaDoorMergeBoth
namespace Go.Proofs.YtdoegpklephelaaDoor.Merge
open Go Go.RowKit Go.Proofs.YtdoegpklephelaaDoor Go.Proofs.YtdoegpklephelaaDoor.Name
set_option linter.unusedVariables false

set_option maxHeartbeats 400000 in
theorem isGone_any (x : Fx) (w : World) :
    Calls Tryd.prog 50 #[fV x] w fun e w' => e = .returned (.bool x.1.gone) ∧ Below w.heap.size w w' := by
  obtain ⟨⟨nm, bs, st, nd, gn⟩, A, n, c⟩ := x
  unfold fV slv
  dsimp only
  go_enter Tryd.func50, Tryd.ntmps50
  go_wp2
  go_ret
  exact ⟨rfl, (Below.refl _ _).alloc (Nat.le_refl _) _⟩
theorem egone : ∀ args w', (callFunc 50 args).run Tryd.prog w' = .ok (.enter 50 args) w' := enters_of Tryd.func50 (by kernel_rfl) rfl
def isHere (x : Fx) : Bool := !x.1.gone
theorem lay_file (a : List Fx) (y : Fx) (b : List Fx) (x : Fx) : layL ((a ++ y :: b).flatMap fC) (a.length * 5) (fC x) = (a ++ x :: b).flatMap fC := by
  have := layL_mid (fC x) (a.flatMap fC) (fC y) (b.flatMap fC) rfl
  rw [fCs_len] at this
  rw [List.flatMap_append, List.flatMap_append, List.flatMap_cons, List.flatMap_cons, ← List.append_assoc, ← List.append_assoc]
  exact this
theorem set5 (w : World) (g o : Nat) (v0 v1 v2 v3 v4 : Value) : ((((w.setCell ⟨g, o, none⟩ v0).setCell ⟨g, o + 1, none⟩ v1).setCell ⟨g, o + 2, none⟩ v2).setCell ⟨g, o + 3, none⟩ v3).setCell ⟨g, o + 4, none⟩ v4 = w.setCells g o [v0, v1, v2, v3, v4] := rfl
/-- the cells of the file at k in a row of one's own -/
theorem row5 {w : World} {base n c g : Nat} {l a b : List Fx} {x : Fx} (h : w.ownsRow base 33 5 (.slice (some ⟨g, 0, none⟩) n c) n (l.flatMap fC)) (hl : l = a ++ x :: b) (k : Nat) (hk : a.length = k) (hn : l.length = n) :
    w.cell? ⟨g, k * 5, none⟩ = some (.string (strB x.1.name)) ∧ w.cell? ⟨g, k * 5 + 1, none⟩ = some (slv x.2) ∧ w.cell? ⟨g, k * 5 + 2, none⟩ = some (.int .i64 x.1.stamp) ∧ w.cell? ⟨g, k * 5 + 3, none⟩ = some (.int .i64 x.1.node) ∧ w.cell? ⟨g, k * 5 + 4, none⟩ = some (.bool x.1.gone) := by
  have hkl : k < l.length := by rw [hl, List.length_append, List.length_cons]; omega
  have hx : l[k] = x := by subst hl; rw [List.getElem_append_right (by omega)]; simp [hk]
  have cell : ∀ j, j < 5 → w.cell? ⟨g, k * 5 + j, none⟩ = (fC x)[j]? := fun j hj => by
    rw [h.cellAt (k * 5 + j) (by omega), flat_at fC 5 fC_len _ k j hkl hj, hx]
  exact ⟨cell 0 (by omega), cell 1 (by omega), cell 2 (by omega), cell 3 (by omega), cell 4 (by omega)⟩
theorem own_some {w : World} {base size n : Nat} {e : TypeId} {v : Value} {xs : List Value} (h : w.ownsRow base e size v n xs) (h0 : 0 < n) : ∃ g c, v = .slice (some ⟨g, 0, none⟩) n c ∧ base ≤ g ∧ n ≤ c ∧ c ≤ maxLen := by
  obtain ⟨A, c, rfl, h1, h2, _, _⟩ := own_slat h
  rcases h.2 with ⟨h1', _⟩ | ⟨g, cap', cur, hv, hb, _⟩
  · injection h1' with h1' h2'; omega
  · injection hv with hv; exact ⟨g, c, by rw [hv], hb, h1, h2⟩
def DelPost (base : Nat) (l : List Fx) (w : World) (e : Ending) (w' : World) : Prop :=
  ∃ A m c, e = .returned (.slice A m c) ∧ m = (l.filter isHere).length ∧ m ≤ c ∧ c ≤ maxLen ∧ SlAt w' A ((l.filter isHere).flatMap fC) ∧ (A = none → m = 0) ∧ Keeps base [33] w w'
theorem filter_here {l : List Fx} (h : ∀ x ∈ l, x.1.gone = false) : l.filter isHere = l := by
  rw [List.filter_eq_self]; intro x hx; unfold isHere; rw [h x hx]; rfl
theorem here_next {l : List Fx} {j : Nat} (hj : j < l.length) : (l.take (j + 1)).filter isHere = (l.take j).filter isHere ++ (if l[j].1.gone = true then [] else [l[j]]) := by
  rw [take_snoc _ _ hj, List.filter_append]
  congr 1
  cases h : l[j].1.gone <;> simp [isHere, h]
set_option maxRecDepth 100000 in
set_option maxHeartbeats 2000000 in
theorem deleteGone_files (base n : Nat) (v : Value) (l : List Fx) (w : World) (hown : w.ownsRow base 33 5 v n (l.flatMap fC)) (hn : l.length = n) (hx : n ≤ 1000000) (hb : base ≤ w.heap.size) :
    Calls Tryd.prog 48 #[v, .func (.func 50) #[] #[]] w (DelPost base l w) := by
  obtain ⟨A, c, rfl, hnc, hcm, hsl, hA0⟩ := own_slat hown
  have HI := Lib.hid (indexFunc_files A n c l 50 #[] (fun x => x.1.gone) w hn (by unfold maxLen; omega) hsl egone (fun x _ w' _ => isGone_any x w'))
  have Hown := Lib.hid hown
  have Hn := Lib.hid hn
  have Hsl := Lib.hid hsl
  have HA0 := Lib.hid hA0
  unfold maxLen at hcm
  clear hown hn hsl hA0
  unfold DelPost
  go_enter Tryd.func48, Tryd.ntmps48
  go_wp2_with fail
  refine (HI.out).mono ?_
  rintro e w1 ⟨rfl, hb1⟩
  have Hb1 := Lib.hid hb1
  have Hown1 := Lib.hid (own_keep Hown.out hb1)
  have HK1 : Hid (Keeps base [33] w w1) := Lib.hid (Keeps.of_below hb1 hb)
  clear HI hb1
  rcases idxI_of (fun x : Fx => x.1.gone) l with ⟨k, hk, hi, hpk, hpre⟩ | ⟨hi, hall⟩
  · rw [hi]
    have Hpre := Lib.hid hpre
    have Hpk := Lib.hid hpk
    have hkn : k < n := by rw [← Hn.out]; exact hk
    obtain ⟨g, c2, hv, hgb, _, _⟩ := own_some Hown.out (by omega)
    injection hv with hv _ hc2
    subst hv hc2
    have hk1 : ((k : Int) == -1) = false := by rw [beq_eq_false_iff_ne]; omega
    have Hst : Hid ((l.take k).length = k ∧ (l.take (k + 1)).filter isHere = l.take k ∧ l = l.take k ++ [l[k]] ++ l.drop (k + 1)) := Lib.hid ⟨by simp; omega, by
      rw [here_next hk, filter_here hpre, if_pos hpk, List.append_nil], by
      rw [List.append_assoc, List.singleton_append, ← List.drop_eq_getElem_cons hk, List.take_append_drop]⟩
    clear hi hpre hpk
    go_wp2_with fail
    go_loopw [5, 6] (fun vi vj wr => ∃ (j i : Nat) (kept junk : List Fx), j ≤ n ∧ vi = .int .i64 (i : Int) ∧ kept.length = i ∧ vj = .int .i64 (j : Int) ∧ i + junk.length = j ∧ 0 < junk.length ∧ (l.take j).filter isHere = kept ∧ wr.ownsRow base 33 5 (.slice (some ⟨g, 0, none⟩) n c) n ((kept ++ junk ++ l.drop j).flatMap fC) ∧ Keeps base [33] w wr) (fun _ vj _ => n - (intOf vj).toNat)
    case atStart => exact ⟨k + 1, k, l.take k, [l[k]], by omega, rfl, Hst.out.1, by go_num, by simp, by simp, Hst.out.2.1, by rw [← Hst.out.2.2]; exact Hown1.out, HK1.out⟩
    case round =>
      obtain ⟨j, i, kept, junk, hj, rfl, hki, rfl, hij, hj0, hkept, hown, hkeep⟩ := hrel
      have Hki := Lib.hid hki
      have Hij := Lib.hid hij
      have hin : i < n := by omega
      have Hkept := Lib.hid hkept
      have Hownr := Lib.hid hown
      have Hkeep := Lib.hid hkeep
      clear hki hij hkept hown hkeep Hst Hown1 HK1
      by_cases hlt : j < n
      · have hjl : j < l.length := by rw [Hn.out]; exact hlt
        have Hdrop : Hid (l.drop j = l[j] :: l.drop (j + 1)) := Lib.hid (List.drop_eq_getElem_cons hjl)
        have Hnx := Lib.hid (here_next hjl)
        have Hlen : Hid ((kept ++ junk ++ l.drop j).length = n) := Lib.hid (by simp; have := Hki.out; have := Hij.out; have := Hn.out; omega)
        generalize l[j] = x at *
        rw [Hdrop.out] at Hownr Hlen
        obtain ⟨⟨nm, bs, st, nd, gn⟩, As, ln, cp⟩ := x
        obtain ⟨hc0, hc1, hc2, hc3, hc4⟩ := row5 Hownr.out rfl j (by rw [List.length_append]; have := Hki.out; have := Hij.out; omega) Hlen.out
        simp only [slv] at hc0 hc1 hc2 hc3 hc4
        have HG := Lib.hid (isGone_any (⟨nm, bs, st, nd, gn⟩, As, ln, cp))
        unfold fV slv at HG
        dsimp only at HG
        have Bx := Lib.hid (Blk.new wr 33 #[.string (strB nm), .slice As ln cp, .int .i64 st, .int .i64 nd, .bool gn])
        have Hbox := Lib.hid ((Below.refl wr.heap.size wr).alloc (Nat.le_refl _) (.cells #[.string (strB nm), .slice As ln cp, .int .i64 st, .int .i64 nd, .bool gn] 33))
        have Hkb : Hid (base ≤ wr.heap.size) := Lib.hid (Nat.le_trans hb Hkeep.out.size)
        go_wp2_with fail
        refine (HG.out _).mono ?_
        rintro e w2 ⟨rfl, hb2⟩
        have hbw := stepN Hbox.out hb2
        have Hown2 := Lib.hid (own_keep Hownr.out hbw)
        have Hkeep2 : Hid (Keeps base [33] w w2) := Lib.hid (Hkeep.out.trans (Keeps.of_below hbw Hkb.out))
        have Bx2 := Lib.hid (Bx.out.below hb2 (by simp))
        clear hb2 hbw Hownr Hkeep Bx Hbox HG
        cases gn with
        | true =>
          go_wp2_with fail
          go_roundw
          case rel => exact ⟨j + 1, i, kept, junk ++ [(⟨nm, bs, st, nd, true⟩, As, ln, cp)], by omega, rfl, Hki.out, by go_num, by have := Hij.out; simp; omega, by simp, by rw [Hnx.out, Hkept.out]; simp, by simpa [List.append_assoc] using Hown2.out, Hkeep2.out⟩
          case measure => simp [intOf]; omega
        | false =>
          obtain ⟨y, junk', rfl⟩ : ∃ y junk', junk = y :: junk' := by
            cases junk with
            | nil => simp at hj0
            | cons y junk' => exact ⟨y, junk', rfl⟩
          obtain ⟨ex0, ex1, ex2, ex3, ex4⟩ := blk5 Bx2.out
          obtain ⟨ec0, ec1, ec2, ec3, ec4⟩ := row5 (x := y) (a := kept) (b := junk' ++ ((⟨nm, bs, st, nd, false⟩ : Fl), ((As, ln, cp) : Sl3)) :: l.drop (j + 1)) Hown2.out (by simp [List.append_assoc]) i Hki.out Hlen.out
          have ef := fun o => Hown2.out.frozenAt o
          have HS := Lib.hid (set5 w2 g (i * 5) (.string (strB nm)) (.slice As ln cp) (.int .i64 st) (.int .i64 nd) (.bool false))
          have HO : Hid ((w2.setCells g (i * 5) [.string (strB nm), .slice As ln cp, .int .i64 st, .int .i64 nd, .bool false]).ownsRow base 33 5 (.slice (some ⟨g, 0, none⟩) n c) n (((kept ++ [((⟨nm, bs, st, nd, false⟩ : Fl), ((As, ln, cp) : Sl3))]) ++ (junk' ++ [((⟨nm, bs, st, nd, false⟩ : Fl), ((As, ln, cp) : Sl3))]) ++ l.drop (j + 1)).flatMap fC)) := Lib.hid (by
            have h1 := own_setCells (fC ((⟨nm, bs, st, nd, false⟩ : Fl), ((As, ln, cp) : Sl3))) (i * 5) Hown2.out rfl
            have h2 := lay_file kept y (junk' ++ ((⟨nm, bs, st, nd, false⟩ : Fl), ((As, ln, cp) : Sl3)) :: l.drop (j + 1)) ((⟨nm, bs, st, nd, false⟩ : Fl), ((As, ln, cp) : Sl3))
            rw [Hki.out] at h2
            rw [show (kept ++ y :: junk' ++ ((⟨nm, bs, st, nd, false⟩ : Fl), ((As, ln, cp) : Sl3)) :: l.drop (j + 1)) = kept ++ y :: (junk' ++ ((⟨nm, bs, st, nd, false⟩ : Fl), ((As, ln, cp) : Sl3)) :: l.drop (j + 1)) by simp, h2] at h1
            rw [show (kept ++ [((⟨nm, bs, st, nd, false⟩ : Fl), ((As, ln, cp) : Sl3))]) ++ (junk' ++ [((⟨nm, bs, st, nd, false⟩ : Fl), ((As, ln, cp) : Sl3))]) ++ l.drop (j + 1) = kept ++ ((⟨nm, bs, st, nd, false⟩ : Fl), ((As, ln, cp) : Sl3)) :: (junk' ++ ((⟨nm, bs, st, nd, false⟩ : Fl), ((As, ln, cp) : Sl3)) :: l.drop (j + 1)) by simp]
            exact h1)
          have HKs : Hid (Keeps base [33] w (w2.setCells g (i * 5) [.string (strB nm), .slice As ln cp, .int .i64 st, .int .i64 nd, .bool false])) := Lib.hid (keeps_setCells _ _ Hkeep2.out Hown2.out (by simp))
          obtain ⟨w3, hw3⟩ : ∃ w3, w3 = w2.setCells g (i * 5) [.string (strB nm), .slice As ln cp, .int .i64 st, .int .i64 nd, .bool false] := ⟨_, rfl⟩
          rw [← hw3] at HS HO HKs
          have Hw3 := Lib.hid HS.out
          clear hw3 HS
          have ef0 := ef (i * 5)
          have ef1 := ef (i * 5 + 1)
          have ef2 := ef (i * 5 + 2)
          have ef3 := ef (i * 5 + 3)
          have ef4 := ef (i * 5 + 4)
          clear ef hc0 hc1 hc2 hc3 hc4
          go_wp2_with fail
          rw [Hw3.out]
          go_wp2_with fail
          go_roundw
          case rel => exact ⟨j + 1, i + 1, _, _, by omega, by go_num, by rw [List.length_append, Hki.out]; rfl, by go_num, by have := Hij.out; simp only [List.length_append, List.length_cons, List.length_nil] at this ⊢; omega, by simp, by rw [Hnx.out, Hkept.out]; simp, HO.out, HKs.out⟩
          case measure => simp [intOf]; omega
      · obtain rfl : j = n := by omega
        have Hall : Hid (l.take j = l ∧ l.drop j = []) := Lib.hid ⟨List.take_of_length_le (by rw [Hn.out]; exact Nat.le_refl _), List.drop_of_length_le (by rw [Hn.out]; exact Nat.le_refl _)⟩
        rw [Hall.out.2, List.append_nil] at Hownr
        rw [Hall.out.1] at Hkept
        have hz : ∀ w', (zeroValue 33).run Tryd.prog w' = .ok (.agg #[.string ByteArray.empty, .slice none 0 0, .int .i64 0, .int .i64 0, .bool false]) w' := fun w' => by kernel_rfl
        have hsl : ∀ w', (Instr.slice 22 (.slice (some ⟨g, 0, none⟩) j c) (some (.int .i64 (i : Int))) none none).run Tryd.prog w' = .ok (.slice (some ⟨g, i * 5, none⟩) (j - i) (c - i)) w' := fun w' => by
          rw [files_slice (some ⟨g, 0, none⟩) j c i (by omega) w']
          unfold sliced
          rw [if_neg (by omega), Option.map_some, addr_add, Nat.zero_add]
        have hcl := fun ty => run_clear_any (P := Tryd.prog) wr 22 33 ty _ Tryd.underlying22 hz (by simp [Value.cells, Value.oneCell']) (by simp [Value.cells]) g (i * 5) (j - i) (c - i) (by omega)
          (fun o ho => by
            have ho2 : o < (j - i) * 5 := ho
            rw [Hownr.out.cellAt _ (by omega), List.getElem?_eq_getElem (by rw [fCs_len, List.length_append]; have := Hki.out; have := Hij.out; omega)]; rfl) (fun o _ => Hownr.out.frozenAt _)
        obtain ⟨w3, hw3⟩ : ∃ w3, w3 = wr.setCells g (i * 5) (Builtin.zeroCells (Value.cells (.agg #[.string ByteArray.empty, .slice none 0 0, .int .i64 0, .int .i64 0, .bool false])) (j - i)).toList := ⟨_, rfl⟩
        rw [← hw3] at hcl
        have Hs3 : Hid (SlAt w3 (some ⟨g, 0, none⟩) (kept.flatMap fC)) := Lib.hid (by
          rw [hw3]
          have h1 := own_setCells (Builtin.zeroCells (Value.cells (.agg #[.string ByteArray.empty, .slice none 0 0, .int .i64 0, .int .i64 0, .bool false])) (j - i)).toList (i * 5) Hownr.out rfl
          have h2 := layL_mid (Builtin.zeroCells (Value.cells (.agg #[.string ByteArray.empty, .slice none 0 0, .int .i64 0, .int .i64 0, .bool false])) (j - i)).toList (kept.flatMap fC) (junk.flatMap fC) [] (by
            rw [zc_size, fCs_len]; simp [Value.cells]; have := Hij.out; omega)
          rw [List.append_nil, List.append_nil, fCs_len, Hki.out, ← List.flatMap_append] at h2
          rw [h2] at h1
          obtain ⟨A9, c9, e9, _, _, h9, _⟩ := own_slat h1
          injection e9 with e9
          subst e9
          have := h9.take (kept.flatMap fC).length
          rwa [List.take_left'] at this
          rfl)
        have Hk3 : Hid (Keeps base [33] w w3) := Lib.hid (by rw [hw3]; exact keeps_setCells _ _ Hkeep.out Hownr.out (by simp))
        clear hw3 hz Hkeep
        go_wp2_with fail
        go_ret
        exact ⟨_, i, c, rfl, by rw [Hkept.out, Hki.out], by omega, by unfold maxLen; omega, by rw [Hkept.out]; exact Hs3.out, (fun h => by cases h), Hk3.out⟩
  · rw [hi]
    have Hf : Hid (l.filter isHere = l) := Lib.hid (filter_here hall)
    clear hi hall
    go_wp2_with fail
    go_ret
    exact ⟨A, n, c, rfl, by rw [Hf.out, Hn.out], hnc, by unfold maxLen; omega, by rw [Hf.out]; exact Hsl.out.below Hb1.out, HA0.out, HK1.out⟩
end Go.Proofs.YtdoegpklephelaaDoor.Merge
