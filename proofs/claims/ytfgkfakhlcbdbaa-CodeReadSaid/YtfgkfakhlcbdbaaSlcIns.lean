/- sort.insertionSort_func at rows of places. -/
import Derived.Test.YtfgkfakhlcbdbaaSlcSwap
namespace Go.Proofs.Ytfgkfakhlcbdbaa.Slc
open Go Go.RowKit Go.Proofs.Ytfgkfakhlcbdbaa Go.Proofs.Ytfgkfakhlcbdbaa.SP
set_option linter.unusedVariables false

def isL (P S' : List TE) (x : TE) (R : List TE) (u : Nat) : List TE := (P ++ S'.take u) ++ x :: (S'.drop u ++ R)
theorem is_pre (P S' : List TE) (x : TE) (R : List TE) (u : Nat) (h : u < S'.length) : isL P S' x R (u + 1) = (P ++ S'.take u) ++ S'[u] :: ([] ++ x :: (S'.drop (u + 1) ++ R)) := by
  unfold isL
  rw [List.take_succ_eq_append_getElem h]
  simp only [List.append_assoc, List.cons_append, List.nil_append]
theorem is_post (P S' : List TE) (x : TE) (R : List TE) (u : Nat) (h : u < S'.length) : isL P S' x R u = (P ++ S'.take u) ++ x :: ([] ++ S'[u] :: (S'.drop (u + 1) ++ R)) := by
  unfold isL
  rw [List.drop_eq_getElem_cons h]
  simp only [List.append_assoc, List.cons_append, List.nil_append]
theorem ins_sorted (S' : List TE) (x : TE) (u : Nat) (hu : u ≤ S'.length) (hs : S'.Pairwise (lexP ekey)) (ht : ∀ y ∈ S', y.2 < x.2) (h1 : u = 0 ∨ ∃ h : u - 1 < S'.length, S'[u - 1].1.1 ≤ x.1.1) (h2 : u = S'.length ∨ ∃ h : u < S'.length, x.1.1 < S'[u].1.1) :
    (S'.take u ++ x :: S'.drop u).Pairwise (lexP ekey) := by
  refine put_sorted ekey x S' u hu hs ?_ ?_
  · rcases h1 with h | ⟨h, k⟩
    · exact .inl h
    · refine .inr ⟨h, ?_⟩
      have := ht _ (List.getElem_mem h)
      unfold lexP ekey; omega
  · rcases h2 with h | ⟨h, k⟩
    · exact .inl h
    · exact .inr ⟨h, .inl k⟩
theorem ins_perm (S' T : List TE) (x : TE) (u : Nat) (h : S'.Perm T) : (S'.take u ++ x :: S'.drop u).Perm (T ++ [x]) :=
  (put_perm x S' u).trans ((h.cons x).trans (List.perm_append_singleton x T).symm)
set_option maxRecDepth 100000 in
set_option maxHeartbeats 4000000 in
theorem insertion_any (g gv N cap a b : Nat) (rest : List Value) (P S Q : List TE) (w : World) (h : PkAt w g rest (P ++ S ++ Q)) (hv : Var w g gv N cap) (ha : P.length = a) (hb : a + S.length = b) (hr : Rise S) (hN : (P ++ S ++ Q).length = N) (hN2 : N ≤ 1000000) :
    Calls Try.prog 65 #[dataV g gv N cap, .int .i64 (a : Int), .int .i64 (b : Int)] w fun e w' => e = .returned (.tuple #[]) ∧ (∃ S', PkAt w' g rest (P ++ S' ++ Q) ∧ S'.Perm S ∧ S'.Pairwise (lexP ekey)) ∧ w.grownBy w' (some g) := by
  have hN3 : P.length + S.length + Q.length = N := by rw [← hN]; simp; omega
  have H := Lib.hid (Mm.start h hv hN hN2)
  have HP := Lib.hid ha
  have HR := Lib.hid hr
  have HS := Lib.hid hb
  have hbN : b ≤ N := by omega
  have hab : a ≤ b := by omega
  clear h hN hN3 ha hr hb hv
  unfold dataV
  go_enter Try.func65, Try.ntmps65
  go_wp2_with fail
  generalize hw1 : w.alloc (.cells #[lessV gv, swapV g N cap] 94) = w1 at *
  generalize hbx : w.heap.size = bx at *
  have Hw1 := Lib.hid hw1
  clear hw1 hbx
  go_loopw [6] (fun i wr => ∃ (t ti : Nat) (S' : List TE), a + t = ti ∧ i = .int .i64 (ti : Int) ∧ 1 ≤ t ∧ (t ≤ S.length ∨ t = 1) ∧ S'.Perm (S.take t) ∧ S'.Pairwise (lexP ekey) ∧ Mm w1 wr bx g gv N cap rest (P ++ S' ++ (S.drop t ++ Q))) (fun i _ => b - (intOf i).toNat)
  case atStart =>
    refine ⟨1, a + 1, S.take 1, rfl, by go_num, Nat.le_refl _, .inr rfl, List.Perm.refl _, ?_, ?_⟩
    · rcases S with _ | ⟨x, S⟩
      · exact List.Pairwise.nil
      · exact List.pairwise_singleton _ _
    · have := H.out
      rw [List.append_assoc, ← List.append_assoc (S.take 1), List.take_append_drop, ← List.append_assoc]; exact this
  case round =>
    obtain ⟨t, ti, S', hti, rfl, ht1, htS, hperm, hsort, hpk⟩ := hrel
    have Hpk := Lib.hid hpk
    have Hperm := Lib.hid hperm
    have Hsort := Lib.hid hsort
    have Hti := Lib.hid hti
    clear hpk hperm hsort
    by_cases hlt : ti < b
    · have htl : t < S.length := by have := HS.out; omega
      have HSl : Hid (S'.length = t) := Lib.hid (by rw [Hperm.out.length_eq, List.length_take]; omega)
      have Htag : Hid (∀ y ∈ S', y.2 < S[t].2) := Lib.hid (fun y hy => by
        have h1 := Hperm.out.mem_iff.1 hy
        obtain ⟨i, hi, rfl⟩ := List.mem_iff_getElem.1 h1
        rw [List.length_take] at hi
        rw [List.getElem_take]
        exact List.pairwise_iff_getElem.1 HR.out i t (by omega) htl (by omega))
      have Hst : Hid (P ++ S' ++ (S.drop t ++ Q) = isL P S' S[t] (S.drop (t + 1) ++ Q) t) := Lib.hid (by
        unfold isL
        rw [List.drop_eq_getElem_cons htl, List.take_of_length_le (Nat.le_of_eq HSl.out), List.drop_of_length_le (Nat.le_of_eq HSl.out)]
        simp only [List.append_assoc, List.cons_append, List.nil_append])
      have Htk : Hid (S.take (t + 1) = S.take t ++ [S[t]]) := Lib.hid (List.take_succ_eq_append_getElem htl)
      rw [Hst.out] at Hpk
      generalize S[t] = x at *
      clear Hst
      go_wp2_with fail
      go_loopw [7] (fun j wr => ∃ (u uj : Nat), a + u = uj ∧ j = .int .i64 (uj : Int) ∧ u ≤ t ∧ (u = S'.length ∨ ∃ h : u < S'.length, x.1.1 < S'[u].1.1) ∧ Mm w1 wr bx g gv N cap rest (isL P S' x (S.drop (t + 1) ++ Q) u)) (fun j _ => (intOf j).toNat)
      case atStart => exact ⟨t, ti, Hti.out, rfl, Nat.le_refl _, .inl HSl.out.symm, Hpk.out⟩
      case round =>
        obtain ⟨u, uj, huj, rfl, hut, hux, hpk⟩ := hrel
        have Hux := Lib.hid hux
        have c0 := hpk.c0
        have c1 := hpk.c1
        unfold lessV at c0
        unfold swapV at c1
        clear hux
        rcases u with _ | u
        · have d0 : decide (a < uj) = false := by simp; omega
          have d1 : ¬ (a : Int) < (uj : Int) := by omega
          have Hpk2 := Lib.hid hpk
          have Huj := Lib.hid huj
          clear hpk huj
          have hpr : Hid (uj ≤ ti) := Lib.hid (by have := Huj.out; have := Hti.out; omega)
          go_wp2_with fail
          go_roundw
          case rel =>
            have a0 := HSl.out
            have hu0 : (0 : Nat) ≤ S'.length := Nat.zero_le _
            have hso := ins_sorted S' x 0 hu0 Hsort.out Htag.out (.inl rfl) Hux.out
            have hpe := ins_perm S' _ x 0 Hperm.out
            rw [← Htk.out] at hpe
            exact ⟨t + 1, ti + 1, _, by omega, by go_num, by omega, .inl (by omega), hpe, hso, by have := Hpk2.out; unfold isL at this; simpa only [List.append_assoc, List.cons_append] using this⟩
          case measure => simp [intOf]; omega
        · obtain ⟨jm, hjm⟩ : ∃ jm, a + u = jm := ⟨_, rfl⟩
          have hju : uj = jm + 1 := by omega
          have hul : u < S'.length := by rw [HSl.out]; omega
          rw [is_pre P S' x _ u hul] at hpk
          have hX : jm = (P ++ S'.take u).length := by rw [List.length_append, List.length_take, HP.out, HSl.out]; omega
          have hY : uj = (P ++ S'.take u).length + 1 + ([] : List TE).length := by rw [← hX, hju]; rfl
          have e1 : (uj : Int) - 1 = (jm : Int) := by omega
          have hw : IntKind.i64.wrap (jm : Int) = (jm : Int) := IntWalk.i64_in _ (by omega)
          have hpr : Hid (uj ≤ ti ∧ jm + 1 = uj ∧ a ≤ jm) := Lib.hid (by omega)
          have ha2 : (a : Int) < (uj : Int) := by omega
          have hpost := is_post P S' x (S.drop (t + 1) ++ Q) u hul
          have Hpk3 := Lib.hid hpk
          obtain ⟨y, hy⟩ : ∃ y, S'[u] = y := ⟨_, rfl⟩
          rw [hy] at hpost Hpk3
          have Hy : Hid (∀ h : u < S'.length, S'[u] = y) := Lib.hid (fun _ => hy)
          have Hpost := Lib.hid hpost
          have HX := Lib.hid hX
          have HY := Lib.hid hY
          have Huj : Hid (a + (u + 1) = uj ∧ a + u = jm) := Lib.hid ⟨huj, hjm⟩
          have HL := Lib.hid (Hpk3.out.less' HX.out HY.out)
          clear hy hpost hpk hX hY huj hjm hju
          by_cases hc : x.1.1 < y.1.1
          · have hb1 : decide (x.1.1 < y.1.1) = true := by simp [hc]
            rw [hb1] at HL
            clear hb1
            go_wp2_with fail
            refine (HL.out).mono ?_
            rintro e w3 ⟨rfl, hm3⟩
            have c1 := hm3.c1
            unfold swapV at c1
            obtain ⟨w9, hsw, hm9⟩ := hm3.swap' HX.out HY.out
            rw [← Hpost.out] at hm9
            have HM9 := Lib.hid hm9
            clear hm3 hm9 c0
            go_wp2_with fail
            go_roundw
            case rel => exact ⟨u, jm, Huj.out.2, rfl, by omega, .inr ⟨hul, by rw [Hy.out]; exact hc⟩, HM9.out⟩
            case measure => simp [intOf]; omega
          · have hb1 : decide (x.1.1 < y.1.1) = false := by simp; omega
            rw [hb1] at HL
            have Hold : Hid (∀ W, Mm w1 W bx g gv N cap rest (P ++ S'.take u ++ y :: ([] ++ x :: (S'.drop (u + 1) ++ (S.drop (t + 1) ++ Q)))) → Mm w1 W bx g gv N cap rest (isL P S' x (S.drop (t + 1) ++ Q) (u + 1))) := Lib.hid (fun W hW => by rw [is_pre P S' _ _ u hul, Hy.out]; exact hW)
            clear hb1
            go_wp2_with fail
            refine (HL.out).mono ?_
            rintro e w3 ⟨rfl, hm3⟩
            have HM3 := Lib.hid (Hold.out _ hm3)
            clear hm3 Hold
            go_wp2_with fail
            go_roundw
            case rel =>
              have a0 := HSl.out
              have hu0 : u + 1 ≤ S'.length := hul
              have hso := ins_sorted S' x (u + 1) hu0 Hsort.out Htag.out (.inr ⟨hul, by rw [show S'[u + 1 - 1] = S'[u] from rfl, Hy.out]; omega⟩) Hux.out
              have hpe := ins_perm S' _ x (u + 1) Hperm.out
              rw [← Htk.out] at hpe
              exact ⟨t + 1, ti + 1, _, by omega, by go_num, by omega, .inl (by omega), hpe, hso, by have := HM3.out; unfold isL at this; simpa only [List.append_assoc, List.cons_append] using this⟩
            case measure => simp [intOf]; omega
    · have hall : S.length ≤ t := by have := HS.out; omega
      have Hp1 : Hid (S'.Perm S) := Lib.hid (by have := Hperm.out; rwa [List.take_of_length_le hall] at this)
      have Hpk1 : Hid (Mm w1 wr bx g gv N cap rest (P ++ S' ++ Q)) := Lib.hid (by have := Hpk.out; rwa [List.drop_of_length_le hall, List.nil_append] at this)
      go_wp2_with fail
      go_end0
      exact ⟨rfl, ⟨S', Hpk1.out.pk, Hp1.out, Hsort.out⟩, (Hw1.out ▸ Hpk1.out : Mm (w.alloc _) _ _ _ _ _ _ _ _).done⟩
end Go.Proofs.Ytfgkfakhlcbdbaa.Slc
