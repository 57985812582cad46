/- sort.swapRange_func, sort.rotate_func at rows of places. -/
import Derived.Test.YtfgkfakhlcbdbaaSlcMem
namespace Go.Proofs.Ytfgkfakhlcbdbaa.Slc
open Go Go.RowKit Go.Proofs.Ytfgkfakhlcbdbaa
set_option linter.unusedVariables false

def srL (P U M V Q : List TE) (i : Nat) : List TE := P ++ V.take i ++ (U.drop i ++ (M ++ U.take i ++ (V.drop i ++ Q)))
theorem sr_here (P U M V Q : List TE) (i : Nat) (h1 : i < U.length) (h2 : i < V.length) : srL P U M V Q i = (P ++ V.take i) ++ U[i] :: ((U.drop (i + 1) ++ (M ++ U.take i)) ++ V[i] :: (V.drop (i + 1) ++ Q)) := by
  unfold srL
  rw [List.drop_eq_getElem_cons h1, List.drop_eq_getElem_cons h2]
  simp only [List.append_assoc, List.cons_append]
theorem sr_next (P U M V Q : List TE) (i : Nat) (h1 : i < U.length) (h2 : i < V.length) : srL P U M V Q (i + 1) = (P ++ V.take i) ++ V[i] :: ((U.drop (i + 1) ++ (M ++ U.take i)) ++ U[i] :: (V.drop (i + 1) ++ Q)) := by
  unfold srL
  rw [List.take_succ_eq_append_getElem h1, List.take_succ_eq_append_getElem h2]
  simp only [List.append_assoc, List.cons_append, List.nil_append]
theorem srL_len (P U M V Q : List TE) (i : Nat) (h : U.length = V.length) : (srL P U M V Q i).length = P.length + U.length + M.length + V.length + Q.length := by
  unfold srL; simp; omega
set_option maxRecDepth 100000 in
set_option maxHeartbeats 4000000 in
theorem swapRange_any (g gv N cap a b k : Nat) (rest : List Value) (P U M V Q : List TE) (w : World) (h : PkAt w g rest (P ++ U ++ (M ++ (V ++ Q)))) (hv : Var w g gv N cap) (hU : U.length = k) (hV : V.length = k) (ha : P.length = a) (hb : P.length + U.length + M.length = b)
    (hN : (P ++ U ++ (M ++ (V ++ Q))).length = N) (hN2 : N ≤ 1000000) :
    Calls Try.prog 73 #[dataV g gv N cap, .int .i64 (a : Int), .int .i64 (b : Int), .int .i64 (k : Int)] w fun e w' => e = .returned (.tuple #[]) ∧ PkAt w' g rest (P ++ V ++ (M ++ (U ++ Q))) ∧ w.grownBy w' (some g) := by
  have hN3 : P.length + U.length + M.length + V.length + Q.length = N := by rw [← hN]; simp; omega
  have h0 : srL P U M V Q 0 = P ++ U ++ (M ++ (V ++ Q)) := by simp [srL]
  have h1 : srL P U M V Q k = P ++ V ++ (M ++ (U ++ Q)) := by unfold srL; rw [List.take_of_length_le (by omega), List.take_of_length_le (by omega), List.drop_of_length_le (by omega), List.drop_of_length_le (by omega)]; simp
  have H := Lib.hid (Mm.start h hv hN hN2)
  rw [← h0] at H
  have H1 := Lib.hid h1
  have HU := Lib.hid hU
  have HV := Lib.hid hV
  have HP := Lib.hid ha
  have HB := Lib.hid hb
  have hbk : b + k ≤ N := by omega
  have hak : a + k ≤ b := by omega
  clear h h0 h1 hN hN3 hU hV ha hb hv
  unfold dataV
  go_enter Try.func73, Try.ntmps73
  go_wp2_with fail
  generalize hw1 : w.alloc (.cells #[lessV gv, swapV g N cap] 94) = w1 at *
  generalize hbx : w.heap.size = bx at *
  have Hw1 := Lib.hid hw1
  clear hw1 hbx
  go_loopw [8] (fun i wr => ∃ j : Nat, j ≤ k ∧ i = .int .i64 (j : Int) ∧ Mm w1 wr bx g gv N cap rest (srL P U M V Q j)) (fun i _ => k - (intOf i).toNat)
  case atStart => exact ⟨0, Nat.zero_le _, rfl, H.out⟩
  case round =>
    obtain ⟨j, hj, rfl, hm⟩ := hrel
    by_cases hlt : j < k
    · have e1 : j < U.length := by rw [HU.out]; exact hlt
      have e2 : j < V.length := by rw [HV.out]; exact hlt
      rw [sr_here P U M V Q j e1 e2] at hm
      have hX : a + j = (P ++ V.take j).length := by rw [List.length_append, List.length_take, HP.out, HV.out]; omega
      have hY : b + j = (P ++ V.take j).length + 1 + (U.drop (j + 1) ++ (M ++ U.take j)).length := by
        have := HU.out; have := HV.out; have := HP.out; have := HB.out
        simp; omega
      obtain ⟨w9, hsw, hm9⟩ := hm.swap hX hY
      rw [← sr_next P U M V Q j e1 e2] at hm9
      have c1 := hm.c1
      have HM9 := Lib.hid hm9
      have q1 : ((a + j : Nat) : Int) = (a : Int) + (j : Int) := by omega
      have q2 : ((b + j : Nat) : Int) = (b : Int) + (j : Int) := by omega
      rw [q1, q2] at hsw
      unfold swapV at c1
      clear hm hm9 hX hY e1 e2 q1 q2
      go_wp2_with fail
      go_roundw
      case rel => exact ⟨j + 1, by omega, by go_num, HM9.out⟩
      case measure => simp [intOf]; omega
    · obtain rfl : j = k := by omega
      have HM := Lib.hid hm
      clear hm
      go_wp2_with fail
      go_end0
      exact ⟨rfl, by rw [← H1.out]; exact HM.out.pk, (Hw1.out ▸ HM.out : Mm (w.alloc _) _ _ _ _ _ _ _ _).done⟩
def rtL (P A U V B Q : List TE) : List TE := (P ++ A) ++ U ++ ([] ++ (V ++ (B ++ Q)))
set_option maxRecDepth 100000 in
set_option maxHeartbeats 4000000 in
theorem rotate_any (g gv N cap a m b : Nat) (rest : List Value) (P X Y Q : List TE) (w : World) (h : PkAt w g rest (P ++ X ++ (Y ++ Q))) (hv : Var w g gv N cap) (ha : P.length = a) (hm : a + X.length = m) (hb : m + Y.length = b) (hX : 1 ≤ X.length) (hY : 1 ≤ Y.length)
    (hN : (P ++ X ++ (Y ++ Q)).length = N) (hN2 : N ≤ 1000000) :
    Calls Try.prog 71 #[dataV g gv N cap, .int .i64 (a : Int), .int .i64 (m : Int), .int .i64 (b : Int)] w fun e w' => e = .returned (.tuple #[]) ∧ PkAt w' g rest (P ++ Y ++ (X ++ Q)) ∧ w.grownBy w' (some g) := by
  have hN3 : P.length + X.length + Y.length + Q.length = N := by rw [← hN]; simp; omega
  have HN3 := Lib.hid hN3
  have H := Lib.hid (Mm.start h hv hN hN2)
  have HP := Lib.hid ha
  have ei : (m : Int) - (a : Int) = ((X.length : Nat) : Int) := by omega
  have ej : (b : Int) - (m : Int) = ((Y.length : Nat) : Int) := by omega
  have hmb : m ≤ b := by omega
  have hbN : b ≤ N := by omega
  have ham : a ≤ m := by omega
  have Hx := Lib.hid hX
  have Hy := Lib.hid hY
  have Hm := Lib.hid hm
  have Hb := Lib.hid hb
  clear h hN hN3 ha hX hY hm hb hv
  generalize hxl : X.length = xl at *
  generalize hyl : Y.length = yl at *
  have Hxl := Lib.hid hxl
  have Hyl := Lib.hid hyl
  clear hxl hyl
  unfold dataV
  go_enter Try.func71, Try.ntmps71
  go_wp2_with fail
  generalize hw1 : w.alloc (.cells #[lessV gv, swapV g N cap] 94) = w1 at *
  generalize hbx : w.heap.size = bx at *
  have Hw1 := Lib.hid hw1
  clear hw1 hbx
  go_loopw [8, 9] (fun i j wr => ∃ A U V B : List TE, i = .int .i64 (U.length : Int) ∧ j = .int .i64 (V.length : Int) ∧ 1 ≤ U.length ∧ 1 ≤ V.length ∧ (P ++ A).length + U.length = m ∧ m + V.length ≤ b ∧ (rtL P A U V B Q).length = N ∧ Y ++ X = A ++ (V ++ U) ++ B ∧ Mm w1 wr bx g gv N cap rest (rtL P A U V B Q)) (fun i j _ => (intOf i).toNat + (intOf j).toNat)
  case atStart =>
    refine ⟨[], X, Y, [], by rw [Hxl.out], by rw [Hyl.out], by rw [Hxl.out]; exact Hx.out, by rw [Hyl.out]; exact Hy.out, ?_, ?_, ?_, by simp, ?_⟩
    · rw [List.append_nil, HP.out, Hxl.out]; exact Hm.out
    · rw [Hyl.out]; exact Nat.le_of_eq Hb.out
    · have := HN3.out; have := Hxl.out; have := Hyl.out; simp [rtL]; omega
    · simpa [rtL] using H.out
  case round =>
    obtain ⟨A, U, V, B, rfl, rfl, hu, hv, hA, hV, hL, htgt, hpk⟩ := hrel
    have c0 := hpk.c0
    have c1 := hpk.c1
    have Hpk := Lib.hid hpk
    have Htgt := Lib.hid htgt
    have HL := Lib.hid hL
    have HA := Lib.hid hA
    clear hpk htgt hL
    obtain ⟨i, hi⟩ : ∃ i, U.length = i := ⟨_, rfl⟩
    obtain ⟨j, hj⟩ : ∃ j, V.length = j := ⟨_, rfl⟩
    obtain ⟨p, hp⟩ : ∃ p, (P ++ A).length = p := ⟨_, rfl⟩
    have Hi := Lib.hid hi
    have Hj := Lib.hid hj
    have Hp := Lib.hid hp
    rw [hi, hp] at hA
    rw [hi] at hu ⊢
    rw [hj] at hv hV ⊢
    clear hi hj hp
    have e1 : (m : Int) - (i : Int) = (p : Int) := by omega
    by_cases hij : i = j
    · have hne : ((i : Int) != (j : Int)) = false := by simp; omega
      have hc := swapRange_any g gv N cap p m i rest (P ++ A) U [] V (B ++ Q) wr Hpk.out.pk Hpk.out.var Hi.out (by rw [Hj.out]; exact hij.symm) Hp.out (by rw [Hp.out, Hi.out]; simpa using hA) HL.out hN2
      unfold dataV at hc
      have Hc := Lib.hid hc
      have Hfin : Hid ((P ++ A) ++ V ++ ([] ++ (U ++ (B ++ Q))) = P ++ Y ++ (X ++ Q)) := Lib.hid (by
        have := Htgt.out
        have h2 : P ++ (Y ++ X) ++ Q = P ++ (A ++ (V ++ U) ++ B) ++ Q := by rw [this]
        simp only [List.append_assoc, List.nil_append] at h2 ⊢
        exact h2.symm)
      clear hc hij
      go_wp2_with fail
      refine (Hc.out).mono ?_
      rintro e w2 ⟨rfl, hp2, hg2⟩
      rw [Hfin.out] at hp2
      have Hp2 := Lib.hid hp2
      have Hg2 := Lib.hid hg2
      clear hp2 hg2
      go_wp2_with fail
      go_end0
      exact ⟨rfl, Hp2.out, (Hw1.out ▸ (Hpk.out.more Hg2.out Hp2.out (by have a7 := HL.out; have h9 := congrArg List.length Hfin.out; unfold rtL; simp only [List.length_append, List.length_nil] at h9 ⊢; omega)) : Mm (w.alloc _) _ _ _ _ _ _ _ _).done⟩
    · have hne : ((i : Int) != (j : Int)) = true := by simp; omega
      by_cases hlt : j < i
      · have hU : U = U.take j ++ U.drop j := (List.take_append_drop _ _).symm
        have hc := swapRange_any g gv N cap p m j rest (P ++ A) (U.take j) (U.drop j) V (B ++ Q) wr (by have := Hpk.out.pk; unfold rtL at this; rw [hU] at this; simpa only [List.append_assoc, List.nil_append] using this) Hpk.out.var (by rw [List.length_take, Hi.out]; omega) Hj.out Hp.out
          (by rw [Hp.out, List.length_take, List.length_drop, Hi.out]; omega) (by have := HL.out; unfold rtL at this; rw [hU] at this; simpa only [List.append_assoc, List.nil_append] using this) hN2
        unfold dataV at hc
        have Hc := Lib.hid hc
        have e3 : (i : Int) - (j : Int) = (((U.drop j).length : Nat) : Int) := by rw [List.length_drop, Hi.out]; omega
        have Hd : Hid ((U.drop j).length = i - j) := Lib.hid (by rw [List.length_drop, Hi.out])
        have Ht : Hid ((U.take j).length = j) := Lib.hid (by rw [List.length_take, Hi.out]; omega)
        have Htg2 : Hid (Y ++ X = (A ++ V) ++ (U.take j ++ U.drop j) ++ B) := Lib.hid (by rw [Htgt.out, List.take_append_drop]; simp only [List.append_assoc])
        have hjI : (j : Int) < (i : Int) := by omega
        clear hc hij hU
        generalize U.drop j = U2 at *
        generalize U.take j = U1 at *
        generalize hd : U2.length = dd at *
        have Hdl := Lib.hid hd
        clear hd
        go_wp2_with fail
        refine (Hc.out).mono ?_
        rintro e w2 ⟨rfl, hp2, hg2⟩
        have Hp2 : Hid (Mm w1 w2 bx g gv N cap rest (rtL P (A ++ V) U2 U1 B Q)) := Lib.hid (Hpk.out.more hg2 (by unfold rtL; simpa only [List.append_assoc, List.nil_append] using hp2) (by have a1 := Hd.out; have a2 := Ht.out; (try have a3 := Hdl.out); have a7 := HL.out; have a8 := Hi.out; have a9 := Hj.out; unfold rtL at a7 ⊢; simp only [List.length_append, List.length_nil] at a7 ⊢; omega))
        clear hp2 hg2
        go_wp2_with fail
        go_roundw
        case rel =>
          have a1 := Hd.out; have a2 := Ht.out; have a3 := Hdl.out; have a4 := Hj.out; have a5 := Hi.out; have a6 := Hp.out; have a7 := HL.out
          refine ⟨A ++ V, U2, U1, B, by rw [a3], by rw [a2], by omega, by omega, ?_, by omega, ?_, Htg2.out, Hp2.out⟩
          · simp only [List.length_append] at a6 ⊢; omega
          · unfold rtL at a7 ⊢; simp only [List.length_append, List.length_nil] at a7 a6 ⊢; omega
        case measure =>
          have a1 := Hd.out
          simp [intOf]; omega
      · have hV' : V = V.take (j - i) ++ V.drop (j - i) := (List.take_append_drop _ _).symm
        have hc := swapRange_any g gv N cap p (m + (j - i)) i rest (P ++ A) U (V.take (j - i)) (V.drop (j - i)) (B ++ Q) wr (by have := Hpk.out.pk; unfold rtL at this; rw [hV'] at this; simpa only [List.append_assoc, List.nil_append] using this) Hpk.out.var Hi.out (by rw [List.length_drop, Hj.out]; omega) Hp.out
          (by rw [Hp.out, List.length_take, Hi.out, Hj.out]; omega) (by have := HL.out; unfold rtL at this; rw [hV'] at this; simpa only [List.append_assoc, List.nil_append] using this) hN2
        unfold dataV at hc
        have Hc := Lib.hid hc
        have Hd : Hid ((V.drop (j - i)).length = i) := Lib.hid (by rw [List.length_drop, Hj.out]; omega)
        have Ht : Hid ((V.take (j - i)).length = j - i) := Lib.hid (by rw [List.length_take, Hj.out]; omega)
        have Htg2 : Hid (Y ++ X = A ++ (V.take (j - i) ++ V.drop (j - i)) ++ (U ++ B)) := Lib.hid (by rw [Htgt.out, List.take_append_drop]; simp only [List.append_assoc])
        have hjI : ¬ ((j : Int) < (i : Int)) := by omega
        obtain ⟨q, hq⟩ : ∃ q, m + (j - i) = q := ⟨_, rfl⟩
        have e2 : (m : Int) + (j : Int) - (i : Int) = (q : Int) := by omega
        obtain ⟨r, hr⟩ : ∃ r, j - i = r := ⟨_, rfl⟩
        have e3 : (j : Int) - (i : Int) = (r : Int) := by omega
        rw [hq] at Hc
        rw [hr] at Ht Hd Htg2 Hc
        have hrij : r + i = j := by omega
        have hr1 : 1 ≤ r := by omega
        clear hc hij hV' hq hr
        generalize V.drop r = V2 at *
        generalize V.take r = V1 at *
        go_wp2_with fail
        refine (Hc.out).mono ?_
        rintro e w2 ⟨rfl, hp2, hg2⟩
        have Hp2 : Hid (Mm w1 w2 bx g gv N cap rest (rtL P A V2 V1 (U ++ B) Q)) := Lib.hid (Hpk.out.more hg2 (by unfold rtL; simpa only [List.append_assoc, List.nil_append] using hp2) (by have a1 := Hd.out; have a2 := Ht.out; (try have a3 := Hdl.out); have a7 := HL.out; have a8 := Hi.out; have a9 := Hj.out; unfold rtL at a7 ⊢; simp only [List.length_append, List.length_nil] at a7 ⊢; omega))
        clear hp2 hg2
        go_wp2_with fail
        go_roundw
        case rel =>
          have a1 := Hd.out; have a2 := Ht.out; have a4 := Hj.out; have a5 := Hi.out; have a6 := Hp.out; have a7 := HL.out
          refine ⟨A, V2, V1, U ++ B, by rw [a1], by rw [a2], by omega, by omega, by rw [a6, a1]; omega, by omega, ?_, Htg2.out, Hp2.out⟩
          unfold rtL at a7 ⊢; simp only [List.length_append, List.length_nil] at a7 a6 ⊢; omega
        case measure => simp [intOf]; omega
end Go.Proofs.Ytfgkfakhlcbdbaa.Slc
