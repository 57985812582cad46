/- slices.swapRangeCmpFunc, slices.rotateCmpFunc at rows of packs. -/
import Derived.Test.YtdponlnfdjfljaaSortMem
import Derived.BigRegion
import Derived.BigQuiet
import Derived.WalkSpells
namespace Go.Proofs.Ytdponlnfdjfljaa.Weigh
open Go Go.RowKit Go.Proofs.Ytdponlnfdjfljaa
set_option linter.unusedVariables false

def srL (P U M V Q : List TE) (i : Nat) : List TE := P ++ V.take i ++ (U.drop i ++ (M ++ U.take i ++ (V.drop i ++ Q)))
theorem sr_here (P U M V Q : List TE) (i : Nat) (h1 : i < U.length) (h2 : i < V.length) : srL P U M V Q i = (P ++ V.take i) ++ U[i] :: ((U.drop (i + 1) ++ (M ++ U.take i)) ++ V[i] :: (V.drop (i + 1) ++ Q)) := by
  unfold srL
  rw [List.drop_eq_getElem_cons h1, List.drop_eq_getElem_cons h2]
  simp only [List.append_assoc, List.cons_append]
theorem sr_next (P U M V Q : List TE) (i : Nat) (h1 : i < U.length) (h2 : i < V.length) : srL P U M V Q (i + 1) = (P ++ V.take i) ++ V[i] :: ((U.drop (i + 1) ++ (M ++ U.take i)) ++ U[i] :: (V.drop (i + 1) ++ Q)) := by
  unfold srL
  rw [List.take_succ_eq_append_getElem h1, List.take_succ_eq_append_getElem h2]
  simp only [List.append_assoc, List.cons_append, List.nil_append]
theorem srL_len (P U M V Q : List TE) (i : Nat) (h : U.length = V.length) : (srL P U M V Q i).length = P.length + U.length + M.length + V.length + Q.length := by
  unfold srL; simp; omega
set_option maxRecDepth 100000 in
set_option maxHeartbeats 4000000 in
theorem swapRange_any (g N cap a b k : Nat) (rest : List Value) (P U M V Q : List TE) (cmp : Value) (w : World) (h : PkAt w g rest (P ++ U ++ (M ++ (V ++ Q)))) (hU : U.length = k) (hV : V.length = k) (ha : P.length = a) (hb : P.length + U.length + M.length = b)
    (hN : (P ++ U ++ (M ++ (V ++ Q))).length = N) (hN2 : N ≤ 1000000) :
    Calls Try.prog 115 #[.slice (some ⟨g, 0, none⟩) N cap, .int .i64 (a : Int), .int .i64 (b : Int), .int .i64 (k : Int), cmp] w fun e w' => e = .returned (.tuple #[]) ∧ PkAt w' g rest (P ++ V ++ (M ++ (U ++ Q))) ∧ w.grownBy w' (some g) := by
  have hN3 : P.length + U.length + M.length + V.length + Q.length = N := by rw [← hN]; simp; omega
  have h0 : srL P U M V Q 0 = P ++ U ++ (M ++ (V ++ Q)) := by simp [srL]
  have h1 : srL P U M V Q k = P ++ V ++ (M ++ (U ++ Q)) := by unfold srL; rw [List.take_of_length_le (by omega), List.take_of_length_le (by omega), List.drop_of_length_le (by omega), List.drop_of_length_le (by omega)]; simp
  rw [← h0] at h
  have H := Lib.hid h
  have H1 := Lib.hid h1
  have HU := Lib.hid hU
  have HV := Lib.hid hV
  have HP := Lib.hid ha
  have HB := Lib.hid hb
  have hbk : b + k ≤ N := by omega
  have hak : a + k ≤ b := by omega
  clear h h0 h1 hN hN3 hU hV ha hb
  go_enter Try.func115, Try.ntmps115
  go_wp2_with fail
  go_loopw [10] (fun i wr => ∃ j : Nat, j ≤ k ∧ i = .int .i64 (j : Int) ∧ PkAt wr g rest (srL P U M V Q j) ∧ w.grownBy wr (some g)) (fun i _ => k - (intOf i).toNat)
  case atStart => exact ⟨0, Nat.zero_le _, rfl, H.out, World.grownBy.refl _ _⟩
  case round =>
    obtain ⟨j, hj, rfl, hpk, hgr⟩ := hrel
    have Hgr := Lib.hid hgr
    clear hgr
    by_cases hlt : j < k
    · have e1 : j < U.length := by rw [HU.out]; exact hlt
      have e2 : j < V.length := by rw [HV.out]; exact hlt
      rw [sr_here P U M V Q j e1 e2] at hpk
      have hX : a + j = (P ++ V.take j).length := by rw [List.length_append, List.length_take, HP.out, HV.out]; omega
      have hY : b + j = (P ++ V.take j).length + 1 + (U.drop (j + 1) ++ (M ++ U.take j)).length := by
        have := HU.out; have := HV.out; have := HP.out; have := HB.out
        simp; omega
      have c0 := hpk.c0 hX
      have c1 := hpk.c1 hX
      have hpk2 : PkAt wr g rest (((P ++ V.take j) ++ U[j] :: (U.drop (j + 1) ++ (M ++ U.take j))) ++ V[j] :: (V.drop (j + 1) ++ Q)) := by simpa using hpk
      have hY2 : b + j = ((P ++ V.take j) ++ U[j] :: (U.drop (j + 1) ++ (M ++ U.take j))).length := by rw [hY]; simp; omega
      have c2 := hpk2.c0 hY2
      have c3 := hpk2.c1 hY2
      have f0 := Blk.frozen hpk ((a + j) * 2)
      have f1 := Blk.frozen hpk ((a + j) * 2 + 1)
      have f2 := Blk.frozen hpk ((b + j) * 2)
      have f3 := Blk.frozen hpk ((b + j) * 2 + 1)
      have Hsw := Lib.hid (hpk.swapU hX hY)
      rw [← sr_next P U M V Q j e1 e2] at Hsw
      clear hpk hpk2 hX hY hY2
      generalize U[j].1.1 = u0 at *
      generalize U[j].1.2.1 = u1 at *
      generalize V[j].1.1 = v0 at *
      generalize V[j].1.2.1 = v1 at *
      obtain ⟨ua, ul, uc⟩ := u1
      obtain ⟨va, vl, vc⟩ := v1
      simp only [slv, nv] at c0 c1 c2 c3
      clear e1 e2
      go_wp2_with fail
      go_region
      have Hsw2 : Hid (PkAt ((((wr.setCell ⟨g, (a + j) * 2, none⟩ (.int .i64 (v0 : Int))).setCell ⟨g, (a + j) * 2 + 1, none⟩ (.slice va vl vc)).setCell ⟨g, (b + j) * 2, none⟩ (.int .i64 (u0 : Int))).setCell ⟨g, (b + j) * 2 + 1, none⟩ (.slice ua ul uc)).drew g rest (srL P U M V Q (j + 1))) := Hsw
      have Hgr2 := Lib.hid (grown_drew (grown_set (grown_set (grown_set (grown_set Hgr.out ((a + j) * 2) (.int .i64 (v0 : Int))) ((a + j) * 2 + 1) (.slice va vl vc)) ((b + j) * 2) (.int .i64 (u0 : Int))) ((b + j) * 2 + 1) (.slice ua ul uc)))
      generalize ((((wr.setCell ⟨g, (a + j) * 2, none⟩ (.int .i64 (v0 : Int))).setCell ⟨g, (a + j) * 2 + 1, none⟩ (.slice va vl vc)).setCell ⟨g, (b + j) * 2, none⟩ (.int .i64 (u0 : Int))).setCell ⟨g, (b + j) * 2 + 1, none⟩ (.slice ua ul uc)).drew = wq at *
      clear Hsw c0 c1 c2 c3 f0 f1 f2 f3
      go_wp2_with fail
      go_roundw
      case rel => exact ⟨j + 1, by omega, by go_num, Hsw2.out, Hgr2.out⟩
      case measure => simp [intOf]; omega
    · obtain rfl : j = k := by omega
      have Hpk := Lib.hid hpk
      clear hpk
      go_wp2_with fail
      go_end0
      exact ⟨rfl, by rw [← H1.out]; exact Hpk.out, Hgr.out⟩
def rtL (P A U V B Q : List TE) : List TE := (P ++ A) ++ U ++ ([] ++ (V ++ (B ++ Q)))
set_option maxRecDepth 100000 in
set_option maxHeartbeats 4000000 in
theorem rotate_any (g N cap a m b : Nat) (rest : List Value) (P X Y Q : List TE) (cmp : Value) (w : World) (h : PkAt w g rest (P ++ X ++ (Y ++ Q))) (ha : P.length = a) (hm : a + X.length = m) (hb : m + Y.length = b) (hX : 1 ≤ X.length) (hY : 1 ≤ Y.length)
    (hN : (P ++ X ++ (Y ++ Q)).length = N) (hN2 : N ≤ 1000000) :
    Calls Try.prog 102 #[.slice (some ⟨g, 0, none⟩) N cap, .int .i64 (a : Int), .int .i64 (m : Int), .int .i64 (b : Int), cmp] w fun e w' => e = .returned (.tuple #[]) ∧ PkAt w' g rest (P ++ Y ++ (X ++ Q)) ∧ w.grownBy w' (some g) := by
  have hN3 : P.length + X.length + Y.length + Q.length = N := by rw [← hN]; simp; omega
  have HN3 := Lib.hid hN3
  have H := Lib.hid h
  have HP := Lib.hid ha
  have ei : (m : Int) - (a : Int) = ((X.length : Nat) : Int) := by omega
  have ej : (b : Int) - (m : Int) = ((Y.length : Nat) : Int) := by omega
  have hmb : m ≤ b := by omega
  have hbN : b ≤ N := by omega
  have ham : a ≤ m := by omega
  have Hx := Lib.hid hX
  have Hy := Lib.hid hY
  have Hm := Lib.hid hm
  have Hb := Lib.hid hb
  clear h hN hN3 ha hX hY hm hb
  generalize hxl : X.length = xl at *
  generalize hyl : Y.length = yl at *
  have Hxl := Lib.hid hxl
  have Hyl := Lib.hid hyl
  clear hxl hyl
  go_enter Try.func102, Try.ntmps102
  go_wp2_with fail
  go_loopw [10, 11] (fun i j wr => ∃ A U V B : List TE, i = .int .i64 (U.length : Int) ∧ j = .int .i64 (V.length : Int) ∧ 1 ≤ U.length ∧ 1 ≤ V.length ∧ (P ++ A).length + U.length = m ∧ m + V.length ≤ b ∧ (rtL P A U V B Q).length = N ∧ Y ++ X = A ++ (V ++ U) ++ B ∧ PkAt wr g rest (rtL P A U V B Q) ∧ w.grownBy wr (some g)) (fun i j _ => (intOf i).toNat + (intOf j).toNat)
  case atStart =>
    refine ⟨[], X, Y, [], by rw [Hxl.out], by rw [Hyl.out], by rw [Hxl.out]; exact Hx.out, by rw [Hyl.out]; exact Hy.out, ?_, ?_, ?_, by simp, ?_, World.grownBy.refl _ _⟩
    · rw [List.append_nil, HP.out, Hxl.out]; exact Hm.out
    · rw [Hyl.out]; exact Nat.le_of_eq Hb.out
    · have := HN3.out; have := Hxl.out; have := Hyl.out; simp [rtL]; omega
    · simpa [rtL] using H.out
  case round =>
    obtain ⟨A, U, V, B, rfl, rfl, hu, hv, hA, hV, hL, htgt, hpk, hgr⟩ := hrel
    have Hgr := Lib.hid hgr
    have Hpk := Lib.hid hpk
    have Htgt := Lib.hid htgt
    have HL := Lib.hid hL
    have HA := Lib.hid hA
    clear hgr hpk htgt hL
    obtain ⟨i, hi⟩ : ∃ i, U.length = i := ⟨_, rfl⟩
    obtain ⟨j, hj⟩ : ∃ j, V.length = j := ⟨_, rfl⟩
    obtain ⟨p, hp⟩ : ∃ p, (P ++ A).length = p := ⟨_, rfl⟩
    have Hi := Lib.hid hi
    have Hj := Lib.hid hj
    have Hp := Lib.hid hp
    rw [hi, hp] at hA
    rw [hi] at hu ⊢
    rw [hj] at hv hV ⊢
    clear hi hj hp
    have e1 : (m : Int) - (i : Int) = (p : Int) := by omega
    by_cases hij : i = j
    · have hne : ((i : Int) != (j : Int)) = false := by simp; omega
      have hc := swapRange_any g N cap p m i rest (P ++ A) U [] V (B ++ Q) cmp wr Hpk.out Hi.out (by rw [Hj.out]; exact hij.symm) Hp.out (by rw [Hp.out, Hi.out]; simpa using hA) HL.out hN2
      have Hc := Lib.hid hc
      have Hfin : Hid ((P ++ A) ++ V ++ ([] ++ (U ++ (B ++ Q))) = P ++ Y ++ (X ++ Q)) := Lib.hid (by
        have := Htgt.out
        have h2 : P ++ (Y ++ X) ++ Q = P ++ (A ++ (V ++ U) ++ B) ++ Q := by rw [this]
        simp only [List.append_assoc, List.nil_append] at h2 ⊢
        exact h2.symm)
      clear hc hij
      go_wp2_with fail
      refine (Hc.out).mono ?_
      rintro e w2 ⟨rfl, hp2, hg2⟩
      rw [Hfin.out] at hp2
      have Hp2 := Lib.hid hp2
      have Hg2 := Lib.hid (Hgr.out.trans hg2)
      clear hp2 hg2
      go_wp2_with fail
      go_end0
      exact ⟨rfl, Hp2.out, Hg2.out⟩
    · have hne : ((i : Int) != (j : Int)) = true := by simp; omega
      by_cases hlt : j < i
      · have hU : U = U.take j ++ U.drop j := (List.take_append_drop _ _).symm
        have hc := swapRange_any g N cap p m j rest (P ++ A) (U.take j) (U.drop j) V (B ++ Q) cmp wr (by have := Hpk.out; unfold rtL at this; rw [hU] at this; simpa only [List.append_assoc, List.nil_append] using this) (by rw [List.length_take, Hi.out]; omega) Hj.out Hp.out
          (by rw [Hp.out, List.length_take, List.length_drop, Hi.out]; omega) (by have := HL.out; unfold rtL at this; rw [hU] at this; simpa only [List.append_assoc, List.nil_append] using this) hN2
        have Hc := Lib.hid hc
        have e3 : (i : Int) - (j : Int) = (((U.drop j).length : Nat) : Int) := by rw [List.length_drop, Hi.out]; omega
        have Hd : Hid ((U.drop j).length = i - j) := Lib.hid (by rw [List.length_drop, Hi.out])
        have Ht : Hid ((U.take j).length = j) := Lib.hid (by rw [List.length_take, Hi.out]; omega)
        have Htg2 : Hid (Y ++ X = (A ++ V) ++ (U.take j ++ U.drop j) ++ B) := Lib.hid (by rw [Htgt.out, List.take_append_drop]; simp only [List.append_assoc])
        have hjI : (j : Int) < (i : Int) := by omega
        clear hc hij hU
        generalize U.drop j = U2 at *
        generalize U.take j = U1 at *
        generalize hd : U2.length = dd at *
        have Hdl := Lib.hid hd
        clear hd
        go_wp2_with fail
        refine (Hc.out).mono ?_
        rintro e w2 ⟨rfl, hp2, hg2⟩
        have Hp2 : Hid (PkAt w2 g rest (rtL P (A ++ V) U2 U1 B Q)) := Lib.hid (by unfold rtL; simpa only [List.append_assoc, List.nil_append] using hp2)
        have Hg2 := Lib.hid (Hgr.out.trans hg2)
        clear hp2 hg2
        go_wp2_with fail
        go_roundw
        case rel =>
          have a1 := Hd.out; have a2 := Ht.out; have a3 := Hdl.out; have a4 := Hj.out; have a5 := Hi.out; have a6 := Hp.out; have a7 := HL.out
          refine ⟨A ++ V, U2, U1, B, by rw [a3], by rw [a2], by omega, by omega, ?_, by omega, ?_, Htg2.out, Hp2.out, Hg2.out⟩
          · simp only [List.length_append] at a6 ⊢; omega
          · unfold rtL at a7 ⊢; simp only [List.length_append, List.length_nil] at a7 a6 ⊢; omega
        case measure =>
          have a1 := Hd.out
          simp [intOf]; omega
      · have hV' : V = V.take (j - i) ++ V.drop (j - i) := (List.take_append_drop _ _).symm
        have hc := swapRange_any g N cap p (m + (j - i)) i rest (P ++ A) U (V.take (j - i)) (V.drop (j - i)) (B ++ Q) cmp wr (by have := Hpk.out; unfold rtL at this; rw [hV'] at this; simpa only [List.append_assoc, List.nil_append] using this) Hi.out (by rw [List.length_drop, Hj.out]; omega) Hp.out
          (by rw [Hp.out, List.length_take, Hi.out, Hj.out]; omega) (by have := HL.out; unfold rtL at this; rw [hV'] at this; simpa only [List.append_assoc, List.nil_append] using this) hN2
        have Hc := Lib.hid hc
        have Hd : Hid ((V.drop (j - i)).length = i) := Lib.hid (by rw [List.length_drop, Hj.out]; omega)
        have Ht : Hid ((V.take (j - i)).length = j - i) := Lib.hid (by rw [List.length_take, Hj.out]; omega)
        have Htg2 : Hid (Y ++ X = A ++ (V.take (j - i) ++ V.drop (j - i)) ++ (U ++ B)) := Lib.hid (by rw [Htgt.out, List.take_append_drop]; simp only [List.append_assoc])
        have hjI : ¬ ((j : Int) < (i : Int)) := by omega
        obtain ⟨q, hq⟩ : ∃ q, m + (j - i) = q := ⟨_, rfl⟩
        have e2 : (m : Int) + (j : Int) - (i : Int) = (q : Int) := by omega
        obtain ⟨r, hr⟩ : ∃ r, j - i = r := ⟨_, rfl⟩
        have e3 : (j : Int) - (i : Int) = (r : Int) := by omega
        rw [hq] at Hc
        rw [hr] at Ht Hd Htg2 Hc
        have hrij : r + i = j := by omega
        have hr1 : 1 ≤ r := by omega
        clear hc hij hV' hq hr
        generalize V.drop r = V2 at *
        generalize V.take r = V1 at *
        go_wp2_with fail
        refine (Hc.out).mono ?_
        rintro e w2 ⟨rfl, hp2, hg2⟩
        have Hp2 : Hid (PkAt w2 g rest (rtL P A V2 V1 (U ++ B) Q)) := Lib.hid (by unfold rtL; simpa only [List.append_assoc, List.nil_append] using hp2)
        have Hg2 := Lib.hid (Hgr.out.trans hg2)
        clear hp2 hg2
        go_wp2_with fail
        go_roundw
        case rel =>
          have a1 := Hd.out; have a2 := Ht.out; have a4 := Hj.out; have a5 := Hi.out; have a6 := Hp.out; have a7 := HL.out
          refine ⟨A, V2, V1, U ++ B, by rw [a1], by rw [a2], by omega, by omega, by rw [a6, a1]; omega, by omega, ?_, Htg2.out, Hp2.out, Hg2.out⟩
          unfold rtL at a7 ⊢; simp only [List.length_append, List.length_nil] at a7 a6 ⊢; omega
        case measure => simp [intOf]; omega
end Go.Proofs.Ytdponlnfdjfljaa.Weigh
