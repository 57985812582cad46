/- texts joined: SlcIns SlcSym SlcSym3 SlcStab SlcSort CdsSort Read Pairs CdsCodes KMap CdsBook. -/
import Derived.Test.YthpdcnjaodjjmaaInflateUnpackQ4
import Derived.Deep.CutRange
import Derived.Test.YthpdcnjaodjjmaaInflateUnpackQ1
import Derived.Deep.Slices
import Derived.BigQuiet
import Derived.Maps.OwnOps
/- sort.insertionSort_func at rows of places. -/
namespace Go.Proofs.Ythpdcnjaodjjmaa.Slc
open Go Go.RowKit Go.Proofs.Ythpdcnjaodjjmaa Go.Proofs.Ythpdcnjaodjjmaa.SP
set_option linter.unusedVariables false

def isL (P S' : List TE) (x : TE) (R : List TE) (u : Nat) : List TE := (P ++ S'.take u) ++ x :: (S'.drop u ++ R)
theorem is_pre (P S' : List TE) (x : TE) (R : List TE) (u : Nat) (h : u < S'.length) : isL P S' x R (u + 1) = (P ++ S'.take u) ++ S'[u] :: ([] ++ x :: (S'.drop (u + 1) ++ R)) := by
  unfold isL
  rw [List.take_succ_eq_append_getElem h]
  simp only [List.append_assoc, List.cons_append, List.nil_append]
theorem is_post (P S' : List TE) (x : TE) (R : List TE) (u : Nat) (h : u < S'.length) : isL P S' x R u = (P ++ S'.take u) ++ x :: ([] ++ S'[u] :: (S'.drop (u + 1) ++ R)) := by
  unfold isL
  rw [List.drop_eq_getElem_cons h]
  simp only [List.append_assoc, List.cons_append, List.nil_append]
theorem ins_sorted (S' : List TE) (x : TE) (u : Nat) (hu : u ≤ S'.length) (hs : S'.Pairwise (lexP ekey)) (ht : ∀ y ∈ S', y.2 < x.2) (h1 : u = 0 ∨ ∃ h : u - 1 < S'.length, S'[u - 1].1.1 ≤ x.1.1) (h2 : u = S'.length ∨ ∃ h : u < S'.length, x.1.1 < S'[u].1.1) :
    (S'.take u ++ x :: S'.drop u).Pairwise (lexP ekey) := by
  refine put_sorted ekey x S' u hu hs ?_ ?_
  · rcases h1 with h | ⟨h, k⟩
    · exact .inl h
    · refine .inr ⟨h, ?_⟩
      have := ht _ (List.getElem_mem h)
      unfold lexP ekey; omega
  · rcases h2 with h | ⟨h, k⟩
    · exact .inl h
    · exact .inr ⟨h, .inl k⟩
theorem ins_perm (S' T : List TE) (x : TE) (u : Nat) (h : S'.Perm T) : (S'.take u ++ x :: S'.drop u).Perm (T ++ [x]) :=
  (put_perm x S' u).trans ((h.cons x).trans (List.perm_append_singleton x T).symm)
set_option maxRecDepth 100000 in
set_option maxHeartbeats 4000000 in
theorem insertion_any (g gv N cap a b : Nat) (rest : List Value) (P S Q : List TE) (w : World) (h : PkAt w g rest (P ++ S ++ Q)) (hv : Var w g gv N cap) (ha : P.length = a) (hb : a + S.length = b) (hr : Rise S) (hN : (P ++ S ++ Q).length = N) (hN2 : N ≤ 1000000) :
    Calls Try.prog 131 #[dataV g gv N cap, .int .i64 (a : Int), .int .i64 (b : Int)] w fun e w' => e = .returned (.tuple #[]) ∧ (∃ S', PkAt w' g rest (P ++ S' ++ Q) ∧ S'.Perm S ∧ S'.Pairwise (lexP ekey)) ∧ w.grownBy w' (some g) := by
  have hN3 : P.length + S.length + Q.length = N := by rw [← hN]; simp; omega
  have H := Lib.hid (Mm.start h hv hN hN2)
  have HP := Lib.hid ha
  have HR := Lib.hid hr
  have HS := Lib.hid hb
  have hbN : b ≤ N := by omega
  have hab : a ≤ b := by omega
  clear h hN hN3 ha hr hb hv
  unfold dataV
  go_enter Try.func131, Try.ntmps131
  go_wp2_with fail
  generalize hw1 : w.alloc (.cells #[lessV gv, swapV g N cap] 183) = w1 at *
  generalize hbx : w.heap.size = bx at *
  have Hw1 := Lib.hid hw1
  clear hw1 hbx
  go_loopw [6] (fun i wr => ∃ (t ti : Nat) (S' : List TE), a + t = ti ∧ i = .int .i64 (ti : Int) ∧ 1 ≤ t ∧ (t ≤ S.length ∨ t = 1) ∧ S'.Perm (S.take t) ∧ S'.Pairwise (lexP ekey) ∧ Mm w1 wr bx g gv N cap rest (P ++ S' ++ (S.drop t ++ Q))) (fun i _ => b - (intOf i).toNat)
  case atStart =>
    refine ⟨1, a + 1, S.take 1, rfl, by go_num, Nat.le_refl _, .inr rfl, List.Perm.refl _, ?_, ?_⟩
    · rcases S with _ | ⟨x, S⟩
      · exact List.Pairwise.nil
      · exact List.pairwise_singleton _ _
    · have := H.out
      rw [List.append_assoc, ← List.append_assoc (S.take 1), List.take_append_drop, ← List.append_assoc]; exact this
  case round =>
    obtain ⟨t, ti, S', hti, rfl, ht1, htS, hperm, hsort, hpk⟩ := hrel
    have Hpk := Lib.hid hpk
    have Hperm := Lib.hid hperm
    have Hsort := Lib.hid hsort
    have Hti := Lib.hid hti
    clear hpk hperm hsort
    by_cases hlt : ti < b
    · have htl : t < S.length := by have := HS.out; omega
      have HSl : Hid (S'.length = t) := Lib.hid (by rw [Hperm.out.length_eq, List.length_take]; omega)
      have Htag : Hid (∀ y ∈ S', y.2 < S[t].2) := Lib.hid (fun y hy => by
        have h1 := Hperm.out.mem_iff.1 hy
        obtain ⟨i, hi, rfl⟩ := List.mem_iff_getElem.1 h1
        rw [List.length_take] at hi
        rw [List.getElem_take]
        exact List.pairwise_iff_getElem.1 HR.out i t (by omega) htl (by omega))
      have Hst : Hid (P ++ S' ++ (S.drop t ++ Q) = isL P S' S[t] (S.drop (t + 1) ++ Q) t) := Lib.hid (by
        unfold isL
        rw [List.drop_eq_getElem_cons htl, List.take_of_length_le (Nat.le_of_eq HSl.out), List.drop_of_length_le (Nat.le_of_eq HSl.out)]
        simp only [List.append_assoc, List.cons_append, List.nil_append])
      have Htk : Hid (S.take (t + 1) = S.take t ++ [S[t]]) := Lib.hid (List.take_succ_eq_append_getElem htl)
      rw [Hst.out] at Hpk
      generalize S[t] = x at *
      clear Hst
      go_wp2_with fail
      go_loopw [7] (fun j wr => ∃ (u uj : Nat), a + u = uj ∧ j = .int .i64 (uj : Int) ∧ u ≤ t ∧ (u = S'.length ∨ ∃ h : u < S'.length, x.1.1 < S'[u].1.1) ∧ Mm w1 wr bx g gv N cap rest (isL P S' x (S.drop (t + 1) ++ Q) u)) (fun j _ => (intOf j).toNat)
      case atStart => exact ⟨t, ti, Hti.out, rfl, Nat.le_refl _, .inl HSl.out.symm, Hpk.out⟩
      case round =>
        obtain ⟨u, uj, huj, rfl, hut, hux, hpk⟩ := hrel
        have Hux := Lib.hid hux
        have c0 := hpk.c0
        have c1 := hpk.c1
        unfold lessV at c0
        unfold swapV at c1
        clear hux
        rcases u with _ | u
        · have d0 : decide (a < uj) = false := by simp; omega
          have d1 : ¬ (a : Int) < (uj : Int) := by omega
          have Hpk2 := Lib.hid hpk
          have Huj := Lib.hid huj
          clear hpk huj
          have hpr : Hid (uj ≤ ti) := Lib.hid (by have := Huj.out; have := Hti.out; omega)
          go_wp2_with fail
          go_roundw
          case rel =>
            have a0 := HSl.out
            have hu0 : (0 : Nat) ≤ S'.length := Nat.zero_le _
            have hso := ins_sorted S' x 0 hu0 Hsort.out Htag.out (.inl rfl) Hux.out
            have hpe := ins_perm S' _ x 0 Hperm.out
            rw [← Htk.out] at hpe
            exact ⟨t + 1, ti + 1, _, by omega, by go_num, by omega, .inl (by omega), hpe, hso, by have := Hpk2.out; unfold isL at this; simpa only [List.append_assoc, List.cons_append] using this⟩
          case measure => simp [intOf]; omega
        · obtain ⟨jm, hjm⟩ : ∃ jm, a + u = jm := ⟨_, rfl⟩
          have hju : uj = jm + 1 := by omega
          have hul : u < S'.length := by rw [HSl.out]; omega
          rw [is_pre P S' x _ u hul] at hpk
          have hX : jm = (P ++ S'.take u).length := by rw [List.length_append, List.length_take, HP.out, HSl.out]; omega
          have hY : uj = (P ++ S'.take u).length + 1 + ([] : List TE).length := by rw [← hX, hju]; rfl
          have e1 : (uj : Int) - 1 = (jm : Int) := by omega
          have hw : IntKind.i64.wrap (jm : Int) = (jm : Int) := IntWalk.i64_in _ (by omega)
          have hpr : Hid (uj ≤ ti ∧ jm + 1 = uj ∧ a ≤ jm) := Lib.hid (by omega)
          have ha2 : (a : Int) < (uj : Int) := by omega
          have hpost := is_post P S' x (S.drop (t + 1) ++ Q) u hul
          have Hpk3 := Lib.hid hpk
          obtain ⟨y, hy⟩ : ∃ y, S'[u] = y := ⟨_, rfl⟩
          rw [hy] at hpost Hpk3
          have Hy : Hid (∀ h : u < S'.length, S'[u] = y) := Lib.hid (fun _ => hy)
          have Hpost := Lib.hid hpost
          have HX := Lib.hid hX
          have HY := Lib.hid hY
          have Huj : Hid (a + (u + 1) = uj ∧ a + u = jm) := Lib.hid ⟨huj, hjm⟩
          have HL := Lib.hid (Hpk3.out.less' HX.out HY.out)
          clear hy hpost hpk hX hY huj hjm hju
          by_cases hc : x.1.1 < y.1.1
          · have hb1 : decide (x.1.1 < y.1.1) = true := by simp [hc]
            rw [hb1] at HL
            clear hb1
            go_wp2_with fail
            refine (HL.out).mono ?_
            rintro e w3 ⟨rfl, hm3⟩
            have c1 := hm3.c1
            unfold swapV at c1
            obtain ⟨w9, hsw, hm9⟩ := hm3.swap' HX.out HY.out
            rw [← Hpost.out] at hm9
            have HM9 := Lib.hid hm9
            clear hm3 hm9 c0
            go_wp2_with fail
            go_roundw
            case rel => exact ⟨u, jm, Huj.out.2, rfl, by omega, .inr ⟨hul, by rw [Hy.out]; exact hc⟩, HM9.out⟩
            case measure => simp [intOf]; omega
          · have hb1 : decide (x.1.1 < y.1.1) = false := by simp; omega
            rw [hb1] at HL
            have Hold : Hid (∀ W, Mm w1 W bx g gv N cap rest (P ++ S'.take u ++ y :: ([] ++ x :: (S'.drop (u + 1) ++ (S.drop (t + 1) ++ Q)))) → Mm w1 W bx g gv N cap rest (isL P S' x (S.drop (t + 1) ++ Q) (u + 1))) := Lib.hid (fun W hW => by rw [is_pre P S' _ _ u hul, Hy.out]; exact hW)
            clear hb1
            go_wp2_with fail
            refine (HL.out).mono ?_
            rintro e w3 ⟨rfl, hm3⟩
            have HM3 := Lib.hid (Hold.out _ hm3)
            clear hm3 Hold
            go_wp2_with fail
            go_roundw
            case rel =>
              have a0 := HSl.out
              have hu0 : u + 1 ≤ S'.length := hul
              have hso := ins_sorted S' x (u + 1) hu0 Hsort.out Htag.out (.inr ⟨hul, by rw [show S'[u + 1 - 1] = S'[u] from rfl, Hy.out]; omega⟩) Hux.out
              have hpe := ins_perm S' _ x (u + 1) Hperm.out
              rw [← Htk.out] at hpe
              exact ⟨t + 1, ti + 1, _, by omega, by go_num, by omega, .inl (by omega), hpe, hso, by have := HM3.out; unfold isL at this; simpa only [List.append_assoc, List.cons_append] using this⟩
            case measure => simp [intOf]; omega
    · have hall : S.length ≤ t := by have := HS.out; omega
      have Hp1 : Hid (S'.Perm S) := Lib.hid (by have := Hperm.out; rwa [List.take_of_length_le hall] at this)
      have Hpk1 : Hid (Mm w1 wr bx g gv N cap rest (P ++ S' ++ Q)) := Lib.hid (by have := Hpk.out; rwa [List.drop_of_length_le hall, List.nil_append] at this)
      go_wp2_with fail
      go_end0
      exact ⟨rfl, ⟨S', Hpk1.out.pk, Hp1.out, Hsort.out⟩, (Hw1.out ▸ Hpk1.out : Mm (w.alloc _) _ _ _ _ _ _ _ _).done⟩
end Go.Proofs.Ythpdcnjaodjjmaa.Slc

/- sort.symMerge_func at rows of places: one ahead; one behind. -/
namespace Go.Proofs.Ythpdcnjaodjjmaa.Slc
open Go Go.RowKit Go.Proofs.Ythpdcnjaodjjmaa Go.Proofs.Ythpdcnjaodjjmaa.SP
set_option linter.unusedVariables false

theorem put_up (x : TE) (R : List TE) (t : Nat) (ht : t ≤ R.length) (hs : R.Pairwise (lexP ekey)) (htag : ∀ y ∈ R, x.2 < y.2) (h1 : t = 0 ∨ ∃ h : t - 1 < R.length, R[t - 1].1.1 < x.1.1) (h2 : t = R.length ∨ ∃ h : t < R.length, x.1.1 ≤ R[t].1.1) :
    (R.take t ++ x :: R.drop t).Pairwise (lexP ekey) := by
  refine put_sorted ekey x R t ht hs ?_ ?_
  · rcases h1 with h | ⟨h, k⟩
    · exact .inl h
    · exact .inr ⟨h, .inl k⟩
  · rcases h2 with h | ⟨h, k⟩
    · exact .inl h
    · refine .inr ⟨h, ?_⟩
      have := htag _ (List.getElem_mem h)
      unfold lexP ekey; omega
theorem up_at (P R Q : List TE) (x : TE) (k : Nat) (h : k < R.length) : P ++ [x] ++ (R ++ Q) = P ++ x :: (R.take k ++ R[k] :: (R.drop (k + 1) ++ Q)) := by
  have : R = R.take k ++ R[k] :: R.drop (k + 1) := by rw [← List.drop_eq_getElem_cons h, List.take_append_drop]
  conv => lhs; rw [this]
  simp only [List.append_assoc, List.cons_append, List.nil_append]
def upL (P R Q : List TE) (x : TE) (s : Nat) : List TE := (P ++ R.take s) ++ x :: (R.drop s ++ Q)
theorem up_pre (P R Q : List TE) (x : TE) (s : Nat) (h : s < R.length) : upL P R Q x s = (P ++ R.take s) ++ x :: ([] ++ R[s] :: (R.drop (s + 1) ++ Q)) := by
  unfold upL
  rw [List.drop_eq_getElem_cons h]
  simp only [List.cons_append, List.nil_append]
theorem up_post (P R Q : List TE) (x : TE) (s : Nat) (h : s < R.length) : upL P R Q x (s + 1) = (P ++ R.take s) ++ R[s] :: ([] ++ x :: (R.drop (s + 1) ++ Q)) := by
  unfold upL
  rw [List.take_succ_eq_append_getElem h]
  simp only [List.append_assoc, List.cons_append, List.nil_append]
set_option maxRecDepth 100000 in
set_option maxHeartbeats 8000000 in
theorem sym_up (g gv N cap a m b : Nat) (rest : List Value) (P R Q : List TE) (x : TE) (w : World) (h : PkAt w g rest (P ++ [x] ++ (R ++ Q))) (hv : Var w g gv N cap) (ha : P.length = a) (hm : a + 1 = m) (hb : m + R.length = b) (hR : 1 ≤ R.length)
    (hs : R.Pairwise (lexP ekey)) (htag : ∀ y ∈ R, x.2 < y.2) (hN : (P ++ [x] ++ (R ++ Q)).length = N) (hN2 : N ≤ 1000000) :
    Calls Try.prog 132 #[dataV g gv N cap, .int .i64 (a : Int), .int .i64 (m : Int), .int .i64 (b : Int)] w fun e w' => e = .returned (.tuple #[]) ∧ (∃ S', PkAt w' g rest (P ++ S' ++ Q) ∧ S'.Perm ([x] ++ R) ∧ S'.Pairwise (lexP ekey)) ∧ w.grownBy w' (some g) := by
  have hN3 : P.length + 1 + R.length + Q.length = N := by rw [← hN]; simp; omega
  have H := Lib.hid (Mm.start h hv hN hN2)
  have HP := Lib.hid ha
  have Hs := Lib.hid hs
  have Htag := Lib.hid htag
  have Hb := Lib.hid hb
  have hbN : b ≤ N := by omega
  have hmb : m < b := by omega
  have ham : a < m := by omega
  have e1 : (m : Int) - (a : Int) = 1 := by omega
  have Hm := Lib.hid hm
  clear h hN hN3 ha hs htag hb hm hR hv
  unfold dataV
  go_enter Try.func132, Try.ntmps132
  go_wp2_with fail
  generalize hw1 : w.alloc (.cells #[lessV gv, swapV g N cap] 183) = w1 at *
  generalize hbx : w.heap.size = bx at *
  have Hw1 := Lib.hid hw1
  clear hw1 hbx
  clear e1
  go_loopw [8, 9] (fun iv jv wr => ∃ i j : Nat, iv = .int .i64 (i : Int) ∧ jv = .int .i64 (j : Int) ∧ m ≤ i ∧ i ≤ j ∧ j ≤ b ∧ (i = m ∨ ∃ h : i - m - 1 < R.length, R[i - m - 1].1.1 < x.1.1) ∧ (j = b ∨ ∃ h : j - m < R.length, x.1.1 ≤ R[j - m].1.1) ∧
    Mm w1 wr bx g gv N cap rest (P ++ [x] ++ (R ++ Q))) (fun iv jv _ => (intOf jv - intOf iv).toNat)
  case atStart => exact ⟨m, b, rfl, rfl, Nat.le_refl _, by omega, Nat.le_refl _, .inl rfl, .inl rfl, H.out⟩
  case round =>
    obtain ⟨i, j, rfl, rfl, hmi, hij, hjb, hI, hJ, hpk⟩ := hrel
    have HI := Lib.hid hI
    have HJ := Lib.hid hJ
    clear hI hJ
    have c0 := hpk.c0
    unfold lessV at c0
    by_cases hlt : i < j
    · obtain ⟨q, hq⟩ : ∃ q, q = (i + j) / 2 := ⟨_, rfl⟩
      have hqi : i ≤ q := by omega
      have hqj : q < j := by omega
      have hql : q - m < R.length := by have := Hb.out; omega
      have Hat := Lib.hid (up_at P R Q x (q - m) hql)
      have HX : Hid (a = P.length) := Lib.hid HP.out.symm
      have HY : Hid (q = P.length + 1 + (R.take (q - m)).length) := Lib.hid (by rw [List.length_take, HP.out]; have := Hm.out; omega)
      obtain ⟨y, hy⟩ : ∃ y, R[q - m] = y := ⟨_, rfl⟩
      have Hy : Hid (∀ h : q - m < R.length, R[q - m] = y) := Lib.hid (fun _ => hy)
      rw [Hat.out, hy] at hpk
      have HL := Lib.hid (hpk.less' HX.out HY.out)
      have Hback : Hid (∀ W, Mm w1 W bx g gv N cap rest (P ++ x :: (R.take (q - m) ++ y :: (R.drop (q - m + 1) ++ Q))) → Mm w1 W bx g gv N cap rest (P ++ [x] ++ (R ++ Q))) := Lib.hid (fun W hW => by rw [Hat.out, hy]; exact hW)
      have e2 : ((i : Int) + (j : Int)) / 2 = (q : Int) := by omega
      clear hpk hy hq
      by_cases hc : y.1.1 < x.1.1
      · have hb1 : decide (y.1.1 < x.1.1) = true := by simp [hc]
        rw [hb1] at HL
        clear hb1
        go_wp2_with fail
        refine (HL.out).mono ?_
        rintro e w3 ⟨rfl, hm3⟩
        have HM3 := Lib.hid (Hback.out _ hm3)
        clear hm3
        go_wp2_with fail
        go_roundw
        case rel => exact ⟨q + 1, j, by go_num, rfl, by omega, by omega, hjb, .inr ⟨by omega, by
          have e9 : q + 1 - m - 1 = q - m := by omega
          have := Hy.out hql
          simp only [e9, this]; exact hc⟩, HJ.out, HM3.out⟩
        case measure => simp [intOf]; omega
      · have hb1 : decide (y.1.1 < x.1.1) = false := by simp; omega
        rw [hb1] at HL
        clear hb1
        go_wp2_with fail
        refine (HL.out).mono ?_
        rintro e w3 ⟨rfl, hm3⟩
        have HM3 := Lib.hid (Hback.out _ hm3)
        clear hm3
        go_wp2_with fail
        go_roundw
        case rel => exact ⟨i, q, rfl, rfl, hmi, hqi, by omega, HI.out, .inr ⟨hql, by rw [Hy.out hql]; omega⟩, HM3.out⟩
        case measure => simp [intOf]; omega
    · obtain rfl : i = j := by omega
      obtain ⟨t, ht⟩ : ∃ t, a + t = i - 1 := ⟨i - 1 - a, by have := Hm.out; omega⟩
      have htm : i - m = t := by have := Hm.out; omega
      have htR : t ≤ R.length := by have := Hb.out; omega
      have hso : (R.take t ++ x :: R.drop t).Pairwise (lexP ekey) := by
        refine put_up _ R t htR Hs.out Htag.out ?_ ?_
        · rcases HI.out with h | ⟨h, k⟩
          · left; omega
          · right; simp only [htm] at h k; exact ⟨h, k⟩
        · rcases HJ.out with h | ⟨h, k⟩
          · left; have := Hb.out; omega
          · right; simp only [htm] at h k; exact ⟨h, k⟩
      have Hso := Lib.hid hso
      have Hpk : Hid (Mm w1 wr bx g gv N cap rest (upL P R Q x 0)) := Lib.hid (by
        have e : upL P R Q x 0 = P ++ [x] ++ (R ++ Q) := by simp [upL]
        rw [e]; exact hpk)
      have Hfin : Hid (upL P R Q x t = P ++ (R.take t ++ x :: R.drop t) ++ Q) := Lib.hid (by unfold upL; simp only [List.append_assoc, List.cons_append])
      have Hpe : Hid ((R.take t ++ x :: R.drop t).Perm ([x] ++ R)) := Lib.hid (put_perm _ R t)
      have Ht := Lib.hid ht
      obtain ⟨i1, hi1⟩ : ∃ i1, i = i1 + 1 := ⟨i - 1, by omega⟩
      have e3 : (i : Int) - 1 = (i1 : Int) := by omega
      have Hi1 : Hid (a + t = i1) := Lib.hid (by omega)
      have hi1N : i1 < N := by omega
      clear hpk hso ht htm HI HJ hi1 c0
      go_wp2_with fail
      go_loopw [11] (fun kv wr => ∃ s k : Nat, kv = .int .i64 (k : Int) ∧ a + s = k ∧ s ≤ t ∧ Mm w1 wr bx g gv N cap rest (upL P R Q x s)) (fun kv _ => i1 - (intOf kv).toNat)
      case atStart => exact ⟨0, a, rfl, rfl, Nat.zero_le _, Hpk.out⟩
      case round =>
        obtain ⟨s, k, rfl, hk, hst, hpk⟩ := hrel
        have Hk := Lib.hid hk
        have c1 := hpk.c1
        unfold swapV at c1
        by_cases hlt : k < i1
        · have hsl : s < R.length := by have := Hi1.out; omega
          have HX : Hid (k = (P ++ R.take s).length) := Lib.hid (by rw [List.length_append, List.length_take, HP.out]; omega)
          have HY : Hid (k + 1 = (P ++ R.take s).length + 1 + ([] : List TE).length) := Lib.hid (by rw [← HX.out]; rfl)
          rw [up_pre P R Q _ s hsl] at hpk
          have hpost := up_post P R Q x s hsl
          obtain ⟨w9, hsw, hm9⟩ := hpk.swap HX.out HY.out
          rw [← hpost] at hm9
          have HM9 := Lib.hid hm9
          have q1 : ((k + 1 : Nat) : Int) = (k : Int) + 1 := by omega
          rw [q1] at hsw
          clear hpk hpost hm9 q1
          go_wp2_with fail
          go_roundw
          case rel => exact ⟨s + 1, k + 1, by go_num, by have := Hk.out; omega, by have := Hi1.out; omega, HM9.out⟩
          case measure => simp [intOf]; omega
        · obtain rfl : s = t := by have := Hi1.out; omega
          obtain rfl : k = i1 := by have := Hi1.out; omega
          rw [Hfin.out] at hpk
          have Hpk2 := Lib.hid hpk
          clear hpk
          go_wp2_with fail
          refine bodyPost_ret (results_none rfl _ _ _) rfl ?_
          exact ⟨rfl, ⟨_, Hpk2.out.pk, Hpe.out, Hso.out⟩, (Hw1.out ▸ Hpk2.out : Mm (w.alloc _) _ _ _ _ _ _ _ _).done⟩
theorem dn_at (P L Q : List TE) (x : TE) (k : Nat) (h : k < L.length) : P ++ L ++ ([x] ++ Q) = (P ++ L.take k) ++ L[k] :: (L.drop (k + 1) ++ x :: Q) := by
  have : L = L.take k ++ L[k] :: L.drop (k + 1) := by rw [← List.drop_eq_getElem_cons h, List.take_append_drop]
  conv => lhs; rw [this]
  simp only [List.append_assoc, List.cons_append, List.nil_append]
set_option maxRecDepth 100000 in
set_option maxHeartbeats 8000000 in
theorem sym_dn (g gv N cap a m b : Nat) (rest : List Value) (P L Q : List TE) (x : TE) (w : World) (h : PkAt w g rest (P ++ L ++ ([x] ++ Q))) (hv : Var w g gv N cap) (ha : P.length = a) (hm : a + L.length = m) (hb : m + 1 = b) (hR : 2 ≤ L.length)
    (hs : L.Pairwise (lexP ekey)) (htag : ∀ y ∈ L, y.2 < x.2) (hN : (P ++ L ++ ([x] ++ Q)).length = N) (hN2 : N ≤ 1000000) :
    Calls Try.prog 132 #[dataV g gv N cap, .int .i64 (a : Int), .int .i64 (m : Int), .int .i64 (b : Int)] w fun e w' => e = .returned (.tuple #[]) ∧ (∃ S', PkAt w' g rest (P ++ S' ++ Q) ∧ S'.Perm (L ++ [x]) ∧ S'.Pairwise (lexP ekey)) ∧ w.grownBy w' (some g) := by
  have hN3 : P.length + L.length + 1 + Q.length = N := by rw [← hN]; simp; omega
  have H := Lib.hid (Mm.start h hv hN hN2)
  have HP := Lib.hid ha
  have Hs := Lib.hid hs
  have Htag := Lib.hid htag
  have hbN : b ≤ N := by omega
  have hmb : m < b := by omega
  have ham : a < m := by omega
  have e1 : (m : Int) - (a : Int) = ((L.length : Nat) : Int) := by omega
  have e0 : (((L.length : Nat) : Int) == 1) = false := by simp; omega
  have e2 : (b : Int) - (m : Int) = 1 := by omega
  have Hm := Lib.hid hm
  clear h hN hN3 ha hs htag hb hm hR hv
  generalize hll : L.length = ll at *
  have Hll := Lib.hid hll
  clear hll
  unfold dataV
  go_enter Try.func132, Try.ntmps132
  go_wp2_with fail
  generalize hw1 : w.alloc (.cells #[lessV gv, swapV g N cap] 183) = w1 at *
  generalize hbx : w.heap.size = bx at *
  have Hw1 := Lib.hid hw1
  clear hw1 hbx
  clear e1 e0 e2
  go_loopw [12, 13] (fun iv jv wr => ∃ i j : Nat, iv = .int .i64 (i : Int) ∧ jv = .int .i64 (j : Int) ∧ a ≤ i ∧ i ≤ j ∧ j ≤ m ∧ (i = a ∨ ∃ h : i - a - 1 < L.length, L[i - a - 1].1.1 ≤ x.1.1) ∧ (j = m ∨ ∃ h : j - a < L.length, x.1.1 < L[j - a].1.1) ∧
    Mm w1 wr bx g gv N cap rest (P ++ L ++ ([x] ++ Q))) (fun iv jv _ => (intOf jv - intOf iv).toNat)
  case atStart => exact ⟨a, m, rfl, rfl, Nat.le_refl _, by omega, Nat.le_refl _, .inl rfl, .inl rfl, H.out⟩
  case round =>
    obtain ⟨i, j, rfl, rfl, hmi, hij, hjb, hI, hJ, hpk⟩ := hrel
    have HI := Lib.hid hI
    have HJ := Lib.hid hJ
    clear hI hJ
    have c0 := hpk.c0
    unfold lessV at c0
    by_cases hlt : i < j
    · obtain ⟨q, hq⟩ : ∃ q, q = (i + j) / 2 := ⟨_, rfl⟩
      have hqi : i ≤ q := by omega
      have hqj : q < j := by omega
      have hql : q - a < L.length := by have := Hm.out; have := Hll.out; omega
      have Hat := Lib.hid (dn_at P L Q x (q - a) hql)
      have HX : Hid (q = (P ++ L.take (q - a)).length) := Lib.hid (by rw [List.length_append, List.length_take, HP.out]; omega)
      have HY : Hid (m = (P ++ L.take (q - a)).length + 1 + (L.drop (q - a + 1)).length) := Lib.hid (by rw [← HX.out, List.length_drop]; have := Hm.out; have := Hll.out; omega)
      obtain ⟨y, hy⟩ : ∃ y, L[q - a] = y := ⟨_, rfl⟩
      have Hy : Hid (∀ h : q - a < L.length, L[q - a] = y) := Lib.hid (fun _ => hy)
      rw [Hat.out, hy] at hpk
      have HL := Lib.hid (hpk.less' HX.out HY.out)
      have Hback : Hid (∀ W, Mm w1 W bx g gv N cap rest (P ++ L.take (q - a) ++ y :: (L.drop (q - a + 1) ++ x :: Q)) → Mm w1 W bx g gv N cap rest (P ++ L ++ ([x] ++ Q))) := Lib.hid (fun W hW => by rw [Hat.out, hy]; exact hW)
      have e2 : ((i : Int) + (j : Int)) / 2 = (q : Int) := by omega
      clear hpk hy hq
      by_cases hc : x.1.1 < y.1.1
      · have hb1 : decide (x.1.1 < y.1.1) = true := by simp [hc]
        rw [hb1] at HL
        clear hb1
        go_wp2_with fail
        refine (HL.out).mono ?_
        rintro e w3 ⟨rfl, hm3⟩
        have HM3 := Lib.hid (Hback.out _ hm3)
        clear hm3
        go_wp2_with fail
        go_roundw
        case rel => exact ⟨i, q, rfl, rfl, hmi, hqi, by omega, HI.out, .inr ⟨hql, by rw [Hy.out hql]; exact hc⟩, HM3.out⟩
        case measure => simp [intOf]; omega
      · have hb1 : decide (x.1.1 < y.1.1) = false := by simp; omega
        rw [hb1] at HL
        clear hb1
        go_wp2_with fail
        refine (HL.out).mono ?_
        rintro e w3 ⟨rfl, hm3⟩
        have HM3 := Lib.hid (Hback.out _ hm3)
        clear hm3
        go_wp2_with fail
        go_roundw
        case rel => exact ⟨q + 1, j, by go_num, rfl, by omega, by omega, hjb, .inr ⟨by omega, by
          have e9 : q + 1 - a - 1 = q - a := by omega
          have := Hy.out hql
          simp only [e9, this]; omega⟩, HJ.out, HM3.out⟩
        case measure => simp [intOf]; omega
    · obtain rfl : i = j := by omega
      obtain ⟨t, ht⟩ : ∃ t, a + t = i := ⟨i - a, by omega⟩
      have htm : i - a = t := by omega
      have htR : t ≤ L.length := by have := Hm.out; have := Hll.out; omega
      have hso : (L.take t ++ x :: L.drop t).Pairwise (lexP ekey) := by
        refine ins_sorted L _ t htR Hs.out Htag.out ?_ ?_
        · rcases HI.out with h | ⟨h, k⟩
          · left; omega
          · right; simp only [htm] at h k; exact ⟨h, k⟩
        · rcases HJ.out with h | ⟨h, k⟩
          · left; have := Hm.out; have := Hll.out; omega
          · right; simp only [htm] at h k; exact ⟨h, k⟩
      have Hso := Lib.hid hso
      have Hpk : Hid (Mm w1 wr bx g gv N cap rest (isL P L x Q L.length)) := Lib.hid (by
        have e : isL P L x Q L.length = P ++ L ++ ([x] ++ Q) := by simp [isL]
        rw [e]; exact hpk)
      have Hfin : Hid (isL P L x Q t = P ++ (L.take t ++ x :: L.drop t) ++ Q) := Lib.hid (by unfold isL; simp only [List.append_assoc, List.cons_append])
      have Hpe : Hid ((L.take t ++ x :: L.drop t).Perm (L ++ [x])) := Lib.hid (ins_perm L L _ t (List.Perm.refl _))
      have Ht := Lib.hid ht
      clear hpk hso ht htm HI HJ c0
      go_wp2_with fail
      go_loopw [15] (fun kv wr => ∃ s k : Nat, kv = .int .i64 (k : Int) ∧ a + s = k ∧ t ≤ s ∧ s ≤ L.length ∧ Mm w1 wr bx g gv N cap rest (isL P L x Q s)) (fun kv _ => (intOf kv).toNat)
      case atStart => exact ⟨L.length, m, rfl, by rw [Hll.out]; exact Hm.out, htR, Nat.le_refl _, Hpk.out⟩
      case round =>
        obtain ⟨s, k, rfl, hk, hst, hsL, hpk⟩ := hrel
        have c1 := hpk.c1
        unfold swapV at c1
        by_cases hlt : i < k
        · rcases s with _ | s
          · exfalso; have := Ht.out; omega
          obtain ⟨k1, hk1⟩ : ∃ k1, a + s = k1 := ⟨_, rfl⟩
          have hsl : s < L.length := by omega
          have Hk : Hid (k = k1 + 1 ∧ a + s = k1) := Lib.hid (by omega)
          have e4 : (k : Int) - 1 = (k1 : Int) := by omega
          have HX : Hid (k1 = (P ++ L.take s).length) := Lib.hid (by rw [List.length_append, List.length_take, HP.out]; omega)
          have HY : Hid (k = (P ++ L.take s).length + 1 + ([] : List TE).length) := Lib.hid (by rw [← HX.out]; exact Hk.out.1)
          rw [is_pre P L _ Q s hsl] at hpk
          have hpost := is_post P L x Q s hsl
          obtain ⟨w9, hsw, hm9⟩ := hpk.swap' HX.out HY.out
          rw [← hpost] at hm9
          have HM9 := Lib.hid hm9
          have hw : IntKind.i64.wrap (k1 : Int) = (k1 : Int) := IntWalk.i64_in _ (by have := Hm.out; have := Hll.out; omega)
          clear hpk hpost hk hk1 hm9
          go_wp2_with fail
          go_roundw
          case rel => exact ⟨s, k1, rfl, Hk.out.2, by have := Ht.out; have := Hk.out; omega, by omega, HM9.out⟩
          case measure => have := Hk.out; simp [intOf]; omega
        · obtain rfl : s = t := by have := Ht.out; omega
          obtain rfl : k = i := by have := Ht.out; omega
          rw [Hfin.out] at hpk
          have Hpk2 := Lib.hid hpk
          clear hpk hk
          go_wp2_with fail
          refine bodyPost_ret (results_none rfl _ _ _) rfl ?_
          exact ⟨rfl, ⟨_, Hpk2.out.pk, Hpe.out, Hso.out⟩, (Hw1.out ▸ Hpk2.out : Mm (w.alloc _) _ _ _ _ _ _ _ _).done⟩
end Go.Proofs.Ythpdcnjaodjjmaa.Slc

/- sort.symMerge_func at rows of places. -/
namespace Go.Proofs.Ythpdcnjaodjjmaa.Slc
open Go Go.RowKit Go.Proofs.Ythpdcnjaodjjmaa Go.Proofs.Ythpdcnjaodjjmaa.SP
set_option linter.unusedVariables false

/-- symMerge does what it should, of at most F -/
def SymAt (F : Nat) : Prop := ∀ (g gv N cap a m b : Nat) (rest : List Value) (P L R Q : List TE) (w : World), L.length + R.length ≤ F → PkAt w g rest (P ++ L ++ (R ++ Q)) → Var w g gv N cap → P.length = a → a + L.length = m → m + R.length = b → 1 ≤ L.length → 1 ≤ R.length →
    L.Pairwise (lexP ekey) → R.Pairwise (lexP ekey) → (∀ x ∈ L, ∀ y ∈ R, x.2 < y.2) → (P ++ L ++ (R ++ Q)).length = N → N ≤ 1000000 →
    Calls Try.prog 132 #[.agg #[lessV gv, swapV g N cap], .int .i64 (a : Int), .int .i64 (m : Int), .int .i64 (b : Int)] w fun e w' => e = .returned (.tuple #[]) ∧ (∃ S', PkAt w' g rest (P ++ S' ++ Q) ∧ S'.Perm (L ++ R) ∧ S'.Pairwise (lexP ekey)) ∧ w.grownBy w' (some g)
theorem md_at (P L R Q : List TE) (k l : Nat) (h : k < L.length) (h2 : l < R.length) : P ++ L ++ (R ++ Q) = (P ++ L.take k) ++ L[k] :: ((L.drop (k + 1) ++ R.take l) ++ R[l] :: (R.drop (l + 1) ++ Q)) := by
  have e1 : L = L.take k ++ L[k] :: L.drop (k + 1) := by rw [← List.drop_eq_getElem_cons h, List.take_append_drop]
  have e2 : R = R.take l ++ R[l] :: R.drop (l + 1) := by rw [← List.drop_eq_getElem_cons h2, List.take_append_drop]
  conv => lhs; rw [e1, e2]
  simp only [List.append_assoc, List.cons_append]
theorem md_done (L1 L2 R1 R2 M1 M2 : List TE) (p1 : M1.Perm (L1 ++ R1)) (p2 : M2.Perm (L2 ++ R2)) (s1 : M1.Pairwise (lexP ekey)) (s2 : M2.Pairwise (lexP ekey)) (hh : ∀ x ∈ L1 ++ R1, ∀ y ∈ L2 ++ R2, lexP ekey x y) :
    (M1 ++ M2).Perm ((L1 ++ L2) ++ (R1 ++ R2)) ∧ (M1 ++ M2).Pairwise (lexP ekey) := by
  refine ⟨(p1.append p2).trans ?_, join_sorted M1 M2 _ _ p1 p2 s1 s2 hh⟩
  simp only [List.append_assoc]
  exact List.Perm.append_left L1 (List.perm_append_comm_assoc R1 L2 R2)
set_option maxRecDepth 100000 in
set_option maxHeartbeats 8000000 in
theorem sym_mid (F : Nat) (ih : SymAt F) (g gv N cap a m b : Nat) (rest : List Value) (P L R Q : List TE) (w : World) (hF : L.length + R.length ≤ F + 1) (h : PkAt w g rest (P ++ L ++ (R ++ Q))) (hv : Var w g gv N cap) (ha : P.length = a) (hm : a + L.length = m) (hb : m + R.length = b) (hL : 2 ≤ L.length) (hR : 2 ≤ R.length)
    (hsL : L.Pairwise (lexP ekey)) (hsR : R.Pairwise (lexP ekey)) (htag : ∀ x ∈ L, ∀ y ∈ R, x.2 < y.2) (hN : (P ++ L ++ (R ++ Q)).length = N) (hN2 : N ≤ 1000000) :
    Calls Try.prog 132 #[.agg #[lessV gv, swapV g N cap], .int .i64 (a : Int), .int .i64 (m : Int), .int .i64 (b : Int)] w fun e w' => e = .returned (.tuple #[]) ∧ (∃ S', PkAt w' g rest (P ++ S' ++ Q) ∧ S'.Perm (L ++ R) ∧ S'.Pairwise (lexP ekey)) ∧ w.grownBy w' (some g) := by
  have hN3 : P.length + L.length + R.length + Q.length = N := by rw [← hN]; simp; omega
  have HN3 := Lib.hid hN3
  have Ih := Lib.hid ih
  have HF := Lib.hid hF
  have H := Lib.hid (Mm.start h hv hN hN2)
  have HP := Lib.hid ha
  have HsL := Lib.hid hsL
  have HsR := Lib.hid hsR
  have Htag := Lib.hid htag
  have hbN : b ≤ N := by omega
  have hmb : m + 2 ≤ b := by omega
  have ham : a + 2 ≤ m := by omega
  have e1 : (m : Int) - (a : Int) = ((L.length : Nat) : Int) := by omega
  have e0 : (((L.length : Nat) : Int) == 1) = false := by simp; omega
  have e2 : (b : Int) - (m : Int) = ((R.length : Nat) : Int) := by omega
  have e3 : (((R.length : Nat) : Int) == 1) = false := by simp; omega
  obtain ⟨mid, hmid⟩ : ∃ mid, mid = (a + b) / 2 := ⟨_, rfl⟩
  have e4 : ((a : Int) + (b : Int)) / 2 = (mid : Int) := by omega
  obtain ⟨n, hn⟩ : ∃ n, n = mid + m := ⟨_, rfl⟩
  have e5 : (mid : Int) + (m : Int) = (n : Int) := by omega
  obtain ⟨p, hp⟩ : ∃ p, n = p + 1 := ⟨n - 1, by omega⟩
  have e6 : (n : Int) - 1 = (p : Int) := by omega
  have Hmid : Hid (a + b = 2 * mid ∨ a + b = 2 * mid + 1) := Lib.hid (by omega)
  have Hn := Lib.hid hn
  have Hp := Lib.hid hp
  have Hm := Lib.hid hm
  have Hb := Lib.hid hb
  have hnN : n ≤ 2000000 := by omega
  have hpN : p ≤ 2000000 := by omega
  have hmN : mid ≤ 1000000 := by omega
  clear h hv hN hN3 ha hsL hsR htag hb hm hL hR hmid hn hp ih hF
  generalize hll : L.length = ll at *
  have Hll := Lib.hid hll
  generalize hrl : R.length = rl at *
  have Hrl := Lib.hid hrl
  clear hll hrl
  go_enter Try.func132, Try.ntmps132
  go_upto_if 106 with fail
  generalize hw1 : w.alloc (.cells #[lessV gv, swapV g N cap] 183) = w1 at *
  generalize hbx : w.heap.size = bx at *
  have Hw1 := Lib.hid hw1
  clear hw1 hbx
  clear e1 e0 e2 e3
  go_cut [18, 19] from 95 to 114 (fun sv rv wx => ∃ s r : Nat, sv = .int .i64 (s : Int) ∧ rv = .int .i64 (r : Int) ∧ a ≤ s ∧ n ≤ s + b ∧ s ≤ r ∧ r ≤ m ∧ r ≤ mid ∧ (s = a ∨ s + b = n) ∧ (r = m ∨ r = mid) ∧ wx = w1)
  case first =>
    by_cases hmm : mid < m
    · have e7 : (n : Int) - (b : Int) = ((n - b : Nat) : Int) := by have := Hmid.out; have := Hn.out; omega
      have Hnb : Hid (n - b + b = n) := Lib.hid (by have := Hmid.out; have := Hn.out; omega)
      generalize n - b = nb at *
      go_wp2_with fail
      go_meet
      case rel => exact ⟨nb, mid, rfl, rfl, by have := Hmid.out; have := Hn.out; have := Hnb.out; omega, by have := Hnb.out; omega, by have := Hmid.out; have := Hn.out; have := Hnb.out; omega, by omega, Nat.le_refl _, .inr Hnb.out, .inr rfl, rfl⟩
    · go_wp2_with fail
      go_meet
      case rel => exact ⟨a, m, rfl, rfl, Nat.le_refl _, by have := Hmid.out; have := Hn.out; omega, by omega, Nat.le_refl _, by omega, .inl rfl, .inl rfl, rfl⟩
  case rest =>
    obtain ⟨s0, r0, rfl, rfl, k1, k2, k3, k4, k5, k6, k7, hw⟩ := hcut
    have hw := hw.symm
    subst hw
    go_wp2_with fail
    go_loopw [18, 19] (fun sv rv wr => ∃ s r : Nat, sv = .int .i64 (s : Int) ∧ rv = .int .i64 (r : Int) ∧ s0 ≤ s ∧ s ≤ r ∧ r ≤ r0 ∧ (s = s0 ∨ ∃ (h1 : s - 1 - a < L.length) (h2 : n - s - m < R.length), L[s - 1 - a].1.1 ≤ R[n - s - m].1.1) ∧
      (r = r0 ∨ ∃ (h1 : r - a < L.length) (h2 : n - 1 - r - m < R.length), R[n - 1 - r - m].1.1 < L[r - a].1.1) ∧ Mm w1 wr bx g gv N cap rest (P ++ L ++ (R ++ Q))) (fun sv rv _ => (intOf rv - intOf sv).toNat)
    case atStart => exact ⟨s0, r0, rfl, rfl, Nat.le_refl _, k3, Nat.le_refl _, .inl rfl, .inl rfl, H.out⟩
    case round =>
      obtain ⟨s, r, rfl, rfl, hs0, hsr, hr0, hI, hJ, hpk⟩ := hrel
      have HI := Lib.hid hI
      have HJ := Lib.hid hJ
      have c0 := hpk.c0
      have c1 := hpk.c1
      have Hpk := Lib.hid hpk
      clear hI hJ
      by_cases hlt : s < r
      · obtain ⟨q, hq⟩ : ∃ q, q = (s + r) / 2 := ⟨_, rfl⟩
        have hqi : s ≤ q := by omega
        have hqj : q < r := by omega
        obtain ⟨z, hz⟩ : ∃ z, z = p - q := ⟨_, rfl⟩
        have hzp : z + q + 1 = n := by have := Hp.out; omega
        have hmz : m ≤ z := by have := Hn.out; omega
        have hzb : z < b := by omega
        have hql : q - a < L.length := by have := Hm.out; have := Hll.out; omega
        have hzl : z - m < R.length := by have := Hb.out; have := Hrl.out; omega
        have Hat := Lib.hid (md_at P L R Q (q - a) (z - m) hql hzl)
        have HX : Hid (q = (P ++ L.take (q - a)).length) := Lib.hid (by rw [List.length_append, List.length_take, HP.out]; omega)
        have HY : Hid (z = (P ++ L.take (q - a)).length + 1 + (L.drop (q - a + 1) ++ R.take (z - m)).length) := Lib.hid (by rw [← HX.out, List.length_append, List.length_drop, List.length_take]; have := Hm.out; have := Hll.out; have := Hrl.out; omega)
        obtain ⟨x, hx⟩ : ∃ x, L[q - a] = x := ⟨_, rfl⟩
        obtain ⟨y, hy⟩ : ∃ y, R[z - m] = y := ⟨_, rfl⟩
        have Hx : Hid (∀ h : q - a < L.length, L[q - a] = x) := Lib.hid (fun _ => hx)
        have Hy : Hid (∀ h : z - m < R.length, R[z - m] = y) := Lib.hid (fun _ => hy)
        rw [Hat.out, hx, hy] at hpk
        have HLs := Lib.hid (hpk.less' HX.out HY.out)
        have Hback : Hid (∀ W, Mm w1 W bx g gv N cap rest (P ++ L.take (q - a) ++ x :: (L.drop (q - a + 1) ++ R.take (z - m) ++ y :: (R.drop (z - m + 1) ++ Q))) → Mm w1 W bx g gv N cap rest (P ++ L ++ (R ++ Q))) := Lib.hid (fun W hW => by rw [Hat.out, hx, hy]; exact hW)
        have e2 : ((s : Int) + (r : Int)) / 2 = (q : Int) := by omega
        have e3 : (p : Int) - (q : Int) = (z : Int) := by omega
        have hw : IntKind.i64.wrap (z : Int) = (z : Int) := IntWalk.i64_in _ (by omega)
        have Hz : Hid (n - (q + 1) - m = z - m ∧ n - 1 - q - m = z - m ∧ q + 1 - 1 - a = q - a) := Lib.hid (by omega)
        unfold lessV at c0
        clear hpk hx hy hq hz c1
        by_cases hc : y.1.1 < x.1.1
        · have hb1 : decide (y.1.1 < x.1.1) = true := by simp [hc]
          rw [hb1] at HLs
          clear hb1
          go_wp2_with fail
          refine (HLs.out).mono ?_
          rintro e w3 ⟨rfl, hm3⟩
          have HM3 := Lib.hid (Hback.out _ hm3)
          clear hm3
          go_wp2_with fail
          go_roundw
          case rel => exact ⟨s, q, rfl, rfl, hs0, hqi, by omega, HI.out, .inr ⟨hql, by rw [Hz.out.2.1]; exact hzl, by
            have a1 := Hz.out.2.1
            have a2 := Hy.out hzl
            have a3 := Hx.out hql
            simp only [a1, a2, a3]; exact hc⟩, HM3.out⟩
          case measure => simp [intOf]; omega
        · have hb1 : decide (y.1.1 < x.1.1) = false := by simp; omega
          rw [hb1] at HLs
          clear hb1
          go_wp2_with fail
          refine (HLs.out).mono ?_
          rintro e w3 ⟨rfl, hm3⟩
          have HM3 := Lib.hid (Hback.out _ hm3)
          clear hm3
          go_wp2_with fail
          go_roundw
          case rel => exact ⟨q + 1, r, by go_num, rfl, by omega, by omega, hr0, .inr ⟨by rw [Hz.out.2.2]; exact hql, by rw [Hz.out.1]; exact hzl, by
            have a1 := Hz.out.1
            have a4 := Hz.out.2.2
            have a2 := Hy.out hzl
            have a3 := Hx.out hql
            simp only [a1, a4, a2, a3]; omega⟩, HJ.out, HM3.out⟩
          case measure => simp [intOf]; omega
      · obtain rfl : s = r := by omega
        have hh1 : s - a = 0 ∨ mid - s = R.length ∨ ∃ (h1 : s - a - 1 < L.length) (h2 : mid - s < R.length), lexP ekey L[s - a - 1] R[mid - s] := by
          rcases HI.out with h | ⟨h1, h2, h3⟩
          · rcases k6 with k | k
            · left; omega
            · right; left; have := Hn.out; have := Hb.out; have := Hrl.out; omega
          · right; right
            have a1 : s - a - 1 = s - 1 - a := by omega
            have a2 : mid - s = n - s - m := by have := Hn.out; omega
            simp only [a1, a2]
            refine ⟨h1, h2, ?_⟩
            have := Htag.out _ (List.getElem_mem h1) _ (List.getElem_mem h2)
            unfold lexP ekey; omega
        have hh2 : mid - s = 0 ∨ s - a = L.length ∨ ∃ (h1 : mid - s - 1 < R.length) (h2 : s - a < L.length), lexP ekey R[mid - s - 1] L[s - a] := by
          rcases HJ.out with h | ⟨h1, h2, h3⟩
          · rcases k7 with k | k
            · right; left; have := Hm.out; have := Hll.out; omega
            · left; omega
          · right; right
            have a2 : mid - s - 1 = n - 1 - s - m := by have := Hn.out; omega
            simp only [a2]
            exact ⟨h2, h1, .inl h3⟩
        have hhalf := halves (le := lexP ekey) (fun a b c => lexP_trans ekey a b c) L R (s - a) (mid - s) (by have := Hm.out; have := Hll.out; omega) (by have := Hn.out; have := Hb.out; have := Hrl.out; omega) HsL.out HsR.out hh1 hh2
        have hL : L = L.take (s - a) ++ L.drop (s - a) := (List.take_append_drop _ _).symm
        have hR : R = R.take (mid - s) ++ R.drop (mid - s) := (List.take_append_drop _ _).symm
        have l1 : (L.take (s - a)).length = s - a := by rw [List.length_take]; have := Hm.out; have := Hll.out; omega
        have l2 : (L.drop (s - a)).length = m - s := by rw [List.length_drop]; have := Hm.out; have := Hll.out; omega
        have l3 : (R.take (mid - s)).length = mid - s := by rw [List.length_take]; have := Hn.out; have := Hb.out; have := Hrl.out; omega
        have l4 : (R.drop (mid - s)).length = b - (n - s) := by rw [List.length_drop]; have := Hn.out; have := Hb.out; have := Hrl.out; omega
        generalize L.take (s - a) = L1 at *
        generalize L.drop (s - a) = L2 at *
        generalize R.take (mid - s) = R1 at *
        generalize R.drop (mid - s) = R2 at *
        obtain ⟨en, hen⟩ : ∃ en, en = n - s := ⟨_, rfl⟩
        have e8 : (n : Int) - (s : Int) = (en : Int) := by omega
        rw [← hen] at l4
        have Hen : Hid (en = m + (mid - s)) := Lib.hid (by have := Hn.out; omega)
        have Hl1 := Lib.hid l1
        have Hl2 := Lib.hid l2
        have Hl3 := Lib.hid l3
        have Hl4 := Lib.hid l4
        have HL := Lib.hid hL
        have HR := Lib.hid hR
        have Hhalf := Lib.hid hhalf
        have hsas : a ≤ s := by omega
        have hsm : s ≤ m := by omega
        have hsmid : s ≤ mid := by omega
        have henb : en ≤ b := by have := Hen.out; have := Hn.out; omega
        have henm : m ≤ en := by have := Hen.out; omega
        clear hh1 hh2 hhalf hL hR l1 l2 l3 l4 hen HI HJ k1 k2 k3 k4 k5 k6 k7 hpk
        have hpk5 : Mm w1 wr bx g gv N cap rest ((P ++ L1) ++ L2 ++ (R1 ++ (R2 ++ Q))) := by
          have := Hpk.out
          rw [HL.out, HR.out] at this
          simpa only [List.append_assoc] using this
        have Hpk5 := Lib.hid hpk5
        have HNN : Hid (((P ++ L1) ++ L2 ++ (R1 ++ (R2 ++ Q))).length = N) := Lib.hid (by
          have h1 := HN3.out; have h2 := congrArg List.length HL.out; have h3 := congrArg List.length HR.out; have h4 := Hll.out; have h5 := Hrl.out
          simp only [List.length_append] at h2 h3 ⊢
          omega)
        have Hp1 : Hid ((P ++ L1).length = s) := Lib.hid (by rw [List.length_append, HP.out, Hl1.out]; omega)
        clear hpk5 Hpk H
        go_upto_region 40 with fail
        clear e8
        go_cut [145] from 113 to 145 (fun v wx => v = .bool (decide (s < m ∧ m < en)) ∧ wx = wr)
        case first =>
          by_cases a1 : s < m
          · by_cases a2 : m < en
            · go_wp2_with fail
              go_meet
              case rel => exact ⟨by simp [a1, a2], rfl⟩
            · go_wp2_with fail
              go_meet
              case rel => exact ⟨by simp [a2], rfl⟩
          · go_wp2_with fail
            go_meet
            case rel => exact ⟨by simp [a1], rfl⟩
        case rest =>
          obtain ⟨rfl, hw⟩ := hcut
          have hw := hw.symm
          subst hw
          go_upto_if 145 with fail
          go_cut [18] from 138 to 150 (fun v wx => v = .int .i64 (s : Int) ∧ Mm w1 wx bx g gv N cap rest (P ++ L1 ++ (R1 ++ (L2 ++ (R2 ++ Q)))))
          case first =>
            by_cases hr : s < m ∧ m < en
            · rw [decide_eq_true hr]
              go_wp2_with fail
              refine (rotate_any g gv N cap s m en rest (P ++ L1) L2 R1 (R2 ++ Q) wr Hpk5.out.pk Hpk5.out.var Hp1.out (by rw [Hl2.out]; omega) (by rw [Hl3.out]; exact Hen.out.symm) (by rw [Hl2.out]; omega) (by rw [Hl3.out]; have := Hen.out; omega) HNN.out hN2).mono ?_
              rintro e w5 ⟨rfl, hp5, hg5⟩
              have Hp5 := Lib.hid (Hpk5.out.more hg5 hp5 (by simp only [List.length_append]; omega))
              clear hp5 hg5
              go_wp2_with fail
              go_meet
              case rel => exact ⟨rfl, by have := Hp5.out; simpa only [List.append_assoc] using this⟩
            · rw [decide_eq_false hr]
              go_wp2_with fail
              go_meet
              case rel =>
                refine ⟨rfl, ?_⟩
                have h1 := Hpk5.out
                have h2 : L2 = [] ∨ R1 = [] := by
                  rcases Nat.lt_or_ge s m with h | h
                  · right; exact List.eq_nil_of_length_eq_zero (by rw [Hl3.out]; have := Hen.out; omega)
                  · left; exact List.eq_nil_of_length_eq_zero (by rw [Hl2.out]; omega)
                rcases h2 with rfl | rfl
                · simpa only [List.append_assoc, List.nil_append] using h1
                · simpa only [List.append_assoc, List.nil_append] using h1
          case rest =>
            obtain ⟨rfl, hp6⟩ := hcut
            have c0 := hp6.c0
            have c1 := hp6.c1
            have Hp6 := Lib.hid hp6
            clear hp6 Hpk5
            generalize wc = w6 at *
            go_upto_region 42 with fail
            go_cut [158] from 146 to 158 (fun v wx => v = .bool (decide (a < s ∧ s < mid)) ∧ wx = w6)
            case first =>
              by_cases a1 : a < s
              · by_cases a2 : s < mid
                · go_wp2_with fail
                  go_meet
                  case rel => exact ⟨by simp [a1, a2], rfl⟩
                · go_wp2_with fail
                  go_meet
                  case rel => exact ⟨by simp [a2], rfl⟩
              · go_wp2_with fail
                go_meet
                case rel => exact ⟨by simp [a1], rfl⟩
            case rest =>
              obtain ⟨rfl, hw⟩ := hcut
              have hw := hw.symm
              subst hw
              go_upto_if 158 with fail
              go_cut [18] from 151 to 163 (fun v wx => v = .int .i64 (s : Int) ∧ (∃ M1, Mm w1 wx bx g gv N cap rest (P ++ M1 ++ (L2 ++ (R2 ++ Q))) ∧ M1.Perm (L1 ++ R1) ∧ M1.Pairwise (lexP ekey)))
              case first =>
                by_cases hr : a < s ∧ s < mid
                · rw [decide_eq_true hr]
                  go_wp2_with fail
                  refine (Ih.out g gv N cap a s mid rest P L1 R1 (L2 ++ (R2 ++ Q)) w6 (by rw [Hl1.out, Hl3.out]; have := HF.out; have := Hmid.out; have := Hm.out; have := Hb.out; omega) Hp6.out.pk Hp6.out.var HP.out (by rw [Hl1.out]; omega) (by rw [Hl3.out]; omega) (by rw [Hl1.out]; omega) (by rw [Hl3.out]; omega)
                    ((pw_append _ _).1 (HL.out ▸ HsL.out)).1 ((pw_append _ _).1 (HR.out ▸ HsR.out)).1 (fun x hx y hy => Htag.out x (by rw [HL.out]; exact List.mem_append_left _ hx) y (by rw [HR.out]; exact List.mem_append_left _ hy)) (by rw [← HNN.out]; simp; omega) hN2).mono ?_
                  rintro e w7 ⟨rfl, ⟨M1, hp7, hpe, hso⟩, hg7⟩
                  have Hp7 := Lib.hid (Hp6.out.more hg7 hp7 (by have := hpe.length_eq; simp only [List.length_append] at this ⊢; omega))
                  have Hpe := Lib.hid hpe
                  have Hso := Lib.hid hso
                  clear hp7 hg7 hpe hso
                  go_wp2_with fail
                  go_meet
                  case rel => exact ⟨rfl, ⟨M1, Hp7.out, Hpe.out, Hso.out⟩⟩
                · rw [decide_eq_false hr]
                  go_wp2_with fail
                  go_meet
                  case rel =>
                    refine ⟨rfl, ⟨L1 ++ R1, by have := Hp6.out; simpa only [List.append_assoc] using this, List.Perm.refl _, ?_⟩⟩
                    rcases Nat.lt_or_ge a s with h | h
                    · have : R1 = [] := List.eq_nil_of_length_eq_zero (by rw [Hl3.out]; omega)
                      subst this
                      rw [List.append_nil]; exact ((pw_append _ _).1 (HL.out ▸ HsL.out)).1
                    · have : L1 = [] := List.eq_nil_of_length_eq_zero (by rw [Hl1.out]; omega)
                      subst this
                      rw [List.nil_append]; exact ((pw_append _ _).1 (HR.out ▸ HsR.out)).1
              case rest =>
                obtain ⟨rfl, ⟨M1, hp8, hpe, hso⟩⟩ := hcut
                have c0 := hp8.c0
                have c1 := hp8.c1
                have Hp8 := Lib.hid hp8
                have Hpe := Lib.hid hpe
                have Hso := Lib.hid hso
                have HM1 : Hid ((P ++ M1).length = mid) := Lib.hid (by rw [List.length_append, HP.out, hpe.length_eq, List.length_append, Hl1.out, Hl3.out]; omega)
                clear hp8 hpe hso Hp6
                generalize wc = w8 at *
                go_upto_region 44 with fail
                go_cut [171] from 159 to 171 (fun v wx => v = .bool (decide (mid < en ∧ en < b)) ∧ wx = w8)
                case first =>
                  by_cases a1 : mid < en
                  · by_cases a2 : en < b
                    · go_wp2_with fail
                      go_meet
                      case rel => exact ⟨by simp [a1, a2], rfl⟩
                    · go_wp2_with fail
                      go_meet
                      case rel => exact ⟨by simp [a2], rfl⟩
                  · go_wp2_with fail
                    go_meet
                    case rel => exact ⟨by simp [a1], rfl⟩
                case rest =>
                  obtain ⟨rfl, hw⟩ := hcut
                  have hw := hw.symm
                  subst hw
                  by_cases hr : mid < en ∧ en < b
                  · rw [decide_eq_true hr]
                    go_wp2_with fail
                    refine (Ih.out g gv N cap mid en b rest (P ++ M1) L2 R2 Q w8 (by rw [Hl2.out, Hl4.out]; have := HF.out; have := Hmid.out; have := Hm.out; have := Hb.out; have := Hen.out; omega) (by have := Hp8.out.pk; simpa only [List.append_assoc] using this) Hp8.out.var HM1.out (by rw [Hl2.out]; have := Hen.out; omega) (by rw [Hl4.out]; omega) (by rw [Hl2.out]; have := Hen.out; omega) (by rw [Hl4.out]; omega)
                      ((pw_append _ _).1 (HL.out ▸ HsL.out)).2.1 ((pw_append _ _).1 (HR.out ▸ HsR.out)).2.1 (fun x hx y hy => Htag.out x (by rw [HL.out]; exact List.mem_append_right _ hx) y (by rw [HR.out]; exact List.mem_append_right _ hy)) (by have h1 := Hpe.out.length_eq; rw [← HNN.out]; simp only [List.length_append] at h1 ⊢; omega) hN2).mono ?_
                    rintro e w9 ⟨rfl, ⟨M2, hp9, hpe2, hso2⟩, hg9⟩
                    have Hp9 : Hid (Mm w1 w9 bx g gv N cap rest (P ++ (M1 ++ M2) ++ Q)) := Lib.hid (Hp8.out.more hg9 (by simpa only [List.append_assoc] using hp9) (by have := hpe2.length_eq; simp only [List.length_append] at this ⊢; omega))
                    have Hdone := Lib.hid (md_done L1 L2 R1 R2 M1 M2 Hpe.out hpe2 Hso.out hso2 Hhalf.out)
                    clear hp9 hg9 hpe2 hso2
                    go_wp2_with fail
                    go_end0
                    exact ⟨rfl, ⟨M1 ++ M2, Hp9.out.pk, by rw [HL.out, HR.out]; exact Hdone.out.1, Hdone.out.2⟩, (Hw1.out ▸ Hp9.out : Mm (w.alloc _) _ _ _ _ _ _ _ _).done⟩
                  · rw [decide_eq_false hr]
                    have Hdone := Lib.hid (md_done L1 L2 R1 R2 M1 (L2 ++ R2) Hpe.out (List.Perm.refl _) Hso.out (by
                      rcases Nat.lt_or_ge mid en with h | h
                      · have : R2 = [] := List.eq_nil_of_length_eq_zero (by rw [Hl4.out]; omega)
                        subst this
                        rw [List.append_nil]; exact ((pw_append _ _).1 (HL.out ▸ HsL.out)).2.1
                      · have : L2 = [] := List.eq_nil_of_length_eq_zero (by rw [Hl2.out]; have := Hen.out; omega)
                        subst this
                        rw [List.nil_append]; exact ((pw_append _ _).1 (HR.out ▸ HsR.out)).2.1) Hhalf.out)
                    go_wp2_with fail
                    go_end0
                    exact ⟨rfl, ⟨M1 ++ (L2 ++ R2), by have := Hp8.out.pk; simpa only [List.append_assoc] using this, by rw [HL.out, HR.out]; exact Hdone.out.1, Hdone.out.2⟩, (Hw1.out ▸ Hp8.out : Mm (w.alloc _) _ _ _ _ _ _ _ _).done⟩
theorem sym_any : ∀ F, SymAt F := by
  intro F
  induction F with
  | zero => intro g gv N cap a m b rest P L R Q w hF; intros; omega
  | succ F ih =>
    intro g gv N cap a m b rest P L R Q w hF h hv ha hm hb hL hR hsL hsR htag hN hN2
    by_cases h1 : L.length = 1
    · obtain ⟨x, rfl⟩ := List.length_eq_one_iff.1 h1
      exact sym_up g gv N cap a m b rest P R Q x w h hv ha hm hb hR hsR (fun y hy => htag x (by simp) y hy) hN hN2
    · by_cases h2 : R.length = 1
      · obtain ⟨x, rfl⟩ := List.length_eq_one_iff.1 h2
        exact sym_dn g gv N cap a m b rest P L Q x w h hv ha hm hb (by omega) hsL (fun y hy => htag y hy x (by simp)) hN hN2
      · exact sym_mid F ih g gv N cap a m b rest P L R Q w hF h hv ha hm hb (by omega) (by omega) hsL hsR htag hN hN2
end Go.Proofs.Ythpdcnjaodjjmaa.Slc

/- sort.stable_func, sort.SliceStable at rows of places. -/
namespace Go.Proofs.Ythpdcnjaodjjmaa.Slc
open Go Go.RowKit Go.Proofs.Ythpdcnjaodjjmaa Go.Proofs.Ythpdcnjaodjjmaa.SP
set_option linter.unusedVariables false

theorem Ahead.len {bs : Nat} {s0 s : List TE} (h : Ahead ekey bs s0 s) : s.Perm s0 := by
  have := (h [] [] (Ch.nil ekey bs)).perm
  simpa using this
set_option maxRecDepth 100000 in
set_option maxHeartbeats 8000000 in
theorem stable_any (g gv N cap : Nat) (rest : List Value) (d : List TE) (w : World) (h : PkAt w g rest d) (hv : Var w g gv N cap) (hN : d.length = N) (hN2 : N ≤ 1000000) (hr : Rise d) :
    Calls Try.prog 113 #[.agg #[lessV gv, swapV g N cap], .int .i64 (N : Int)] w fun e w' => e = .returned (.tuple #[]) ∧ (∃ d', PkAt w' g rest d' ∧ d'.Perm d ∧ d'.Pairwise (lexP ekey)) ∧ w.grownBy w' (some g) := by
  have H := Lib.hid (Mm.start h hv hN hN2)
  have HN := Lib.hid hN
  have Hr := Lib.hid hr
  clear h hN hr hv
  go_enter Try.func113, Try.ntmps113
  go_wp2_with fail
  generalize hw1 : w.alloc (.cells #[lessV gv, swapV g N cap] 183) = w1 at *
  generalize hbx : w.heap.size = bx at *
  have Hw1 := Lib.hid hw1
  clear hw1 hbx
  go_loopw [5, 6] (fun av bv wr => ∃ (a : Nat) (S0 S D : List TE), av = .int .i64 (a : Int) ∧ bv = .int .i64 ((a : Int) + 20) ∧ d = S0 ++ D ∧ S.length = a ∧ S.length + D.length = N ∧ Ahead ekey 20 S0 S ∧ Mm w1 wr bx g gv N cap rest (S ++ D)) (fun _ bv _ => N + 20 - (intOf bv).toNat)
  case atStart => exact ⟨0, [], [], d, rfl, rfl, rfl, rfl, by simpa using HN.out, Ahead.nil ekey 20, H.out⟩
  case round =>
    obtain ⟨a, S0, S, D, rfl, rfl, hd, hS, hSD, hah, hpk⟩ := hrel
    have Hd := Lib.hid hd
    have HS := Lib.hid hS
    have HSD := Lib.hid hSD
    have Hah := Lib.hid hah
    have c0 := hpk.c0
    have c1 := hpk.c1
    have Hpk := Lib.hid hpk
    have haN : a ≤ N := by omega
    have HrD : Hid (Rise D) := Lib.hid (Rise.right (hd ▸ Hr.out))
    clear hd hS hSD hah hpk
    by_cases hlt : a + 20 ≤ N
    · have hD : D = D.take 20 ++ D.drop 20 := (List.take_append_drop _ _).symm
      have l1 : (D.take 20).length = 20 := by rw [List.length_take]; have := HSD.out; have := HS.out; omega
      have HD := Lib.hid hD
      have Hl1 := Lib.hid l1
      generalize D.take 20 = D1 at *
      generalize D.drop 20 = D2 at *
      clear hD l1
      have Hc := Lib.hid (insertion_any g gv N cap a (a + 20) rest S D1 D2 wr (by have := Hpk.out.pk; rw [HD.out] at this; rw [List.append_assoc]; exact this) Hpk.out.var HS.out (by rw [Hl1.out]) (Rise.left (HD.out ▸ HrD.out)) (by have h1 := congrArg List.length HD.out; have := HSD.out; simp only [List.length_append] at h1 ⊢; omega) hN2)
      have e1 : (a : Int) + 20 = ((a + 20 : Nat) : Int) := by omega
      obtain ⟨b, hb⟩ : ∃ b, a + 20 = b := ⟨_, rfl⟩
      rw [hb] at Hc e1 hlt
      have Hb := Lib.hid hb
      rw [e1]
      have hle : (b : Int) ≤ (N : Int) := by omega
      clear hb e1
      go_wp2_with fail
      refine (Hc.out).mono ?_
      rintro e w2 ⟨rfl, ⟨S', hp2, hpe, hso⟩, hg2⟩
      have Hp2 := Lib.hid (Hpk.out.more hg2 hp2 (by have a1 := hpe.length_eq; have a6 := congrArg List.length HD.out; simp only [List.length_append] at a1 a6 ⊢; omega))
      have Hpe := Lib.hid hpe
      have Hso := Lib.hid hso
      clear hp2 hg2 hpe hso
      go_wp2_with fail
      go_roundw
      case rel =>
        have a1 := Hpe.out.length_eq; have a2 := Hl1.out; have a3 := HS.out; have a4 := Hb.out; have a5 := HSD.out; have a6 := congrArg List.length HD.out
        rw [List.length_append] at a6
        exact ⟨b, S0 ++ D1, S ++ S', D2, rfl, rfl, by rw [Hd.out, HD.out, List.append_assoc], by rw [List.length_append]; omega, by rw [List.length_append]; omega, Ahead.more ekey Hah.out (by omega) Hpe.out Hso.out, Hp2.out⟩
      case measure => have := Hb.out; simp [intOf]; omega
    · have Hc := Lib.hid (insertion_any g gv N cap a N rest S D [] wr (by rw [List.append_nil]; exact Hpk.out.pk) Hpk.out.var HS.out (by have := HSD.out; have := HS.out; omega) HrD.out (by have := HSD.out; simp only [List.length_append, List.length_nil]; omega) hN2)
      have hle : ¬ ((a : Int) + 20 ≤ (N : Int)) := by omega
      go_wp2_with fail
      refine (Hc.out).mono ?_
      rintro e w2 ⟨rfl, ⟨S', hp2, hpe, hso⟩, hg2⟩
      rw [List.append_nil] at hp2
      have Hp2 := Lib.hid (Hpk.out.more hg2 hp2 (by have a1 := hpe.length_eq; simp only [List.length_append] at a1 ⊢; omega))
      have Hch : Hid (Ch ekey 20 d (S ++ S')) := Lib.hid (by rw [Hd.out]; exact Hah.out _ _ (.last D S' (by rw [hpe.length_eq]; have := HSD.out; have := HS.out; omega) hpe hso))
      clear hp2 hg2 hpe hso Hc
      go_wp2_with fail
      clear Hd HS HSD Hah Hpk haN HrD hle c0 c1
      go_loopw [4] (fun bv wr => ∃ (bs : Nat) (d' : List TE), bv = .int .i64 (bs : Int) ∧ 1 ≤ bs ∧ bs ≤ 2000000 ∧ Ch ekey bs d d' ∧ Mm w1 wr bx g gv N cap rest d') (fun bv _ => N - (intOf bv).toNat)
      case atStart => exact ⟨20, _, rfl, by omega, by omega, Hch.out, Hp2.out⟩
      case round =>
        obtain ⟨bs, d', rfl, hb1, hb2, hch, hpk⟩ := hrel
        have Hch := Lib.hid hch
        have c0 := hpk.c0
        have c1 := hpk.c1
        have Hpk := Lib.hid hpk
        have Hlen : Hid (d'.length = N) := Lib.hid (by rw [hch.perm.length_eq]; exact HN.out)
        clear hch hpk
        by_cases hbN : bs < N
        · go_wp2_with fail
          go_loopw [5, 6] (fun av bv wr => ∃ (a b : Nat) (S0 S D0 D : List TE), av = .int .i64 (a : Int) ∧ bv = .int .i64 (b : Int) ∧ b = a + 2 * bs ∧ d = S0 ++ D0 ∧ S.length = a ∧ S.length + D.length = N ∧ Ahead ekey (2 * bs) S0 S ∧ Ch ekey bs D0 D ∧ Mm w1 wr bx g gv N cap rest (S ++ D)) (fun _ bv _ => N + 2 * bs - (intOf bv).toNat)
          case atStart => exact ⟨0, 2 * bs, [], [], d, d', rfl, int_eq (by omega), by omega, rfl, rfl, by simpa using Hlen.out, Ahead.nil ekey _, Hch.out, Hpk.out⟩
          case round =>
            obtain ⟨a, b, S0, S, D0, D, rfl, rfl, hb, hd, hS, hSD, hah, hch, hpk⟩ := hrel
            have Hd := Lib.hid hd
            have HS := Lib.hid hS
            have HSD := Lib.hid hSD
            have Hah := Lib.hid hah
            have Hchd := Lib.hid hch
            have c0 := hpk.c0
            have c1 := hpk.c1
            have Hpk3 := Lib.hid hpk
            have HB := Lib.hid hb
            have haN : a ≤ N := by omega
            have HrD : Hid (Rise D0) := Lib.hid (Rise.right (hd ▸ Hr.out))
            clear hd hS hSD hah hch hpk hb
            by_cases hlt : b ≤ N
            · obtain ⟨s0, s, r0, r, q1, q2, q3, q4, q5, q6⟩ := Ch.split ekey Hchd.out (by have := HB.out; have := HSD.out; have := HS.out; omega) (by omega)
              obtain ⟨t0, t, u0, u, y1, y2, y3, y4, y5, y6⟩ := Ch.split ekey q6 (by have := HB.out; have := HSD.out; have := HS.out; have h1 := congrArg List.length q2; rw [List.length_append] at h1; omega) (by omega)
              subst q1 q2 y1 y2
              obtain ⟨m, hm⟩ : ∃ m, a + bs = m := ⟨_, rfl⟩
              have em : (a : Int) + (bs : Int) = (m : Int) := by omega
              have Hm := Lib.hid hm
              have Hl1 := Lib.hid q3
              have Hl2 := Lib.hid y3
              have Hp0 := Lib.hid (And.intro q4 y4)
              have Hch6 := Lib.hid y6
              have Hc := Lib.hid (sym_any (s.length + t.length) g gv N cap a m b rest S s t u wr (Nat.le_refl _) (by have := Hpk3.out.pk; simpa only [List.append_assoc] using this) Hpk3.out.var HS.out (by rw [q3]; exact hm) (by rw [y3]; have := HB.out; omega) (by omega) (by omega) q5 y5
                (Rise.cross (a := s0) (b := t0) (by have := HrD.out; rw [← List.append_assoc] at this; exact Rise.left this) q4 y4) (by have := HSD.out; simp only [List.length_append] at this ⊢; omega) hN2)
              have hmN : m ≤ N := by have := HB.out; omega
              clear hm q3 q4 q5 q6 y3 y4 y5 y6
              go_wp2_with fail
              refine (Hc.out).mono ?_
              rintro e w4 ⟨rfl, ⟨M, hp4, hpe, hso⟩, hg4⟩
              have Hp4 := Lib.hid (Hpk3.out.more hg4 hp4 (by have a1 := hpe.length_eq; simp only [List.length_append] at a1 ⊢; omega))
              have Hpe := Lib.hid hpe
              have Hso := Lib.hid hso
              clear hp4 hg4 hpe hso
              go_wp2_with fail
              go_roundw
              case rel =>
                have a1 := Hpe.out.length_eq; have a2 := Hl1.out; have a3 := HS.out; have a4 := HB.out; have a5 := HSD.out; have a6 := Hl2.out
                rw [List.length_append] at a1
                simp only [List.length_append] at a5
                exact ⟨b, b + 2 * bs, S0 ++ (s0 ++ t0), S ++ M, u0, u, rfl, int_eq (by omega), rfl, by rw [Hd.out]; simp only [List.append_assoc], by rw [List.length_append]; omega, by rw [List.length_append]; omega, Ahead.more ekey Hah.out (by omega) (Hpe.out.trans (Hp0.out.1.append Hp0.out.2)) Hso.out, Hch6.out, Hp4.out⟩
              case measure => have := HB.out; simp [intOf]; omega
            · obtain ⟨m, hm⟩ : ∃ m, a + bs = m := ⟨_, rfl⟩
              have em : (a : Int) + (bs : Int) = (m : Int) := by omega
              have Hm := Lib.hid hm
              by_cases hmN : m < N
              · obtain ⟨s0, s, r0, r, q1, q2, q3, q4, q5, q6⟩ := Ch.split ekey Hchd.out (by have := HSD.out; have := HS.out; omega) (by omega)
                subst q1 q2
                have hrl : r.length < bs := by have h1 := HSD.out; have h2 := HS.out; have h3 := HB.out; simp only [List.length_append] at h1; omega
                obtain ⟨p1, p2⟩ := Ch.small ekey q6 (by omega)
                have Hl1 := Lib.hid q3
                have Hp0 := Lib.hid (And.intro q4 p1)
                have Hc := Lib.hid (sym_any (s.length + r.length) g gv N cap a m N rest S s r [] wr (Nat.le_refl _) (by have := Hpk3.out.pk; simpa only [List.append_assoc, List.append_nil] using this) Hpk3.out.var HS.out (by rw [q3]; exact hm) (by have h1 := HSD.out; have := HS.out; simp only [List.length_append] at h1; omega) (by omega) (by have h1 := HSD.out; have := HS.out; simp only [List.length_append] at h1; omega) q5 p2
                  (Rise.cross (a := s0) (b := r0) HrD.out q4 p1) (by have := HSD.out; simp only [List.length_append, List.length_nil] at this ⊢; omega) hN2)
                have Hrl := Lib.hid hrl
                clear hm q3 q4 q5 q6 p1 p2 hrl
                go_wp2_with fail
                refine (Hc.out).mono ?_
                rintro e w4 ⟨rfl, ⟨M, hp4, hpe, hso⟩, hg4⟩
                rw [List.append_nil] at hp4
                have Hp4 := Lib.hid (Hpk3.out.more hg4 hp4 (by have a1 := hpe.length_eq; simp only [List.length_append] at a1 ⊢; omega))
                have Hfin : Hid (Ch ekey (2 * bs) d (S ++ M)) := Lib.hid (by
                  rw [Hd.out]
                  refine Hah.out _ _ (.last _ M ?_ (hpe.trans (Hp0.out.1.append Hp0.out.2)) hso)
                  rw [hpe.length_eq, List.length_append]; have := Hl1.out; have := Hrl.out; omega)
                clear hp4 hg4 hpe hso
                go_wp2_with fail
                go_roundw
                case rel => exact ⟨2 * bs, _, int_eq (by omega), by omega, by omega, Hfin.out, Hp4.out⟩
                case measure => simp [intOf]; omega
              · have hDl : D.length ≤ bs := by have := HSD.out; have := HS.out; omega
                obtain ⟨p1, p2⟩ := Ch.small ekey Hchd.out hDl
                have Hfin : Hid (Ch ekey (2 * bs) d (S ++ D)) := Lib.hid (by rw [Hd.out]; exact Hah.out _ _ (.last _ D (by omega) p1 p2))
                clear hm p1 p2
                go_wp2_with fail
                go_roundw
                case rel => exact ⟨2 * bs, _, int_eq (by omega), by omega, by omega, Hfin.out, Hpk3.out⟩
                case measure => simp [intOf]; omega
        · obtain ⟨p1, p2⟩ := Ch.small ekey Hch.out (by rw [Hlen.out]; omega)
          have Hp1 := Lib.hid p1
          have Hp2 := Lib.hid p2
          clear p1 p2
          go_wp2_with fail
          go_end0
          exact ⟨rfl, ⟨d', Hpk.out.pk, Hp1.out, Hp2.out⟩, (Hw1.out ▸ Hpk.out : Mm (w.alloc _) _ _ _ _ _ _ _ _).done⟩
end Go.Proofs.Ythpdcnjaodjjmaa.Slc

/- sort.SliceStable at a row of places. -/
namespace Go.Proofs.Ythpdcnjaodjjmaa.Slc
open Go Go.RowKit Go.Proofs.Ythpdcnjaodjjmaa Go.Proofs.Ythpdcnjaodjjmaa.SP
set_option linter.unusedVariables false

def RowAt (w : World) (g : Nat) (rest : List Value) (l : List El) : Prop := Blk w g 163 (l.flatMap (fun e => [nv e.1, nv e.2]) ++ rest).toArray
theorem pk_row (w : World) (g : Nat) (rest : List Value) (d : List TE) : PkAt w g rest d ↔ RowAt w g rest (d.map (·.1)) := by
  unfold PkAt RowAt
  rw [List.flatMap_map]; rfl
def noSwap (f : FuncId) : Value := .func (.func f) #[] #[]
set_option maxRecDepth 100000 in
set_option maxHeartbeats 1600000 in
theorem insertion_none (gv n : Nat) (f : FuncId) (w : World) (hn : n ≤ 1) :
    Calls Try.prog 131 #[.agg #[lessV gv, noSwap f], .int .i64 0, .int .i64 (n : Int)] w fun e w' => e = .returned (.tuple #[]) ∧ Below w.heap.size w w' := by
  have h1 : ¬ (1 : Int) < (n : Int) := by omega
  unfold lessV noSwap
  go_enter Try.func131, Try.ntmps131
  go_wp2_with fail
  go_loopw [6] (fun i wr => i = .int .i64 1 ∧ Below w.heap.size w wr) (fun i _ => 0)
  case atStart => exact ⟨rfl, (Below.refl _ _).alloc (Nat.le_refl _) _⟩
  case round =>
    obtain ⟨rfl, hb⟩ := hrel
    have HB := Lib.hid hb
    clear hb
    go_wp2_with fail
    go_end0
    exact ⟨rfl, HB.out⟩
set_option maxRecDepth 100000 in
set_option maxHeartbeats 1600000 in
theorem stable_none (gv n : Nat) (f : FuncId) (w : World) (hn : n ≤ 1) :
    Calls Try.prog 113 #[.agg #[lessV gv, noSwap f], .int .i64 (n : Int)] w fun e w' => e = .returned (.tuple #[]) ∧ Below w.heap.size w w' := by
  have h1 : ¬ (20 : Int) ≤ (n : Int) := by omega
  have h2 : ¬ (20 : Int) < (n : Int) := by omega
  have HB : Hid (Below w.heap.size w (w.alloc (.cells #[lessV gv, noSwap f] 183))) := Lib.hid ((Below.refl _ _).alloc (Nat.le_refl _) _)
  have HI := Lib.hid (insertion_none gv n f (w.alloc (.cells #[lessV gv, noSwap f] 183)) hn)
  unfold lessV noSwap at *
  go_enter Try.func113, Try.ntmps113
  go_wp2_with fail
  go_loopw [5, 6] (fun a b wr => a = .int .i64 0 ∧ b = .int .i64 20 ∧ wr = w.alloc (.cells #[.func (.func 103) #[] #[.pointer (some ⟨gv, 0, none⟩)], .func (.func f) #[] #[]] 183)) (fun _ _ _ => 0)
  case atStart => exact ⟨rfl, rfl, rfl⟩
  case round =>
    obtain ⟨rfl, rfl, rfl⟩ := hrel
    go_wp2_with fail
    refine (HI.out).mono ?_
    rintro e w2 ⟨rfl, hb⟩
    have HB2 := Lib.hid (HB.out.trans (hb.mono HB.out.size))
    clear hb
    go_wp2_with fail
    go_loopw [4] (fun a wr => a = .int .i64 20 ∧ wr = w2) (fun _ _ => 0)
    case atStart => exact ⟨rfl, rfl⟩
    case round =>
      obtain ⟨rfl, rfl⟩ := hrel
      go_wp2_with fail
      go_end0
      exact ⟨rfl, HB2.out⟩
/-- what the library's entries give at a slice of places -/
structure Ent (a b : Addr) : Prop where
  val : ∀ (p : Option Addr) (n c : Nat) (W : World), (callFunc 111 #[.iface 161 (.slice p n c)]).run Try.prog W = .ok (.value (.agg #[.pointer (some a), .pointer (some ⟨W.heap.size, 0, none⟩), .int .u64 151])) (W.alloc (.cells #[.slice p n c] 161))
  len : ∀ (x : Addr) (p : Option Addr) (n c : Nat) (W : World), W.cell? x = some (.slice p n c) → (callFunc 114 #[.agg #[.pointer (some a), .pointer (some x), .int .u64 151]]).run Try.prog W = .ok (.value (.int .i64 (n : Int))) W
  swap : ∀ (p : Option Addr) (n c : Nat) (W : World), (callFunc 112 #[.iface 161 (.slice p n c)]).run Try.prog W = .ok (.value (if n = 0 then noSwap 122 else if n = 1 then noSwap 123 else .func (.func 130) #[] #[.slice p n c, .pointer (some b)])) W
  hdl : hdl = .pointer (some b)
theorem kind_place (w : World) : (Extern.Rtype.kind 163).run Try.prog w = .ok 25 w := by kernel_rfl
theorem entries : ∃ a b, Ent a b := by
  have h1 : (Try.prog.info? 161).map (fun i => i.desc) = some (.slice 163) := by kernel_rfl
  cases hi : Try.prog.info? 161 with
  | none => rw [hi] at h1; cases h1
  | some i =>
    rw [hi] at h1
    have hd : i.desc = .slice 163 := by simpa using h1
    have h2 : (Try.prog.info? 163).map (fun i => (i.hasPointers, i.bytes)) = some (false, 16) := by kernel_rfl
    cases hie : Try.prog.info? 163 with
    | none => rw [hie] at h2; cases h2
    | some ie =>
      rw [hie] at h2
      simp only [Option.map_some, Option.some.injEq, Prod.mk.injEq] at h2
      refine ⟨⟨Try.prog.globals.size, 161, none⟩, ⟨Try.prog.globals.size, 163, none⟩, ?_, ?_, ?_, rfl⟩
      · intro p n c W
        rw [run_callFunc_extern Try.func111 (by kernel_rfl) (by kernel_rfl) (by kernel_rfl) (e := fun args => Extern.ReflectliteValue.unpack (args.getD 0 (.tuple #[]))) (by kernel_rfl)]
        rw [show Sem.run Try.prog ((fun args : Array Value => Extern.ReflectliteValue.unpack (args.getD 0 (.tuple #[]))) #[.iface 161 (.slice p n c)]) W = _ from Lib.run_valueOf_slice (P := Try.prog) _ _ i hi hd p n c W]
        rfl
      · intro x p n c W hx
        rw [run_callFunc_extern Try.func114 (by kernel_rfl) (by kernel_rfl) (by kernel_rfl) (e := Extern.ReflectliteValue.method (Extern.ReflectliteValue.valueError "reflectlite.Value.Len" 0) Extern.ReflectliteValue.len) (by kernel_rfl)]
        rw [show Sem.run Try.prog (Extern.ReflectliteValue.method (Extern.ReflectliteValue.valueError "reflectlite.Value.Len" 0) Extern.ReflectliteValue.len #[.agg #[.pointer (some ⟨Try.prog.globals.size, 161, none⟩), .pointer (some x), .int .u64 151]]) W = _ from Lib.run_valueLen_slice (P := Try.prog) _ _ i hi hd (by kernel_rfl) x p n c W hx]
        rfl
      · intro p n c W
        rw [run_callFunc_extern Try.func112 (by kernel_rfl) (by kernel_rfl) (by kernel_rfl) (e := Extern.ReflectliteSwapper.swapper "internal/reflectlite" (Extern.ReflectliteValue.valueError "Swapper")) (by kernel_rfl)]
        rcases Nat.eq_zero_or_pos n with h0 | h0
        · subst h0
          have e9 : Lib.swapperK 0 ie 25 = 1 := rfl
          rw [Lib.run_swapper_slice (P := Try.prog) _ _ i ie hi hd hie 25 kind_place p 0 c 122 (by rw [e9]; kernel_rfl) W, e9]
          rfl
        · by_cases h1' : n = 1
          · subst h1'
            have e9 : Lib.swapperK 1 ie 25 = 2 := rfl
            rw [Lib.run_swapper_slice (P := Try.prog) _ _ i ie hi hd hie 25 kind_place p 1 c 123 (by rw [e9]; kernel_rfl) W, e9]
            rfl
          · have e9 : Lib.swapperK n ie 25 = 9 := by
              unfold Lib.swapperK
              rw [h2.1, h2.2]
              have e0 : (n == 0) = false := by simp; omega
              have e1 : (n == 1) = false := by simp; exact h1'
              simp [e0, e1]
            rw [Lib.run_swapper_slice (P := Try.prog) _ _ i ie hi hd hie 25 kind_place p n c 130 (by rw [e9]; kernel_rfl) W, e9, if_neg (by omega), if_neg (by omega), if_neg h1']
            rfl
set_option maxRecDepth 100000 in
set_option maxHeartbeats 1600000 in
theorem sliceStable_any (g gv N cap : Nat) (rest : List Value) (l : List El) (w : World) (h : RowAt w g rest l) (hv : Var w g gv N cap) (hN : l.length = N) (hN2 : N ≤ 1000000) :
    Calls Try.prog 102 #[.iface 161 (.slice (some ⟨g, 0, none⟩) N cap), lessV gv] w fun e w' => e = .returned (.tuple #[]) ∧ RowAt w' g rest (stab ekey l) ∧ w.grownBy w' (some g) := by
  obtain ⟨a, b, hent⟩ := entries
  have hval := hent.val
  have hlen := hent.len ⟨w.heap.size, 0, none⟩ (some ⟨g, 0, none⟩) N cap ((w.alloc (.cells #[.slice (some ⟨g, 0, none⟩) N cap] 161)).alloc (.cells #[.pointer (some a), .pointer (some ⟨w.heap.size, 0, none⟩), .int .u64 151] 178)) (by simp)
  have hswap := hent.swap (some ⟨g, 0, none⟩) N cap
  have Hh := Lib.hid hent.hdl
  have HR := Lib.hid h
  have HV := Lib.hid hv
  have HN := Lib.hid hN
  have hgv : gv < w.heap.size := hv.var.lt
  have hgg : g < w.heap.size := Blk.lt h
  clear hent h hv hN
  obtain ⟨w2, hw2⟩ : ∃ w2, w2 = ((w.alloc (.cells #[.slice (some ⟨g, 0, none⟩) N cap] 161)).alloc (.cells #[.pointer (some a), .pointer (some ⟨w.heap.size, 0, none⟩), .int .u64 151] 178)) := ⟨_, rfl⟩
  have hb2 : Below w.heap.size w w2 := by rw [hw2]; exact ((Below.refl _ _).alloc (Nat.le_refl _) _).alloc (by simp) _
  have Hb2 := Lib.hid hb2
  have HR2 : Hid (RowAt w2 g rest l) := Lib.hid (Blk.below HR.out hb2 hgg)
  have HV2 : Hid (Var w2 g gv N cap) := Lib.hid ⟨Blk.below HV.out.var hb2 hgv, HV.out.ne⟩
  have Hw2 := Lib.hid hw2
  clear hb2 hw2
  rcases (by omega : N = 0 ∨ N = 1 ∨ 2 ≤ N) with h0 | h0 | h0
  · subst h0
    rw [if_pos rfl] at hswap
    have HS := Lib.hid (stable_none gv 0 122 w2 (by omega))
    have hl : l = [] := List.eq_nil_of_length_eq_zero HN.out
    subst hl
    rw [Hw2.out] at HS
    unfold lessV noSwap at *
    go_enter Try.func102, Try.ntmps102
    go_wp2_with fail
    refine (HS.out).mono ?_
    rintro e w3 ⟨rfl, hb3⟩
    rw [← Hw2.out] at hb3
    have HB3 := Lib.hid (Hb2.out.trans (hb3.mono Hb2.out.size))
    have HR3 : Hid (RowAt w3 g rest []) := Lib.hid (Blk.below HR2.out hb3 (Blk.lt HR2.out))
    clear hb3 hval hlen hswap
    go_wp2_with fail
    go_end0
    exact ⟨rfl, by rw [List.perm_nil.1 (stab_perm ekey ([] : List El))]; exact HR3.out, grown_below (World.grownBy.refl _ _) HB3.out⟩
  · subst h0
    rw [if_neg (by omega), if_pos rfl] at hswap
    have HS := Lib.hid (stable_none gv 1 123 w2 (by omega))
    have hl : stab ekey l = l := by
      have := HN.out
      match l, this with
      | [x], _ => exact List.perm_singleton.1 (stab_perm ekey [x])
    have Hl := Lib.hid hl
    rw [Hw2.out] at HS
    unfold lessV noSwap at *
    clear hl
    go_enter Try.func102, Try.ntmps102
    go_wp2_with fail
    refine (HS.out).mono ?_
    rintro e w3 ⟨rfl, hb3⟩
    rw [← Hw2.out] at hb3
    have HB3 := Lib.hid (Hb2.out.trans (hb3.mono Hb2.out.size))
    have HR3 : Hid (RowAt w3 g rest l) := Lib.hid (Blk.below HR2.out hb3 (Blk.lt HR2.out))
    clear hb3 hval hlen hswap
    go_wp2_with fail
    go_end0
    exact ⟨rfl, by rw [Hl.out]; exact HR3.out, grown_below (World.grownBy.refl _ _) HB3.out⟩
  · rw [if_neg (by omega), if_neg (by omega)] at hswap
    have HS := Lib.hid (stable_any g gv N cap rest l.zipIdx w2 ((pk_row w2 g rest _).2 (by rw [List.zipIdx_map_fst]; exact HR2.out)) HV2.out (by simpa using HN.out) hN2 (rise_zip l 0))
    rw [Hw2.out] at HS
    unfold lessV swapV at *
    rw [Hh.out] at HS
    go_enter Try.func102, Try.ntmps102
    go_wp2_with fail
    refine (HS.out).mono ?_
    rintro e w3 ⟨rfl, ⟨d', hp, hpe, hso⟩, hg⟩
    rw [← Hw2.out] at hg
    have HR3 : Hid (RowAt w3 g rest (stab ekey l)) := Lib.hid (by
      rw [← stab_unique ekey l d' hpe hso]; exact (pk_row _ _ _ _).1 hp)
    have HG := Lib.hid ((grown_below (World.grownBy.refl w (some g)) Hb2.out).trans hg)
    clear hp hpe hso hg hval hlen hswap
    go_wp2_with fail
    go_end0
    exact ⟨rfl, HR3.out, HG.out⟩
end Go.Proofs.Ythpdcnjaodjjmaa.Slc

/- sort.SliceStable at an own row of places, none too. -/
namespace Go.Proofs.Ythpdcnjaodjjmaa.Slc
open Go Go.RowKit Go.Proofs.Ythpdcnjaodjjmaa Go.Proofs.Ythpdcnjaodjjmaa.SP
set_option linter.unusedVariables false

set_option maxRecDepth 100000 in
set_option maxHeartbeats 1600000 in
theorem sliceStable_nil (gv : Nat) (w : World) :
    Calls Try.prog 102 #[.iface 161 (.slice none 0 0), lessV gv] w fun e w' => e = .returned (.tuple #[]) ∧ Below w.heap.size w w' := by
  obtain ⟨a, b, hent⟩ := entries
  have hval := hent.val
  have hlen := hent.len ⟨w.heap.size, 0, none⟩ none 0 0 ((w.alloc (.cells #[.slice none 0 0] 161)).alloc (.cells #[.pointer (some a), .pointer (some ⟨w.heap.size, 0, none⟩), .int .u64 151] 178)) (by simp)
  have hswap := hent.swap none 0 0
  rw [if_pos rfl] at hswap
  clear hent
  obtain ⟨w2, hw2⟩ : ∃ w2, w2 = ((w.alloc (.cells #[.slice none 0 0] 161)).alloc (.cells #[.pointer (some a), .pointer (some ⟨w.heap.size, 0, none⟩), .int .u64 151] 178)) := ⟨_, rfl⟩
  have hb2 : Below w.heap.size w w2 := by rw [hw2]; exact ((Below.refl _ _).alloc (Nat.le_refl _) _).alloc (by simp) _
  have Hb2 := Lib.hid hb2
  have Hw2 := Lib.hid hw2
  have HS := Lib.hid (stable_none gv 0 122 w2 (by omega))
  rw [hw2] at HS
  clear hb2 hw2
  unfold lessV noSwap at *
  go_enter Try.func102, Try.ntmps102
  go_wp2_with fail
  refine (HS.out).mono ?_
  rintro e w3 ⟨rfl, hb3⟩
  rw [← Hw2.out] at hb3
  have HB3 := Lib.hid (Hb2.out.trans (hb3.mono Hb2.out.size))
  clear hb3 hval hlen hswap
  go_wp2_with fail
  go_end0
  exact ⟨rfl, HB3.out⟩
def plC (e : El) : List Value := [nv e.1, nv e.2]
theorem plC_len (l : List El) : (l.flatMap plC).length = l.length * 2 := by
  induction l with
  | nil => rfl
  | cons a l ih => rw [List.flatMap_cons, List.length_append, ih]; simp [plC]; omega
/-- an own row of places, sorted -/
theorem sort_own (base gv N : Nat) (v : Value) (l : List El) (w : World) (ho : w.ownsRow base 163 2 v N (l.flatMap plC)) (hv : Blk w gv 161 #[v]) (hgv : gv < base) (hN : N ≤ 1000000) :
    Calls Try.prog 102 #[.iface 161 v, lessV gv] w fun e w' => e = .returned (.tuple #[]) ∧ w'.ownsRow base 163 2 v N ((stab ekey l).flatMap plC) ∧ w.grownBy w' v.ownBlock := by
  have hl : l.length = N := by have := ho.1; rw [plC_len] at this; omega
  rcases ho.2 with ⟨rfl, hn⟩ | ⟨g, cap, cur, rfl, hbg, hg, hnc, hcm, hcs, htake⟩
  · have h0 : l = [] := List.eq_nil_of_length_eq_zero (hl.trans hn)
    subst h0
    refine (sliceStable_nil gv w).mono ?_
    rintro e w' ⟨rfl, hb⟩
    rw [List.perm_nil.1 (stab_perm ekey ([] : List El))]
    subst hn
    exact ⟨rfl, World.ownsRow_nil _ _ _ _, grown_below (World.grownBy.refl _ _) hb⟩
  · have hR : RowAt w g (cur.toList.drop (N * 2)) l := by
      unfold RowAt Blk
      rw [hg]
      have : l.flatMap (fun e => [nv e.1, nv e.2]) = cur.toList.take (N * 2) := htake.symm
      rw [this, List.take_append_drop]
    refine (sliceStable_any g gv N cap _ l w hR ⟨hv, by omega⟩ hl hN).mono ?_
    rintro e w' ⟨rfl, hR', hgr⟩
    refine ⟨rfl, ⟨by rw [plC_len, stab_length]; omega, .inr ⟨g, cap, _, rfl, hbg, hR', hnc, hcm, ?_, ?_⟩⟩, hgr⟩
    · have h1 : ((stab ekey l).flatMap plC).length = N * 2 := by rw [plC_len, stab_length, hl]
      show (((stab ekey l).flatMap plC) ++ cur.toList.drop (N * 2)).toArray.size = cap * 2
      have h2 : N * 2 ≤ cap * 2 := by omega
      simp [h1, hcs]; omega
    · have h1 : ((stab ekey l).flatMap plC).length = N * 2 := by rw [plC_len, stab_length, hl]
      show ((((stab ekey l).flatMap plC) ++ cur.toList.drop (N * 2)).toArray.toList).take (N * 2) = _
      rw [List.toList_toArray, List.take_append_of_le_length (by omega), List.take_of_length_le (by omega)]
end Go.Proofs.Ythpdcnjaodjjmaa.Slc

/- reading: from the form's reading of an argument to cells. No program in sight. -/
namespace Go.Proofs.Ythpdcnjaodjjmaa
open Go Go.ChangeShapes Go.WideShapes Go.ChangeAt Go.RowKit
set_option linter.unusedVariables false

/-- whatever is read at type t has the cells of some a, and what lies deeper is as 'deep' says -/
def Rd {α : Type} (H : Type) (enc : TypeId × Value → H) (P : Program) (w : World) (t : TypeId) (cells : α → List Value) (deep : α → Prop) : Prop :=
  ∀ (base : Nat) (spare : Nat → Bool) (held : Bool) (fuel : Nat) (cs : List Value) (x : DataW H × List MemPlace), DataW.trod enc P w base spare held fuel t cs = some x → ∃ a, cs = cells a ∧ deep a
/-- a slice that came in: where it lies, its capacity, its elements -/
structure SlV (α : Type) where
  A : Option Addr
  cap : Nat
  l : List α
def slCells {α : Type} (s : SlV α) : List Value := [.slice s.A s.l.length s.cap]
def slDeep {α : Type} (w : World) (cells : α → List Value) (deep : α → Prop) (s : SlV α) : Prop :=
  s.l.length ≤ s.cap ∧ s.cap ≤ maxLen ∧ SlAt w s.A (s.l.flatMap cells) ∧ (s.A = none → s.l = []) ∧ ∀ a ∈ s.l, deep a

section
variable {H : Type} {enc : TypeId × Value → H} {P : Program} {w : World}
theorem rd_int {t : TypeId} {k : IntKind} (ht : P.underlying t = some (.int k)) : Rd H enc P w t (fun n : Int => [.int k n]) (fun n => (Lit.int k n).wf = true) := by
  intro base spare held fuel cs x h
  obtain ⟨n, h1, _, h3⟩ := DataW.trod_int ht h
  exact ⟨n, h1, h3⟩
theorem rd_bool {t : TypeId} (ht : P.underlying t = some .bool) : Rd H enc P w t (fun b : Bool => [.bool b]) (fun _ => True) := by
  intro base spare held fuel cs x h
  obtain ⟨b, h1, _⟩ := DataW.trod_bool ht h
  exact ⟨b, h1, trivial⟩
theorem rd_string {t : TypeId} (ht : P.underlying t = some .string) : Rd H enc P w t (fun s : ByteArray => [.string s]) (fun s => s.size ≤ maxLen) := by
  intro base spare held fuel cs x h
  obtain ⟨s, h1, _, h3⟩ := DataW.trod_string ht h
  exact ⟨s, h1, h3⟩
theorem rd_bytes {t e : TypeId} (ht : P.underlying t = some (.slice e)) (he : P.underlying e = some (.int .u8)) (hc : P.cellsOf e = 1) :
    Rd H enc P w t (fun p : Value × List UInt8 => [p.1]) (fun p => IsBytes w p.1 p.2) := by
  intro base spare held fuel cs x h
  obtain ⟨A, len, cap, hcs⟩ : ∃ A len cap, cs = [Value.slice A len cap] := by
    rcases open_ints ht he hc h with ⟨hcs, _⟩ | ⟨x, l, c, zs, hcs, _⟩
    · exact ⟨_, _, _, hcs⟩
    · exact ⟨_, _, _, hcs⟩
  subst hcs
  obtain ⟨xs, hx⟩ := open_bytes_trod (enc := enc) ht he hc h
  exact ⟨(_, xs), rfl, hx⟩
theorem addr_add (b o j : Nat) : (Addr.add ⟨b, o, none⟩ j) = ⟨b, o + j, none⟩ := by
  unfold Addr.add; split
  · subst_vars; rfl
  · rfl
theorem cells_some {base : Nat} {a : Addr} {n : Nat} {cs : List Value} (h : w.cells? base a n = some cs) : cs.length = n ∧ ∀ i v, cs[i]? = some v → w.cell? (a.add i) = some v := by
  obtain ⟨_, h1, h2⟩ := World.cells?_some h
  refine ⟨h1, fun i v hi => ?_⟩
  have hlt : i < n := by
    rcases Nat.lt_or_ge i cs.length with h | h
    · omega
    · rw [List.getElem?_eq_none h] at hi; cases hi
  rw [h2 i hlt, hi]
theorem flat_get {α : Type} (f : α → List Value) (size : Nat) (hs : ∀ a, (f a).length = size) (hpos : 0 < size) (l : List α) (j : Nat) (v : Value) (h : (l.flatMap f)[j]? = some v) :
    ∃ a, l[j / size]? = some a ∧ (f a)[j % size]? = some v := by
  induction l generalizing j with
  | nil => simp at h
  | cons a l ih =>
    rw [List.flatMap_cons] at h
    by_cases hj : j < size
    · rw [List.getElem?_append_left (by rw [hs]; exact hj)] at h
      exact ⟨a, by rw [Nat.div_eq_of_lt hj]; rfl, by rw [Nat.mod_eq_of_lt hj]; exact h⟩
    · rw [List.getElem?_append_right (by rw [hs]; omega), hs] at h
      obtain ⟨b, h1, h2⟩ := ih _ h
      have e1 : j / size = (j - size) / size + 1 := by rw [Nat.div_eq_sub_div hpos (by omega)]
      have e2 : j % size = (j - size) % size := by rw [Nat.mod_eq_sub_mod (by omega)]
      exact ⟨b, by rw [e1]; exact h1, by rw [e2]; exact h2⟩
theorem rd_slice {α : Type} [Inhabited α] {t e : TypeId} {cells : α → List Value} {deep : α → Prop} {size : Nat} (ht : P.underlying t = some (.slice e)) (hsz : P.cellsOf e = size) (hpos : 0 < size) (hc : ∀ a, (cells a).length = size) (he : Rd H enc P w e cells deep)
    {base : Nat} {spare : Nat → Bool} {held : Bool} {fuel : Nat} {cs : List Value} {x : DataW H × List MemPlace} (h : DataW.trod enc P w base spare held fuel t cs = some x) :
    ∃ s : SlV α, cs = slCells s ∧ slDeep w cells deep s ∧ dlen x.1 = s.l.length := by
  rcases Deep.open_slice ht h with ⟨rfl, rfl⟩ | ⟨a, len, cap, m, n, D, Pl, rfl, hb, hl, hm, hmm, rfl, hel⟩
  · exact ⟨⟨none, 0, []⟩, rfl, ⟨Nat.le_refl _, (by show (0 : Nat) ≤ maxLen; unfold maxLen; omega), SlAt.nil, fun _ => rfl, fun a ha => by simp at ha⟩, rfl⟩
  · rw [hsz] at hel
    have hlm : len ≤ m := by rw [hmm]; split <;> omega
    obtain ⟨f, hf⟩ := Deep.choose_lt (α := α) (p := fun i a => w.cells? base (Addr.add ‹Addr› (i * size)) size = some (cells a) ∧ deep a) (n := len) (fun i hi => by
      obtain ⟨cs', h1, h2⟩ := hel i (by omega)
      obtain ⟨a', rfl, hd⟩ := he _ _ _ _ _ _ h2
      exact ⟨a', h1, hd⟩)
    refine ⟨⟨some a, cap, (List.range len).map f⟩, by simp [slCells], ⟨by simpa using hl, hm, ?_, by simp, ?_⟩, by simp [dlen]⟩
    · intro hp
      have hlen : 0 < len := by
        rcases Nat.eq_zero_or_pos len with h0 | h0
        · subst h0; simp at hp
        · exact h0
      obtain ⟨b, o, s⟩ := a
      have hs : s = none := by
        obtain ⟨h1, _⟩ := hf 0 hlen
        obtain ⟨h2, h3⟩ := cells_some h1
        have := h3 0 ((cells (f 0))[0]'(by rw [hc]; exact hpos)) (by simp)
        simp [Addr.add] at this
        exact cell_spot this
      subst hs
      refine ⟨b, o, rfl, fun j v hj => ?_⟩
      obtain ⟨a', h1, h2⟩ := flat_get cells size hc hpos _ _ _ hj
      have hjl : j / size < len := by
        have : j / size < ((List.range len).map f).length := by
          rcases Nat.lt_or_ge (j / size) ((List.range len).map f).length with h | h
          · exact h
          · rw [List.getElem?_eq_none h] at h1; cases h1
        simpa using this
      have ha' : f (j / size) = a' := by simpa [hjl] using h1
      obtain ⟨h3, _⟩ := hf _ hjl
      rw [ha', addr_add] at h3
      obtain ⟨_, h4⟩ := cells_some h3
      have h5 := h4 _ _ h2
      rw [addr_add] at h5
      rw [← h5]
      congr 2
      have := Nat.div_add_mod j size
      rw [Nat.mul_comm] at this
      omega
    · intro a' ha'
      simp at ha'
      obtain ⟨i, hi, rfl⟩ := ha'
      exact (hf i hi).2
end
end Go.Proofs.Ythpdcnjaodjjmaa

/- slices that are read, in general; pairs of numbers. -/
namespace Go.Proofs.Ythpdcnjaodjjmaa
open Go Go.ChangeShapes Go.WideShapes Go.ChangeAt Go.RowKit
set_option linter.unusedVariables false

/-- v is a slice whose elements are l -/
def IsL {α : Type} (w : World) (cells : α → List Value) (deep : α → Prop) (v : Value) (l : List α) : Prop :=
  ∃ A cap, v = .slice A l.length cap ∧ l.length ≤ cap ∧ cap ≤ maxLen ∧ SlAt w A (l.flatMap cells) ∧ (A = none → l = []) ∧ ∀ a ∈ l, deep a
theorem open_L {H : Type} {enc : TypeId × Value → H} {P : Program} {w : World} {α : Type} [Inhabited α] {t e : TypeId} {cells : α → List Value} {deep : α → Prop} {size : Nat} (ht : P.underlying t = some (.slice e)) (hsz : P.cellsOf e = size) (hpos : 0 < size) (hc : ∀ a, (cells a).length = size)
    (he : ∀ enc : TypeId × Value → H, Rd H enc P w e cells deep) {base b0 : Nat} {spare : Nat → Bool} {held : Bool} {r : Reach} {v : Value} {d : DataW H} {ps : List MemPlace} (hv : Value.okWide P w r b0 t v) (h : DataW.Trod enc P w base spare held t v d ps) :
    ∃ l : List α, IsL w cells deep v l ∧ dlen d = l.length := by
  obtain ⟨A, len, cap, rfl⟩ := okWide_slice ht hv
  obtain ⟨fuel, hf⟩ := h
  obtain ⟨s, h1, h2, h3⟩ := rd_slice ht hsz hpos hc (he enc) hf
  refine ⟨s.l, ⟨s.A, s.cap, ?_, h2⟩, h3⟩
  simpa [Value.cells, slCells] using h1
def pairC (p : Int × Int) : List Value := [iv p.1, iv p.2]
def intC (x : Int) : List Value := [iv x]
def wfI (x : Int) : Prop := (Lit.int .i64 x).wf = true
theorem rd_pair {H : Type} {enc : TypeId × Value → H} {P : Program} {w : World} {t e : TypeId} (ht : P.underlying t = some (.array 2 e)) (he : P.underlying e = some (.int .i64)) (hc : P.cellsOf e = 1) (hc2 : P.cellsOf t = 2) :
    Rd H enc P w t pairC (fun p => wfI p.1 ∧ wfI p.2) := by
  intro base spare held fuel cs x h
  obtain ⟨xs, m, _, _, hl, hxl, hel⟩ := DataW.trod_array ht h
  rw [hc2] at hl
  have h0 := hel 0 (by omega)
  have h1 := hel 1 (by omega)
  rw [hc] at h0 h1
  match cs, hl with
  | [a, b], _ =>
    simp at h0 h1
    have hx0 : ∃ y, xs[0]? = some y := ⟨xs[0]'(by omega), by simp⟩
    have hx1 : ∃ y, xs[1]? = some y := ⟨xs[1]'(by omega), by simp⟩
    obtain ⟨y0, e0⟩ := hx0
    obtain ⟨y1, e1⟩ := hx1
    rw [e0] at h0
    rw [e1] at h1
    obtain ⟨n0, q0, _, w0⟩ := DataW.trod_int he h0
    obtain ⟨n1, q1, _, w1⟩ := DataW.trod_int he h1
    injection q0 with q0 _
    injection q1 with q1 _
    subst q0 q1
    exact ⟨(n0, n1), rfl, w0, w1⟩
theorem rd_i64 {H : Type} {enc : TypeId × Value → H} {P : Program} {w : World} {t : TypeId} (ht : P.underlying t = some (.int .i64)) : Rd H enc P w t intC wfI := rd_int ht
theorem flat_at {α : Type} (f : α → List Value) (size : Nat) (hs : ∀ a, (f a).length = size) (l : List α) (k j : Nat) (hk : k < l.length) (hj : j < size) : (l.flatMap f)[k * size + j]? = (f l[k])[j]? := by
  induction l generalizing k with
  | nil => simp at hk
  | cons a l ih =>
    rw [List.flatMap_cons]
    cases k with
    | zero => rw [List.getElem?_append_left (by rw [hs]; omega)]; simp
    | succ k =>
      rw [List.getElem?_append_right (by rw [hs]; rw [Nat.succ_mul]; omega), hs, show (k + 1) * size + j - size = k * size + j by rw [Nat.succ_mul]; omega, ih k (by simpa using hk)]
      simp
theorem slat_elem {α : Type} {w : World} {A : Option Addr} {f : α → List Value} {size : Nat} (hs : ∀ a, (f a).length = size) (hpos : 0 < size) {l : List α} (h : SlAt w A (l.flatMap f)) {k : Nat} (hk : k < l.length) :
    ∃ b o, A = some ⟨b, o, none⟩ ∧ ∀ j v, (f l[k])[j]? = some v → w.cell? ⟨b, o + k * size + j, none⟩ = some v := by
  have hlen : (l.flatMap f).length = l.length * size := by
    clear hk h
    induction l with
    | nil => simp
    | cons a l ih => rw [List.flatMap_cons, List.length_append, hs, ih, List.length_cons, Nat.succ_mul]; omega
  have hp : 0 < (l.flatMap f).length := by rw [hlen]; exact Nat.mul_pos (by omega) hpos
  obtain ⟨b, o, e, hc⟩ := h hp
  refine ⟨b, o, e, fun j v hj => ?_⟩
  rw [Nat.add_assoc]
  refine hc _ v ?_
  have hjs : j < size := by
    rcases Nat.lt_or_ge j (f l[k]).length with h | h
    · rw [hs] at h; exact h
    · rw [List.getElem?_eq_none h] at hj; cases hj
  rw [flat_at f size hs l k j hk hjs, hj]
end Go.Proofs.Ythpdcnjaodjjmaa

/- package reliquaryref: CodesOf: the walk. -/
namespace Go.Proofs.Ythpdcnjaodjjmaa.Cds
open Go Go.RowKit Go.Proofs.Ythpdcnjaodjjmaa Go.Proofs.Ythpdcnjaodjjmaa.Bits Go.Proofs.Ythpdcnjaodjjmaa.Code Go.Proofs.Ythpdcnjaodjjmaa.SP Go.Proofs.Ythpdcnjaodjjmaa.Slc
set_option linter.unusedVariables false
set_option linter.unusedSimpArgs false

theorem tyPl : SliceTy Try.prog 161 163 (.agg #[.int .i64 0, .int .i64 0]) 2 16 := ⟨Try.underlying161, by kernel_rfl, rfl, by omega⟩
theorem infoS : (Try.prog.info? 9).map (fun i => (i.zero, i.size, i.bytes)) = some (some (.string ⟨#[]⟩), 1, 16) := by kernel_rfl
theorem make_strs (n : Nat) (hn : n ≤ 1000000) (u : World) : (Instr.makeSlice 135 (.int .i64 (n : Int)) (.int .i64 (n : Int))).run Try.prog u =
      .ok (.slice (some ⟨u.heap.size, 0, none⟩) n n) (u.alloc (.cells (madeCells #[.string ⟨#[]⟩] n) 9)) := by
  obtain ⟨i0, hi, hz0, hz1, hz2⟩ := info_parts infoS
  have h := run_make (P := Try.prog) u 135 9 i0 (.string ⟨#[]⟩) Try.underlying135 hi hz0 .i64 .i64 (n : Int) (n : Int) (by omega) (Int.le_refl _) (by rw [hz2]; omega) (by omega)
  simpa [hz1, Value.cells] using h
theorem rowS_take (l : List Bool) (k : Nat) : (strB (rowS l)).extract 0 k = strB (rowS (l.take k)) := by
  apply ByteArray.ext
  simp [strB, rowS, List.map_take]
theorem row_more (a : List Bool) (t : Nat) : (strB (rowS (a ++ false :: List.replicate t true))).extract 0 a.length ++ ⟨#[49]⟩ ++ strB (List.replicate t 48) = strB (rowS (a ++ true :: List.replicate t false)) := by
  have h1 : (⟨#[49]⟩ : ByteArray) = strB [49] := rfl
  rw [rowS_take, List.take_left', h1, strB_append, strB_append]
  · congr 1
    simp [rowS, ch]
  · rfl
theorem row_far (l : List Bool) (t : Nat) : strB (rowS l) ++ strB (List.replicate t 48) = strB (rowS (l ++ List.replicate t false)) := by
  rw [strB_append, rowS_append]
  congr 2
  simp [rowS, ch]
/-- the codes so far, where they stand -/
def outC (ls : List Nat) (o : List Nat) (n : Nat) : Array Value := ((List.range n).map fun i => if i ∈ o then rowV (codeS ls i) else .string ⟨#[]⟩).toArray
theorem outC_none (ls : List Nat) (n : Nat) : madeCells #[.string ⟨#[]⟩] n = outC ls [] n := by
  unfold madeCells outC
  apply Array.ext'
  simp
  intro a _
  simp [Nat.mod_one]
theorem outC_put (ls o : List Nat) (n i : Nat) (h : i < n) : (outC ls o n).setIfInBounds i (rowV (codeS ls i)) = outC ls (o ++ [i]) n := by
  unfold outC
  apply Array.ext'
  simp only [List.setIfInBounds_toArray]
  apply List.ext_getElem
  · simp
  · intro j h1 h2
    simp only [List.length_set, List.length_map, List.length_range] at h1
    rw [List.getElem_set]
    simp only [List.getElem_map, List.getElem_range, List.mem_append, List.mem_singleton]
    by_cases e : i = j
    · subst e; simp
    · rw [if_neg e]
      have e2 : ¬ j = i := fun h => e h.symm
      simp [e2]
theorem outC_all (ls : List Nat) (hl : ∀ x ∈ ls, x ≤ 15) : outC ls (ordUp ls 15) ls.length = ((List.range ls.length).map fun i => rowV (codeS ls i)).toArray := by
  unfold outC
  congr 1
  apply List.map_congr_left
  intro i hi
  rw [List.mem_range] at hi
  split
  · rfl
  · rename_i h
    rw [ordUp_mem] at h
    have h0 : ls.getD i 0 = 0 := by
      by_cases h0 : ls.getD i 0 = 0
      · exact h0
      · refine absurd ⟨hi, h0, ?_⟩ h
        rw [List.getD_eq_getElem?_getD, List.getElem?_eq_getElem hi]
        exact hl _ (List.getElem_mem hi)
    rw [codeS_none ls i h0]; rfl
/-- the code in hand -/
def curV (ls : List Nat) (o : List Nat) : Nat → Value
  | 0 => .string ⟨#[]⟩
  | j + 1 => rowV (codeS ls (o.getD j 0))
theorem own_setLow {w : World} {base : Nat} {e : TypeId} {size n : Nat} {v : Value} {xs : List Value} (h : w.ownsRow base e size v n xs) (p : Addr) (hp : p.block < base) (u : Value) : (w.setCell p u).ownsRow base e size v n xs := by
  refine ⟨h.1, ?_⟩
  rcases h.2 with h1 | ⟨g, cap, cur, hv, hbg, hg, r⟩
  · exact .inl h1
  · exact .inr ⟨g, cap, cur, hv, hbg, (Below.heap_setCell w p u g (by omega)).trans hg, r⟩
theorem own_lowV {w w' : World} {base B : Nat} {e : TypeId} {size n : Nat} {v : Value} {xs : List Value} (h : w.ownsRow base e size v n xs) (hb : Below B w w') (hlt : ∀ k, v.ownBlock = some k → k < B) : w'.ownsRow base e size v n xs := by
  refine ⟨h.1, ?_⟩
  rcases h.2 with h1 | ⟨g, cap, cur, rfl, hbg, hg, r⟩
  · exact .inl h1
  · exact .inr ⟨g, cap, cur, rfl, hbg, by rw [hb.block g (hlt g rfl)]; exact hg, r⟩
theorem curV_zero (ls o : List Nat) : curV ls o 0 = .string ⟨#[]⟩ := rfl
theorem curV_succ (ls o : List Nat) (j i : Nat) (h : j < o.length) (e : o[j] = i) : curV ls o (j + 1) = rowV (codeS ls i) := by
  show rowV (codeS ls (o.getD j 0)) = _
  rw [List.getD_eq_getElem?_getD, List.getElem?_eq_getElem h, e]; rfl
theorem outC_cell (ls o : List Nat) (n i : Nat) (h : i < n) : ∃ u, (outC ls o n)[i]? = some u := by
  unfold outC
  simp [h]
set_option maxRecDepth 100000 in
set_option maxHeartbeats 8000000 in
theorem codesOf_any (A : Option Addr) (n c : Nat) (zs : List Int) (w : World) (hn : zs.length = n) (hA : InAt w A zs) (hc : chkL zs = 0) :
    Calls Try.prog 83 #[.slice A n c] w fun e w' => (∃ g, e = .returned (.slice (some ⟨g, 0, none⟩) n n) ∧ w.heap.size ≤ g ∧ Blk w' g 9 ((List.range n).map fun i => rowV (codeS (lsOf zs) i)).toArray) ∧ Below w.heap.size w w' := by
  obtain ⟨f1, f2, f3, f4, f5⟩ := chk_fine zs hc
  have hx : n ≤ 288 := by omega
  have Hl := Lib.hid (lsOf_len zs)
  rw [hn] at Hl
  have F4 := Lib.hid f4
  have F3 := Lib.hid f3
  have H5 := Lib.hid f5
  have Hn := Lib.hid hn
  have HA := Lib.hid hA
  have hmk := make_strs n (by omega)
  have Hz := Lib.hid (outC_none (lsOf zs) n)
  have Hst := Lib.hid (stab_places (lsOf zs) f4)
  have Hmem := Lib.hid (ordUp_mem (lsOf zs) 15)
  clear hn hA hc f1 f2 f3 f4 f5
  go_enter Try.func83, Try.ntmps83
  go_wp2_with fail
  generalize hb0 : w.heap.size = b0 at *
  have Hb0 := Lib.hid hb0
  clear hb0
  go_loopw [13] (fun i wr => ∃ (k : Nat) (v : Value), k ≤ n ∧ i = .int .i64 (k : Int) ∧ Blk wr b0 161 #[v] ∧ wr.ownsRow (b0 + 1) 163 2 v (placesL ((lsOf zs).take k)).length ((placesL ((lsOf zs).take k)).flatMap plC) ∧ Below b0 w wr) (fun i _ => n - (intOf i).toNat)
  case atStart => exact ⟨0, _, Nat.zero_le _, rfl, by have := Blk.new w 161 #[.slice none 0 0]; rw [Hb0.out] at this; exact this, World.ownsRow_nil _ _ _ _, (Below.refl _ _).alloc (by rw [Hb0.out]; exact Nat.le_refl _) _⟩
  case round =>
    obtain ⟨k, v, hk, rfl, hbox, hown, hbr⟩ := hrel
    have Hbox := Lib.hid hbox
    have Hown := Lib.hid hown
    have Hbr := Lib.hid hbr
    have hc0 : wr.cell? ⟨b0, 0, none⟩ = some v := (hbox.cell 0).trans rfl
    have hf0 := hbox.frozen 0
    clear hbox hown hbr
    have hpl : (placesL ((lsOf zs).take k)).length ≤ k := by
      refine Nat.le_trans (placesL_len _) ?_
      rw [List.length_take]; omega
    by_cases hlt : k < n
    · have hkl : k < zs.length := by rw [Hn.out]; exact hlt
      have hkl2 : k < (lsOf zs).length := by rw [Hl.out]; exact hlt
      obtain ⟨b, o, rfl, hcell⟩ := (HA.out.below (Hb0.out.symm ▸ Hbr.out)).get hkl
      have hz := H5.out zs[k] (List.getElem_mem hkl)
      have Hnext := Lib.hid (placesL_take (lsOf zs) k hkl2)
      have hd : (lsOf zs)[k] = zs[k].toNat := by simp [lsOf]
      rw [hd] at Hnext
      clear hd
      generalize zs[k] = z at *
      obtain ⟨x, rfl⟩ := Int.eq_ofNat_of_zero_le hz.1
      rw [Int.toNat_natCast] at Hnext
      generalize hpl2 : placesL ((lsOf zs).take k) = pl at *
      generalize hpn : pl.length = pn at *
      have Hpn := Lib.hid hpn
      clear hpl2 hpn
      by_cases h0 : x = 0
      · subst h0
        rw [if_pos rfl, List.append_nil] at Hnext
        clear hc0 hf0
        go_wp2_with fail
        go_roundw
        case rel => exact ⟨k + 1, v, by omega, by go_num, Hbox.out, by rw [Hnext.out, Hpn.out]; exact Hown.out, Hbr.out⟩
        case measure => simp [intOf]; omega
      · have hx0 : (0 : Int) < (x : Int) := by omega
        rw [if_neg h0] at Hnext
        have Hown2 := Lib.hid (Hown.out.alloc (.cells #[.int .i64 (x : Int), .int .i64 (k : Int)] 163))
        have Hsl : Hid (SlAt (wr.alloc (.cells #[.int .i64 (x : Int), .int .i64 (k : Int)] 163)) (some ⟨wr.heap.size, 0, none⟩) [.int .i64 (x : Int), .int .i64 (k : Int)]) := Lib.hid (SlAt.of_heap (heap_alloc_new _ _) rfl)
        have hbs : b0 + 1 ≤ wr.heap.size := Blk.lt Hbox.out
        have Hbx2 := Lib.hid (Blk.alloc Hbox.out (.cells #[.int .i64 (x : Int), .int .i64 (k : Int)] 163))
        have Hb2 := Lib.hid (Hbr.out.alloc (Nat.le_of_succ_le hbs) (.cells #[.int .i64 (x : Int), .int .i64 (k : Int)] 163))
        have Hbs : Hid (b0 + 1 ≤ (wr.alloc (.cells #[.int .i64 (x : Int), .int .i64 (k : Int)] 163)).heap.size) := Lib.hid (by rw [World.size_alloc]; omega)
        go_wp2_with (at_builtin; refine wpList_app _ rfl (.tmp 20) (.tmp 24) _ rfl (b0 + 1) 163 _ 2 16 tyPl v pn (pl.flatMap plC) rfl Hown2.out (some ⟨wr.heap.size, 0, none⟩) 1 1 [.int .i64 (x : Int), .int .i64 (k : Int)] rfl rfl Hsl.out (by simp [Value.oneCell']) (by simp) (by unfold maxLen; omega) (by omega) Hbs.out ?_; intro v4 w4 hown4 hg4 _; obtain ⟨A4, c4, hv4, _, _, _, _⟩ := own_slat hown4; subst hv4; have Ho4 := Lib.hid hown4; have Hg4 := Lib.hid hg4; have Hb4 := Lib.hid (own_below (own_base Hown2.out (Nat.le_succ b0)) hg4 Hb2.out (Nat.le_of_succ_le Hbs.out)); have Hx4 := Lib.hid (Blk.grown Hbx2.out hg4 (fun e => by have := (Hown2.out.lt _ e).1; omega)); have hf4 := Blk.frozen Hx4.out 0; have hc4 : w4.cell? ⟨b0, 0, none⟩ = some v := (Blk.cell Hx4.out 0).trans rfl; clear hown4 hg4)
        go_roundw
        case rel =>
          refine ⟨k + 1, .slice A4 (pn + 1) c4, by omega, by go_num, ?_, ?_, ?_⟩
          · have := Hx4.out.set_ 0 (.slice A4 (pn + 1) c4)
            simpa using this
          · rw [Hnext.out, List.length_append, List.flatMap_append, Hpn.out]
            exact own_setLow Ho4.out _ (Nat.lt_succ_self b0) _
          · exact Hb4.out.setCell (Nat.le_refl _) _
        case measure => simp [intOf]; omega
    · obtain rfl : k = n := by omega
      have hall : (lsOf zs).take k = lsOf zs := List.take_of_length_le (by rw [Hl.out]; omega)
      rw [hall] at Hown hpl
      generalize hpn : (placesL (lsOf zs)).length = pn at *
      have Hpn := Lib.hid hpn
      clear hall hpn hf0
      have HS := Lib.hid (sort_own (b0 + 1) b0 pn v (placesL (lsOf zs)) wr Hown.out Hbox.out (Nat.lt_succ_self _) (by omega))
      obtain ⟨A4, c4, hv4, _, _, _, _⟩ := own_slat Hown.out
      subst hv4
      have hbs : b0 + 1 ≤ wr.heap.size := Blk.lt Hbox.out
      unfold lessV at HS
      go_wp2_with fail
      refine (HS.out).mono ?_
      rintro e w3 ⟨rfl, ho3, hg3⟩
      have hb3 := own_below (own_base Hown.out (Nat.le_succ b0)) hg3 Hbr.out (Nat.le_of_succ_le hbs)
      have hx3 := Blk.grown Hbox.out hg3 (fun e => by have := (Hown.out.lt _ e).1; omega)
      have hsame : stab ekey (placesL (lsOf zs)) = (ordUp (lsOf zs) 15).map fun i => ((lsOf zs).getD i 0, i) := Hst.out
      have hol : (ordUp (lsOf zs) 15).length = pn := by
        rw [← Hpn.out, ← (stab_perm skey (placesL (lsOf zs))).length_eq, Hst.out, List.length_map]
      rw [hsame] at ho3
      have Ho3 := Lib.hid ho3
      have Hb3 := Lib.hid hb3
      have Hx3 := Lib.hid hx3
      have Hol := Lib.hid hol
      have hs3 : b0 + 1 ≤ w3.heap.size := Blk.lt hx3
      have c5 : (w3.alloc (.cells (madeCells #[.string ⟨#[]⟩] k) 9)).cell? ⟨b0, 0, none⟩ = some (.slice A4 pn c4) := ((Blk.alloc hx3 _).cell 0).trans rfl
      have Hlt3 : Hid (∀ k, (Value.slice A4 pn c4).ownBlock = some k → k < w3.heap.size) := Lib.hid (fun k hk => (ho3.lt k hk).2)
      clear ho3 hb3 hx3 hol hsame HS hg3 hc0 Hown Hbox Hbr Hpn
      go_wp2_with fail
      clear hmk
      rw [Hz.out]
      have hob : Hid (Blk (w3.alloc (.cells (outC (lsOf zs) [] k) 9)) w3.heap.size 9 (outC (lsOf zs) [] k)) := Lib.hid (Blk.new _ _ _)
      have Ho5 := Lib.hid (Ho3.out.alloc (.cells (outC (lsOf zs) [] k) 9))
      have Hb5 := Lib.hid (Hb3.out.alloc (Nat.le_of_succ_le hs3) (.cells (outC (lsOf zs) [] k) 9))
      clear Hx3 Ho3 Hb3 c5
      generalize w3.alloc (.cells (outC (lsOf zs) [] k) 9) = w5 at *
      generalize w3.heap.size = go at *
      go_loopw [7, 36] (fun cv i wx => ∃ j : Nat, j ≤ pn ∧ i = .int .i64 (j : Int) ∧ cv = curV (lsOf zs) (ordUp (lsOf zs) 15) j ∧ Blk wx go 9 (outC (lsOf zs) ((ordUp (lsOf zs) 15).take j) k) ∧ wx.ownsRow (b0 + 1) 163 2 (.slice A4 pn c4) pn (((ordUp (lsOf zs) 15).map fun i => ((lsOf zs).getD i 0, i)).flatMap plC) ∧ Below b0 w wx) (fun _ i _ => pn - (intOf i).toNat)
      case atStart => exact ⟨0, Nat.zero_le _, rfl, rfl, hob.out, Ho5.out, Hb5.out⟩
      case round =>
        clear hob Ho5 Hb5
        obtain ⟨j, hj, rfl, rfl, hout, hown, hbx⟩ := hrel
        have Hout := Lib.hid hout
        have Hown := Lib.hid hown
        have Hbx := Lib.hid hbx
        have hgo : go < wr.heap.size := Blk.lt hout
        clear hout hbx
        by_cases hlt : j < pn
        · have hjl : j < ((ordUp (lsOf zs) 15).map fun i => ((lsOf zs).getD i 0, i)).length := by rw [List.length_map, Hol.out]; exact hlt
          obtain ⟨A', cap', hv', _, _, hsl, _⟩ := own_slat hown
          injection hv' with e1 e2 e3
          subst e1; subst e3
          obtain ⟨b, o, rfl, hcell⟩ := slat_elem (size := 2) (fun _ => rfl) (by omega) hsl hjl
          have hc0 := hcell 0 _ rfl
          have hc1 := hcell 1 _ rfl
          simp only [List.getElem_map, Nat.add_zero] at hc0 hc1
          obtain ⟨i, hi⟩ : ∃ i, (ordUp (lsOf zs) 15)[j]'(by rw [Hol.out]; exact hlt) = i := ⟨_, rfl⟩
          rw [hi] at hc0 hc1
          have him := (Hmem.out i).1 (by rw [← hi]; exact List.getElem_mem _)
          obtain ⟨x, hx'⟩ : ∃ x, (lsOf zs).getD i 0 = x := ⟨_, rfl⟩
          rw [hx'] at hc0 him
          unfold nv at hc0 hc1
          have hik : i < k := by rw [← Hl.out]; exact him.1
          have hx0 := him.2.1
          have hx15 := him.2.2
          cases j with
          | zero =>
            have hcs : codeS (lsOf zs) i = List.replicate x false := by
              obtain ⟨post, hpost⟩ : ∃ post, ordUp (lsOf zs) 15 = i :: post := by
                cases ho : ordUp (lsOf zs) 15 with
                | nil => exact absurd (by have := Hol.out; rw [ho] at this; simpa using this : 0 = pn) (by omega)
                | cons a post => simp [ho] at hi; exact ⟨post, by rw [hi]⟩
              rw [← hx']; exact codeS_first (lsOf zs) i post hpost
            have HR := Lib.hid (repeat0_any x)
            have HE : Hid (Value.string (⟨#[]⟩ ++ strB (List.replicate x 48)) = curV (lsOf zs) (ordUp (lsOf zs) 15) 1) := Lib.hid (by
              rw [curV_succ _ _ 0 i (by rw [Hol.out]; exact hlt) hi, hcs]
              have := row_far [] x
              rw [List.nil_append] at this
              unfold rowV; rw [← this]; rfl)
            have HT : Hid ((ordUp (lsOf zs) 15).take 1 = [] ++ [i]) := Lib.hid (by rw [take_snoc _ 0 (by rw [Hol.out]; exact hlt), hi]; rfl)
            have HV : Hid (curV (lsOf zs) (ordUp (lsOf zs) 15) 1 = rowV (codeS (lsOf zs) i)) := Lib.hid (curV_succ _ _ 0 i (by rw [Hol.out]; exact hlt) hi)
            clear him hi hx' hcs
            rw [Nat.zero_mul, Nat.add_zero] at hc0 hc1
            rw [curV_zero]
            go_wp2_with fail
            have HbW : Hid (Below b0 w (wr.alloc (.cells #[.int .i64 (x : Int), .int .i64 (i : Int)] 163))) := Lib.hid (Hbx.out.alloc (by have := Hbx.out.size; rw [Hb0.out] at this; exact this) _)
            have HoW := Lib.hid (Blk.alloc Hout.out (.cells #[.int .i64 (x : Int), .int .i64 (i : Int)] 163))
            have HwW := Lib.hid (Hown.out.alloc (.cells #[.int .i64 (x : Int), .int .i64 (i : Int)] 163))
            have HpW := Lib.hid (Blk.new wr 163 #[.int .i64 (x : Int), .int .i64 (i : Int)])
            have d1 := HpW.out.c1
            have hfz := HoW.out.frozen i
            obtain ⟨u, hu⟩ := outC_cell (lsOf zs) ((ordUp (lsOf zs) 15).take 0) k i hik
            rw [← HoW.out.cell] at hu
            generalize wr.alloc (.cells #[.int .i64 (x : Int), .int .i64 (i : Int)] 163) = W at *
            refine (HR.out W hx15).mono ?_
            rintro e w6 ⟨rfl, hw6⟩
            cases hw6
            clear hc0 hc1 HR
            have hsz : (⟨#[]⟩ : ByteArray).size + (strB (List.replicate x 48)).size ≤ 9223372036854775807 := by rw [strB_size, List.length_replicate]; show 0 + x ≤ _; omega
            go_wp2_with fail
            rw [HE.out]
            go_roundw
            case rel =>
              refine ⟨1, by omega, rfl, rfl, ?_, ?_, ?_⟩
              · have := HoW.out.set_ i (rowV (codeS (lsOf zs) i))
                rw [HT.out, HV.out, ← outC_put _ _ _ _ hik]
                exact this
              · exact own_lowV HwW.out ((Below.refl go W).setCell (Nat.le_refl go) _) Hlt3.out
              · exact HbW.out.setCell (by show b0 ≤ go; omega) _
            case measure => simp [intOf]; omega
          | succ j =>
            obtain ⟨i', hi'⟩ : ∃ i', (ordUp (lsOf zs) 15)[j]'(by rw [Hol.out]; omega) = i' := ⟨_, rfl⟩
            have hspl : ordUp (lsOf zs) 15 = (ordUp (lsOf zs) 15).take j ++ i' :: i :: (ordUp (lsOf zs) 15).drop (j + 2) := by
              rw [← hi', ← hi, ← List.drop_eq_getElem_cons, ← List.drop_eq_getElem_cons, List.take_append_drop]
            obtain ⟨hle, a, t, e1, e2⟩ := codeS_next (lsOf zs) F4.out F3.out _ _ i' i hspl
            obtain ⟨y, hy⟩ : ∃ y, (lsOf zs).getD i' 0 = y := ⟨_, rfl⟩
            have hlen : a.length + 1 + t = y := by
              have h := congrArg List.length e1
              unfold codeS at h
              rw [hi_length, hy] at h
              simp at h; omega
            rw [hy, hx'] at hle e2
            have HL := Lib.hid (fun W => last_any a t W (by omega))
            have HR1 := Lib.hid (fun W => repeat0_any t W (by omega))
            have HR2 := Lib.hid (fun W => repeat0_any (x - y) W (by omega))
            have HcV := Lib.hid (curV_succ (lsOf zs) _ j i' (by rw [Hol.out]; omega) hi')
            rw [e1] at HcV
            have HV : Hid (curV (lsOf zs) (ordUp (lsOf zs) 15) (j + 2) = rowV (codeS (lsOf zs) i)) := Lib.hid (curV_succ _ _ (j + 1) i (by rw [Hol.out]; exact hlt) hi)
            have HT : Hid ((ordUp (lsOf zs) 15).take (j + 2) = (ordUp (lsOf zs) 15).take (j + 1) ++ [i]) := Lib.hid (by rw [take_snoc _ (j + 1) (by rw [Hol.out]; exact hlt), hi])
            have HM := Lib.hid (row_more a t)
            have HF := Lib.hid (row_far (a ++ true :: List.replicate t false) (x - y))
            rw [← e2] at HF
            have hS : (strB (rowS (a ++ false :: List.replicate t true))).size = y := by rw [strB_size, rowS_length]; simp; omega
            have hS2 : (strB (rowS (a ++ true :: List.replicate t false))).size = y := by rw [strB_size, rowS_length]; simp; omega
            rw [HcV.out]
            unfold rowV at HL ⊢
            generalize strB (rowS (a ++ false :: List.replicate t true)) = S at *
            generalize strB (rowS (a ++ true :: List.replicate t false)) = S2 at *
            generalize hal : a.length = al at *
            have hr1 : (strB (List.replicate t 48)).size = t := by rw [strB_size, List.length_replicate]
            have hr2 : (strB (List.replicate (x - y) 48)).size = x - y := by rw [strB_size, List.length_replicate]
            generalize strB (List.replicate t 48) = R1 at *
            generalize strB (List.replicate (x - y) 48) = R2 at *
            clear him hi hx' hi' hspl e1 e2 hy HcV hal
            have Hlen := Lib.hid hlen
            go_wp2_with fail
            have HbW : Hid (Below b0 w (wr.alloc (.cells #[.int .i64 (x : Int), .int .i64 (i : Int)] 163))) := Lib.hid (Hbx.out.alloc (by have := Hbx.out.size; rw [Hb0.out] at this; exact this) _)
            have HoW := Lib.hid (Blk.alloc Hout.out (.cells #[.int .i64 (x : Int), .int .i64 (i : Int)] 163))
            have HwW := Lib.hid (Hown.out.alloc (.cells #[.int .i64 (x : Int), .int .i64 (i : Int)] 163))
            have HpW := Lib.hid (Blk.new wr 163 #[.int .i64 (x : Int), .int .i64 (i : Int)])
            have d0 := HpW.out.c0
            have d1 := HpW.out.c1
            have hfz := HoW.out.frozen i
            obtain ⟨u, hu⟩ := outC_cell (lsOf zs) ((ordUp (lsOf zs) 15).take (j + 1)) k i hik
            rw [← HoW.out.cell] at hu
            generalize wr.alloc (.cells #[.int .i64 (x : Int), .int .i64 (i : Int)] 163) = W at *
            refine (HL.out W).mono ?_
            rintro e w6 ⟨rfl, hw6⟩
            cases hw6
            clear hc0 hc1 HL
            go_wp2_with fail
            have q1 : (y : Int) - (al : Int) = (t : Int) + 1 := by omega
            have q2 : IntKind.i64.wrap ((t : Int) + 1) = (t : Int) + 1 := IntWalk.i64_in _ (by omega)
            have q3 : (t : Int) + 1 - 1 = (t : Int) := by omega
            have q4 : IntKind.i64.wrap (t : Int) = (t : Int) := IntWalk.i64_in _ (by omega)
            have q5 : (al : Int) ≤ (y : Int) := by omega
            have q6 : (0 : Int) ≤ (al : Int) := by omega
            go_quiet ((go_at_call 105; exact Calls.quiet_of_same (HR1.out _)))
            clear q1 q2 q3 q4 q5 q6
            rw [HM.out]
            have p1 : (x : Int) - (y : Int) = ((x - y : Nat) : Int) := by omega
            have hxy : x - y ≤ 15 := by omega
            have hsz : S2.size + R2.size ≤ 9223372036854775807 := by omega
            have HbW2 := Lib.hid (below_drewN' HbW.out nq)
            have HoW2 := Lib.hid (Blk.drewN HoW.out nq)
            have HwW2 : Hid ((W.drewN nq).ownsRow (b0 + 1) 163 2 (.slice (some ⟨b, o, none⟩) pn c4) pn (((ordUp (lsOf zs) 15).map fun i => ((lsOf zs).getD i 0, i)).flatMap plC)) := Lib.hid HwW.out
            have d0' : (W.drewN nq).cell? ⟨wr.heap.size, 0, none⟩ = some (.int .i64 (x : Int)) := d0
            have d1' : (W.drewN nq).cell? ⟨wr.heap.size, 1, none⟩ = some (.int .i64 (i : Int)) := d1
            have hfz' : (W.drewN nq).frozen? ⟨go, i, none⟩ = false := hfz
            have hu' : (W.drewN nq).cell? ⟨go, i, none⟩ = some u := hu
            clear d0 d1 hfz hu HbW HoW HwW HpW
            generalize W.drewN nq = W2 at *
            go_wp2_with fail
            refine (HR2.out W2).mono ?_
            rintro e w7 ⟨rfl, hw7⟩
            cases hw7
            go_wp2_with fail
            rw [HF.out]
            go_roundw
            case rel =>
              refine ⟨j + 2, by omega, by go_num, HV.out.symm, ?_, ?_, ?_⟩
              · have := HoW2.out.set_ i (rowV (codeS (lsOf zs) i))
                rw [HT.out, ← outC_put _ _ _ _ hik]
                exact this
              · exact own_lowV HwW2.out ((Below.refl go W2).setCell (Nat.le_refl go) _) Hlt3.out
              · exact HbW2.out.setCell (by show b0 ≤ go; omega) _
            case measure => simp [intOf]; omega
        · obtain rfl : j = pn := by omega
          have Hall : Hid ((ordUp (lsOf zs) 15).take j = ordUp (lsOf zs) 15) := Lib.hid (List.take_of_length_le (by rw [Hol.out]; exact Nat.le_refl _))
          have Hfin := Lib.hid (outC_all (lsOf zs) F4.out)
          rw [Hl.out] at Hfin
          clear hown
          go_wp2_with fail
          go_ret
          exact ⟨⟨go, rfl, by rw [Hb0.out]; omega, by rw [← Hfin.out, ← Hall.out]; exact Hout.out⟩, by rw [Hb0.out]; exact Hbx.out⟩
end Go.Proofs.Ythpdcnjaodjjmaa.Cds

/- maps of the call's own whose keys are strings or bools: told as an association list (Refs' first part, alone). No program in sight. -/
namespace Go.Proofs.Ythpdcnjaodjjmaa
open Go Go.RowKit Go.MapKept
open Go.ChangeMaps (setBlock heap_setBlock_same heap_setBlock_other)
set_option linter.unusedVariables false

section
variable {α : Type} [DecidableEq α]
/-- what stands at a key -/
def mget : List (α × Value) → α → Option Value
  | [], _ => none
  | p :: l, k => if p.1 = k then some p.2 else mget l k
/-- .. stored there -/
def mput : List (α × Value) → α → Value → List (α × Value)
  | [], k, v => [(k, v)]
  | p :: l, k, v => if p.1 = k then (k, v) :: l else p :: mput l k v
theorem mput_none {al : List (α × Value)} {k : α} (h : mget al k = none) (v : Value) : mput al k v = al ++ [(k, v)] := by
  induction al with
  | nil => rfl
  | cons p l ih =>
    unfold mget at h
    unfold mput
    by_cases e : p.1 = k
    · rw [if_pos e] at h; cases h
    · rw [if_neg e] at h ⊢; rw [ih h]; rfl
theorem mget_put (al : List (α × Value)) (k : α) (v : Value) (j : α) : mget (mput al k v) j = if k = j then some v else mget al j := by
  induction al with
  | nil => rfl
  | cons p l ih =>
    unfold mput
    by_cases e : p.1 = k
    · rw [if_pos e]
      subst e
      unfold mget
      by_cases e2 : p.1 = j
      · simp only [if_pos e2]
      · simp only [if_neg e2]
    · rw [if_neg e]
      unfold mget
      by_cases e2 : p.1 = j
      · have : ¬ k = j := fun h => e (by rw [e2, h])
        simp only [if_pos e2, if_neg this]
      · simp only [if_neg e2]
        exact ih
theorem mput_len (al : List (α × Value)) (k : α) (v : Value) : (mput al k v).length ≤ al.length + 1 := by
  induction al with
  | nil => simp [mput]
  | cons p l ih =>
    unfold mput
    split
    · simp
    · simp; omega
def pairE (e : MapEntry) : Value × Value := (e.key, e.val)
def pairK (f : α → Value) (p : α × Value) : Value × Value := (f p.1, p.2)
/-- block b is a map that reads so -/
def KM (f : α → Value) (w : World) (b : Nat) (al : List (α × Value)) : Prop := ∃ es clock, w.heap[b]? = some (.map es clock) ∧ es.toList.map pairE = al.map (pairK f)
/-- keys of a plain kind -/
structure KeyF (d : TypeDesc) (f : α → Value) : Prop where
  key : ∀ a, IsKey d (f a)
  inj : ∀ a b, f a = f b → a = b
theorem find_km {d : TypeDesc} {f : α → Value} (hf : KeyF d f) (k : α) : ∀ (l : List MapEntry) (al : List (α × Value)) (i : Nat), l.map pairE = al.map (pairK f) →
    (mget al k = none ∧ Instr.findNow d (f k) l i = some none) ∨
    ∃ j e, mget al k = some e.val ∧ Instr.findNow d (f k) l i = some (some (i + j, e.val)) ∧ l[j]? = some e ∧ e.key = f k ∧ ∀ v, (l.modify j fun e => { e with key := f k, val := v }).map pairE = (mput al k v).map (pairK f)
  | [], [], i, _ => .inl ⟨rfl, rfl⟩
  | [], p :: al, i, h => by simp at h
  | e :: l, [], i, h => by simp at h
  | e :: l, p :: al, i, h => by
    simp only [List.map_cons, List.cons.injEq] at h
    obtain ⟨h1, h2⟩ := h
    obtain ⟨e1, e2⟩ : e.key = f p.1 ∧ e.val = p.2 := by simpa [pairE, pairK] using h1
    obtain ⟨r, hr, hiff⟩ := sameNow_of_keys (hf.key k) (show IsKey d e.key by rw [e1]; exact hf.key _)
    cases r with
    | true =>
      have hk : p.1 = k := hf.inj _ _ (by rw [← e1]; exact (hiff.1 rfl).symm)
      refine .inr ⟨0, e, ?_, by simp [Instr.findNow, hr], rfl, (hiff.1 rfl).symm, fun v => ?_⟩
      · unfold mget; rw [if_pos hk, e2]
      · unfold mput; rw [if_pos hk]; simpa [pairE, pairK] using h2
    | false =>
      have hk : ¬ p.1 = k := fun h => by
        have := hiff.2 (by rw [e1, h])
        cases this
      rcases find_km hf k l al (i + 1) h2 with ⟨g1, g2⟩ | ⟨j, e', g1, g2, g3, g4, g5⟩
      · refine .inl ⟨?_, by simp [Instr.findNow, hr, g2]⟩
        unfold mget; rw [if_neg hk]; exact g1
      · refine .inr ⟨j + 1, e', ?_, ?_, by simpa using g3, g4, fun v => ?_⟩
        · unfold mget; rw [if_neg hk]; exact g1
        · simp only [Instr.findNow, hr, g2]; congr 3; omega
        · unfold mput; rw [if_neg hk]
          simp only [List.modify_succ_cons, List.map_cons, h1, g5 v]

variable {P : Program} {t K E : TypeId} {d : TypeDesc} {f : α → Value} {w : World} {b : Nat} {al : List (α × Value)}
omit [DecidableEq α] in
theorem KM.made (f : α → Value) (w : World) : KM f (w.alloc (.map #[] 0)) w.heap.size [] := ⟨#[], 0, heap_alloc_new w _, rfl⟩
omit [DecidableEq α] in
theorem KM.below {w' : World} (h : KM f w b al) (hb : Below w.heap.size w w') : KM f w' b al := by
  obtain ⟨es, c, h1, h2⟩ := h
  exact ⟨es, c, by rw [hb.block b (Array.getElem?_eq_some_iff.1 h1).1]; exact h1, h2⟩
omit [DecidableEq α] in
theorem KM.lt (h : KM f w b al) : b < w.heap.size := by
  obtain ⟨es, c, h1, h2⟩ := h
  exact (Array.getElem?_eq_some_iff.1 h1).1
omit [DecidableEq α] in
theorem KM.grown {w' : World} {row : Option Nat} (h : KM f w b al) (hg : w.grownBy w' row) (hr : row ≠ some b) : KM f w' b al := by
  have hl := h.lt
  obtain ⟨es, c, h1, h2⟩ := h
  exact ⟨es, c, by rw [hg.block b hl (fun e => hr e.symm)]; exact h1, h2⟩
omit [DecidableEq α] in
theorem KM.keeps {w' : World} {base : Nat} {T : List TypeId} (h : KM f w b al) (hk : Keeps base T w w') : KM f w' b al := by
  obtain ⟨es, c, h1, h2⟩ := h
  exact ⟨es, c, hk.other b _ h1 (fun cs t fr e => by cases e), h2⟩
omit [DecidableEq α] in
/-- a row lies in no map -/
theorem own_no_map {base n size : Nat} {e : TypeId} {v : Value} {xs : List Value} (h : w.ownsRow base e size v n xs) (hm : KM f w b al) : v.ownBlock ≠ some b := by
  obtain ⟨es, c, hb, _⟩ := hm
  rcases h.2 with ⟨rfl, _⟩ | ⟨g, cap, cur, rfl, _, hg, _⟩
  · simp [Value.ownBlock]
  · intro e
    simp only [Value.ownBlock, Option.some.injEq] at e
    subst e
    rw [hb] at hg; cases hg
theorem KM.look (h : KM f w b al) (ht : P.underlying t = some (.map K E)) (hk : P.underlying K = some d) (hf : KeyF d f) {z : Value} (hz : (zeroValue E).run P w = .ok z w) (k : α) :
    (Instr.lookup t (.map (some b)) (f k) false).run P w = .ok ((mget al k).getD z) w ∧ (Instr.lookup t (.map (some b)) (f k) true).run P w = .ok (.tuple #[(mget al k).getD z, .bool (mget al k).isSome]) w := by
  obtain ⟨es, c, h1, h2⟩ := h
  have hc := fun em => run_checkKey (w := w) hk (hf.key k) em 9999
  rcases find_km hf k es.toList al 0 h2 with ⟨g1, g2⟩ | ⟨j, e', g1, g2, _⟩
  · have hr := run_findKey (w := w) hk g2
    constructor <;> simp [Instr.lookup, run_underlying ht, MapKept.run_getObj_map h1, hc, hr, hz, g1, Result.andThen]
  · have hr := run_findKey (w := w) hk g2
    constructor <;> simp [Instr.lookup, run_underlying ht, MapKept.run_getObj_map h1, hc, hr, g1, Result.andThen]
theorem KM.put (h : KM f w b al) (ht : P.underlying t = some (.map K E)) (hk : P.underlying K = some d) (hf : KeyF d f) (k : α) (v : Value) :
    ∃ w', (Instr.mapUpdate t (.map (some b)) (f k) v).run P w = .ok () w' ∧ KM f w' b (mput al k v) ∧ w.grownBy w' (some b) ∧ w'.heap.size = w.heap.size := by
  obtain ⟨es, c, h1, h2⟩ := h
  have hc := fun em => run_checkKey (w := w) hk (hf.key k) em 9999
  have grow : ∀ (o : Obj), w.grownBy (setBlock w b o) (some b) := fun o =>
    ⟨rfl, rfl, rfl, by simp [setBlock], fun i _ hi => heap_setBlock_other h1 _ (fun e1 => hi (by rw [e1]))⟩
  rcases find_km hf k es.toList al 0 h2 with ⟨g1, g2⟩ | ⟨j, e', g1, g2, g3, g4, g5⟩
  · have hr := run_findKey (w := w) hk g2
    refine ⟨setBlock w b (.map (es.push ⟨f k, v, c⟩) (c + 1)), ?_, ⟨_, _, heap_setBlock_same h1 _, ?_⟩, grow _, by simp [setBlock]⟩
    · simp [Instr.mapUpdate, run_underlying ht, MapKept.run_getObj_map h1, hc, hr, MapKept.run_setObj_map _ h1, Result.andThen, setBlock]
    · rw [mput_none g1]
      simp [h2, pairE, pairK]
  · have hr := run_findKey (w := w) hk g2
    rw [Nat.zero_add] at hr
    have hks := run_keyThatStays (P := P) (w := w) (hf.key k)
    have hej : es[j]? = some e' := by simpa using g3
    refine ⟨setBlock w b (.map (es.modify j fun e => { e with key := f k, val := v }) c), ?_, ⟨_, _, heap_setBlock_same h1 _, ?_⟩, grow _, by simp [setBlock]⟩
    · simp [Instr.mapUpdate, run_underlying ht, MapKept.run_getObj_map h1, hc, hr, hej, g4, hks, MapKept.run_setObj_map _ h1, Result.andThen, setBlock]
    · rw [← g5 v]
      simp
/-- 'v, ok := m[k]', 'm[k]', 'm[k] = v' at the operation, for the walk -/
theorem wpList_kmlook {w : World} {ops : Array Oper} {rest : List Oper} {o : Oper} {a : Act} {Q : Exit → Act → World → Prop} (hg : o.guard = none) (m x : Operand) (t : TypeId) (hop : o.op = Op.lookup t m x false)
    (b : Nat) (al : List (α × Value)) (h : KM f w b al) (ht : P.underlying t = some (.map K E)) (hk : P.underlying K = some d) (hf : KeyF d f) {z : Value} (hz : (zeroValue E).run P w = .ok z w) (k : α)
    (hm : a.eval m = .map (some b)) (hx : a.eval x = f k) (hK : wpList P ops Q rest (a.put o.dst ((mget al k).getD z)) w) : wpList P ops Q (o :: rest) a w := by
  refine wpList_plain hg fun K' hK' => ?_
  have hrun := (h.look ht hk hf hz k).1
  unfold Oper.wp
  simp [execOp, hop, hm, hx, hrun, Result.andThen]
  exact hK' _ _ hK
theorem wpList_kmlook_ok {w : World} {ops : Array Oper} {rest : List Oper} {o : Oper} {a : Act} {Q : Exit → Act → World → Prop} (hg : o.guard = none) (m x : Operand) (t : TypeId) (hop : o.op = Op.lookup t m x true)
    (b : Nat) (al : List (α × Value)) (h : KM f w b al) (ht : P.underlying t = some (.map K E)) (hk : P.underlying K = some d) (hf : KeyF d f) {z : Value} (hz : (zeroValue E).run P w = .ok z w) (k : α)
    (hm : a.eval m = .map (some b)) (hx : a.eval x = f k) (hK : wpList P ops Q rest (a.put o.dst (.tuple #[(mget al k).getD z, .bool (mget al k).isSome])) w) : wpList P ops Q (o :: rest) a w := by
  refine wpList_plain hg fun K' hK' => ?_
  have hrun := (h.look ht hk hf hz k).2
  unfold Oper.wp
  simp [execOp, hop, hm, hx, hrun, Result.andThen]
  exact hK' _ _ hK
theorem wpList_kmlook_ok' {w : World} {ops : Array Oper} {rest : List Oper} {o : Oper} {a : Act} {Q : Exit → Act → World → Prop} (hg : o.guard = none) (m x : Operand) (t : TypeId) (hop : o.op = Op.lookup t m x true)
    (b : Nat) (al : List (α × Value)) (h : KM f w b al) (ht : P.underlying t = some (.map K E)) (hk : P.underlying K = some d) (hf : KeyF d f) {z : Value} (hz : (zeroValue E).run P w = .ok z w) (k : α)
    (hm : a.eval m = .map (some b)) (hx : a.eval x = f k) (r : Value) (c : Bool) (hr : (mget al k).getD z = r) (hc : (mget al k).isSome = c) (hK : wpList P ops Q rest (a.put o.dst (.tuple #[r, .bool c])) w) : wpList P ops Q (o :: rest) a w := by
  subst hr hc
  exact wpList_kmlook_ok hg m x t hop b al h ht hk hf hz k hm hx hK
theorem wpList_kmlook' {w : World} {ops : Array Oper} {rest : List Oper} {o : Oper} {a : Act} {Q : Exit → Act → World → Prop} (hg : o.guard = none) (m x : Operand) (t : TypeId) (hop : o.op = Op.lookup t m x false)
    (b : Nat) (al : List (α × Value)) (h : KM f w b al) (ht : P.underlying t = some (.map K E)) (hk : P.underlying K = some d) (hf : KeyF d f) {z : Value} (hz : (zeroValue E).run P w = .ok z w) (k : α)
    (hm : a.eval m = .map (some b)) (hx : a.eval x = f k) (r : Value) (hr : (mget al k).getD z = r) (hK : wpList P ops Q rest (a.put o.dst r) w) : wpList P ops Q (o :: rest) a w := by
  subst hr
  exact wpList_kmlook hg m x t hop b al h ht hk hf hz k hm hx hK
theorem wpList_kmput {w : World} {ops : Array Oper} {rest : List Oper} {o : Oper} {a : Act} {Q : Exit → Act → World → Prop} (hg : o.guard = none) (m x v : Operand) (t : TypeId) (hop : o.op = Op.mapUpdate t m x v)
    (b : Nat) (al : List (α × Value)) (h : KM f w b al) (ht : P.underlying t = some (.map K E)) (hk : P.underlying K = some d) (hf : KeyF d f) (k : α) (val : Value)
    (hm : a.eval m = .map (some b)) (hx : a.eval x = f k) (hv : a.eval v = val) (hK : ∀ w', KM f w' b (mput al k val) → w.grownBy w' (some b) → wpList P ops Q rest (a.put o.dst undef) w') : wpList P ops Q (o :: rest) a w := by
  refine wpList_plain hg fun K' hK' => ?_
  obtain ⟨w', hrun, r1, r2, _⟩ := h.put ht hk hf k val
  unfold Oper.wp
  simp [execOp, hop, hm, hx, hv, hrun, Result.andThen]
  exact hK' _ _ (hK w' r1 r2)
theorem wpList_kmins {w : World} {ops : Array Oper} {rest : List Oper} {o : Oper} {a : Act} {Q : Exit → Act → World → Prop} (hg : o.guard = none) (m x v : Operand) (t : TypeId) (hop : o.op = Op.insert t m x v)
    (b : Nat) (al : List (α × Value)) (h : KM f w b al) (ht : P.underlying t = some (.map K E)) (hk : P.underlying K = some d) (hf : KeyF d f) (k : α) (val : Value)
    (hm : a.eval m = .map (some b)) (hx : a.eval x = f k) (hv : a.eval v = val) (hK : ∀ w', KM f w' b (mput al k val) → w.grownBy w' (some b) → wpList P ops Q rest (a.put o.dst undef) w') : wpList P ops Q (o :: rest) a w := by
  refine wpList_plain hg fun K' hK' => ?_
  obtain ⟨w', hrun, r1, r2, _⟩ := h.put ht hk hf k val
  unfold Oper.wp
  simp [execOp, hop, hm, hx, hv, hrun, Result.andThen]
  exact hK' _ _ (hK w' r1 r2)
end
theorem keyF_bool : KeyF .bool (fun x : Bool => Value.bool x) := ⟨fun a => trivial, fun a b h => by injection h⟩
end Go.Proofs.Ythpdcnjaodjjmaa

/- package reliquaryref: Codebook, Next. -/
namespace Go.Proofs.Ythpdcnjaodjjmaa.Cds
open Go Go.RowKit Go.Proofs.Ythpdcnjaodjjmaa Go.Proofs.Ythpdcnjaodjjmaa.Bits Go.Proofs.Ythpdcnjaodjjmaa.Code Go.MapKept
set_option linter.unusedVariables false
set_option linter.unusedSimpArgs false

theorem row_inj (a b : List Bool) (h : rowV a = rowV b) : a = b := by
  unfold rowV at h
  injection h with h
  have h2 : rowS a = rowS b := by
    have := congrArg (fun s : ByteArray => s.data.toList) h
    simpa [strB] using this
  unfold rowS at h2
  have hinj : ∀ x y : Bool, ch x = ch y → x = y := by decide
  clear h
  induction a generalizing b with
  | nil => cases b with
    | nil => rfl
    | cons c b => simp at h2
  | cons c a ih => cases b with
    | nil => simp at h2
    | cons d b =>
      simp only [List.map_cons, List.cons.injEq] at h2
      rw [hinj _ _ h2.1, ih b h2.2]
theorem keyF_row : KeyF .string rowV := ⟨fun a => trivial, row_inj⟩
theorem hi_val (s : List Bool) : hi s.length (val s) = s := by
  unfold hi val
  have : numBits (num s.reverse) s.length = s.reverse := by
    have h := numBits_num s.reverse
    rw [List.length_reverse] at h
    exact h
  rw [this, List.reverse_reverse]
/-- what a row of bits says among the first k codes -/
def lkup (ls : List Nat) (k : Nat) (s : List Bool) : Option Nat := if s = [] then none else match findC ls s.length (val s) with
  | some i => if i < k then some i else none
  | none => none
def HasBook (al : List (List Bool × Value)) (ls : List Nat) (k : Nat) : Prop := ∀ s, mget al s = (lkup ls k s).map natV
theorem book_none (ls : List Nat) : HasBook [] ls 0 := by
  intro s
  have : lkup ls 0 s = none := by
    unfold lkup
    split
    · rfl
    · split
      · rw [if_neg (by omega)]
      · rfl
  rw [this]; rfl
theorem lkup_same (ls : List Nat) (k : Nat) (s : List Bool) (h : s = [] ∨ s ≠ codeS ls k) : lkup ls (k + 1) s = lkup ls k s := by
  unfold lkup
  by_cases h0 : s = []
  · rw [if_pos h0, if_pos h0]
  · rw [if_neg h0, if_neg h0]
    cases hf : findC ls s.length (val s) with
    | none => rfl
    | some i =>
      obtain ⟨h1, h2, h3, h4⟩ := findC_inv ls _ _ i hf
      have : i ≠ k := by
        intro e
        subst e
        rcases h with h | h
        · exact h0 h
        · refine h ?_
          unfold codeS
          rw [h2, h4, hi_val]
      dsimp only
      by_cases hk : i < k
      · rw [if_pos hk, if_pos (by omega)]
      · rw [if_neg hk, if_neg (by omega)]
theorem book_skip (al : List (List Bool × Value)) (ls : List Nat) (k : Nat) (h : HasBook al ls k) (h0 : codeS ls k = []) : HasBook al ls (k + 1) := by
  intro s
  rw [h s, lkup_same ls k s]
  by_cases e : s = []
  · exact .inl e
  · exact .inr (by rw [h0]; exact e)
theorem book_put (al : List (List Bool × Value)) (ls : List Nat) (k : Nat) (hl : ∀ x ∈ ls, x ≤ 15) (hr : room ls ≤ 32768) (hk : k < ls.length) (h : HasBook al ls k) (h0 : codeS ls k ≠ []) : HasBook (mput al (codeS ls k) (natV k)) ls (k + 1) := by
  intro s
  rw [mget_put]
  by_cases e : codeS ls k = s
  · rw [if_pos e]
    have hn : ls.getD k 0 ≠ 0 := fun hz => h0 (codeS_none ls k hz)
    have hlen : s.length = ls.getD k 0 := by rw [← e]; exact hi_length _ _
    have hv : val s = codeOf ls k := by rw [← e]; exact val_hi _ _ (codeOf_lt ls k hk hn hl hr)
    unfold lkup
    rw [if_neg (by rw [← e]; exact h0), hlen, hv, findC_code ls k hk hn]
    dsimp only
    rw [if_pos (by omega)]; rfl
  · rw [if_neg e, h s, lkup_same ls k s (.inr (fun e2 => e e2.symm))]
theorem book_all (al : List (List Bool × Value)) (ls : List Nat) (h : HasBook al ls ls.length) (s : List Bool) (h0 : s ≠ []) : mget al s = (findC ls s.length (val s)).map natV := by
  rw [h s]
  unfold lkup
  rw [if_neg h0]
  cases hf : findC ls s.length (val s) with
  | none => rfl
  | some i =>
    dsimp only
    rw [if_pos (findC_inv ls _ _ i hf).1]
theorem zeroI (w : World) : (zeroValue 3).run Try.prog w = .ok (.int .i64 0) w := by kernel_rfl
theorem row_empty (l : List Bool) : (strB (rowS l)).toList.isEmpty = decide (l = []) := by
  have e : ((strB (rowS l)).toList == (strB (rowS [])).toList) = (strB (rowS l)).toList.isEmpty := by
    have : (strB (rowS [])).toList = [] := by decide +kernel
    rw [this]
    cases (strB (rowS l)).toList <;> rfl
  rw [← e, strB_inj, decide_eq_decide]
  constructor
  · intro h; exact row_inj _ _ (by unfold rowV; rw [h])
  · intro h; rw [h]
set_option maxRecDepth 100000 in
set_option maxHeartbeats 4000000 in
theorem codebook_any (A : Option Addr) (n c : Nat) (zs : List Int) (w : World) (hn : zs.length = n) (hA : InAt w A zs) (hc : chkL zs = 0) :
    Calls Try.prog 55 #[.slice A n c] w fun e w' => (∃ gm al, e = .returned (.map (some gm)) ∧ KM rowV w' gm al ∧ HasBook al (lsOf zs) n) ∧ Below w.heap.size w w' := by
  obtain ⟨f1, f2, f3, f4, f5⟩ := chk_fine zs hc
  have hx : n ≤ 288 := by omega
  have Hl := Lib.hid (lsOf_len zs)
  rw [hn] at Hl
  have HP := Lib.hid (fun al k hk h h0 => book_put al (lsOf zs) k f4 f3 hk h h0)
  have HK0 := Lib.hid (KM.made rowV w)
  have Hb0 := Lib.hid ((Below.refl w.heap.size w).alloc (Nat.le_refl _) (.map #[] 0))
  have HC := Lib.hid (codesOf_any A n c zs (w.alloc (.map #[] 0)) hn (SlAt.alloc hA _) hc)
  have hmm := @run_makeMap Try.prog
  clear hn hA hc f1 f2 f3 f4 f5
  go_enter Try.func55, Try.ntmps55
  go_wp2_with fail
  clear hmm
  refine (HC.out).mono ?_
  generalize w.alloc (.map #[] 0) = w1 at *
  generalize hgm : w.heap.size = gm at *
  have Hgm := Lib.hid hgm
  clear hgm
  rintro e w2 ⟨⟨gs, rfl, hgs, hcs⟩, hb2⟩
  have HK2 := Lib.hid (HK0.out.below hb2)
  have Hb2 := Lib.hid (Hb0.out.trans (hb2.mono (by have := Hb0.out.size; rw [Hgm.out] at this; exact this)))
  have Hcs2 := Lib.hid hcs
  have hgl : gm < w1.heap.size := HK0.out.lt
  have hne : gs ≠ gm := by omega
  clear hb2 hcs HC
  go_wp2_with fail
  go_loopw [10] (fun i wr => ∃ (k : Nat) (al : List (List Bool × Value)), k ≤ n ∧ i = .int .i64 (k : Int) ∧ KM rowV wr gm al ∧ HasBook al (lsOf zs) k ∧ Blk wr gs 9 ((List.range n).map fun i => rowV (codeS (lsOf zs) i)).toArray ∧ Below gm w wr) (fun i _ => n - (intOf i).toNat)
  case atStart => exact ⟨0, [], Nat.zero_le _, rfl, HK2.out, book_none _, Hcs2.out, Hb2.out⟩
  case round =>
    obtain ⟨k, al, hk, rfl, hkm, hbook, hcs, hb⟩ := hrel
    have HKm := Lib.hid hkm
    have HBk := Lib.hid hbook
    have Hcs := Lib.hid hcs
    have Hb := Lib.hid hb
    clear hkm hbook hcs hb HK2 Hcs2 Hb2
    by_cases hlt : k < n
    · have hc2 : wr.cell? ⟨gs, k, none⟩ = some (rowV (codeS (lsOf zs) k)) := by rw [Hcs.out.cell]; simp [hlt]
      have hcb := row_empty (codeS (lsOf zs) k)
      by_cases h0 : codeS (lsOf zs) k = []
      · rw [h0] at hc2 hcb
        have hcb2 : (strB (rowS ([] : List Bool))).toList.isEmpty = true := by rw [hcb]; rfl
        clear hcb
        have Hs := Lib.hid (book_skip al _ k HBk.out h0)
        unfold rowV at hc2
        go_wp2_with fail
        go_roundw
        case rel => exact ⟨k + 1, al, by omega, by go_num, HKm.out, Hs.out, Hcs.out, Hb.out⟩
        case measure => simp [intOf]; omega
      · have hcb2 : (strB (rowS (codeS (lsOf zs) k))).toList.isEmpty = false := by rw [hcb]; simp [h0]
        have Hs := Lib.hid (HP.out al k (by rw [Hl.out]; exact hlt) HBk.out h0)
        clear hcb h0
        unfold rowV at hc2
        go_wp2_with (at_mapUpdate; refine wpList_kmput rfl (.tmp 17) (.tmp 18) (.tmp 19) _ rfl gm al HKm.out Try.underlying95 Try.underlying9 keyF_row (codeS (lsOf zs) k) (natV k) rfl rfl rfl ?_; intro w5 hk5 hg5; have Hk5 := Lib.hid hk5; have Hg5 := Lib.hid hg5; clear hk5 hg5)
        go_roundw
        case rel =>
          refine ⟨k + 1, _, by omega, by go_num, Hk5.out, Hs.out, Blk.grown Hcs.out Hg5.out (fun e => by injection e with e; exact hne e.symm), ?_⟩
          exact Hb.out.grown Hg5.out (by have := Hb.out.size; rw [Hgm.out] at this; exact this) (fun j hj => by injection hj with hj; omega)
        case measure => simp [intOf]; omega
    · obtain rfl : k = n := by omega
      go_wp2_with fail
      go_ret
      exact ⟨⟨gm, al, rfl, HKm.out, HBk.out⟩, by rw [Hgm.out]; exact Hb.out⟩
set_option maxRecDepth 100000 in
set_option maxHeartbeats 4000000 in
theorem next_any (gm : Nat) (al : List (List Bool × Value)) (ls : List Nat) (row : List Bool) (w : World) (hK : KM rowV w gm al) (hB : HasBook al ls ls.length) (hr : row.length ≤ 1000000) :
    Calls Try.prog 84 #[.map (some gm), rowV row] w fun e w' => e = .returned (.tuple #[natV (next ls row).1, natV (next ls row).2.1, .int .i64 (next ls row).2.2]) ∧ w' = w := by
  have HK := Lib.hid hK
  have HB := Lib.hid hB
  have hsz : (strB (rowS row)).size = row.length := by rw [strB_size, rowS_length]
  clear hK hB
  obtain ⟨R, hR⟩ : ∃ R, R = next ls row := ⟨_, rfl⟩
  rw [← hR]
  have HR := Lib.hid hR
  clear hR
  have hrow : rowV row = .string (strB (rowS row)) := rfl
  rw [hrow]
  clear hrow
  generalize hS : strB (rowS row) = S at *
  generalize hm : row.length = m at *
  have HS := Lib.hid hS
  have Hm := Lib.hid hm
  clear hS hm
  go_enter Try.func84, Try.ntmps84
  go_wp2_with fail
  go_loop [7] (fun i => ∃ (n k : Nat), 1 ≤ n ∧ n + k = 16 ∧ i = .int .i64 (n : Int) ∧ nxt ls row k n = R) (fun i => 17 - (intOf i).toNat)
  case atStart => exact ⟨1, 15, Nat.le_refl _, rfl, rfl, HR.out.symm⟩
  case round =>
    obtain ⟨n, k, hn1, hnk, rfl, hnx⟩ := hrel
    have Hnx := Lib.hid hnx
    clear hnx
    by_cases h15 : n ≤ 15
    · obtain ⟨k, rfl⟩ : ∃ j, k = j + 1 := ⟨k - 1, by omega⟩
      by_cases ht : m < n
      · have hx : R = (0, 0, 7) := by rw [← Hnx.out, nxt_torn ls row k n (by rw [Hm.out]; exact ht)]
        have ht2 : (m : Int) < (n : Int) := by omega
        subst hx
        go_wp2_with fail
        go_ret3
        exact ⟨rfl, rfl⟩
      · have ht2 : ¬ (m : Int) < (n : Int) := by omega
        have hnm : (n : Int) ≤ (m : Int) := by omega
        have hkey : S.extract 0 n = strB (rowS (row.take n)) := by rw [← HS.out]; exact rowS_take row n
        have hlen : (row.take n).length = n := by rw [List.length_take, Hm.out]; omega
        have hmg := book_all al ls HB.out (row.take n) (fun e => by rw [e] at hlen; simp at hlen; omega)
        rw [hlen] at hmg
        have Hkey : Hid (Value.string (S.extract 0 n) = rowV (row.take n)) := Lib.hid (congrArg Value.string hkey)
        cases hf : findC ls n (val (row.take n)) with
        | some i =>
          rw [hf] at hmg
          have hx : R = (i, n, 0) := by rw [← Hnx.out, nxt_hit ls row k n i (by rw [Hm.out]; omega) hf]
          subst hx
          have HG1 : Hid ((mget al (row.take n)).getD (.int .i64 0) = natV i) := Lib.hid (by rw [hmg]; rfl)
          have HG2 : Hid ((mget al (row.take n)).isSome = true) := Lib.hid (by rw [hmg]; rfl)
          clear hmg hf hkey hlen
          go_wp2_with (at_lookup; refine wpList_kmlook_ok' rfl (.tmp 19) (.tmp 22) 95 rfl gm al HK.out Try.underlying95 Try.underlying9 keyF_row (zeroI _) (row.take n) rfl Hkey.out _ _ HG1.out HG2.out ?_)
          go_ret3
          exact ⟨rfl, rfl⟩
        | none =>
          rw [hf] at hmg
          have Hn2 : Hid (nxt ls row k (n + 1) = R) := Lib.hid (by rw [← Hnx.out, nxt_miss ls row k n (by rw [Hm.out]; omega) hf])
          have HG1 : Hid ((mget al (row.take n)).getD (.int .i64 0) = .int .i64 0) := Lib.hid (by rw [hmg]; rfl)
          have HG2 : Hid ((mget al (row.take n)).isSome = false) := Lib.hid (by rw [hmg]; rfl)
          clear hmg hf hkey hlen
          go_wp2_with (at_lookup; refine wpList_kmlook_ok' rfl (.tmp 19) (.tmp 22) 95 rfl gm al HK.out Try.underlying95 Try.underlying9 keyF_row (zeroI _) (row.take n) rfl Hkey.out _ _ HG1.out HG2.out ?_)
          go_round
          case rel => exact ⟨n + 1, k, by omega, by omega, by go_num, Hn2.out⟩
          case measure => simp [intOf]; omega
    · obtain rfl : n = 16 := by omega
      obtain rfl : k = 0 := by omega
      have hx : R = (0, 0, 8) := Hnx.out.symm
      subst hx
      go_wp2_with fail
      go_ret3
      exact ⟨rfl, rfl⟩
end Go.Proofs.Ythpdcnjaodjjmaa.Cds
