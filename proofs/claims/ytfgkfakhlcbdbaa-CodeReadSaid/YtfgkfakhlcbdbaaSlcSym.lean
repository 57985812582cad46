/- sort.symMerge_func at rows of places: one ahead; one behind. -/
import Derived.Test.YtfgkfakhlcbdbaaSlcIns
namespace Go.Proofs.Ytfgkfakhlcbdbaa.Slc
open Go Go.RowKit Go.Proofs.Ytfgkfakhlcbdbaa Go.Proofs.Ytfgkfakhlcbdbaa.SP
set_option linter.unusedVariables false

theorem put_up (x : TE) (R : List TE) (t : Nat) (ht : t ≤ R.length) (hs : R.Pairwise (lexP ekey)) (htag : ∀ y ∈ R, x.2 < y.2) (h1 : t = 0 ∨ ∃ h : t - 1 < R.length, R[t - 1].1.1 < x.1.1) (h2 : t = R.length ∨ ∃ h : t < R.length, x.1.1 ≤ R[t].1.1) :
    (R.take t ++ x :: R.drop t).Pairwise (lexP ekey) := by
  refine put_sorted ekey x R t ht hs ?_ ?_
  · rcases h1 with h | ⟨h, k⟩
    · exact .inl h
    · exact .inr ⟨h, .inl k⟩
  · rcases h2 with h | ⟨h, k⟩
    · exact .inl h
    · refine .inr ⟨h, ?_⟩
      have := htag _ (List.getElem_mem h)
      unfold lexP ekey; omega
theorem up_at (P R Q : List TE) (x : TE) (k : Nat) (h : k < R.length) : P ++ [x] ++ (R ++ Q) = P ++ x :: (R.take k ++ R[k] :: (R.drop (k + 1) ++ Q)) := by
  have : R = R.take k ++ R[k] :: R.drop (k + 1) := by rw [← List.drop_eq_getElem_cons h, List.take_append_drop]
  conv => lhs; rw [this]
  simp only [List.append_assoc, List.cons_append, List.nil_append]
def upL (P R Q : List TE) (x : TE) (s : Nat) : List TE := (P ++ R.take s) ++ x :: (R.drop s ++ Q)
theorem up_pre (P R Q : List TE) (x : TE) (s : Nat) (h : s < R.length) : upL P R Q x s = (P ++ R.take s) ++ x :: ([] ++ R[s] :: (R.drop (s + 1) ++ Q)) := by
  unfold upL
  rw [List.drop_eq_getElem_cons h]
  simp only [List.cons_append, List.nil_append]
theorem up_post (P R Q : List TE) (x : TE) (s : Nat) (h : s < R.length) : upL P R Q x (s + 1) = (P ++ R.take s) ++ R[s] :: ([] ++ x :: (R.drop (s + 1) ++ Q)) := by
  unfold upL
  rw [List.take_succ_eq_append_getElem h]
  simp only [List.append_assoc, List.cons_append, List.nil_append]
set_option maxRecDepth 100000 in
set_option maxHeartbeats 8000000 in
theorem sym_up (g gv N cap a m b : Nat) (rest : List Value) (P R Q : List TE) (x : TE) (w : World) (h : PkAt w g rest (P ++ [x] ++ (R ++ Q))) (hv : Var w g gv N cap) (ha : P.length = a) (hm : a + 1 = m) (hb : m + R.length = b) (hR : 1 ≤ R.length)
    (hs : R.Pairwise (lexP ekey)) (htag : ∀ y ∈ R, x.2 < y.2) (hN : (P ++ [x] ++ (R ++ Q)).length = N) (hN2 : N ≤ 1000000) :
    Calls Try.prog 66 #[dataV g gv N cap, .int .i64 (a : Int), .int .i64 (m : Int), .int .i64 (b : Int)] w fun e w' => e = .returned (.tuple #[]) ∧ (∃ S', PkAt w' g rest (P ++ S' ++ Q) ∧ S'.Perm ([x] ++ R) ∧ S'.Pairwise (lexP ekey)) ∧ w.grownBy w' (some g) := by
  have hN3 : P.length + 1 + R.length + Q.length = N := by rw [← hN]; simp; omega
  have H := Lib.hid (Mm.start h hv hN hN2)
  have HP := Lib.hid ha
  have Hs := Lib.hid hs
  have Htag := Lib.hid htag
  have Hb := Lib.hid hb
  have hbN : b ≤ N := by omega
  have hmb : m < b := by omega
  have ham : a < m := by omega
  have e1 : (m : Int) - (a : Int) = 1 := by omega
  have Hm := Lib.hid hm
  clear h hN hN3 ha hs htag hb hm hR hv
  unfold dataV
  go_enter Try.func66, Try.ntmps66
  go_wp2_with fail
  generalize hw1 : w.alloc (.cells #[lessV gv, swapV g N cap] 94) = w1 at *
  generalize hbx : w.heap.size = bx at *
  have Hw1 := Lib.hid hw1
  clear hw1 hbx
  clear e1
  go_loopw [8, 9] (fun iv jv wr => ∃ i j : Nat, iv = .int .i64 (i : Int) ∧ jv = .int .i64 (j : Int) ∧ m ≤ i ∧ i ≤ j ∧ j ≤ b ∧ (i = m ∨ ∃ h : i - m - 1 < R.length, R[i - m - 1].1.1 < x.1.1) ∧ (j = b ∨ ∃ h : j - m < R.length, x.1.1 ≤ R[j - m].1.1) ∧
    Mm w1 wr bx g gv N cap rest (P ++ [x] ++ (R ++ Q))) (fun iv jv _ => (intOf jv - intOf iv).toNat)
  case atStart => exact ⟨m, b, rfl, rfl, Nat.le_refl _, by omega, Nat.le_refl _, .inl rfl, .inl rfl, H.out⟩
  case round =>
    obtain ⟨i, j, rfl, rfl, hmi, hij, hjb, hI, hJ, hpk⟩ := hrel
    have HI := Lib.hid hI
    have HJ := Lib.hid hJ
    clear hI hJ
    have c0 := hpk.c0
    unfold lessV at c0
    by_cases hlt : i < j
    · obtain ⟨q, hq⟩ : ∃ q, q = (i + j) / 2 := ⟨_, rfl⟩
      have hqi : i ≤ q := by omega
      have hqj : q < j := by omega
      have hql : q - m < R.length := by have := Hb.out; omega
      have Hat := Lib.hid (up_at P R Q x (q - m) hql)
      have HX : Hid (a = P.length) := Lib.hid HP.out.symm
      have HY : Hid (q = P.length + 1 + (R.take (q - m)).length) := Lib.hid (by rw [List.length_take, HP.out]; have := Hm.out; omega)
      obtain ⟨y, hy⟩ : ∃ y, R[q - m] = y := ⟨_, rfl⟩
      have Hy : Hid (∀ h : q - m < R.length, R[q - m] = y) := Lib.hid (fun _ => hy)
      rw [Hat.out, hy] at hpk
      have HL := Lib.hid (hpk.less' HX.out HY.out)
      have Hback : Hid (∀ W, Mm w1 W bx g gv N cap rest (P ++ x :: (R.take (q - m) ++ y :: (R.drop (q - m + 1) ++ Q))) → Mm w1 W bx g gv N cap rest (P ++ [x] ++ (R ++ Q))) := Lib.hid (fun W hW => by rw [Hat.out, hy]; exact hW)
      have e2 : ((i : Int) + (j : Int)) / 2 = (q : Int) := by omega
      clear hpk hy hq
      by_cases hc : y.1.1 < x.1.1
      · have hb1 : decide (y.1.1 < x.1.1) = true := by simp [hc]
        rw [hb1] at HL
        clear hb1
        go_wp2_with fail
        refine (HL.out).mono ?_
        rintro e w3 ⟨rfl, hm3⟩
        have HM3 := Lib.hid (Hback.out _ hm3)
        clear hm3
        go_wp2_with fail
        go_roundw
        case rel => exact ⟨q + 1, j, by go_num, rfl, by omega, by omega, hjb, .inr ⟨by omega, by
          have e9 : q + 1 - m - 1 = q - m := by omega
          have := Hy.out hql
          simp only [e9, this]; exact hc⟩, HJ.out, HM3.out⟩
        case measure => simp [intOf]; omega
      · have hb1 : decide (y.1.1 < x.1.1) = false := by simp; omega
        rw [hb1] at HL
        clear hb1
        go_wp2_with fail
        refine (HL.out).mono ?_
        rintro e w3 ⟨rfl, hm3⟩
        have HM3 := Lib.hid (Hback.out _ hm3)
        clear hm3
        go_wp2_with fail
        go_roundw
        case rel => exact ⟨i, q, rfl, rfl, hmi, hqi, by omega, HI.out, .inr ⟨hql, by rw [Hy.out hql]; omega⟩, HM3.out⟩
        case measure => simp [intOf]; omega
    · obtain rfl : i = j := by omega
      obtain ⟨t, ht⟩ : ∃ t, a + t = i - 1 := ⟨i - 1 - a, by have := Hm.out; omega⟩
      have htm : i - m = t := by have := Hm.out; omega
      have htR : t ≤ R.length := by have := Hb.out; omega
      have hso : (R.take t ++ x :: R.drop t).Pairwise (lexP ekey) := by
        refine put_up _ R t htR Hs.out Htag.out ?_ ?_
        · rcases HI.out with h | ⟨h, k⟩
          · left; omega
          · right; simp only [htm] at h k; exact ⟨h, k⟩
        · rcases HJ.out with h | ⟨h, k⟩
          · left; have := Hb.out; omega
          · right; simp only [htm] at h k; exact ⟨h, k⟩
      have Hso := Lib.hid hso
      have Hpk : Hid (Mm w1 wr bx g gv N cap rest (upL P R Q x 0)) := Lib.hid (by
        have e : upL P R Q x 0 = P ++ [x] ++ (R ++ Q) := by simp [upL]
        rw [e]; exact hpk)
      have Hfin : Hid (upL P R Q x t = P ++ (R.take t ++ x :: R.drop t) ++ Q) := Lib.hid (by unfold upL; simp only [List.append_assoc, List.cons_append])
      have Hpe : Hid ((R.take t ++ x :: R.drop t).Perm ([x] ++ R)) := Lib.hid (put_perm _ R t)
      have Ht := Lib.hid ht
      obtain ⟨i1, hi1⟩ : ∃ i1, i = i1 + 1 := ⟨i - 1, by omega⟩
      have e3 : (i : Int) - 1 = (i1 : Int) := by omega
      have Hi1 : Hid (a + t = i1) := Lib.hid (by omega)
      have hi1N : i1 < N := by omega
      clear hpk hso ht htm HI HJ hi1 c0
      go_wp2_with fail
      go_loopw [11] (fun kv wr => ∃ s k : Nat, kv = .int .i64 (k : Int) ∧ a + s = k ∧ s ≤ t ∧ Mm w1 wr bx g gv N cap rest (upL P R Q x s)) (fun kv _ => i1 - (intOf kv).toNat)
      case atStart => exact ⟨0, a, rfl, rfl, Nat.zero_le _, Hpk.out⟩
      case round =>
        obtain ⟨s, k, rfl, hk, hst, hpk⟩ := hrel
        have Hk := Lib.hid hk
        have c1 := hpk.c1
        unfold swapV at c1
        by_cases hlt : k < i1
        · have hsl : s < R.length := by have := Hi1.out; omega
          have HX : Hid (k = (P ++ R.take s).length) := Lib.hid (by rw [List.length_append, List.length_take, HP.out]; omega)
          have HY : Hid (k + 1 = (P ++ R.take s).length + 1 + ([] : List TE).length) := Lib.hid (by rw [← HX.out]; rfl)
          rw [up_pre P R Q _ s hsl] at hpk
          have hpost := up_post P R Q x s hsl
          obtain ⟨w9, hsw, hm9⟩ := hpk.swap HX.out HY.out
          rw [← hpost] at hm9
          have HM9 := Lib.hid hm9
          have q1 : ((k + 1 : Nat) : Int) = (k : Int) + 1 := by omega
          rw [q1] at hsw
          clear hpk hpost hm9 q1
          go_wp2_with fail
          go_roundw
          case rel => exact ⟨s + 1, k + 1, by go_num, by have := Hk.out; omega, by have := Hi1.out; omega, HM9.out⟩
          case measure => simp [intOf]; omega
        · obtain rfl : s = t := by have := Hi1.out; omega
          obtain rfl : k = i1 := by have := Hi1.out; omega
          rw [Hfin.out] at hpk
          have Hpk2 := Lib.hid hpk
          clear hpk
          go_wp2_with fail
          refine bodyPost_ret (results_none rfl _ _ _) rfl ?_
          exact ⟨rfl, ⟨_, Hpk2.out.pk, Hpe.out, Hso.out⟩, (Hw1.out ▸ Hpk2.out : Mm (w.alloc _) _ _ _ _ _ _ _ _).done⟩
theorem dn_at (P L Q : List TE) (x : TE) (k : Nat) (h : k < L.length) : P ++ L ++ ([x] ++ Q) = (P ++ L.take k) ++ L[k] :: (L.drop (k + 1) ++ x :: Q) := by
  have : L = L.take k ++ L[k] :: L.drop (k + 1) := by rw [← List.drop_eq_getElem_cons h, List.take_append_drop]
  conv => lhs; rw [this]
  simp only [List.append_assoc, List.cons_append, List.nil_append]
set_option maxRecDepth 100000 in
set_option maxHeartbeats 8000000 in
theorem sym_dn (g gv N cap a m b : Nat) (rest : List Value) (P L Q : List TE) (x : TE) (w : World) (h : PkAt w g rest (P ++ L ++ ([x] ++ Q))) (hv : Var w g gv N cap) (ha : P.length = a) (hm : a + L.length = m) (hb : m + 1 = b) (hR : 2 ≤ L.length)
    (hs : L.Pairwise (lexP ekey)) (htag : ∀ y ∈ L, y.2 < x.2) (hN : (P ++ L ++ ([x] ++ Q)).length = N) (hN2 : N ≤ 1000000) :
    Calls Try.prog 66 #[dataV g gv N cap, .int .i64 (a : Int), .int .i64 (m : Int), .int .i64 (b : Int)] w fun e w' => e = .returned (.tuple #[]) ∧ (∃ S', PkAt w' g rest (P ++ S' ++ Q) ∧ S'.Perm (L ++ [x]) ∧ S'.Pairwise (lexP ekey)) ∧ w.grownBy w' (some g) := by
  have hN3 : P.length + L.length + 1 + Q.length = N := by rw [← hN]; simp; omega
  have H := Lib.hid (Mm.start h hv hN hN2)
  have HP := Lib.hid ha
  have Hs := Lib.hid hs
  have Htag := Lib.hid htag
  have hbN : b ≤ N := by omega
  have hmb : m < b := by omega
  have ham : a < m := by omega
  have e1 : (m : Int) - (a : Int) = ((L.length : Nat) : Int) := by omega
  have e0 : (((L.length : Nat) : Int) == 1) = false := by simp; omega
  have e2 : (b : Int) - (m : Int) = 1 := by omega
  have Hm := Lib.hid hm
  clear h hN hN3 ha hs htag hb hm hR hv
  generalize hll : L.length = ll at *
  have Hll := Lib.hid hll
  clear hll
  unfold dataV
  go_enter Try.func66, Try.ntmps66
  go_wp2_with fail
  generalize hw1 : w.alloc (.cells #[lessV gv, swapV g N cap] 94) = w1 at *
  generalize hbx : w.heap.size = bx at *
  have Hw1 := Lib.hid hw1
  clear hw1 hbx
  clear e1 e0 e2
  go_loopw [12, 13] (fun iv jv wr => ∃ i j : Nat, iv = .int .i64 (i : Int) ∧ jv = .int .i64 (j : Int) ∧ a ≤ i ∧ i ≤ j ∧ j ≤ m ∧ (i = a ∨ ∃ h : i - a - 1 < L.length, L[i - a - 1].1.1 ≤ x.1.1) ∧ (j = m ∨ ∃ h : j - a < L.length, x.1.1 < L[j - a].1.1) ∧
    Mm w1 wr bx g gv N cap rest (P ++ L ++ ([x] ++ Q))) (fun iv jv _ => (intOf jv - intOf iv).toNat)
  case atStart => exact ⟨a, m, rfl, rfl, Nat.le_refl _, by omega, Nat.le_refl _, .inl rfl, .inl rfl, H.out⟩
  case round =>
    obtain ⟨i, j, rfl, rfl, hmi, hij, hjb, hI, hJ, hpk⟩ := hrel
    have HI := Lib.hid hI
    have HJ := Lib.hid hJ
    clear hI hJ
    have c0 := hpk.c0
    unfold lessV at c0
    by_cases hlt : i < j
    · obtain ⟨q, hq⟩ : ∃ q, q = (i + j) / 2 := ⟨_, rfl⟩
      have hqi : i ≤ q := by omega
      have hqj : q < j := by omega
      have hql : q - a < L.length := by have := Hm.out; have := Hll.out; omega
      have Hat := Lib.hid (dn_at P L Q x (q - a) hql)
      have HX : Hid (q = (P ++ L.take (q - a)).length) := Lib.hid (by rw [List.length_append, List.length_take, HP.out]; omega)
      have HY : Hid (m = (P ++ L.take (q - a)).length + 1 + (L.drop (q - a + 1)).length) := Lib.hid (by rw [← HX.out, List.length_drop]; have := Hm.out; have := Hll.out; omega)
      obtain ⟨y, hy⟩ : ∃ y, L[q - a] = y := ⟨_, rfl⟩
      have Hy : Hid (∀ h : q - a < L.length, L[q - a] = y) := Lib.hid (fun _ => hy)
      rw [Hat.out, hy] at hpk
      have HL := Lib.hid (hpk.less' HX.out HY.out)
      have Hback : Hid (∀ W, Mm w1 W bx g gv N cap rest (P ++ L.take (q - a) ++ y :: (L.drop (q - a + 1) ++ x :: Q)) → Mm w1 W bx g gv N cap rest (P ++ L ++ ([x] ++ Q))) := Lib.hid (fun W hW => by rw [Hat.out, hy]; exact hW)
      have e2 : ((i : Int) + (j : Int)) / 2 = (q : Int) := by omega
      clear hpk hy hq
      by_cases hc : x.1.1 < y.1.1
      · have hb1 : decide (x.1.1 < y.1.1) = true := by simp [hc]
        rw [hb1] at HL
        clear hb1
        go_wp2_with fail
        refine (HL.out).mono ?_
        rintro e w3 ⟨rfl, hm3⟩
        have HM3 := Lib.hid (Hback.out _ hm3)
        clear hm3
        go_wp2_with fail
        go_roundw
        case rel => exact ⟨i, q, rfl, rfl, hmi, hqi, by omega, HI.out, .inr ⟨hql, by rw [Hy.out hql]; exact hc⟩, HM3.out⟩
        case measure => simp [intOf]; omega
      · have hb1 : decide (x.1.1 < y.1.1) = false := by simp; omega
        rw [hb1] at HL
        clear hb1
        go_wp2_with fail
        refine (HL.out).mono ?_
        rintro e w3 ⟨rfl, hm3⟩
        have HM3 := Lib.hid (Hback.out _ hm3)
        clear hm3
        go_wp2_with fail
        go_roundw
        case rel => exact ⟨q + 1, j, by go_num, rfl, by omega, by omega, hjb, .inr ⟨by omega, by
          have e9 : q + 1 - a - 1 = q - a := by omega
          have := Hy.out hql
          simp only [e9, this]; omega⟩, HJ.out, HM3.out⟩
        case measure => simp [intOf]; omega
    · obtain rfl : i = j := by omega
      obtain ⟨t, ht⟩ : ∃ t, a + t = i := ⟨i - a, by omega⟩
      have htm : i - a = t := by omega
      have htR : t ≤ L.length := by have := Hm.out; have := Hll.out; omega
      have hso : (L.take t ++ x :: L.drop t).Pairwise (lexP ekey) := by
        refine ins_sorted L _ t htR Hs.out Htag.out ?_ ?_
        · rcases HI.out with h | ⟨h, k⟩
          · left; omega
          · right; simp only [htm] at h k; exact ⟨h, k⟩
        · rcases HJ.out with h | ⟨h, k⟩
          · left; have := Hm.out; have := Hll.out; omega
          · right; simp only [htm] at h k; exact ⟨h, k⟩
      have Hso := Lib.hid hso
      have Hpk : Hid (Mm w1 wr bx g gv N cap rest (isL P L x Q L.length)) := Lib.hid (by
        have e : isL P L x Q L.length = P ++ L ++ ([x] ++ Q) := by simp [isL]
        rw [e]; exact hpk)
      have Hfin : Hid (isL P L x Q t = P ++ (L.take t ++ x :: L.drop t) ++ Q) := Lib.hid (by unfold isL; simp only [List.append_assoc, List.cons_append])
      have Hpe : Hid ((L.take t ++ x :: L.drop t).Perm (L ++ [x])) := Lib.hid (ins_perm L L _ t (List.Perm.refl _))
      have Ht := Lib.hid ht
      clear hpk hso ht htm HI HJ c0
      go_wp2_with fail
      go_loopw [15] (fun kv wr => ∃ s k : Nat, kv = .int .i64 (k : Int) ∧ a + s = k ∧ t ≤ s ∧ s ≤ L.length ∧ Mm w1 wr bx g gv N cap rest (isL P L x Q s)) (fun kv _ => (intOf kv).toNat)
      case atStart => exact ⟨L.length, m, rfl, by rw [Hll.out]; exact Hm.out, htR, Nat.le_refl _, Hpk.out⟩
      case round =>
        obtain ⟨s, k, rfl, hk, hst, hsL, hpk⟩ := hrel
        have c1 := hpk.c1
        unfold swapV at c1
        by_cases hlt : i < k
        · rcases s with _ | s
          · exfalso; have := Ht.out; omega
          obtain ⟨k1, hk1⟩ : ∃ k1, a + s = k1 := ⟨_, rfl⟩
          have hsl : s < L.length := by omega
          have Hk : Hid (k = k1 + 1 ∧ a + s = k1) := Lib.hid (by omega)
          have e4 : (k : Int) - 1 = (k1 : Int) := by omega
          have HX : Hid (k1 = (P ++ L.take s).length) := Lib.hid (by rw [List.length_append, List.length_take, HP.out]; omega)
          have HY : Hid (k = (P ++ L.take s).length + 1 + ([] : List TE).length) := Lib.hid (by rw [← HX.out]; exact Hk.out.1)
          rw [is_pre P L _ Q s hsl] at hpk
          have hpost := is_post P L x Q s hsl
          obtain ⟨w9, hsw, hm9⟩ := hpk.swap' HX.out HY.out
          rw [← hpost] at hm9
          have HM9 := Lib.hid hm9
          have hw : IntKind.i64.wrap (k1 : Int) = (k1 : Int) := IntWalk.i64_in _ (by have := Hm.out; have := Hll.out; omega)
          clear hpk hpost hk hk1 hm9
          go_wp2_with fail
          go_roundw
          case rel => exact ⟨s, k1, rfl, Hk.out.2, by have := Ht.out; have := Hk.out; omega, by omega, HM9.out⟩
          case measure => have := Hk.out; simp [intOf]; omega
        · obtain rfl : s = t := by have := Ht.out; omega
          obtain rfl : k = i := by have := Ht.out; omega
          rw [Hfin.out] at hpk
          have Hpk2 := Lib.hid hpk
          clear hpk hk
          go_wp2_with fail
          refine bodyPost_ret (results_none rfl _ _ _) rfl ?_
          exact ⟨rfl, ⟨_, Hpk2.out.pk, Hpe.out, Hso.out⟩, (Hw1.out ▸ Hpk2.out : Mm (w.alloc _) _ _ _ _ _ _ _ _).done⟩
end Go.Proofs.Ytfgkfakhlcbdbaa.Slc
