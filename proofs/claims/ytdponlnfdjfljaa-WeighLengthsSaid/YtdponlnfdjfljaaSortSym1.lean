/- slices.symMergeCmpFunc at rows of packs: one ahead. -/
import Derived.Test.YtdponlnfdjfljaaSortIns
namespace Go.Proofs.Ytdponlnfdjfljaa.Weigh
open Go Go.RowKit Go.Proofs.Ytdponlnfdjfljaa Go.Proofs.Ytdponlnfdjfljaa.SP
set_option linter.unusedVariables false

theorem put_up (x : TE) (R : List TE) (t : Nat) (ht : t ≤ R.length) (hs : R.Pairwise (lexP ekey)) (htag : ∀ y ∈ R, x.2 < y.2) (h1 : t = 0 ∨ ∃ h : t - 1 < R.length, R[t - 1].1.1 < x.1.1) (h2 : t = R.length ∨ ∃ h : t < R.length, x.1.1 ≤ R[t].1.1) :
    (R.take t ++ x :: R.drop t).Pairwise (lexP ekey) := by
  refine put_sorted ekey x R t ht hs ?_ ?_
  · rcases h1 with h | ⟨h, k⟩
    · exact .inl h
    · exact .inr ⟨h, .inl k⟩
  · rcases h2 with h | ⟨h, k⟩
    · exact .inl h
    · refine .inr ⟨h, ?_⟩
      have := htag _ (List.getElem_mem h)
      unfold lexP ekey; omega
theorem up_at (P R Q : List TE) (x : TE) (k : Nat) (h : k < R.length) : P ++ [x] ++ (R ++ Q) = P ++ x :: (R.take k ++ R[k] :: (R.drop (k + 1) ++ Q)) := by
  have : R = R.take k ++ R[k] :: R.drop (k + 1) := by rw [← List.drop_eq_getElem_cons h, List.take_append_drop]
  conv => lhs; rw [this]
  simp only [List.append_assoc, List.cons_append, List.nil_append]
def upL (P R Q : List TE) (x : TE) (s : Nat) : List TE := (P ++ R.take s) ++ x :: (R.drop s ++ Q)
theorem up_pre (P R Q : List TE) (x : TE) (s : Nat) (h : s < R.length) : upL P R Q x s = (P ++ R.take s) ++ x :: ([] ++ R[s] :: (R.drop (s + 1) ++ Q)) := by
  unfold upL
  rw [List.drop_eq_getElem_cons h]
  simp only [List.cons_append, List.nil_append]
theorem up_post (P R Q : List TE) (x : TE) (s : Nat) (h : s < R.length) : upL P R Q x (s + 1) = (P ++ R.take s) ++ R[s] :: ([] ++ x :: (R.drop (s + 1) ++ Q)) := by
  unfold upL
  rw [List.take_succ_eq_append_getElem h]
  simp only [List.append_assoc, List.cons_append, List.nil_append]
set_option maxRecDepth 100000 in
set_option maxHeartbeats 8000000 in
theorem sym_up (g N cap a m b : Nat) (rest : List Value) (P R Q : List TE) (x : TE) (w : World) (h : PkAt w g rest (P ++ [x] ++ (R ++ Q))) (ha : P.length = a) (hm : a + 1 = m) (hb : m + R.length = b) (hR : 1 ≤ R.length)
    (hs : R.Pairwise (lexP ekey)) (htag : ∀ y ∈ R, x.2 < y.2) (hkx : x.1.1 ≤ 1152921504606846976) (hk : Kb R) (hN : (P ++ [x] ++ (R ++ Q)).length = N) (hN2 : N ≤ 1000000) :
    Calls Try.prog 97 #[.slice (some ⟨g, 0, none⟩) N cap, .int .i64 (a : Int), .int .i64 (m : Int), .int .i64 (b : Int), cmpV] w fun e w' => e = .returned (.tuple #[]) ∧ (∃ S', PkAt w' g rest (P ++ S' ++ Q) ∧ S'.Perm ([x] ++ R) ∧ S'.Pairwise (lexP ekey)) ∧ w.grownBy w' (some g) := by
  have hN3 : P.length + 1 + R.length + Q.length = N := by rw [← hN]; simp; omega
  have H := Lib.hid h
  have HP := Lib.hid ha
  have Hs := Lib.hid hs
  have Htag := Lib.hid htag
  have Hkx := Lib.hid hkx
  have HK := Lib.hid hk
  have Hb := Lib.hid hb
  have hbN : b ≤ N := by omega
  have hmb : m < b := by omega
  have ham : a < m := by omega
  have e1 : (m : Int) - (a : Int) = 1 := by omega
  have Hm := Lib.hid hm
  clear h hN hN3 ha hs htag hkx hk hb hm hR
  obtain ⟨⟨xk, ⟨xa, xb, xc⟩, xm⟩, xt⟩ := x
  unfold cmpV
  go_enter Try.func97, Try.ntmps97
  go_wp2_with fail
  clear e1
  go_loopw [10, 11] (fun iv jv wr => ∃ i j : Nat, iv = .int .i64 (i : Int) ∧ jv = .int .i64 (j : Int) ∧ m ≤ i ∧ i ≤ j ∧ j ≤ b ∧ (i = m ∨ ∃ h : i - m - 1 < R.length, R[i - m - 1].1.1 < xk) ∧ (j = b ∨ ∃ h : j - m < R.length, xk ≤ R[j - m].1.1) ∧
    PkAt wr g rest (P ++ [((xk, (xa, xb, xc), xm), xt)] ++ (R ++ Q)) ∧ w.grownBy wr (some g)) (fun iv jv _ => (intOf jv - intOf iv).toNat)
  case atStart => exact ⟨m, b, rfl, rfl, Nat.le_refl _, by omega, Nat.le_refl _, .inl rfl, .inl rfl, H.out, World.grownBy.refl _ _⟩
  case round =>
    obtain ⟨i, j, rfl, rfl, hmi, hij, hjb, hI, hJ, hpk, hgr⟩ := hrel
    have HI := Lib.hid hI
    have HJ := Lib.hid hJ
    have Hgr := Lib.hid hgr
    clear hI hJ hgr
    by_cases hlt : i < j
    · obtain ⟨q, hq⟩ : ∃ q, q = (i + j) / 2 := ⟨_, rfl⟩
      have hqi : i ≤ q := by omega
      have hqj : q < j := by omega
      have hql : q - m < R.length := by have := Hb.out; omega
      have Hat := Lib.hid (up_at P R Q ((xk, (xa, xb, xc), xm), xt) (q - m) hql)
      have Hpk := Lib.hid hpk
      rw [Hat.out] at hpk
      have HX : Hid (a = P.length) := Lib.hid HP.out.symm
      have HY : Hid (q = P.length + 1 + (R.take (q - m)).length) := Lib.hid (by rw [List.length_take, HP.out]; have := Hm.out; omega)
      have hky := HK.out _ (List.getElem_mem hql)
      obtain ⟨y, hy⟩ : ∃ y, R[q - m] = y := ⟨_, rfl⟩
      have Hy : Hid (∀ h : q - m < R.length, R[q - m] = y) := Lib.hid (fun _ => hy)
      rw [hy] at hpk hky
      obtain ⟨⟨yk, ⟨ya, yb, yc⟩, ym⟩, yt⟩ := y
      obtain ⟨c0, c1, c2, c3, f0, f1, f2, f3⟩ := hpk.pair HX.out HY.out
      have hkx := Hkx.out
      simp only at hky hkx
      have e2 : ((i : Int) + (j : Int)) / 2 = (q : Int) := by omega
      have hqN : q < N := by omega
      have haN : a < N := by omega
      clear hpk hy hq
      have Hgd := Lib.hid (grown_drew Hgr.out)
      by_cases hc : yk < xk
      · have d1 : (yk : Int) - (xk : Int) < 0 := by omega
        go_wp2_with fail
        go_still_tail 9, (by kernel_rfl)
        change wpList _ _ _ _ _ wr.drew
        have Hpkd : Hid (PkAt wr.drew g rest _) := Hpk
        generalize wr.drew = wd at *
        clear c0 c1 c2 c3 f0 f1 f2 f3
        go_wp2_with fail
        refine (cmp_any yk xk (ya, yb, yc) (xa, xb, xc) wd hky hkx).mono ?_
        rintro e w3 ⟨rfl, hb3⟩
        have Hpk4 := Lib.hid (Hpkd.out.below hb3)
        have Hg4 := Lib.hid (grown_below Hgd.out hb3)
        clear hb3 Hpkd Hgd
        go_wp2_with fail
        go_roundw
        case rel => exact ⟨q + 1, j, by go_num, rfl, by omega, by omega, hjb, .inr ⟨by omega, by
          have e9 : q + 1 - m - 1 = q - m := by omega
          have := Hy.out hql
          simp only [e9, this]; exact hc⟩, HJ.out, Hpk4.out, Hg4.out⟩
        case measure => simp [intOf]; omega
      · have d1 : ¬ ((yk : Int) - (xk : Int) < 0) := by omega
        go_wp2_with fail
        go_still_tail 9, (by kernel_rfl)
        change wpList _ _ _ _ _ wr.drew
        have Hpkd : Hid (PkAt wr.drew g rest _) := Hpk
        generalize wr.drew = wd at *
        clear c0 c1 c2 c3 f0 f1 f2 f3
        go_wp2_with fail
        refine (cmp_any yk xk (ya, yb, yc) (xa, xb, xc) wd hky hkx).mono ?_
        rintro e w3 ⟨rfl, hb3⟩
        have Hpk4 := Lib.hid (Hpkd.out.below hb3)
        have Hg4 := Lib.hid (grown_below Hgd.out hb3)
        clear hb3 Hpkd Hgd
        go_wp2_with fail
        go_roundw
        case rel => exact ⟨i, q, rfl, rfl, hmi, hqi, by omega, HI.out, .inr ⟨hql, by rw [Hy.out hql]; show xk ≤ yk; omega⟩, Hpk4.out, Hg4.out⟩
        case measure => simp [intOf]; omega
    · obtain rfl : i = j := by omega
      obtain ⟨t, ht⟩ : ∃ t, a + t = i - 1 := ⟨i - 1 - a, by have := Hm.out; omega⟩
      have htm : i - m = t := by have := Hm.out; omega
      have htR : t ≤ R.length := by have := Hb.out; omega
      have hso : (R.take t ++ ((xk, (xa, xb, xc), xm), xt) :: R.drop t).Pairwise (lexP ekey) := by
        refine put_up _ R t htR Hs.out Htag.out ?_ ?_
        · rcases HI.out with h | ⟨h, k⟩
          · left; omega
          · right; simp only [htm] at h k; exact ⟨h, k⟩
        · rcases HJ.out with h | ⟨h, k⟩
          · left; have := Hb.out; omega
          · right; simp only [htm] at h k; exact ⟨h, k⟩
      have Hso := Lib.hid hso
      have Hpk : Hid (PkAt wr g rest (upL P R Q ((xk, (xa, xb, xc), xm), xt) 0)) := Lib.hid (by
        have e : upL P R Q ((xk, (xa, xb, xc), xm), xt) 0 = P ++ [((xk, (xa, xb, xc), xm), xt)] ++ (R ++ Q) := by simp [upL]
        rw [e]; exact hpk)
      have Hfin : Hid (upL P R Q ((xk, (xa, xb, xc), xm), xt) t = P ++ (R.take t ++ ((xk, (xa, xb, xc), xm), xt) :: R.drop t) ++ Q) := Lib.hid (by unfold upL; simp only [List.append_assoc, List.cons_append])
      have Hpe : Hid ((R.take t ++ ((xk, (xa, xb, xc), xm), xt) :: R.drop t).Perm ([((xk, (xa, xb, xc), xm), xt)] ++ R)) := Lib.hid (put_perm _ R t)
      have Ht := Lib.hid ht
      obtain ⟨i1, hi1⟩ : ∃ i1, i = i1 + 1 := ⟨i - 1, by omega⟩
      have e3 : (i : Int) - 1 = (i1 : Int) := by omega
      have Hi1 : Hid (a + t = i1) := Lib.hid (by omega)
      have hi1N : i1 < N := by omega
      clear hpk hso ht htm HI HJ hi1
      go_wp2_with fail
      go_loopw [13] (fun kv wr => ∃ s k : Nat, kv = .int .i64 (k : Int) ∧ a + s = k ∧ s ≤ t ∧ PkAt wr g rest (upL P R Q ((xk, (xa, xb, xc), xm), xt) s) ∧ w.grownBy wr (some g)) (fun kv _ => i1 - (intOf kv).toNat)
      case atStart => exact ⟨0, a, rfl, rfl, Nat.zero_le _, Hpk.out, Hgr.out⟩
      case round =>
        obtain ⟨s, k, rfl, hk, hst, hpk, hgr⟩ := hrel
        have Hgr2 := Lib.hid hgr
        have Hk := Lib.hid hk
        clear hgr
        by_cases hlt : k < i1
        · have hsl : s < R.length := by have := Hi1.out; omega
          have HX : Hid (k = (P ++ R.take s).length) := Lib.hid (by rw [List.length_append, List.length_take, HP.out]; omega)
          have HY : Hid (k + 1 = (P ++ R.take s).length + 1 + ([] : List TE).length) := Lib.hid (by rw [← HX.out]; rfl)
          rw [up_pre P R Q _ s hsl] at hpk
          have hpost := up_post P R Q ((xk, (xa, xb, xc), xm), xt) s hsl
          obtain ⟨y, hy⟩ : ∃ y, R[s] = y := ⟨_, rfl⟩
          rw [hy] at hpk hpost
          obtain ⟨⟨yk, ⟨ya, yb, yc⟩, ym⟩, yt⟩ := y
          obtain ⟨c0, c1, c2, c3, f0, f1, f2, f3⟩ := hpk.pair HX.out HY.out
          have Hsw : Hid (PkAt (swW wr g k (k + 1) (.int .i64 (yk : Int)) (.slice ya yb yc) (.int .i64 (xk : Int)) (.slice xa xb xc)).drew g rest _) := Lib.hid (hpk.swapU HX.out HY.out)
          have Hgs := Lib.hid (grown_sw Hgr2.out k (k + 1) (.int .i64 (yk : Int)) (.slice ya yb yc) (.int .i64 (xk : Int)) (.slice xa xb xc))
          rw [← hpost] at Hsw
          unfold swW at Hsw Hgs
          clear hpk hy hpost
          go_wp2_with fail
          go_region
          generalize ((((wr.setCell ⟨g, k * 2, none⟩ (.int .i64 (yk : Int))).setCell ⟨g, k * 2 + 1, none⟩ (.slice ya yb yc)).setCell ⟨g, (k + 1) * 2, none⟩ (.int .i64 (xk : Int))).setCell ⟨g, (k + 1) * 2 + 1, none⟩ (.slice xa xb xc)).drew = wq at *
          clear c0 c1 c2 c3 f0 f1 f2 f3
          go_wp2_with fail
          go_roundw
          case rel => exact ⟨s + 1, k + 1, by go_num, by have := Hk.out; omega, by have := Hi1.out; omega, Hsw.out, Hgs.out⟩
          case measure => simp [intOf]; omega
        · obtain rfl : s = t := by have := Hi1.out; omega
          obtain rfl : k = i1 := by have := Hi1.out; omega
          rw [Hfin.out] at hpk
          have Hpk2 := Lib.hid hpk
          clear hpk
          go_wp2_with fail
          refine bodyPost_ret (results_none rfl _ _ _) rfl ?_
          exact ⟨rfl, ⟨_, Hpk2.out, Hpe.out, Hso.out⟩, Hgr2.out⟩
end Go.Proofs.Ytdponlnfdjfljaa.Weigh
