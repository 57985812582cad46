/- slices.symMergeCmpFunc at rows of packs: one behind. -/
import Derived.Test.YtdponlnfdjfljaaSortIns
namespace Go.Proofs.Ytdponlnfdjfljaa.Weigh
open Go Go.RowKit Go.Proofs.Ytdponlnfdjfljaa Go.Proofs.Ytdponlnfdjfljaa.SP
set_option linter.unusedVariables false

theorem dn_at (P L Q : List TE) (x : TE) (k : Nat) (h : k < L.length) : P ++ L ++ ([x] ++ Q) = (P ++ L.take k) ++ L[k] :: (L.drop (k + 1) ++ x :: Q) := by
  have : L = L.take k ++ L[k] :: L.drop (k + 1) := by rw [← List.drop_eq_getElem_cons h, List.take_append_drop]
  conv => lhs; rw [this]
  simp only [List.append_assoc, List.cons_append, List.nil_append]
set_option maxRecDepth 100000 in
set_option maxHeartbeats 8000000 in
theorem sym_dn (g N cap a m b : Nat) (rest : List Value) (P L Q : List TE) (x : TE) (w : World) (h : PkAt w g rest (P ++ L ++ ([x] ++ Q))) (ha : P.length = a) (hm : a + L.length = m) (hb : m + 1 = b) (hR : 2 ≤ L.length)
    (hs : L.Pairwise (lexP ekey)) (htag : ∀ y ∈ L, y.2 < x.2) (hkx : x.1.1 ≤ 1152921504606846976) (hk : Kb L) (hN : (P ++ L ++ ([x] ++ Q)).length = N) (hN2 : N ≤ 1000000) :
    Calls Try.prog 97 #[.slice (some ⟨g, 0, none⟩) N cap, .int .i64 (a : Int), .int .i64 (m : Int), .int .i64 (b : Int), cmpV] w fun e w' => e = .returned (.tuple #[]) ∧ (∃ S', PkAt w' g rest (P ++ S' ++ Q) ∧ S'.Perm (L ++ [x]) ∧ S'.Pairwise (lexP ekey)) ∧ w.grownBy w' (some g) := by
  have hN3 : P.length + L.length + 1 + Q.length = N := by rw [← hN]; simp; omega
  have H := Lib.hid h
  have HP := Lib.hid ha
  have Hs := Lib.hid hs
  have Htag := Lib.hid htag
  have Hkx := Lib.hid hkx
  have HK := Lib.hid hk
  have hbN : b ≤ N := by omega
  have hmb : m < b := by omega
  have ham : a < m := by omega
  have e1 : (m : Int) - (a : Int) = ((L.length : Nat) : Int) := by omega
  have e0 : (((L.length : Nat) : Int) == 1) = false := by simp; omega
  have e2 : (b : Int) - (m : Int) = 1 := by omega
  have Hm := Lib.hid hm
  clear h hN hN3 ha hs htag hkx hk hb hm hR
  generalize hll : L.length = ll at *
  have Hll := Lib.hid hll
  clear hll
  obtain ⟨⟨xk, ⟨xa, xb, xc⟩, xm⟩, xt⟩ := x
  unfold cmpV
  go_enter Try.func97, Try.ntmps97
  go_wp2_with fail
  clear e1 e0 e2
  go_loopw [14, 15] (fun iv jv wr => ∃ i j : Nat, iv = .int .i64 (i : Int) ∧ jv = .int .i64 (j : Int) ∧ a ≤ i ∧ i ≤ j ∧ j ≤ m ∧ (i = a ∨ ∃ h : i - a - 1 < L.length, L[i - a - 1].1.1 ≤ xk) ∧ (j = m ∨ ∃ h : j - a < L.length, xk < L[j - a].1.1) ∧
    PkAt wr g rest (P ++ L ++ ([((xk, (xa, xb, xc), xm), xt)] ++ Q)) ∧ w.grownBy wr (some g)) (fun iv jv _ => (intOf jv - intOf iv).toNat)
  case atStart => exact ⟨a, m, rfl, rfl, Nat.le_refl _, by omega, Nat.le_refl _, .inl rfl, .inl rfl, H.out, World.grownBy.refl _ _⟩
  case round =>
    obtain ⟨i, j, rfl, rfl, hmi, hij, hjb, hI, hJ, hpk, hgr⟩ := hrel
    have HI := Lib.hid hI
    have HJ := Lib.hid hJ
    have Hgr := Lib.hid hgr
    clear hI hJ hgr
    by_cases hlt : i < j
    · obtain ⟨q, hq⟩ : ∃ q, q = (i + j) / 2 := ⟨_, rfl⟩
      have hqi : i ≤ q := by omega
      have hqj : q < j := by omega
      have hql : q - a < L.length := by have := Hm.out; have := Hll.out; omega
      have Hat := Lib.hid (dn_at P L Q ((xk, (xa, xb, xc), xm), xt) (q - a) hql)
      have Hpk := Lib.hid hpk
      rw [Hat.out] at hpk
      have HX : Hid (q = (P ++ L.take (q - a)).length) := Lib.hid (by rw [List.length_append, List.length_take, HP.out]; omega)
      have HY : Hid (m = (P ++ L.take (q - a)).length + 1 + (L.drop (q - a + 1)).length) := Lib.hid (by rw [← HX.out, List.length_drop]; have := Hm.out; have := Hll.out; omega)
      have hky := HK.out _ (List.getElem_mem hql)
      obtain ⟨y, hy⟩ : ∃ y, L[q - a] = y := ⟨_, rfl⟩
      have Hy : Hid (∀ h : q - a < L.length, L[q - a] = y) := Lib.hid (fun _ => hy)
      rw [hy] at hpk hky
      obtain ⟨⟨yk, ⟨ya, yb, yc⟩, ym⟩, yt⟩ := y
      obtain ⟨c0, c1, c2, c3, f0, f1, f2, f3⟩ := hpk.pair HX.out HY.out
      have hkx := Hkx.out
      simp only at hky hkx
      have e2 : ((i : Int) + (j : Int)) / 2 = (q : Int) := by omega
      have hqN : q < N := by omega
      have hmN : m < N := by omega
      clear hpk hy hq
      have Hgd := Lib.hid (grown_drew Hgr.out)
      by_cases hc : xk < yk
      · have d1 : (xk : Int) - (yk : Int) < 0 := by omega
        go_wp2_with fail
        go_still_tail 9, (by kernel_rfl)
        change wpList _ _ _ _ _ wr.drew
        have Hpkd : Hid (PkAt wr.drew g rest _) := Hpk
        generalize wr.drew = wd at *
        clear c0 c1 c2 c3 f0 f1 f2 f3
        go_wp2_with fail
        refine (cmp_any xk yk (xa, xb, xc) (ya, yb, yc) wd hkx hky).mono ?_
        rintro e w3 ⟨rfl, hb3⟩
        have Hpk4 := Lib.hid (Hpkd.out.below hb3)
        have Hg4 := Lib.hid (grown_below Hgd.out hb3)
        clear hb3 Hpkd Hgd
        go_wp2_with fail
        go_roundw
        case rel => exact ⟨i, q, rfl, rfl, hmi, hqi, by omega, HI.out, .inr ⟨hql, by rw [Hy.out hql]; exact hc⟩, Hpk4.out, Hg4.out⟩
        case measure => simp [intOf]; omega
      · have d1 : decide ((xk : Int) - (yk : Int) < 0) = false := by simp; omega
        have d2 : ¬ ((xk : Int) - (yk : Int) < 0) := by omega
        go_wp2_with fail
        go_still_tail 9, (by kernel_rfl)
        change wpList _ _ _ _ _ wr.drew
        have Hpkd : Hid (PkAt wr.drew g rest _) := Hpk
        generalize wr.drew = wd at *
        clear c0 c1 c2 c3 f0 f1 f2 f3
        go_wp2_with fail
        refine (cmp_any xk yk (xa, xb, xc) (ya, yb, yc) wd hkx hky).mono ?_
        rintro e w3 ⟨rfl, hb3⟩
        have Hpk4 := Lib.hid (Hpkd.out.below hb3)
        have Hg4 := Lib.hid (grown_below Hgd.out hb3)
        clear hb3 Hpkd Hgd
        go_wp2_with fail
        go_roundw
        case rel => exact ⟨q + 1, j, by go_num, rfl, by omega, by omega, hjb, .inr ⟨by omega, by
          have e9 : q + 1 - a - 1 = q - a := by omega
          have := Hy.out hql
          simp only [e9, this]; omega⟩, HJ.out, Hpk4.out, Hg4.out⟩
        case measure => simp [intOf]; omega
    · obtain rfl : i = j := by omega
      obtain ⟨t, ht⟩ : ∃ t, a + t = i := ⟨i - a, by omega⟩
      have htm : i - a = t := by omega
      have htR : t ≤ L.length := by have := Hm.out; have := Hll.out; omega
      have hso : (L.take t ++ ((xk, (xa, xb, xc), xm), xt) :: L.drop t).Pairwise (lexP ekey) := by
        refine ins_sorted L _ t htR Hs.out Htag.out ?_ ?_
        · rcases HI.out with h | ⟨h, k⟩
          · left; omega
          · right; simp only [htm] at h k; exact ⟨h, k⟩
        · rcases HJ.out with h | ⟨h, k⟩
          · left; have := Hm.out; have := Hll.out; omega
          · right; simp only [htm] at h k; exact ⟨h, k⟩
      have Hso := Lib.hid hso
      have Hpk : Hid (PkAt wr g rest (isL P L ((xk, (xa, xb, xc), xm), xt) Q L.length)) := Lib.hid (by
        have e : isL P L ((xk, (xa, xb, xc), xm), xt) Q L.length = P ++ L ++ ([((xk, (xa, xb, xc), xm), xt)] ++ Q) := by simp [isL]
        rw [e]; exact hpk)
      have Hfin : Hid (isL P L ((xk, (xa, xb, xc), xm), xt) Q t = P ++ (L.take t ++ ((xk, (xa, xb, xc), xm), xt) :: L.drop t) ++ Q) := Lib.hid (by unfold isL; simp only [List.append_assoc, List.cons_append])
      have Hpe : Hid ((L.take t ++ ((xk, (xa, xb, xc), xm), xt) :: L.drop t).Perm (L ++ [((xk, (xa, xb, xc), xm), xt)])) := Lib.hid (ins_perm L L _ t (List.Perm.refl _))
      have Ht := Lib.hid ht
      clear hpk hso ht htm HI HJ
      go_wp2_with fail
      go_loopw [17] (fun kv wr => ∃ s k : Nat, kv = .int .i64 (k : Int) ∧ a + s = k ∧ t ≤ s ∧ s ≤ L.length ∧ PkAt wr g rest (isL P L ((xk, (xa, xb, xc), xm), xt) Q s) ∧ w.grownBy wr (some g)) (fun kv _ => (intOf kv).toNat)
      case atStart => exact ⟨L.length, m, rfl, by rw [Hll.out]; exact Hm.out, htR, Nat.le_refl _, Hpk.out, Hgr.out⟩
      case round =>
        obtain ⟨s, k, rfl, hk, hst, hsL, hpk, hgr⟩ := hrel
        have Hgr2 := Lib.hid hgr
        clear hgr
        by_cases hlt : i < k
        · rcases s with _ | s
          · exfalso; have := Ht.out; omega
          obtain ⟨k1, hk1⟩ : ∃ k1, a + s = k1 := ⟨_, rfl⟩
          have hsl : s < L.length := by omega
          have Hk : Hid (k = k1 + 1 ∧ a + s = k1) := Lib.hid (by omega)
          have hkN : k < N := by have := Hm.out; have := Hll.out; omega
          have hk1N : k1 < N := by omega
          have e4 : (k : Int) - 1 = (k1 : Int) := by omega
          have HX : Hid (k1 = (P ++ L.take s).length) := Lib.hid (by rw [List.length_append, List.length_take, HP.out]; omega)
          have HY : Hid (k = (P ++ L.take s).length + 1 + ([] : List TE).length) := Lib.hid (by rw [← HX.out]; exact Hk.out.1)
          rw [is_pre P L _ Q s hsl] at hpk
          have hpost := is_post P L ((xk, (xa, xb, xc), xm), xt) Q s hsl
          obtain ⟨y, hy⟩ : ∃ y, L[s] = y := ⟨_, rfl⟩
          rw [hy] at hpk hpost
          obtain ⟨⟨yk, ⟨ya, yb, yc⟩, ym⟩, yt⟩ := y
          obtain ⟨c0, c1, c2, c3, f0, f1, f2, f3⟩ := hpk.pair HX.out HY.out
          have Hsw : Hid (PkAt (swW wr g k k1 (.int .i64 (yk : Int)) (.slice ya yb yc) (.int .i64 (xk : Int)) (.slice xa xb xc)).drew g rest _) := Lib.hid (hpk.swapD HX.out HY.out)
          have Hgs := Lib.hid (grown_sw Hgr2.out k k1 (.int .i64 (yk : Int)) (.slice ya yb yc) (.int .i64 (xk : Int)) (.slice xa xb xc))
          rw [← hpost] at Hsw
          unfold swW at Hsw Hgs
          clear hpk hy hpost hk hk1
          go_wp2_with fail
          go_region
          generalize ((((wr.setCell ⟨g, k * 2, none⟩ (.int .i64 (yk : Int))).setCell ⟨g, k * 2 + 1, none⟩ (.slice ya yb yc)).setCell ⟨g, k1 * 2, none⟩ (.int .i64 (xk : Int))).setCell ⟨g, k1 * 2 + 1, none⟩ (.slice xa xb xc)).drew = wq at *
          clear c0 c1 c2 c3 f0 f1 f2 f3
          go_wp2_with fail
          go_roundw
          case rel => exact ⟨s, k1, rfl, Hk.out.2, by have := Ht.out; have := Hk.out; omega, by omega, Hsw.out, Hgs.out⟩
          case measure => have := Hk.out; simp [intOf]; omega
        · obtain rfl : s = t := by have := Ht.out; omega
          obtain rfl : k = i := by have := Ht.out; omega
          rw [Hfin.out] at hpk
          have Hpk2 := Lib.hid hpk
          clear hpk hk
          go_wp2_with fail
          refine bodyPost_ret (results_none rfl _ _ _) rfl ?_
          exact ⟨rfl, ⟨_, Hpk2.out, Hpe.out, Hso.out⟩, Hgr2.out⟩
end Go.Proofs.Ytdponlnfdjfljaa.Weigh
