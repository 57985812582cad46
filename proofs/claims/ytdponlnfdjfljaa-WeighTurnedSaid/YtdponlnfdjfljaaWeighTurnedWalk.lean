/- reliquarylaw.WeighTurned: the walk. -/
import Derived.Test.YtdponlnfdjfljaaWeighFact
import Derived.Test.YtdponlnfdjfljaaReverseI
import Derived.Test.YtdponlnfdjfljaaMaxI
import Derived.Test.YtdponlnfdjfljaaAt2
import Derived.Test.YtdponlnfdjfljaaInts
namespace Go.Proofs.Ytdponlnfdjfljaa.WeighTurned
open Go Go.RowKit Go.Proofs.Ytdponlnfdjfljaa Go.Proofs.Ytdponlnfdjfljaa.Weigh Go.Proofs.Ytdponlnfdjfljaa.SP
set_option linter.unusedVariables false

theorem natsOf_rev (zs : List Int) : natsOf zs.reverse = (natsOf zs).reverse := by unfold natsOf; rw [List.map_reverse]
theorem chk_rev (zs : List Int) (most : Int) (h : chkW zs most = 0) : chkW zs.reverse most = 0 := by
  obtain ⟨f1, f2, f3, f4, f5⟩ := chkW_fine zs most h
  unfold chkW
  rw [if_neg (by rw [List.length_reverse]; omega), if_neg, if_neg (by omega), if_neg]
  · unfold usedI at f5 ⊢
    rw [List.filter_reverse, List.length_reverse]; omega
  · rw [Bool.not_eq_true, List.any_eq_false]
    intro x hx
    have := f2 x (List.mem_reverse.1 hx)
    simp [badWant]; omega
theorem cost_rev (zs : List Int) (most : Int) (h : chkW zs most = 0) : costI zs.reverse (lenI zs.reverse most) = costI zs (lenI zs most) := by
  have h2 := chk_rev zs most h
  obtain ⟨a1, a2⟩ := chk_best zs most h
  obtain ⟨b1, b2⟩ := chk_best zs.reverse most h2
  rw [costI_len _ _ h2, costI_len _ _ h]
  rw [natsOf_rev] at b2 ⊢
  rw [cost_turned (natsOf zs) most.toNat a1 a2 b2]
def scaled (zs : List Int) (k : Nat) : List Int := zs.map (· * (k : Int))
theorem natsOf_scale (zs : List Int) (k : Nat) (h : ∀ x ∈ zs, 0 ≤ x) : natsOf (scaled zs k) = (natsOf zs).map (· * k) := by
  unfold natsOf scaled
  rw [List.map_map, List.map_map]
  apply List.map_congr_left
  intro x hx
  obtain ⟨y, rfl⟩ := Int.eq_ofNat_of_zero_le (h x hx)
  simp [Function.comp]
  rw [← Int.natCast_mul, Int.toNat_natCast]
theorem used_scale (zs : List Int) (k : Nat) (hk : 1 ≤ k) : usedI (scaled zs k) = usedI zs := by
  unfold usedI scaled
  rw [List.filter_map, List.length_map]
  congr 1
  apply List.filter_congr
  intro x _
  simp only [Function.comp, decide_eq_decide]
  constructor
  · intro h
    rcases Int.lt_or_le 0 x with h2 | h2
    · exact h2
    · have := Int.mul_le_mul_of_nonneg_right h2 (by omega : (0 : Int) ≤ (k : Int))
      omega
  · intro h; exact Int.mul_pos h (by omega)
theorem chk_scale (zs : List Int) (most : Int) (k : Nat) (hk : 1 ≤ k) (h : chkW zs most = 0) (hb : chkW (scaled zs k) most ≠ 0) : chkW (scaled zs k) most = 3 ∧ ∃ x ∈ scaled zs k, 1000000 < x := by
  obtain ⟨f1, f2, f3, f4, f5⟩ := chkW_fine zs most h
  have hl : (scaled zs k).length = zs.length := by unfold scaled; simp
  by_cases ha : (scaled zs k).any badWant = true
  · refine ⟨by unfold chkW; rw [if_neg (by omega), if_pos ha], ?_⟩
    obtain ⟨x, hx, hbx⟩ := List.any_eq_true.1 ha
    refine ⟨x, hx, ?_⟩
    have h0 : 0 ≤ x := by
      unfold scaled at hx
      obtain ⟨y, hy, rfl⟩ := List.mem_map.1 hx
      exact Int.mul_nonneg (f2 y hy).1 (by omega)
    simp [badWant] at hbx
    omega
  · exfalso
    apply hb
    unfold chkW
    rw [if_neg (by omega), if_neg ha, if_neg (by omega), if_neg (by rw [used_scale zs k hk]; omega)]
theorem cost_scale (zs : List Int) (most : Int) (k : Nat) (hk : 1 ≤ k) (h : chkW zs most = 0) (h2 : chkW (scaled zs k) most = 0) : costI (scaled zs k) (lenI (scaled zs k) most) = (k : Int) * costI zs (lenI zs most) := by
  obtain ⟨f1, f2, f3, f4, f5⟩ := chkW_fine zs most h
  obtain ⟨a1, a2⟩ := chk_best zs most h
  obtain ⟨b1, b2⟩ := chk_best _ most h2
  rw [costI_len _ _ h2, costI_len _ _ h]
  rw [natsOf_scale zs k (fun x hx => (f2 x hx).1)] at b2 ⊢
  rw [cost_scaled (natsOf zs) most.toNat k a1 hk a2 b2, Int.natCast_mul]
theorem costI_bd (zs : List Int) (most : Int) (h : chkW zs most = 0) : 0 ≤ costI zs (lenI zs most) ∧ costI zs (lenI zs most) ≤ 15000000 * 288 := by
  have he := costE_len zs most h
  obtain ⟨f1, f2, f3, f4, f5⟩ := chkW_fine zs most h
  have hb := sumP_bd (zs.zip (lenI zs most)) (fun p hp => by
    have h1 := f2 p.1 (List.of_mem_zip hp).1
    have h2 : badC p = false := by
      unfold costE at he
      rw [if_neg (by rw [lenI_len zs most h]; simp), if_neg (by rw [chkW_15 zs most h]; simp)] at he
      cases hb : badC p with
      | false => rfl
      | true => rw [if_pos (List.any_eq_true.2 ⟨p, hp, hb⟩)] at he; omega
    simp [badC] at h2
    omega)
  have e : costI zs (lenI zs most) = sumP (zs.zip (lenI zs most)) := rfl
  have hl : (zs.zip (lenI zs most)).length ≤ 288 := by rw [List.length_zip]; omega
  rw [e]
  omega
theorem own_ints {w : World} {base n : Nat} {v : Value} {xs : List Int} (h : w.ownsRow base 3 1 v n (xs.map iv)) : ∃ A c, v = .slice A n c ∧ n ≤ c ∧ c ≤ maxLen ∧ InAt w A xs ∧ xs.length = n ∧ (A = none → n = 0) := by
  obtain ⟨A, c, h1, h2, h3, h4, h5⟩ := own_slat h
  exact ⟨A, c, h1, h2, h3, h4, by have := h.1; simpa using this, h5⟩
set_option maxRecDepth 100000 in
set_option maxHeartbeats 800000 in
theorem reverse_own (base n : Nat) (v : Value) (xs : List Int) (w : World) (h : w.ownsRow base 3 1 v n (xs.map iv)) (hn : n ≤ 1000000) :
    Calls Try.prog 37 #[v] w fun e w' => e = .returned (.tuple #[]) ∧ (∃ A c, v = .slice A n c ∧ InAt w' A xs.reverse ∧ (A = none → n = 0)) ∧ Below base w w' := by
  have hl : xs.length = n := by have := h.1; simpa using this
  rcases h.2 with ⟨rfl, rfl⟩ | ⟨g, cap, cur, rfl, hbg, hgb, hnc, hcm, hcs, htk⟩
  · have hx : xs = [] := List.eq_nil_of_length_eq_zero hl
    subst hx
    clear h
    go_enter Try.func37, Try.ntmps37
    go_wp2_with fail
    go_loopw [2, 3] (fun i j wr => i = .int .i64 0 ∧ j = .int .i64 (-1) ∧ wr = w) (fun _ _ _ => 0)
    case atStart => exact ⟨rfl, rfl, rfl⟩
    case round =>
      obtain ⟨rfl, rfl, rfl⟩ := hrel
      go_wp2_with fail
      go_end0
      exact ⟨rfl, ⟨none, 0, rfl, SlAt.nil, by simp⟩, Below.refl _ _⟩
  · have hH : RevI.Head w g xs := by
      refine ⟨cur.toList.drop n, 0, 0, ?_, fun k _ => by omega⟩
      rw [Nat.mul_one] at htk
      rw [← htk, List.take_append_drop]
      exact hgb
    refine (RevI.reverse_any g n cap xs w hl (by omega) hH).mono ?_
    rintro e w' ⟨rfl, h1, h2⟩
    exact ⟨rfl, ⟨_, cap, rfl, h1.slat, by simp⟩, h2.mono hbg⟩
theorem scaled_take (zs : List Int) (k j : Nat) (h : j < zs.length) : scaled (zs.take (j + 1)) k ++ zs.drop (j + 1) = (scaled (zs.take j) k ++ zs.drop j).set j (zs[j] * (k : Int)) := by
  unfold scaled
  rw [List.set_append_right _ _ (by simp; omega), List.drop_eq_getElem_cons h]
  have e : j - ((zs.take j).map (· * (k : Int))).length = 0 := by simp; omega
  rw [e, List.set_cons_zero, take_snoc _ _ h, List.map_append]
  simp only [List.map_cons, List.map_nil, List.append_assoc, List.cons_append, List.nil_append]
theorem scaled_get (zs : List Int) (k j : Nat) (h : j < zs.length) : (scaled (zs.take j) k ++ zs.drop j)[j]? = some zs[j] := by
  have e : (scaled (zs.take j) k).length = j := by unfold scaled; simp; omega
  rw [List.getElem?_append_right (by omega), e]
  simp [h]
set_option maxRecDepth 100000 in
set_option maxHeartbeats 8000000 in
theorem walk (W : World) (v0 : Value) (zs : List Int) (h0 : Ints W v0 zs) (most : Int) (wm : wfI most) (times : Int) (wt : wfI times) :
    Calls Try.prog 8 #[v0, .int .i64 most, .int .i64 times] W fun e W' => e = .returned (.bool true) ∧ Below W.heap.size W W' := by
  obtain ⟨A, ca, rfl, g1, g2, hA, hnil, _⟩ := h0
  have HA := Lib.hid (ints_at hA)
  obtain ⟨N, hN⟩ : ∃ N, N = zs.length := ⟨_, rfl⟩
  rw [← hN] at g1 ⊢
  have HN := Lib.hid hN.symm
  have Hnil : Hid (A = none → N = 0) := Lib.hid (fun h => by rw [hN, hnil h]; rfl)
  have Hxn : Hid (N ≤ maxLen) := Lib.hid (by omega)
  have hNb : N ≤ 9223372036854775807 := by have := Hxn.out; unfold maxLen at this; omega
  have hat := at2_any times 5
  have hw5 : -9223372036854775808 ≤ times ∧ times ≤ 9223372036854775807 := by have := wt; simpa [wfI, Lit.wf, IntKind.min, IntKind.max, IntKind.signed, IntKind.bits] using this
  have Hat : Hid (∀ w, Calls Try.prog 35 #[.int .i64 times, .int .i64 5] w fun e w' => e = .returned (.int .i64 (times % 5)) ∧ w = w') := Lib.hid (fun w => hat w hw5.1 hw5.2 (by omega) (by omega))
  obtain ⟨K, hK⟩ : ∃ K : Nat, 1 + times % 5 = (K : Int) := ⟨(1 + times % 5).toNat, by omega⟩
  have hK1 : 1 ≤ K := by omega
  have hK5 : K ≤ 5 := by omega
  have hm50 : 0 ≤ times % 5 ∧ times % 5 ≤ 4 := by omega
  clear hA hN g1 g2 wm wt hnil hat hw5
  go_enter Try.func8, Try.ntmps8
  go_wp2_with fail
  refine (lengths_any A N ca zs most W HN.out Hxn.out HA.out).mono ?_
  rintro e w1 ⟨hp, hb1⟩
  have Hb1 := Lib.hid hb1
  clear hb1
  rcases hp with ⟨hbad, rfl⟩ | ⟨hok, v1, rfl, hown⟩
  · generalize chkW zs most = z at *
    have hz : (z == 0) = false := by simpa using hbad
    go_wp2_with fail
    refine (weighed_any w1).mono ?_
    rintro e w2 ⟨rfl, hb2⟩
    have Hb2 := Lib.hid (stepN Hb1.out hb2)
    clear hb2
    go_wp2_with fail
    refine (weighed_any w2).mono ?_
    rintro e w3 ⟨rfl, hb3⟩
    have Hb3 := Lib.hid (stepN Hb2.out hb3)
    clear hb3
    go_wp2_with fail
    go_ret
    exact ⟨rfl, Hb3.out⟩
  · have Hok := Lib.hid hok
    obtain ⟨f1, f2, f3, f4, f5⟩ := chkW_fine zs most hok
    have F2 := Lib.hid f2
    have hN288 : N ≤ 288 := by rw [← HN.out]; exact f1
    rw [lenI_iv] at hown
    obtain ⟨A1, c1, rfl, _, _, hA1, hl1, _⟩ := own_ints hown
    have HA1 := Lib.hid hA1
    have Hl1 := Lib.hid hl1
    rw [HN.out] at Hl1 ⊢
    clear hown hA1 hl1 f1 f2 f3 f4 f5 hok
    go_wp2_with fail
    refine (weighed_any w1).mono ?_
    rintro e w2 ⟨rfl, hb2⟩
    have Hb2 := Lib.hid (stepN Hb1.out hb2)
    have HA12 := Lib.hid (HA1.out.below hb2)
    clear hb2 HA1
    go_wp2_with fail
    refine (Hat.out w2).mono ?_
    rintro e w3 ⟨rfl, rfl⟩
    go_wp2_with fail
    refine (CloneI.clone_any A N ca (zs.map iv) w2 (by rw [List.length_map, HN.out]; omega) (HA.out.below Hb2.out) Hnil.out (fun u hu => by obtain ⟨x, _, rfl⟩ := List.mem_map.1 hu; rfl) (by unfold maxLen; omega) (by omega)).mono ?_
    rintro e w3 ⟨v3, rfl, hown3, hb3⟩
    have Hown3 := Lib.hid hown3
    have Hb3 := Lib.hid hb3
    clear hown3 hb3
    go_wp2_with fail
    refine (reverse_own w2.heap.size N v3 zs w3 Hown3.out (by omega)).mono ?_
    rintro e w4 ⟨rfl, ⟨A4, c4, rfl, hA4, hn4⟩, hb4⟩
    have Hb24 := Lib.hid (Hb3.out.trans hb4)
    have Hb4 := Lib.hid (stepN Hb2.out Hb24.out)
    have HA4 := Lib.hid hA4
    have HA14 := Lib.hid (HA12.out.below Hb24.out)
    clear hA4 hb4 hn4 Hb3 Hown3 HA12
    go_wp2_with fail
    refine (CloneI.clone_any A N ca (zs.map iv) w4 (by rw [List.length_map, HN.out]; omega) (HA.out.below Hb4.out) Hnil.out (fun u hu => by obtain ⟨x, _, rfl⟩ := List.mem_map.1 hu; rfl) (by unfold maxLen; omega) (by omega)).mono ?_
    rintro e w5 ⟨v5, rfl, hown5, hb5⟩
    obtain ⟨A5, c5, rfl, _, _, _, _, hn5⟩ := own_ints hown5
    have Hown5 := Lib.hid hown5
    have Hb5 := Lib.hid hb5
    clear hown5 hb5
    have e1K : 1 + times % 5 = (K : Int) := hK
    go_wp2_with fail
    clear e1K
    go_loopw [43] (fun i wr => ∃ j : Nat, j ≤ N ∧ i = .int .i64 (j : Int) ∧ wr.ownsRow w4.heap.size 3 1 (.slice A5 N c5) N ((scaled (zs.take j) K ++ zs.drop j).map iv) ∧ Below w4.heap.size w4 wr) (fun i _ => N - (intOf i).toNat)
    case atStart => exact ⟨0, Nat.zero_le _, rfl, by simpa [scaled] using Hown5.out, Hb5.out⟩
    case round =>
      obtain ⟨j, hj, rfl, hown, hbr⟩ := hrel
      by_cases hlt : j < N
      · obtain ⟨g, cg, hv, hg1, hg2⟩ := hown.form (by omega)
        injection hv with hv1 hv2 hv3
        subst hv1 hv3
        have hjl : j < zs.length := by rw [HN.out]; exact hlt
        have hcell : wr.cell? ⟨g, j, none⟩ = some (.int .i64 zs[j]) := by rw [hown.cellAt j (by omega), List.getElem?_map, scaled_get zs K j hjl]; rfl
        have hfz := hown.frozenAt j
        have Hst := Lib.hid (fun u => (hown.stored j u).1)
        have Hnx := Lib.hid (scaled_take zs K j hjl)
        have hz := F2.out zs[j] (List.getElem_mem hjl)
        have Hbr := Lib.hid hbr
        have Hg1 := Lib.hid hg1
        generalize zs[j] = z at *
        have hm1 : z * (K : Int) ≤ 5000000 := by
          have := Int.mul_le_mul hz.2 (by omega : (K : Int) ≤ 5) (by omega) (by omega : (0 : Int) ≤ 1000000)
          omega
        have hm0 : 0 ≤ z * (K : Int) := Int.mul_nonneg hz.1 (by omega)
        generalize hzk : z * (K : Int) = zk at *
        clear hown hbr hg1 hg2 hv2
        go_wp2_with fail
        go_roundw
        case rel =>
          refine ⟨j + 1, by omega, by go_num, ?_, Hbr.out.setCell (by exact Hg1.out) _⟩
          have := Hst.out (.int .i64 zk)
          rw [Hnx.out, List.map_set]
          exact this
        case measure => simp [intOf]; omega
      · obtain rfl : j = N := by omega
        have hall : scaled (zs.take j) K ++ zs.drop j = scaled zs K := by rw [List.take_of_length_le (by rw [HN.out]; exact Nat.le_refl _), List.drop_of_length_le (by rw [HN.out]; exact Nat.le_refl _), List.append_nil]
        rw [hall] at hown
        obtain ⟨A5', c5', hv5, _, _, hA5, hl5, _⟩ := own_ints hown
        injection hv5 with q1 q2 q3
        subst q1 q3
        have HA5 := Lib.hid hA5
        have Hl5 := Lib.hid hl5
        have Hb4r := Lib.hid hbr
        have Hbr := Lib.hid (stepN Hb4.out hbr)
        have HA4r := Lib.hid (HA4.out.below hbr)
        have HA1r := Lib.hid (HA14.out.below hbr)
        clear hall hown hA5 hl5 hbr q2
        have Hrl : Hid (zs.reverse.length = j) := Lib.hid (by rw [List.length_reverse]; exact HN.out)
        go_wp2_with fail
        refine (lengths_any A4 j c4 zs.reverse most wr Hrl.out Hxn.out HA4r.out).mono ?_
        rintro e w6 ⟨hp, hb6⟩
        rcases hp with ⟨hbad, _⟩ | ⟨hok2, v6, rfl, hown6⟩
        · exact absurd (chk_rev zs most Hok.out) hbad
        rw [lenI_iv] at hown6
        obtain ⟨A6, c6, rfl, _, _, hA6, hl6, _⟩ := own_ints hown6
        have HA6 := Lib.hid hA6
        rw [Hrl.out] at hl6 ⊢
        have Hl6 := Lib.hid hl6
        have Hb6 := Lib.hid (stepN Hbr.out hb6)
        have HA46 := Lib.hid (HA4r.out.below hb6)
        have HA16 := Lib.hid (HA1r.out.below hb6)
        have HA56 := Lib.hid (HA5.out.below hb6)
        clear hown6 hA6 hl6 hb6 hok2
        go_wp2_with fail
        refine (cost_any A A1 j j ca c1 zs (lenI zs most) w6 HN.out Hl1.out Hxn.out Hxn.out (HA.out.below Hb6.out) HA16.out).mono ?_
        rintro e wx ⟨hp, hw⟩
        have hw := hw.symm
        subst hw
        rcases hp with ⟨hbad, _⟩ | ⟨_, rfl⟩
        · exact absurd (costE_len zs most Hok.out) hbad
        go_wp2_with fail
        refine (cost_any A4 A6 j j c4 c6 zs.reverse (lenI zs.reverse most) w6 Hrl.out Hl6.out Hxn.out Hxn.out HA46.out HA6.out).mono ?_
        rintro e wx ⟨hp, hw⟩
        have hw := hw.symm
        subst hw
        rcases hp with ⟨hbad, _⟩ | ⟨_, rfl⟩
        · exact absurd (costE_len zs.reverse most (chk_rev zs most Hok.out)) hbad
        rw [cost_rev zs most Hok.out]
        have hcb := costI_bd zs most Hok.out
        have Hsc := Lib.hid (cost_scale zs most K hK1 Hok.out)
        generalize costI zs (lenI zs most) = a at *
        have haa : (a != a) = false := by simp
        go_wp2_with fail
        refine (lengths_any A5 j c5 (scaled zs K) most w6 Hl5.out Hxn.out HA56.out).mono ?_
        rintro e w7 ⟨hp, hb7⟩
        have Hb7 := Lib.hid (stepN Hb6.out hb7)
        have HA57 := Lib.hid (HA56.out.below hb7)
        clear hb7
        rcases hp with ⟨hbad, rfl⟩ | ⟨hok3, v7, rfl, hown7⟩
        · obtain ⟨hb3, x, hx, hxb⟩ := chk_scale zs most K hK1 Hok.out hbad
          rw [hb3]
          have hj1 : 1 ≤ j := by
            have := List.length_pos_of_mem hx
            rw [Hl5.out] at this; exact this
          have Hx := Lib.hid (And.intro hx hxb)
          clear hb3 hbad hx hxb haa
          go_wp2_with fail
          refine (max_any A5 j c5 (scaled zs K) w7 Hl5.out hj1 Hxn.out HA57.out).mono ?_
          rintro e wx ⟨⟨mm, rfl, hm1, hm2⟩, hw⟩
          have hw := hw.symm
          subst hw
          have hmb : 1000000 < mm := by have := hm2 _ Hx.out.1; have := Hx.out.2; omega
          clear hm1 hm2
          go_wp2_with fail
          go_ret
          exact ⟨rfl, Hb7.out⟩
        · rw [lenI_iv] at hown7
          obtain ⟨A7, c7, rfl, _, _, hA7, hl7, _⟩ := own_ints hown7
          have HA7 := Lib.hid hA7
          rw [Hl5.out] at hl7 ⊢
          have Hl7 := Lib.hid hl7
          have hsc := Hsc.out hok3
          have Hcl := Lib.hid (costE_len _ most hok3)
          clear hown7 hA7 hl7 hok3
          go_wp2_with fail
          refine (cost_any A5 A7 j j c5 c7 (scaled zs K) (lenI (scaled zs K) most) w7 Hl5.out Hl7.out Hxn.out Hxn.out HA57.out HA7.out).mono ?_
          rintro e wx ⟨hp, hw⟩
          have hw := hw.symm
          subst hw
          rcases hp with ⟨hbad, _⟩ | ⟨_, rfl⟩
          · exact absurd Hcl.out hbad
          rw [hsc]
          have hka : (K : Int) * a ≤ 5 * 4320000000 := Int.mul_le_mul (by omega) (by omega) hcb.1 (by omega)
          have hka0 : 0 ≤ (K : Int) * a := Int.mul_nonneg (by omega) hcb.1
          generalize hq : (K : Int) * a = ka at *
          have hkk : (ka == ka) = true := by simp
          clear hsc haa
          go_wp2_with fail
          go_ret
          exact ⟨rfl, Hb7.out⟩
end Go.Proofs.Ytdponlnfdjfljaa.WeighTurned
