/- sort.symMerge_func at rows of places. -/
import Derived.Test.YtfgkfakhlcbdbaaSlcSym
import Derived.Deep.CutRange
namespace Go.Proofs.Ytfgkfakhlcbdbaa.Slc
open Go Go.RowKit Go.Proofs.Ytfgkfakhlcbdbaa Go.Proofs.Ytfgkfakhlcbdbaa.SP
set_option linter.unusedVariables false

/-- symMerge does what it should, of at most F -/
def SymAt (F : Nat) : Prop := ∀ (g gv N cap a m b : Nat) (rest : List Value) (P L R Q : List TE) (w : World), L.length + R.length ≤ F → PkAt w g rest (P ++ L ++ (R ++ Q)) → Var w g gv N cap → P.length = a → a + L.length = m → m + R.length = b → 1 ≤ L.length → 1 ≤ R.length →
    L.Pairwise (lexP ekey) → R.Pairwise (lexP ekey) → (∀ x ∈ L, ∀ y ∈ R, x.2 < y.2) → (P ++ L ++ (R ++ Q)).length = N → N ≤ 1000000 →
    Calls Try.prog 66 #[.agg #[lessV gv, swapV g N cap], .int .i64 (a : Int), .int .i64 (m : Int), .int .i64 (b : Int)] w fun e w' => e = .returned (.tuple #[]) ∧ (∃ S', PkAt w' g rest (P ++ S' ++ Q) ∧ S'.Perm (L ++ R) ∧ S'.Pairwise (lexP ekey)) ∧ w.grownBy w' (some g)
theorem md_at (P L R Q : List TE) (k l : Nat) (h : k < L.length) (h2 : l < R.length) : P ++ L ++ (R ++ Q) = (P ++ L.take k) ++ L[k] :: ((L.drop (k + 1) ++ R.take l) ++ R[l] :: (R.drop (l + 1) ++ Q)) := by
  have e1 : L = L.take k ++ L[k] :: L.drop (k + 1) := by rw [← List.drop_eq_getElem_cons h, List.take_append_drop]
  have e2 : R = R.take l ++ R[l] :: R.drop (l + 1) := by rw [← List.drop_eq_getElem_cons h2, List.take_append_drop]
  conv => lhs; rw [e1, e2]
  simp only [List.append_assoc, List.cons_append]
theorem md_done (L1 L2 R1 R2 M1 M2 : List TE) (p1 : M1.Perm (L1 ++ R1)) (p2 : M2.Perm (L2 ++ R2)) (s1 : M1.Pairwise (lexP ekey)) (s2 : M2.Pairwise (lexP ekey)) (hh : ∀ x ∈ L1 ++ R1, ∀ y ∈ L2 ++ R2, lexP ekey x y) :
    (M1 ++ M2).Perm ((L1 ++ L2) ++ (R1 ++ R2)) ∧ (M1 ++ M2).Pairwise (lexP ekey) := by
  refine ⟨(p1.append p2).trans ?_, join_sorted M1 M2 _ _ p1 p2 s1 s2 hh⟩
  simp only [List.append_assoc]
  exact List.Perm.append_left L1 (List.perm_append_comm_assoc R1 L2 R2)
set_option maxRecDepth 100000 in
set_option maxHeartbeats 8000000 in
theorem sym_mid (F : Nat) (ih : SymAt F) (g gv N cap a m b : Nat) (rest : List Value) (P L R Q : List TE) (w : World) (hF : L.length + R.length ≤ F + 1) (h : PkAt w g rest (P ++ L ++ (R ++ Q))) (hv : Var w g gv N cap) (ha : P.length = a) (hm : a + L.length = m) (hb : m + R.length = b) (hL : 2 ≤ L.length) (hR : 2 ≤ R.length)
    (hsL : L.Pairwise (lexP ekey)) (hsR : R.Pairwise (lexP ekey)) (htag : ∀ x ∈ L, ∀ y ∈ R, x.2 < y.2) (hN : (P ++ L ++ (R ++ Q)).length = N) (hN2 : N ≤ 1000000) :
    Calls Try.prog 66 #[.agg #[lessV gv, swapV g N cap], .int .i64 (a : Int), .int .i64 (m : Int), .int .i64 (b : Int)] w fun e w' => e = .returned (.tuple #[]) ∧ (∃ S', PkAt w' g rest (P ++ S' ++ Q) ∧ S'.Perm (L ++ R) ∧ S'.Pairwise (lexP ekey)) ∧ w.grownBy w' (some g) := by
  have hN3 : P.length + L.length + R.length + Q.length = N := by rw [← hN]; simp; omega
  have HN3 := Lib.hid hN3
  have Ih := Lib.hid ih
  have HF := Lib.hid hF
  have H := Lib.hid (Mm.start h hv hN hN2)
  have HP := Lib.hid ha
  have HsL := Lib.hid hsL
  have HsR := Lib.hid hsR
  have Htag := Lib.hid htag
  have hbN : b ≤ N := by omega
  have hmb : m + 2 ≤ b := by omega
  have ham : a + 2 ≤ m := by omega
  have e1 : (m : Int) - (a : Int) = ((L.length : Nat) : Int) := by omega
  have e0 : (((L.length : Nat) : Int) == 1) = false := by simp; omega
  have e2 : (b : Int) - (m : Int) = ((R.length : Nat) : Int) := by omega
  have e3 : (((R.length : Nat) : Int) == 1) = false := by simp; omega
  obtain ⟨mid, hmid⟩ : ∃ mid, mid = (a + b) / 2 := ⟨_, rfl⟩
  have e4 : ((a : Int) + (b : Int)) / 2 = (mid : Int) := by omega
  obtain ⟨n, hn⟩ : ∃ n, n = mid + m := ⟨_, rfl⟩
  have e5 : (mid : Int) + (m : Int) = (n : Int) := by omega
  obtain ⟨p, hp⟩ : ∃ p, n = p + 1 := ⟨n - 1, by omega⟩
  have e6 : (n : Int) - 1 = (p : Int) := by omega
  have Hmid : Hid (a + b = 2 * mid ∨ a + b = 2 * mid + 1) := Lib.hid (by omega)
  have Hn := Lib.hid hn
  have Hp := Lib.hid hp
  have Hm := Lib.hid hm
  have Hb := Lib.hid hb
  have hnN : n ≤ 2000000 := by omega
  have hpN : p ≤ 2000000 := by omega
  have hmN : mid ≤ 1000000 := by omega
  clear h hv hN hN3 ha hsL hsR htag hb hm hL hR hmid hn hp ih hF
  generalize hll : L.length = ll at *
  have Hll := Lib.hid hll
  generalize hrl : R.length = rl at *
  have Hrl := Lib.hid hrl
  clear hll hrl
  go_enter Try.func66, Try.ntmps66
  go_upto_if 106 with fail
  generalize hw1 : w.alloc (.cells #[lessV gv, swapV g N cap] 94) = w1 at *
  generalize hbx : w.heap.size = bx at *
  have Hw1 := Lib.hid hw1
  clear hw1 hbx
  clear e1 e0 e2 e3
  go_cut [18, 19] from 95 to 114 (fun sv rv wx => ∃ s r : Nat, sv = .int .i64 (s : Int) ∧ rv = .int .i64 (r : Int) ∧ a ≤ s ∧ n ≤ s + b ∧ s ≤ r ∧ r ≤ m ∧ r ≤ mid ∧ (s = a ∨ s + b = n) ∧ (r = m ∨ r = mid) ∧ wx = w1)
  case first =>
    by_cases hmm : mid < m
    · have e7 : (n : Int) - (b : Int) = ((n - b : Nat) : Int) := by have := Hmid.out; have := Hn.out; omega
      have Hnb : Hid (n - b + b = n) := Lib.hid (by have := Hmid.out; have := Hn.out; omega)
      generalize n - b = nb at *
      go_wp2_with fail
      go_meet
      case rel => exact ⟨nb, mid, rfl, rfl, by have := Hmid.out; have := Hn.out; have := Hnb.out; omega, by have := Hnb.out; omega, by have := Hmid.out; have := Hn.out; have := Hnb.out; omega, by omega, Nat.le_refl _, .inr Hnb.out, .inr rfl, rfl⟩
    · go_wp2_with fail
      go_meet
      case rel => exact ⟨a, m, rfl, rfl, Nat.le_refl _, by have := Hmid.out; have := Hn.out; omega, by omega, Nat.le_refl _, by omega, .inl rfl, .inl rfl, rfl⟩
  case rest =>
    obtain ⟨s0, r0, rfl, rfl, k1, k2, k3, k4, k5, k6, k7, hw⟩ := hcut
    have hw := hw.symm
    subst hw
    go_wp2_with fail
    go_loopw [18, 19] (fun sv rv wr => ∃ s r : Nat, sv = .int .i64 (s : Int) ∧ rv = .int .i64 (r : Int) ∧ s0 ≤ s ∧ s ≤ r ∧ r ≤ r0 ∧ (s = s0 ∨ ∃ (h1 : s - 1 - a < L.length) (h2 : n - s - m < R.length), L[s - 1 - a].1.1 ≤ R[n - s - m].1.1) ∧
      (r = r0 ∨ ∃ (h1 : r - a < L.length) (h2 : n - 1 - r - m < R.length), R[n - 1 - r - m].1.1 < L[r - a].1.1) ∧ Mm w1 wr bx g gv N cap rest (P ++ L ++ (R ++ Q))) (fun sv rv _ => (intOf rv - intOf sv).toNat)
    case atStart => exact ⟨s0, r0, rfl, rfl, Nat.le_refl _, k3, Nat.le_refl _, .inl rfl, .inl rfl, H.out⟩
    case round =>
      obtain ⟨s, r, rfl, rfl, hs0, hsr, hr0, hI, hJ, hpk⟩ := hrel
      have HI := Lib.hid hI
      have HJ := Lib.hid hJ
      have c0 := hpk.c0
      have c1 := hpk.c1
      have Hpk := Lib.hid hpk
      clear hI hJ
      by_cases hlt : s < r
      · obtain ⟨q, hq⟩ : ∃ q, q = (s + r) / 2 := ⟨_, rfl⟩
        have hqi : s ≤ q := by omega
        have hqj : q < r := by omega
        obtain ⟨z, hz⟩ : ∃ z, z = p - q := ⟨_, rfl⟩
        have hzp : z + q + 1 = n := by have := Hp.out; omega
        have hmz : m ≤ z := by have := Hn.out; omega
        have hzb : z < b := by omega
        have hql : q - a < L.length := by have := Hm.out; have := Hll.out; omega
        have hzl : z - m < R.length := by have := Hb.out; have := Hrl.out; omega
        have Hat := Lib.hid (md_at P L R Q (q - a) (z - m) hql hzl)
        have HX : Hid (q = (P ++ L.take (q - a)).length) := Lib.hid (by rw [List.length_append, List.length_take, HP.out]; omega)
        have HY : Hid (z = (P ++ L.take (q - a)).length + 1 + (L.drop (q - a + 1) ++ R.take (z - m)).length) := Lib.hid (by rw [← HX.out, List.length_append, List.length_drop, List.length_take]; have := Hm.out; have := Hll.out; have := Hrl.out; omega)
        obtain ⟨x, hx⟩ : ∃ x, L[q - a] = x := ⟨_, rfl⟩
        obtain ⟨y, hy⟩ : ∃ y, R[z - m] = y := ⟨_, rfl⟩
        have Hx : Hid (∀ h : q - a < L.length, L[q - a] = x) := Lib.hid (fun _ => hx)
        have Hy : Hid (∀ h : z - m < R.length, R[z - m] = y) := Lib.hid (fun _ => hy)
        rw [Hat.out, hx, hy] at hpk
        have HLs := Lib.hid (hpk.less' HX.out HY.out)
        have Hback : Hid (∀ W, Mm w1 W bx g gv N cap rest (P ++ L.take (q - a) ++ x :: (L.drop (q - a + 1) ++ R.take (z - m) ++ y :: (R.drop (z - m + 1) ++ Q))) → Mm w1 W bx g gv N cap rest (P ++ L ++ (R ++ Q))) := Lib.hid (fun W hW => by rw [Hat.out, hx, hy]; exact hW)
        have e2 : ((s : Int) + (r : Int)) / 2 = (q : Int) := by omega
        have e3 : (p : Int) - (q : Int) = (z : Int) := by omega
        have hw : IntKind.i64.wrap (z : Int) = (z : Int) := IntWalk.i64_in _ (by omega)
        have Hz : Hid (n - (q + 1) - m = z - m ∧ n - 1 - q - m = z - m ∧ q + 1 - 1 - a = q - a) := Lib.hid (by omega)
        unfold lessV at c0
        clear hpk hx hy hq hz c1
        by_cases hc : y.1.1 < x.1.1
        · have hb1 : decide (y.1.1 < x.1.1) = true := by simp [hc]
          rw [hb1] at HLs
          clear hb1
          go_wp2_with fail
          refine (HLs.out).mono ?_
          rintro e w3 ⟨rfl, hm3⟩
          have HM3 := Lib.hid (Hback.out _ hm3)
          clear hm3
          go_wp2_with fail
          go_roundw
          case rel => exact ⟨s, q, rfl, rfl, hs0, hqi, by omega, HI.out, .inr ⟨hql, by rw [Hz.out.2.1]; exact hzl, by
            have a1 := Hz.out.2.1
            have a2 := Hy.out hzl
            have a3 := Hx.out hql
            simp only [a1, a2, a3]; exact hc⟩, HM3.out⟩
          case measure => simp [intOf]; omega
        · have hb1 : decide (y.1.1 < x.1.1) = false := by simp; omega
          rw [hb1] at HLs
          clear hb1
          go_wp2_with fail
          refine (HLs.out).mono ?_
          rintro e w3 ⟨rfl, hm3⟩
          have HM3 := Lib.hid (Hback.out _ hm3)
          clear hm3
          go_wp2_with fail
          go_roundw
          case rel => exact ⟨q + 1, r, by go_num, rfl, by omega, by omega, hr0, .inr ⟨by rw [Hz.out.2.2]; exact hql, by rw [Hz.out.1]; exact hzl, by
            have a1 := Hz.out.1
            have a4 := Hz.out.2.2
            have a2 := Hy.out hzl
            have a3 := Hx.out hql
            simp only [a1, a4, a2, a3]; omega⟩, HJ.out, HM3.out⟩
          case measure => simp [intOf]; omega
      · obtain rfl : s = r := by omega
        have hh1 : s - a = 0 ∨ mid - s = R.length ∨ ∃ (h1 : s - a - 1 < L.length) (h2 : mid - s < R.length), lexP ekey L[s - a - 1] R[mid - s] := by
          rcases HI.out with h | ⟨h1, h2, h3⟩
          · rcases k6 with k | k
            · left; omega
            · right; left; have := Hn.out; have := Hb.out; have := Hrl.out; omega
          · right; right
            have a1 : s - a - 1 = s - 1 - a := by omega
            have a2 : mid - s = n - s - m := by have := Hn.out; omega
            simp only [a1, a2]
            refine ⟨h1, h2, ?_⟩
            have := Htag.out _ (List.getElem_mem h1) _ (List.getElem_mem h2)
            unfold lexP ekey; omega
        have hh2 : mid - s = 0 ∨ s - a = L.length ∨ ∃ (h1 : mid - s - 1 < R.length) (h2 : s - a < L.length), lexP ekey R[mid - s - 1] L[s - a] := by
          rcases HJ.out with h | ⟨h1, h2, h3⟩
          · rcases k7 with k | k
            · right; left; have := Hm.out; have := Hll.out; omega
            · left; omega
          · right; right
            have a2 : mid - s - 1 = n - 1 - s - m := by have := Hn.out; omega
            simp only [a2]
            exact ⟨h2, h1, .inl h3⟩
        have hhalf := halves (le := lexP ekey) (fun a b c => lexP_trans ekey a b c) L R (s - a) (mid - s) (by have := Hm.out; have := Hll.out; omega) (by have := Hn.out; have := Hb.out; have := Hrl.out; omega) HsL.out HsR.out hh1 hh2
        have hL : L = L.take (s - a) ++ L.drop (s - a) := (List.take_append_drop _ _).symm
        have hR : R = R.take (mid - s) ++ R.drop (mid - s) := (List.take_append_drop _ _).symm
        have l1 : (L.take (s - a)).length = s - a := by rw [List.length_take]; have := Hm.out; have := Hll.out; omega
        have l2 : (L.drop (s - a)).length = m - s := by rw [List.length_drop]; have := Hm.out; have := Hll.out; omega
        have l3 : (R.take (mid - s)).length = mid - s := by rw [List.length_take]; have := Hn.out; have := Hb.out; have := Hrl.out; omega
        have l4 : (R.drop (mid - s)).length = b - (n - s) := by rw [List.length_drop]; have := Hn.out; have := Hb.out; have := Hrl.out; omega
        generalize L.take (s - a) = L1 at *
        generalize L.drop (s - a) = L2 at *
        generalize R.take (mid - s) = R1 at *
        generalize R.drop (mid - s) = R2 at *
        obtain ⟨en, hen⟩ : ∃ en, en = n - s := ⟨_, rfl⟩
        have e8 : (n : Int) - (s : Int) = (en : Int) := by omega
        rw [← hen] at l4
        have Hen : Hid (en = m + (mid - s)) := Lib.hid (by have := Hn.out; omega)
        have Hl1 := Lib.hid l1
        have Hl2 := Lib.hid l2
        have Hl3 := Lib.hid l3
        have Hl4 := Lib.hid l4
        have HL := Lib.hid hL
        have HR := Lib.hid hR
        have Hhalf := Lib.hid hhalf
        have hsas : a ≤ s := by omega
        have hsm : s ≤ m := by omega
        have hsmid : s ≤ mid := by omega
        have henb : en ≤ b := by have := Hen.out; have := Hn.out; omega
        have henm : m ≤ en := by have := Hen.out; omega
        clear hh1 hh2 hhalf hL hR l1 l2 l3 l4 hen HI HJ k1 k2 k3 k4 k5 k6 k7 hpk
        have hpk5 : Mm w1 wr bx g gv N cap rest ((P ++ L1) ++ L2 ++ (R1 ++ (R2 ++ Q))) := by
          have := Hpk.out
          rw [HL.out, HR.out] at this
          simpa only [List.append_assoc] using this
        have Hpk5 := Lib.hid hpk5
        have HNN : Hid (((P ++ L1) ++ L2 ++ (R1 ++ (R2 ++ Q))).length = N) := Lib.hid (by
          have h1 := HN3.out; have h2 := congrArg List.length HL.out; have h3 := congrArg List.length HR.out; have h4 := Hll.out; have h5 := Hrl.out
          simp only [List.length_append] at h2 h3 ⊢
          omega)
        have Hp1 : Hid ((P ++ L1).length = s) := Lib.hid (by rw [List.length_append, HP.out, Hl1.out]; omega)
        clear hpk5 Hpk H
        go_upto_region 40 with fail
        clear e8
        go_cut [145] from 113 to 145 (fun v wx => v = .bool (decide (s < m ∧ m < en)) ∧ wx = wr)
        case first =>
          by_cases a1 : s < m
          · by_cases a2 : m < en
            · go_wp2_with fail
              go_meet
              case rel => exact ⟨by simp [a1, a2], rfl⟩
            · go_wp2_with fail
              go_meet
              case rel => exact ⟨by simp [a2], rfl⟩
          · go_wp2_with fail
            go_meet
            case rel => exact ⟨by simp [a1], rfl⟩
        case rest =>
          obtain ⟨rfl, hw⟩ := hcut
          have hw := hw.symm
          subst hw
          go_upto_if 145 with fail
          go_cut [18] from 138 to 150 (fun v wx => v = .int .i64 (s : Int) ∧ Mm w1 wx bx g gv N cap rest (P ++ L1 ++ (R1 ++ (L2 ++ (R2 ++ Q)))))
          case first =>
            by_cases hr : s < m ∧ m < en
            · rw [decide_eq_true hr]
              go_wp2_with fail
              refine (rotate_any g gv N cap s m en rest (P ++ L1) L2 R1 (R2 ++ Q) wr Hpk5.out.pk Hpk5.out.var Hp1.out (by rw [Hl2.out]; omega) (by rw [Hl3.out]; exact Hen.out.symm) (by rw [Hl2.out]; omega) (by rw [Hl3.out]; have := Hen.out; omega) HNN.out hN2).mono ?_
              rintro e w5 ⟨rfl, hp5, hg5⟩
              have Hp5 := Lib.hid (Hpk5.out.more hg5 hp5 (by simp only [List.length_append]; omega))
              clear hp5 hg5
              go_wp2_with fail
              go_meet
              case rel => exact ⟨rfl, by have := Hp5.out; simpa only [List.append_assoc] using this⟩
            · rw [decide_eq_false hr]
              go_wp2_with fail
              go_meet
              case rel =>
                refine ⟨rfl, ?_⟩
                have h1 := Hpk5.out
                have h2 : L2 = [] ∨ R1 = [] := by
                  rcases Nat.lt_or_ge s m with h | h
                  · right; exact List.eq_nil_of_length_eq_zero (by rw [Hl3.out]; have := Hen.out; omega)
                  · left; exact List.eq_nil_of_length_eq_zero (by rw [Hl2.out]; omega)
                rcases h2 with rfl | rfl
                · simpa only [List.append_assoc, List.nil_append] using h1
                · simpa only [List.append_assoc, List.nil_append] using h1
          case rest =>
            obtain ⟨rfl, hp6⟩ := hcut
            have c0 := hp6.c0
            have c1 := hp6.c1
            have Hp6 := Lib.hid hp6
            clear hp6 Hpk5
            generalize wc = w6 at *
            go_upto_region 42 with fail
            go_cut [158] from 146 to 158 (fun v wx => v = .bool (decide (a < s ∧ s < mid)) ∧ wx = w6)
            case first =>
              by_cases a1 : a < s
              · by_cases a2 : s < mid
                · go_wp2_with fail
                  go_meet
                  case rel => exact ⟨by simp [a1, a2], rfl⟩
                · go_wp2_with fail
                  go_meet
                  case rel => exact ⟨by simp [a2], rfl⟩
              · go_wp2_with fail
                go_meet
                case rel => exact ⟨by simp [a1], rfl⟩
            case rest =>
              obtain ⟨rfl, hw⟩ := hcut
              have hw := hw.symm
              subst hw
              go_upto_if 158 with fail
              go_cut [18] from 151 to 163 (fun v wx => v = .int .i64 (s : Int) ∧ (∃ M1, Mm w1 wx bx g gv N cap rest (P ++ M1 ++ (L2 ++ (R2 ++ Q))) ∧ M1.Perm (L1 ++ R1) ∧ M1.Pairwise (lexP ekey)))
              case first =>
                by_cases hr : a < s ∧ s < mid
                · rw [decide_eq_true hr]
                  go_wp2_with fail
                  refine (Ih.out g gv N cap a s mid rest P L1 R1 (L2 ++ (R2 ++ Q)) w6 (by rw [Hl1.out, Hl3.out]; have := HF.out; have := Hmid.out; have := Hm.out; have := Hb.out; omega) Hp6.out.pk Hp6.out.var HP.out (by rw [Hl1.out]; omega) (by rw [Hl3.out]; omega) (by rw [Hl1.out]; omega) (by rw [Hl3.out]; omega)
                    ((pw_append _ _).1 (HL.out ▸ HsL.out)).1 ((pw_append _ _).1 (HR.out ▸ HsR.out)).1 (fun x hx y hy => Htag.out x (by rw [HL.out]; exact List.mem_append_left _ hx) y (by rw [HR.out]; exact List.mem_append_left _ hy)) (by rw [← HNN.out]; simp; omega) hN2).mono ?_
                  rintro e w7 ⟨rfl, ⟨M1, hp7, hpe, hso⟩, hg7⟩
                  have Hp7 := Lib.hid (Hp6.out.more hg7 hp7 (by have := hpe.length_eq; simp only [List.length_append] at this ⊢; omega))
                  have Hpe := Lib.hid hpe
                  have Hso := Lib.hid hso
                  clear hp7 hg7 hpe hso
                  go_wp2_with fail
                  go_meet
                  case rel => exact ⟨rfl, ⟨M1, Hp7.out, Hpe.out, Hso.out⟩⟩
                · rw [decide_eq_false hr]
                  go_wp2_with fail
                  go_meet
                  case rel =>
                    refine ⟨rfl, ⟨L1 ++ R1, by have := Hp6.out; simpa only [List.append_assoc] using this, List.Perm.refl _, ?_⟩⟩
                    rcases Nat.lt_or_ge a s with h | h
                    · have : R1 = [] := List.eq_nil_of_length_eq_zero (by rw [Hl3.out]; omega)
                      subst this
                      rw [List.append_nil]; exact ((pw_append _ _).1 (HL.out ▸ HsL.out)).1
                    · have : L1 = [] := List.eq_nil_of_length_eq_zero (by rw [Hl1.out]; omega)
                      subst this
                      rw [List.nil_append]; exact ((pw_append _ _).1 (HR.out ▸ HsR.out)).1
              case rest =>
                obtain ⟨rfl, ⟨M1, hp8, hpe, hso⟩⟩ := hcut
                have c0 := hp8.c0
                have c1 := hp8.c1
                have Hp8 := Lib.hid hp8
                have Hpe := Lib.hid hpe
                have Hso := Lib.hid hso
                have HM1 : Hid ((P ++ M1).length = mid) := Lib.hid (by rw [List.length_append, HP.out, hpe.length_eq, List.length_append, Hl1.out, Hl3.out]; omega)
                clear hp8 hpe hso Hp6
                generalize wc = w8 at *
                go_upto_region 44 with fail
                go_cut [171] from 159 to 171 (fun v wx => v = .bool (decide (mid < en ∧ en < b)) ∧ wx = w8)
                case first =>
                  by_cases a1 : mid < en
                  · by_cases a2 : en < b
                    · go_wp2_with fail
                      go_meet
                      case rel => exact ⟨by simp [a1, a2], rfl⟩
                    · go_wp2_with fail
                      go_meet
                      case rel => exact ⟨by simp [a2], rfl⟩
                  · go_wp2_with fail
                    go_meet
                    case rel => exact ⟨by simp [a1], rfl⟩
                case rest =>
                  obtain ⟨rfl, hw⟩ := hcut
                  have hw := hw.symm
                  subst hw
                  by_cases hr : mid < en ∧ en < b
                  · rw [decide_eq_true hr]
                    go_wp2_with fail
                    refine (Ih.out g gv N cap mid en b rest (P ++ M1) L2 R2 Q w8 (by rw [Hl2.out, Hl4.out]; have := HF.out; have := Hmid.out; have := Hm.out; have := Hb.out; have := Hen.out; omega) (by have := Hp8.out.pk; simpa only [List.append_assoc] using this) Hp8.out.var HM1.out (by rw [Hl2.out]; have := Hen.out; omega) (by rw [Hl4.out]; omega) (by rw [Hl2.out]; have := Hen.out; omega) (by rw [Hl4.out]; omega)
                      ((pw_append _ _).1 (HL.out ▸ HsL.out)).2.1 ((pw_append _ _).1 (HR.out ▸ HsR.out)).2.1 (fun x hx y hy => Htag.out x (by rw [HL.out]; exact List.mem_append_right _ hx) y (by rw [HR.out]; exact List.mem_append_right _ hy)) (by have h1 := Hpe.out.length_eq; rw [← HNN.out]; simp only [List.length_append] at h1 ⊢; omega) hN2).mono ?_
                    rintro e w9 ⟨rfl, ⟨M2, hp9, hpe2, hso2⟩, hg9⟩
                    have Hp9 : Hid (Mm w1 w9 bx g gv N cap rest (P ++ (M1 ++ M2) ++ Q)) := Lib.hid (Hp8.out.more hg9 (by simpa only [List.append_assoc] using hp9) (by have := hpe2.length_eq; simp only [List.length_append] at this ⊢; omega))
                    have Hdone := Lib.hid (md_done L1 L2 R1 R2 M1 M2 Hpe.out hpe2 Hso.out hso2 Hhalf.out)
                    clear hp9 hg9 hpe2 hso2
                    go_wp2_with fail
                    go_end0
                    exact ⟨rfl, ⟨M1 ++ M2, Hp9.out.pk, by rw [HL.out, HR.out]; exact Hdone.out.1, Hdone.out.2⟩, (Hw1.out ▸ Hp9.out : Mm (w.alloc _) _ _ _ _ _ _ _ _).done⟩
                  · rw [decide_eq_false hr]
                    have Hdone := Lib.hid (md_done L1 L2 R1 R2 M1 (L2 ++ R2) Hpe.out (List.Perm.refl _) Hso.out (by
                      rcases Nat.lt_or_ge mid en with h | h
                      · have : R2 = [] := List.eq_nil_of_length_eq_zero (by rw [Hl4.out]; omega)
                        subst this
                        rw [List.append_nil]; exact ((pw_append _ _).1 (HL.out ▸ HsL.out)).2.1
                      · have : L2 = [] := List.eq_nil_of_length_eq_zero (by rw [Hl2.out]; have := Hen.out; omega)
                        subst this
                        rw [List.nil_append]; exact ((pw_append _ _).1 (HR.out ▸ HsR.out)).2.1) Hhalf.out)
                    go_wp2_with fail
                    go_end0
                    exact ⟨rfl, ⟨M1 ++ (L2 ++ R2), by have := Hp8.out.pk; simpa only [List.append_assoc] using this, by rw [HL.out, HR.out]; exact Hdone.out.1, Hdone.out.2⟩, (Hw1.out ▸ Hp8.out : Mm (w.alloc _) _ _ _ _ _ _ _ _).done⟩
theorem sym_any : ∀ F, SymAt F := by
  intro F
  induction F with
  | zero => intro g gv N cap a m b rest P L R Q w hF; intros; omega
  | succ F ih =>
    intro g gv N cap a m b rest P L R Q w hF h hv ha hm hb hL hR hsL hsR htag hN hN2
    by_cases h1 : L.length = 1
    · obtain ⟨x, rfl⟩ := List.length_eq_one_iff.1 h1
      exact sym_up g gv N cap a m b rest P R Q x w h hv ha hm hb hR hsR (fun y hy => htag x (by simp) y hy) hN hN2
    · by_cases h2 : R.length = 1
      · obtain ⟨x, rfl⟩ := List.length_eq_one_iff.1 h2
        exact sym_dn g gv N cap a m b rest P L Q x w h hv ha hm hb (by omega) hsL (fun y hy => htag y hy x (by simp)) hN hN2
      · exact sym_mid F ih g gv N cap a m b rest P L R Q w hF h hv ha hm hb (by omega) (by omega) hsL hsR htag hN hN2
end Go.Proofs.Ytfgkfakhlcbdbaa.Slc
