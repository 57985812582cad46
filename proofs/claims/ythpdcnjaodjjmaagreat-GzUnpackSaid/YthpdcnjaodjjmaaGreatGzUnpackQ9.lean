/- texts joined: SlcSym3 SlcStab SlcSort CdsSort CdsCodes KMap CdsBook UnpGet ConcatI UnpSizes. -/
import Derived.Test.YthpdcnjaodjjmaaGreatGzUnpackQ8
import Derived.Deep.CutRange
import Derived.Test.YthpdcnjaodjjmaaGreatGzUnpackQ1
import Derived.BigQuiet
import Derived.Maps.OwnOps
import Derived.Test.YthpdcnjaodjjmaaGreatGzUnpackQ3
import Derived.StillTailTactics
import Derived.Test.YthpdcnjaodjjmaaGreatProg
import Derived.WalkSpells
import Derived.Lib.AppendZeros
import Derived.Test.YthpdcnjaodjjmaaGreatGzUnpackQ4
/- sort.symMerge_func at rows of places. -/
namespace Go.Proofs.YthpdcnjaodjjmaaGreat.Slc
open Go Go.RowKit Go.Proofs.YthpdcnjaodjjmaaGreat Go.Proofs.YthpdcnjaodjjmaaGreat.SP
set_option linter.unusedVariables false

def SymAt (F : Nat) : Prop := ∀ (g gv N cap a m b : Nat) (rest : List Value) (P L R Q : List TE) (w : World), L.length + R.length ≤ F → PkAt w g rest (P ++ L ++ (R ++ Q)) → Var w g gv N cap → P.length = a → a + L.length = m → m + R.length = b → 1 ≤ L.length → 1 ≤ R.length →
  L.Pairwise (lexP ekey) → R.Pairwise (lexP ekey) → (∀ x ∈ L, ∀ y ∈ R, x.2 < y.2) → (P ++ L ++ (R ++ Q)).length = N → N ≤ 1000000 →
  Calls Tryz.prog 125 #[.agg #[lessV gv, swapV g N cap], .int .i64 (a : Int), .int .i64 (m : Int), .int .i64 (b : Int)] w fun e w' => e = .returned (.tuple #[]) ∧ (∃ S', PkAt w' g rest (P ++ S' ++ Q) ∧ S'.Perm (L ++ R) ∧ S'.Pairwise (lexP ekey)) ∧ w.grownBy w' (some g)
theorem md_at (P L R Q : List TE) (k l : Nat) (h : k < L.length) (h2 : l < R.length) : P ++ L ++ (R ++ Q) = (P ++ L.take k) ++ L[k] :: ((L.drop (k + 1) ++ R.take l) ++ R[l] :: (R.drop (l + 1) ++ Q)) := by
 have e1 : L = L.take k ++ L[k] :: L.drop (k + 1) := by rw [← List.drop_eq_getElem_cons h, List.take_append_drop]
 have e2 : R = R.take l ++ R[l] :: R.drop (l + 1) := by rw [← List.drop_eq_getElem_cons h2, List.take_append_drop]
 conv => lhs; rw [e1, e2]
 simp only [List.append_assoc, List.cons_append]
theorem md_done (L1 L2 R1 R2 M1 M2 : List TE) (p1 : M1.Perm (L1 ++ R1)) (p2 : M2.Perm (L2 ++ R2)) (s1 : M1.Pairwise (lexP ekey)) (s2 : M2.Pairwise (lexP ekey)) (hh : ∀ x ∈ L1 ++ R1, ∀ y ∈ L2 ++ R2, lexP ekey x y) :
  (M1 ++ M2).Perm ((L1 ++ L2) ++ (R1 ++ R2)) ∧ (M1 ++ M2).Pairwise (lexP ekey) := by
 refine ⟨(p1.append p2).trans ?_, join_sorted M1 M2 _ _ p1 p2 s1 s2 hh⟩
 simp only [List.append_assoc]
 exact List.Perm.append_left L1 (List.perm_append_comm_assoc R1 L2 R2)
set_option maxRecDepth 100000 in
set_option maxHeartbeats 8000000 in
theorem sym_mid (F : Nat) (ih : SymAt F) (g gv N cap a m b : Nat) (rest : List Value) (P L R Q : List TE) (w : World) (hF : L.length + R.length ≤ F + 1) (h : PkAt w g rest (P ++ L ++ (R ++ Q))) (hv : Var w g gv N cap) (ha : P.length = a) (hm : a + L.length = m) (hb : m + R.length = b) (hL : 2 ≤ L.length) (hR : 2 ≤ R.length)
  (hsL : L.Pairwise (lexP ekey)) (hsR : R.Pairwise (lexP ekey)) (htag : ∀ x ∈ L, ∀ y ∈ R, x.2 < y.2) (hN : (P ++ L ++ (R ++ Q)).length = N) (hN2 : N ≤ 1000000) :
  Calls Tryz.prog 125 #[.agg #[lessV gv, swapV g N cap], .int .i64 (a : Int), .int .i64 (m : Int), .int .i64 (b : Int)] w fun e w' => e = .returned (.tuple #[]) ∧ (∃ S', PkAt w' g rest (P ++ S' ++ Q) ∧ S'.Perm (L ++ R) ∧ S'.Pairwise (lexP ekey)) ∧ w.grownBy w' (some g) := by
 have hN3 : P.length + L.length + R.length + Q.length = N := by rw [← hN]; simp; omega
 have HN3 := Lib.hid hN3
 have Ih := Lib.hid ih
 have HF := Lib.hid hF
 have H := Lib.hid (Mm.start h hv hN hN2)
 have HP := Lib.hid ha
 have HsL := Lib.hid hsL
 have HsR := Lib.hid hsR
 have Htag := Lib.hid htag
 have hbN : b ≤ N := by omega
 have hmb : m + 2 ≤ b := by omega
 have ham : a + 2 ≤ m := by omega
 have e1 : (m : Int) - (a : Int) = ((L.length : Nat) : Int) := by omega
 have e0 : (((L.length : Nat) : Int) == 1) = false := by simp; omega
 have e2 : (b : Int) - (m : Int) = ((R.length : Nat) : Int) := by omega
 have e3 : (((R.length : Nat) : Int) == 1) = false := by simp; omega
 obtain ⟨mid, hmid⟩ : ∃ mid, mid = (a + b) / 2 := ⟨_, rfl⟩
 have e4 : ((a : Int) + (b : Int)) / 2 = (mid : Int) := by omega
 obtain ⟨n, hn⟩ : ∃ n, n = mid + m := ⟨_, rfl⟩
 have e5 : (mid : Int) + (m : Int) = (n : Int) := by omega
 obtain ⟨p, hp⟩ : ∃ p, n = p + 1 := ⟨n - 1, by omega⟩
 have e6 : (n : Int) - 1 = (p : Int) := by omega
 have Hmid : Hid (a + b = 2 * mid ∨ a + b = 2 * mid + 1) := Lib.hid (by omega)
 have Hn := Lib.hid hn
 have Hp := Lib.hid hp
 have Hm := Lib.hid hm
 have Hb := Lib.hid hb
 have hnN : n ≤ 2000000 := by omega
 have hpN : p ≤ 2000000 := by omega
 have hmN : mid ≤ 1000000 := by omega
 clear h hv hN hN3 ha hsL hsR htag hb hm hL hR hmid hn hp ih hF
 generalize hll : L.length = ll at *
 have Hll := Lib.hid hll
 generalize hrl : R.length = rl at *
 have Hrl := Lib.hid hrl
 clear hll hrl
 go_enter Tryz.func125, Tryz.ntmps125
 go_upto_if 106 with fail
 generalize hw1 : w.alloc (.cells #[lessV gv, swapV g N cap] 177) = w1 at *
 generalize hbx : w.heap.size = bx at *
 have Hw1 := Lib.hid hw1
 clear hw1 hbx
 clear e1 e0 e2 e3
 go_cut [18, 19] from 95 to 114 (fun sv rv wx => ∃ s r : Nat, sv = .int .i64 (s : Int) ∧ rv = .int .i64 (r : Int) ∧ a ≤ s ∧ n ≤ s + b ∧ s ≤ r ∧ r ≤ m ∧ r ≤ mid ∧ (s = a ∨ s + b = n) ∧ (r = m ∨ r = mid) ∧ wx = w1)
 case first =>
  by_cases hmm : mid < m
  ·have e7 : (n : Int) - (b : Int) = ((n - b : Nat) : Int) := by have := Hmid.out; have := Hn.out; omega
   have Hnb : Hid (n - b + b = n) := Lib.hid (by have := Hmid.out; have := Hn.out; omega)
   generalize n - b = nb at *
   go_wp2_with fail
   go_meet
   case rel => exact ⟨nb, mid, rfl, rfl, by have := Hmid.out; have := Hn.out; have := Hnb.out; omega, by have := Hnb.out; omega, by have := Hmid.out; have := Hn.out; have := Hnb.out; omega, by omega, Nat.le_refl _, .inr Hnb.out, .inr rfl, rfl⟩
  ·go_wp2_with fail
   go_meet
   case rel => exact ⟨a, m, rfl, rfl, Nat.le_refl _, by have := Hmid.out; have := Hn.out; omega, by omega, Nat.le_refl _, by omega, .inl rfl, .inl rfl, rfl⟩
 case rest =>
  obtain ⟨s0, r0, rfl, rfl, k1, k2, k3, k4, k5, k6, k7, hw⟩ := hcut
  have hw := hw.symm
  subst hw
  go_wp2_with fail
  go_loopw [18, 19] (fun sv rv wr => ∃ s r : Nat, sv = .int .i64 (s : Int) ∧ rv = .int .i64 (r : Int) ∧ s0 ≤ s ∧ s ≤ r ∧ r ≤ r0 ∧ (s = s0 ∨ ∃ (h1 : s - 1 - a < L.length) (h2 : n - s - m < R.length), L[s - 1 - a].1.1 ≤ R[n - s - m].1.1) ∧
   (r = r0 ∨ ∃ (h1 : r - a < L.length) (h2 : n - 1 - r - m < R.length), R[n - 1 - r - m].1.1 < L[r - a].1.1) ∧ Mm w1 wr bx g gv N cap rest (P ++ L ++ (R ++ Q))) (fun sv rv _ => (intOf rv - intOf sv).toNat)
  case atStart => exact ⟨s0, r0, rfl, rfl, Nat.le_refl _, k3, Nat.le_refl _, .inl rfl, .inl rfl, H.out⟩
  case round =>
   obtain ⟨s, r, rfl, rfl, hs0, hsr, hr0, hI, hJ, hpk⟩ := hrel
   have HI := Lib.hid hI
   have HJ := Lib.hid hJ
   have c0 := hpk.c0
   have c1 := hpk.c1
   have Hpk := Lib.hid hpk
   clear hI hJ
   by_cases hlt : s < r
   ·obtain ⟨q, hq⟩ : ∃ q, q = (s + r) / 2 := ⟨_, rfl⟩
    have hqi : s ≤ q := by omega
    have hqj : q < r := by omega
    obtain ⟨z, hz⟩ : ∃ z, z = p - q := ⟨_, rfl⟩
    have hzp : z + q + 1 = n := by have := Hp.out; omega
    have hmz : m ≤ z := by have := Hn.out; omega
    have hzb : z < b := by omega
    have hql : q - a < L.length := by have := Hm.out; have := Hll.out; omega
    have hzl : z - m < R.length := by have := Hb.out; have := Hrl.out; omega
    have Hat := Lib.hid (md_at P L R Q (q - a) (z - m) hql hzl)
    have HX : Hid (q = (P ++ L.take (q - a)).length) := Lib.hid (by rw [List.length_append, List.length_take, HP.out]; omega)
    have HY : Hid (z = (P ++ L.take (q - a)).length + 1 + (L.drop (q - a + 1) ++ R.take (z - m)).length) := Lib.hid (by rw [← HX.out, List.length_append, List.length_drop, List.length_take]; have := Hm.out; have := Hll.out; have := Hrl.out; omega)
    obtain ⟨x, hx⟩ : ∃ x, L[q - a] = x := ⟨_, rfl⟩
    obtain ⟨y, hy⟩ : ∃ y, R[z - m] = y := ⟨_, rfl⟩
    have Hx : Hid (∀ h : q - a < L.length, L[q - a] = x) := Lib.hid (fun _ => hx)
    have Hy : Hid (∀ h : z - m < R.length, R[z - m] = y) := Lib.hid (fun _ => hy)
    rw [Hat.out, hx, hy] at hpk
    have HLs := Lib.hid (hpk.less' HX.out HY.out)
    have Hback : Hid (∀ W, Mm w1 W bx g gv N cap rest (P ++ L.take (q - a) ++ x :: (L.drop (q - a + 1) ++ R.take (z - m) ++ y :: (R.drop (z - m + 1) ++ Q))) → Mm w1 W bx g gv N cap rest (P ++ L ++ (R ++ Q))) := Lib.hid (fun W hW => by rw [Hat.out, hx, hy]; exact hW)
    have e2 : ((s : Int) + (r : Int)) / 2 = (q : Int) := by omega
    have e3 : (p : Int) - (q : Int) = (z : Int) := by omega
    have hw : IntKind.i64.wrap (z : Int) = (z : Int) := IntWalk.i64_in _ (by omega)
    have Hz : Hid (n - (q + 1) - m = z - m ∧ n - 1 - q - m = z - m ∧ q + 1 - 1 - a = q - a) := Lib.hid (by omega)
    unfold lessV at c0
    clear hpk hx hy hq hz c1
    by_cases hc : y.1.1 < x.1.1
    ·have hb1 : decide (y.1.1 < x.1.1) = true := by simp [hc]
     rw [hb1] at HLs
     clear hb1
     go_wp2_with fail
     refine (HLs.out).mono ?_
     rintro e w3 ⟨rfl, hm3⟩
     have HM3 := Lib.hid (Hback.out _ hm3)
     clear hm3
     go_wp2_with fail
     go_roundw
     case rel => exact ⟨s, q, rfl, rfl, hs0, hqi, by omega, HI.out, .inr ⟨hql, by rw [Hz.out.2.1]; exact hzl, by
      have a1 := Hz.out.2.1
      have a2 := Hy.out hzl
      have a3 := Hx.out hql
      simp only [a1, a2, a3]; exact hc⟩, HM3.out⟩
     case measure => simp [intOf]; omega
    ·have hb1 : decide (y.1.1 < x.1.1) = false := by simp; omega
     rw [hb1] at HLs
     clear hb1
     go_wp2_with fail
     refine (HLs.out).mono ?_
     rintro e w3 ⟨rfl, hm3⟩
     have HM3 := Lib.hid (Hback.out _ hm3)
     clear hm3
     go_wp2_with fail
     go_roundw
     case rel => exact ⟨q + 1, r, by go_num, rfl, by omega, by omega, hr0, .inr ⟨by rw [Hz.out.2.2]; exact hql, by rw [Hz.out.1]; exact hzl, by
      have a1 := Hz.out.1
      have a4 := Hz.out.2.2
      have a2 := Hy.out hzl
      have a3 := Hx.out hql
      simp only [a1, a4, a2, a3]; omega⟩, HJ.out, HM3.out⟩
     case measure => simp [intOf]; omega
   ·obtain rfl : s = r := by omega
    have hh1 : s - a = 0 ∨ mid - s = R.length ∨ ∃ (h1 : s - a - 1 < L.length) (h2 : mid - s < R.length), lexP ekey L[s - a - 1] R[mid - s] := by
     rcases HI.out with h | ⟨h1, h2, h3⟩
     ·rcases k6 with k | k
      ·left; omega
      ·right; left; have := Hn.out; have := Hb.out; have := Hrl.out; omega
     ·right; right
      have a1 : s - a - 1 = s - 1 - a := by omega
      have a2 : mid - s = n - s - m := by have := Hn.out; omega
      simp only [a1, a2]
      refine ⟨h1, h2, ?_⟩
      have := Htag.out _ (List.getElem_mem h1) _ (List.getElem_mem h2)
      unfold lexP ekey; omega
    have hh2 : mid - s = 0 ∨ s - a = L.length ∨ ∃ (h1 : mid - s - 1 < R.length) (h2 : s - a < L.length), lexP ekey R[mid - s - 1] L[s - a] := by
     rcases HJ.out with h | ⟨h1, h2, h3⟩
     ·rcases k7 with k | k
      ·right; left; have := Hm.out; have := Hll.out; omega
      ·left; omega
     ·right; right
      have a2 : mid - s - 1 = n - 1 - s - m := by have := Hn.out; omega
      simp only [a2]
      exact ⟨h2, h1, .inl h3⟩
    have hhalf := halves (le := lexP ekey) (fun a b c => lexP_trans ekey a b c) L R (s - a) (mid - s) (by have := Hm.out; have := Hll.out; omega) (by have := Hn.out; have := Hb.out; have := Hrl.out; omega) HsL.out HsR.out hh1 hh2
    have hL : L = L.take (s - a) ++ L.drop (s - a) := (List.take_append_drop _ _).symm
    have hR : R = R.take (mid - s) ++ R.drop (mid - s) := (List.take_append_drop _ _).symm
    have l1 : (L.take (s - a)).length = s - a := by rw [List.length_take]; have := Hm.out; have := Hll.out; omega
    have l2 : (L.drop (s - a)).length = m - s := by rw [List.length_drop]; have := Hm.out; have := Hll.out; omega
    have l3 : (R.take (mid - s)).length = mid - s := by rw [List.length_take]; have := Hn.out; have := Hb.out; have := Hrl.out; omega
    have l4 : (R.drop (mid - s)).length = b - (n - s) := by rw [List.length_drop]; have := Hn.out; have := Hb.out; have := Hrl.out; omega
    generalize L.take (s - a) = L1 at *
    generalize L.drop (s - a) = L2 at *
    generalize R.take (mid - s) = R1 at *
    generalize R.drop (mid - s) = R2 at *
    obtain ⟨en, hen⟩ : ∃ en, en = n - s := ⟨_, rfl⟩
    have e8 : (n : Int) - (s : Int) = (en : Int) := by omega
    rw [← hen] at l4
    have Hen : Hid (en = m + (mid - s)) := Lib.hid (by have := Hn.out; omega)
    have Hl1 := Lib.hid l1
    have Hl2 := Lib.hid l2
    have Hl3 := Lib.hid l3
    have Hl4 := Lib.hid l4
    have HL := Lib.hid hL
    have HR := Lib.hid hR
    have Hhalf := Lib.hid hhalf
    have hsas : a ≤ s := by omega
    have hsm : s ≤ m := by omega
    have hsmid : s ≤ mid := by omega
    have henb : en ≤ b := by have := Hen.out; have := Hn.out; omega
    have henm : m ≤ en := by have := Hen.out; omega
    clear hh1 hh2 hhalf hL hR l1 l2 l3 l4 hen HI HJ k1 k2 k3 k4 k5 k6 k7 hpk
    have hpk5 : Mm w1 wr bx g gv N cap rest ((P ++ L1) ++ L2 ++ (R1 ++ (R2 ++ Q))) := by
     have := Hpk.out
     rw [HL.out, HR.out] at this
     simpa only [List.append_assoc] using this
    have Hpk5 := Lib.hid hpk5
    have HNN : Hid (((P ++ L1) ++ L2 ++ (R1 ++ (R2 ++ Q))).length = N) := Lib.hid (by
     have h1 := HN3.out; have h2 := congrArg List.length HL.out; have h3 := congrArg List.length HR.out; have h4 := Hll.out; have h5 := Hrl.out
     simp only [List.length_append] at h2 h3 ⊢
     omega)
    have Hp1 : Hid ((P ++ L1).length = s) := Lib.hid (by rw [List.length_append, HP.out, Hl1.out]; omega)
    clear hpk5 Hpk H
    go_upto_region 40 with fail
    clear e8
    go_cut [145] from 113 to 145 (fun v wx => v = .bool (decide (s < m ∧ m < en)) ∧ wx = wr)
    case first =>
     by_cases a1 : s < m
     ·by_cases a2 : m < en
      ·go_wp2_with fail
       go_meet
       case rel => exact ⟨by simp [a1, a2], rfl⟩
      ·go_wp2_with fail
       go_meet
       case rel => exact ⟨by simp [a2], rfl⟩
     ·go_wp2_with fail
      go_meet
      case rel => exact ⟨by simp [a1], rfl⟩
    case rest =>
     obtain ⟨rfl, hw⟩ := hcut
     have hw := hw.symm
     subst hw
     go_upto_if 145 with fail
     go_cut [18] from 138 to 150 (fun v wx => v = .int .i64 (s : Int) ∧ Mm w1 wx bx g gv N cap rest (P ++ L1 ++ (R1 ++ (L2 ++ (R2 ++ Q)))))
     case first =>
      by_cases hr : s < m ∧ m < en
      ·rw [decide_eq_true hr]
       go_wp2_with fail
       refine (rotate_any g gv N cap s m en rest (P ++ L1) L2 R1 (R2 ++ Q) wr Hpk5.out.pk Hpk5.out.var Hp1.out (by rw [Hl2.out]; omega) (by rw [Hl3.out]; exact Hen.out.symm) (by rw [Hl2.out]; omega) (by rw [Hl3.out]; have := Hen.out; omega) HNN.out hN2).mono ?_
       rintro e w5 ⟨rfl, hp5, hg5⟩
       have Hp5 := Lib.hid (Hpk5.out.more hg5 hp5 (by simp only [List.length_append]; omega))
       clear hp5 hg5
       go_wp2_with fail
       go_meet
       case rel => exact ⟨rfl, by have := Hp5.out; simpa only [List.append_assoc] using this⟩
      ·rw [decide_eq_false hr]
       go_wp2_with fail
       go_meet
       case rel =>
        refine ⟨rfl, ?_⟩
        have h1 := Hpk5.out
        have h2 : L2 = [] ∨ R1 = [] := by
         rcases Nat.lt_or_ge s m with h | h
         ·right; exact List.eq_nil_of_length_eq_zero (by rw [Hl3.out]; have := Hen.out; omega)
         ·left; exact List.eq_nil_of_length_eq_zero (by rw [Hl2.out]; omega)
        rcases h2 with rfl | rfl
        ·simpa only [List.append_assoc, List.nil_append] using h1
        ·simpa only [List.append_assoc, List.nil_append] using h1
     case rest =>
      obtain ⟨rfl, hp6⟩ := hcut
      have c0 := hp6.c0
      have c1 := hp6.c1
      have Hp6 := Lib.hid hp6
      clear hp6 Hpk5
      generalize wc = w6 at *
      go_upto_region 42 with fail
      go_cut [158] from 146 to 158 (fun v wx => v = .bool (decide (a < s ∧ s < mid)) ∧ wx = w6)
      case first =>
       by_cases a1 : a < s
       ·by_cases a2 : s < mid
        ·go_wp2_with fail
         go_meet
         case rel => exact ⟨by simp [a1, a2], rfl⟩
        ·go_wp2_with fail
         go_meet
         case rel => exact ⟨by simp [a2], rfl⟩
       ·go_wp2_with fail
        go_meet
        case rel => exact ⟨by simp [a1], rfl⟩
      case rest =>
       obtain ⟨rfl, hw⟩ := hcut
       have hw := hw.symm
       subst hw
       go_upto_if 158 with fail
       go_cut [18] from 151 to 163 (fun v wx => v = .int .i64 (s : Int) ∧ (∃ M1, Mm w1 wx bx g gv N cap rest (P ++ M1 ++ (L2 ++ (R2 ++ Q))) ∧ M1.Perm (L1 ++ R1) ∧ M1.Pairwise (lexP ekey)))
       case first =>
        by_cases hr : a < s ∧ s < mid
        ·rw [decide_eq_true hr]
         go_wp2_with fail
         refine (Ih.out g gv N cap a s mid rest P L1 R1 (L2 ++ (R2 ++ Q)) w6 (by rw [Hl1.out, Hl3.out]; have := HF.out; have := Hmid.out; have := Hm.out; have := Hb.out; omega) Hp6.out.pk Hp6.out.var HP.out (by rw [Hl1.out]; omega) (by rw [Hl3.out]; omega) (by rw [Hl1.out]; omega) (by rw [Hl3.out]; omega)
          ((pw_append _ _).1 (HL.out ▸ HsL.out)).1 ((pw_append _ _).1 (HR.out ▸ HsR.out)).1 (fun x hx y hy => Htag.out x (by rw [HL.out]; exact List.mem_append_left _ hx) y (by rw [HR.out]; exact List.mem_append_left _ hy)) (by rw [← HNN.out]; simp; omega) hN2).mono ?_
         rintro e w7 ⟨rfl, ⟨M1, hp7, hpe, hso⟩, hg7⟩
         have Hp7 := Lib.hid (Hp6.out.more hg7 hp7 (by have := hpe.length_eq; simp only [List.length_append] at this ⊢; omega))
         have Hpe := Lib.hid hpe
         have Hso := Lib.hid hso
         clear hp7 hg7 hpe hso
         go_wp2_with fail
         go_meet
         case rel => exact ⟨rfl, ⟨M1, Hp7.out, Hpe.out, Hso.out⟩⟩
        ·rw [decide_eq_false hr]
         go_wp2_with fail
         go_meet
         case rel =>
          refine ⟨rfl, ⟨L1 ++ R1, by have := Hp6.out; simpa only [List.append_assoc] using this, List.Perm.refl _, ?_⟩⟩
          rcases Nat.lt_or_ge a s with h | h
          ·have : R1 = [] := List.eq_nil_of_length_eq_zero (by rw [Hl3.out]; omega)
           subst this
           rw [List.append_nil]; exact ((pw_append _ _).1 (HL.out ▸ HsL.out)).1
          ·have : L1 = [] := List.eq_nil_of_length_eq_zero (by rw [Hl1.out]; omega)
           subst this
           rw [List.nil_append]; exact ((pw_append _ _).1 (HR.out ▸ HsR.out)).1
       case rest =>
        obtain ⟨rfl, ⟨M1, hp8, hpe, hso⟩⟩ := hcut
        have c0 := hp8.c0
        have c1 := hp8.c1
        have Hp8 := Lib.hid hp8
        have Hpe := Lib.hid hpe
        have Hso := Lib.hid hso
        have HM1 : Hid ((P ++ M1).length = mid) := Lib.hid (by rw [List.length_append, HP.out, hpe.length_eq, List.length_append, Hl1.out, Hl3.out]; omega)
        clear hp8 hpe hso Hp6
        generalize wc = w8 at *
        go_upto_region 44 with fail
        go_cut [171] from 159 to 171 (fun v wx => v = .bool (decide (mid < en ∧ en < b)) ∧ wx = w8)
        case first =>
         by_cases a1 : mid < en
         ·by_cases a2 : en < b
          ·go_wp2_with fail
           go_meet
           case rel => exact ⟨by simp [a1, a2], rfl⟩
          ·go_wp2_with fail
           go_meet
           case rel => exact ⟨by simp [a2], rfl⟩
         ·go_wp2_with fail
          go_meet
          case rel => exact ⟨by simp [a1], rfl⟩
        case rest =>
         obtain ⟨rfl, hw⟩ := hcut
         have hw := hw.symm
         subst hw
         by_cases hr : mid < en ∧ en < b
         ·rw [decide_eq_true hr]
          go_wp2_with fail
          refine (Ih.out g gv N cap mid en b rest (P ++ M1) L2 R2 Q w8 (by rw [Hl2.out, Hl4.out]; have := HF.out; have := Hmid.out; have := Hm.out; have := Hb.out; have := Hen.out; omega) (by have := Hp8.out.pk; simpa only [List.append_assoc] using this) Hp8.out.var HM1.out (by rw [Hl2.out]; have := Hen.out; omega) (by rw [Hl4.out]; omega) (by rw [Hl2.out]; have := Hen.out; omega) (by rw [Hl4.out]; omega)
           ((pw_append _ _).1 (HL.out ▸ HsL.out)).2.1 ((pw_append _ _).1 (HR.out ▸ HsR.out)).2.1 (fun x hx y hy => Htag.out x (by rw [HL.out]; exact List.mem_append_right _ hx) y (by rw [HR.out]; exact List.mem_append_right _ hy)) (by have h1 := Hpe.out.length_eq; rw [← HNN.out]; simp only [List.length_append] at h1 ⊢; omega) hN2).mono ?_
          rintro e w9 ⟨rfl, ⟨M2, hp9, hpe2, hso2⟩, hg9⟩
          have Hp9 : Hid (Mm w1 w9 bx g gv N cap rest (P ++ (M1 ++ M2) ++ Q)) := Lib.hid (Hp8.out.more hg9 (by simpa only [List.append_assoc] using hp9) (by have := hpe2.length_eq; simp only [List.length_append] at this ⊢; omega))
          have Hdone := Lib.hid (md_done L1 L2 R1 R2 M1 M2 Hpe.out hpe2 Hso.out hso2 Hhalf.out)
          clear hp9 hg9 hpe2 hso2
          go_wp2_with fail
          go_end0
          exact ⟨rfl, ⟨M1 ++ M2, Hp9.out.pk, by rw [HL.out, HR.out]; exact Hdone.out.1, Hdone.out.2⟩, (Hw1.out ▸ Hp9.out : Mm (w.alloc _) _ _ _ _ _ _ _ _).done⟩
         ·rw [decide_eq_false hr]
          have Hdone := Lib.hid (md_done L1 L2 R1 R2 M1 (L2 ++ R2) Hpe.out (List.Perm.refl _) Hso.out (by
           rcases Nat.lt_or_ge mid en with h | h
           ·have : R2 = [] := List.eq_nil_of_length_eq_zero (by rw [Hl4.out]; omega)
            subst this
            rw [List.append_nil]; exact ((pw_append _ _).1 (HL.out ▸ HsL.out)).2.1
           ·have : L2 = [] := List.eq_nil_of_length_eq_zero (by rw [Hl2.out]; have := Hen.out; omega)
            subst this
            rw [List.nil_append]; exact ((pw_append _ _).1 (HR.out ▸ HsR.out)).2.1) Hhalf.out)
          go_wp2_with fail
          go_end0
          exact ⟨rfl, ⟨M1 ++ (L2 ++ R2), by have := Hp8.out.pk; simpa only [List.append_assoc] using this, by rw [HL.out, HR.out]; exact Hdone.out.1, Hdone.out.2⟩, (Hw1.out ▸ Hp8.out : Mm (w.alloc _) _ _ _ _ _ _ _ _).done⟩
theorem sym_any : ∀ F, SymAt F := by
 intro F
 induction F with
 | zero => intro g gv N cap a m b rest P L R Q w hF; intros; omega
 | succ F ih =>
  intro g gv N cap a m b rest P L R Q w hF h hv ha hm hb hL hR hsL hsR htag hN hN2
  by_cases h1 : L.length = 1
  ·obtain ⟨x, rfl⟩ := List.length_eq_one_iff.1 h1
   exact sym_up g gv N cap a m b rest P R Q x w h hv ha hm hb hR hsR (fun y hy => htag x (by simp) y hy) hN hN2
  ·by_cases h2 : R.length = 1
   ·obtain ⟨x, rfl⟩ := List.length_eq_one_iff.1 h2
    exact sym_dn g gv N cap a m b rest P L Q x w h hv ha hm hb (by omega) hsL (fun y hy => htag y hy x (by simp)) hN hN2
   ·exact sym_mid F ih g gv N cap a m b rest P L R Q w hF h hv ha hm hb (by omega) (by omega) hsL hsR htag hN hN2
end Go.Proofs.YthpdcnjaodjjmaaGreat.Slc

/- sort.stable_func, sort.SliceStable at rows of places. -/
namespace Go.Proofs.YthpdcnjaodjjmaaGreat.Slc
open Go Go.RowKit Go.Proofs.YthpdcnjaodjjmaaGreat Go.Proofs.YthpdcnjaodjjmaaGreat.SP
set_option linter.unusedVariables false

theorem Ahead.len {bs : Nat} {s0 s : List TE} (h : Ahead ekey bs s0 s) : s.Perm s0 := by
 have := (h [] [] (Ch.nil ekey bs)).perm
 simpa using this
set_option maxRecDepth 100000 in
set_option maxHeartbeats 8000000 in
theorem stable_any (g gv N cap : Nat) (rest : List Value) (d : List TE) (w : World) (h : PkAt w g rest d) (hv : Var w g gv N cap) (hN : d.length = N) (hN2 : N ≤ 1000000) (hr : Rise d) :
  Calls Tryz.prog 104 #[.agg #[lessV gv, swapV g N cap], .int .i64 (N : Int)] w fun e w' => e = .returned (.tuple #[]) ∧ (∃ d', PkAt w' g rest d' ∧ d'.Perm d ∧ d'.Pairwise (lexP ekey)) ∧ w.grownBy w' (some g) := by
 have H := Lib.hid (Mm.start h hv hN hN2)
 have HN := Lib.hid hN
 have Hr := Lib.hid hr
 clear h hN hr hv
 go_enter Tryz.func104, Tryz.ntmps104
 go_wp2_with fail
 generalize hw1 : w.alloc (.cells #[lessV gv, swapV g N cap] 177) = w1 at *
 generalize hbx : w.heap.size = bx at *
 have Hw1 := Lib.hid hw1
 clear hw1 hbx
 go_loopw [5, 6] (fun av bv wr => ∃ (a : Nat) (S0 S D : List TE), av = .int .i64 (a : Int) ∧ bv = .int .i64 ((a : Int) + 20) ∧ d = S0 ++ D ∧ S.length = a ∧ S.length + D.length = N ∧ Ahead ekey 20 S0 S ∧ Mm w1 wr bx g gv N cap rest (S ++ D)) (fun _ bv _ => N + 20 - (intOf bv).toNat)
 case atStart => exact ⟨0, [], [], d, rfl, rfl, rfl, rfl, by simpa using HN.out, Ahead.nil ekey 20, H.out⟩
 case round =>
  obtain ⟨a, S0, S, D, rfl, rfl, hd, hS, hSD, hah, hpk⟩ := hrel
  have Hd := Lib.hid hd
  have HS := Lib.hid hS
  have HSD := Lib.hid hSD
  have Hah := Lib.hid hah
  have c0 := hpk.c0
  have c1 := hpk.c1
  have Hpk := Lib.hid hpk
  have haN : a ≤ N := by omega
  have HrD : Hid (Rise D) := Lib.hid (Rise.right (hd ▸ Hr.out))
  clear hd hS hSD hah hpk
  by_cases hlt : a + 20 ≤ N
  ·have hD : D = D.take 20 ++ D.drop 20 := (List.take_append_drop _ _).symm
   have l1 : (D.take 20).length = 20 := by rw [List.length_take]; have := HSD.out; have := HS.out; omega
   have HD := Lib.hid hD
   have Hl1 := Lib.hid l1
   generalize D.take 20 = D1 at *
   generalize D.drop 20 = D2 at *
   clear hD l1
   have Hc := Lib.hid (insertion_any g gv N cap a (a + 20) rest S D1 D2 wr (by have := Hpk.out.pk; rw [HD.out] at this; rw [List.append_assoc]; exact this) Hpk.out.var HS.out (by rw [Hl1.out]) (Rise.left (HD.out ▸ HrD.out)) (by have h1 := congrArg List.length HD.out; have := HSD.out; simp only [List.length_append] at h1 ⊢; omega) hN2)
   have e1 : (a : Int) + 20 = ((a + 20 : Nat) : Int) := by omega
   obtain ⟨b, hb⟩ : ∃ b, a + 20 = b := ⟨_, rfl⟩
   rw [hb] at Hc e1 hlt
   have Hb := Lib.hid hb
   rw [e1]
   have hle : (b : Int) ≤ (N : Int) := by omega
   clear hb e1
   go_wp2_with fail
   refine (Hc.out).mono ?_
   rintro e w2 ⟨rfl, ⟨S', hp2, hpe, hso⟩, hg2⟩
   have Hp2 := Lib.hid (Hpk.out.more hg2 hp2 (by have a1 := hpe.length_eq; have a6 := congrArg List.length HD.out; simp only [List.length_append] at a1 a6 ⊢; omega))
   have Hpe := Lib.hid hpe
   have Hso := Lib.hid hso
   clear hp2 hg2 hpe hso
   go_wp2_with fail
   go_roundw
   case rel =>
    have a1 := Hpe.out.length_eq; have a2 := Hl1.out; have a3 := HS.out; have a4 := Hb.out; have a5 := HSD.out; have a6 := congrArg List.length HD.out
    rw [List.length_append] at a6
    exact ⟨b, S0 ++ D1, S ++ S', D2, rfl, rfl, by rw [Hd.out, HD.out, List.append_assoc], by rw [List.length_append]; omega, by rw [List.length_append]; omega, Ahead.more ekey Hah.out (by omega) Hpe.out Hso.out, Hp2.out⟩
   case measure => have := Hb.out; simp [intOf]; omega
  ·have Hc := Lib.hid (insertion_any g gv N cap a N rest S D [] wr (by rw [List.append_nil]; exact Hpk.out.pk) Hpk.out.var HS.out (by have := HSD.out; have := HS.out; omega) HrD.out (by have := HSD.out; simp only [List.length_append, List.length_nil]; omega) hN2)
   have hle : ¬ ((a : Int) + 20 ≤ (N : Int)) := by omega
   go_wp2_with fail
   refine (Hc.out).mono ?_
   rintro e w2 ⟨rfl, ⟨S', hp2, hpe, hso⟩, hg2⟩
   rw [List.append_nil] at hp2
   have Hp2 := Lib.hid (Hpk.out.more hg2 hp2 (by have a1 := hpe.length_eq; simp only [List.length_append] at a1 ⊢; omega))
   have Hch : Hid (Ch ekey 20 d (S ++ S')) := Lib.hid (by rw [Hd.out]; exact Hah.out _ _ (.last D S' (by rw [hpe.length_eq]; have := HSD.out; have := HS.out; omega) hpe hso))
   clear hp2 hg2 hpe hso Hc
   go_wp2_with fail
   clear Hd HS HSD Hah Hpk haN HrD hle c0 c1
   go_loopw [4] (fun bv wr => ∃ (bs : Nat) (d' : List TE), bv = .int .i64 (bs : Int) ∧ 1 ≤ bs ∧ bs ≤ 2000000 ∧ Ch ekey bs d d' ∧ Mm w1 wr bx g gv N cap rest d') (fun bv _ => N - (intOf bv).toNat)
   case atStart => exact ⟨20, _, rfl, by omega, by omega, Hch.out, Hp2.out⟩
   case round =>
    obtain ⟨bs, d', rfl, hb1, hb2, hch, hpk⟩ := hrel
    have Hch := Lib.hid hch
    have c0 := hpk.c0
    have c1 := hpk.c1
    have Hpk := Lib.hid hpk
    have Hlen : Hid (d'.length = N) := Lib.hid (by rw [hch.perm.length_eq]; exact HN.out)
    clear hch hpk
    by_cases hbN : bs < N
    ·go_wp2_with fail
     go_loopw [5, 6] (fun av bv wr => ∃ (a b : Nat) (S0 S D0 D : List TE), av = .int .i64 (a : Int) ∧ bv = .int .i64 (b : Int) ∧ b = a + 2 * bs ∧ d = S0 ++ D0 ∧ S.length = a ∧ S.length + D.length = N ∧ Ahead ekey (2 * bs) S0 S ∧ Ch ekey bs D0 D ∧ Mm w1 wr bx g gv N cap rest (S ++ D)) (fun _ bv _ => N + 2 * bs - (intOf bv).toNat)
     case atStart => exact ⟨0, 2 * bs, [], [], d, d', rfl, int_eq (by omega), by omega, rfl, rfl, by simpa using Hlen.out, Ahead.nil ekey _, Hch.out, Hpk.out⟩
     case round =>
      obtain ⟨a, b, S0, S, D0, D, rfl, rfl, hb, hd, hS, hSD, hah, hch, hpk⟩ := hrel
      have Hd := Lib.hid hd
      have HS := Lib.hid hS
      have HSD := Lib.hid hSD
      have Hah := Lib.hid hah
      have Hchd := Lib.hid hch
      have c0 := hpk.c0
      have c1 := hpk.c1
      have Hpk3 := Lib.hid hpk
      have HB := Lib.hid hb
      have haN : a ≤ N := by omega
      have HrD : Hid (Rise D0) := Lib.hid (Rise.right (hd ▸ Hr.out))
      clear hd hS hSD hah hch hpk hb
      by_cases hlt : b ≤ N
      ·obtain ⟨s0, s, r0, r, q1, q2, q3, q4, q5, q6⟩ := Ch.split ekey Hchd.out (by have := HB.out; have := HSD.out; have := HS.out; omega) (by omega)
       obtain ⟨t0, t, u0, u, y1, y2, y3, y4, y5, y6⟩ := Ch.split ekey q6 (by have := HB.out; have := HSD.out; have := HS.out; have h1 := congrArg List.length q2; rw [List.length_append] at h1; omega) (by omega)
       subst q1 q2 y1 y2
       obtain ⟨m, hm⟩ : ∃ m, a + bs = m := ⟨_, rfl⟩
       have em : (a : Int) + (bs : Int) = (m : Int) := by omega
       have Hm := Lib.hid hm
       have Hl1 := Lib.hid q3
       have Hl2 := Lib.hid y3
       have Hp0 := Lib.hid (And.intro q4 y4)
       have Hch6 := Lib.hid y6
       have Hc := Lib.hid (sym_any (s.length + t.length) g gv N cap a m b rest S s t u wr (Nat.le_refl _) (by have := Hpk3.out.pk; simpa only [List.append_assoc] using this) Hpk3.out.var HS.out (by rw [q3]; exact hm) (by rw [y3]; have := HB.out; omega) (by omega) (by omega) q5 y5
        (Rise.cross (a := s0) (b := t0) (by have := HrD.out; rw [← List.append_assoc] at this; exact Rise.left this) q4 y4) (by have := HSD.out; simp only [List.length_append] at this ⊢; omega) hN2)
       have hmN : m ≤ N := by have := HB.out; omega
       clear hm q3 q4 q5 q6 y3 y4 y5 y6
       go_wp2_with fail
       refine (Hc.out).mono ?_
       rintro e w4 ⟨rfl, ⟨M, hp4, hpe, hso⟩, hg4⟩
       have Hp4 := Lib.hid (Hpk3.out.more hg4 hp4 (by have a1 := hpe.length_eq; simp only [List.length_append] at a1 ⊢; omega))
       have Hpe := Lib.hid hpe
       have Hso := Lib.hid hso
       clear hp4 hg4 hpe hso
       go_wp2_with fail
       go_roundw
       case rel =>
        have a1 := Hpe.out.length_eq; have a2 := Hl1.out; have a3 := HS.out; have a4 := HB.out; have a5 := HSD.out; have a6 := Hl2.out
        rw [List.length_append] at a1
        simp only [List.length_append] at a5
        exact ⟨b, b + 2 * bs, S0 ++ (s0 ++ t0), S ++ M, u0, u, rfl, int_eq (by omega), rfl, by rw [Hd.out]; simp only [List.append_assoc], by rw [List.length_append]; omega, by rw [List.length_append]; omega, Ahead.more ekey Hah.out (by omega) (Hpe.out.trans (Hp0.out.1.append Hp0.out.2)) Hso.out, Hch6.out, Hp4.out⟩
       case measure => have := HB.out; simp [intOf]; omega
      ·obtain ⟨m, hm⟩ : ∃ m, a + bs = m := ⟨_, rfl⟩
       have em : (a : Int) + (bs : Int) = (m : Int) := by omega
       have Hm := Lib.hid hm
       by_cases hmN : m < N
       ·obtain ⟨s0, s, r0, r, q1, q2, q3, q4, q5, q6⟩ := Ch.split ekey Hchd.out (by have := HSD.out; have := HS.out; omega) (by omega)
        subst q1 q2
        have hrl : r.length < bs := by have h1 := HSD.out; have h2 := HS.out; have h3 := HB.out; simp only [List.length_append] at h1; omega
        obtain ⟨p1, p2⟩ := Ch.small ekey q6 (by omega)
        have Hl1 := Lib.hid q3
        have Hp0 := Lib.hid (And.intro q4 p1)
        have Hc := Lib.hid (sym_any (s.length + r.length) g gv N cap a m N rest S s r [] wr (Nat.le_refl _) (by have := Hpk3.out.pk; simpa only [List.append_assoc, List.append_nil] using this) Hpk3.out.var HS.out (by rw [q3]; exact hm) (by have h1 := HSD.out; have := HS.out; simp only [List.length_append] at h1; omega) (by omega) (by have h1 := HSD.out; have := HS.out; simp only [List.length_append] at h1; omega) q5 p2
         (Rise.cross (a := s0) (b := r0) HrD.out q4 p1) (by have := HSD.out; simp only [List.length_append, List.length_nil] at this ⊢; omega) hN2)
        have Hrl := Lib.hid hrl
        clear hm q3 q4 q5 q6 p1 p2 hrl
        go_wp2_with fail
        refine (Hc.out).mono ?_
        rintro e w4 ⟨rfl, ⟨M, hp4, hpe, hso⟩, hg4⟩
        rw [List.append_nil] at hp4
        have Hp4 := Lib.hid (Hpk3.out.more hg4 hp4 (by have a1 := hpe.length_eq; simp only [List.length_append] at a1 ⊢; omega))
        have Hfin : Hid (Ch ekey (2 * bs) d (S ++ M)) := Lib.hid (by
         rw [Hd.out]
         refine Hah.out _ _ (.last _ M ?_ (hpe.trans (Hp0.out.1.append Hp0.out.2)) hso)
         rw [hpe.length_eq, List.length_append]; have := Hl1.out; have := Hrl.out; omega)
        clear hp4 hg4 hpe hso
        go_wp2_with fail
        go_roundw
        case rel => exact ⟨2 * bs, _, int_eq (by omega), by omega, by omega, Hfin.out, Hp4.out⟩
        case measure => simp [intOf]; omega
       ·have hDl : D.length ≤ bs := by have := HSD.out; have := HS.out; omega
        obtain ⟨p1, p2⟩ := Ch.small ekey Hchd.out hDl
        have Hfin : Hid (Ch ekey (2 * bs) d (S ++ D)) := Lib.hid (by rw [Hd.out]; exact Hah.out _ _ (.last _ D (by omega) p1 p2))
        clear hm p1 p2
        go_wp2_with fail
        go_roundw
        case rel => exact ⟨2 * bs, _, int_eq (by omega), by omega, by omega, Hfin.out, Hpk3.out⟩
        case measure => simp [intOf]; omega
    ·obtain ⟨p1, p2⟩ := Ch.small ekey Hch.out (by rw [Hlen.out]; omega)
     have Hp1 := Lib.hid p1
     have Hp2 := Lib.hid p2
     clear p1 p2
     go_wp2_with fail
     go_end0
     exact ⟨rfl, ⟨d', Hpk.out.pk, Hp1.out, Hp2.out⟩, (Hw1.out ▸ Hpk.out : Mm (w.alloc _) _ _ _ _ _ _ _ _).done⟩
end Go.Proofs.YthpdcnjaodjjmaaGreat.Slc

/- sort.SliceStable at a row of places. -/
namespace Go.Proofs.YthpdcnjaodjjmaaGreat.Slc
open Go Go.RowKit Go.Proofs.YthpdcnjaodjjmaaGreat Go.Proofs.YthpdcnjaodjjmaaGreat.SP
set_option linter.unusedVariables false

def RowAt (w : World) (g : Nat) (rest : List Value) (l : List El) : Prop := Blk w g 150 (l.flatMap (fun e => [nv e.1, nv e.2]) ++ rest).toArray
theorem pk_row (w : World) (g : Nat) (rest : List Value) (d : List TE) : PkAt w g rest d ↔ RowAt w g rest (d.map (·.1)) := by
 unfold PkAt RowAt
 rw [List.flatMap_map]; rfl
def noSwap (f : FuncId) : Value := .func (.func f) #[] #[]
set_option maxRecDepth 100000 in
set_option maxHeartbeats 1600000 in
theorem insertion_none (gv n : Nat) (f : FuncId) (w : World) (hn : n ≤ 1) :
  Calls Tryz.prog 124 #[.agg #[lessV gv, noSwap f], .int .i64 0, .int .i64 (n : Int)] w fun e w' => e = .returned (.tuple #[]) ∧ Below w.heap.size w w' := by
 have h1 : ¬ (1 : Int) < (n : Int) := by omega
 unfold lessV noSwap
 go_enter Tryz.func124, Tryz.ntmps124
 go_wp2_with fail
 go_loopw [6] (fun i wr => i = .int .i64 1 ∧ Below w.heap.size w wr) (fun i _ => 0)
 case atStart => exact ⟨rfl, (Below.refl _ _).alloc (Nat.le_refl _) _⟩
 case round =>
  obtain ⟨rfl, hb⟩ := hrel
  have HB := Lib.hid hb
  clear hb
  go_wp2_with fail
  go_end0
  exact ⟨rfl, HB.out⟩
set_option maxRecDepth 100000 in
set_option maxHeartbeats 1600000 in
theorem stable_none (gv n : Nat) (f : FuncId) (w : World) (hn : n ≤ 1) :
  Calls Tryz.prog 104 #[.agg #[lessV gv, noSwap f], .int .i64 (n : Int)] w fun e w' => e = .returned (.tuple #[]) ∧ Below w.heap.size w w' := by
 have h1 : ¬ (20 : Int) ≤ (n : Int) := by omega
 have h2 : ¬ (20 : Int) < (n : Int) := by omega
 have HB : Hid (Below w.heap.size w (w.alloc (.cells #[lessV gv, noSwap f] 177))) := Lib.hid ((Below.refl _ _).alloc (Nat.le_refl _) _)
 have HI := Lib.hid (insertion_none gv n f (w.alloc (.cells #[lessV gv, noSwap f] 177)) hn)
 unfold lessV noSwap at *
 go_enter Tryz.func104, Tryz.ntmps104
 go_wp2_with fail
 go_loopw [5, 6] (fun a b wr => a = .int .i64 0 ∧ b = .int .i64 20 ∧ wr = w.alloc (.cells #[.func (.func 88) #[] #[.pointer (some ⟨gv, 0, none⟩)], .func (.func f) #[] #[]] 177)) (fun _ _ _ => 0)
 case atStart => exact ⟨rfl, rfl, rfl⟩
 case round =>
  obtain ⟨rfl, rfl, rfl⟩ := hrel
  go_wp2_with fail
  refine (HI.out).mono ?_
  rintro e w2 ⟨rfl, hb⟩
  have HB2 := Lib.hid (HB.out.trans (hb.mono HB.out.size))
  clear hb
  go_wp2_with fail
  go_loopw [4] (fun a wr => a = .int .i64 20 ∧ wr = w2) (fun _ _ => 0)
  case atStart => exact ⟨rfl, rfl⟩
  case round =>
   obtain ⟨rfl, rfl⟩ := hrel
   go_wp2_with fail
   go_end0
   exact ⟨rfl, HB2.out⟩
structure Ent (a b : Addr) : Prop where
 val : ∀ (p : Option Addr) (n c : Nat) (W : World), (callFunc 102 #[.iface 148 (.slice p n c)]).run Tryz.prog W = .ok (.value (.agg #[.pointer (some a), .pointer (some ⟨W.heap.size, 0, none⟩), .int .u64 151])) (W.alloc (.cells #[.slice p n c] 148))
 len : ∀ (x : Addr) (p : Option Addr) (n c : Nat) (W : World), W.cell? x = some (.slice p n c) → (callFunc 105 #[.agg #[.pointer (some a), .pointer (some x), .int .u64 151]]).run Tryz.prog W = .ok (.value (.int .i64 (n : Int))) W
 swap : ∀ (p : Option Addr) (n c : Nat) (W : World), (callFunc 103 #[.iface 148 (.slice p n c)]).run Tryz.prog W = .ok (.value (if n = 0 then noSwap 115 else if n = 1 then noSwap 116 else .func (.func 123) #[] #[.slice p n c, .pointer (some b)])) W
 hdl : hdl = .pointer (some b)
theorem kind_place (w : World) : (Extern.Rtype.kind 150).run Tryz.prog w = .ok 25 w := by kernel_rfl
theorem entries : ∃ a b, Ent a b := by
 have h1 : (Tryz.prog.info? 148).map (fun i => i.desc) = some (.slice 150) := by kernel_rfl
 cases hi : Tryz.prog.info? 148 with
 | none => rw [hi] at h1; cases h1
 | some i =>
  rw [hi] at h1
  have hd : i.desc = .slice 150 := by simpa using h1
  have h2 : (Tryz.prog.info? 150).map (fun i => (i.hasPointers, i.bytes)) = some (false, 16) := by kernel_rfl
  cases hie : Tryz.prog.info? 150 with
  | none => rw [hie] at h2; cases h2
  | some ie =>
   rw [hie] at h2
   simp only [Option.map_some, Option.some.injEq, Prod.mk.injEq] at h2
   refine ⟨⟨Tryz.prog.globals.size, 148, none⟩, ⟨Tryz.prog.globals.size, 150, none⟩, ?_, ?_, ?_, rfl⟩
   ·intro p n c W
    rw [run_callFunc_extern Tryz.func102 (by kernel_rfl) (by kernel_rfl) (by kernel_rfl) (e := fun args => Extern.ReflectliteValue.unpack (args.getD 0 (.tuple #[]))) (by kernel_rfl)]
    rw [show Sem.run Tryz.prog ((fun args : Array Value => Extern.ReflectliteValue.unpack (args.getD 0 (.tuple #[]))) #[.iface 148 (.slice p n c)]) W = _ from Lib.run_valueOf_slice (P := Tryz.prog) _ _ i hi hd p n c W]
    rfl
   ·intro x p n c W hx
    rw [run_callFunc_extern Tryz.func105 (by kernel_rfl) (by kernel_rfl) (by kernel_rfl) (e := Extern.ReflectliteValue.method (Extern.ReflectliteValue.valueError "reflectlite.Value.Len" 0) Extern.ReflectliteValue.len) (by kernel_rfl)]
    rw [show Sem.run Tryz.prog (Extern.ReflectliteValue.method (Extern.ReflectliteValue.valueError "reflectlite.Value.Len" 0) Extern.ReflectliteValue.len #[.agg #[.pointer (some ⟨Tryz.prog.globals.size, 148, none⟩), .pointer (some x), .int .u64 151]]) W = _ from Lib.run_valueLen_slice (P := Tryz.prog) _ _ i hi hd (by kernel_rfl) x p n c W hx]
    rfl
   ·intro p n c W
    rw [run_callFunc_extern Tryz.func103 (by kernel_rfl) (by kernel_rfl) (by kernel_rfl) (e := Extern.ReflectliteSwapper.swapper "internal/reflectlite" (Extern.ReflectliteValue.valueError "Swapper")) (by kernel_rfl)]
    rcases Nat.eq_zero_or_pos n with h0 | h0
    ·subst h0
     have e9 : Lib.swapperK 0 ie 25 = 1 := rfl
     rw [Lib.run_swapper_slice (P := Tryz.prog) _ _ i ie hi hd hie 25 kind_place p 0 c 115 (by rw [e9]; kernel_rfl) W, e9]
     rfl
    ·by_cases h1' : n = 1
     ·subst h1'
      have e9 : Lib.swapperK 1 ie 25 = 2 := rfl
      rw [Lib.run_swapper_slice (P := Tryz.prog) _ _ i ie hi hd hie 25 kind_place p 1 c 116 (by rw [e9]; kernel_rfl) W, e9]
      rfl
     ·have e9 : Lib.swapperK n ie 25 = 9 := by
       unfold Lib.swapperK
       rw [h2.1, h2.2]
       have e0 : (n == 0) = false := by simp; omega
       have e1 : (n == 1) = false := by simp; exact h1'
       simp [e0, e1]
      rw [Lib.run_swapper_slice (P := Tryz.prog) _ _ i ie hi hd hie 25 kind_place p n c 123 (by rw [e9]; kernel_rfl) W, e9, if_neg (by omega), if_neg (by omega), if_neg h1']
      rfl
set_option maxRecDepth 100000 in
set_option maxHeartbeats 1600000 in
theorem sliceStable_any (g gv N cap : Nat) (rest : List Value) (l : List El) (w : World) (h : RowAt w g rest l) (hv : Var w g gv N cap) (hN : l.length = N) (hN2 : N ≤ 1000000) :
  Calls Tryz.prog 87 #[.iface 148 (.slice (some ⟨g, 0, none⟩) N cap), lessV gv] w fun e w' => e = .returned (.tuple #[]) ∧ RowAt w' g rest (stab ekey l) ∧ w.grownBy w' (some g) := by
 obtain ⟨a, b, hent⟩ := entries
 have hval := hent.val
 have hlen := hent.len ⟨w.heap.size, 0, none⟩ (some ⟨g, 0, none⟩) N cap ((w.alloc (.cells #[.slice (some ⟨g, 0, none⟩) N cap] 148)).alloc (.cells #[.pointer (some a), .pointer (some ⟨w.heap.size, 0, none⟩), .int .u64 151] 172)) (by simp)
 have hswap := hent.swap (some ⟨g, 0, none⟩) N cap
 have Hh := Lib.hid hent.hdl
 have HR := Lib.hid h
 have HV := Lib.hid hv
 have HN := Lib.hid hN
 have hgv : gv < w.heap.size := hv.var.lt
 have hgg : g < w.heap.size := Blk.lt h
 clear hent h hv hN
 obtain ⟨w2, hw2⟩ : ∃ w2, w2 = ((w.alloc (.cells #[.slice (some ⟨g, 0, none⟩) N cap] 148)).alloc (.cells #[.pointer (some a), .pointer (some ⟨w.heap.size, 0, none⟩), .int .u64 151] 172)) := ⟨_, rfl⟩
 have hb2 : Below w.heap.size w w2 := by rw [hw2]; exact ((Below.refl _ _).alloc (Nat.le_refl _) _).alloc (by simp) _
 have Hb2 := Lib.hid hb2
 have HR2 : Hid (RowAt w2 g rest l) := Lib.hid (Blk.below HR.out hb2 hgg)
 have HV2 : Hid (Var w2 g gv N cap) := Lib.hid ⟨Blk.below HV.out.var hb2 hgv, HV.out.ne⟩
 have Hw2 := Lib.hid hw2
 clear hb2 hw2
 rcases (by omega : N = 0 ∨ N = 1 ∨ 2 ≤ N) with h0 | h0 | h0
 ·subst h0
  rw [if_pos rfl] at hswap
  have HS := Lib.hid (stable_none gv 0 115 w2 (by omega))
  have hl : l = [] := List.eq_nil_of_length_eq_zero HN.out
  subst hl
  rw [Hw2.out] at HS
  unfold lessV noSwap at *
  go_enter Tryz.func87, Tryz.ntmps87
  go_wp2_with fail
  refine (HS.out).mono ?_
  rintro e w3 ⟨rfl, hb3⟩
  rw [← Hw2.out] at hb3
  have HB3 := Lib.hid (Hb2.out.trans (hb3.mono Hb2.out.size))
  have HR3 : Hid (RowAt w3 g rest []) := Lib.hid (Blk.below HR2.out hb3 (Blk.lt HR2.out))
  clear hb3 hval hlen hswap
  go_wp2_with fail
  go_end0
  exact ⟨rfl, by rw [List.perm_nil.1 (stab_perm ekey ([] : List El))]; exact HR3.out, grown_below (World.grownBy.refl _ _) HB3.out⟩
 ·subst h0
  rw [if_neg (by omega), if_pos rfl] at hswap
  have HS := Lib.hid (stable_none gv 1 116 w2 (by omega))
  have hl : stab ekey l = l := by
   have := HN.out
   match l, this with
   | [x], _ => exact List.perm_singleton.1 (stab_perm ekey [x])
  have Hl := Lib.hid hl
  rw [Hw2.out] at HS
  unfold lessV noSwap at *
  clear hl
  go_enter Tryz.func87, Tryz.ntmps87
  go_wp2_with fail
  refine (HS.out).mono ?_
  rintro e w3 ⟨rfl, hb3⟩
  rw [← Hw2.out] at hb3
  have HB3 := Lib.hid (Hb2.out.trans (hb3.mono Hb2.out.size))
  have HR3 : Hid (RowAt w3 g rest l) := Lib.hid (Blk.below HR2.out hb3 (Blk.lt HR2.out))
  clear hb3 hval hlen hswap
  go_wp2_with fail
  go_end0
  exact ⟨rfl, by rw [Hl.out]; exact HR3.out, grown_below (World.grownBy.refl _ _) HB3.out⟩
 ·rw [if_neg (by omega), if_neg (by omega)] at hswap
  have HS := Lib.hid (stable_any g gv N cap rest l.zipIdx w2 ((pk_row w2 g rest _).2 (by rw [List.zipIdx_map_fst]; exact HR2.out)) HV2.out (by simpa using HN.out) hN2 (rise_zip l 0))
  rw [Hw2.out] at HS
  unfold lessV swapV at *
  rw [Hh.out] at HS
  go_enter Tryz.func87, Tryz.ntmps87
  go_wp2_with fail
  refine (HS.out).mono ?_
  rintro e w3 ⟨rfl, ⟨d', hp, hpe, hso⟩, hg⟩
  rw [← Hw2.out] at hg
  have HR3 : Hid (RowAt w3 g rest (stab ekey l)) := Lib.hid (by
   rw [← stab_unique ekey l d' hpe hso]; exact (pk_row _ _ _ _).1 hp)
  have HG := Lib.hid ((grown_below (World.grownBy.refl w (some g)) Hb2.out).trans hg)
  clear hp hpe hso hg hval hlen hswap
  go_wp2_with fail
  go_end0
  exact ⟨rfl, HR3.out, HG.out⟩
end Go.Proofs.YthpdcnjaodjjmaaGreat.Slc

/- sort.SliceStable at an own row of places, none too. -/
namespace Go.Proofs.YthpdcnjaodjjmaaGreat.Slc
open Go Go.RowKit Go.Proofs.YthpdcnjaodjjmaaGreat Go.Proofs.YthpdcnjaodjjmaaGreat.SP
set_option linter.unusedVariables false

set_option maxRecDepth 100000 in
set_option maxHeartbeats 1600000 in
theorem sliceStable_nil (gv : Nat) (w : World) :
  Calls Tryz.prog 87 #[.iface 148 (.slice none 0 0), lessV gv] w fun e w' => e = .returned (.tuple #[]) ∧ Below w.heap.size w w' := by
 obtain ⟨a, b, hent⟩ := entries
 have hval := hent.val
 have hlen := hent.len ⟨w.heap.size, 0, none⟩ none 0 0 ((w.alloc (.cells #[.slice none 0 0] 148)).alloc (.cells #[.pointer (some a), .pointer (some ⟨w.heap.size, 0, none⟩), .int .u64 151] 172)) (by simp)
 have hswap := hent.swap none 0 0
 rw [if_pos rfl] at hswap
 clear hent
 obtain ⟨w2, hw2⟩ : ∃ w2, w2 = ((w.alloc (.cells #[.slice none 0 0] 148)).alloc (.cells #[.pointer (some a), .pointer (some ⟨w.heap.size, 0, none⟩), .int .u64 151] 172)) := ⟨_, rfl⟩
 have hb2 : Below w.heap.size w w2 := by rw [hw2]; exact ((Below.refl _ _).alloc (Nat.le_refl _) _).alloc (by simp) _
 have Hb2 := Lib.hid hb2
 have Hw2 := Lib.hid hw2
 have HS := Lib.hid (stable_none gv 0 115 w2 (by omega))
 rw [hw2] at HS
 clear hb2 hw2
 unfold lessV noSwap at *
 go_enter Tryz.func87, Tryz.ntmps87
 go_wp2_with fail
 refine (HS.out).mono ?_
 rintro e w3 ⟨rfl, hb3⟩
 rw [← Hw2.out] at hb3
 have HB3 := Lib.hid (Hb2.out.trans (hb3.mono Hb2.out.size))
 clear hb3 hval hlen hswap
 go_wp2_with fail
 go_end0
 exact ⟨rfl, HB3.out⟩
def plC (e : El) : List Value := [nv e.1, nv e.2]
theorem plC_len (l : List El) : (l.flatMap plC).length = l.length * 2 := by
 induction l with
 | nil => rfl
 | cons a l ih => rw [List.flatMap_cons, List.length_append, ih]; simp [plC]; omega
theorem sort_own (base gv N : Nat) (v : Value) (l : List El) (w : World) (ho : w.ownsRow base 150 2 v N (l.flatMap plC)) (hv : Blk w gv 148 #[v]) (hgv : gv < base) (hN : N ≤ 1000000) :
  Calls Tryz.prog 87 #[.iface 148 v, lessV gv] w fun e w' => e = .returned (.tuple #[]) ∧ w'.ownsRow base 150 2 v N ((stab ekey l).flatMap plC) ∧ w.grownBy w' v.ownBlock := by
 have hl : l.length = N := by have := ho.1; rw [plC_len] at this; omega
 rcases ho.2 with ⟨rfl, hn⟩ | ⟨g, cap, cur, rfl, hbg, hg, hnc, hcm, hcs, htake⟩
 ·have h0 : l = [] := List.eq_nil_of_length_eq_zero (hl.trans hn)
  subst h0
  refine (sliceStable_nil gv w).mono ?_
  rintro e w' ⟨rfl, hb⟩
  rw [List.perm_nil.1 (stab_perm ekey ([] : List El))]
  subst hn
  exact ⟨rfl, World.ownsRow_nil _ _ _ _, grown_below (World.grownBy.refl _ _) hb⟩
 ·have hR : RowAt w g (cur.toList.drop (N * 2)) l := by
   unfold RowAt Blk
   rw [hg]
   have : l.flatMap (fun e => [nv e.1, nv e.2]) = cur.toList.take (N * 2) := htake.symm
   rw [this, List.take_append_drop]
  refine (sliceStable_any g gv N cap _ l w hR ⟨hv, by omega⟩ hl hN).mono ?_
  rintro e w' ⟨rfl, hR', hgr⟩
  refine ⟨rfl, ⟨by rw [plC_len, stab_length]; omega, .inr ⟨g, cap, _, rfl, hbg, hR', hnc, hcm, ?_, ?_⟩⟩, hgr⟩
  ·have h1 : ((stab ekey l).flatMap plC).length = N * 2 := by rw [plC_len, stab_length, hl]
   show (((stab ekey l).flatMap plC) ++ cur.toList.drop (N * 2)).toArray.size = cap * 2
   have h2 : N * 2 ≤ cap * 2 := by omega
   simp [h1, hcs]; omega
  ·have h1 : ((stab ekey l).flatMap plC).length = N * 2 := by rw [plC_len, stab_length, hl]
   show ((((stab ekey l).flatMap plC) ++ cur.toList.drop (N * 2)).toArray.toList).take (N * 2) = _
   rw [List.toList_toArray, List.take_append_of_le_length (by omega), List.take_of_length_le (by omega)]
end Go.Proofs.YthpdcnjaodjjmaaGreat.Slc

/- package reliquaryref: CodesOf: the walk. -/
namespace Go.Proofs.YthpdcnjaodjjmaaGreat.Cds
open Go Go.RowKit Go.Proofs.YthpdcnjaodjjmaaGreat Go.Proofs.YthpdcnjaodjjmaaGreat.Bits Go.Proofs.YthpdcnjaodjjmaaGreat.Code Go.Proofs.YthpdcnjaodjjmaaGreat.SP Go.Proofs.YthpdcnjaodjjmaaGreat.Slc
set_option linter.unusedVariables false
set_option linter.unusedSimpArgs false

theorem tyPl : SliceTy Tryz.prog 148 150 (.agg #[.int .i64 0, .int .i64 0]) 2 16 := ⟨Tryz.underlying148, by kernel_rfl, rfl, by omega⟩
theorem infoS : (Tryz.prog.info? 9).map (fun i => (i.zero, i.size, i.bytes)) = some (some (.string ⟨#[]⟩), 1, 16) := by kernel_rfl
theorem make_strs (n : Nat) (hn : n ≤ 1000000) (u : World) : (Instr.makeSlice 117 (.int .i64 (n : Int)) (.int .i64 (n : Int))).run Tryz.prog u =
   .ok (.slice (some ⟨u.heap.size, 0, none⟩) n n) (u.alloc (.cells (madeCells #[.string ⟨#[]⟩] n) 9)) := by
 obtain ⟨i0, hi, hz0, hz1, hz2⟩ := info_parts infoS
 have h := run_make (P := Tryz.prog) u 117 9 i0 (.string ⟨#[]⟩) Tryz.underlying117 hi hz0 .i64 .i64 (n : Int) (n : Int) (by omega) (Int.le_refl _) (by rw [hz2]; omega) (by omega)
 simpa [hz1, Value.cells] using h
theorem rowS_take (l : List Bool) (k : Nat) : (strB (rowS l)).extract 0 k = strB (rowS (l.take k)) := by
 apply ByteArray.ext
 simp [strB, rowS, List.map_take]
theorem row_more (a : List Bool) (t : Nat) : (strB (rowS (a ++ false :: List.replicate t true))).extract 0 a.length ++ ⟨#[49]⟩ ++ strB (List.replicate t 48) = strB (rowS (a ++ true :: List.replicate t false)) := by
 have h1 : (⟨#[49]⟩ : ByteArray) = strB [49] := rfl
 rw [rowS_take, List.take_left', h1, strB_append, strB_append]
 ·congr 1
  simp [rowS, ch]
 ·rfl
theorem row_far (l : List Bool) (t : Nat) : strB (rowS l) ++ strB (List.replicate t 48) = strB (rowS (l ++ List.replicate t false)) := by
 rw [strB_append, rowS_append]
 congr 2
 simp [rowS, ch]
def outC (ls : List Nat) (o : List Nat) (n : Nat) : Array Value := ((List.range n).map fun i => if i ∈ o then rowV (codeS ls i) else .string ⟨#[]⟩).toArray
theorem outC_none (ls : List Nat) (n : Nat) : madeCells #[.string ⟨#[]⟩] n = outC ls [] n := by
 unfold madeCells outC
 apply Array.ext'
 simp
 intro a _
 simp [Nat.mod_one]
theorem outC_put (ls o : List Nat) (n i : Nat) (h : i < n) : (outC ls o n).setIfInBounds i (rowV (codeS ls i)) = outC ls (o ++ [i]) n := by
 unfold outC
 apply Array.ext'
 simp only [List.setIfInBounds_toArray]
 apply List.ext_getElem
 ·simp
 ·intro j h1 h2
  simp only [List.length_set, List.length_map, List.length_range] at h1
  rw [List.getElem_set]
  simp only [List.getElem_map, List.getElem_range, List.mem_append, List.mem_singleton]
  by_cases e : i = j
  ·subst e; simp
  ·rw [if_neg e]
   have e2 : ¬ j = i := fun h => e h.symm
   simp [e2]
theorem outC_all (ls : List Nat) (hl : ∀ x ∈ ls, x ≤ 15) : outC ls (ordUp ls 15) ls.length = ((List.range ls.length).map fun i => rowV (codeS ls i)).toArray := by
 unfold outC
 congr 1
 apply List.map_congr_left
 intro i hi
 rw [List.mem_range] at hi
 split
 ·rfl
 ·rename_i h
  rw [ordUp_mem] at h
  have h0 : ls.getD i 0 = 0 := by
   by_cases h0 : ls.getD i 0 = 0
   ·exact h0
   ·refine absurd ⟨hi, h0, ?_⟩ h
    rw [List.getD_eq_getElem?_getD, List.getElem?_eq_getElem hi]
    exact hl _ (List.getElem_mem hi)
  rw [codeS_none ls i h0]; rfl
def curV (ls : List Nat) (o : List Nat) : Nat → Value
 | 0 => .string ⟨#[]⟩
 | j + 1 => rowV (codeS ls (o.getD j 0))
theorem own_setLow {w : World} {base : Nat} {e : TypeId} {size n : Nat} {v : Value} {xs : List Value} (h : w.ownsRow base e size v n xs) (p : Addr) (hp : p.block < base) (u : Value) : (w.setCell p u).ownsRow base e size v n xs := by
 refine ⟨h.1, ?_⟩
 rcases h.2 with h1 | ⟨g, cap, cur, hv, hbg, hg, r⟩
 ·exact .inl h1
 ·exact .inr ⟨g, cap, cur, hv, hbg, (Below.heap_setCell w p u g (by omega)).trans hg, r⟩
theorem own_lowV {w w' : World} {base B : Nat} {e : TypeId} {size n : Nat} {v : Value} {xs : List Value} (h : w.ownsRow base e size v n xs) (hb : Below B w w') (hlt : ∀ k, v.ownBlock = some k → k < B) : w'.ownsRow base e size v n xs := by
 refine ⟨h.1, ?_⟩
 rcases h.2 with h1 | ⟨g, cap, cur, rfl, hbg, hg, r⟩
 ·exact .inl h1
 ·exact .inr ⟨g, cap, cur, rfl, hbg, by rw [hb.block g (hlt g rfl)]; exact hg, r⟩
theorem curV_zero (ls o : List Nat) : curV ls o 0 = .string ⟨#[]⟩ := rfl
theorem curV_succ (ls o : List Nat) (j i : Nat) (h : j < o.length) (e : o[j] = i) : curV ls o (j + 1) = rowV (codeS ls i) := by
 show rowV (codeS ls (o.getD j 0)) = _
 rw [List.getD_eq_getElem?_getD, List.getElem?_eq_getElem h, e]; rfl
theorem outC_cell (ls o : List Nat) (n i : Nat) (h : i < n) : ∃ u, (outC ls o n)[i]? = some u := by
 unfold outC
 simp [h]
set_option maxRecDepth 100000 in
set_option maxHeartbeats 8000000 in
theorem codesOf_any (A : Option Addr) (n c : Nat) (zs : List Int) (w : World) (hn : zs.length = n) (hA : InAt w A zs) (hc : chkL zs = 0) :
  Calls Tryz.prog 64 #[.slice A n c] w fun e w' => (∃ g, e = .returned (.slice (some ⟨g, 0, none⟩) n n) ∧ w.heap.size ≤ g ∧ Blk w' g 9 ((List.range n).map fun i => rowV (codeS (lsOf zs) i)).toArray) ∧ Below w.heap.size w w' := by
 obtain ⟨f1, f2, f3, f4, f5⟩ := chk_fine zs hc
 have hx : n ≤ 288 := by omega
 have Hl := Lib.hid (lsOf_len zs)
 rw [hn] at Hl
 have F4 := Lib.hid f4
 have F3 := Lib.hid f3
 have H5 := Lib.hid f5
 have Hn := Lib.hid hn
 have HA := Lib.hid hA
 have hmk := make_strs n (by omega)
 have Hz := Lib.hid (outC_none (lsOf zs) n)
 have Hst := Lib.hid (stab_places (lsOf zs) f4)
 have Hmem := Lib.hid (ordUp_mem (lsOf zs) 15)
 clear hn hA hc f1 f2 f3 f4 f5
 go_enter Tryz.func64, Tryz.ntmps64
 go_wp2_with fail
 generalize hb0 : w.heap.size = b0 at *
 have Hb0 := Lib.hid hb0
 clear hb0
 go_loopw [13] (fun i wr => ∃ (k : Nat) (v : Value), k ≤ n ∧ i = .int .i64 (k : Int) ∧ Blk wr b0 148 #[v] ∧ wr.ownsRow (b0 + 1) 150 2 v (placesL ((lsOf zs).take k)).length ((placesL ((lsOf zs).take k)).flatMap plC) ∧ Below b0 w wr) (fun i _ => n - (intOf i).toNat)
 case atStart => exact ⟨0, _, Nat.zero_le _, rfl, by have := Blk.new w 148 #[.slice none 0 0]; rw [Hb0.out] at this; exact this, World.ownsRow_nil _ _ _ _, (Below.refl _ _).alloc (by rw [Hb0.out]; exact Nat.le_refl _) _⟩
 case round =>
  obtain ⟨k, v, hk, rfl, hbox, hown, hbr⟩ := hrel
  have Hbox := Lib.hid hbox
  have Hown := Lib.hid hown
  have Hbr := Lib.hid hbr
  have hc0 : wr.cell? ⟨b0, 0, none⟩ = some v := (hbox.cell 0).trans rfl
  have hf0 := hbox.frozen 0
  clear hbox hown hbr
  have hpl : (placesL ((lsOf zs).take k)).length ≤ k := by
   refine Nat.le_trans (placesL_len _) ?_
   rw [List.length_take]; omega
  by_cases hlt : k < n
  ·have hkl : k < zs.length := by rw [Hn.out]; exact hlt
   have hkl2 : k < (lsOf zs).length := by rw [Hl.out]; exact hlt
   obtain ⟨b, o, rfl, hcell⟩ := (HA.out.below (Hb0.out.symm ▸ Hbr.out)).get hkl
   have hz := H5.out zs[k] (List.getElem_mem hkl)
   have Hnext := Lib.hid (placesL_take (lsOf zs) k hkl2)
   have hd : (lsOf zs)[k] = zs[k].toNat := by simp [lsOf]
   rw [hd] at Hnext
   clear hd
   generalize zs[k] = z at *
   obtain ⟨x, rfl⟩ := Int.eq_ofNat_of_zero_le hz.1
   rw [Int.toNat_natCast] at Hnext
   generalize hpl2 : placesL ((lsOf zs).take k) = pl at *
   generalize hpn : pl.length = pn at *
   have Hpn := Lib.hid hpn
   clear hpl2 hpn
   by_cases h0 : x = 0
   ·subst h0
    rw [if_pos rfl, List.append_nil] at Hnext
    clear hc0 hf0
    go_wp2_with fail
    go_roundw
    case rel => exact ⟨k + 1, v, by omega, by go_num, Hbox.out, by rw [Hnext.out, Hpn.out]; exact Hown.out, Hbr.out⟩
    case measure => simp [intOf]; omega
   ·have hx0 : (0 : Int) < (x : Int) := by omega
    rw [if_neg h0] at Hnext
    have Hown2 := Lib.hid (Hown.out.alloc (.cells #[.int .i64 (x : Int), .int .i64 (k : Int)] 150))
    have Hsl : Hid (SlAt (wr.alloc (.cells #[.int .i64 (x : Int), .int .i64 (k : Int)] 150)) (some ⟨wr.heap.size, 0, none⟩) [.int .i64 (x : Int), .int .i64 (k : Int)]) := Lib.hid (SlAt.of_heap (heap_alloc_new _ _) rfl)
    have hbs : b0 + 1 ≤ wr.heap.size := Blk.lt Hbox.out
    have Hbx2 := Lib.hid (Blk.alloc Hbox.out (.cells #[.int .i64 (x : Int), .int .i64 (k : Int)] 150))
    have Hb2 := Lib.hid (Hbr.out.alloc (Nat.le_of_succ_le hbs) (.cells #[.int .i64 (x : Int), .int .i64 (k : Int)] 150))
    have Hbs : Hid (b0 + 1 ≤ (wr.alloc (.cells #[.int .i64 (x : Int), .int .i64 (k : Int)] 150)).heap.size) := Lib.hid (by rw [World.size_alloc]; omega)
    go_wp2_with (at_builtin; refine wpList_app _ rfl (.tmp 20) (.tmp 24) _ rfl (b0 + 1) 150 _ 2 16 tyPl v pn (pl.flatMap plC) rfl Hown2.out (some ⟨wr.heap.size, 0, none⟩) 1 1 [.int .i64 (x : Int), .int .i64 (k : Int)] rfl rfl Hsl.out (by simp [Value.oneCell']) (by simp) (by unfold maxLen; omega) (by omega) Hbs.out ?_; intro v4 w4 hown4 hg4 _; obtain ⟨A4, c4, hv4, _, _, _, _⟩ := own_slat hown4; subst hv4; have Ho4 := Lib.hid hown4; have Hg4 := Lib.hid hg4; have Hb4 := Lib.hid (own_below (own_base Hown2.out (Nat.le_succ b0)) hg4 Hb2.out (Nat.le_of_succ_le Hbs.out)); have Hx4 := Lib.hid (Blk.grown Hbx2.out hg4 (fun e => by have := (Hown2.out.lt _ e).1; omega)); have hf4 := Blk.frozen Hx4.out 0; have hc4 : w4.cell? ⟨b0, 0, none⟩ = some v := (Blk.cell Hx4.out 0).trans rfl; clear hown4 hg4)
    go_roundw
    case rel =>
     refine ⟨k + 1, .slice A4 (pn + 1) c4, by omega, by go_num, ?_, ?_, ?_⟩
     ·have := Hx4.out.set_ 0 (.slice A4 (pn + 1) c4)
      simpa using this
     ·rw [Hnext.out, List.length_append, List.flatMap_append, Hpn.out]
      exact own_setLow Ho4.out _ (Nat.lt_succ_self b0) _
     ·exact Hb4.out.setCell (Nat.le_refl _) _
    case measure => simp [intOf]; omega
  ·obtain rfl : k = n := by omega
   have hall : (lsOf zs).take k = lsOf zs := List.take_of_length_le (by rw [Hl.out]; omega)
   rw [hall] at Hown hpl
   generalize hpn : (placesL (lsOf zs)).length = pn at *
   have Hpn := Lib.hid hpn
   clear hall hpn hf0
   have HS := Lib.hid (sort_own (b0 + 1) b0 pn v (placesL (lsOf zs)) wr Hown.out Hbox.out (Nat.lt_succ_self _) (by omega))
   obtain ⟨A4, c4, hv4, _, _, _, _⟩ := own_slat Hown.out
   subst hv4
   have hbs : b0 + 1 ≤ wr.heap.size := Blk.lt Hbox.out
   unfold lessV at HS
   go_wp2_with fail
   refine (HS.out).mono ?_
   rintro e w3 ⟨rfl, ho3, hg3⟩
   have hb3 := own_below (own_base Hown.out (Nat.le_succ b0)) hg3 Hbr.out (Nat.le_of_succ_le hbs)
   have hx3 := Blk.grown Hbox.out hg3 (fun e => by have := (Hown.out.lt _ e).1; omega)
   have hsame : stab ekey (placesL (lsOf zs)) = (ordUp (lsOf zs) 15).map fun i => ((lsOf zs).getD i 0, i) := Hst.out
   have hol : (ordUp (lsOf zs) 15).length = pn := by
    rw [← Hpn.out, ← (stab_perm skey (placesL (lsOf zs))).length_eq, Hst.out, List.length_map]
   rw [hsame] at ho3
   have Ho3 := Lib.hid ho3
   have Hb3 := Lib.hid hb3
   have Hx3 := Lib.hid hx3
   have Hol := Lib.hid hol
   have hs3 : b0 + 1 ≤ w3.heap.size := Blk.lt hx3
   have c5 : (w3.alloc (.cells (madeCells #[.string ⟨#[]⟩] k) 9)).cell? ⟨b0, 0, none⟩ = some (.slice A4 pn c4) := ((Blk.alloc hx3 _).cell 0).trans rfl
   have Hlt3 : Hid (∀ k, (Value.slice A4 pn c4).ownBlock = some k → k < w3.heap.size) := Lib.hid (fun k hk => (ho3.lt k hk).2)
   clear ho3 hb3 hx3 hol hsame HS hg3 hc0 Hown Hbox Hbr Hpn
   go_wp2_with fail
   clear hmk
   rw [Hz.out]
   have hob : Hid (Blk (w3.alloc (.cells (outC (lsOf zs) [] k) 9)) w3.heap.size 9 (outC (lsOf zs) [] k)) := Lib.hid (Blk.new _ _ _)
   have Ho5 := Lib.hid (Ho3.out.alloc (.cells (outC (lsOf zs) [] k) 9))
   have Hb5 := Lib.hid (Hb3.out.alloc (Nat.le_of_succ_le hs3) (.cells (outC (lsOf zs) [] k) 9))
   clear Hx3 Ho3 Hb3 c5
   generalize w3.alloc (.cells (outC (lsOf zs) [] k) 9) = w5 at *
   generalize w3.heap.size = go at *
   go_loopw [7, 36] (fun cv i wx => ∃ j : Nat, j ≤ pn ∧ i = .int .i64 (j : Int) ∧ cv = curV (lsOf zs) (ordUp (lsOf zs) 15) j ∧ Blk wx go 9 (outC (lsOf zs) ((ordUp (lsOf zs) 15).take j) k) ∧ wx.ownsRow (b0 + 1) 150 2 (.slice A4 pn c4) pn (((ordUp (lsOf zs) 15).map fun i => ((lsOf zs).getD i 0, i)).flatMap plC) ∧ Below b0 w wx) (fun _ i _ => pn - (intOf i).toNat)
   case atStart => exact ⟨0, Nat.zero_le _, rfl, rfl, hob.out, Ho5.out, Hb5.out⟩
   case round =>
    clear hob Ho5 Hb5
    obtain ⟨j, hj, rfl, rfl, hout, hown, hbx⟩ := hrel
    have Hout := Lib.hid hout
    have Hown := Lib.hid hown
    have Hbx := Lib.hid hbx
    have hgo : go < wr.heap.size := Blk.lt hout
    clear hout hbx
    by_cases hlt : j < pn
    ·have hjl : j < ((ordUp (lsOf zs) 15).map fun i => ((lsOf zs).getD i 0, i)).length := by rw [List.length_map, Hol.out]; exact hlt
     obtain ⟨A', cap', hv', _, _, hsl, _⟩ := own_slat hown
     injection hv' with e1 e2 e3
     subst e1; subst e3
     obtain ⟨b, o, rfl, hcell⟩ := slat_elem (size := 2) (fun _ => rfl) (by omega) hsl hjl
     have hc0 := hcell 0 _ rfl
     have hc1 := hcell 1 _ rfl
     simp only [List.getElem_map, Nat.add_zero] at hc0 hc1
     obtain ⟨i, hi⟩ : ∃ i, (ordUp (lsOf zs) 15)[j]'(by rw [Hol.out]; exact hlt) = i := ⟨_, rfl⟩
     rw [hi] at hc0 hc1
     have him := (Hmem.out i).1 (by rw [← hi]; exact List.getElem_mem _)
     obtain ⟨x, hx'⟩ : ∃ x, (lsOf zs).getD i 0 = x := ⟨_, rfl⟩
     rw [hx'] at hc0 him
     unfold nv at hc0 hc1
     have hik : i < k := by rw [← Hl.out]; exact him.1
     have hx0 := him.2.1
     have hx15 := him.2.2
     cases j with
     | zero =>
      have hcs : codeS (lsOf zs) i = List.replicate x false := by
       obtain ⟨post, hpost⟩ : ∃ post, ordUp (lsOf zs) 15 = i :: post := by
        cases ho : ordUp (lsOf zs) 15 with
        | nil => exact absurd (by have := Hol.out; rw [ho] at this; simpa using this : 0 = pn) (by omega)
        | cons a post => simp [ho] at hi; exact ⟨post, by rw [hi]⟩
       rw [← hx']; exact codeS_first (lsOf zs) i post hpost
      have HR := Lib.hid (repeat0_any x)
      have HE : Hid (Value.string (⟨#[]⟩ ++ strB (List.replicate x 48)) = curV (lsOf zs) (ordUp (lsOf zs) 15) 1) := Lib.hid (by
       rw [curV_succ _ _ 0 i (by rw [Hol.out]; exact hlt) hi, hcs]
       have := row_far [] x
       rw [List.nil_append] at this
       unfold rowV; rw [← this]; rfl)
      have HT : Hid ((ordUp (lsOf zs) 15).take 1 = [] ++ [i]) := Lib.hid (by rw [take_snoc _ 0 (by rw [Hol.out]; exact hlt), hi]; rfl)
      have HV : Hid (curV (lsOf zs) (ordUp (lsOf zs) 15) 1 = rowV (codeS (lsOf zs) i)) := Lib.hid (curV_succ _ _ 0 i (by rw [Hol.out]; exact hlt) hi)
      clear him hi hx' hcs
      rw [Nat.zero_mul, Nat.add_zero] at hc0 hc1
      rw [curV_zero]
      go_wp2_with fail
      have HbW : Hid (Below b0 w (wr.alloc (.cells #[.int .i64 (x : Int), .int .i64 (i : Int)] 150))) := Lib.hid (Hbx.out.alloc (by have := Hbx.out.size; rw [Hb0.out] at this; exact this) _)
      have HoW := Lib.hid (Blk.alloc Hout.out (.cells #[.int .i64 (x : Int), .int .i64 (i : Int)] 150))
      have HwW := Lib.hid (Hown.out.alloc (.cells #[.int .i64 (x : Int), .int .i64 (i : Int)] 150))
      have HpW := Lib.hid (Blk.new wr 150 #[.int .i64 (x : Int), .int .i64 (i : Int)])
      have d1 := HpW.out.c1
      have hfz := HoW.out.frozen i
      obtain ⟨u, hu⟩ := outC_cell (lsOf zs) ((ordUp (lsOf zs) 15).take 0) k i hik
      rw [← HoW.out.cell] at hu
      generalize wr.alloc (.cells #[.int .i64 (x : Int), .int .i64 (i : Int)] 150) = W at *
      refine (HR.out W hx15).mono ?_
      rintro e w6 ⟨rfl, hw6⟩
      cases hw6
      clear hc0 hc1 HR
      have hsz : (⟨#[]⟩ : ByteArray).size + (strB (List.replicate x 48)).size ≤ 9223372036854775807 := by rw [strB_size, List.length_replicate]; show 0 + x ≤ _; omega
      go_wp2_with fail
      rw [HE.out]
      go_roundw
      case rel =>
       refine ⟨1, by omega, rfl, rfl, ?_, ?_, ?_⟩
       ·have := HoW.out.set_ i (rowV (codeS (lsOf zs) i))
        rw [HT.out, HV.out, ← outC_put _ _ _ _ hik]
        exact this
       ·exact own_lowV HwW.out ((Below.refl go W).setCell (Nat.le_refl go) _) Hlt3.out
       ·exact HbW.out.setCell (by show b0 ≤ go; omega) _
      case measure => simp [intOf]; omega
     | succ j =>
      obtain ⟨i', hi'⟩ : ∃ i', (ordUp (lsOf zs) 15)[j]'(by rw [Hol.out]; omega) = i' := ⟨_, rfl⟩
      have hspl : ordUp (lsOf zs) 15 = (ordUp (lsOf zs) 15).take j ++ i' :: i :: (ordUp (lsOf zs) 15).drop (j + 2) := by
       rw [← hi', ← hi, ← List.drop_eq_getElem_cons, ← List.drop_eq_getElem_cons, List.take_append_drop]
      obtain ⟨hle, a, t, e1, e2⟩ := codeS_next (lsOf zs) F4.out F3.out _ _ i' i hspl
      obtain ⟨y, hy⟩ : ∃ y, (lsOf zs).getD i' 0 = y := ⟨_, rfl⟩
      have hlen : a.length + 1 + t = y := by
       have h := congrArg List.length e1
       unfold codeS at h
       rw [hi_length, hy] at h
       simp at h; omega
      rw [hy, hx'] at hle e2
      have HL := Lib.hid (fun W => last_any a t W (by omega))
      have HR1 := Lib.hid (fun W => repeat0_any t W (by omega))
      have HR2 := Lib.hid (fun W => repeat0_any (x - y) W (by omega))
      have HcV := Lib.hid (curV_succ (lsOf zs) _ j i' (by rw [Hol.out]; omega) hi')
      rw [e1] at HcV
      have HV : Hid (curV (lsOf zs) (ordUp (lsOf zs) 15) (j + 2) = rowV (codeS (lsOf zs) i)) := Lib.hid (curV_succ _ _ (j + 1) i (by rw [Hol.out]; exact hlt) hi)
      have HT : Hid ((ordUp (lsOf zs) 15).take (j + 2) = (ordUp (lsOf zs) 15).take (j + 1) ++ [i]) := Lib.hid (by rw [take_snoc _ (j + 1) (by rw [Hol.out]; exact hlt), hi])
      have HM := Lib.hid (row_more a t)
      have HF := Lib.hid (row_far (a ++ true :: List.replicate t false) (x - y))
      rw [← e2] at HF
      have hS : (strB (rowS (a ++ false :: List.replicate t true))).size = y := by rw [strB_size, rowS_length]; simp; omega
      have hS2 : (strB (rowS (a ++ true :: List.replicate t false))).size = y := by rw [strB_size, rowS_length]; simp; omega
      rw [HcV.out]
      unfold rowV at HL ⊢
      generalize strB (rowS (a ++ false :: List.replicate t true)) = S at *
      generalize strB (rowS (a ++ true :: List.replicate t false)) = S2 at *
      generalize hal : a.length = al at *
      have hr1 : (strB (List.replicate t 48)).size = t := by rw [strB_size, List.length_replicate]
      have hr2 : (strB (List.replicate (x - y) 48)).size = x - y := by rw [strB_size, List.length_replicate]
      generalize strB (List.replicate t 48) = R1 at *
      generalize strB (List.replicate (x - y) 48) = R2 at *
      clear him hi hx' hi' hspl e1 e2 hy HcV hal
      have Hlen := Lib.hid hlen
      go_wp2_with fail
      have HbW : Hid (Below b0 w (wr.alloc (.cells #[.int .i64 (x : Int), .int .i64 (i : Int)] 150))) := Lib.hid (Hbx.out.alloc (by have := Hbx.out.size; rw [Hb0.out] at this; exact this) _)
      have HoW := Lib.hid (Blk.alloc Hout.out (.cells #[.int .i64 (x : Int), .int .i64 (i : Int)] 150))
      have HwW := Lib.hid (Hown.out.alloc (.cells #[.int .i64 (x : Int), .int .i64 (i : Int)] 150))
      have HpW := Lib.hid (Blk.new wr 150 #[.int .i64 (x : Int), .int .i64 (i : Int)])
      have d0 := HpW.out.c0
      have d1 := HpW.out.c1
      have hfz := HoW.out.frozen i
      obtain ⟨u, hu⟩ := outC_cell (lsOf zs) ((ordUp (lsOf zs) 15).take (j + 1)) k i hik
      rw [← HoW.out.cell] at hu
      generalize wr.alloc (.cells #[.int .i64 (x : Int), .int .i64 (i : Int)] 150) = W at *
      refine (HL.out W).mono ?_
      rintro e w6 ⟨rfl, hw6⟩
      cases hw6
      clear hc0 hc1 HL
      go_wp2_with fail
      have q1 : (y : Int) - (al : Int) = (t : Int) + 1 := by omega
      have q2 : IntKind.i64.wrap ((t : Int) + 1) = (t : Int) + 1 := IntWalk.i64_in _ (by omega)
      have q3 : (t : Int) + 1 - 1 = (t : Int) := by omega
      have q4 : IntKind.i64.wrap (t : Int) = (t : Int) := IntWalk.i64_in _ (by omega)
      have q5 : (al : Int) ≤ (y : Int) := by omega
      have q6 : (0 : Int) ≤ (al : Int) := by omega
      go_quiet ((go_at_call 90; exact Calls.quiet_of_same (HR1.out _)))
      clear q1 q2 q3 q4 q5 q6
      rw [HM.out]
      have p1 : (x : Int) - (y : Int) = ((x - y : Nat) : Int) := by omega
      have hxy : x - y ≤ 15 := by omega
      have hsz : S2.size + R2.size ≤ 9223372036854775807 := by omega
      have HbW2 := Lib.hid (below_drewN' HbW.out nq)
      have HoW2 := Lib.hid (Blk.drewN HoW.out nq)
      have HwW2 : Hid ((W.drewN nq).ownsRow (b0 + 1) 150 2 (.slice (some ⟨b, o, none⟩) pn c4) pn (((ordUp (lsOf zs) 15).map fun i => ((lsOf zs).getD i 0, i)).flatMap plC)) := Lib.hid HwW.out
      have d0' : (W.drewN nq).cell? ⟨wr.heap.size, 0, none⟩ = some (.int .i64 (x : Int)) := d0
      have d1' : (W.drewN nq).cell? ⟨wr.heap.size, 1, none⟩ = some (.int .i64 (i : Int)) := d1
      have hfz' : (W.drewN nq).frozen? ⟨go, i, none⟩ = false := hfz
      have hu' : (W.drewN nq).cell? ⟨go, i, none⟩ = some u := hu
      clear d0 d1 hfz hu HbW HoW HwW HpW
      generalize W.drewN nq = W2 at *
      go_wp2_with fail
      refine (HR2.out W2).mono ?_
      rintro e w7 ⟨rfl, hw7⟩
      cases hw7
      go_wp2_with fail
      rw [HF.out]
      go_roundw
      case rel =>
       refine ⟨j + 2, by omega, by go_num, HV.out.symm, ?_, ?_, ?_⟩
       ·have := HoW2.out.set_ i (rowV (codeS (lsOf zs) i))
        rw [HT.out, ← outC_put _ _ _ _ hik]
        exact this
       ·exact own_lowV HwW2.out ((Below.refl go W2).setCell (Nat.le_refl go) _) Hlt3.out
       ·exact HbW2.out.setCell (by show b0 ≤ go; omega) _
      case measure => simp [intOf]; omega
    ·obtain rfl : j = pn := by omega
     have Hall : Hid ((ordUp (lsOf zs) 15).take j = ordUp (lsOf zs) 15) := Lib.hid (List.take_of_length_le (by rw [Hol.out]; exact Nat.le_refl _))
     have Hfin := Lib.hid (outC_all (lsOf zs) F4.out)
     rw [Hl.out] at Hfin
     clear hown
     go_wp2_with fail
     go_ret
     exact ⟨⟨go, rfl, by rw [Hb0.out]; omega, by rw [← Hfin.out, ← Hall.out]; exact Hout.out⟩, by rw [Hb0.out]; exact Hbx.out⟩
end Go.Proofs.YthpdcnjaodjjmaaGreat.Cds

/- maps of the call's own whose keys are strings or bools: told as an association list (Refs' first part, alone). No program in sight. -/
namespace Go.Proofs.YthpdcnjaodjjmaaGreat
open Go Go.RowKit Go.MapKept
open Go.ChangeMaps (setBlock heap_setBlock_same heap_setBlock_other)
set_option linter.unusedVariables false

section
variable {α : Type} [DecidableEq α]
def mget : List (α × Value) → α → Option Value
 | [], _ => none
 | p :: l, k => if p.1 = k then some p.2 else mget l k
def mput : List (α × Value) → α → Value → List (α × Value)
 | [], k, v => [(k, v)]
 | p :: l, k, v => if p.1 = k then (k, v) :: l else p :: mput l k v
theorem mput_none {al : List (α × Value)} {k : α} (h : mget al k = none) (v : Value) : mput al k v = al ++ [(k, v)] := by
 induction al with
 | nil => rfl
 | cons p l ih =>
  unfold mget at h
  unfold mput
  by_cases e : p.1 = k
  ·rw [if_pos e] at h; cases h
  ·rw [if_neg e] at h ⊢; rw [ih h]; rfl
theorem mget_put (al : List (α × Value)) (k : α) (v : Value) (j : α) : mget (mput al k v) j = if k = j then some v else mget al j := by
 induction al with
 | nil => rfl
 | cons p l ih =>
  unfold mput
  by_cases e : p.1 = k
  ·rw [if_pos e]
   subst e
   unfold mget
   by_cases e2 : p.1 = j
   ·simp only [if_pos e2]
   ·simp only [if_neg e2]
  ·rw [if_neg e]
   unfold mget
   by_cases e2 : p.1 = j
   ·have : ¬ k = j := fun h => e (by rw [e2, h])
    simp only [if_pos e2, if_neg this]
   ·simp only [if_neg e2]
    exact ih
def pairE (e : MapEntry) : Value × Value := (e.key, e.val)
def pairK (f : α → Value) (p : α × Value) : Value × Value := (f p.1, p.2)
def KM (f : α → Value) (w : World) (b : Nat) (al : List (α × Value)) : Prop := ∃ es clock, w.heap[b]? = some (.map es clock) ∧ es.toList.map pairE = al.map (pairK f)
structure KeyF (d : TypeDesc) (f : α → Value) : Prop where
 key : ∀ a, IsKey d (f a)
 inj : ∀ a b, f a = f b → a = b
theorem find_km {d : TypeDesc} {f : α → Value} (hf : KeyF d f) (k : α) : ∀ (l : List MapEntry) (al : List (α × Value)) (i : Nat), l.map pairE = al.map (pairK f) →
  (mget al k = none ∧ Instr.findNow d (f k) l i = some none) ∨
  ∃ j e, mget al k = some e.val ∧ Instr.findNow d (f k) l i = some (some (i + j, e.val)) ∧ l[j]? = some e ∧ e.key = f k ∧ ∀ v, (l.modify j fun e => { e with key := f k, val := v }).map pairE = (mput al k v).map (pairK f)
 | [], [], i, _ => .inl ⟨rfl, rfl⟩
 | [], p :: al, i, h => by simp at h
 | e :: l, [], i, h => by simp at h
 | e :: l, p :: al, i, h => by
  simp only [List.map_cons, List.cons.injEq] at h
  obtain ⟨h1, h2⟩ := h
  obtain ⟨e1, e2⟩ : e.key = f p.1 ∧ e.val = p.2 := by simpa [pairE, pairK] using h1
  obtain ⟨r, hr, hiff⟩ := sameNow_of_keys (hf.key k) (show IsKey d e.key by rw [e1]; exact hf.key _)
  cases r with
  | true =>
   have hk : p.1 = k := hf.inj _ _ (by rw [← e1]; exact (hiff.1 rfl).symm)
   refine .inr ⟨0, e, ?_, by simp [Instr.findNow, hr], rfl, (hiff.1 rfl).symm, fun v => ?_⟩
   ·unfold mget; rw [if_pos hk, e2]
   ·unfold mput; rw [if_pos hk]; simpa [pairE, pairK] using h2
  | false =>
   have hk : ¬ p.1 = k := fun h => by
    have := hiff.2 (by rw [e1, h])
    cases this
   rcases find_km hf k l al (i + 1) h2 with ⟨g1, g2⟩ | ⟨j, e', g1, g2, g3, g4, g5⟩
   ·refine .inl ⟨?_, by simp [Instr.findNow, hr, g2]⟩
    unfold mget; rw [if_neg hk]; exact g1
   ·refine .inr ⟨j + 1, e', ?_, ?_, by simpa using g3, g4, fun v => ?_⟩
    ·unfold mget; rw [if_neg hk]; exact g1
    ·simp only [Instr.findNow, hr, g2]; congr 3; omega
    ·unfold mput; rw [if_neg hk]
     simp only [List.modify_succ_cons, List.map_cons, h1, g5 v]

variable {P : Program} {t K E : TypeId} {d : TypeDesc} {f : α → Value} {w : World} {b : Nat} {al : List (α × Value)}
omit [DecidableEq α] in
theorem KM.made (f : α → Value) (w : World) : KM f (w.alloc (.map #[] 0)) w.heap.size [] := ⟨#[], 0, heap_alloc_new w _, rfl⟩
omit [DecidableEq α] in
theorem KM.below {w' : World} (h : KM f w b al) (hb : Below w.heap.size w w') : KM f w' b al := by
 obtain ⟨es, c, h1, h2⟩ := h
 exact ⟨es, c, by rw [hb.block b (Array.getElem?_eq_some_iff.1 h1).1]; exact h1, h2⟩
omit [DecidableEq α] in
theorem KM.lt (h : KM f w b al) : b < w.heap.size := by
 obtain ⟨es, c, h1, h2⟩ := h
 exact (Array.getElem?_eq_some_iff.1 h1).1
omit [DecidableEq α] in
theorem KM.grown {w' : World} {row : Option Nat} (h : KM f w b al) (hg : w.grownBy w' row) (hr : row ≠ some b) : KM f w' b al := by
 have hl := h.lt
 obtain ⟨es, c, h1, h2⟩ := h
 exact ⟨es, c, by rw [hg.block b hl (fun e => hr e.symm)]; exact h1, h2⟩
omit [DecidableEq α] in
theorem KM.keeps {w' : World} {base : Nat} {T : List TypeId} (h : KM f w b al) (hk : Keeps base T w w') : KM f w' b al := by
 obtain ⟨es, c, h1, h2⟩ := h
 exact ⟨es, c, hk.other b _ h1 (fun cs t fr e => by cases e), h2⟩
theorem KM.look (h : KM f w b al) (ht : P.underlying t = some (.map K E)) (hk : P.underlying K = some d) (hf : KeyF d f) {z : Value} (hz : (zeroValue E).run P w = .ok z w) (k : α) :
  (Instr.lookup t (.map (some b)) (f k) false).run P w = .ok ((mget al k).getD z) w ∧ (Instr.lookup t (.map (some b)) (f k) true).run P w = .ok (.tuple #[(mget al k).getD z, .bool (mget al k).isSome]) w := by
 obtain ⟨es, c, h1, h2⟩ := h
 have hc := fun em => run_checkKey (w := w) hk (hf.key k) em 9999
 rcases find_km hf k es.toList al 0 h2 with ⟨g1, g2⟩ | ⟨j, e', g1, g2, _⟩
 ·have hr := run_findKey (w := w) hk g2
  constructor <;> simp [Instr.lookup, run_underlying ht, MapKept.run_getObj_map h1, hc, hr, hz, g1, Result.andThen]
 ·have hr := run_findKey (w := w) hk g2
  constructor <;> simp [Instr.lookup, run_underlying ht, MapKept.run_getObj_map h1, hc, hr, g1, Result.andThen]
theorem KM.put (h : KM f w b al) (ht : P.underlying t = some (.map K E)) (hk : P.underlying K = some d) (hf : KeyF d f) (k : α) (v : Value) :
  ∃ w', (Instr.mapUpdate t (.map (some b)) (f k) v).run P w = .ok () w' ∧ KM f w' b (mput al k v) ∧ w.grownBy w' (some b) ∧ w'.heap.size = w.heap.size := by
 obtain ⟨es, c, h1, h2⟩ := h
 have hc := fun em => run_checkKey (w := w) hk (hf.key k) em 9999
 have grow : ∀ (o : Obj), w.grownBy (setBlock w b o) (some b) := fun o =>
  ⟨rfl, rfl, rfl, by simp [setBlock], fun i _ hi => heap_setBlock_other h1 _ (fun e1 => hi (by rw [e1]))⟩
 rcases find_km hf k es.toList al 0 h2 with ⟨g1, g2⟩ | ⟨j, e', g1, g2, g3, g4, g5⟩
 ·have hr := run_findKey (w := w) hk g2
  refine ⟨setBlock w b (.map (es.push ⟨f k, v, c⟩) (c + 1)), ?_, ⟨_, _, heap_setBlock_same h1 _, ?_⟩, grow _, by simp [setBlock]⟩
  ·simp [Instr.mapUpdate, run_underlying ht, MapKept.run_getObj_map h1, hc, hr, MapKept.run_setObj_map _ h1, Result.andThen, setBlock]
  ·rw [mput_none g1]
   simp [h2, pairE, pairK]
 ·have hr := run_findKey (w := w) hk g2
  rw [Nat.zero_add] at hr
  have hks := run_keyThatStays (P := P) (w := w) (hf.key k)
  have hej : es[j]? = some e' := by simpa using g3
  refine ⟨setBlock w b (.map (es.modify j fun e => { e with key := f k, val := v }) c), ?_, ⟨_, _, heap_setBlock_same h1 _, ?_⟩, grow _, by simp [setBlock]⟩
  ·simp [Instr.mapUpdate, run_underlying ht, MapKept.run_getObj_map h1, hc, hr, hej, g4, hks, MapKept.run_setObj_map _ h1, Result.andThen, setBlock]
  ·rw [← g5 v]
   simp
theorem wpList_kmlook_ok {w : World} {ops : Array Oper} {rest : List Oper} {o : Oper} {a : Act} {Q : Exit → Act → World → Prop} (hg : o.guard = none) (m x : Operand) (t : TypeId) (hop : o.op = Op.lookup t m x true)
  (b : Nat) (al : List (α × Value)) (h : KM f w b al) (ht : P.underlying t = some (.map K E)) (hk : P.underlying K = some d) (hf : KeyF d f) {z : Value} (hz : (zeroValue E).run P w = .ok z w) (k : α)
  (hm : a.eval m = .map (some b)) (hx : a.eval x = f k) (hK : wpList P ops Q rest (a.put o.dst (.tuple #[(mget al k).getD z, .bool (mget al k).isSome])) w) : wpList P ops Q (o :: rest) a w := by
 refine wpList_plain hg fun K' hK' => ?_
 have hrun := (h.look ht hk hf hz k).2
 unfold Oper.wp
 simp [execOp, hop, hm, hx, hrun, Result.andThen]
 exact hK' _ _ hK
theorem wpList_kmlook_ok' {w : World} {ops : Array Oper} {rest : List Oper} {o : Oper} {a : Act} {Q : Exit → Act → World → Prop} (hg : o.guard = none) (m x : Operand) (t : TypeId) (hop : o.op = Op.lookup t m x true)
  (b : Nat) (al : List (α × Value)) (h : KM f w b al) (ht : P.underlying t = some (.map K E)) (hk : P.underlying K = some d) (hf : KeyF d f) {z : Value} (hz : (zeroValue E).run P w = .ok z w) (k : α)
  (hm : a.eval m = .map (some b)) (hx : a.eval x = f k) (r : Value) (c : Bool) (hr : (mget al k).getD z = r) (hc : (mget al k).isSome = c) (hK : wpList P ops Q rest (a.put o.dst (.tuple #[r, .bool c])) w) : wpList P ops Q (o :: rest) a w := by
 subst hr hc
 exact wpList_kmlook_ok hg m x t hop b al h ht hk hf hz k hm hx hK
theorem wpList_kmput {w : World} {ops : Array Oper} {rest : List Oper} {o : Oper} {a : Act} {Q : Exit → Act → World → Prop} (hg : o.guard = none) (m x v : Operand) (t : TypeId) (hop : o.op = Op.mapUpdate t m x v)
  (b : Nat) (al : List (α × Value)) (h : KM f w b al) (ht : P.underlying t = some (.map K E)) (hk : P.underlying K = some d) (hf : KeyF d f) (k : α) (val : Value)
  (hm : a.eval m = .map (some b)) (hx : a.eval x = f k) (hv : a.eval v = val) (hK : ∀ w', KM f w' b (mput al k val) → w.grownBy w' (some b) → wpList P ops Q rest (a.put o.dst undef) w') : wpList P ops Q (o :: rest) a w := by
 refine wpList_plain hg fun K' hK' => ?_
 obtain ⟨w', hrun, r1, r2, _⟩ := h.put ht hk hf k val
 unfold Oper.wp
 simp [execOp, hop, hm, hx, hv, hrun, Result.andThen]
 exact hK' _ _ (hK w' r1 r2)
end
end Go.Proofs.YthpdcnjaodjjmaaGreat

/- package reliquaryref: Codebook, Next. -/
namespace Go.Proofs.YthpdcnjaodjjmaaGreat.Cds
open Go Go.RowKit Go.Proofs.YthpdcnjaodjjmaaGreat Go.Proofs.YthpdcnjaodjjmaaGreat.Bits Go.Proofs.YthpdcnjaodjjmaaGreat.Code Go.MapKept
set_option linter.unusedVariables false
set_option linter.unusedSimpArgs false

theorem row_inj (a b : List Bool) (h : rowV a = rowV b) : a = b := by
 unfold rowV at h
 injection h with h
 have h2 : rowS a = rowS b := by
  have := congrArg (fun s : ByteArray => s.data.toList) h
  simpa [strB] using this
 unfold rowS at h2
 have hinj : ∀ x y : Bool, ch x = ch y → x = y := by decide
 clear h
 induction a generalizing b with
 | nil => cases b with
  | nil => rfl
  | cons c b => simp at h2
 | cons c a ih => cases b with
  | nil => simp at h2
  | cons d b =>
   simp only [List.map_cons, List.cons.injEq] at h2
   rw [hinj _ _ h2.1, ih b h2.2]
theorem keyF_row : KeyF .string rowV := ⟨fun a => trivial, row_inj⟩
theorem hi_val (s : List Bool) : hi s.length (val s) = s := by
 unfold hi val
 have : numBits (num s.reverse) s.length = s.reverse := by
  have h := numBits_num s.reverse
  rw [List.length_reverse] at h
  exact h
 rw [this, List.reverse_reverse]
def lkup (ls : List Nat) (k : Nat) (s : List Bool) : Option Nat := if s = [] then none else match findC ls s.length (val s) with
 | some i => if i < k then some i else none
 | none => none
def HasBook (al : List (List Bool × Value)) (ls : List Nat) (k : Nat) : Prop := ∀ s, mget al s = (lkup ls k s).map natV
theorem book_none (ls : List Nat) : HasBook [] ls 0 := by
 intro s
 have : lkup ls 0 s = none := by
  unfold lkup
  split
  ·rfl
  ·split
   ·rw [if_neg (by omega)]
   ·rfl
 rw [this]; rfl
theorem lkup_same (ls : List Nat) (k : Nat) (s : List Bool) (h : s = [] ∨ s ≠ codeS ls k) : lkup ls (k + 1) s = lkup ls k s := by
 unfold lkup
 by_cases h0 : s = []
 ·rw [if_pos h0, if_pos h0]
 ·rw [if_neg h0, if_neg h0]
  cases hf : findC ls s.length (val s) with
  | none => rfl
  | some i =>
   obtain ⟨h1, h2, h3, h4⟩ := findC_inv ls _ _ i hf
   have : i ≠ k := by
    intro e
    subst e
    rcases h with h | h
    ·exact h0 h
    ·refine h ?_
     unfold codeS
     rw [h2, h4, hi_val]
   dsimp only
   by_cases hk : i < k
   ·rw [if_pos hk, if_pos (by omega)]
   ·rw [if_neg hk, if_neg (by omega)]
theorem book_skip (al : List (List Bool × Value)) (ls : List Nat) (k : Nat) (h : HasBook al ls k) (h0 : codeS ls k = []) : HasBook al ls (k + 1) := by
 intro s
 rw [h s, lkup_same ls k s]
 by_cases e : s = []
 ·exact .inl e
 ·exact .inr (by rw [h0]; exact e)
theorem book_put (al : List (List Bool × Value)) (ls : List Nat) (k : Nat) (hl : ∀ x ∈ ls, x ≤ 15) (hr : room ls ≤ 32768) (hk : k < ls.length) (h : HasBook al ls k) (h0 : codeS ls k ≠ []) : HasBook (mput al (codeS ls k) (natV k)) ls (k + 1) := by
 intro s
 rw [mget_put]
 by_cases e : codeS ls k = s
 ·rw [if_pos e]
  have hn : ls.getD k 0 ≠ 0 := fun hz => h0 (codeS_none ls k hz)
  have hlen : s.length = ls.getD k 0 := by rw [← e]; exact hi_length _ _
  have hv : val s = codeOf ls k := by rw [← e]; exact val_hi _ _ (codeOf_lt ls k hk hn hl hr)
  unfold lkup
  rw [if_neg (by rw [← e]; exact h0), hlen, hv, findC_code ls k hk hn]
  dsimp only
  rw [if_pos (by omega)]; rfl
 ·rw [if_neg e, h s, lkup_same ls k s (.inr (fun e2 => e e2.symm))]
theorem book_all (al : List (List Bool × Value)) (ls : List Nat) (h : HasBook al ls ls.length) (s : List Bool) (h0 : s ≠ []) : mget al s = (findC ls s.length (val s)).map natV := by
 rw [h s]
 unfold lkup
 rw [if_neg h0]
 cases hf : findC ls s.length (val s) with
 | none => rfl
 | some i =>
  dsimp only
  rw [if_pos (findC_inv ls _ _ i hf).1]
theorem zeroI (w : World) : (zeroValue 3).run Tryz.prog w = .ok (.int .i64 0) w := by kernel_rfl
theorem row_empty (l : List Bool) : (strB (rowS l)).toList.isEmpty = decide (l = []) := by
 have e : ((strB (rowS l)).toList == (strB (rowS [])).toList) = (strB (rowS l)).toList.isEmpty := by
  have : (strB (rowS [])).toList = [] := by decide +kernel
  rw [this]
  cases (strB (rowS l)).toList <;> rfl
 rw [← e, strB_inj, decide_eq_decide]
 constructor
 ·intro h; exact row_inj _ _ (by unfold rowV; rw [h])
 ·intro h; rw [h]
set_option maxRecDepth 100000 in
set_option maxHeartbeats 4000000 in
theorem codebook_any (A : Option Addr) (n c : Nat) (zs : List Int) (w : World) (hn : zs.length = n) (hA : InAt w A zs) (hc : chkL zs = 0) :
  Calls Tryz.prog 39 #[.slice A n c] w fun e w' => (∃ gm al, e = .returned (.map (some gm)) ∧ KM rowV w' gm al ∧ HasBook al (lsOf zs) n) ∧ Below w.heap.size w w' := by
 obtain ⟨f1, f2, f3, f4, f5⟩ := chk_fine zs hc
 have hx : n ≤ 288 := by omega
 have Hl := Lib.hid (lsOf_len zs)
 rw [hn] at Hl
 have HP := Lib.hid (fun al k hk h h0 => book_put al (lsOf zs) k f4 f3 hk h h0)
 have HK0 := Lib.hid (KM.made rowV w)
 have Hb0 := Lib.hid ((Below.refl w.heap.size w).alloc (Nat.le_refl _) (.map #[] 0))
 have HC := Lib.hid (codesOf_any A n c zs (w.alloc (.map #[] 0)) hn (SlAt.alloc hA _) hc)
 have hmm := @run_makeMap Tryz.prog
 clear hn hA hc f1 f2 f3 f4 f5
 go_enter Tryz.func39, Tryz.ntmps39
 go_wp2_with fail
 clear hmm
 refine (HC.out).mono ?_
 generalize w.alloc (.map #[] 0) = w1 at *
 generalize hgm : w.heap.size = gm at *
 have Hgm := Lib.hid hgm
 clear hgm
 rintro e w2 ⟨⟨gs, rfl, hgs, hcs⟩, hb2⟩
 have HK2 := Lib.hid (HK0.out.below hb2)
 have Hb2 := Lib.hid (Hb0.out.trans (hb2.mono (by have := Hb0.out.size; rw [Hgm.out] at this; exact this)))
 have Hcs2 := Lib.hid hcs
 have hgl : gm < w1.heap.size := HK0.out.lt
 have hne : gs ≠ gm := by omega
 clear hb2 hcs HC
 go_wp2_with fail
 go_loopw [10] (fun i wr => ∃ (k : Nat) (al : List (List Bool × Value)), k ≤ n ∧ i = .int .i64 (k : Int) ∧ KM rowV wr gm al ∧ HasBook al (lsOf zs) k ∧ Blk wr gs 9 ((List.range n).map fun i => rowV (codeS (lsOf zs) i)).toArray ∧ Below gm w wr) (fun i _ => n - (intOf i).toNat)
 case atStart => exact ⟨0, [], Nat.zero_le _, rfl, HK2.out, book_none _, Hcs2.out, Hb2.out⟩
 case round =>
  obtain ⟨k, al, hk, rfl, hkm, hbook, hcs, hb⟩ := hrel
  have HKm := Lib.hid hkm
  have HBk := Lib.hid hbook
  have Hcs := Lib.hid hcs
  have Hb := Lib.hid hb
  clear hkm hbook hcs hb HK2 Hcs2 Hb2
  by_cases hlt : k < n
  ·have hc2 : wr.cell? ⟨gs, k, none⟩ = some (rowV (codeS (lsOf zs) k)) := by rw [Hcs.out.cell]; simp [hlt]
   have hcb := row_empty (codeS (lsOf zs) k)
   by_cases h0 : codeS (lsOf zs) k = []
   ·rw [h0] at hc2 hcb
    have hcb2 : (strB (rowS ([] : List Bool))).toList.isEmpty = true := by rw [hcb]; rfl
    clear hcb
    have Hs := Lib.hid (book_skip al _ k HBk.out h0)
    unfold rowV at hc2
    go_wp2_with fail
    go_roundw
    case rel => exact ⟨k + 1, al, by omega, by go_num, HKm.out, Hs.out, Hcs.out, Hb.out⟩
    case measure => simp [intOf]; omega
   ·have hcb2 : (strB (rowS (codeS (lsOf zs) k))).toList.isEmpty = false := by rw [hcb]; simp [h0]
    have Hs := Lib.hid (HP.out al k (by rw [Hl.out]; exact hlt) HBk.out h0)
    clear hcb h0
    unfold rowV at hc2
    go_wp2_with (at_mapUpdate; refine wpList_kmput rfl (.tmp 17) (.tmp 18) (.tmp 19) _ rfl gm al HKm.out Tryz.underlying75 Tryz.underlying9 keyF_row (codeS (lsOf zs) k) (natV k) rfl rfl rfl ?_; intro w5 hk5 hg5; have Hk5 := Lib.hid hk5; have Hg5 := Lib.hid hg5; clear hk5 hg5)
    go_roundw
    case rel =>
     refine ⟨k + 1, _, by omega, by go_num, Hk5.out, Hs.out, Blk.grown Hcs.out Hg5.out (fun e => by injection e with e; exact hne e.symm), ?_⟩
     exact Hb.out.grown Hg5.out (by have := Hb.out.size; rw [Hgm.out] at this; exact this) (fun j hj => by injection hj with hj; omega)
    case measure => simp [intOf]; omega
  ·obtain rfl : k = n := by omega
   go_wp2_with fail
   go_ret
   exact ⟨⟨gm, al, rfl, HKm.out, HBk.out⟩, by rw [Hgm.out]; exact Hb.out⟩
set_option maxRecDepth 100000 in
set_option maxHeartbeats 4000000 in
theorem next_any (gm : Nat) (al : List (List Bool × Value)) (ls : List Nat) (row : List Bool) (w : World) (hK : KM rowV w gm al) (hB : HasBook al ls ls.length) (hr : row.length ≤ 1000000) :
  Calls Tryz.prog 65 #[.map (some gm), rowV row] w fun e w' => e = .returned (.tuple #[natV (next ls row).1, natV (next ls row).2.1, .int .i64 (next ls row).2.2]) ∧ w' = w := by
 have HK := Lib.hid hK
 have HB := Lib.hid hB
 have hsz : (strB (rowS row)).size = row.length := by rw [strB_size, rowS_length]
 clear hK hB
 obtain ⟨R, hR⟩ : ∃ R, R = next ls row := ⟨_, rfl⟩
 rw [← hR]
 have HR := Lib.hid hR
 clear hR
 have hrow : rowV row = .string (strB (rowS row)) := rfl
 rw [hrow]
 clear hrow
 generalize hS : strB (rowS row) = S at *
 generalize hm : row.length = m at *
 have HS := Lib.hid hS
 have Hm := Lib.hid hm
 clear hS hm
 go_enter Tryz.func65, Tryz.ntmps65
 go_wp2_with fail
 go_loop [7] (fun i => ∃ (n k : Nat), 1 ≤ n ∧ n + k = 16 ∧ i = .int .i64 (n : Int) ∧ nxt ls row k n = R) (fun i => 17 - (intOf i).toNat)
 case atStart => exact ⟨1, 15, Nat.le_refl _, rfl, rfl, HR.out.symm⟩
 case round =>
  obtain ⟨n, k, hn1, hnk, rfl, hnx⟩ := hrel
  have Hnx := Lib.hid hnx
  clear hnx
  by_cases h15 : n ≤ 15
  ·obtain ⟨k, rfl⟩ : ∃ j, k = j + 1 := ⟨k - 1, by omega⟩
   by_cases ht : m < n
   ·have hx : R = (0, 0, 7) := by rw [← Hnx.out, nxt_torn ls row k n (by rw [Hm.out]; exact ht)]
    have ht2 : (m : Int) < (n : Int) := by omega
    subst hx
    go_wp2_with fail
    go_ret3
    exact ⟨rfl, rfl⟩
   ·have ht2 : ¬ (m : Int) < (n : Int) := by omega
    have hnm : (n : Int) ≤ (m : Int) := by omega
    have hkey : S.extract 0 n = strB (rowS (row.take n)) := by rw [← HS.out]; exact rowS_take row n
    have hlen : (row.take n).length = n := by rw [List.length_take, Hm.out]; omega
    have hmg := book_all al ls HB.out (row.take n) (fun e => by rw [e] at hlen; simp at hlen; omega)
    rw [hlen] at hmg
    have Hkey : Hid (Value.string (S.extract 0 n) = rowV (row.take n)) := Lib.hid (congrArg Value.string hkey)
    cases hf : findC ls n (val (row.take n)) with
    | some i =>
     rw [hf] at hmg
     have hx : R = (i, n, 0) := by rw [← Hnx.out, nxt_hit ls row k n i (by rw [Hm.out]; omega) hf]
     subst hx
     have HG1 : Hid ((mget al (row.take n)).getD (.int .i64 0) = natV i) := Lib.hid (by rw [hmg]; rfl)
     have HG2 : Hid ((mget al (row.take n)).isSome = true) := Lib.hid (by rw [hmg]; rfl)
     clear hmg hf hkey hlen
     go_wp2_with (at_lookup; refine wpList_kmlook_ok' rfl (.tmp 19) (.tmp 22) 75 rfl gm al HK.out Tryz.underlying75 Tryz.underlying9 keyF_row (zeroI _) (row.take n) rfl Hkey.out _ _ HG1.out HG2.out ?_)
     go_ret3
     exact ⟨rfl, rfl⟩
    | none =>
     rw [hf] at hmg
     have Hn2 : Hid (nxt ls row k (n + 1) = R) := Lib.hid (by rw [← Hnx.out, nxt_miss ls row k n (by rw [Hm.out]; omega) hf])
     have HG1 : Hid ((mget al (row.take n)).getD (.int .i64 0) = .int .i64 0) := Lib.hid (by rw [hmg]; rfl)
     have HG2 : Hid ((mget al (row.take n)).isSome = false) := Lib.hid (by rw [hmg]; rfl)
     clear hmg hf hkey hlen
     go_wp2_with (at_lookup; refine wpList_kmlook_ok' rfl (.tmp 19) (.tmp 22) 75 rfl gm al HK.out Tryz.underlying75 Tryz.underlying9 keyF_row (zeroI _) (row.take n) rfl Hkey.out _ _ HG1.out HG2.out ?_)
     go_round
     case rel => exact ⟨n + 1, k, by omega, by omega, by go_num, Hn2.out⟩
     case measure => simp [intOf]; omega
  ·obtain rfl : n = 16 := by omega
   obtain rfl : k = 0 := by omega
   have hx : R = (0, 0, 8) := Hnx.out.symm
   subst hx
   go_wp2_with fail
   go_ret3
   exact ⟨rfl, rfl⟩
end Go.Proofs.YthpdcnjaodjjmaaGreat.Cds

/- reliquaryref: the unpacker: get, place, say, wrong: the walks. -/
namespace Go.Proofs.YthpdcnjaodjjmaaGreat.Unp
open Go Go.RowKit Go.Proofs.YthpdcnjaodjjmaaGreat Go.Proofs.YthpdcnjaodjjmaaGreat.Bits Go.Proofs.YthpdcnjaodjjmaaGreat.Code
open Go.Proofs.YthpdcnjaodjjmaaGreat.Inf hiding then_ok
open Go.Proofs.YthpdcnjaodjjmaaGreat.Cds (HasBook next_any codebook_any lkup)
set_option linter.unusedVariables false

theorem own_low {w w' : World} {base B0 : Nat} {e : TypeId} {size n : Nat} {v : Value} {xs : List Value} (h : w.ownsRow base e size v n xs) (hv : ∀ b, v.ownBlock = some b → b < B0) (hb : Below B0 w w') : w'.ownsRow base e size v n xs := by
 obtain ⟨h1, h2⟩ := h
 refine ⟨h1, ?_⟩
 rcases h2 with h | ⟨g, cap, cur, rfl, hbg, r⟩
 ·exact .inl h
 ·have hg : g < B0 := hv g rfl
  refine .inr ⟨g, cap, cur, rfl, hbg, ?_⟩
  rw [hb.block g hg]
  exact r
def unpT : List TypeId := [51, 5]
def UAt (w : World) (base p : Nat) (row : List Bool) (s : St) (vo vk : Value) : Prop :=
 base ≤ p ∧ Blk w p 51 #[rowV row, .int .i64 (s.pos : Int), vo, vk, .int .i64 s.e] ∧ w.ownsRow base 5 1 vo s.out.length (s.out.map u8v) ∧ w.ownsRow base 3 1 vk s.ks.length (s.ks.map natV)
section
variable {w w' : World} {base p : Nat} {row : List Bool} {s : St} {vo vk : Value}
theorem UAt.below (h : UAt w base p row s vo vk) (hb : Below w.heap.size w w') : UAt w' base p row s vo vk := by
 obtain ⟨h1, h2, h3, h4⟩ := h
 exact ⟨h1, h2.below hb h2.lt, own_keep h3 hb, own_keep h4 hb⟩
theorem UAt.lt (h : UAt w base p row s vo vk) : p < w.heap.size := by
 obtain ⟨h1, h2, h3, h4⟩ := h
 exact h2.lt
theorem UAt.bs (h : UAt w base p row s vo vk) : base ≤ w.heap.size := Nat.le_trans h.1 (Nat.le_of_lt h.lt)
theorem UAt.low {B0 : Nat} (h : UAt w base p row s vo vk) (hb : Below B0 w w') (hp : p < B0) (ho : ∀ b, vo.ownBlock = some b → b < B0) (hk : ∀ b, vk.ownBlock = some b → b < B0) : UAt w' base p row s vo vk := by
 obtain ⟨h1, h2, h3, h4⟩ := h
 refine ⟨h1, ?_, own_low h3 ho hb, own_low h4 hk hb⟩
 unfold Blk at h2 ⊢
 rw [hb.block p hp]; exact h2
theorem UAt.owns (h : UAt w base p row s vo vk) : p < w.heap.size ∧ (∀ b, vo.ownBlock = some b → b < w.heap.size) ∧ (∀ b, vk.ownBlock = some b → b < w.heap.size) := by
 have hl := h.lt
 obtain ⟨h1, h2, h3, h4⟩ := h
 exact ⟨hl, fun b hb => (h3.lt b hb).2, fun b hb => (h4.lt b hb).2⟩
theorem UAt.drewN (h : UAt w base p row s vo vk) (n : Nat) : UAt (w.drewN n) base p row s vo vk := h
end
theorem u_set {w : World} {base p i : Nat} {cs : Array Value} {vo vk u : Value} {os ks : List Value} {no nk : Nat} (hB : Blk w p 51 cs) (hO : w.ownsRow base 5 1 vo no os) (hK : w.ownsRow base 3 1 vk nk ks) :
  Blk (w.setCell ⟨p, i, none⟩ u) p 51 (cs.setIfInBounds i u) ∧ (w.setCell ⟨p, i, none⟩ u).ownsRow base 5 1 vo no os ∧ (w.setCell ⟨p, i, none⟩ u).ownsRow base 3 1 vk nk ks :=
 ⟨hB.set_ i u, ownsRow_setCell_other hO (own_ne hO hB (by decide)) u, ownsRow_setCell_other hK (own_ne hK hB (by decide)) u⟩
theorem row_mid (l : List Bool) (a b : Nat) (hab : a ≤ b) (hb : b ≤ l.length) : (strB (rowS l)).extract a b = strB (rowS ((l.drop a).take (b - a))) := by
 apply ByteArray.ext
 rw [ByteArray.data_extract]
 show ((rowS l).toArray).extract a b = (rowS ((l.drop a).take (b - a))).toArray
 unfold rowS
 rw [List.extract_toArray, List.extract_eq_take_drop, ← List.map_drop, ← List.map_take]
theorem u_cells {w : World} {p : Nat} {a b c d e : Value} (hB : Blk w p 51 #[a, b, c, d, e]) : w.cell? ⟨p, 0, none⟩ = some a ∧ w.cell? ⟨p, 1, none⟩ = some b ∧ w.cell? ⟨p, 2, none⟩ = some c ∧ w.cell? ⟨p, 3, none⟩ = some d ∧ w.cell? ⟨p, 4, none⟩ = some e := by
 refine ⟨?_, ?_, ?_, ?_, ?_⟩ <;> rw [hB.cell] <;> rfl
set_option maxRecDepth 100000 in
set_option maxHeartbeats 1600000 in
theorem get_u (base p n : Nat) {vo vk : Value} (row : List Bool) (s : St) (w : World) (h : UAt w base p row s vo vk) (hp : s.pos ≤ row.length) (hr : row.length ≤ 1000000) (hn : n ≤ 16) :
  Calls Tryz.prog 33 #[.pointer (some ⟨p, 0, none⟩), .int .i64 (n : Int)] w fun e w' => e = .returned (.int .i64 ((uget row s n).1 : Int)) ∧ UAt w' base p row (uget row s n).2 vo vk ∧ Keeps base unpT w w' := by
 obtain ⟨pos, out, ks, er⟩ := s
 dsimp only at hp
 obtain ⟨hbp, hB, hO, hK⟩ := h
 dsimp only at hB hO hK
 have hsz : (strB (rowS row)).size = row.length := by rw [strB_size, rowS_length]
 have HB := Lib.hid hB
 have HO := Lib.hid hO
 have HK := Lib.hid hK
 obtain ⟨c0, c1, c2, c3, c4⟩ := u_cells hB
 unfold rowV at c0
 clear hB hO hK c2 c3
 by_cases he : er = 0
 ·subst he
  have hz : ((0 : Int) == 0) = true := rfl
  have hsum : IntKind.i64.wrap ((pos : Int) + (n : Int)) = (pos : Int) + (n : Int) := IntWalk.i64_in _ (by omega)
  by_cases ht : row.length < pos + n
  ·have ht' : (row.length : Int) < (pos : Int) + (n : Int) := by omega
   have HG : Hid (uget row ⟨pos, out, ks, 0⟩ n = (0, ⟨pos, out, ks, 7⟩)) := Lib.hid (get_bad rfl (by unfold getR; rw [if_neg (by dsimp only; omega)]))
   rw [HG.out]
   generalize strB (rowS row) = S at *
   generalize hm : row.length = m at *
   clear hm
   go_enter Tryz.func33, Tryz.ntmps33
   go_wp2_with fail
   go_quiet (fail)
   have HB1 := Lib.hid (HB.out.drewN nq)
   have HO1 : Hid ((w.drewN nq).ownsRow base 5 1 vo out.length (out.map u8v)) := HO
   have HK1 : Hid ((w.drewN nq).ownsRow base 3 1 vk ks.length (ks.map natV)) := HK
   have Hk1 := Lib.hid ((Keeps.refl base unpT w).drewN nq)
   generalize w.drewN nq = w1 at *
   have f4 := HB1.out.frozen 4
   have HS := Lib.hid (u_set (i := 4) (u := .int .i64 7) HB1.out HO1.out HK1.out)
   have Hk2 := Lib.hid (Hk1.out.setBlk HB1.out (by simp [unpT]) hbp 4 (.int .i64 7))
   clear c0 c1 c4 hsum HB HO HK
   obtain ⟨_, _, _, _, d4⟩ := u_cells HB1.out
   go_wp2_with fail
   go_ret
   exact ⟨rfl, ⟨hbp, HS.out.1, HS.out.2.1, HS.out.2.2⟩, Hk2.out⟩
  ·have ht' : ¬ (row.length : Int) < (pos : Int) + (n : Int) := by omega
   obtain ⟨sg, hsg⟩ : ∃ sg, sg = (row.drop pos).take n := ⟨_, rfl⟩
   have hsl : sg.length ≤ 60 := by rw [hsg, List.length_take]; omega
   have HG : Hid (uget row ⟨pos, out, ks, 0⟩ n = (num sg, ⟨pos + n, out, ks, 0⟩)) := Lib.hid (by
    rw [hsg]; exact get_ok (a := (num ((row.drop pos).take n), pos + n)) rfl (by unfold getR; rw [if_pos (by dsimp only; omega)]))
   have hex : (strB (rowS row)).extract pos (pos + n) = strB (rowS sg) := by
    have := row_mid row pos (pos + n) (by omega) (by omega)
    rw [show pos + n - pos = n by omega, ← hsg] at this
    exact this
   have HN := Lib.hid (fun w' => ofNumber_any sg w' hsl)
   unfold rowV at HN
   rw [HG.out]
   have HRow : Hid (rowV row = .string (strB (rowS row))) := Lib.hid rfl
   generalize strB (rowS row) = S at *
   generalize strB (rowS sg) = S2 at *
   generalize hm : row.length = m at *
   clear hm hsg
   go_enter Tryz.func33, Tryz.ntmps33
   go_wp2_with fail
   go_quiet (fail)
   have HB1 := Lib.hid (HB.out.drewN nq)
   have HO1 : Hid ((w.drewN nq).ownsRow base 5 1 vo out.length (out.map u8v)) := HO
   have HK1 : Hid ((w.drewN nq).ownsRow base 3 1 vk ks.length (ks.map natV)) := HK
   have Hk1 := Lib.hid ((Keeps.refl base unpT w).drewN nq)
   generalize w.drewN nq = w1 at *
   clear c0 c1 c4 HB HO HK
   obtain ⟨_, d1, _, _, d4⟩ := u_cells HB1.out
   have f1 := HB1.out.frozen 1
   have hpn : ((pos : Int) + (n : Int)) = ((pos + n : Nat) : Int) := by omega
   have HS := Lib.hid (u_set (i := 1) (u := .int .i64 ((pos + n : Nat) : Int)) HB1.out HO1.out HK1.out)
   have Hk2 := Lib.hid (Hk1.out.setBlk HB1.out (by simp [unpT]) hbp 1 (.int .i64 ((pos + n : Nat) : Int)))
   rw [← hpn] at HS Hk2
   clear hpn
   go_wp2_with fail
   generalize w1.setCell ⟨p, 1, none⟩ (.int .i64 ((pos : Int) + (n : Int))) = w2 at *
   clear d1 d4 f1 HB1 HO1 HK1 Hk1
   have hpn : ((pos : Int) + (n : Int)) = ((pos + n : Nat) : Int) := by omega
   rw [hpn] at HS
   obtain ⟨c0, c1, _, _, _⟩ := u_cells HS.out.1
   rw [HRow.out] at c0
   have hsub : IntKind.i64.wrap (((pos + n : Nat) : Int) - (n : Int)) = (pos : Int) := by rw [show ((pos + n : Nat) : Int) - (n : Int) = (pos : Int) by omega]; exact IntWalk.i64_in _ (by omega)
   generalize hq : pos + n = q at *
   have hpq : (pos : Int) ≤ (q : Int) := by omega
   have Hq := Lib.hid hq
   have hqm : (q : Int) ≤ (m : Int) := by omega
   go_still_tail 15, (by kernel_rfl)
   change wpList _ _ _ _ _ w2.drew
   have HB3 := Lib.hid (HS.out.1.drewN 1)
   have HO3 : Hid (w2.drew.ownsRow base 5 1 vo out.length (out.map u8v)) := Lib.hid HS.out.2.1
   have HK3 : Hid (w2.drew.ownsRow base 3 1 vk ks.length (ks.map natV)) := Lib.hid HS.out.2.2
   have Hk3 := Lib.hid (Hk2.out.drew)
   have HB3' : Hid (Blk w2.drew p 51 #[.string S, .int .i64 (q : Int), vo, vk, .int .i64 0]) := Lib.hid (by have := HS.out.1; rw [HRow.out] at this; exact this)
   clear HB3 HS Hk2 c0 c1
   generalize w2.drew = w3 at *
   go_wp2_with fail
   refine (HN.out _).mono ?_
   rintro e w4 ⟨rfl, rfl⟩
   go_wp2_with fail
   go_ret
   exact ⟨rfl, ⟨hbp, by rw [HRow.out]; dsimp only; rw [Hq.out]; exact HB3'.out, HO3.out, HK3.out⟩, Hk3.out⟩
 ·have hz : (er == 0) = false := by rw [beq_eq_false_iff_ne]; exact he
  have hzn : (er != 0) = true := by rw [bne, hz]; rfl
  have HG : Hid (uget row ⟨pos, out, ks, er⟩ n = (0, ⟨pos, out, ks, er⟩)) := Lib.hid (get_stuck he)
  rw [HG.out]
  generalize strB (rowS row) = S at *
  clear he
  go_enter Tryz.func33, Tryz.ntmps33
  go_wp2_with fail
  go_quiet (fail)
  have HB1 := Lib.hid (HB.out.drewN nq)
  have HO1 : Hid ((w.drewN nq).ownsRow base 5 1 vo out.length (out.map u8v)) := HO
  have HK1 : Hid ((w.drewN nq).ownsRow base 3 1 vk ks.length (ks.map natV)) := HK
  have Hk1 := Lib.hid ((Keeps.refl base unpT w).drewN nq)
  generalize w.drewN nq = w1 at *
  clear c0 c1 c4 HB HO HK
  obtain ⟨_, _, _, _, d4⟩ := u_cells HB1.out
  go_wp2_with fail
  go_ret
  exact ⟨rfl, ⟨hbp, HB1.out, HO1.out, HK1.out⟩, Hk1.out⟩
theorem nxt_bad (ls : List Nat) (row : List Bool) : ∀ k n : Nat, (nxt ls row k n).2.2 ≠ 0 → (nxt ls row k n).1 = 0 ∧ (nxt ls row k n).2.1 = 0
 | 0, n, _ => ⟨rfl, rfl⟩
 | k + 1, n, h => by
  unfold nxt at h ⊢
  split at h
  ·rename_i h1; rw [if_pos h1]; exact ⟨rfl, rfl⟩
  ·rename_i h1
   rw [if_neg h1]
   split at h
   ·exact absurd rfl h
   ·rename_i h2
    exact nxt_bad ls row k (n + 1) h
theorem next_bad (ls : List Nat) (row : List Bool) (h : (next ls row).2.2 ≠ 0) : (next ls row).1 = 0 ∧ (next ls row).2.1 = 0 := nxt_bad ls row 15 1 h
theorem row_tail (l : List Bool) (n : Nat) : (strB (rowS l)).extract n (strB (rowS l)).size = strB (rowS (l.drop n)) := by
 apply ByteArray.ext
 rw [ByteArray.data_extract]
 show ((rowS l).toArray).extract n (strB (rowS l)).size = (rowS (l.drop n)).toArray
 have e : (strB (rowS l)).size = l.length := by rw [strB_size, rowS_length]
 rw [e]
 unfold rowS
 rw [List.extract_toArray, List.extract_eq_take_drop, ← List.map_drop, List.take_of_length_le (by rw [List.length_map, List.length_drop]; omega)]
theorem nxt_pos (ls : List Nat) (row : List Bool) : ∀ k n : Nat, (nxt ls row k n).2.1 ≤ row.length
 | 0, n => Nat.zero_le _
 | k + 1, n => by
  unfold nxt
  split
  ·exact Nat.zero_le _
  ·split
   ·dsimp only; omega
   ·exact nxt_pos ls row k (n + 1)
set_option maxRecDepth 100000 in
set_option maxHeartbeats 1600000 in
theorem place_u (base p gm : Nat) {vo vk : Value} (al : List (List Bool × Value)) (ls : List Nat) (row : List Bool) (s : St) (w : World) (h : UAt w base p row s vo vk) (hp : s.pos ≤ row.length) (hr : row.length ≤ 1000000) (hM : KM rowV w gm al) (hH : HasBook al ls ls.length) :
  Calls Tryz.prog 40 #[.pointer (some ⟨p, 0, none⟩), .map (some gm)] w fun e w' => e = .returned (.int .i64 ((uplace row ls s).1 : Int)) ∧ UAt w' base p row (uplace row ls s).2 vo vk ∧ Keeps base unpT w w' := by
 obtain ⟨pos, out, ks, er⟩ := s
 dsimp only at hp
 obtain ⟨hbp, hB, hO, hK⟩ := h
 dsimp only at hB hO hK
 have hsz : (strB (rowS row)).size = row.length := by rw [strB_size, rowS_length]
 have HB := Lib.hid hB
 have HO := Lib.hid hO
 have HK := Lib.hid hK
 obtain ⟨c0, c1, c2, c3, c4⟩ := u_cells hB
 unfold rowV at c0
 clear hB hO hK c2 c3
 by_cases he : er = 0
 ·subst he
  have hz : ((0 : Int) != 0) = false := rfl
  have hex := row_tail row pos
  have HN := Lib.hid (fun w' hK => next_any gm al ls (row.drop pos) w' hK hH (by rw [List.length_drop]; omega))
  have hnp : (next ls (row.drop pos)).2.1 ≤ row.length - pos := by have := nxt_pos ls (row.drop pos) 15 1; rw [List.length_drop] at this; exact this
  have HG : Hid (uplace row ls ⟨pos, out, ks, 0⟩ = ((next ls (row.drop pos)).1, ⟨pos + (next ls (row.drop pos)).2.1, out, ks, (next ls (row.drop pos)).2.2⟩)) := Lib.hid (by
   by_cases hz : (next ls (row.drop pos)).2.2 = 0
   ·rw [hz]
    exact place_ok (a := ((next ls (row.drop pos)).1, pos + (next ls (row.drop pos)).2.1)) rfl (by unfold symR; rw [if_pos hz])
   ·have h1 := place_bad (row := row) (ls := ls) (s := ⟨pos, out, ks, 0⟩) (z := (next ls (row.drop pos)).2.2) rfl (by unfold symR; rw [if_neg hz])
    have h2 := next_bad ls (row.drop pos) hz
    rw [h1]
    rw [h2.1, h2.2]
    rfl)
  rw [HG.out]
  generalize next ls (row.drop pos) = R at *
  obtain ⟨r1, r2, r3⟩ := R
  dsimp only at *
  unfold rowV at HN
  have HRow : Hid (rowV row = .string (strB (rowS row))) := Lib.hid rfl
  rw [hsz] at hex
  generalize strB (rowS row) = S at *
  generalize strB (rowS (row.drop pos)) = S2 at *
  generalize hm : row.length = m at *
  clear hm
  have hpm : (pos : Int) ≤ (m : Int) := by omega
  have HMw := Lib.hid hM
  clear hM
  go_enter Tryz.func40, Tryz.ntmps40
  go_wp2_with fail
  have HNw := Lib.hid (fun d => HN.out (w.drewN d) (show KM rowV (w.drewN d) gm al from HMw.out))
  go_quiet ((go_at_call 65; exact Calls.quiet_of_same (HN.out _ HMw.out)))
  simp only [natV]
  have HB1 := Lib.hid (HB.out.drewN nq)
  have HO1 : Hid ((w.drewN nq).ownsRow base 5 1 vo out.length (out.map u8v)) := HO
  have HK1 : Hid ((w.drewN nq).ownsRow base 3 1 vk ks.length (ks.map natV)) := HK
  have Hk1 := Lib.hid ((Keeps.refl base unpT w).drewN nq)
  generalize w.drewN nq = w1 at *
  clear c0 c1 c4 HB HO HK HNw HMw HN hex
  obtain ⟨_, d1, _, _, d4⟩ := u_cells HB1.out
  have f1 := HB1.out.frozen 1
  have f4 := HB1.out.frozen 4
  have HS4 := Lib.hid (u_set (i := 4) (u := .int .i64 r3) HB1.out HO1.out HK1.out)
  have Hk2 := Lib.hid (Hk1.out.setBlk HB1.out (by simp [unpT]) hbp 4 (.int .i64 r3))
  have hsum : IntKind.i64.wrap ((pos : Int) + (r2 : Int)) = ((pos + r2 : Nat) : Int) := by rw [show ((pos : Int) + (r2 : Int)) = ((pos + r2 : Nat) : Int) by omega]; exact IntWalk.i64_in _ (by omega)
  obtain ⟨q, hq⟩ : ∃ q, q = pos + r2 := ⟨_, rfl⟩
  rw [← hq] at hsum
  have Hq := Lib.hid hq
  clear hq
  have HS1 := Lib.hid (u_set (i := 1) (u := .int .i64 (q : Int)) HS4.out.1 HS4.out.2.1 HS4.out.2.2)
  have Hk3 := Lib.hid (Hk2.out.setBlk HS4.out.1 (by simp [unpT]) hbp 1 (.int .i64 (q : Int)))
  go_wp2_with fail
  go_ret
  refine ⟨rfl, ⟨hbp, ?_, HS1.out.2.1, HS1.out.2.2⟩, Hk3.out⟩
  have := HS1.out.1
  dsimp only
  rw [← Hq.out]
  exact this
 ·have hz : (er == 0) = false := by rw [beq_eq_false_iff_ne]; exact he
  have hzn : (er != 0) = true := by rw [bne, hz]; rfl
  have HG : Hid (uplace row ls ⟨pos, out, ks, er⟩ = (0, ⟨pos, out, ks, er⟩)) := Lib.hid (place_stuck he)
  rw [HG.out]
  clear he hM
  go_enter Tryz.func40, Tryz.ntmps40
  go_wp2_with fail
  go_ret
  exact ⟨rfl, ⟨hbp, HB.out, HO.out, HK.out⟩, Keeps.refl _ _ _⟩
set_option maxRecDepth 100000 in
theorem wrong_u (base p : Nat) {vo vk : Value} (z : Int) (row : List Bool) (s : St) (w : World) (h : UAt w base p row s vo vk) :
  Calls Tryz.prog 34 #[.pointer (some ⟨p, 0, none⟩), .int .i64 z] w fun e w' => e = .returned (.tuple #[]) ∧ UAt w' base p row (uwrong s z) vo vk ∧ Keeps base unpT w w' := by
 obtain ⟨pos, out, ks, er⟩ := s
 obtain ⟨hbp, hB, hO, hK⟩ := h
 dsimp only at hB hO hK
 have HB := Lib.hid hB
 have HO := Lib.hid hO
 have HK := Lib.hid hK
 obtain ⟨c0, c1, c2, c3, c4⟩ := u_cells hB
 have f4 := hB.frozen 4
 clear hB hO hK c0 c1 c2 c3
 by_cases he : er = 0
 ·subst he
  have hz : ((0 : Int) == 0) = true := rfl
  have HG : Hid (uwrong ⟨pos, out, ks, 0⟩ z = ⟨pos, out, ks, z⟩) := Lib.hid rfl
  rw [HG.out]
  have HS := Lib.hid (u_set (i := 4) (u := .int .i64 z) HB.out HO.out HK.out)
  have Hk2 := Lib.hid ((Keeps.refl base unpT w).setBlk HB.out (by simp [unpT]) hbp 4 (.int .i64 z))
  go_enter Tryz.func34, Tryz.ntmps34
  go_wp2_with fail
  go_end0
  exact ⟨rfl, ⟨hbp, HS.out.1, HS.out.2.1, HS.out.2.2⟩, Hk2.out⟩
 ·have hz : (er == 0) = false := by rw [beq_eq_false_iff_ne]; exact he
  have HG : Hid (uwrong ⟨pos, out, ks, er⟩ z = ⟨pos, out, ks, er⟩) := Lib.hid (wrong_stuck he)
  rw [HG.out]
  clear he
  go_enter Tryz.func34, Tryz.ntmps34
  go_wp2_with fail
  go_end0
  exact ⟨rfl, ⟨hbp, HB.out, HO.out, HK.out⟩, Keeps.refl _ _ _⟩
set_option maxRecDepth 100000 in
set_option maxHeartbeats 1600000 in
theorem say_u (base p : Nat) {vo vk : Value} (x : UInt8) (row : List Bool) (s : St) (w : World) (h : UAt w base p row s vo vk) (ho3 : s.out.length ≤ 3000) :
  Calls Tryz.prog 35 #[.pointer (some ⟨p, 0, none⟩), .int .u8 (n8 x)] w fun e w' => e = .returned (.tuple #[]) ∧ (∃ vo', UAt w' base p row (usay s x) vo' vk) ∧ Keeps base unpT w w' := by
 have hbw := h.bs
 obtain ⟨pos, out, ks, er⟩ := s
 obtain ⟨hbp, hB, hO, hK⟩ := h
 dsimp only at hB hO hK ho3
 obtain ⟨Ao, co, rfl, _⟩ := own_slat hO
 have HB := Lib.hid hB
 have HO := Lib.hid hO
 have HK := Lib.hid hK
 obtain ⟨c0, c1, c2, c3, c4⟩ := u_cells hB
 have f4 := hB.frozen 4
 have f2 := hB.frozen 2
 clear hB hO hK c0 c1 c3
 by_cases he : er = 0
 ·subst he
  have hz : ((0 : Int) == 0) = true := rfl
  by_cases h3 : out.length = 3000
  ·have HG : Hid (usay ⟨pos, out, ks, 0⟩ x = ⟨pos, out, ks, 2⟩) := Lib.hid (say_bad rfl (by unfold pushR; rw [if_pos h3]))
   rw [HG.out]
   have h3' : ((out.length : Int) == 3000) = true := by simp; omega
   have HS := Lib.hid (u_set (i := 4) (u := .int .i64 2) HB.out HO.out HK.out)
   have Hk2 := Lib.hid ((Keeps.refl base unpT w).setBlk HB.out (by simp [unpT]) hbp 4 (.int .i64 2))
   generalize hol : out.length = ol at *
   have Hol := Lib.hid hol
   clear hol h3
   go_enter Tryz.func35, Tryz.ntmps35
   go_wp2_with fail
   go_end0
   exact ⟨rfl, ⟨.slice Ao ol co, hbp, HS.out.1, by rw [Hol.out]; exact HS.out.2.1, HS.out.2.2⟩, Hk2.out⟩
  ·have HG : Hid (usay ⟨pos, out, ks, 0⟩ x = ⟨pos, out ++ [x], ks, 0⟩) := Lib.hid (say_ok rfl (by unfold pushR; rw [if_neg h3]))
   rw [HG.out]
   have h3' : ((out.length : Int) == 3000) = false := by rw [beq_eq_false_iff_ne]; omega
   generalize hol : out.length = ol at *
   have Hol := Lib.hid hol
   clear hol h3
   have hba : Below w.heap.size w (w.alloc (.cells #[.int .u8 (n8 x)] 5)) := (Below.refl _ _).alloc (Nat.le_refl _) _
   have HBa := Lib.hid (HB.out.alloc (.cells #[.int .u8 (n8 x)] 5))
   have HOa := Lib.hid (own_keep HO.out hba)
   have HKa := Lib.hid (own_keep HK.out hba)
   have Hka := Lib.hid ((Keeps.refl base unpT w).alloc hbw (.cells #[.int .u8 (n8 x)] 5))
   have HZ : Hid (SlAt (w.alloc (.cells #[.int .u8 (n8 x)] 5)) (some ⟨w.heap.size, 0, none⟩) [.int .u8 (n8 x)]) := Lib.hid (SlAt.of_heap (heap_alloc_new _ _) rfl)
   have Hbs : Hid (base ≤ (w.alloc (.cells #[.int .u8 (n8 x)] 5)).heap.size) := Lib.hid (Nat.le_trans hbw (by simp))
   clear hba HO HK
   go_enter Tryz.func35, Tryz.ntmps35
   go_wp2_with (at_builtin; refine wpList_app _ rfl (.tmp 29) (.tmp 31) _ rfl base 5 _ 1 1 ty8 _ ol (out.map u8v) rfl HOa.out (some ⟨w.heap.size, 0, none⟩) 1 1 [.int .u8 (n8 x)] rfl rfl HZ.out (by simp [Value.oneCell']) (by simp) (by unfold maxLen; omega) (by omega) Hbs.out ?_; intro v8 w8 hown8 hg8 _; obtain ⟨g8, cap8, hv8, _, _⟩ := hown8.form (by omega); subst hv8; have HO8 := Lib.hid hown8; have HB8 := Lib.hid (HBa.out.grown hg8 (own_ne HOa.out HBa.out (by decide))); have HK8 := Lib.hid (Weigh.own_grownV HKa.out HOa.out hg8 (by decide)); have Hk8 := Lib.hid (Hka.out.grown HOa.out hg8 (by simp [unpT]) Hbs.out); clear hown8 hg8; have f8 := HB8.out.frozen 2; obtain ⟨_, _, e2, _, _⟩ := u_cells HB8.out)
   go_end0
   have HS := u_set (i := 2) (u := .slice (some ⟨g8, 0, none⟩) (ol + 1) cap8) HB8.out HO8.out HK8.out
   exact ⟨rfl, ⟨_, hbp, HS.1, by dsimp only; rw [List.length_append, List.map_append, Hol.out]; exact HS.2.1, HS.2.2⟩, Hk8.out.setBlk HB8.out (by simp [unpT]) hbp 2 _⟩
 ·have hz : (er == 0) = false := by rw [beq_eq_false_iff_ne]; exact he
  have HG : Hid (usay ⟨pos, out, ks, er⟩ x = ⟨pos, out, ks, er⟩) := Lib.hid (say_stuck he)
  rw [HG.out]
  clear he
  go_enter Tryz.func35, Tryz.ntmps35
  go_wp2_with fail
  go_end0
  exact ⟨rfl, ⟨_, hbp, HB.out, HO.out, HK.out⟩, Keeps.refl _ _ _⟩
end Go.Proofs.YthpdcnjaodjjmaaGreat.Unp

/- slices.Concat[[]int,int]. -/
namespace Go.Proofs.YthpdcnjaodjjmaaGreat.ConcatI
open Go Go.RowKit Go.Proofs.YthpdcnjaodjjmaaGreat
set_option linter.unusedVariables false

theorem ty : SliceTy Tryz.prog 23 3 (.int .i64 0) 1 8 := ⟨Tryz.underlying23, by kernel_rfl, rfl, by omega⟩
theorem zeroCells_size (z : Array Value) (n : Nat) : (Builtin.zeroCells z n).size = n * z.size := by simp [Builtin.zeroCells]

set_option maxHeartbeats 400000 in
theorem grow_any (n : Nat) (w : World) (hn : n * 8 ≤ 140737488355328) :
  Calls Tryz.prog 84 #[.slice none 0 0, .int .i64 (n : Int)] w fun e w' => ∃ v, e = .returned v ∧ w'.ownsRow w.heap.size 3 1 v 0 [] ∧ Below w.heap.size w w' := by
 by_cases h0 : n = 0
 ·subst h0
  go_enter Tryz.func84, Tryz.ntmps84
  go_wp2_with fail
  go_ret
  exact ⟨_, rfl, World.ownsRow_nil _ _ _ _, Below.refl _ _⟩
 ·obtain ⟨ht, i, hi, hz, hsize, hby, hzs, hsz⟩ := ty.parts
  have hpos : 0 < n := by omega
  have h1 : ¬ ((n : Int) < 0) := by omega
  have hp : (0 : Int) < (n : Int) := by omega
  have hb63 : (n : Int) ≤ 140737488355328 := by omega
  have hrun := Lib.run_append_nil_zeros (P := Tryz.prog) w 23 3 23 3 i (.int .i64 0) .i64 .i64 ht Tryz.underlying3 hi hz n hpos (by omega) (by omega) (by rw [hby]; omega)
  have hcap := grownCap_ge w n 0 3
  have hcm := grownCap_le_maxLen w n 0 3 (by unfold maxLen; omega)
  have hsz2 : (Builtin.zeroCells (Value.cells (.int .i64 0)) n ++ Builtin.zeroCells (Value.cells (.int .i64 0)) (grownCap w n 0 3 - n)).size = grownCap w n 0 3 * 1 := by
   rw [Array.size_append, zeroCells_size, zeroCells_size, hzs, ← Nat.add_mul, Nat.add_sub_cancel' hcap]
  have hblk : (w.drew.alloc (.cells (Builtin.zeroCells (Value.cells (.int .i64 0)) n ++ Builtin.zeroCells (Value.cells (.int .i64 0)) (grownCap w n 0 3 - n)) 3)).heap[w.heap.size]? = some (.cells (Builtin.zeroCells (Value.cells (.int .i64 0)) n ++ Builtin.zeroCells (Value.cells (.int .i64 0)) (grownCap w n 0 3 - n)) 3 (0, 0)) := heap_alloc_new w.drew _
  have hbel : Below w.heap.size w (w.drew.alloc (.cells (Builtin.zeroCells (Value.cells (.int .i64 0)) n ++ Builtin.zeroCells (Value.cells (.int .i64 0)) (grownCap w n 0 3 - n)) 3)) := ((Below.refl _ _).drew).alloc (Nat.le_refl _) _
  generalize (w.drew.alloc (.cells (Builtin.zeroCells (Value.cells (.int .i64 0)) n ++ Builtin.zeroCells (Value.cells (.int .i64 0)) (grownCap w n 0 3 - n)) 3)) = W at *
  generalize (Builtin.zeroCells (Value.cells (.int .i64 0)) n ++ Builtin.zeroCells (Value.cells (.int .i64 0)) (grownCap w n 0 3 - n)) = cs at *
  generalize grownCap w n 0 3 = cap at *
  have Hrun := Lib.hid hrun
  have Hsz := Lib.hid hsz2
  have Hblk := Lib.hid hblk
  have Hbel := Lib.hid hbel
  have hcm2 : cap ≤ 9223372036854775807 := by unfold maxLen at hcm; omega
  have Hcm := Lib.hid hcm
  clear hrun hsz2 hblk hbel hi hz hsize hby hzs hsz ht hcm
  go_enter Tryz.func84, Tryz.ntmps84
  go_wp2_with (at_builtin; refine Lib.wpList_append_run _ rfl (.tmp 20) (.tmp 21) _ _ rfl _ _ rfl rfl _ _ Hrun.out ?_)
  go_ret
  exact ⟨_, rfl, own_zero _ _ _ _ w.heap.size cap cs (Nat.le_refl _) Hblk.out Hcm.out Hsz.out, Hbel.out⟩

def total (rows : List (Value × Nat × List Value)) : Nat := (rows.map (·.2.1)).sum
def cellsOf (rows : List (Value × Nat × List Value)) : List Value := (rows.map (·.2.2)).flatten
theorem total_snoc (rows : List (Value × Nat × List Value)) (k : Nat) (h : k < rows.length) : total (rows.take (k + 1)) = total (rows.take k) + rows[k].2.1 := by
 unfold total; rw [take_snoc _ _ h]
 simp only [List.map_append, List.map_cons, List.map_nil, List.sum_append, List.sum_cons, List.sum_nil, Nat.add_zero]
theorem cellsOf_snoc (rows : List (Value × Nat × List Value)) (k : Nat) (h : k < rows.length) : cellsOf (rows.take (k + 1)) = cellsOf (rows.take k) ++ rows[k].2.2 := by
 unfold cellsOf; rw [take_snoc _ _ h]
 simp only [List.map_append, List.map_cons, List.map_nil, List.flatten_append, List.flatten_cons, List.flatten_nil, List.append_nil]
theorem sum_take_le (l : List Nat) (k : Nat) : (l.take k).sum ≤ l.sum := by
 induction l generalizing k with
 | nil => simp
 | cons a l ih => cases k with
  | zero => simp
  | succ k => simp only [List.take_succ_cons, List.sum_cons]; have := ih k; omega
theorem total_le (rows : List (Value × Nat × List Value)) (k : Nat) : total (rows.take k) ≤ total rows := by
 unfold total; rw [List.map_take]; exact sum_take_le _ _

set_option maxHeartbeats 800000 in
theorem concat_any (A : Option Addr) (m c : Nat) (rows : List (Value × Nat × List Value)) (w : World) (hm : rows.length = m) (hml : m ≤ 4611686018427387904) (ha : SlAt w A (rows.map (·.1)))
  (hrows : ∀ r ∈ rows, IsSl w 1 r.1 r.2.1 r.2.2) (h1 : ∀ r ∈ rows, ∀ u ∈ r.2.2, u.oneCell' = true) (ht : total rows * 8 ≤ 140737488355328) :
  Calls Tryz.prog 61 #[.slice A m c] w fun e w' => ∃ v, e = .returned v ∧ w'.ownsRow w.heap.size 3 1 v (total rows) (cellsOf rows) ∧ Below w.heap.size w w' := by
 have Hm := Lib.hid hm
 have Ha := Lib.hid ha
 have Hrows := Lib.hid hrows
 have H1 := Lib.hid h1
 have Ht := Lib.hid ht
 clear hm ha hrows h1 ht
 go_enter Tryz.func61, Tryz.ntmps61
 go_wp2_with fail
 go_loop [3, 11] (fun s i => ∃ k : Nat, k ≤ m ∧ i = .int .i64 k ∧ s = .int .i64 (total (rows.take k) : Nat)) (fun _ i => m - (intOf i).toNat)
 case atStart => exact ⟨0, Nat.zero_le _, rfl, rfl⟩
 case round =>
  obtain ⟨k, hk, rfl, rfl⟩ := hrel
  by_cases hlt : k < m
  ·have hkr : k < rows.length := by rw [Hm.out]; exact hlt
   obtain ⟨b, o, rfl, hcell⟩ := Ha.out.get (k := k) (by simpa using hkr)
   obtain ⟨B, cb, hv, hl1, hl2, hl3, hB, hB0⟩ := Hrows.out rows[k] (List.getElem_mem hkr)
   simp only [List.getElem_map] at hcell
   rw [hv] at hcell
   have Hs := Lib.hid (total_snoc rows k hkr)
   have htl := total_le rows (k + 1)
   rw [Hs.out] at htl
   have hb1 : total (rows.take k) + rows[k].2.1 ≤ 140737488355328 := by have := Ht.out; omega
   have hnn : 0 ≤ ((total (rows.take k) : Nat) : Int) + ((rows[k].2.1 : Nat) : Int) := by omega
   clear htl hB hB0 hl3 hv
   generalize total (rows.take k) = s0 at *
   generalize rows[k].2.1 = n0 at *
   go_wp2_with fail
   go_round
   case rel => exact ⟨k + 1, by omega, by go_num, by rw [Hs.out]; go_num⟩
   case measure => simp [intOf]; omega
  ·have hk2 : k = m := by omega
   have Hall : Hid (rows.take k = rows) := Lib.hid (List.take_of_length_le (by rw [Hm.out]; omega))
   rw [Hall.out]
   have htt : total rows ≤ 140737488355328 := by have := Ht.out; omega
   obtain ⟨T, hT⟩ : ∃ T, T = total rows := ⟨_, rfl⟩
   rw [← hT] at htt ⊢
   have HT := Lib.hid hT
   clear hT Hall hk2
   go_wp2_with fail
   refine (grow_any T _ (by rw [HT.out]; exact Ht.out)).mono ?_
   rintro e w1 ⟨v1, rfl, hown1, hb1⟩
   have Ho := Lib.hid hown1
   have Hb := Lib.hid hb1
   clear hown1 hb1
   go_wp2_with fail
   go_loopw [6, 27] (fun s i wr => ∃ k : Nat, k ≤ m ∧ i = .int .i64 k ∧ wr.ownsRow w.heap.size 3 1 s (total (rows.take k)) (cellsOf (rows.take k)) ∧ Below w.heap.size w wr) (fun _ i _ => m - (intOf i).toNat)
   case atStart => exact ⟨0, Nat.zero_le _, rfl, Ho.out, Hb.out⟩
   case round =>
    obtain ⟨k, hk, rfl, hown, hbr⟩ := hrel
    rename_i v3 _ _ _ _ _ _ _ _ _
    have How := Lib.hid hown
    have Hbr := Lib.hid hbr
    by_cases hlt : k < m
    ·have hkr : k < rows.length := by rw [Hm.out]; exact hlt
     obtain ⟨b, o, rfl, hcell⟩ := (Ha.out.below hbr).get (k := k) (by simpa using hkr)
     obtain ⟨B, cb, hv, hl1, hl2, hl3, hB, hB0⟩ := (Hrows.out rows[k] (List.getElem_mem hkr)).below hbr
     simp only [List.getElem_map] at hcell
     rw [hv] at hcell
     have Hs := Lib.hid (total_snoc rows k hkr)
     have Hcs := Lib.hid (cellsOf_snoc rows k hkr)
     have htl := total_le rows (k + 1)
     rw [Hs.out] at htl
     have hb1 : total (rows.take k) + rows[k].2.1 ≤ maxLen ∧ (total (rows.take k) + rows[k].2.1) * 8 ≤ 140737488355328 := by
      have := Ht.out; unfold maxLen; omega
     have HB := Lib.hid hB
     have HB0 := Lib.hid hB0
     have Hl3 := Lib.hid hl3
     have Hone := Lib.hid (H1.out rows[k] (List.getElem_mem hkr))
     have Hb1 := Lib.hid hb1
     clear htl hv hB hB0 hl3 hb1 hown hbr
     go_wp2_with (at_builtin; refine wpList_appb rfl (.tmp 31) (.tmp 32) _ rfl 3 _ 1 8 ty _ _ _ rfl How.out Hbr.out B _ cb _ rfl Hl3.out HB.out Hone.out HB0.out Hb1.out.1 Hb1.out.2 ?_; intro v4 w4 hown4 hb4 _ _; have How4 := Lib.hid hown4; have Hb4 := Lib.hid hb4; clear hown4 hb4)
     go_roundw
     case rel => exact ⟨k + 1, by omega, by go_num, by rw [Hs.out, Hcs.out]; exact How4.out, Hb4.out⟩
     case measure => simp [intOf]; omega
    ·have Hall : Hid (rows.take k = rows) := Lib.hid (List.take_of_length_le (by rw [Hm.out]; omega))
     go_wp2_with fail
     go_ret
     exact ⟨_, rfl, by have := How.out; rw [Hall.out] at this; exact this, Hbr.out⟩
end Go.Proofs.YthpdcnjaodjjmaaGreat.ConcatI

/- reliquaryref: Sizes, FixedLengths: the walks. -/
namespace Go.Proofs.YthpdcnjaodjjmaaGreat.Unp
open Go Go.RowKit Go.Proofs.YthpdcnjaodjjmaaGreat Go.Proofs.YthpdcnjaodjjmaaGreat.Bits
open Go.Proofs.YthpdcnjaodjjmaaGreat.Inf hiding then_ok
open Go.Proofs.YthpdcnjaodjjmaaGreat.Code (natV nats)
set_option linter.unusedVariables false

theorem ty2 : SliceTy Tryz.prog 72 78 (.agg #[.int .i64 0, .int .i64 0]) 2 16 := ⟨Tryz.underlying72, by kernel_rfl, rfl, by omega⟩
theorem run_min2' {P : Program} (ts : Array TypeId) (t : TypeId) (a b : Int) (w : World) :
  (Builtin.min_ ts t #[.int .i64 a, .int .i64 b]).run P w = .ok (.int .i64 (min a b)) w := by
 simp [Builtin.min_, Builtin.min2]
 (repeat' split) <;> omega
def bL : List Nat := [0, 0, 0, 0, 0, 0, 0, 0, 1, 1, 1, 1, 2, 2, 2, 2, 3, 3, 3, 3, 4, 4, 4, 4, 5, 5, 5, 5]
theorem bL_get : ∀ k < 28, bL.getD k 0 = k / 4 - 1 := by decide
set_option maxRecDepth 100000 in
set_option maxHeartbeats 3000000 in
theorem sizes_any (w : World) : Calls Tryz.prog 38 #[] w fun e w' => (∃ A a B b, e = .returned (.tuple #[.slice A 29 a, .slice B 30 b]) ∧ KAt w' 78 A (sameL.flatMap exC) ∧ KAt w' 78 B (farL.flatMap exC)) ∧ Below w.heap.size w w' := by
 go_enter Tryz.func38, Tryz.ntmps38
 go_wp2_with fail
 obtain ⟨w1, hw1⟩ : ∃ x, x = w.alloc (.cells #[.int .i64 0, .int .i64 0, .int .i64 0, .int .i64 0, .int .i64 0, .int .i64 0, .int .i64 0, .int .i64 0, .int .i64 1, .int .i64 1, .int .i64 1, .int .i64 1, .int .i64 2, .int .i64 2, .int .i64 2, .int .i64 2, .int .i64 3, .int .i64 3, .int .i64 3, .int .i64 3, .int .i64 4, .int .i64 4, .int .i64 4, .int .i64 4, .int .i64 5, .int .i64 5, .int .i64 5, .int .i64 5] 3) := ⟨_, rfl⟩
 rw [← hw1]
 have HL : Hid (Blk w1 w.heap.size 3 (nats bL)) := Lib.hid (by rw [hw1]; exact Blk.new w _ _)
 have Hb1 : Hid (Below w.heap.size w w1) := Lib.hid (by rw [hw1]; exact (Below.refl _ _).alloc (Nat.le_refl _) _)
 clear hw1
 go_loopw [0, 2, 9] (fun pl pf vi wr => ∃ k : Nat, k ≤ 28 ∧ vi = .int .i64 (k : Int) ∧ pf = .int .i64 (fromS k : Int) ∧ wr.ownsRow w1.heap.size 78 2 pl k ((sameL.take k).flatMap exC) ∧ Below w1.heap.size w1 wr) (fun _ _ vi _ => 28 - (intOf vi).toNat)
 case atStart => exact ⟨0, Nat.zero_le _, rfl, rfl, World.ownsRow_nil .., Below.refl _ _⟩
 case round =>
  obtain ⟨k, hk, rfl, rfl, ho, hb⟩ := hrel
  have HO := Lib.hid ho
  have Hb := Lib.hid hb
  clear ho hb
  by_cases hlt : k < 28
  ·obtain ⟨h1, h2⟩ := sameL_get k hlt
   have hcell : wr.cell? ⟨w.heap.size, k, none⟩ = some (.int .i64 ((k / 4 - 1 : Nat) : Int)) := by
    rw [(HL.out.below Hb.out HL.out.lt).cell, Code.nats_get bL k (by show k < 28; exact hlt)]
    have := bL_get k hlt
    rw [List.getD_eq_getElem?_getD, List.getElem?_eq_getElem (show k < bL.length from hlt)] at this
    rw [show bL[k]'(show k < bL.length from hlt) = k / 4 - 1 from this]
   obtain ⟨b, hb⟩ : ∃ b, b = k / 4 - 1 := ⟨_, rfl⟩
   rw [← hb] at h1 hcell
   have hnx := fromS_next k
   rw [← hb] at hnx
   obtain ⟨f, hf⟩ : ∃ f, f = fromS k := ⟨_, rfl⟩
   rw [← hf] at h1 h2 hnx ⊢
   have hb8 : b ≤ 8 := by omega
   have hp2 : 2 ^ b ≤ 256 := Nat.le_trans (Nat.pow_le_pow_right (by omega) hb8) (by decide)
   have hpi : ((2 : Int) ^ b) = ((2 ^ b : Nat) : Int) := by simp
   have hsh : IntKind.i64.wrap ((2 : Int) ^ b) = (2 : Int) ^ b := by
    rw [hpi]
    exact IntWalk.i64_in _ (by omega)
   have hsm : IntKind.i64.wrap ((f : Int) + (2 : Int) ^ b) = ((f + 2 ^ b : Nat) : Int) := by
    rw [hpi, ← Int.natCast_add]
    exact IntWalk.i64_in _ (by omega)
   have H1 := Lib.hid h1
   have Hnx := Lib.hid hnx
   have hba : Below wr.heap.size wr (wr.alloc (.cells #[.int .i64 (f : Int), .int .i64 (b : Int)] 78)) := (Below.refl _ _).alloc (Nat.le_refl _) _
   have HO2 := Lib.hid (own_keep HO.out hba)
   have Hb2 := Lib.hid (Hb.out.trans (hba.mono Hb.out.size))
   have HZ : Hid (SlAt (wr.alloc (.cells #[.int .i64 (f : Int), .int .i64 (b : Int)] 78)) (some ⟨wr.heap.size, 0, none⟩) [.int .i64 (f : Int), .int .i64 (b : Int)]) := Lib.hid (SlAt.of_heap (heap_alloc_new _ _) rfl)
   clear h1 hnx hf hb hba hpi
   go_wp2_with (at_builtin; refine wpList_app _ rfl (.tmp 13) (.tmp 17) _ rfl w1.heap.size 78 _ 2 16 ty2 _ k ((sameL.take k).flatMap exC) rfl HO2.out (some ⟨wr.heap.size, 0, none⟩) 1 1 [.int .i64 (f : Int), .int .i64 (b : Int)] rfl rfl HZ.out (by simp [Value.oneCell']) (by simp) (by unfold maxLen; omega) (by omega) Hb2.out.size ?_; intro v8 w8 hown8 hg8 _; have Hb8 := Lib.hid (own_below HO2.out hg8 Hb2.out Hb2.out.size); have Ho8 := Lib.hid hown8; clear hown8 hg8)
   go_roundw
   case rel => exact ⟨k + 1, by omega, by go_num, by rw [Hnx.out]; simp, by
    have h : sameL.take (k + 1) = sameL.take k ++ [(f, b)] := by
     have hk29 : k < sameL.length := by show k < 29; omega
     rw [take_snoc _ _ hk29]
     congr 2
     have := H1.out
     rw [List.getD_eq_getElem?_getD, List.getElem?_eq_getElem hk29] at this
     exact this
    rw [h, List.flatMap_append]
    exact Ho8.out, Hb8.out⟩
   case measure => simp [intOf]; omega
  ·obtain rfl : k = 28 := by omega
   have hba : Below wr.heap.size wr (wr.alloc (.cells #[.int .i64 258, .int .i64 0] 78)) := (Below.refl _ _).alloc (Nat.le_refl _) _
   have HO2 := Lib.hid (own_keep HO.out hba)
   have Hb2 := Lib.hid (Hb.out.trans (hba.mono Hb.out.size))
   have HZ : Hid (SlAt (wr.alloc (.cells #[.int .i64 258, .int .i64 0] 78)) (some ⟨wr.heap.size, 0, none⟩) [.int .i64 258, .int .i64 0]) := Lib.hid (SlAt.of_heap (heap_alloc_new _ _) rfl)
   clear hba hlt hk
   go_wp2_with (at_builtin; refine wpList_app _ rfl (.tmp 24) (.tmp 26) _ rfl w1.heap.size 78 _ 2 16 ty2 _ 28 ((sameL.take 28).flatMap exC) rfl HO2.out (some ⟨wr.heap.size, 0, none⟩) 1 1 [.int .i64 258, .int .i64 0] rfl rfl HZ.out (by simp [Value.oneCell']) (by simp) (by unfold maxLen; omega) (by omega) Hb2.out.size ?_; intro v8 w8 hown8 hg8 _; have Hb8 := Lib.hid (own_below HO2.out hg8 Hb2.out Hb2.out.size); have Ho8 := Lib.hid hown8; clear hown8 hg8)
   obtain ⟨A8, c8, rfl, _, _, hk8, _⟩ := own_kat Ho8.out
   have HSa : Hid (KAt w8 78 A8 (sameL.flatMap exC)) := Lib.hid hk8
   have Hb9 := Lib.hid (Hb1.out.trans (Hb8.out.mono Hb1.out.size))
   clear hk8 Ho8 Hb8 HO2 Hb2 HZ HO Hb HL Hb1
   go_loopw [1, 2, 28] (fun pl pf vi wr => ∃ k : Nat, k ≤ 30 ∧ vi = .int .i64 (k : Int) ∧ pf = .int .i64 (fromF k : Int) ∧ wr.ownsRow w8.heap.size 78 2 pl k ((farL.take k).flatMap exC) ∧ Below w8.heap.size w8 wr) (fun _ _ vi _ => 30 - (intOf vi).toNat)
   case atStart => exact ⟨0, Nat.zero_le _, rfl, rfl, World.ownsRow_nil .., Below.refl _ _⟩
   case round =>
    obtain ⟨k, hk, rfl, rfl, ho, hb⟩ := hrel
    have HO := Lib.hid ho
    have Hb := Lib.hid hb
    clear ho hb
    by_cases hlt : k < 30
    ·obtain ⟨h1, h2⟩ := farL_get k hlt
     obtain ⟨b, hb⟩ : ∃ b, b = k / 2 - 1 := ⟨_, rfl⟩
     rw [← hb] at h1
     have hnx := fromF_next k
     rw [← hb] at hnx
     obtain ⟨f, hf⟩ : ∃ f, f = fromF k := ⟨_, rfl⟩
     rw [← hf] at h1 h2 hnx ⊢
     have hb8 : b ≤ 14 := by omega
     have hp2 : 2 ^ b ≤ 16384 := Nat.le_trans (Nat.pow_le_pow_right (by omega) hb8) (by decide)
     have hpi : ((2 : Int) ^ b) = ((2 ^ b : Nat) : Int) := by simp
     have hsh : IntKind.i64.wrap ((2 : Int) ^ b) = (2 : Int) ^ b := by
      rw [hpi]
      exact IntWalk.i64_in _ (by omega)
     have hsm : IntKind.i64.wrap ((f : Int) + (2 : Int) ^ b) = ((f + 2 ^ b : Nat) : Int) := by
      rw [hpi, ← Int.natCast_add]
      exact IntWalk.i64_in _ (by omega)
     obtain ⟨y, hy⟩ : ∃ y : Int, y = (k : Int) / 2 - 1 := ⟨_, rfl⟩
     obtain ⟨x, hx⟩ : ∃ x : Nat, x = min 1 (k / 4) := ⟨_, rfl⟩
     have hmin : ∀ (ts : Array TypeId) (ty : TypeId) (W : World), (Builtin.min_ ts ty #[.int .i64 1, .int .i64 ((k : Int) / 4)]).run Tryz.prog W = .ok (.int .i64 (x : Int)) W := fun ts ty W => by rw [run_min2', show min (1 : Int) ((k : Int) / 4) = (x : Int) by omega]
     have hyw : IntKind.i64.wrap ((k : Int) / 2 - 1) = y := by rw [← hy]; exact IntWalk.i64_in _ (by omega)
     have hx2 : x < 2 := by omega
     have hx2' : (x : Int) < 2 := by omega
     have hcell : (wr.alloc (.cells #[.int .i64 0, .int .i64 y] 3)).cell? ⟨wr.heap.size, x, none⟩ = some (.int .i64 (b : Int)) := by
      rw [(Blk.new wr 3 #[.int .i64 0, .int .i64 y]).cell]
      rcases (by omega : x = 0 ∨ x = 1) with h | h
      ·subst h
       rw [show b = 0 by omega]; rfl
      ·subst h
       rw [show (b : Int) = y by omega]; rfl
     have H1 := Lib.hid h1
     have Hnx := Lib.hid hnx
     have hb0 : Below wr.heap.size wr (wr.alloc (.cells #[.int .i64 0, .int .i64 y] 3)) := (Below.refl _ _).alloc (Nat.le_refl _) _
     have HOx := Lib.hid (own_keep HO.out hb0)
     have Hbx := Lib.hid (Hb.out.trans (hb0.mono Hb.out.size))
     have hba : Below (wr.alloc (.cells #[.int .i64 0, .int .i64 y] 3)).heap.size (wr.alloc (.cells #[.int .i64 0, .int .i64 y] 3)) ((wr.alloc (.cells #[.int .i64 0, .int .i64 y] 3)).alloc (.cells #[.int .i64 (f : Int), .int .i64 (b : Int)] 78)) := (Below.refl _ _).alloc (Nat.le_refl _) _
     have HO2 := Lib.hid (own_keep HOx.out hba)
     have Hb2 := Lib.hid (Hbx.out.trans (hba.mono Hbx.out.size))
     have HZ : Hid (SlAt ((wr.alloc (.cells #[.int .i64 0, .int .i64 y] 3)).alloc (.cells #[.int .i64 (f : Int), .int .i64 (b : Int)] 78)) (some ⟨(wr.alloc (.cells #[.int .i64 0, .int .i64 y] 3)).heap.size, 0, none⟩) [.int .i64 (f : Int), .int .i64 (b : Int)]) := Lib.hid (SlAt.of_heap (heap_alloc_new _ _) rfl)
     rw [World.size_alloc] at HZ
     clear h1 hnx hf hb hba hpi hy hx hb0
     go_wp2_with (at_builtin; refine wpList_app _ rfl (.tmp 40) (.tmp 44) _ rfl w8.heap.size 78 _ 2 16 ty2 _ k ((farL.take k).flatMap exC) rfl HO2.out (some ⟨wr.heap.size + 1, 0, none⟩) 1 1 [.int .i64 (f : Int), .int .i64 (b : Int)] rfl rfl HZ.out (by simp [Value.oneCell']) (by simp) (by unfold maxLen; omega) (by omega) Hb2.out.size ?_; intro v7 w7 hown8 hg8 _; have Hb7 := Lib.hid (own_below HO2.out hg8 Hb2.out Hb2.out.size); have Ho7 := Lib.hid hown8; clear hown8 hg8)
     go_roundw
     case rel => exact ⟨_, _, _, _, _, _, _, _, _, _, _, _, _, _, _, _, _, _, _, _, _, _, _, _, _, _, _, ⟨k + 1, by omega, by go_num, by rw [Hnx.out]; simp, by
      have h : farL.take (k + 1) = farL.take k ++ [(f, b)] := by
       have hk29 : k < farL.length := by show k < 30; omega
       rw [take_snoc _ _ hk29]
       congr 2
       have := H1.out
       rw [List.getD_eq_getElem?_getD, List.getElem?_eq_getElem hk29] at this
       exact this
      rw [h, List.flatMap_append]
      exact Ho7.out, Hb7.out⟩, rfl⟩
     case measure => simp [intOf]; omega
    ·obtain rfl : k = 30 := by omega
     obtain ⟨B8, d8, rfl, _, _, hk9, _⟩ := own_kat HO.out
     have HFa : Hid (KAt wr 78 B8 (farL.flatMap exC)) := Lib.hid hk9
     clear hk9
     go_wp2_with fail
     go_ret2
     exact ⟨⟨A8, c8, B8, d8, rfl, HSa.out.below Hb.out, HFa.out⟩, Hb9.out.trans (Hb.out.mono Hb9.out.size)⟩
theorem issl_of {w : World} {A : Option Addr} {n c : Nat} {cs : List Value} (h : SlAt w A cs) (hn : cs.length = n) (hnc : n ≤ c) (hc : c ≤ maxLen) : IsSl w 1 (.slice A n c) n cs := by
 refine ⟨A, c, rfl, hnc, hc, by rw [hn, Nat.mul_one], h, fun h0 => ?_⟩
 rcases Nat.eq_zero_or_pos n with h1 | h1
 ·exact h1
 ·obtain ⟨b, o, e, _⟩ := h (by omega)
  rw [h0] at e; cases e
theorem fixedA_eq : List.replicate 144 8 ++ (List.replicate 112 9 ++ (List.replicate 24 7 ++ List.replicate 8 8)) = fixedA := by decide +kernel
set_option maxRecDepth 100000 in
set_option maxHeartbeats 3000000 in
theorem fixedL_any (w : World) : Calls Tryz.prog 36 #[] w fun e w' => (∃ A a B b, e = .returned (.tuple #[.slice A 288 a, .slice B 32 b]) ∧ SlAt w' A (fixedA.map natV) ∧ SlAt w' B (fixedB.map natV)) ∧ Below w.heap.size w w' := by
 have rp : ∀ (k v : Nat) (u : World), 1 ≤ k → k ≤ 1000 → Calls Tryz.prog 62 #[.slice (some ⟨u.heap.size, 0, none⟩) 1 1, .int .i64 (k : Int)] (u.alloc (.cells #[.int .i64 (v : Int)] 3)) fun e w' => (∃ A', e = .returned (.slice A' k k) ∧ SlAt w' A' ((List.replicate k v).map natV)) ∧ Below u.heap.size u w' := fun k v u h1 h2 =>
  (repeat1_any (some ⟨u.heap.size, 0, none⟩) 1 k (v : Int) (u.alloc (.cells #[.int .i64 (v : Int)] 3)) (SlAt.of_heap (heap_alloc_new _ _) rfl) h1 h2).mono fun e w' ⟨⟨A', he, hs⟩, hb⟩ =>
   ⟨⟨A', he, by rw [List.map_replicate]; exact hs⟩, ((Below.refl u.heap.size u).alloc (Nat.le_refl _) _).trans (hb.mono (by simp))⟩
 have Rp := Lib.hid rp
 clear rp
 go_enter Tryz.func36, Tryz.ntmps36
 have R1 := Lib.hid (Rp.out 144 8 w (by omega) (by omega))
 go_wp2_with fail
 refine (R1.out).mono ?_
 rintro e w1 ⟨⟨A1, rfl, hs1⟩, hb1⟩
 have S1 := Lib.hid hs1
 have B1 := Lib.hid hb1
 clear hs1 hb1 R1
 have R2 := Lib.hid (Rp.out 112 9 w1 (by omega) (by omega))
 go_wp2_with fail
 refine (R2.out).mono ?_
 rintro e w2 ⟨⟨A2, rfl, hs2⟩, hb2⟩
 have S2 := Lib.hid hs2
 have S12 := Lib.hid (SlAt.below S1.out hb2)
 have B2 := Lib.hid (B1.out.trans (hb2.mono B1.out.size))
 clear hs2 hb2 R2 S1 B1
 have R3 := Lib.hid (Rp.out 24 7 w2 (by omega) (by omega))
 go_wp2_with fail
 refine (R3.out).mono ?_
 rintro e w3 ⟨⟨A3, rfl, hs3⟩, hb3⟩
 have S3 := Lib.hid hs3
 have S13 := Lib.hid (SlAt.below S12.out hb3)
 have S23 := Lib.hid (SlAt.below S2.out hb3)
 have B3 := Lib.hid (B2.out.trans (hb3.mono B2.out.size))
 clear hs3 hb3 R3 S12 S2 B2
 have R4 := Lib.hid (Rp.out 8 8 w3 (by omega) (by omega))
 go_wp2_with fail
 refine (R4.out).mono ?_
 rintro e w4 ⟨⟨A4, rfl, hs4⟩, hb4⟩
 have B4 := Lib.hid (B3.out.trans (hb4.mono B3.out.size))
 have hba : Below w4.heap.size w4 (w4.alloc (.cells #[.slice A1 144 144, .slice A2 112 112, .slice A3 24 24, .slice A4 8 8] 23)) := (Below.refl _ _).alloc (Nat.le_refl _) _
 have C := Lib.hid (ConcatI.concat_any (some ⟨w4.heap.size, 0, none⟩) 4 4 [(.slice A1 144 144, 144, (List.replicate 144 8).map natV), (.slice A2 112 112, 112, (List.replicate 112 9).map natV), (.slice A3 24 24, 24, (List.replicate 24 7).map natV), (.slice A4 8 8, 8, (List.replicate 8 8).map natV)] _ rfl (by omega) (SlAt.of_heap (heap_alloc_new w4 (.cells #[.slice A1 144 144, .slice A2 112 112, .slice A3 24 24, .slice A4 8 8] 23)) rfl) (fun r hr => by
   simp only [List.mem_cons, List.not_mem_nil, or_false] at hr
   rcases hr with rfl | rfl | rfl | rfl
   ·exact issl_of ((S13.out.below hb4).below hba) (by rw [List.length_map, List.length_replicate]) (Nat.le_refl _) (by unfold maxLen; omega)
   ·exact issl_of ((S23.out.below hb4).below hba) (by rw [List.length_map, List.length_replicate]) (Nat.le_refl _) (by unfold maxLen; omega)
   ·exact issl_of ((S3.out.below hb4).below hba) (by rw [List.length_map, List.length_replicate]) (Nat.le_refl _) (by unfold maxLen; omega)
   ·exact issl_of (SlAt.below hs4 hba) (by rw [List.length_map, List.length_replicate]) (Nat.le_refl _) (by unfold maxLen; omega))
  (fun r hr u hu => by
   simp only [List.mem_cons, List.not_mem_nil, or_false] at hr
   rcases hr with rfl | rfl | rfl | rfl <;> (obtain ⟨x, _, rfl⟩ := List.mem_map.1 hu; rfl)) (by simp [ConcatI.total]))
 have Bb := Lib.hid (B4.out.trans (hba.mono B4.out.size))
 have Ht : Hid (ConcatI.total [(.slice A1 144 144, 144, (List.replicate 144 8).map natV), (.slice A2 112 112, 112, (List.replicate 112 9).map natV), (.slice A3 24 24, 24, (List.replicate 24 7).map natV), (.slice A4 8 8, 8, (List.replicate 8 8).map natV)] = 288) := Lib.hid (by simp [ConcatI.total])
 have Hc : Hid (ConcatI.cellsOf [(.slice A1 144 144, 144, (List.replicate 144 8).map natV), (.slice A2 112 112, 112, (List.replicate 112 9).map natV), (.slice A3 24 24, 24, (List.replicate 24 7).map natV), (.slice A4 8 8, 8, (List.replicate 8 8).map natV)] = fixedA.map natV) := Lib.hid (by
  rw [← fixedA_eq, List.map_append, List.map_append, List.map_append]
  simp only [ConcatI.cellsOf, List.map_cons, List.map_nil, List.flatten_cons, List.flatten_nil, List.append_nil])
 rw [Ht.out, Hc.out] at C
 clear hs4 hb4 R4 hba S13 S23 S3 B3 B4 Ht Hc
 go_wp2_with fail
 refine (C.out).mono ?_
 rintro e w5 ⟨v5, rfl, ho5, hb5⟩
 obtain ⟨A5, c5, rfl, _, _, s5, _⟩ := own_slat ho5
 have S5 := Lib.hid s5
 have B5 := Lib.hid (Bb.out.trans (hb5.mono Bb.out.size))
 clear s5 ho5 hb5 C Bb
 have R6 := Lib.hid (Rp.out 32 5 w5 (by omega) (by omega))
 go_wp2_with fail
 refine (R6.out).mono ?_
 rintro e w6 ⟨⟨A6, rfl, hs6⟩, hb6⟩
 have S6 := Lib.hid hs6
 have S56 := Lib.hid (SlAt.below S5.out hb6)
 have B6 := Lib.hid (B5.out.trans (hb6.mono B5.out.size))
 clear hs6 hb6 R6
 go_wp2_with fail
 go_ret2
 exact ⟨⟨A5, c5, A6, 32, rfl, S56.out, S6.out⟩, B6.out⟩
end Go.Proofs.YthpdcnjaodjjmaaGreat.Unp
