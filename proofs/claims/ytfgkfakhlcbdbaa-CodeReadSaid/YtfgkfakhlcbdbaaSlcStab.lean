/- sort.stable_func, sort.SliceStable at rows of places. -/
import Derived.Test.YtfgkfakhlcbdbaaSlcSym3
namespace Go.Proofs.Ytfgkfakhlcbdbaa.Slc
open Go Go.RowKit Go.Proofs.Ytfgkfakhlcbdbaa Go.Proofs.Ytfgkfakhlcbdbaa.SP
set_option linter.unusedVariables false

theorem Ahead.len {bs : Nat} {s0 s : List TE} (h : Ahead ekey bs s0 s) : s.Perm s0 := by
  have := (h [] [] (Ch.nil ekey bs)).perm
  simpa using this
set_option maxRecDepth 100000 in
set_option maxHeartbeats 8000000 in
theorem stable_any (g gv N cap : Nat) (rest : List Value) (d : List TE) (w : World) (h : PkAt w g rest d) (hv : Var w g gv N cap) (hN : d.length = N) (hN2 : N ≤ 1000000) (hr : Rise d) :
    Calls Try.prog 47 #[.agg #[lessV gv, swapV g N cap], .int .i64 (N : Int)] w fun e w' => e = .returned (.tuple #[]) ∧ (∃ d', PkAt w' g rest d' ∧ d'.Perm d ∧ d'.Pairwise (lexP ekey)) ∧ w.grownBy w' (some g) := by
  have H := Lib.hid (Mm.start h hv hN hN2)
  have HN := Lib.hid hN
  have Hr := Lib.hid hr
  clear h hN hr hv
  go_enter Try.func47, Try.ntmps47
  go_wp2_with fail
  generalize hw1 : w.alloc (.cells #[lessV gv, swapV g N cap] 94) = w1 at *
  generalize hbx : w.heap.size = bx at *
  have Hw1 := Lib.hid hw1
  clear hw1 hbx
  go_loopw [5, 6] (fun av bv wr => ∃ (a : Nat) (S0 S D : List TE), av = .int .i64 (a : Int) ∧ bv = .int .i64 ((a : Int) + 20) ∧ d = S0 ++ D ∧ S.length = a ∧ S.length + D.length = N ∧ Ahead ekey 20 S0 S ∧ Mm w1 wr bx g gv N cap rest (S ++ D)) (fun _ bv _ => N + 20 - (intOf bv).toNat)
  case atStart => exact ⟨0, [], [], d, rfl, rfl, rfl, rfl, by simpa using HN.out, Ahead.nil ekey 20, H.out⟩
  case round =>
    obtain ⟨a, S0, S, D, rfl, rfl, hd, hS, hSD, hah, hpk⟩ := hrel
    have Hd := Lib.hid hd
    have HS := Lib.hid hS
    have HSD := Lib.hid hSD
    have Hah := Lib.hid hah
    have c0 := hpk.c0
    have c1 := hpk.c1
    have Hpk := Lib.hid hpk
    have haN : a ≤ N := by omega
    have HrD : Hid (Rise D) := Lib.hid (Rise.right (hd ▸ Hr.out))
    clear hd hS hSD hah hpk
    by_cases hlt : a + 20 ≤ N
    · have hD : D = D.take 20 ++ D.drop 20 := (List.take_append_drop _ _).symm
      have l1 : (D.take 20).length = 20 := by rw [List.length_take]; have := HSD.out; have := HS.out; omega
      have HD := Lib.hid hD
      have Hl1 := Lib.hid l1
      generalize D.take 20 = D1 at *
      generalize D.drop 20 = D2 at *
      clear hD l1
      have Hc := Lib.hid (insertion_any g gv N cap a (a + 20) rest S D1 D2 wr (by have := Hpk.out.pk; rw [HD.out] at this; rw [List.append_assoc]; exact this) Hpk.out.var HS.out (by rw [Hl1.out]) (Rise.left (HD.out ▸ HrD.out)) (by have h1 := congrArg List.length HD.out; have := HSD.out; simp only [List.length_append] at h1 ⊢; omega) hN2)
      have e1 : (a : Int) + 20 = ((a + 20 : Nat) : Int) := by omega
      obtain ⟨b, hb⟩ : ∃ b, a + 20 = b := ⟨_, rfl⟩
      rw [hb] at Hc e1 hlt
      have Hb := Lib.hid hb
      rw [e1]
      have hle : (b : Int) ≤ (N : Int) := by omega
      clear hb e1
      go_wp2_with fail
      refine (Hc.out).mono ?_
      rintro e w2 ⟨rfl, ⟨S', hp2, hpe, hso⟩, hg2⟩
      have Hp2 := Lib.hid (Hpk.out.more hg2 hp2 (by have a1 := hpe.length_eq; have a6 := congrArg List.length HD.out; simp only [List.length_append] at a1 a6 ⊢; omega))
      have Hpe := Lib.hid hpe
      have Hso := Lib.hid hso
      clear hp2 hg2 hpe hso
      go_wp2_with fail
      go_roundw
      case rel =>
        have a1 := Hpe.out.length_eq; have a2 := Hl1.out; have a3 := HS.out; have a4 := Hb.out; have a5 := HSD.out; have a6 := congrArg List.length HD.out
        rw [List.length_append] at a6
        exact ⟨b, S0 ++ D1, S ++ S', D2, rfl, rfl, by rw [Hd.out, HD.out, List.append_assoc], by rw [List.length_append]; omega, by rw [List.length_append]; omega, Ahead.more ekey Hah.out (by omega) Hpe.out Hso.out, Hp2.out⟩
      case measure => have := Hb.out; simp [intOf]; omega
    · have Hc := Lib.hid (insertion_any g gv N cap a N rest S D [] wr (by rw [List.append_nil]; exact Hpk.out.pk) Hpk.out.var HS.out (by have := HSD.out; have := HS.out; omega) HrD.out (by have := HSD.out; simp only [List.length_append, List.length_nil]; omega) hN2)
      have hle : ¬ ((a : Int) + 20 ≤ (N : Int)) := by omega
      go_wp2_with fail
      refine (Hc.out).mono ?_
      rintro e w2 ⟨rfl, ⟨S', hp2, hpe, hso⟩, hg2⟩
      rw [List.append_nil] at hp2
      have Hp2 := Lib.hid (Hpk.out.more hg2 hp2 (by have a1 := hpe.length_eq; simp only [List.length_append] at a1 ⊢; omega))
      have Hch : Hid (Ch ekey 20 d (S ++ S')) := Lib.hid (by rw [Hd.out]; exact Hah.out _ _ (.last D S' (by rw [hpe.length_eq]; have := HSD.out; have := HS.out; omega) hpe hso))
      clear hp2 hg2 hpe hso Hc
      go_wp2_with fail
      clear Hd HS HSD Hah Hpk haN HrD hle c0 c1
      go_loopw [4] (fun bv wr => ∃ (bs : Nat) (d' : List TE), bv = .int .i64 (bs : Int) ∧ 1 ≤ bs ∧ bs ≤ 2000000 ∧ Ch ekey bs d d' ∧ Mm w1 wr bx g gv N cap rest d') (fun bv _ => N - (intOf bv).toNat)
      case atStart => exact ⟨20, _, rfl, by omega, by omega, Hch.out, Hp2.out⟩
      case round =>
        obtain ⟨bs, d', rfl, hb1, hb2, hch, hpk⟩ := hrel
        have Hch := Lib.hid hch
        have c0 := hpk.c0
        have c1 := hpk.c1
        have Hpk := Lib.hid hpk
        have Hlen : Hid (d'.length = N) := Lib.hid (by rw [hch.perm.length_eq]; exact HN.out)
        clear hch hpk
        by_cases hbN : bs < N
        · go_wp2_with fail
          go_loopw [5, 6] (fun av bv wr => ∃ (a b : Nat) (S0 S D0 D : List TE), av = .int .i64 (a : Int) ∧ bv = .int .i64 (b : Int) ∧ b = a + 2 * bs ∧ d = S0 ++ D0 ∧ S.length = a ∧ S.length + D.length = N ∧ Ahead ekey (2 * bs) S0 S ∧ Ch ekey bs D0 D ∧ Mm w1 wr bx g gv N cap rest (S ++ D)) (fun _ bv _ => N + 2 * bs - (intOf bv).toNat)
          case atStart => exact ⟨0, 2 * bs, [], [], d, d', rfl, int_eq (by omega), by omega, rfl, rfl, by simpa using Hlen.out, Ahead.nil ekey _, Hch.out, Hpk.out⟩
          case round =>
            obtain ⟨a, b, S0, S, D0, D, rfl, rfl, hb, hd, hS, hSD, hah, hch, hpk⟩ := hrel
            have Hd := Lib.hid hd
            have HS := Lib.hid hS
            have HSD := Lib.hid hSD
            have Hah := Lib.hid hah
            have Hchd := Lib.hid hch
            have c0 := hpk.c0
            have c1 := hpk.c1
            have Hpk3 := Lib.hid hpk
            have HB := Lib.hid hb
            have haN : a ≤ N := by omega
            have HrD : Hid (Rise D0) := Lib.hid (Rise.right (hd ▸ Hr.out))
            clear hd hS hSD hah hch hpk hb
            by_cases hlt : b ≤ N
            · obtain ⟨s0, s, r0, r, q1, q2, q3, q4, q5, q6⟩ := Ch.split ekey Hchd.out (by have := HB.out; have := HSD.out; have := HS.out; omega) (by omega)
              obtain ⟨t0, t, u0, u, y1, y2, y3, y4, y5, y6⟩ := Ch.split ekey q6 (by have := HB.out; have := HSD.out; have := HS.out; have h1 := congrArg List.length q2; rw [List.length_append] at h1; omega) (by omega)
              subst q1 q2 y1 y2
              obtain ⟨m, hm⟩ : ∃ m, a + bs = m := ⟨_, rfl⟩
              have em : (a : Int) + (bs : Int) = (m : Int) := by omega
              have Hm := Lib.hid hm
              have Hl1 := Lib.hid q3
              have Hl2 := Lib.hid y3
              have Hp0 := Lib.hid (And.intro q4 y4)
              have Hch6 := Lib.hid y6
              have Hc := Lib.hid (sym_any (s.length + t.length) g gv N cap a m b rest S s t u wr (Nat.le_refl _) (by have := Hpk3.out.pk; simpa only [List.append_assoc] using this) Hpk3.out.var HS.out (by rw [q3]; exact hm) (by rw [y3]; have := HB.out; omega) (by omega) (by omega) q5 y5
                (Rise.cross (a := s0) (b := t0) (by have := HrD.out; rw [← List.append_assoc] at this; exact Rise.left this) q4 y4) (by have := HSD.out; simp only [List.length_append] at this ⊢; omega) hN2)
              have hmN : m ≤ N := by have := HB.out; omega
              clear hm q3 q4 q5 q6 y3 y4 y5 y6
              go_wp2_with fail
              refine (Hc.out).mono ?_
              rintro e w4 ⟨rfl, ⟨M, hp4, hpe, hso⟩, hg4⟩
              have Hp4 := Lib.hid (Hpk3.out.more hg4 hp4 (by have a1 := hpe.length_eq; simp only [List.length_append] at a1 ⊢; omega))
              have Hpe := Lib.hid hpe
              have Hso := Lib.hid hso
              clear hp4 hg4 hpe hso
              go_wp2_with fail
              go_roundw
              case rel =>
                have a1 := Hpe.out.length_eq; have a2 := Hl1.out; have a3 := HS.out; have a4 := HB.out; have a5 := HSD.out; have a6 := Hl2.out
                rw [List.length_append] at a1
                simp only [List.length_append] at a5
                exact ⟨b, b + 2 * bs, S0 ++ (s0 ++ t0), S ++ M, u0, u, rfl, int_eq (by omega), rfl, by rw [Hd.out]; simp only [List.append_assoc], by rw [List.length_append]; omega, by rw [List.length_append]; omega, Ahead.more ekey Hah.out (by omega) (Hpe.out.trans (Hp0.out.1.append Hp0.out.2)) Hso.out, Hch6.out, Hp4.out⟩
              case measure => have := HB.out; simp [intOf]; omega
            · obtain ⟨m, hm⟩ : ∃ m, a + bs = m := ⟨_, rfl⟩
              have em : (a : Int) + (bs : Int) = (m : Int) := by omega
              have Hm := Lib.hid hm
              by_cases hmN : m < N
              · obtain ⟨s0, s, r0, r, q1, q2, q3, q4, q5, q6⟩ := Ch.split ekey Hchd.out (by have := HSD.out; have := HS.out; omega) (by omega)
                subst q1 q2
                have hrl : r.length < bs := by have h1 := HSD.out; have h2 := HS.out; have h3 := HB.out; simp only [List.length_append] at h1; omega
                obtain ⟨p1, p2⟩ := Ch.small ekey q6 (by omega)
                have Hl1 := Lib.hid q3
                have Hp0 := Lib.hid (And.intro q4 p1)
                have Hc := Lib.hid (sym_any (s.length + r.length) g gv N cap a m N rest S s r [] wr (Nat.le_refl _) (by have := Hpk3.out.pk; simpa only [List.append_assoc, List.append_nil] using this) Hpk3.out.var HS.out (by rw [q3]; exact hm) (by have h1 := HSD.out; have := HS.out; simp only [List.length_append] at h1; omega) (by omega) (by have h1 := HSD.out; have := HS.out; simp only [List.length_append] at h1; omega) q5 p2
                  (Rise.cross (a := s0) (b := r0) HrD.out q4 p1) (by have := HSD.out; simp only [List.length_append, List.length_nil] at this ⊢; omega) hN2)
                have Hrl := Lib.hid hrl
                clear hm q3 q4 q5 q6 p1 p2 hrl
                go_wp2_with fail
                refine (Hc.out).mono ?_
                rintro e w4 ⟨rfl, ⟨M, hp4, hpe, hso⟩, hg4⟩
                rw [List.append_nil] at hp4
                have Hp4 := Lib.hid (Hpk3.out.more hg4 hp4 (by have a1 := hpe.length_eq; simp only [List.length_append] at a1 ⊢; omega))
                have Hfin : Hid (Ch ekey (2 * bs) d (S ++ M)) := Lib.hid (by
                  rw [Hd.out]
                  refine Hah.out _ _ (.last _ M ?_ (hpe.trans (Hp0.out.1.append Hp0.out.2)) hso)
                  rw [hpe.length_eq, List.length_append]; have := Hl1.out; have := Hrl.out; omega)
                clear hp4 hg4 hpe hso
                go_wp2_with fail
                go_roundw
                case rel => exact ⟨2 * bs, _, int_eq (by omega), by omega, by omega, Hfin.out, Hp4.out⟩
                case measure => simp [intOf]; omega
              · have hDl : D.length ≤ bs := by have := HSD.out; have := HS.out; omega
                obtain ⟨p1, p2⟩ := Ch.small ekey Hchd.out hDl
                have Hfin : Hid (Ch ekey (2 * bs) d (S ++ D)) := Lib.hid (by rw [Hd.out]; exact Hah.out _ _ (.last _ D (by omega) p1 p2))
                clear hm p1 p2
                go_wp2_with fail
                go_roundw
                case rel => exact ⟨2 * bs, _, int_eq (by omega), by omega, by omega, Hfin.out, Hpk3.out⟩
                case measure => simp [intOf]; omega
        · obtain ⟨p1, p2⟩ := Ch.small ekey Hch.out (by rw [Hlen.out]; omega)
          have Hp1 := Lib.hid p1
          have Hp2 := Lib.hid p2
          clear p1 p2
          go_wp2_with fail
          go_end0
          exact ⟨rfl, ⟨d', Hpk.out.pk, Hp1.out, Hp2.out⟩, (Hw1.out ▸ Hpk.out : Mm (w.alloc _) _ _ _ _ _ _ _ _).done⟩
end Go.Proofs.Ytfgkfakhlcbdbaa.Slc
