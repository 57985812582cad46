/- slices.SortStableFunc at rows of packs. -/
import Derived.Test.YtdponlnfdjfljaaSortSym3
namespace Go.Proofs.Ytdponlnfdjfljaa.Weigh
open Go Go.RowKit Go.Proofs.Ytdponlnfdjfljaa Go.Proofs.Ytdponlnfdjfljaa.SP
set_option linter.unusedVariables false

theorem Ahead.len {bs : Nat} {s0 s : List TE} (h : Ahead ekey bs s0 s) : s.Perm s0 := by
  have := (h [] [] (Ch.nil ekey bs)).perm
  simpa using this
set_option maxRecDepth 100000 in
set_option maxHeartbeats 8000000 in
theorem stable_any (g N cap : Nat) (rest : List Value) (d : List TE) (w : World) (h : PkAt w g rest d) (hN : d.length = N) (hN2 : N ≤ 1000000) (hr : Rise d) (hk : Kb d) :
    Calls Try.prog 78 #[.slice (some ⟨g, 0, none⟩) N cap, .int .i64 (N : Int), cmpV] w fun e w' => e = .returned (.tuple #[]) ∧ (∃ d', PkAt w' g rest d' ∧ d'.Perm d ∧ d'.Pairwise (lexP ekey)) ∧ w.grownBy w' (some g) := by
  have H := Lib.hid h
  have HN := Lib.hid hN
  have Hr := Lib.hid hr
  have Hk := Lib.hid hk
  clear h hN hr hk
  unfold cmpV
  go_enter Try.func78, Try.ntmps78
  go_wp2_with fail
  go_loopw [7, 8] (fun av bv wr => ∃ (a : Nat) (S0 S D : List TE), av = .int .i64 (a : Int) ∧ bv = .int .i64 ((a : Int) + 20) ∧ d = S0 ++ D ∧ S.length = a ∧ S.length + D.length = N ∧ Ahead ekey 20 S0 S ∧ PkAt wr g rest (S ++ D) ∧ w.grownBy wr (some g)) (fun _ bv _ => N + 20 - (intOf bv).toNat)
  case atStart => exact ⟨0, [], [], d, rfl, rfl, rfl, rfl, by simpa using HN.out, Ahead.nil ekey 20, H.out, World.grownBy.refl _ _⟩
  case round =>
    obtain ⟨a, S0, S, D, rfl, rfl, hd, hS, hSD, hah, hpk, hgr⟩ := hrel
    have Hd := Lib.hid hd
    have HS := Lib.hid hS
    have HSD := Lib.hid hSD
    have Hah := Lib.hid hah
    have Hpk := Lib.hid hpk
    have Hgr := Lib.hid hgr
    have haN : a ≤ N := by omega
    have HrD : Hid (Rise D) := Lib.hid (Rise.right (hd ▸ Hr.out))
    have HkD : Hid (Kb D) := Lib.hid (Kb.right (hd ▸ Hk.out))
    clear hd hS hSD hah hpk hgr
    by_cases hlt : a + 20 ≤ N
    · have hD : D = D.take 20 ++ D.drop 20 := (List.take_append_drop _ _).symm
      have l1 : (D.take 20).length = 20 := by rw [List.length_take]; have := HSD.out; have := HS.out; omega
      have HD := Lib.hid hD
      have Hl1 := Lib.hid l1
      generalize D.take 20 = D1 at *
      generalize D.drop 20 = D2 at *
      clear hD l1
      have Hc := Lib.hid (insertion_any g N cap a (a + 20) rest S D1 D2 wr (by have := Hpk.out; rw [HD.out] at this; rw [List.append_assoc]; exact this) HS.out (by rw [Hl1.out]) (Rise.left (HD.out ▸ HrD.out)) (Kb.left (HD.out ▸ HkD.out)) (by have h1 := congrArg List.length HD.out; have := HSD.out; simp only [List.length_append] at h1 ⊢; omega) hN2)
      have e1 : (a : Int) + 20 = ((a + 20 : Nat) : Int) := by omega
      obtain ⟨b, hb⟩ : ∃ b, a + 20 = b := ⟨_, rfl⟩
      rw [hb] at Hc e1 hlt
      have Hb := Lib.hid hb
      rw [e1]
      have hle : (b : Int) ≤ (N : Int) := by omega
      clear hb e1
      go_wp2_with fail
      refine (Hc.out).mono ?_
      rintro e w2 ⟨rfl, ⟨S', hp2, hpe, hso⟩, hg2⟩
      have Hp2 := Lib.hid hp2
      have Hg2 := Lib.hid (Hgr.out.trans hg2)
      have Hpe := Lib.hid hpe
      have Hso := Lib.hid hso
      clear hp2 hg2 hpe hso
      go_wp2_with fail
      go_roundw
      case rel =>
        have a1 := Hpe.out.length_eq; have a2 := Hl1.out; have a3 := HS.out; have a4 := Hb.out; have a5 := HSD.out; have a6 := congrArg List.length HD.out
        rw [List.length_append] at a6
        exact ⟨b, S0 ++ D1, S ++ S', D2, rfl, rfl, by rw [Hd.out, HD.out, List.append_assoc], by rw [List.length_append]; omega, by rw [List.length_append]; omega, Ahead.more ekey Hah.out (by omega) Hpe.out Hso.out, Hp2.out, Hg2.out⟩
      case measure => have := Hb.out; simp [intOf]; omega
    · have Hc := Lib.hid (insertion_any g N cap a N rest S D [] wr (by rw [List.append_nil]; exact Hpk.out) HS.out (by have := HSD.out; have := HS.out; omega) HrD.out HkD.out (by have := HSD.out; simp only [List.length_append, List.length_nil]; omega) hN2)
      have hle : ¬ ((a : Int) + 20 ≤ (N : Int)) := by omega
      go_wp2_with fail
      refine (Hc.out).mono ?_
      rintro e w2 ⟨rfl, ⟨S', hp2, hpe, hso⟩, hg2⟩
      rw [List.append_nil] at hp2
      have Hp2 := Lib.hid hp2
      have Hg2 := Lib.hid (Hgr.out.trans hg2)
      have Hch : Hid (Ch ekey 20 d (S ++ S')) := Lib.hid (by rw [Hd.out]; exact Hah.out _ _ (.last D S' (by rw [hpe.length_eq]; have := HSD.out; have := HS.out; omega) hpe hso))
      clear hp2 hg2 hpe hso Hc
      go_wp2_with fail
      clear Hd HS HSD Hah Hpk Hgr haN HrD HkD hle
      go_loopw [6] (fun bv wr => ∃ (bs : Nat) (d' : List TE), bv = .int .i64 (bs : Int) ∧ 1 ≤ bs ∧ bs ≤ 2000000 ∧ Ch ekey bs d d' ∧ PkAt wr g rest d' ∧ w.grownBy wr (some g)) (fun bv _ => N - (intOf bv).toNat)
      case atStart => exact ⟨20, _, rfl, by omega, by omega, Hch.out, Hp2.out, Hg2.out⟩
      case round =>
        obtain ⟨bs, d', rfl, hb1, hb2, hch, hpk, hgr⟩ := hrel
        have Hch := Lib.hid hch
        have Hpk := Lib.hid hpk
        have Hgr := Lib.hid hgr
        have Hlen : Hid (d'.length = N) := Lib.hid (by rw [hch.perm.length_eq]; exact HN.out)
        clear hch hpk hgr
        by_cases hbN : bs < N
        · go_wp2_with fail
          go_loopw [7, 8] (fun av bv wr => ∃ (a b : Nat) (S0 S D0 D : List TE), av = .int .i64 (a : Int) ∧ bv = .int .i64 (b : Int) ∧ b = a + 2 * bs ∧ d = S0 ++ D0 ∧ S.length = a ∧ S.length + D.length = N ∧ Ahead ekey (2 * bs) S0 S ∧ Ch ekey bs D0 D ∧ PkAt wr g rest (S ++ D) ∧ w.grownBy wr (some g)) (fun _ bv _ => N + 2 * bs - (intOf bv).toNat)
          case atStart => exact ⟨0, 2 * bs, [], [], d, d', rfl, int_eq (by omega), by omega, rfl, rfl, by simpa using Hlen.out, Ahead.nil ekey _, Hch.out, Hpk.out, Hgr.out⟩
          case round =>
            obtain ⟨a, b, S0, S, D0, D, rfl, rfl, hb, hd, hS, hSD, hah, hch, hpk, hgr⟩ := hrel
            have Hd := Lib.hid hd
            have HS := Lib.hid hS
            have HSD := Lib.hid hSD
            have Hah := Lib.hid hah
            have Hchd := Lib.hid hch
            have Hpk3 := Lib.hid hpk
            have Hgr3 := Lib.hid hgr
            have HB := Lib.hid hb
            have haN : a ≤ N := by omega
            have HrD : Hid (Rise D0) := Lib.hid (Rise.right (hd ▸ Hr.out))
            have HkD : Hid (Kb D) := Lib.hid ((Kb.right (hd ▸ Hk.out)).perm hch.perm)
            clear hd hS hSD hah hch hpk hgr hb
            by_cases hlt : b ≤ N
            · obtain ⟨s0, s, r0, r, q1, q2, q3, q4, q5, q6⟩ := Ch.split ekey Hchd.out (by have := HB.out; have := HSD.out; have := HS.out; omega) (by omega)
              obtain ⟨t0, t, u0, u, y1, y2, y3, y4, y5, y6⟩ := Ch.split ekey q6 (by have := HB.out; have := HSD.out; have := HS.out; have h1 := congrArg List.length q2; rw [List.length_append] at h1; omega) (by omega)
              subst q1 q2 y1 y2
              obtain ⟨m, hm⟩ : ∃ m, a + bs = m := ⟨_, rfl⟩
              have em : (a : Int) + (bs : Int) = (m : Int) := by omega
              have Hm := Lib.hid hm
              have Hl1 := Lib.hid q3
              have Hl2 := Lib.hid y3
              have Hp0 := Lib.hid (And.intro q4 y4)
              have Hch6 := Lib.hid y6
              have Hc := Lib.hid (sym_any (s.length + t.length) g N cap a m b rest S s t u wr (Nat.le_refl _) (by have := Hpk3.out; simpa only [List.append_assoc] using this) HS.out (by rw [q3]; exact hm) (by rw [y3]; have := HB.out; omega) (by omega) (by omega) q5 y5
                (Rise.cross (a := s0) (b := t0) (by have := HrD.out; rw [← List.append_assoc] at this; exact Rise.left this) q4 y4) (Kb.left HkD.out) (Kb.left (Kb.right HkD.out)) (by have := HSD.out; simp only [List.length_append] at this ⊢; omega) hN2)
              have hmN : m ≤ N := by have := HB.out; omega
              clear hm q3 q4 q5 q6 y3 y4 y5 y6
              go_wp2_with fail
              refine (Hc.out).mono ?_
              rintro e w4 ⟨rfl, ⟨M, hp4, hpe, hso⟩, hg4⟩
              have Hp4 := Lib.hid hp4
              have Hg4 := Lib.hid (Hgr3.out.trans hg4)
              have Hpe := Lib.hid hpe
              have Hso := Lib.hid hso
              clear hp4 hg4 hpe hso
              go_wp2_with fail
              go_roundw
              case rel =>
                have a1 := Hpe.out.length_eq; have a2 := Hl1.out; have a3 := HS.out; have a4 := HB.out; have a5 := HSD.out; have a6 := Hl2.out
                rw [List.length_append] at a1
                simp only [List.length_append] at a5
                exact ⟨b, b + 2 * bs, S0 ++ (s0 ++ t0), S ++ M, u0, u, rfl, int_eq (by omega), rfl, by rw [Hd.out]; simp only [List.append_assoc], by rw [List.length_append]; omega, by rw [List.length_append]; omega, Ahead.more ekey Hah.out (by omega) (Hpe.out.trans (Hp0.out.1.append Hp0.out.2)) Hso.out, Hch6.out, Hp4.out, Hg4.out⟩
              case measure => have := HB.out; simp [intOf]; omega
            · obtain ⟨m, hm⟩ : ∃ m, a + bs = m := ⟨_, rfl⟩
              have em : (a : Int) + (bs : Int) = (m : Int) := by omega
              have Hm := Lib.hid hm
              by_cases hmN : m < N
              · obtain ⟨s0, s, r0, r, q1, q2, q3, q4, q5, q6⟩ := Ch.split ekey Hchd.out (by have := HSD.out; have := HS.out; omega) (by omega)
                subst q1 q2
                have hrl : r.length < bs := by have h1 := HSD.out; have h2 := HS.out; have h3 := HB.out; simp only [List.length_append] at h1; omega
                obtain ⟨p1, p2⟩ := Ch.small ekey q6 (by omega)
                have Hl1 := Lib.hid q3
                have Hp0 := Lib.hid (And.intro q4 p1)
                have Hc := Lib.hid (sym_any (s.length + r.length) g N cap a m N rest S s r [] wr (Nat.le_refl _) (by have := Hpk3.out; simpa only [List.append_assoc, List.append_nil] using this) HS.out (by rw [q3]; exact hm) (by have h1 := HSD.out; have := HS.out; simp only [List.length_append] at h1; omega) (by omega) (by have h1 := HSD.out; have := HS.out; simp only [List.length_append] at h1; omega) q5 p2
                  (Rise.cross (a := s0) (b := r0) HrD.out q4 p1) (Kb.left HkD.out) (Kb.right HkD.out) (by have := HSD.out; simp only [List.length_append, List.length_nil] at this ⊢; omega) hN2)
                have Hrl := Lib.hid hrl
                clear hm q3 q4 q5 q6 p1 p2 hrl
                go_wp2_with fail
                refine (Hc.out).mono ?_
                rintro e w4 ⟨rfl, ⟨M, hp4, hpe, hso⟩, hg4⟩
                rw [List.append_nil] at hp4
                have Hp4 := Lib.hid hp4
                have Hg4 := Lib.hid (Hgr3.out.trans hg4)
                have Hfin : Hid (Ch ekey (2 * bs) d (S ++ M)) := Lib.hid (by
                  rw [Hd.out]
                  refine Hah.out _ _ (.last _ M ?_ (hpe.trans (Hp0.out.1.append Hp0.out.2)) hso)
                  rw [hpe.length_eq, List.length_append]; have := Hl1.out; have := Hrl.out; omega)
                clear hp4 hg4 hpe hso
                go_wp2_with fail
                go_roundw
                case rel => exact ⟨2 * bs, _, int_eq (by omega), by omega, by omega, Hfin.out, Hp4.out, Hg4.out⟩
                case measure => simp [intOf]; omega
              · have hDl : D.length ≤ bs := by have := HSD.out; have := HS.out; omega
                obtain ⟨p1, p2⟩ := Ch.small ekey Hchd.out hDl
                have Hfin : Hid (Ch ekey (2 * bs) d (S ++ D)) := Lib.hid (by rw [Hd.out]; exact Hah.out _ _ (.last _ D (by omega) p1 p2))
                clear hm p1 p2
                go_wp2_with fail
                go_roundw
                case rel => exact ⟨2 * bs, _, int_eq (by omega), by omega, by omega, Hfin.out, Hpk3.out, Hgr3.out⟩
                case measure => simp [intOf]; omega
        · obtain ⟨p1, p2⟩ := Ch.small ekey Hch.out (by rw [Hlen.out]; omega)
          have Hp1 := Lib.hid p1
          have Hp2 := Lib.hid p2
          clear p1 p2
          go_wp2_with fail
          go_end0
          exact ⟨rfl, ⟨d', Hpk.out, Hp1.out, Hp2.out⟩, Hgr.out⟩
/-- a row of packs -/
def cellsP (e : El) : List Value := [nv e.1, slv e.2.1]
def RowPk (w : World) (g : Nat) (rest : List Value) (l : List El) : Prop := Blk w g 94 (l.flatMap cellsP ++ rest).toArray
theorem pk_row (w : World) (g : Nat) (rest : List Value) (d : List TE) : PkAt w g rest d ↔ RowPk w g rest (d.map (·.1)) := by
  unfold PkAt RowPk
  rw [List.flatMap_map]; rfl
set_option maxHeartbeats 800000 in
theorem sortStable_any (g N cap : Nat) (rest : List Value) (l : List El) (w : World) (h : RowPk w g rest l) (hN : l.length = N) (hN2 : N ≤ 1000000) (hk : ∀ e ∈ l, e.1 ≤ 1152921504606846976) :
    Calls Try.prog 60 #[.slice (some ⟨g, 0, none⟩) N cap, cmpV] w fun e w' => e = .returned (.tuple #[]) ∧ RowPk w' g rest (stab ekey l) ∧ w.grownBy w' (some g) := by
  have Hc := Lib.hid (stable_any g N cap rest l.zipIdx w ((pk_row w g rest _).2 (by rw [List.zipIdx_map_fst]; exact h)) (by simpa using hN) hN2 (rise_zip l 0) (fun e he => hk e.1 (by
    have := List.mem_map_of_mem (f := (·.1)) he
    rwa [List.zipIdx_map_fst] at this)))
  clear h hN hk
  unfold cmpV at *
  go_enter Try.func60, Try.ntmps60
  go_wp2_with fail
  refine (Hc.out).mono ?_
  rintro e w2 ⟨rfl, ⟨d', hp, hpe, hso⟩, hg⟩
  have Hp : Hid (RowPk w2 g rest (stab ekey l)) := Lib.hid (by
    rw [← stab_unique ekey l d' hpe hso]; exact (pk_row _ _ _ _).1 hp)
  have Hg := Lib.hid hg
  clear hp hpe hso hg
  go_wp2_with fail
  go_end0
  exact ⟨rfl, Hp.out, Hg.out⟩
end Go.Proofs.Ytdponlnfdjfljaa.Weigh
