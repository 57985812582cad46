/- slices.insertionSortCmpFunc at rows of packs. -/
import Derived.Test.YtdponlnfdjfljaaSortSwap
import Derived.StillTailTactics
namespace Go.Proofs.Ytdponlnfdjfljaa.Weigh
open Go Go.RowKit Go.Proofs.Ytdponlnfdjfljaa Go.Proofs.Ytdponlnfdjfljaa.SP
set_option linter.unusedVariables false

/-- how often is within bounds -/
def Kb (d : List TE) : Prop := ∀ e ∈ d, e.1.1 ≤ 1152921504606846976
theorem Kb.perm {d d' : List TE} (h : Kb d) (p : d'.Perm d) : Kb d' := fun e he => h e (p.mem_iff.1 he)
theorem Kb.left {a b : List TE} (h : Kb (a ++ b)) : Kb a := fun e he => h e (List.mem_append_left _ he)
theorem Kb.right {a b : List TE} (h : Kb (a ++ b)) : Kb b := fun e he => h e (List.mem_append_right _ he)
theorem Kb.both {a b : List TE} (h : Kb a) (k : Kb b) : Kb (a ++ b) := fun e he => by
  rcases List.mem_append.1 he with h1 | h1
  · exact h e h1
  · exact k e h1
def cmpV : Value := .func (.func 61) #[] #[]
theorem cmp_any (n m : Nat) (a b : Sl3) (w : World) (hn : n ≤ 1152921504606846976) (hm : m ≤ 1152921504606846976) :
    Calls Try.prog 61 #[.agg #[.int .i64 (n : Int), .slice a.1 a.2.1 a.2.2], .agg #[.int .i64 (m : Int), .slice b.1 b.2.1 b.2.2]] w fun e w' => e = .returned (.int .i64 ((n : Int) - (m : Int))) ∧ Below w.heap.size w w' := by
  obtain ⟨a1, a2, a3⟩ := a
  obtain ⟨b1, b2, b3⟩ := b
  go_enter Try.func61, Try.ntmps61
  go_wp2
  go_ret
  exact ⟨rfl, ((Below.refl _ _).alloc (Nat.le_refl _) _).alloc (by simp) _⟩
theorem PkAt.below {w w' : World} {g : Nat} {rest : List Value} {d : List TE} (h : PkAt w g rest d) (hb : Below w.heap.size w w') : PkAt w' g rest d := Blk.below h hb (Blk.lt h)
def isL (P S' : List TE) (x : TE) (R : List TE) (u : Nat) : List TE := (P ++ S'.take u) ++ x :: (S'.drop u ++ R)
theorem is_pre (P S' : List TE) (x : TE) (R : List TE) (u : Nat) (h : u < S'.length) : isL P S' x R (u + 1) = (P ++ S'.take u) ++ S'[u] :: ([] ++ x :: (S'.drop (u + 1) ++ R)) := by
  unfold isL
  rw [List.take_succ_eq_append_getElem h]
  simp only [List.append_assoc, List.cons_append, List.nil_append]
theorem is_post (P S' : List TE) (x : TE) (R : List TE) (u : Nat) (h : u < S'.length) : isL P S' x R u = (P ++ S'.take u) ++ x :: ([] ++ S'[u] :: (S'.drop (u + 1) ++ R)) := by
  unfold isL
  rw [List.drop_eq_getElem_cons h]
  simp only [List.append_assoc, List.cons_append, List.nil_append]
theorem ins_sorted (S' : List TE) (x : TE) (u : Nat) (hu : u ≤ S'.length) (hs : S'.Pairwise (lexP ekey)) (ht : ∀ y ∈ S', y.2 < x.2) (h1 : u = 0 ∨ ∃ h : u - 1 < S'.length, S'[u - 1].1.1 ≤ x.1.1) (h2 : u = S'.length ∨ ∃ h : u < S'.length, x.1.1 < S'[u].1.1) :
    (S'.take u ++ x :: S'.drop u).Pairwise (lexP ekey) := by
  refine put_sorted ekey x S' u hu hs ?_ ?_
  · rcases h1 with h | ⟨h, k⟩
    · exact .inl h
    · refine .inr ⟨h, ?_⟩
      have := ht _ (List.getElem_mem h)
      unfold lexP ekey; omega
  · rcases h2 with h | ⟨h, k⟩
    · exact .inl h
    · exact .inr ⟨h, .inl k⟩
theorem ins_perm (S' T : List TE) (x : TE) (u : Nat) (h : S'.Perm T) : (S'.take u ++ x :: S'.drop u).Perm (T ++ [x]) :=
  (put_perm x S' u).trans ((h.cons x).trans (List.perm_append_singleton x T).symm)
set_option maxRecDepth 100000 in
set_option maxHeartbeats 4000000 in
theorem insertion_any (g N cap a b : Nat) (rest : List Value) (P S Q : List TE) (w : World) (h : PkAt w g rest (P ++ S ++ Q)) (ha : P.length = a) (hb : a + S.length = b) (hr : Rise S) (hk : Kb S) (hN : (P ++ S ++ Q).length = N) (hN2 : N ≤ 1000000) :
    Calls Try.prog 96 #[.slice (some ⟨g, 0, none⟩) N cap, .int .i64 (a : Int), .int .i64 (b : Int), cmpV] w fun e w' => e = .returned (.tuple #[]) ∧ (∃ S', PkAt w' g rest (P ++ S' ++ Q) ∧ S'.Perm S ∧ S'.Pairwise (lexP ekey)) ∧ w.grownBy w' (some g) := by
  have hN3 : P.length + S.length + Q.length = N := by rw [← hN]; simp; omega
  have H := Lib.hid h
  have HP := Lib.hid ha
  have HR := Lib.hid hr
  have HK := Lib.hid hk
  have HS := Lib.hid hb
  have hbN : b ≤ N := by omega
  have hab : a ≤ b := by omega
  clear h hN hN3 ha hr hk hb
  unfold cmpV
  go_enter Try.func96, Try.ntmps96
  go_wp2_with fail
  go_loopw [8] (fun i wr => ∃ (t ti : Nat) (S' : List TE), a + t = ti ∧ i = .int .i64 (ti : Int) ∧ 1 ≤ t ∧ (t ≤ S.length ∨ t = 1) ∧ S'.Perm (S.take t) ∧ S'.Pairwise (lexP ekey) ∧ PkAt wr g rest (P ++ S' ++ (S.drop t ++ Q)) ∧ w.grownBy wr (some g)) (fun i _ => b - (intOf i).toNat)
  case atStart =>
    refine ⟨1, a + 1, S.take 1, rfl, by go_num, Nat.le_refl _, .inr rfl, List.Perm.refl _, ?_, ?_, World.grownBy.refl _ _⟩
    · rcases S with _ | ⟨x, S⟩
      · exact List.Pairwise.nil
      · exact List.pairwise_singleton _ _
    · have := H.out
      rw [List.append_assoc, ← List.append_assoc (S.take 1), List.take_append_drop, ← List.append_assoc]; exact this
  case round =>
    obtain ⟨t, ti, S', hti, rfl, ht1, htS, hperm, hsort, hpk, hgr⟩ := hrel
    have Hpk := Lib.hid hpk
    have Hgr := Lib.hid hgr
    have Hperm := Lib.hid hperm
    have Hsort := Lib.hid hsort
    have Hti := Lib.hid hti
    clear hpk hgr hperm hsort
    by_cases hlt : ti < b
    · have htl : t < S.length := by have := HS.out; omega
      have HSl : Hid (S'.length = t) := Lib.hid (by rw [Hperm.out.length_eq, List.length_take]; omega)
      have Htag : Hid (∀ y ∈ S', y.2 < S[t].2) := Lib.hid (fun y hy => by
        have h1 := Hperm.out.mem_iff.1 hy
        obtain ⟨i, hi, rfl⟩ := List.mem_iff_getElem.1 h1
        rw [List.length_take] at hi
        rw [List.getElem_take]
        exact List.pairwise_iff_getElem.1 HR.out i t (by omega) htl (by omega))
      have Hkx : Hid (S[t].1.1 ≤ 1152921504606846976) := Lib.hid (HK.out _ (List.getElem_mem htl))
      have Hks : Hid (Kb S') := Lib.hid (fun e he => HK.out e (List.mem_of_mem_take (Hperm.out.mem_iff.1 he)))
      have Hst : Hid (P ++ S' ++ (S.drop t ++ Q) = isL P S' S[t] (S.drop (t + 1) ++ Q) t) := Lib.hid (by
        unfold isL
        rw [List.drop_eq_getElem_cons htl, List.take_of_length_le (Nat.le_of_eq HSl.out), List.drop_of_length_le (Nat.le_of_eq HSl.out)]
        simp only [List.append_assoc, List.cons_append, List.nil_append])
      have Htk : Hid (S.take (t + 1) = S.take t ++ [S[t]]) := Lib.hid (List.take_succ_eq_append_getElem htl)
      rw [Hst.out] at Hpk
      generalize S[t] = x at *
      clear Hst
      go_wp2_with fail
      go_loopw [9] (fun j wr => ∃ (u uj : Nat), a + u = uj ∧ j = .int .i64 (uj : Int) ∧ u ≤ t ∧ (u = S'.length ∨ ∃ h : u < S'.length, x.1.1 < S'[u].1.1) ∧ PkAt wr g rest (isL P S' x (S.drop (t + 1) ++ Q) u) ∧ w.grownBy wr (some g)) (fun j _ => (intOf j).toNat)
      case atStart => exact ⟨t, ti, Hti.out, rfl, Nat.le_refl _, .inl HSl.out.symm, Hpk.out, Hgr.out⟩
      case round =>
        obtain ⟨u, uj, huj, rfl, hut, hux, hpk, hgr⟩ := hrel
        have Hgr2 := Lib.hid hgr
        have Hux := Lib.hid hux
        clear hgr hux
        rcases u with _ | u
        · have d0 : decide (a < uj) = false := by simp; omega
          have Hpk2 := Lib.hid hpk
          have Huj := Lib.hid huj
          clear hpk huj
          have hpr : Hid (uj ≤ ti) := Lib.hid (by have := Huj.out; have := Hti.out; omega)
          go_wp2_with fail
          go_quiet (fail)
          go_wp2_with fail
          go_roundw
          case rel =>
            have a0 := HSl.out
            have hu0 : (0 : Nat) ≤ S'.length := Nat.zero_le _
            have hso := ins_sorted S' x 0 hu0 Hsort.out Htag.out (.inl rfl) Hux.out
            have hpe := ins_perm S' _ x 0 Hperm.out
            rw [← Htk.out] at hpe
            exact ⟨t + 1, ti + 1, _, by omega, by go_num, by omega, .inl (by omega), hpe, hso, by have := Hpk2.out; unfold isL at this; show PkAt wr g rest _; simpa only [List.append_assoc, List.cons_append] using this, grown_drewN Hgr2.out _⟩
          case measure => simp [intOf]; omega
        · obtain ⟨jm, hjm⟩ : ∃ jm, a + u = jm := ⟨_, rfl⟩
          have hju : uj = jm + 1 := by omega
          have hul : u < S'.length := by rw [HSl.out]; omega
          rw [is_pre P S' x _ u hul] at hpk
          have hX : jm = (P ++ S'.take u).length := by rw [List.length_append, List.length_take, HP.out, HSl.out]; omega
          have hY : uj = (P ++ S'.take u).length + 1 + ([] : List TE).length := by rw [← hX, hju]; rfl
          have e1 : (uj : Int) - 1 = (jm : Int) := by omega
          have hw : IntKind.i64.wrap (jm : Int) = (jm : Int) := IntWalk.i64_in _ (by omega)
          have hpr : Hid (uj ≤ ti ∧ jm + 1 = uj ∧ a ≤ jm) := Lib.hid (by omega)
          have ha1 : a < uj := by omega
          have ha2 : (a : Int) < (uj : Int) := by omega
          have hujN : uj < N := by omega
          have hjmN : jm < N := by omega
          have hpost := is_post P S' x (S.drop (t + 1) ++ Q) u hul
          have hky := Hks.out _ (List.getElem_mem hul)
          have Hpk3 := Lib.hid hpk
          have hle : ∀ h : u + 1 - 1 < S'.length, S'[u + 1 - 1] = S'[u] := fun _ => rfl
          obtain ⟨y, hy⟩ : ∃ y, S'[u] = y := ⟨_, rfl⟩
          rw [hy] at hpost hky Hpk3
          have Hy : Hid (∀ h : u < S'.length, S'[u] = y) := Lib.hid (fun _ => hy)
          have Hpost := Lib.hid hpost
          have HX := Lib.hid hX
          have HY := Lib.hid hY
          have Huj : Hid (a + (u + 1) = uj ∧ a + u = jm) := Lib.hid ⟨huj, hjm⟩
          clear hy hpost hpk hX hY huj hjm hju hle
          obtain ⟨⟨xk, ⟨xa, xb, xc⟩, xm⟩, xt⟩ := x
          obtain ⟨⟨yk, ⟨ya, yb, yc⟩, ym⟩, yt⟩ := y
          obtain ⟨c0, c1, c2, c3, f0, f1, f2, f3⟩ := Hpk3.out.pair HX.out HY.out
          have hkx := Hkx.out
          simp only at hky hkx
          by_cases hc : xk < yk
          · have d1 : (xk : Int) - (yk : Int) < 0 := by omega
            go_wp2_with fail
            go_still_tail 14, (by kernel_rfl)
            change wpList _ _ _ _ _ wr.drew
            have Hpkd : Hid (PkAt wr.drew g rest _) := Hpk3
            have Hgd := Lib.hid (grown_drew Hgr2.out)
            generalize wr.drew = wd at *
            clear c0 c1 c2 c3 f0 f1 f2 f3
            go_wp2_with fail
            refine (cmp_any xk yk (xa, xb, xc) (ya, yb, yc) wd hkx hky).mono ?_
            rintro e w3 ⟨rfl, hb3⟩
            have Hpk4 := Lib.hid (Hpkd.out.below hb3)
            have Hg4 := Lib.hid (grown_below Hgd.out hb3)
            obtain ⟨c0, c1, c2, c3, f0, f1, f2, f3⟩ := Hpk4.out.pair HX.out HY.out
            clear hb3 Hpkd Hgd
            go_wp2_with fail
            go_region
            have Hsw : Hid (PkAt (swW w3 g uj jm (.int .i64 (yk : Int)) (.slice ya yb yc) (.int .i64 (xk : Int)) (.slice xa xb xc)).drew g rest _) := Lib.hid (Hpk4.out.swapD HX.out HY.out)
            have Hgs := Lib.hid (grown_sw Hg4.out uj jm (.int .i64 (yk : Int)) (.slice ya yb yc) (.int .i64 (xk : Int)) (.slice xa xb xc))
            rw [← Hpost.out] at Hsw
            unfold swW at Hsw Hgs
            generalize ((((w3.setCell ⟨g, uj * 2, none⟩ (.int .i64 (yk : Int))).setCell ⟨g, uj * 2 + 1, none⟩ (.slice ya yb yc)).setCell ⟨g, jm * 2, none⟩ (.int .i64 (xk : Int))).setCell ⟨g, jm * 2 + 1, none⟩ (.slice xa xb xc)).drew = wq at *
            clear c0 c1 c2 c3 f0 f1 f2 f3 Hpk4 Hg4
            go_wp2_with fail
            go_roundw
            case rel => exact ⟨u, jm, Huj.out.2, rfl, by omega, .inr ⟨hul, by rw [Hy.out]; exact hc⟩, Hsw.out, Hgs.out⟩
            case measure => simp [intOf]; omega
          · have d1 : ¬ ((xk : Int) - (yk : Int) < 0) := by omega
            have Hold : Hid (PkAt wr g rest (isL P S' ((xk, (xa, xb, xc), xm), xt) (S.drop (t + 1) ++ Q) (u + 1))) := Lib.hid (by rw [is_pre P S' _ _ u hul, Hy.out]; exact Hpk3.out)
            go_wp2_with fail
            go_still_tail 14, (by kernel_rfl)
            change wpList _ _ _ _ _ wr.drew
            have Hpkd : Hid (PkAt wr.drew g rest _) := Hold
            have Hgd := Lib.hid (grown_drew Hgr2.out)
            generalize wr.drew = wd at *
            clear c0 c1 c2 c3 f0 f1 f2 f3
            go_wp2_with fail
            refine (cmp_any xk yk (xa, xb, xc) (ya, yb, yc) wd hkx hky).mono ?_
            rintro e w3 ⟨rfl, hb3⟩
            have Hpk4 := Lib.hid (Hpkd.out.below hb3)
            have Hg4 := Lib.hid (grown_below Hgd.out hb3)
            clear hb3 Hpkd Hgd
            go_wp2_with fail
            go_roundw
            case rel =>
              have a0 := HSl.out
              have hu0 : u + 1 ≤ S'.length := hul
              have hso := ins_sorted S' ((xk, (xa, xb, xc), xm), xt) (u + 1) hu0 Hsort.out Htag.out (.inr ⟨hul, by rw [show S'[u + 1 - 1] = S'[u] from rfl, Hy.out]; show yk ≤ xk; omega⟩) Hux.out
              have hpe := ins_perm S' _ ((xk, (xa, xb, xc), xm), xt) (u + 1) Hperm.out
              rw [← Htk.out] at hpe
              exact ⟨t + 1, ti + 1, _, by omega, by go_num, by omega, .inl (by omega), hpe, hso, by have := Hpk4.out; unfold isL at this; simpa only [List.append_assoc, List.cons_append] using this, Hg4.out⟩
            case measure => simp [intOf]; omega
    · have hall : S.length ≤ t := by have := HS.out; omega
      have Hp1 : Hid (S'.Perm S) := Lib.hid (by have := Hperm.out; rwa [List.take_of_length_le hall] at this)
      have Hpk1 : Hid (PkAt wr g rest (P ++ S' ++ Q)) := Lib.hid (by have := Hpk.out; rwa [List.drop_of_length_le hall, List.nil_append] at this)
      go_wp2_with fail
      go_end0
      exact ⟨rfl, ⟨S', Hpk1.out, Hp1.out, Hsort.out⟩, Hgr.out⟩
end Go.Proofs.Ytdponlnfdjfljaa.Weigh
