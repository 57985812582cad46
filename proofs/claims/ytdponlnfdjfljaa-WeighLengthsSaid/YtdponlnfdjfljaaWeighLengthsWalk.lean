/- reliquarylaw.WeighLengths: the walk. -/
import Derived.Test.YtdponlnfdjfljaaWeighWant
import Derived.Test.YtdponlnfdjfljaaMaxI
import Derived.Test.YtdponlnfdjfljaaInts
import Derived.Deep.CutRange
import Derived.Deep.CutBlock
import Derived.BigQuiet
namespace Go.Proofs.Ytdponlnfdjfljaa.WeighLengths
open Go Go.RowKit Go.Proofs.Ytdponlnfdjfljaa Go.Proofs.Ytdponlnfdjfljaa.Weigh Go.Proofs.Ytdponlnfdjfljaa.SP
set_option linter.unusedVariables false

theorem len_zero (ls : List Nat) (L : Nat) (hL : 1 ≤ L) (hn : (ones ls).length ≤ 2 ^ L) (k : Nat) (hk : k < ls.length) (h0 : ls.getD k 0 = 0) : (lengthsP ls L).getD k 0 = 0 := by
  by_cases h2 : 2 ≤ (ones ls).length
  · exact ((lengths_many ls L hL h2 hn).2.1 k hk).1.2 h0
  · unfold lengthsP
    by_cases hz : (ones ls).length = 0
    · rw [if_pos hz]; simp [List.getD_eq_getElem?_getD, List.getElem?_replicate]; split <;> rfl
    · have h1 : (ones ls).length = 1 := by omega
      have hul : (used ls).length = 1 := by rw [← used_len]; exact h1
      obtain ⟨i, hu⟩ := List.length_eq_one_iff.1 hul
      have him := (used_mem ls i).1 (by rw [hu]; simp)
      rw [if_neg hz, if_pos h1]
      unfold ones
      rw [hu]
      show (unit ls.length i).getD k 0 = 0
      rw [unit_get _ _ _ hk, if_neg]
      intro e; subst e; omega
theorem len_at (zs : List Int) (most : Int) (h : chkW zs most = 0) (k : Nat) (h1 : k < zs.length) (h2 : k < (lenI zs most).length) : 0 ≤ (lenI zs most)[k] ∧ (lenI zs most)[k] ≤ most ∧ (0 < (lenI zs most)[k] ↔ 0 < zs[k]) := by
  obtain ⟨f1, f2, f3, f4, f5⟩ := chkW_fine zs most h
  obtain ⟨a1, a2⟩ := chk_best zs most h
  obtain ⟨b1, b2, b3, b4⟩ := best _ _ a1 a2
  have hk : k < (natsOf zs).length := by rw [natsOf_len]; exact h1
  have hk2 : k < (lengthsP (natsOf zs) most.toNat).length := by rw [b1]; exact hk
  have e : (lenI zs most)[k] = (((lengthsP (natsOf zs) most.toNat)[k] : Nat) : Int) := by simp [lenI]
  have hle := b3 _ (List.getElem_mem hk2)
  have hg : (lengthsP (natsOf zs) most.toNat).getD k 0 = (lengthsP (natsOf zs) most.toNat)[k] := by simp [List.getD_eq_getElem?_getD, hk2]
  have hz := f2 _ (List.getElem_mem h1)
  have hn := natsOf_get zs k h1
  rw [e]
  refine ⟨by omega, by omega, ?_⟩
  constructor
  · intro hp
    rcases Int.lt_or_le 0 zs[k] with h3 | h3
    · exact h3
    · have := len_zero (natsOf zs) most.toNat a1 a2 k hk (by rw [hn]; omega)
      rw [hg] at this; omega
  · intro hp
    have hm := get_zip_mem (natsOf zs) _ b1 k hk
    have := b2.1 _ hm (by show 0 < (natsOf zs).getD k 0; rw [hn]; omega)
    have h3 : 1 ≤ (lengthsP (natsOf zs) most.toNat).getD k 0 := this.1
    rw [hg] at h3; omega
theorem one_max (zs : List Int) (most : Int) (h : chkW zs most = 0) (h1 : usedI zs = 1) (m : Int) (hm : m ∈ lenI zs most) (hall : ∀ x ∈ lenI zs most, x ≤ m) : m = 1 := by
  rw [used_ones] at h1
  have hl : lengthsP (natsOf zs) most.toNat = ((ones (natsOf zs)).getD 0 (0, [])).2 := by
    unfold lengthsP
    rw [if_neg (by omega), if_pos h1]
  have hul : (used (natsOf zs)).length = 1 := by rw [← used_len]; exact h1
  obtain ⟨i, hu⟩ := List.length_eq_one_iff.1 hul
  have him := (used_mem (natsOf zs) i).1 (by rw [hu]; simp)
  have hl2 : lengthsP (natsOf zs) most.toNat = unit (natsOf zs).length i := by
    rw [hl]; unfold ones; rw [hu]; rfl
  unfold lenI at hm hall
  rw [hl2] at hm hall
  have h1m : (1 : Int) ∈ (unit (natsOf zs).length i).map Int.ofNat := by
    refine List.mem_map.2 ⟨1, ?_, rfl⟩
    unfold unit
    refine List.mem_map.2 ⟨i, by simpa using him.1, by simp⟩
  have hge := hall 1 h1m
  obtain ⟨x, hx, rfl⟩ := List.mem_map.1 hm
  simp [unit] at hx
  obtain ⟨j, _, rfl⟩ := hx
  split at hge <;> simp_all
theorem full_room (zs : List Int) (most : Int) (h : chkW zs most = 0) (h2 : 2 ≤ usedI zs) : roomW (lengthsP (natsOf zs) most.toNat) = 32768 := by
  obtain ⟨f1, f2, f3, f4, f5⟩ := chkW_fine zs most h
  obtain ⟨a1, a2⟩ := chk_best zs most h
  rw [used_ones] at h2
  obtain ⟨h3, h4, h5, _⟩ := lengths_many (natsOf zs) most.toNat a1 h2 a2
  generalize hm : lengthsP (natsOf zs) most.toNat = m at *
  have hr : roomW m = ((natsOf zs).zip m |>.map fun p => if 0 < p.1 then 2 ^ (15 - p.2) else 0).sum := by
    unfold roomW
    have e : m = ((natsOf zs).zip m).map (·.2) := by rw [List.map_snd_zip (by omega)]
    conv => lhs; rw [e]
    rw [List.map_map]
    congr 1
    apply List.map_congr_left
    intro p hp
    obtain ⟨i, hi, rfl⟩ := zip_mem_get _ _ h3 p hp
    have := (h4 i hi).1
    simp only [Function.comp]
    by_cases h0 : (natsOf zs).getD i 0 = 0
    · rw [if_pos (this.2 h0), if_neg (by omega)]
    · rw [if_neg (fun hh => h0 (this.1 hh)), if_pos (by omega)]
  rw [hr, wide_used (natsOf zs) m (fun x => 2 ^ (15 - x)) h3]
  have e2 : ((used (natsOf zs)).map fun i => 2 ^ (15 - m.getD i 0)) = (used (natsOf zs)).map fun i => 2 ^ (15 - most.toNat) * 2 ^ (most.toNat - m.getD i 0) := by
    apply List.map_congr_left
    intro i hi
    have h6 := (h4 i ((used_mem _ i).1 hi).1).2
    rw [← Nat.pow_add, show 15 - most.toNat + (most.toNat - m.getD i 0) = 15 - m.getD i 0 by omega]
  rw [e2]
  have e3 : ∀ l : List Nat, (l.map fun i => 2 ^ (15 - most.toNat) * 2 ^ (most.toNat - m.getD i 0)).sum = 2 ^ (15 - most.toNat) * (l.map fun i => 2 ^ (most.toNat - m.getD i 0)).sum := by
    intro l
    induction l with
    | nil => simp
    | cons a l ih => simp only [List.map_cons, List.sum_cons, ih, Nat.mul_add]
  rw [e3, h5, ← Nat.pow_add, show 15 - most.toNat + most.toNat = 15 by omega]
theorem cost_least (zs : List Int) (most : Int) (h : chkW zs most = 0) : costI zs (lenI zs most) = (leastN (natsOf zs) most.toNat : Int) := by
  obtain ⟨a1, a2⟩ := chk_best zs most h
  rw [costI_len _ _ h, least_cost _ _ a1 a2]
theorem cost_tuple {zs os : List Int} {e : Ending} {w w' : World} (h : (costE zs os ≠ 0 ∧ e = .returned (.tuple #[.int .i64 0, .int .i64 (costE zs os)]) ∨ costE zs os = 0 ∧ e = .returned (.tuple #[.int .i64 (costI zs os), .int .i64 0])) ∧ w' = w) :
    ∃ cv, e = .returned (.tuple #[.int .i64 cv, .int .i64 (costE zs os)]) ∧ (costE zs os = 0 → cv = costI zs os) ∧ (costE zs os ≠ 0 → cv = 0) := by
  rcases h.1 with ⟨h1, rfl⟩ | ⟨h1, rfl⟩
  · exact ⟨0, rfl, fun h => absurd h h1, fun _ => rfl⟩
  · exact ⟨_, by rw [h1], fun _ => rfl, fun h => absurd h1 h⟩
theorem want_tuple {zs : List Int} {most : Int} {e : Ending} {w w' : World} (h : (chkW zs most ≠ 0 ∧ e = .returned (.tuple #[.int .i64 0, .int .i64 (chkW zs most)]) ∨ chkW zs most = 0 ∧ e = .returned (.tuple #[.int .i64 (usedI zs : Int), .int .i64 0])) ∧ w' = w) :
    ∃ nn, e = .returned (.tuple #[.int .i64 nn, .int .i64 (chkW zs most)]) ∧ (chkW zs most = 0 → nn = (usedI zs : Int)) := by
  rcases h.1 with ⟨h1, rfl⟩ | ⟨h1, rfl⟩
  · exact ⟨0, rfl, fun h => absurd h h1⟩
  · exact ⟨_, by rw [h1], fun _ => rfl⟩
theorem len_tuple {zs : List Int} {most : Int} {w : World} {e : Ending} {w' : World} (h : LenPost zs most w e w') : ∃ A n c, e = .returned (.tuple #[.slice A n c, .int .i64 (chkW zs most)]) ∧ (chkW zs most ≠ 0 → n = 0) ∧ (chkW zs most = 0 → n = zs.length ∧ SlAt w' A ((lengthsP (natsOf zs) most.toNat).map nv)) := by
  rcases h.1 with ⟨h1, rfl⟩ | ⟨h1, v, rfl, hown⟩
  · exact ⟨none, 0, 0, rfl, fun _ => rfl, fun h => absurd h h1⟩
  · obtain ⟨A, c, rfl, _, _, hs, _⟩ := own_slat hown
    exact ⟨A, zs.length, c, by rw [h1], fun h => absurd h1 h, fun _ => ⟨rfl, hs⟩⟩
theorem second_bad (zs os : List Int) (hl : zs.length = os.length) (h0 : chkW zs 15 = 0) (i : Nat) (h1 : i < (zs.zip os).length) (hb : badC (zs.zip os)[i] = true) : costE zs os = 3 := by
  unfold costE
  rw [if_neg (by omega), if_neg (by rw [h0]; simp), if_pos (List.any_eq_true.2 ⟨_, List.getElem_mem h1, hb⟩)]
set_option maxRecDepth 100000 in
set_option maxHeartbeats 8000000 in
theorem walk (W : World) (v0 : Value) (zs : List Int) (h0 : Ints W v0 zs) (most : Int) (wm : wfI most) (v2 : Value) (os : List Int) (h2 : Ints W v2 os) :
    Calls Try.prog 10 #[v0, .int .i64 most, v2] W fun e W' => e = .returned (.bool true) ∧ Below W.heap.size W W' := by
  obtain ⟨A, ca, rfl, g1, g2, hA, _, _⟩ := h0
  obtain ⟨B, cb, rfl, g3, g4, hB, _, _⟩ := h2
  have HA := Lib.hid (ints_at hA)
  have HB := Lib.hid (ints_at hB)
  obtain ⟨N, hN⟩ : ∃ N, N = zs.length := ⟨_, rfl⟩
  obtain ⟨M, hM⟩ : ∃ M, M = os.length := ⟨_, rfl⟩
  rw [← hN] at g1 ⊢
  rw [← hM] at g3 ⊢
  have HN := Lib.hid hN.symm
  have HM := Lib.hid hM.symm
  have Hxn : Hid (N ≤ maxLen) := Lib.hid (by omega)
  have Hxm : Hid (M ≤ maxLen) := Lib.hid (by omega)
  have hNb : N ≤ 9223372036854775807 := by have := Hxn.out; unfold maxLen at this; omega
  have hMb : M ≤ 9223372036854775807 := by have := Hxm.out; unfold maxLen at this; omega
  clear hA hB hN hM g1 g2 g3 g4 wm
  go_enter Try.func10, Try.ntmps10
  go_wp2_with fail
  refine (lengths_any A N ca zs most W HN.out Hxn.out HA.out).mono ?_
  intro e w1 hp
  have Hb1 := Lib.hid hp.2
  obtain ⟨A1, n1, c1, rfl, hn0, hn1⟩ := len_tuple hp
  have Hn0 := Lib.hid hn0
  have Hn1 := Lib.hid hn1
  clear hp hn0 hn1
  go_wp2_with fail
  refine (cost_any A B N M ca cb zs os w1 HN.out HM.out Hxn.out Hxm.out (HA.out.below Hb1.out) (HB.out.below Hb1.out)).mono ?_
  intro e wx hp
  obtain ⟨cv, rfl, hcv1, hcv2⟩ := cost_tuple hp
  have hw := hp.2.symm
  subst hw
  have Hcv1 := Lib.hid hcv1
  have Hcv2 := Lib.hid hcv2
  clear hp hcv1 hcv2
  go_wp2_with fail
  refine (wanted_any A N ca zs most w1 HN.out Hxn.out (HA.out.below Hb1.out)).mono ?_
  intro e wx hp
  obtain ⟨nn, rfl, hnn⟩ := want_tuple hp
  have hw := hp.2.symm
  subst hw
  have Hnn := Lib.hid hnn
  clear hp hnn
  go_wp2_with fail
  refine (weighed_any w1).mono ?_
  rintro e w2 ⟨rfl, hb2⟩
  have Hb2 := Lib.hid (stepN Hb1.out hb2)
  have Hn2 : Hid (chkW zs most = 0 → n1 = zs.length ∧ SlAt w2 A1 ((lengthsP (natsOf zs) most.toNat).map nv)) := Lib.hid (fun h => ⟨(Hn1.out h).1, (Hn1.out h).2.below hb2⟩)
  clear hb2 Hn1
  go_wp2_with fail
  refine (wanted_any A N ca zs 15 w2 HN.out Hxn.out (HA.out.below Hb2.out)).mono ?_
  intro e wx hp
  obtain ⟨nn2, rfl, _⟩ := want_tuple hp
  have hw := hp.2.symm
  subst hw
  clear hp
  generalize hbad : chkW zs most = bad at *
  have Hbad := Lib.hid hbad
  clear hbad
  generalize hfe : costE zs os = fe at *
  have Hfe := Lib.hid hfe
  clear hfe
  have HA2 := Lib.hid (HA.out.below Hb2.out)
  have HB2 := Lib.hid (HB.out.below Hb2.out)
  go_upto_if 49 with fail
  obtain ⟨sc, hsc⟩ : ∃ sc, sc = if N = M then chkW zs 15 else 4 := ⟨_, rfl⟩
  have Hsc := Lib.hid hsc
  clear hsc
  go_cut [14] from 45 to 49 (fun sv wx => sv = .int .i64 sc ∧ wx = w2)
  case first =>
    by_cases hNM : N = M
    · have hsc2 : Hid (sc = chkW zs 15) := Lib.hid (by rw [Hsc.out, if_pos hNM])
      have hne : ((N : Int) != (M : Int)) = false := by simp; omega
      clear hNM
      go_wp2_with fail
      go_meet
      case rel => exact ⟨by rw [hsc2.out], rfl⟩
    · have hsc2 : Hid (sc = 4) := Lib.hid (by rw [Hsc.out, if_neg hNM])
      have hne : ((N : Int) != (M : Int)) = true := by simp; omega
      clear hNM
      go_wp2_with fail
      go_meet
      case rel => exact ⟨by rw [hsc2.out], rfl⟩
  case rest =>
    obtain ⟨rfl, hw⟩ := hcut
    have hw := hw.symm
    subst hw
    have Hfe4 : Hid (N ≠ M → fe = 4) := Lib.hid (fun h => by rw [← Hfe.out]; unfold costE; rw [HN.out, HM.out, if_pos h])
    have Hfe0 : Hid (N = M → fe = if sc ≠ 0 then sc else if (zs.zip os).any badC = true then 3 else 0) := Lib.hid (fun h => by rw [Hsc.out, if_pos h, ← Hfe.out]; unfold costE; rw [HN.out, HM.out, if_neg (by omega)])
    have Hsc4 : Hid (N ≠ M → sc = 4) := Lib.hid (fun h => by rw [Hsc.out, if_neg h])
    have Hsc0 : Hid (N = M → sc = chkW zs 15) := Lib.hid (fun h => by rw [Hsc.out, if_pos h])
    clear Hsc
    obtain ⟨ps, hps⟩ : ∃ ps, ps = zs.zip os := ⟨_, rfl⟩
    have Hps := Lib.hid hps
    clear hps
    rw [← Hps.out] at Hfe0
    have Hstart : Hid (sc ≠ 0 → sc = fe) := Lib.hid (fun h => by
      by_cases hNM : N = M
      · rw [Hfe0.out hNM, if_pos h]
      · rw [Hfe4.out hNM, Hsc4.out hNM])
    have Hstart0 : Hid (sc = 0 → N = M) := Lib.hid (fun h => by
      by_cases hNM : N = M
      · exact hNM
      · have := Hsc4.out hNM; omega)
    have Hpl : Hid (N = M → ps.length = N) := Lib.hid (fun h => by rw [Hps.out, List.length_zip, HN.out, HM.out]; omega)
    have HS : Hid (costI zs os = sumP ps) := Lib.hid (by rw [Hps.out]; rfl)
    have Hget : Hid (∀ k (h : k < ps.length) (h1 : k < zs.length) (h2 : k < os.length), ps[k] = (zs[k], os[k])) := Lib.hid (by have := Hps.out; subst this; intro k h h1 h2; simp)
    have Hmem : Hid (sc = 0 → ∀ p ∈ ps, 0 ≤ p.1 ∧ p.1 ≤ 1000000) := Lib.hid (by
      intro h p hp
      have h9 := Hstart0.out h
      obtain ⟨f1, f2, _⟩ := chkW_fine zs 15 (by rw [← Hsc0.out h9]; exact h)
      have := Hps.out; subst this
      exact f2 p.1 (List.of_mem_zip hp).1)
    have H288 : Hid (sc = 0 → N ≤ 288) := Lib.hid (by
      intro h
      have h9 := Hstart0.out h
      obtain ⟨f1, f2, _⟩ := chkW_fine zs 15 (by rw [← Hsc0.out h9]; exact h)
      have := HN.out; omega)
    have Hb22 : Hid (Below w2.heap.size w2 w2) := Lib.hid (Below.refl _ _)
    go_upto_block 0 with fail
    go_cut [14, 15] from 50 to 96 (fun sv av wx => ∃ all : Int, sv = .int .i64 fe ∧ av = .int .i64 all ∧ (fe = 0 → all = costI zs os) ∧ Below w2.heap.size w2 wx)
    case first =>
      go_wp2_with fail
      go_loopw [14, 15, 16] (fun sv av iv wx => ∃ (k : Nat) (all s : Int), k ≤ N ∧ iv = .int .i64 (k : Int) ∧ av = .int .i64 all ∧ sv = .int .i64 s ∧ Below w2.heap.size w2 wx ∧ (s ≠ 0 ∧ s = fe ∨ s = 0 ∧ sc = 0 ∧ (∀ p ∈ ps.take k, badC p = false) ∧ all = sumP (ps.take k))) (fun _ _ i _ => N - (intOf i).toNat)
      case atStart =>
        refine ⟨0, 0, sc, Nat.zero_le _, rfl, rfl, rfl, Hb22.out, ?_⟩
        by_cases h : sc = 0
        · exact .inr ⟨h, h, by simp, rfl⟩
        · exact .inl ⟨h, Hstart.out h⟩
      case round =>
        obtain ⟨k, all, s, hk, rfl, rfl, rfl, hbx, hs⟩ := hrel
        have Hbx := Lib.hid hbx
        clear hbx
        rcases hs with ⟨hs1, hs2⟩ | ⟨rfl, hsc0, hany, rfl⟩
        · have hs3 : (s == 0) = false := by simpa using hs1
          have Hs2 := Lib.hid hs2
          clear hs1 hs2
          go_wp2_with fail
          go_meet
          case rel => exact ⟨all, by rw [Hs2.out], rfl, fun h => (by rw [← Hs2.out] at h; subst h; cases hs3), Hbx.out⟩
        · have hs3 : ((0 : Int) == 0) = true := rfl
          have hNM := Hstart0.out hsc0
          have Hany := Lib.hid hany
          have hN288 := H288.out hsc0
          have hbd := sumP_bd (ps.take k) (fun p hp => by
            have h1 := Hmem.out hsc0 p (List.mem_of_mem_take hp)
            have h2 := hany p hp
            simp [badC] at h2
            omega)
          have hlen : (ps.take k).length ≤ 288 := by rw [List.length_take]; omega
          clear hany
          by_cases hlt : k < N
          · have hkz : k < zs.length := by rw [HN.out]; exact hlt
            have hkm : k < os.length := by rw [HM.out]; omega
            have hkp : k < ps.length := by rw [Hpl.out hNM]; exact hlt
            have hkM : k < M := by omega
            obtain ⟨b, o, rfl, hc⟩ := (HA2.out.below Hbx.out).get hkz
            obtain ⟨b2, o2, rfl, hc2⟩ := (HB2.out.below Hbx.out).get hkm
            have Hs := Lib.hid (sumP_take ps k hkp)
            have hg := Hget.out k hkp hkz hkm
            have hz := Hmem.out hsc0 ps[k] (List.getElem_mem hkp)
            have Hb3 : Hid (badC ps[k] = true → (3 : Int) = fe) := Lib.hid (fun h => by rw [Hfe0.out hNM, if_neg (by omega), if_pos (List.any_eq_true.2 ⟨_, List.getElem_mem hkp, h⟩)])
            have Hgood : Hid (badC ps[k] = false → ∀ p ∈ ps.take (k + 1), badC p = false) := Lib.hid (fun h p hp => by
              rw [take_snoc _ _ hkp] at hp
              rcases List.mem_append.1 hp with hp | hp
              · exact Hany.out p hp
              · simp at hp; subst hp; exact h)
            rw [hg] at hz Hs Hb3 Hgood
            generalize sumP (ps.take k) = s at *
            generalize zs[k] = z at *
            generalize os[k] = q at *
            clear hg
            simp only at hz
            have HsC := Lib.hid hsc0
            have HNM := Lib.hid hNM
            clear hsc0 hNM
            by_cases h1 : q < 0
            · have Hf := Lib.hid (Hb3.out (by simp [badC, h1]))
              clear Hb3 Hgood Hs
              go_wp2_with fail
              go_roundw
              case rel => exact ⟨k + 1, _, 3, by omega, by go_num, rfl, rfl, Hbx.out, .inl ⟨by decide, Hf.out⟩⟩
              case measure => simp [intOf]; omega
            · have d1 : decide (q < 0) = false := by simp; omega
              by_cases h2 : 15 < q
              · have Hf := Lib.hid (Hb3.out (by simp [badC, h2]))
                clear Hb3 Hgood Hs
                go_wp2_with fail
                go_roundw
                case rel => exact ⟨k + 1, _, 3, by omega, by go_num, rfl, rfl, Hbx.out, .inl ⟨by decide, Hf.out⟩⟩
                case measure => simp [intOf]; omega
              · have d2 : decide (15 < q) = false := by simp; omega
                have h15 : q ≤ 15 := by omega
                have hmul : z * q ≤ 15000000 := by
                  have := Int.mul_le_mul hz.2 h15 (by omega) (by omega : (0:Int) ≤ 1000000)
                  omega
                have hmul0 : 0 ≤ z * q := Int.mul_nonneg hz.1 (by omega)
                by_cases h3 : 0 < z
                · by_cases h4 : q = 0
                  · subst h4
                    have Hf := Lib.hid (Hb3.out (by simp [badC, h3]))
                    have d4 : ((0 : Int) == 0) = true := rfl
                    clear Hb3 Hgood Hs
                    go_wp2_with fail
                    go_roundw
                    case rel => exact ⟨k + 1, _, 3, by omega, by go_num, rfl, rfl, Hbx.out, .inl ⟨by decide, Hf.out⟩⟩
                    case measure => simp [intOf]; omega
                  · have d4 : (q == 0) = false := by simpa using h4
                    have Hg := Lib.hid (Hgood.out (by simp [badC, d1, d2, h4]))
                    clear Hb3 Hgood
                    generalize hmm : z * q = zq at *
                    go_wp2_with fail
                    go_quiet (fail)
                    go_wp2_with fail
                    go_roundw
                    case rel => exact ⟨k + 1, s + zq, 0, by omega, by go_num, by go_num, rfl, below_drewN' Hbx.out _, .inr ⟨rfl, HsC.out, Hg.out, by rw [Hs.out]⟩⟩
                    case measure => simp [intOf]; omega
                · have d3 : decide (0 < z) = false := by simp; omega
                  have Hg := Lib.hid (Hgood.out (by simp [badC, d1, d2, d3]))
                  clear Hb3 Hgood
                  generalize hmm : z * q = zq at *
                  go_wp2_with fail
                  go_quiet (fail)
                  go_wp2_with fail
                  go_roundw
                  case rel => exact ⟨k + 1, s + zq, 0, by omega, by go_num, by go_num, rfl, below_drewN' Hbx.out _, .inr ⟨rfl, HsC.out, Hg.out, by rw [Hs.out]⟩⟩
                  case measure => simp [intOf]; omega
          · obtain rfl : k = N := by omega
            have Htk := Lib.hid (List.take_of_length_le (by rw [Hpl.out hNM]; omega : ps.length ≤ k))
            have hall := Hany.out
            rw [Htk.out] at hall hbd ⊢
            have Hf : Hid ((0 : Int) = fe) := Lib.hid (by rw [Hfe0.out hNM, if_neg (by omega), if_neg]; rw [Bool.not_eq_true, List.any_eq_false]; intro p hp; simp [hall p hp])
            clear hall
            go_wp2_with fail
            go_meet
            case rel => exact ⟨_, by rw [← Hf.out], rfl, fun _ => HS.out.symm, Hbx.out⟩
    case rest =>
      obtain ⟨all, rfl, rfl, hall, hbc⟩ := hcut
      have HBc := Lib.hid hbc
      have HA3 := Lib.hid (HA2.out.below hbc)
      have HB3 := Lib.hid (HB2.out.below hbc)
      have Hn3 : Hid (bad = 0 → n1 = zs.length ∧ SlAt wc A1 ((lengthsP (natsOf zs) most.toNat).map nv)) := Lib.hid (fun h => ⟨(Hn2.out h).1, (Hn2.out h).2.below hbc⟩)
      have Hb3 := Lib.hid (stepN Hb2.out hbc)
      have Hall : Hid (fe = 0 → cv = all) := Lib.hid (fun h => by rw [Hcv1.out h, hall h])
      clear hall hbc Hb22 Hget Hmem H288 HS Hpl Hstart0 Hstart Hfe0 Hfe4 Hsc4 Hsc0 Hps Hn2 HA2 HB2 hw
      go_upto_region 16 with fail
      go_cut [116] from 97 to 116 (fun sv wx => sv = .bool false ∧ wx = wc)
      case first =>
        by_cases hf0 : fe = 0
        · have h1 := Hall.out hf0
          subst hf0 h1
          have d1 : ((0 : Int) == 0) = true := rfl
          have d2 : ((0 : Int) != 0) = false := rfl
          go_wp2_with fail
          go_meet
          case rel => exact ⟨rfl, rfl⟩
        · have h1 := Hcv2.out hf0
          subst h1
          have d1 : (fe == 0) = false := by simpa using hf0
          have d2 : ((0 : Int) != 0) = false := rfl
          have d3 : (fe != 0) = true := by simpa using hf0
          go_wp2_with fail
          go_meet
          case rel => exact ⟨rfl, rfl⟩
      case rest =>
        obtain ⟨rfl, hw⟩ := hcut
        have hw := hw.symm
        subst hw
        by_cases hb0 : bad = 0
        · subst hb0
          obtain ⟨rfl, hsl⟩ := Hn3.out rfl
          have Hsl := Lib.hid hsl
          have hnn := Hnn.out rfl
          subst hnn
          clear hsl Hnn Hn3 Hn0
          rw [HN.out]
          have hsl2 := Hsl.out
          rw [lenI_iv] at hsl2
          obtain ⟨f1, f2, f3, f4, f5⟩ := chkW_fine zs most Hbad.out
          have hl := lenI_len zs most Hbad.out
          have Hlen := Lib.hid (len_at zs most Hbad.out)
          have Hone : Hid (usedI zs = 1 → _) := Lib.hid (one_max zs most Hbad.out)
          have Hroom : Hid (2 ≤ usedI zs → _) := Lib.hid (full_room zs most Hbad.out)
          have Hcl := Lib.hid (cost_least zs most Hbad.out)
          have H15 : Hid (∀ x ∈ lengthsP (natsOf zs) most.toNat, x ≤ 15) := Lib.hid (by
            intro x hx
            have hm : Int.ofNat x ∈ lenI zs most := List.mem_map.2 ⟨x, hx, rfl⟩
            obtain ⟨k, hk, he⟩ := List.mem_iff_getElem.1 hm
            have := (Hlen.out k (by omega) hk).2.1
            rw [he] at this
            have h9 : (x : Int) ≤ most := this
            omega)
          have Hlp : Hid ((lengthsP (natsOf zs) most.toNat).length = N) := Lib.hid (by rw [← HN.out, ← hl]; simp [lenI])
          obtain ⟨xs, hxs⟩ : ∃ xs, xs = lenI zs most := ⟨_, rfl⟩
          rw [← hxs] at hsl2 hl Hlen Hcl
          have Hxs := Lib.hid hxs
          have Hxl : Hid (xs.length = N) := Lib.hid (by rw [hl, HN.out])
          have HX : Hid (InAt wc A1 xs) := Lib.hid hsl2
          obtain ⟨qs, hqs⟩ : ∃ qs, qs = zs.zip xs := ⟨_, rfl⟩
          have Hqs : Hid (costI zs xs = sumP qs) := Lib.hid (by rw [hqs]; rfl)
          have Hql : Hid (qs.length = N) := Lib.hid (by rw [hqs, List.length_zip, HN.out, hl, HN.out]; omega)
          have Hqget : Hid (∀ k (h : k < qs.length) (h1 : k < zs.length) (h2 : k < xs.length), qs[k] = (zs[k], xs[k])) := Lib.hid (by subst hqs; intro k h h1 h2; simp)
          have hqm : ∀ p ∈ qs, 0 ≤ p.1 ∧ p.1 ≤ 1000000 ∧ 0 ≤ p.2 ∧ p.2 ≤ 15 := by
            intro p hp
            obtain ⟨k, hk, he⟩ := List.mem_iff_getElem.1 hp
            have hkz : k < zs.length := by rw [HN.out]; have := Hql.out; omega
            have hkx : k < xs.length := by rw [Hxl.out]; have := Hql.out; omega
            have h1 := Hqget.out k hk hkz hkx
            have h2 := Hlen.out k hkz hkx
            have h3 := f2 _ (List.getElem_mem hkz)
            rw [← he, h1]
            simp only
            omega
          have Hqm := Lib.hid hqm
          have hN288 : N ≤ 288 := by have := HN.out; omega
          obtain ⟨L, rfl⟩ := Int.eq_ofNat_of_zero_le (by omega : 0 ≤ most)
          have HL := Lib.hid (least_any A N ca L zs)
          clear hqs hqm hsl2 hl hxs f1 f2 f3 f4 f5
          have hused := usedI_le zs
          rw [HN.out] at hused
          go_wp2_with fail
          go_loop [17, 138] (fun s i => ∃ k : Nat, k ≤ N ∧ i = .int .i64 (k : Int) ∧ s = .int .i64 (sumP (qs.take k))) (fun _ i => N - (intOf i).toNat)
          case atStart => exact ⟨0, Nat.zero_le _, rfl, rfl⟩
          case round =>
            obtain ⟨k, hk, rfl, rfl⟩ := hrel
            have hbd := sumP_bd (qs.take k) (fun p hp => Hqm.out p (List.mem_of_mem_take hp))
            have hlen : (qs.take k).length ≤ 288 := by rw [List.length_take]; omega
            by_cases hlt : k < N
            · have hkz : k < zs.length := by rw [HN.out]; exact hlt
              have hkx : k < xs.length := by rw [Hxl.out]; exact hlt
              have hkq : k < qs.length := by rw [Hql.out]; exact hlt
              obtain ⟨b, o, rfl, hc⟩ := HA3.out.get hkz
              obtain ⟨b2, o2, rfl, hc2⟩ := HX.out.get hkx
              have Hs := Lib.hid (sumP_take qs k hkq)
              have hg := Hqget.out k hkq hkz hkx
              have hz := Hqm.out qs[k] (List.getElem_mem hkq)
              obtain ⟨hx0, hxm, hiff⟩ := Hlen.out k hkz hkx
              rw [hg] at hz Hs
              generalize sumP (qs.take k) = s at *
              generalize zs[k] = z at *
              generalize xs[k] = q at *
              clear hg
              simp only at hz
              have dq0 : decide (q < 0) = false := by simp; omega
              have dqm : decide ((L : Int) < q) = false := by simp; omega
              have hmul : z * q ≤ 15000000 := by
                have := Int.mul_le_mul hz.2.1 hz.2.2.2 (by omega) (by omega : (0:Int) ≤ 1000000)
                omega
              have hmul0 : 0 ≤ z * q := Int.mul_nonneg hz.1 (by omega)
              have hcomm : q * z = z * q := Int.mul_comm _ _
              generalize hmm : z * q = zq at *
              by_cases h3 : 0 < z
              · have h3q := hiff.2 h3
                clear hiff
                go_wp2_with fail
                go_round
                case rel => exact ⟨k + 1, by omega, by go_num, by rw [Hs.out]⟩
                case measure => simp [intOf]; omega
              · have d3 : decide (0 < z) = false := by simp; omega
                have d3q : decide (0 < q) = false := by
                  rw [decide_eq_false_iff_not]; exact fun h => h3 (hiff.1 h)
                clear hiff
                go_wp2_with fail
                go_round
                case rel => exact ⟨k + 1, by omega, by go_num, by rw [Hs.out]⟩
                case measure => simp [intOf]; omega
            · obtain rfl : k = N := by omega
              have Htk := Lib.hid (List.take_of_length_le (by rw [Hql.out]; omega : qs.length ≤ k))
              rw [Htk.out] at hbd ⊢
              clear hlen
              have hsum : sumP qs = (leastN (natsOf zs) L : Int) := by
                rw [← Hqs.out, Hcl.out, Int.toNat_natCast]
              rw [hsum] at hbd ⊢
              clear hsum
              generalize leastN (natsOf zs) L = le at *
              have HLL := Lib.hid (HL.out wc HN.out HA3.out Hbad.out)
              have hone := Hone.out
              have hroom := Hroom.out
              rw [← Hxs.out] at hone
              clear hbd HL Hone Hroom Hall Hcv1 Hcv2 Hfe
              generalize usedI zs = u at *
              by_cases hu1 : u = 1
              · subst hu1
                have Hone := Lib.hid (hone rfl)
                clear hone hroom
                go_wp2_with fail
                refine (max_any A1 k c1 xs wc Hxl.out (by omega) Hxn.out HX.out).mono ?_
                rintro e wx ⟨⟨mm, rfl, hm1, hm2⟩, hw⟩
                have hw := hw.symm
                subst hw
                have hmm := Hone.out mm hm1 hm2
                subst hmm
                clear hm1 hm2
                go_wp2_with fail
                refine (HLL.out).mono ?_
                rintro e wx ⟨rfl, hbx⟩
                have Hbx := Lib.hid hbx
                clear hbx
                go_wp2_with fail
                go_ret
                exact ⟨rfl, stepN Hb3.out Hbx.out⟩
              · have d1 : ((u : Int) == 1) = false := by simp; omega
                by_cases hu2 : 1 < u
                · have Hroom := Lib.hid (hroom (by omega))
                  clear hone hroom
                  go_wp2_with fail
                  refine (room_any A1 k c1 _ wc Hlp.out (by omega) H15.out Hsl.out).mono ?_
                  rintro e wx ⟨rfl, hw⟩
                  have hw := hw.symm
                  subst hw
                  rw [Hroom.out]
                  go_wp2_with fail
                  refine (HLL.out).mono ?_
                  rintro e wx ⟨rfl, hbx⟩
                  have Hbx := Lib.hid hbx
                  clear hbx
                  go_wp2_with fail
                  go_ret
                  exact ⟨rfl, stepN Hb3.out Hbx.out⟩
                · have d2 : decide (1 < u) = false := by simp; omega
                  clear hone hroom
                  go_wp2_with fail
                  refine (HLL.out).mono ?_
                  rintro e wx ⟨rfl, hbx⟩
                  have Hbx := Lib.hid hbx
                  clear hbx
                  go_wp2_with fail
                  go_ret
                  exact ⟨rfl, stepN Hb3.out Hbx.out⟩
        · have h1 := Hn0.out hb0
          subst h1
          have d3 : (bad != 0) = true := by simpa using hb0
          go_wp2_with fail
          go_ret
          exact ⟨rfl, Hb3.out⟩
end Go.Proofs.Ytdponlnfdjfljaa.WeighLengths
