/- texts joined: InflateBackWalk. -/
import Derived.Test.YthpdcnjaodjjmaaBaseQ7
import Derived.Test.YthpdcnjaodjjmaaBaseQ8
/- reliquarylaw.InflateBack: the walk. -/
namespace Go.Proofs.Ythpdcnjaodjjmaa.InflateBack
open Go Go.RowKit Go.Proofs.Ythpdcnjaodjjmaa Go.Proofs.Ythpdcnjaodjjmaa.Bits Go.Proofs.Ythpdcnjaodjjmaa.Inf Go.Proofs.Ythpdcnjaodjjmaa.Rt Go.Proofs.Ythpdcnjaodjjmaa.Blk
open Go.Proofs.Ythpdcnjaodjjmaa.Code (lsOf natV nats)
set_option linter.unusedVariables false

theorem lsOf_back (ks : List Int) (h : ∀ k ∈ ks, 0 ≤ k ∧ k ≤ 2) : (lsOf ks).map Int.ofNat = ks := by
  unfold lsOf
  rw [List.map_map]
  conv => rhs; rw [← List.map_id ks]
  apply List.map_congr_left
  intro k hk
  have := h k hk
  show Int.ofNat k.toNat = k
  have e : Int.ofNat k.toNat = (k.toNat : Int) := rfl
  rw [e]; omega
set_option maxRecDepth 100000 in
set_option maxHeartbeats 3000000 in
theorem walk (W : World) (v0 : Value) (l : List (Value × List UInt8)) (h0 : IsL W (fun p : Value × List UInt8 => [p.1]) (fun p => IsBytes W p.1 p.2 ∧ p.2.length ≤ 140737488351232) v0 l) (b0 : l.length ≤ 140737488351232)
    (v1 : Value) (ks : List Int) (h1 : IsL W intC wfI v1 ks) (v2 : Value) (ms : List UInt8) (h2 : IsBytes W v2 ms) (b2 : ms.length ≤ 140737488351232) :
    Calls Try.prog 5 #[v0, v1, v2] W fun e W' => e = .returned (.bool true) ∧ Below W.heap.size W W' := by
  obtain ⟨PA, pc, rfl, hpl, hpm, hps, _, hpd⟩ := h0
  obtain ⟨KA, kc, rfl, hkl, hkm, hks, _, _⟩ := h1
  obtain ⟨MA, mc, rfl, hml, hmm, hms⟩ := h2
  rw [flat_sing (fun p : Value × List UInt8 => p.1)] at hps
  have hks' : InAt W KA ks := by
    have : ks.flatMap intC = ks.map iv := flat_sing iv ks
    rw [this] at hks; exact hks
  have HPs := Lib.hid hps
  have HPd := Lib.hid hpd
  have HKs := Lib.hid hks'
  have HMs := Lib.hid hms
  have HMm := Lib.hid hmm
  obtain ⟨n, hn⟩ : ∃ n, n = l.length := ⟨_, rfl⟩
  obtain ⟨m, hm⟩ : ∃ m, m = ks.length := ⟨_, rfl⟩
  obtain ⟨nm, hnm⟩ : ∃ m, m = ms.length := ⟨_, rfl⟩
  rw [← hn] at hpl ⊢
  rw [← hm] at hkl ⊢
  rw [← hnm] at hml b2 ⊢
  have HP := Lib.hid (bpack_any PA KA n pc m kc l ks W hn.symm hm.symm (by omega) (by omega) hps (fun q hq => (hpd q hq).1) (fun q hq => (hpd q hq).2) hks')
  have Hn := Lib.hid hn.symm
  have Hm := Lib.hid hm.symm
  have Hnm := Lib.hid hnm.symm
  have Hm2 := Lib.hid (show m ≤ maxLen by omega)
  have hnb : n ≤ 140737488351232 := by omega
  unfold maxLen at hpm hkm hmm
  clear hps hpd hks hks' hms hn hm hnm
  go_enter Try.func5, Try.ntmps5
  go_wp2_with fail
  refine (HP.out).mono ?_
  rintro e w1 ⟨h, hb1⟩
  have Hb1 := Lib.hid hb1
  clear hb1 HP
  rcases h with ⟨he, rfl⟩ | ⟨he, v1, rfl, ho1⟩
  · generalize packErr (l.map (·.2)) ks = z at *
    have hz : (z == 0) = false := by rw [beq_eq_false_iff_ne]; exact he
    have hzn : (z != 0) = true := by rw [bne, hz]; rfl
    clear he
    go_wp2_with fail
    refine (inflated_any _).mono ?_
    rintro e w2 ⟨rfl, hb2⟩
    have Hb2 := Lib.hid (Hb1.out.trans (hb2.mono Hb1.out.size))
    clear hb2 Hb1
    go_wp2_with fail
    refine (inflated_any _).mono ?_
    rintro e w3 ⟨rfl, hb3⟩
    have Hb3 := Lib.hid (Hb2.out.trans (hb3.mono Hb2.out.size))
    clear hb3 Hb2
    go_wp2_with fail
    go_ret
    exact ⟨rfl, Hb3.out⟩
  · have hle : (l.map (·.2)).length = n := by rw [List.length_map, Hn.out]
    have hpe : n ≠ 0 ∧ n = m ∧ packE (l.map (·.2)) ks n 0 0 = 0 := by
      unfold packErr at he
      rw [hle, Hm.out] at he
      by_cases h : n = 0 ∨ n ≠ m
      · rw [if_pos h] at he; simp at he
      · rw [if_neg h] at he; exact ⟨by omega, by omega, he⟩
    obtain ⟨hn0, rfl, hpe⟩ := hpe
    obtain ⟨q1, q2, q3⟩ := packE_all (l.map (·.2)) ks (by rw [hle]; exact hpe) (by rw [hle, Hm.out])
    have Hun := fun h6 => unpack_pack (l.map (·.2)) (lsOf ks) ms (by intro h; rw [h] at hle; simp at hle; omega) (by rw [hle]; unfold lsOf; rw [List.length_map, Hm.out]) (fun k hk => by
      unfold lsOf at hk
      obtain ⟨y, hy, rfl⟩ := List.mem_map.1 hk
      have := q1 y hy; omega) q3 h6
    have HUn := Lib.hid Hun
    have HKb := Lib.hid (lsOf_back ks q1)
    have Q3 := Lib.hid q3
    clear he hpe Hun q1 q3 hle
    obtain ⟨P, hP⟩ : ∃ P, P = packB (l.map (·.2)) (lsOf ks) := ⟨_, rfl⟩
    rw [← hP] at ho1 HUn
    have HP0 := Lib.hid hP
    have hpl40 : (l.map (·.2)).length ≤ 40 := q2
    clear hP
    obtain ⟨A1, c1, rfl, hc1, hcm1, hs1, _⟩ := own_slat ho1
    have HS1 : Hid (ByAt w1 A1 P) := Lib.hid hs1
    have HC1 := Lib.hid hcm1
    unfold maxLen at hcm1
    obtain ⟨np, hnp⟩ : ∃ p, p = P.length := ⟨_, rfl⟩
    rw [← hnp] at hc1 ⊢
    have Hnp := Lib.hid hnp.symm
    clear ho1 hs1 hnp
    have hnp3 : np ≤ 1000001 := by rw [← Hnp.out, HP0.out]; unfold packB; rw [pack_length]; have := packK_len (l.map (·.2)) (lsOf ks) Q3.out (l.map (·.2)).length; omega
    by_cases h6 : np + nm ≤ 6000
    · have h6' : ¬ (6000 : Int) < (np : Int) + (nm : Int) := by omega
      have HU := Lib.hid (HUn.out (by rw [List.length_append, Hnp.out, Hnm.out]; exact h6))
      go_wp2_with fail
      refine (inflated_any _).mono ?_
      rintro e w2 ⟨rfl, hb2⟩
      have Hb2 := Lib.hid (Hb1.out.trans (hb2.mono Hb1.out.size))
      have HS2 := Lib.hid (ByAt.below HS1.out hb2)
      clear hb2 Hb1 HS1 HUn
      go_wp2_with fail
      have hba : Below w2.heap.size w2 (w2.alloc (.cells #[.slice A1 np c1, .slice MA nm mc] 22)) := (Below.refl _ _).alloc (Nat.le_refl _) _
      have HSa := Lib.hid (ByAt.below HS2.out hba)
      have HMa := Lib.hid (ByAt.below (ByAt.below HMs.out Hb2.out) hba)
      have Hba := Lib.hid (Hb2.out.trans (hba.mono Hb2.out.size))
      refine (concat_bytes (some ⟨w2.heap.size, 0, none⟩) 2 2 [(.slice A1 np c1, P), (.slice MA nm mc, ms)] (P ++ ms) _ rfl (by omega) (SlAt.of_heap (heap_alloc_new _ _) rfl) ?_ (by simp) (by rw [List.length_append, Hnp.out, Hnm.out]; omega)).mono ?_
      · intro q hq
        simp only [List.mem_cons, List.not_mem_nil, or_false] at hq
        rcases hq with rfl | rfl
        · exact ⟨A1, c1, by rw [Hnp.out], by rw [Hnp.out]; exact hc1, HC1.out, HSa.out⟩
        · exact ⟨MA, mc, by rw [Hnm.out], by rw [Hnm.out]; exact hml, HMm.out, HMa.out⟩
      rintro e w3 ⟨⟨v3, rfl, ho3⟩, hb3⟩
      obtain ⟨A3, c3, rfl, hc3, hcm3, hs3, _⟩ := own_slat ho3
      have HS3 : Hid (ByAt w3 A3 (P ++ ms)) := Lib.hid hs3
      have Hb3 := Lib.hid (Hba.out.trans (hb3.mono Hba.out.size))
      have HS1 := Lib.hid (ByAt.below HSa.out hb3)
      have hl3 : (P ++ ms).length = np + nm := by rw [List.length_append, Hnp.out, Hnm.out]
      rw [hl3] at hc3 ⊢
      have Hl3 := Lib.hid hl3
      clear hba HSa HMa Hba ho3 hs3 hb3 HS2 Hb2 hl3
      go_wp2_with fail
      refine (unpack_any A3 (np + nm) c3 (P ++ ms) w3 Hl3.out (by unfold maxLen; omega) HS3.out).mono ?_
      rintro e w4 ⟨hu, hb4⟩
      unfold UPost at hu
      rw [HU.out] at hu
      obtain ⟨hu3, Ao, co, Ak, ck, rfl, hoo, hok⟩ := hu
      dsimp only at hu3 hoo hok ⊢
      have Hb4 := Lib.hid (Hb3.out.trans (hb4.mono Hb3.out.size))
      obtain ⟨_, _, e1, _, _, so, _⟩ := own_slat hoo
      injection e1 with e1 _ e2
      subst e1 e2
      obtain ⟨_, _, e1, _, _, sk, _⟩ := own_slat hok
      injection e1 with e1 _ e2
      subst e1 e2
      have HO := Lib.hid so
      have HK : Hid (InAt w4 Ak ks) := Lib.hid (by
        have : (lsOf ks).map natV = ks.map iv := by
          conv => rhs; rw [← HKb.out]
          rw [List.map_map]; rfl
        unfold InAt; rw [← this]; exact sk)
      have hkl2 : (lsOf ks).length = n := by unfold lsOf; rw [List.length_map, Hm.out]
      rw [Hnp.out, hkl2]
      obtain ⟨F, hF⟩ : ∃ F, F = (l.map (fun p => p.2)).flatten := ⟨_, rfl⟩
      rw [← hF] at HO ⊢
      have hF3 : F.length ≤ 3000 := by rw [hF]; exact Q3.out
      have HF := Lib.hid hF.symm
      clear hF
      obtain ⟨nf, hnf⟩ : ∃ x, x = F.length := ⟨_, rfl⟩
      rw [← hnf]
      have Hnf := Lib.hid hnf.symm
      have hee : ((np : Int) == (np : Int)) = true := by simp
      clear hoo hok so sk hb4 hu3 hnf hkl2 HU HS3 Hb3
      go_wp2_with fail
      refine (concat_bytes PA n pc l F w4 Hn.out (by omega) (SlAt.below HPs.out Hb4.out) (fun q hq => ?_) HF.out (by omega)).mono ?_
      · obtain ⟨A, c, g1, g2, g3, g4⟩ := (HPd.out q hq).1
        exact ⟨A, c, g1, g2, g3, ByAt.below g4 Hb4.out⟩
      rintro e w5 ⟨⟨v5, rfl, ho5⟩, hb5⟩
      obtain ⟨A5, c5, rfl, _, _, hs5, _⟩ := own_slat ho5
      have Hb5 := Lib.hid (Hb4.out.trans (hb5.mono Hb4.out.size))
      rw [Hnf.out]
      have HE := Lib.hid (equal_bytes Ao A5 nf nf co c5 F F w5 Hnf.out Hnf.out (SlAt.below HO.out hb5) hs5)
      rw [show decide (F = F) = true from by simp] at HE
      have HK5 := Lib.hid (InAt.below HK.out hb5)
      clear ho5 hs5 hb5 HO HK Hb4
      go_wp2_with fail
      refine (HE.out).mono ?_
      rintro e w6 ⟨rfl, hw6⟩
      have HK6 : Hid (InAt w6 Ak ks) := Lib.hid (by rw [hw6]; exact HK5.out)
      have Hb6 : Hid (Below W.heap.size W w6) := Lib.hid (by rw [hw6]; exact Hb5.out)
      clear hw6 HE HK5 Hb5
      go_wp2_with fail
      refine (equal_ints Ak KA n n ck kc ks ks w6 Hm.out Hm.out Hm2.out Hm2.out HK6.out (InAt.below HKs.out Hb6.out)).mono ?_
      rintro e w7 ⟨rfl, d, rfl⟩
      rw [show decide (ks = ks) = true from by simp]
      go_wp2_with fail
      go_ret
      exact ⟨rfl, below_drewN' Hb6.out d⟩
    · have h6' : (6000 : Int) < (np : Int) + (nm : Int) := by omega
      clear h6
      go_wp2_with fail
      refine (inflated_any _).mono ?_
      rintro e w2 ⟨rfl, hb2⟩
      have Hb2 := Lib.hid (Hb1.out.trans (hb2.mono Hb1.out.size))
      clear hb2 Hb1
      go_wp2_with fail
      refine (inflated_any _).mono ?_
      rintro e w3 ⟨rfl, hb3⟩
      have Hb3 := Lib.hid (Hb2.out.trans (hb3.mono Hb2.out.size))
      clear hb3 Hb2
      go_wp2_with fail
      go_ret
      exact ⟨rfl, Hb3.out⟩
end Go.Proofs.Ythpdcnjaodjjmaa.InflateBack
