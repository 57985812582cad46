/- reliquarylaw.WeighLess: the walk. -/
import Derived.Test.YtdponlnfdjfljaaWeighFact
import Derived.Test.YtdponlnfdjfljaaCodeCheck
import Derived.Test.YtdponlnfdjfljaaMaxI
import Derived.Deep.CutRange
import Derived.Test.YtdponlnfdjfljaaInts
namespace Go.Proofs.Ytdponlnfdjfljaa.WeighLess
open Go Go.RowKit Go.Proofs.Ytdponlnfdjfljaa Go.Proofs.Ytdponlnfdjfljaa.Weigh Go.Proofs.Ytdponlnfdjfljaa.SP
set_option linter.unusedVariables false

theorem chk_more (zs : List Int) (most : Int) (h : chkW zs most = 0) (hm : most < 15) : chkW zs (most + 1) = 0 := by
  obtain ⟨f1, f2, f3, f4, f5⟩ := chkW_fine zs most h
  have hp : (2 : Nat) ^ most.toNat ≤ 2 ^ (most + 1).toNat := Nat.pow_le_pow_right (by omega) (by omega)
  unfold chkW
  rw [if_neg (by omega), if_neg, if_neg (by omega), if_neg (by omega)]
  rw [Bool.not_eq_true, List.any_eq_false]
  intro x hx
  have := f2 x hx
  simp [badWant]; omega
theorem cost_less (zs : List Int) (most : Int) (h : chkW zs most = 0) (hm : most < 15) : costI zs (lenI zs (most + 1)) ≤ costI zs (lenI zs most) := by
  obtain ⟨f1, f2, f3, f4, f5⟩ := chkW_fine zs most h
  obtain ⟨a1, a2⟩ := chk_best zs most h
  rw [costI_len _ _ h, costI_len _ _ (chk_more zs most h hm), show (most + 1).toNat = most.toNat + 1 by omega]
  have := cost_more (natsOf zs) most.toNat a1 a2
  omega
theorem sum_le_sum {α : Type} (ps : List α) (f g : α → Nat) (h : ∀ p ∈ ps, f p ≤ g p) : (ps.map f).sum ≤ (ps.map g).sum := by
  induction ps with
  | nil => simp
  | cons p ps ih =>
    have h1 := h p (by simp)
    have h2 := ih (fun q hq => h q (by simp [hq]))
    simp only [List.map_cons, List.sum_cons]
    omega
theorem sum_mul_left {α : Type} (ps : List α) (f : α → Nat) (c : Nat) : (ps.map fun p => c * f p).sum = c * (ps.map f).sum := by
  induction ps with
  | nil => simp
  | cons p ps ih => simp only [List.map_cons, List.sum_cons, ih, Nat.mul_add]
theorem other_valid (a b : List Nat) (L : Nat) (hl : b.length = a.length) (hL : L ≤ 15) (h1 : ∀ p ∈ a.zip b, 0 < p.1 → 1 ≤ p.2) (h2 : ∀ x ∈ b, x ≤ L) (hr : Code.room b ≤ 32768) : ValidZ (a.zip b) L := by
  refine ⟨fun p hp h0 => ⟨h1 p hp h0, h2 _ (List.of_mem_zip hp).2⟩, ?_⟩
  have e1 : ((a.zip b).map fun p => if p.2 = 0 then 0 else 2 ^ (15 - p.2)).sum = Code.room b := by
    unfold Code.room
    have : b = (a.zip b).map (·.2) := by rw [List.map_snd_zip (by omega)]
    conv => rhs; rw [this]
    rw [List.map_map]; rfl
  have e2 : ((a.zip b).map fun p => 2 ^ (15 - L) * (if 0 < p.1 then 2 ^ (L - p.2) else 0)).sum ≤ ((a.zip b).map fun p => if p.2 = 0 then 0 else 2 ^ (15 - p.2)).sum := by
    refine sum_le_sum _ _ _ (fun p hp => ?_)
    by_cases h0 : 0 < p.1
    · have g1 := h1 p hp h0
      have g2 := h2 _ (List.of_mem_zip hp).2
      rw [if_pos h0, if_neg (by omega), ← Nat.pow_add, show 15 - L + (L - p.2) = 15 - p.2 by omega]
      exact Nat.le_refl _
    · rw [if_neg h0, Nat.mul_zero]; exact Nat.zero_le _
  rw [sum_mul_left, e1] at e2
  have e3 : (2 : Nat) ^ (15 - L) * 2 ^ L = 32768 := by rw [← Nat.pow_add, show 15 - L + L = 15 by omega]
  have e4 : 2 ^ (15 - L) * ((a.zip b).map fun p => if 0 < p.1 then 2 ^ (L - p.2) else 0).sum ≤ 2 ^ (15 - L) * 2 ^ L := by omega
  exact Nat.le_of_mul_le_mul_left e4 (Nat.pow_pos (by omega))
theorem cost_other (zs os : List Int) (most : Int) (h : chkW zs most = 0) (hl : os.length = zs.length) (hc : Code.chkL os = 0) (hm : ∀ x ∈ os, x ≤ most) (he : costE zs os = 0) : costI zs (lenI zs most) ≤ costI zs os := by
  obtain ⟨f1, f2, f3, f4, f5⟩ := chkW_fine zs most h
  obtain ⟨a1, a2⟩ := chk_best zs most h
  obtain ⟨g1, g2, g3, g4, g5⟩ := Code.chk_fine os hc
  obtain ⟨b1, b2, b3, b4⟩ := best (natsOf zs) most.toNat a1 a2
  have hz := natsOf_back zs (fun x hx => (f2 x hx).1)
  have ho := natsOf_back os (fun x hx => (g5 x hx).1)
  have hco : costI zs os = (costZ ((natsOf zs).zip (natsOf os)) : Int) := by
    conv => lhs; rw [hz, ho]
    exact costI_nat _ _
  rw [costI_len _ _ h, hco]
  have hlen : (natsOf os).length = (natsOf zs).length := by rw [natsOf_len, natsOf_len, hl]
  have hv : ValidZ ((natsOf zs).zip (natsOf os)) most.toNat := by
    refine other_valid _ _ _ hlen (by omega) (fun p hp h0 => ?_) (fun x hx => ?_) g3
    · have hp2 : ((p.1 : Int), (p.2 : Int)) ∈ zs.zip os := by
        have e : zs.zip os = ((natsOf zs).zip (natsOf os)).map (Prod.map Int.ofNat Int.ofNat) := by
          conv => lhs; rw [hz, ho]
          rw [List.zip_map]
        rw [e]
        exact List.mem_map.2 ⟨p, hp, rfl⟩
      unfold costE at he
      rw [if_neg (by omega), if_neg (by rw [chkW_15 zs most h]; simp)] at he
      have hb : badC ((p.1 : Int), (p.2 : Int)) = false := by
        cases hb : badC ((p.1 : Int), (p.2 : Int)) with
        | false => rfl
        | true => rw [if_pos (List.any_eq_true.2 ⟨_, hp2, hb⟩)] at he; omega
      simp [badC] at hb
      omega
    · unfold natsOf at hx
      obtain ⟨y, hy, rfl⟩ := List.mem_map.1 hx
      have := hm y hy
      omega
  have := b4 (natsOf os) hlen hv
  omega
theorem own_ints {w : World} {base n : Nat} {v : Value} {xs : List Int} (h : w.ownsRow base 3 1 v n (xs.map iv)) : ∃ A c, v = .slice A n c ∧ InAt w A xs ∧ xs.length = n := by
  obtain ⟨A, c, h1, h2, h3, h4, h5⟩ := own_slat h
  exact ⟨A, c, h1, h4, by have := h.1; simpa using this⟩
set_option maxRecDepth 100000 in
set_option maxHeartbeats 8000000 in
/-- the statement's second half -/
theorem walk (W : World) (v0 : Value) (zs : List Int) (h0 : Ints W v0 zs) (most : Int) (wm : wfI most) (v2 : Value) (os : List Int) (h2 : Ints W v2 os) :
    Calls Try.prog 9 #[v0, .int .i64 most, v2] W fun e W' => e = .returned (.bool true) ∧ Below W.heap.size W W' := by
  obtain ⟨A, ca, rfl, g1, g2, hA, _, _⟩ := h0
  obtain ⟨B, cb, rfl, g3, g4, hB, _, _⟩ := h2
  have HA := Lib.hid (ints_at hA)
  have HB := Lib.hid (ints_at hB)
  obtain ⟨N, hN⟩ : ∃ N, N = zs.length := ⟨_, rfl⟩
  obtain ⟨M, hM⟩ : ∃ M, M = os.length := ⟨_, rfl⟩
  rw [← hN] at g1 ⊢
  rw [← hM] at g3 ⊢
  have HN := Lib.hid hN.symm
  have HM := Lib.hid hM.symm
  have Hxn : Hid (N ≤ maxLen) := Lib.hid (by omega)
  have Hxm : Hid (M ≤ maxLen) := Lib.hid (by omega)
  have hNb : N ≤ 9223372036854775807 := by have := Hxn.out; unfold maxLen at this; omega
  have hMb : M ≤ 9223372036854775807 := by have := Hxm.out; unfold maxLen at this; omega
  clear hA hB hN hM g1 g2 g3 g4 wm
  go_enter Try.func9, Try.ntmps9
  go_wp2_with fail
  refine (lengths_any A N ca zs most W HN.out Hxn.out HA.out).mono ?_
  rintro e w1 ⟨hp, hb1⟩
  have Hb1 := Lib.hid hb1
  clear hb1
  rcases hp with ⟨hbad, rfl⟩ | ⟨hok, v1, rfl, hown⟩
  · generalize chkW zs most = z at *
    have hz : (z == 0) = false := by simpa using hbad
    go_wp2_with fail
    refine (weighed_any w1).mono ?_
    rintro e w2 ⟨rfl, hb2⟩
    have Hb2 := Lib.hid (stepN Hb1.out hb2)
    clear hb2
    go_wp2_with fail
    refine (weighed_any w2).mono ?_
    rintro e w3 ⟨rfl, hb3⟩
    have Hb3 := Lib.hid (stepN Hb2.out hb3)
    clear hb3
    go_wp2_with fail
    go_ret
    exact ⟨rfl, Hb3.out⟩
  · have Hok := Lib.hid hok
    obtain ⟨f1, f2, f3, f4, f5⟩ := chkW_fine zs most hok
    have hN288 : N ≤ 288 := by rw [← HN.out]; exact f1
    rw [lenI_iv] at hown
    obtain ⟨A1, c1, rfl, hA1, hl1⟩ := own_ints hown
    have HA1 := Lib.hid hA1
    have Hl1 := Lib.hid hl1
    rw [HN.out] at Hl1 ⊢
    clear hown hA1 hl1 f1 f2 f5 hok
    go_wp2_with fail
    refine (weighed_any w1).mono ?_
    rintro e w2 ⟨rfl, hb2⟩
    have Hb2 := Lib.hid (stepN Hb1.out hb2)
    have HA12 := Lib.hid (HA1.out.below hb2)
    clear hb2 HA1
    go_wp2_with fail
    refine (cost_any A A1 N N ca c1 zs (lenI zs most) w2 HN.out Hl1.out Hxn.out Hxn.out (HA.out.below Hb2.out) HA12.out).mono ?_
    rintro e wx ⟨hp, hw⟩
    have hw := hw.symm
    subst hw
    rcases hp with ⟨hbad, _⟩ | ⟨_, rfl⟩
    · exact absurd (costE_len zs most Hok.out) hbad
    have Hless := Lib.hid (cost_less zs most Hok.out)
    have Hoth := Lib.hid (cost_other zs os most Hok.out)
    generalize costI zs (lenI zs most) = cc at *
    go_upto_if 38 with fail
    go_cut [9] from 37 to 62 (fun cv wx => cv = .int .i64 cc ∧ Below W.heap.size W wx)
    case first =>
      by_cases hm : most < 15
      · have hle := Hless.out hm
        go_wp2_with fail
        refine (lengths_any A N ca zs (most + 1) w2 HN.out Hxn.out (HA.out.below Hb2.out)).mono ?_
        rintro e w3 ⟨hp, hb3⟩
        have Hb3 := Lib.hid (stepN Hb2.out hb3)
        clear hb3
        rcases hp with ⟨hbad, _⟩ | ⟨hok2, v3, rfl, hown⟩
        · exact absurd (chk_more zs most Hok.out hm) hbad
        rw [lenI_iv] at hown
        obtain ⟨A3, c3, rfl, hA3, hl3⟩ := own_ints hown
        have HA3 := Lib.hid hA3
        rw [HN.out] at hl3 ⊢
        have Hl3 := Lib.hid hl3
        have Hce := Lib.hid (costE_len zs (most + 1) hok2)
        clear hown hA3 hl3 hok2
        go_wp2_with fail
        refine (cost_any A A3 N N ca c3 zs (lenI zs (most + 1)) w3 HN.out Hl3.out Hxn.out Hxn.out (HA.out.below Hb3.out) HA3.out).mono ?_
        rintro e wx ⟨hp, hw⟩
        have hw := hw.symm
        subst hw
        rcases hp with ⟨hbad, _⟩ | ⟨_, rfl⟩
        · exact absurd Hce.out hbad
        generalize costI zs (lenI zs (most + 1)) = dd at *
        have hdd : ¬ (cc < dd) := by omega
        go_wp2_with fail
        go_meet
        case rel => exact ⟨rfl, Hb3.out⟩
      · go_wp2_with fail
        go_meet
        case rel => exact ⟨rfl, Hb2.out⟩
    case rest =>
      obtain ⟨rfl, hbw⟩ := hcut
      have Hbw := Lib.hid hbw
      clear hbw
      by_cases hMN : M = N
      · subst hMN
        have hne : ((M : Int) != (M : Int)) = false := by simp
        go_wp2_with fail
        refine (Code.check_any B M cb os wc HM.out Hxm.out (HB.out.below Hbw.out)).mono ?_
        rintro e wx ⟨rfl, hw⟩
        have hw := hw.symm
        subst hw
        by_cases hck : Code.chkL os = 0
        · have Hck := Lib.hid hck
          rw [hck]
          clear hck
          by_cases hM0 : M = 0
          · have hz0 : ((M : Int) == 0) = true := by simp; omega
            go_wp2_with fail
            go_ret
            exact ⟨rfl, Hbw.out⟩
          · have hz0 : ((M : Int) == 0) = false := by simp; omega
            go_wp2_with fail
            refine (max_any B M cb os wc HM.out (by omega) Hxm.out (HB.out.below Hbw.out)).mono ?_
            rintro e wx ⟨⟨mm, rfl, hm1, hm2⟩, hw⟩
            have hw := hw.symm
            subst hw
            have Hm2 := Lib.hid hm2
            clear hm1 hm2
            by_cases hmm : most < mm
            · go_wp2_with fail
              go_ret
              exact ⟨rfl, Hbw.out⟩
            · go_wp2_with fail
              refine (cost_any A B M M ca cb zs os wc HN.out HM.out Hxn.out Hxm.out (HA.out.below Hbw.out) (HB.out.below Hbw.out)).mono ?_
              rintro e wx ⟨hp, hw⟩
              have hw := hw.symm
              subst hw
              rcases hp with ⟨hbad, rfl⟩ | ⟨hok3, rfl⟩
              · generalize costE zs os = z at *
                have hz : (z == 0) = false := by simpa using hbad
                go_wp2_with fail
                go_ret
                exact ⟨rfl, Hbw.out⟩
              · have hge := Hoth.out (by rw [HM.out, HN.out]) Hck.out (fun x hx => by have := Hm2.out x hx; omega) hok3
                generalize costI zs os = dd at *
                go_wp2_with fail
                go_ret
                exact ⟨rfl, Hbw.out⟩
        · generalize Code.chkL os = z at *
          have hz : (z == 0) = false := by simpa using hck
          go_wp2_with fail
          go_ret
          exact ⟨rfl, Hbw.out⟩
      · have hne : ((M : Int) != (N : Int)) = true := by simp; omega
        go_wp2_with fail
        go_ret
        exact ⟨rfl, Hbw.out⟩
end Go.Proofs.Ytdponlnfdjfljaa.WeighLess
