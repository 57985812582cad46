/- package weigh: Cost, both. -/
import Derived.Test.YtdponlnfdjfljaaWeighCheck
import Derived.Test.YtdponlnfdjfljaaCloneI
import Derived.Test.YtdponlnfdjfljaaKeep
namespace Go.Proofs.Ytdponlnfdjfljaa.Weigh
open Go Go.RowKit Go.Proofs.Ytdponlnfdjfljaa
set_option linter.unusedVariables false

def badC (p : Int × Int) : Bool := decide (p.2 < 0) || (decide (15 < p.2) || (decide (0 < p.1) && p.2 == 0))
def costI (zs ms : List Int) : Int := ((zs.zip ms).map fun p => p.1 * p.2).sum
/-- what Cost says -/
def costE (zs ms : List Int) : Int := if zs.length ≠ ms.length then 4 else if chkW zs 15 ≠ 0 then chkW zs 15 else if (zs.zip ms).any badC = true then 3 else 0
def sumP (ps : List (Int × Int)) : Int := (ps.map fun p => p.1 * p.2).sum
theorem sumP_take (ps : List (Int × Int)) (k : Nat) (h : k < ps.length) : sumP (ps.take (k + 1)) = sumP (ps.take k) + ps[k].1 * ps[k].2 := by
  unfold sumP
  rw [take_snoc _ _ h, List.map_append, List.sum_append]
  simp only [List.map_cons, List.map_nil, List.sum_cons, List.sum_nil, Int.add_zero]
theorem sumP_bd (ps : List (Int × Int)) (h : ∀ p ∈ ps, 0 ≤ p.1 ∧ p.1 ≤ 1000000 ∧ 0 ≤ p.2 ∧ p.2 ≤ 15) : 0 ≤ sumP ps ∧ sumP ps ≤ 15000000 * ps.length := by
  induction ps with
  | nil => simp [sumP]
  | cons p ps ih =>
    have h1 := h p (by simp)
    have h2 := ih (fun q hq => h q (by simp [hq]))
    have e : sumP (p :: ps) = p.1 * p.2 + sumP ps := by simp [sumP]
    have h3 : p.1 * p.2 ≤ 1000000 * 15 := Int.mul_le_mul h1.2.1 h1.2.2.2 h1.2.2.1 (by omega)
    have h4 : 0 ≤ p.1 * p.2 := Int.mul_nonneg h1.1 h1.2.2.1
    rw [e, List.length_cons]
    omega
set_option maxRecDepth 100000 in
set_option maxHeartbeats 1600000 in
theorem cost_any (A B : Option Addr) (n m ca cb : Nat) (zs ms : List Int) (w : World) (hn : zs.length = n) (hm : ms.length = m) (hx : n ≤ maxLen) (hy : m ≤ maxLen) (hA : InAt w A zs) (hB : InAt w B ms) :
    Calls Try.prog 38 #[.slice A n ca, .slice B m cb] w fun e w' => (costE zs ms ≠ 0 ∧ e = .returned (.tuple #[.int .i64 0, .int .i64 (costE zs ms)]) ∨ costE zs ms = 0 ∧ e = .returned (.tuple #[.int .i64 (costI zs ms), .int .i64 0])) ∧ w' = w := by
  have hx' : n ≤ 9223372036854775807 := by unfold maxLen at hx; omega
  have hy' : m ≤ 9223372036854775807 := by unfold maxLen at hy; omega
  by_cases hnm : n = m
  · subst hnm
    have HC := Lib.hid (checkW_any A n ca zs 15 w hn hx hA)
    by_cases h0 : chkW zs 15 = 0
    · obtain ⟨f1, f2, _, _, _⟩ := chkW_fine zs 15 h0
      have F2 := Lib.hid f2
      have Hn := Lib.hid hn
      have Hm := Lib.hid hm
      have HA := Lib.hid hA
      have HB := Lib.hid hB
      have HE : Hid (costE zs ms = if (zs.zip ms).any badC = true then 3 else 0) := Lib.hid (by unfold costE; rw [if_neg (by rw [hn, hm]; simp), if_neg (by rw [h0]; simp)])
      have hn288 : n ≤ 288 := by omega
      obtain ⟨ps, hps⟩ : ∃ ps, ps = zs.zip ms := ⟨_, rfl⟩
      have Hps := Lib.hid hps
      have Hpl : Hid (ps.length = n) := Lib.hid (by rw [hps, List.length_zip, hn, hm]; omega)
      have HS : Hid (costI zs ms = sumP ps) := Lib.hid (by rw [hps]; rfl)
      rw [← hps] at HE
      have Hget : Hid (∀ k (h : k < ps.length) (h1 : k < zs.length) (h2 : k < ms.length), ps[k] = (zs[k], ms[k])) := Lib.hid (by subst hps; intro k h h1 h2; simp)
      have Hmem : Hid (∀ p ∈ ps, 0 ≤ p.1 ∧ p.1 ≤ 1000000) := Lib.hid (by subst hps; intro p hp; exact f2 p.1 (List.of_mem_zip hp).1)
      rw [h0] at HC
      clear hn hm hA hB h0 f1 f2 hps hx hy
      go_enter Try.func38, Try.ntmps38
      go_wp2_with fail
      refine (HC.out).mono ?_
      rintro e wx ⟨rfl, hw⟩
      have hw := hw.symm
      subst hw
      go_wp2_with fail
      go_loop [7, 22] (fun s i => ∃ k : Nat, k ≤ n ∧ i = .int .i64 (k : Int) ∧ (∀ p ∈ ps.take k, badC p = false) ∧ s = .int .i64 (sumP (ps.take k))) (fun _ i => n - (intOf i).toNat)
      case atStart => exact ⟨0, Nat.zero_le _, rfl, by simp, rfl⟩
      case round =>
        obtain ⟨k, hk, rfl, hany, rfl⟩ := hrel
        have Hany := Lib.hid hany
        have hbd := sumP_bd (ps.take k) (fun p hp => by
          have h1 := Hmem.out p (List.mem_of_mem_take hp)
          have h2 := hany p hp
          simp [badC] at h2
          omega)
        have hlen : (ps.take k).length ≤ 288 := by rw [List.length_take]; omega
        clear hany
        by_cases hlt : k < n
        · have hkz : k < zs.length := by rw [Hn.out]; exact hlt
          have hkm : k < ms.length := by rw [Hm.out]; exact hlt
          have hkp : k < ps.length := by rw [Hpl.out]; exact hlt
          obtain ⟨b, o, rfl, hc⟩ := HA.out.get hkz
          obtain ⟨b2, o2, rfl, hc2⟩ := HB.out.get hkm
          have Hs := Lib.hid (sumP_take ps k hkp)
          have hg := Hget.out k hkp hkz hkm
          have hz := Hmem.out ps[k] (List.getElem_mem hkp)
          have Hbad : Hid (badC ps[k] = true → costE zs ms = 3) := Lib.hid (fun h => by rw [HE.out, if_pos (List.any_eq_true.2 ⟨_, List.getElem_mem hkp, h⟩)])
          have Hgood : Hid (badC ps[k] = false → ∀ p ∈ ps.take (k + 1), badC p = false) := Lib.hid (fun h p hp => by
            rw [take_snoc _ _ hkp] at hp
            rcases List.mem_append.1 hp with hp | hp
            · exact Hany.out p hp
            · simp at hp; subst hp; exact h)
          rw [hg] at hz Hs Hbad Hgood
          generalize sumP (ps.take k) = s at *
          generalize zs[k] = z at *
          generalize ms[k] = q at *
          clear hg
          simp only at hz
          by_cases h1 : q < 0
          · have Hf := Lib.hid (Hbad.out (by simp [badC, h1]))
            clear Hbad Hgood Hs
            go_wp2_with fail
            go_ret2
            exact ⟨.inl ⟨by rw [Hf.out]; decide, by rw [Hf.out]; rfl⟩, rfl⟩
          · have d1 : decide (q < 0) = false := by simp; omega
            by_cases h2 : 15 < q
            · have Hf := Lib.hid (Hbad.out (by simp [badC, h2]))
              clear Hbad Hgood Hs
              go_wp2_with fail
              go_ret2
              exact ⟨.inl ⟨by rw [Hf.out]; decide, by rw [Hf.out]; rfl⟩, rfl⟩
            · have d2 : decide (15 < q) = false := by simp; omega
              have h15 : q ≤ 15 := by omega
              have hmul : z * q ≤ 15000000 := by
                have := Int.mul_le_mul hz.2 h15 (by omega) (by omega : (0:Int) ≤ 1000000)
                omega
              have hmul0 : 0 ≤ z * q := Int.mul_nonneg hz.1 (by omega)
              by_cases h3 : 0 < z
              · by_cases h4 : q = 0
                · subst h4
                  have Hf := Lib.hid (Hbad.out (by simp [badC, h3]))
                  have d4 : ((0 : Int) == 0) = true := rfl
                  clear Hbad Hgood Hs
                  go_wp2_with fail
                  go_ret2
                  exact ⟨.inl ⟨by rw [Hf.out]; decide, by rw [Hf.out]; rfl⟩, rfl⟩
                · have d4 : (q == 0) = false := by simpa using h4
                  have Hg := Lib.hid (Hgood.out (by simp [badC, d1, d2, h4]))
                  clear Hbad Hgood
                  generalize hmm : z * q = zq at *
                  go_wp2_with fail
                  go_round
                  case rel => exact ⟨k + 1, by omega, by go_num, Hg.out, by rw [Hs.out]⟩
                  case measure => simp [intOf]; omega
              · have d3 : decide (0 < z) = false := by simp; omega
                have Hg := Lib.hid (Hgood.out (by simp [badC, d1, d2, d3]))
                clear Hbad Hgood
                generalize hmm : z * q = zq at *
                go_wp2_with fail
                go_round
                case rel => exact ⟨k + 1, by omega, by go_num, Hg.out, by rw [Hs.out]⟩
                case measure => simp [intOf]; omega
        · obtain rfl : k = n := by omega
          have Htk := Lib.hid (List.take_of_length_le (by rw [Hpl.out]; omega : ps.length ≤ k))
          have hall := Hany.out
          rw [Htk.out] at hall ⊢
          have Hf : Hid (costE zs ms = 0) := Lib.hid (by rw [HE.out, if_neg]; rw [Bool.not_eq_true, List.any_eq_false]; intro p hp; simp [hall p hp])
          rw [← HS.out]
          clear hall hbd
          go_wp2_with fail
          go_ret2
          exact ⟨.inr ⟨Hf.out, rfl⟩, rfl⟩
    · have Hf : Hid (costE zs ms = chkW zs 15) := Lib.hid (by unfold costE; rw [if_neg (by rw [hn, hm]; simp), if_pos h0])
      clear hn hm hA hB hx hy
      generalize chkW zs 15 = z at *
      have h1 : (z == 0) = false := by simpa using h0
      go_enter Try.func38, Try.ntmps38
      go_wp2_with fail
      refine (HC.out).mono ?_
      rintro e wx ⟨rfl, rfl⟩
      go_wp2_with fail
      go_ret2
      exact ⟨.inl ⟨by rw [Hf.out]; exact h0, by rw [Hf.out]; rfl⟩, rfl⟩
  · have hd : ((n : Int) != (m : Int)) = true := by simp; omega
    have Hf : Hid (costE zs ms = 4) := Lib.hid (by unfold costE; rw [if_pos (by omega)])
    clear hn hm hA hB hx hy hnm
    go_enter Try.func38, Try.ntmps38
    go_wp2_with fail
    go_ret2
    exact ⟨.inl ⟨by rw [Hf.out]; decide, by rw [Hf.out]; rfl⟩, rfl⟩
end Go.Proofs.Ytdponlnfdjfljaa.Weigh
