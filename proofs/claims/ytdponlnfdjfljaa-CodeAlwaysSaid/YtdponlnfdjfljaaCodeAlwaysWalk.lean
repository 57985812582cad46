/- reliquarylaw.CodeAlways: the walk. -/
import Derived.Test.YtdponlnfdjfljaaCodeFact
import Derived.Test.YtdponlnfdjfljaaInts
import Derived.Test.YtdponlnfdjfljaaOpen
namespace Go.Proofs.Ytdponlnfdjfljaa.CodeAlways
open Go Go.RowKit Go.Proofs.Ytdponlnfdjfljaa Go.Proofs.Ytdponlnfdjfljaa.Bits Go.Proofs.Ytdponlnfdjfljaa.Code
set_option linter.unusedVariables false

theorem rd_says (zs : List Int) (xs : List UInt8) (many : Int) (h0 : chkL zs = 0) (hx : xs.length ≤ 6000) (hf : fullB (lsOf zs) = true) :
    rdE zs xs many = 0 ∨ rdE zs xs many = 7 ∨ (rdE zs xs many = 8 ∧ usedN (lsOf zs) < 2) ∨ (rdE zs xs many = 2 ∧ (many < 0 ∨ 3000 < many)) := by
  obtain ⟨f1, f2, f3, f4, f5⟩ := chk_fine zs h0
  unfold rdE
  rw [if_neg (by rw [h0]; simp)]
  by_cases h1 : 6000 < xs.length ∨ many < 0 ∨ 3000 < many
  · rw [if_pos h1]; right; right; right; exact ⟨rfl, by omega⟩
  · rw [if_neg h1]
    rcases riter_err (lsOf zs) (bitsL xs) many.toNat with h | h | h
    · left; exact h
    · right; left; exact h
    · right; right; left
      refine ⟨h, ?_⟩
      rcases Nat.lt_or_ge (usedN (lsOf zs)) 2 with h2 | h2
      · exact h2
      · exfalso
        have hr : room (lsOf zs) = 32768 := by
          unfold fullB at hf
          simp at hf
          rcases hf with hf | hf
          · exact hf
          · omega
        exact riter_full (lsOf zs) (bitsL xs) many.toNat f4 hr h
theorem rd_tuple {zs : List Int} {xs : List UInt8} {many : Int} {w w' : World} {e : Ending} (h : ReadPost zs xs many w e w') : ∃ v, e = .returned (.tuple #[v, .int .i64 (rdE zs xs many)]) := by
  rcases h.1 with ⟨_, rfl⟩ | ⟨h0, v, rfl, _⟩
  · exact ⟨_, rfl⟩
  · exact ⟨v, by rw [h0]⟩
set_option maxRecDepth 100000 in
set_option maxHeartbeats 4000000 in
theorem walk (W : World) (v0 : Value) (zs : List Int) (h0 : Ints W v0 zs) (v1 : Value) (xs : List UInt8) (h1 : IsBytes W v1 xs) (many : Int) (wm : wfI many) :
    Calls Try.prog 4 #[v0, v1, .int .i64 many] W fun e W' => e = .returned (.bool true) ∧ Below W.heap.size W W' := by
  obtain ⟨A, ca, rfl, g1, g2, hA, _, _⟩ := h0
  obtain ⟨B, cb, rfl, g3, g4, hB⟩ := h1
  have HA := Lib.hid (ints_at hA)
  have HB := Lib.hid hB
  obtain ⟨N, hN⟩ : ∃ N, N = zs.length := ⟨_, rfl⟩
  obtain ⟨M, hM⟩ : ∃ M, M = xs.length := ⟨_, rfl⟩
  rw [← hN] at g1 ⊢
  rw [← hM] at g3 ⊢
  have HN := Lib.hid hN.symm
  have HM := Lib.hid hM.symm
  have Hxn : Hid (N ≤ maxLen) := Lib.hid (by omega)
  have Hxm : Hid (M ≤ maxLen) := Lib.hid (by omega)
  have hNb : N ≤ 9223372036854775807 := by have := Hxn.out; unfold maxLen at this; omega
  have hMb : M ≤ 9223372036854775807 := by have := Hxm.out; unfold maxLen at this; omega
  clear hA hB hN hM g1 g2 g3 g4 wm
  go_enter Try.func4, Try.ntmps4
  go_wp2_with fail
  refine (full_any A N ca zs W HN.out Hxn.out HA.out).mono ?_
  rintro e wx ⟨hp, hw⟩
  have hw := hw.symm
  subst hw
  rcases hp with ⟨hbad, rfl⟩ | ⟨hok, rfl⟩
  · generalize chkL zs = z at *
    have hz : (z == 0) = false := by simpa using hbad
    go_wp2_with fail
    refine (coded_any W).mono ?_
    rintro e w2 ⟨rfl, hb2⟩
    have Hb2 := Lib.hid hb2
    clear hb2
    go_wp2_with fail
    refine (coded_any w2).mono ?_
    rintro e w3 ⟨rfl, hb3⟩
    have Hb3 := Lib.hid (stepN Hb2.out hb3)
    clear hb3
    go_wp2_with fail
    go_ret
    exact ⟨rfl, Hb3.out⟩
  · have Hok := Lib.hid hok
    clear hok
    cases hf : fullB (lsOf zs) with
    | false =>
      clear hf
      go_wp2_with fail
      refine (coded_any W).mono ?_
      rintro e w2 ⟨rfl, hb2⟩
      have Hb2 := Lib.hid hb2
      clear hb2
      go_wp2_with fail
      refine (coded_any w2).mono ?_
      rintro e w3 ⟨rfl, hb3⟩
      have Hb3 := Lib.hid (stepN Hb2.out hb3)
      clear hb3
      go_wp2_with fail
      go_ret
      exact ⟨rfl, Hb3.out⟩
    | true =>
      have Hf := Lib.hid hf
      clear hf
      by_cases h6 : 6000 < (M : Int)
      · go_wp2_with fail
        refine (coded_any W).mono ?_
        rintro e w2 ⟨rfl, hb2⟩
        have Hb2 := Lib.hid hb2
        clear hb2
        go_wp2_with fail
        refine (coded_any w2).mono ?_
        rintro e w3 ⟨rfl, hb3⟩
        have Hb3 := Lib.hid (stepN Hb2.out hb3)
        clear hb3
        go_wp2_with fail
        go_ret
        exact ⟨rfl, Hb3.out⟩
      · have Hsay := Lib.hid (rd_says zs xs many Hok.out (by rw [HM.out]; omega) Hf.out)
        go_wp2_with fail
        refine (coded_any W).mono ?_
        rintro e w2 ⟨rfl, hb2⟩
        have Hb2 := Lib.hid hb2
        have HA2 := Lib.hid (HA.out.below hb2)
        have HB2 := Lib.hid (SlAt.below HB.out hb2)
        clear hb2
        go_wp2_with fail
        go_loop [9, 35] (fun u i => ∃ k : Nat, k ≤ N ∧ i = .int .i64 (k : Int) ∧ u = .int .i64 (usedN (lsOf (zs.take k)) : Int)) (fun _ i => N - (intOf i).toNat)
        case atStart => exact ⟨0, Nat.zero_le _, rfl, rfl⟩
        case round =>
          obtain ⟨k, hk, rfl, rfl⟩ := hrel
          have hus := usedN_le (lsOf (zs.take k))
          rw [lsOf_len, List.length_take] at hus
          by_cases hlt : k < N
          · have hkl : k < zs.length := by rw [HN.out]; exact hlt
            obtain ⟨b, o, rfl, hc⟩ := HA2.out.get hkl
            have Hu := Lib.hid (usedN_take zs k hkl)
            have hz := (chk_fine zs Hok.out).2.2.2.2 zs[k] (List.getElem_mem hkl)
            generalize usedN (lsOf (zs.take k)) = u at *
            generalize zs[k] = z at *
            obtain ⟨x, hx⟩ := Int.eq_ofNat_of_zero_le hz.1
            rw [hx, Int.toNat_natCast] at Hu
            by_cases h0 : x = 0
            · rw [if_pos h0] at Hu
              have d : ¬ (0 < z) := by omega
              clear hx h0
              go_wp2_with fail
              go_round
              case rel => exact ⟨k + 1, by omega, by go_num, by rw [Hu.out]; rfl⟩
              case measure => simp [intOf]; omega
            · rw [if_neg h0] at Hu
              have d : 0 < z := by omega
              clear hx h0
              go_wp2_with fail
              go_round
              case rel => exact ⟨k + 1, by omega, by go_num, by rw [Hu.out]; go_num⟩
              case measure => simp [intOf]; omega
          · obtain rfl : k = N := by omega
            have Htk := Lib.hid (List.take_of_length_le (by rw [HN.out]; omega : zs.length ≤ k))
            rw [Htk.out] at hus ⊢
            generalize usedN (lsOf zs) = u at *
            go_wp2_with fail
            refine (read_any A B k M ca cb zs xs many w2 HN.out HM.out Hxn.out Hxm.out HA2.out HB2.out).mono ?_
            intro e w3 hp
            have Hb3 := Lib.hid (stepN Hb2.out hp.2)
            obtain ⟨v3, rfl⟩ := rd_tuple hp
            clear hp
            have hsay := Hsay.out
            generalize rdE zs xs many = z at *
            by_cases hu2 : u < 2
            · rcases hsay with rfl | rfl | ⟨rfl, _⟩ | ⟨rfl, _⟩
              · go_wp2_with fail
                go_ret
                exact ⟨rfl, Hb3.out⟩
              · go_wp2_with fail
                go_ret
                exact ⟨rfl, Hb3.out⟩
              · go_wp2_with fail
                go_ret
                exact ⟨rfl, Hb3.out⟩
              · go_wp2_with fail
                go_ret
                exact ⟨rfl, Hb3.out⟩
            · rcases hsay with rfl | rfl | ⟨rfl, hh⟩ | ⟨rfl, hh⟩
              · go_wp2_with fail
                go_ret
                exact ⟨rfl, Hb3.out⟩
              · go_wp2_with fail
                go_ret
                exact ⟨rfl, Hb3.out⟩
              · omega
              · by_cases hm : many < 0
                · go_wp2_with fail
                  go_ret
                  exact ⟨rfl, Hb3.out⟩
                · have h3 : 3000 < many := by omega
                  have d1 : decide (many < 0) = false := by simp; omega
                  go_wp2_with fail
                  go_ret
                  exact ⟨rfl, Hb3.out⟩
end Go.Proofs.Ytdponlnfdjfljaa.CodeAlways
