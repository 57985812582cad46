/- reliquarylaw.MatchTokens: the walk. -/
import Derived.Test.YtoncjlbgheaabaaMatchBackWalk
namespace Go.Proofs.Ytoncjlbgheaabaa.MatchTokens
open Go Go.RowKit Go.Proofs.Ytoncjlbgheaabaa Go.Proofs.Ytoncjlbgheaabaa.Match
open Go.Proofs.Ytoncjlbgheaabaa.MatchBack (toks_wf)
set_option linter.unusedVariables false

set_option maxRecDepth 100000 in
set_option maxHeartbeats 1600000 in
theorem walk (W : World) (v : Value) (xs : List UInt8) (h : IsBytes W v xs) (k : Int) (wk : wfI k) :
    Calls Try.prog 13 #[v, .int .i64 k] W fun e W' => e = .returned (.bool true) ∧ Below W.heap.size W W' := by
  obtain ⟨A, cap, rfl, h1, h2, hA⟩ := h
  obtain ⟨n, hn⟩ : ∃ n, n = xs.length := ⟨_, rfl⟩
  rw [← hn] at h1 ⊢
  have HA := Lib.hid hA
  have Hn := Lib.hid hn.symm
  have Hx : Hid (n ≤ maxLen) := Lib.hid (by omega)
  clear hA hn h2 wk
  by_cases h3 : n ≤ 3000
  · have Hl := Lib.hid (toks_len xs)
    have Hwf := Lib.hid (toks_wf xs (by rw [Hn.out]; exact h3))
    rw [Hn.out] at Hl
    by_cases hk : k < 0 ∨ (n : Int) ≤ k
    · have Hr : Hid (longI xs k = (0, 0, 5)) := Lib.hid (by unfold longI; rw [Hn.out, if_neg (by omega), if_pos hk])
      have hnn : ¬ (3000 < (n : Int)) := by omega
      rcases hk with hk | hk
      all_goals
        go_enter Try.func13, Try.ntmps13
        go_wp2_with fail
        refine (tokens_yes A n cap xs W Hn.out h1 h3 HA.out).mono ?_
        rintro e w1 ⟨⟨v1, rfl, ho1⟩, hb1⟩
        obtain ⟨A1, c1, rfl, hc1, hc2, hA1, _⟩ := own_slat ho1
        have HA1 := Lib.hid hA1
        have Hb1 := Lib.hid hb1
        clear hA1 ho1 hb1
        go_wp2_with fail
        refine (longestL_any A n cap k xs w1 Hn.out Hx.out (SlAt.below HA.out Hb1.out)).mono ?_
        rintro e w2 ⟨rfl, q, rfl⟩
        rw [Hr.out]
        go_wp2_with fail
        refine (matched_any _).mono ?_
        rintro e w3 ⟨rfl, hb3⟩
        have HA3 := Lib.hid (SlAt.below (SlAt.drewN HA1.out q) hb3)
        have Hb3 := Lib.hid (stepN (below_drewN' Hb1.out q) hb3)
        clear hb3
        go_wp2_with fail
        refine (tokensOf_any A n cap xs w3 Hn.out h3 (SlAt.below HA.out Hb3.out)).mono ?_
        rintro e w4 ⟨⟨v4, rfl, ho4⟩, hb4⟩
        obtain ⟨A4, c4, rfl, hc3, hc4, hA4, _⟩ := own_slat ho4
        have HA4 := Lib.hid hA4
        have HA5 := Lib.hid (SlAt.below HA3.out hb4)
        have Hb4 := Lib.hid (stepN Hb3.out hb4)
        clear hA4 ho4 hb4
        generalize toks xs = ts at *
        go_wp2_with fail
        refine (equal_toks A1 A4 ts.length ts.length c1 c4 ts ts w4 rfl rfl (by have := Hl.out; omega) (by have := Hl.out; omega) HA5.out HA4.out Hwf.out Hwf.out).mono ?_
        rintro e w6 ⟨rfl, d, rfl⟩
        rw [show decide (ts = ts) = true from by simp]
        go_wp2_with fail
        go_ret
        exact ⟨rfl, below_drewN' Hb4.out d⟩
    · obtain ⟨z, rfl⟩ := Int.eq_ofNat_of_zero_le (by omega : 0 ≤ k)
      have hz : z < n := by omega
      have Hr : Hid (longI xs (z : Int) = (((longest xs z).1 : Int), ((longest xs z).2 : Int), 0)) := Lib.hid (by unfold longI; rw [Hn.out, if_neg (by omega), if_neg (by omega), Int.toNat_natCast])
      have hnn : ¬ (3000 < (n : Int)) := by omega
      clear hk
      go_enter Try.func13, Try.ntmps13
      go_wp2_with fail
      refine (tokens_yes A n cap xs W Hn.out h1 h3 HA.out).mono ?_
      rintro e w1 ⟨⟨v1, rfl, ho1⟩, hb1⟩
      obtain ⟨A1, c1, rfl, hc1, hc2, hA1, _⟩ := own_slat ho1
      have HA1 := Lib.hid hA1
      have Hb1 := Lib.hid hb1
      clear hA1 ho1 hb1
      go_wp2_with fail
      refine (longestL_any A n cap z xs w1 Hn.out Hx.out (SlAt.below HA.out Hb1.out)).mono ?_
      rintro e w2 ⟨rfl, q, rfl⟩
      rw [Hr.out]
      go_wp2_with fail
      refine (matched_any _).mono ?_
      rintro e w3 ⟨rfl, hb3⟩
      have HA3 := Lib.hid (SlAt.below (SlAt.drewN HA1.out q) hb3)
      have Hb3 := Lib.hid (stepN (below_drewN' Hb1.out q) hb3)
      clear hb3
      go_wp2_with fail
      refine (longestOf_any A n cap z xs w3 Hn.out (by omega) (SlAt.below HA.out Hb3.out) hz).mono ?_
      rintro e w7 ⟨rfl, q7, rfl⟩
      have HA7 := Lib.hid (SlAt.drewN HA3.out q7)
      have Hb7 := Lib.hid (below_drewN' Hb3.out q7)
      have e1 : ((((longest xs z).1 : Nat) : Int) != (((longest xs z).1 : Nat) : Int)) = false := by simp
      have e2 : ((((longest xs z).2 : Nat) : Int) != (((longest xs z).2 : Nat) : Int)) = false := by simp
      generalize longest xs z = s at *
      obtain ⟨s1, s2⟩ := s
      dsimp only at e1 e2 ⊢
      go_wp2_with fail
      refine (tokensOf_any A n cap xs _ Hn.out h3 (SlAt.below HA.out Hb7.out)).mono ?_
      rintro e w4 ⟨⟨v4, rfl, ho4⟩, hb4⟩
      obtain ⟨A4, c4, rfl, hc3, hc4, hA4, _⟩ := own_slat ho4
      have HA4 := Lib.hid hA4
      have HA5 := Lib.hid (SlAt.below HA7.out hb4)
      have Hb4 := Lib.hid (stepN Hb7.out hb4)
      clear hA4 ho4 hb4
      generalize toks xs = ts at *
      go_wp2_with fail
      refine (equal_toks A1 A4 ts.length ts.length c1 c4 ts ts w4 rfl rfl (by have := Hl.out; omega) (by have := Hl.out; omega) HA5.out HA4.out Hwf.out Hwf.out).mono ?_
      rintro e w6 ⟨rfl, d, rfl⟩
      rw [show decide (ts = ts) = true from by simp]
      go_wp2_with fail
      go_ret
      exact ⟨rfl, below_drewN' Hb4.out d⟩
  · have Hr : Hid (longI xs k = (0, 0, 2)) := Lib.hid (by unfold longI; rw [Hn.out, if_pos (by omega)])
    have hnn : 3000 < (n : Int) := by omega
    go_enter Try.func13, Try.ntmps13
    go_wp2_with fail
    refine (tokens_many A n cap W (by omega) Hx.out).mono ?_
    rintro e w1 ⟨rfl, rfl⟩
    go_wp2_with fail
    refine (longestL_any A n cap k xs w1 Hn.out Hx.out HA.out).mono ?_
    rintro e w2 ⟨rfl, q, rfl⟩
    rw [Hr.out]
    go_wp2_with fail
    refine (matched_any _).mono ?_
    rintro e w3 ⟨rfl, hb3⟩
    have Hb3 := Lib.hid (stepN (below_drewN' (Below.refl _ _) q) hb3)
    clear hb3
    go_wp2_with fail
    refine (matched_any _).mono ?_
    rintro e w4 ⟨rfl, hb4⟩
    have Hb4 := Lib.hid (stepN Hb3.out hb4)
    clear hb4
    go_wp2_with fail
    go_ret
    exact ⟨rfl, Hb4.out⟩
end Go.Proofs.Ytoncjlbgheaabaa.MatchTokens
