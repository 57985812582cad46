/- reliquarylaw.MatchBack: the walk. -/
import Derived.Test.YtoncjlbgheaabaaMatchFact
import Derived.Test.YtoncjlbgheaabaaMatchOf
import Derived.Test.YtoncjlbgheaabaaOpen
namespace Go.Proofs.Ytoncjlbgheaabaa.MatchBack
open Go Go.RowKit Go.Proofs.Ytoncjlbgheaabaa Go.Proofs.Ytoncjlbgheaabaa.Match
set_option linter.unusedVariables false

theorem wf_mk {x : Int} (h1 : 0 ≤ x) (h2 : x ≤ 1000000) : wfI x := by
  simp only [wfI, Lit.wf, IntKind.min, IntKind.max, IntKind.signed, IntKind.bits]
  simp; omega
theorem toks_wf (xs : List UInt8) (hx : xs.length ≤ 3000) : ∀ t ∈ toks xs, wfT t := by
  have key : ∀ m, ∀ t ∈ (titer xs m).2, wfT t := by
    intro m
    induction m with
    | zero => intro t ht; simp [titer] at ht
    | succ m ih =>
      have hl := longest_le xs (titer xs m).1
      have h1 := hl.1
      have h2 := hl.2.2.1
      have h3 := (titer_le xs m).1
      intro t ht
      have ht' : t ∈ (tstep xs (titer xs m)).2 := ht
      unfold tstep at ht'
      by_cases a : (titer xs m).1 < xs.length
      · rw [if_pos a] at ht'
        by_cases b : (longest xs (titer xs m).1).1 = 0 ∨ ((titer xs m).1 + 1 < xs.length ∧ (longest xs (titer xs m).1).1 < (longest xs ((titer xs m).1 + 1)).1)
        · rw [if_pos b] at ht'
          simp only [List.mem_append, List.mem_singleton] at ht'
          rcases ht' with ht' | rfl
          · exact ih t ht'
          · exact ⟨rfl, rfl⟩
        · rw [if_neg b] at ht'
          simp only [List.mem_append, List.mem_singleton] at ht'
          rcases ht' with ht' | rfl
          · exact ih t ht'
          · exact ⟨wf_mk (by simp) (by simp; omega), wf_mk (by simp) (by simp; omega)⟩
      · rw [if_neg a] at ht'; exact ih t ht'
  exact key _
set_option maxRecDepth 100000 in
set_option maxHeartbeats 1600000 in
theorem walk (W : World) (v : Value) (xs : List UInt8) (h : IsBytes W v xs) :
    Calls Try.prog 10 #[v] W fun e W' => e = .returned (.bool true) ∧ Below W.heap.size W W' := by
  obtain ⟨A, cap, rfl, h1, h2, hA⟩ := h
  obtain ⟨n, hn⟩ : ∃ n, n = xs.length := ⟨_, rfl⟩
  rw [← hn] at h1 ⊢
  have HA := Lib.hid hA
  have Hn := Lib.hid hn.symm
  have Hx : Hid (n ≤ maxLen) := Lib.hid (by omega)
  clear hA hn h2
  by_cases h3 : n ≤ 3000
  · go_enter Try.func10, Try.ntmps10
    go_wp2_with fail
    refine (tokens_yes A n cap xs W Hn.out h1 h3 HA.out).mono ?_
    rintro e w1 ⟨⟨v1, rfl, ho1⟩, hb1⟩
    obtain ⟨A1, c1, rfl, hc1, hc2, hA1, _⟩ := own_slat ho1
    have HA1 := Lib.hid hA1
    have Hb1 := Lib.hid hb1
    clear hA1 ho1 hb1
    go_wp2_with fail
    refine (matched_any w1).mono ?_
    rintro e w2 ⟨rfl, hb2⟩
    have Hb2 := Lib.hid (stepN Hb1.out hb2)
    have HA2 := Lib.hid (SlAt.below HA1.out hb2)
    clear hb2
    go_wp2_with fail
    have Hl := Lib.hid (toks_len xs)
    have Hex := Lib.hid (expand_toks xs)
    have Hck := Lib.hid (chk_toks xs (by rw [Hn.out]; exact h3))
    have Hwf := Lib.hid (toks_wf xs (by rw [Hn.out]; exact h3))
    rw [Hn.out] at Hl
    generalize toks xs = ts at *
    refine (expand_yes A1 ts.length c1 ts w2 rfl HA2.out Hwf.out Hck.out).mono ?_
    rintro e w3 ⟨⟨v3, rfl, ho3⟩, hb3⟩
    rw [Hex.out] at ho3
    obtain ⟨A3, c3, rfl, hd1, hd2, hA3⟩ := own_bytes ho3
    have HA3 := Lib.hid hA3
    have Hb3 := Lib.hid (stepN Hb2.out hb3)
    clear hA3 ho3 hb3
    rw [Hn.out] at hd1 ⊢
    have hle : (ts.length : Int) ≤ (n : Int) := by have := Hl.out; omega
    go_wp2_with fail
    refine (equal_bytes A3 A n n c3 cap xs xs w3 Hn.out Hn.out HA3.out (SlAt.below HA.out Hb3.out)).mono ?_
    rintro e w4 ⟨rfl, rfl⟩
    rw [show decide (xs = xs) = true from by simp]
    go_wp2_with fail
    go_ret
    exact ⟨rfl, Hb3.out⟩
  · go_enter Try.func10, Try.ntmps10
    go_wp2_with fail
    refine (tokens_many A n cap W (by omega) Hx.out).mono ?_
    rintro e w1 ⟨rfl, rfl⟩
    go_wp2_with fail
    refine (matched_any w1).mono ?_
    rintro e w2 ⟨rfl, hb2⟩
    have Hb2 := Lib.hid hb2
    clear hb2
    go_wp2_with fail
    refine (matched_any w2).mono ?_
    rintro e w3 ⟨rfl, hb3⟩
    have Hb3 := Lib.hid (stepN Hb2.out hb3)
    clear hb3
    go_wp2_with fail
    go_ret
    exact ⟨rfl, Hb3.out⟩
end Go.Proofs.Ytoncjlbgheaabaa.MatchBack
