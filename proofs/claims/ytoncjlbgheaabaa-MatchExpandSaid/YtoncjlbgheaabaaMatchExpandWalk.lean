/- reliquarylaw.MatchExpand: the walk. -/
import Derived.Test.YtoncjlbgheaabaaMatchFact
import Derived.Test.YtoncjlbgheaabaaPairs
namespace Go.Proofs.Ytoncjlbgheaabaa.MatchExpand
open Go Go.RowKit Go.Proofs.Ytoncjlbgheaabaa Go.Proofs.Ytoncjlbgheaabaa.Match
set_option linter.unusedVariables false

set_option maxRecDepth 100000 in
set_option maxHeartbeats 1600000 in
theorem walk (W : World) (v : Value) (l : List Tok) (h : IsL W tokC wfT v l) :
    Calls Try.prog 9 #[v] W fun e W' => e = .returned (.bool true) ∧ Below W.heap.size W W' := by
  obtain ⟨A, cap, rfl, h1, h2, hA, _, hwf⟩ := h
  obtain ⟨n, hn⟩ : ∃ n, n = l.length := ⟨_, rfl⟩
  rw [← hn] at h1 ⊢
  have HA := Lib.hid hA
  have Hwf := Lib.hid hwf
  have Hn := Lib.hid hn.symm
  have Hx : Hid (n ≤ maxLen) := Lib.hid (by omega)
  clear hA hwf hn h1 h2
  by_cases hz : chk l = 0
  · have Hz := Lib.hid hz
    clear hz
    go_enter Try.func9, Try.ntmps9
    go_wp2_with fail
    refine (expand_yes A n cap l W Hn.out HA.out Hwf.out Hz.out).mono ?_
    rintro e w1 ⟨⟨v1, rfl, ho1⟩, hb1⟩
    obtain ⟨A1, c1, rfl, hc1, hc2, hA1⟩ := own_bytes ho1
    have HA1 := Lib.hid hA1
    have Hb1 := Lib.hid hb1
    clear hA1 ho1 hb1
    go_wp2_with fail
    refine (checkR_any A n cap l w1 Hn.out Hx.out (HA.out.below Hb1.out) Hwf.out).mono ?_
    rintro e w2 ⟨rfl, hb2⟩
    rw [Hz.out]
    have Hb2 := Lib.hid (stepN Hb1.out hb2)
    have HA2 := Lib.hid (SlAt.below HA1.out hb2)
    clear hb2
    go_wp2_with fail
    refine (matched_any w2).mono ?_
    rintro e w3 ⟨rfl, hb3⟩
    have Hb3 := Lib.hid (stepN Hb2.out hb3)
    have HA3 := Lib.hid (SlAt.below HA2.out hb3)
    clear hb3
    go_wp2_with fail
    refine (check_any A n cap l w3 Hn.out Hx.out (HA.out.below Hb3.out) Hwf.out).mono ?_
    rintro e w4 ⟨rfl, hb4⟩
    rw [Hz.out]
    have Hb4 := Lib.hid (stepN Hb3.out hb4)
    have HA4 := Lib.hid (SlAt.below HA3.out hb4)
    clear hb4
    go_wp2_with fail
    refine (expanded_yes A n cap l w4 Hn.out (HA.out.below Hb4.out) Hwf.out Hz.out).mono ?_
    rintro e w5 ⟨⟨v5, rfl, ho5⟩, hb5⟩
    obtain ⟨A5, c5, rfl, hc5, hc6, hA5⟩ := own_bytes ho5
    have HA5 := Lib.hid hA5
    have HA6 := Lib.hid (SlAt.below HA4.out hb5)
    have Hb5 := Lib.hid (stepN Hb4.out hb5)
    clear hA5 ho5 hb5
    generalize expand l = ys at *
    go_wp2_with fail
    refine (equal_bytes A1 A5 ys.length ys.length c1 c5 ys ys w5 rfl rfl HA6.out HA5.out).mono ?_
    rintro e w6 ⟨rfl, rfl⟩
    rw [show decide (ys = ys) = true from by simp]
    go_wp2_with fail
    go_ret
    exact ⟨rfl, Hb5.out⟩
  · have Hz := Lib.hid hz
    have z1 : (chk l != 0) = true := by simpa using hz
    have z2 : (chk l == chk l) = true := by simp
    have z3 : (chk l != chk l) = false := by simp
    clear hz
    go_enter Try.func9, Try.ntmps9
    go_wp2_with fail
    refine (expand_no A n cap l W Hn.out Hx.out HA.out Hwf.out Hz.out).mono ?_
    rintro e w1 ⟨rfl, hb1⟩
    have Hb1 := Lib.hid hb1
    clear hb1
    go_wp2_with fail
    refine (checkR_any A n cap l w1 Hn.out Hx.out (HA.out.below Hb1.out) Hwf.out).mono ?_
    rintro e w2 ⟨rfl, hb2⟩
    have Hb2 := Lib.hid (stepN Hb1.out hb2)
    clear hb2
    go_wp2_with fail
    refine (matched_any w2).mono ?_
    rintro e w3 ⟨rfl, hb3⟩
    have Hb3 := Lib.hid (stepN Hb2.out hb3)
    clear hb3
    go_wp2_with fail
    refine (check_any A n cap l w3 Hn.out Hx.out (HA.out.below Hb3.out) Hwf.out).mono ?_
    rintro e w4 ⟨rfl, hb4⟩
    have Hb4 := Lib.hid (stepN Hb3.out hb4)
    clear hb4
    generalize hzz : chk l = z at *
    have HZ := Lib.hid hzz
    clear hzz
    go_wp2_with fail
    refine (matched_any w4).mono ?_
    rintro e w5 ⟨rfl, hb5⟩
    have Hb5 := Lib.hid (stepN Hb4.out hb5)
    clear hb5
    go_wp2_with fail
    refine (check_any A n cap l w5 Hn.out Hx.out (HA.out.below Hb5.out) Hwf.out).mono ?_
    rintro e w6 ⟨rfl, hb6⟩
    have Hb6 := Lib.hid (stepN Hb5.out hb6)
    clear hb6
    rw [HZ.out]
    go_wp2_with fail
    go_ret
    exact ⟨rfl, Hb6.out⟩
end Go.Proofs.Ytoncjlbgheaabaa.MatchExpand
