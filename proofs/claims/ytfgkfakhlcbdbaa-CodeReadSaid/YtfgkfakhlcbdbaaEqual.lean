/- slices.Equal at []int. -/
import Derived.Test.YtfgkfakhlcbdbaaInAt
import Derived.Test.YtfgkfakhlcbdbaaProg
import Derived.WalkSpells
import Derived.Deep.QuietTactic
import Derived.BigQuiet
namespace Go.Proofs.Ytfgkfakhlcbdbaa
open Go Go.RowKit
set_option linter.unusedVariables false

set_option maxHeartbeats 400000 in
theorem equal_ints (A B : Option Addr) (n m ca cb : Nat) (xs ys : List Int) (w : World) (hn : xs.length = n) (hm : ys.length = m) (hx : n ≤ maxLen) (hy : m ≤ maxLen) (ha : InAt w A xs) (hb : InAt w B ys) :
    Calls Try.prog 20 #[.slice A n ca, .slice B m cb] w fun e w' => e = .returned (.bool (decide (xs = ys))) ∧ ∃ d, w' = w.drewN d := by
  unfold maxLen at hx hy
  by_cases hnm : n = m
  · subst hnm
    have hq : ((n : Int) != (n : Int)) = false := by simp
    have Hn := Lib.hid hn
    have Hm := Lib.hid hm
    have Ha := Lib.hid ha
    have Hb := Lib.hid hb
    clear hn hm ha hb
    go_enter Try.func20, Try.ntmps20
    go_wp2_with fail
    go_loopw [13] (fun i wr => ∃ k : Nat, k ≤ n ∧ i = .int .i64 k ∧ xs.take k = ys.take k ∧ ∃ d, wr = w.drewN d) (fun i _ => n - (intOf i).toNat)
    case atStart => exact ⟨0, Nat.zero_le _, rfl, rfl, 0, rfl⟩
    case round =>
      obtain ⟨k, hk, rfl, htk, d, rfl⟩ := hrel
      have Ht := Lib.hid htk
      clear htk
      by_cases hlt : k < n
      · have h1 : k < xs.length := by rw [Hn.out]; exact hlt
        have h2 : k < ys.length := by rw [Hm.out]; exact hlt
        obtain ⟨b1, o1, rfl, hc1⟩ := Ha.out.get h1
        obtain ⟨b2, o2, rfl, hc2⟩ := Hb.out.get h2
        have hI : (k : Int) < (n : Int) := by omega
        by_cases he : xs[k] = ys[k]
        · have Hs := Lib.hid (take_eq_succ xs ys k h1 h2 Ht.out he)
          have hne : (xs[k] != ys[k]) = false := by simp [he]
          have hne' : (xs[k] == ys[k]) = true := by simp [he]
          clear he
          generalize xs[k] = x at *
          generalize ys[k] = y at *
          go_wp2_with fail
          go_quiet (fail)
          go_wp2_with fail
          go_roundw
          case rel => exact ⟨k + 1, by omega, by go_num, Hs.out, _, rfl⟩
          case measure => simp [intOf]; omega
        · have hne : (xs[k] != ys[k]) = true := by simpa using he
          have hne' : (xs[k] == ys[k]) = false := by simpa using he
          have Hf : Hid (decide (xs = ys) = false) := Lib.hid (by simpa using ne_of_get xs ys k h1 h2 he)
          clear he
          generalize xs[k] = x at *
          generalize ys[k] = y at *
          go_wp2_with fail
          go_quiet (fail)
          go_wp2_with fail
          go_ret
          exact ⟨ret_bool Hf.out.symm, _, World.drewN_drewN _ _ _⟩
      · have Hf : Hid (decide (xs = ys) = true) := Lib.hid (by
          have e1 : xs.take k = xs := List.take_of_length_le (by rw [Hn.out]; omega)
          have e2 : ys.take k = ys := List.take_of_length_le (by rw [Hm.out]; omega)
          have := Ht.out; rw [e1, e2] at this; simpa using this)
        go_wp2_with fail
        go_ret
        exact ⟨ret_bool Hf.out.symm, _, rfl⟩
  · have hq : ((n : Int) != (m : Int)) = true := by simp; omega
    have Hf : Hid (decide (xs = ys) = false) := Lib.hid (by simp; intro h; subst h; omega)
    go_enter Try.func20, Try.ntmps20
    go_wp2_with fail
    go_ret
    exact ⟨ret_bool Hf.out.symm, 0, rfl⟩
end Go.Proofs.Ytfgkfakhlcbdbaa
