/- at2: a number brought within bounds. -/
import Derived.Test.YtdoegpklephelaaDoorApp
import Derived.Test.YtdoegpklephelaaDoorProg
import Derived.WalkSpells
namespace Go.Proofs.YtdoegpklephelaaDoor
open Go Go.RowKit
set_option linter.unusedVariables false
theorem at2_any (k n : Int) (w : World) (h0 : -9223372036854775808 ≤ k) (h1 : k ≤ 9223372036854775807) (hn : 0 < n) (hn2 : n ≤ 4611686018427387904) :
    Calls Tryd.prog 32 #[.int .i64 k, .int .i64 n] w fun e w' => e = .returned (.int .i64 (k % n)) ∧ w = w' := by
  have hne : (n == 0) = false := by simp; omega
  have hb1 : k.tmod n < n := Int.tmod_lt_of_pos _ hn
  have hb2 : -n < k.tmod n := by
    have := Int.tmod_lt_of_pos (-k) hn
    rw [Int.neg_tmod] at this; omega
  by_cases hneg : k.tmod n < 0
  · have Hf : Hid (k.tmod n + n = k % n) := Lib.hid (by
      have h2 := Int.tmod_add_mul_tdiv k n
      have h3 : (k.tmod n + n + n * (k.tdiv n - 1)) = k := by rw [Int.mul_sub, Int.mul_one]; omega
      conv => rhs; rw [← h3]
      rw [Int.add_mul_emod_self_left, Int.emod_eq_of_lt (by omega) (by omega)])
    go_enter Tryd.func32, Tryd.ntmps32
    go_wp2
    go_ret
    exact ⟨ret_int Hf.out, rfl⟩
  · have hneg : 0 ≤ k.tmod n := by omega
    have Hf : Hid (k.tmod n = k % n) := Lib.hid (by
      have h2 := Int.tmod_add_mul_tdiv k n
      conv => rhs; rw [← h2]
      rw [Int.add_mul_emod_self_left, Int.emod_eq_of_lt (by omega) (by omega)])
    go_enter Tryd.func32, Tryd.ntmps32
    go_wp2
    go_ret
    exact ⟨ret_int Hf.out, rfl⟩
end Go.Proofs.YtdoegpklephelaaDoor
