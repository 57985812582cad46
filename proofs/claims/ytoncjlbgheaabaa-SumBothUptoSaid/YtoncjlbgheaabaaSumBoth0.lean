/- sum.product, sum.Both: the walks. -/
import Derived.Test.YtoncjlbgheaabaaSumWalk
import Derived.Test.YtoncjlbgheaabaaSumBothPure
import Derived.Test.YtoncjlbgheaabaaApp
namespace Go.Proofs.Ytoncjlbgheaabaa.Sum
open Go Go.RowKit Go.Proofs.Ytoncjlbgheaabaa
set_option linter.unusedVariables false

theorem mask_ne (i : Nat) (h : i < 32) : (n32 (one >>> i) != 0) = true := by
  have : ∀ k : Fin 32, (n32 (one >>> k.val) != 0) = true := by decide
  exact this ⟨i, h⟩
theorem mask_end : (n32 (one >>> 32) != 0) = false := by decide
theorem mask_and (a : W32) (i : Nat) (h : i < 32) : (n32 (a &&& one >>> i) != 0) = a.getLsbD (31 - i) := by
  have hz : (n32 (a &&& one >>> i) == 0) = !a.getLsbD (31 - i) := by
    have h0 := n32_beq (a &&& one >>> i) 0#32
    rw [show n32 0#32 = 0 from rfl] at h0
    rw [h0]
    cases hb : a.getLsbD (31 - i) with
    | true =>
      simp only [Bool.not_true, decide_eq_false_iff_not]
      intro he
      have := congrArg (fun v : W32 => v.getLsbD (31 - i)) he
      simp only [BitVec.getLsbD_and, hb, one_shr i (31 - i) h (by omega)] at this
      rw [show 31 - i + i = 31 by omega] at this
      simp at this
    | false =>
      simp only [Bool.not_false, decide_eq_true_eq]
      apply BitVec.eq_of_getLsbD_eq
      intro j hj
      rw [BitVec.getLsbD_and, one_shr i j h hj]
      by_cases e : j + i = 31
      · rw [show j = 31 - i by omega, hb]; simp
      · simp [e]
  rw [bne, hz]; simp
theorem prodK_succ (a : W32) (i : Nat) (b : W32) : prodK a (i + 1) b = prodK a i b ^^^ (if a.getLsbD (31 - i) then stepN i b else 0#32) := rfl

set_option maxHeartbeats 400000 in
theorem product_any (a b : W32) (w : World) : Calls Try.prog 49 #[.int .u32 (n32 a), .int .u32 (n32 b)] w fun e w' => e = .returned (.int .u32 (n32 (prod a b))) ∧ w = w' := by
  go_enter Try.func49, Try.ntmps49
  go_wp2
  go_loop [1, 5, 6] (fun bb nn mm => ∃ i : Nat, i ≤ 32 ∧ bb = .int .u32 (n32 (stepN i b)) ∧ nn = .int .u32 (n32 (prodK a i b)) ∧ mm = .int .u32 (n32 (one >>> i))) (fun _ _ mm => (intOf mm).toNat)
  case atStart => exact ⟨0, by omega, rfl, rfl, rfl⟩
  case round =>
    obtain ⟨i, hi, rfl, rfl, rfl⟩ := hrel
    by_cases h32 : i < 32
    · have hm := mask_ne i h32
      have Hs : Hid (n32 (stepN (i + 1) b) = n32 ((stepN i b) >>> 1 ^^^ (3988292384#32 * (stepN i b &&& 1#32)))) := Lib.hid rfl
      have Hm : Hid (one >>> (i + 1) = (one >>> i) >>> 1) := Lib.hid (by rw [BitVec.shiftRight_add])
      have Hme : Hid ((n32 ((one >>> i) >>> 1)).toNat < (n32 (one >>> i)).toNat) := Lib.hid (by
        have : ∀ k : Fin 32, (n32 ((one >>> k.val) >>> 1)).toNat < (n32 (one >>> k.val)).toNat := by decide
        exact this ⟨i, h32⟩)
      by_cases hb : a.getLsbD (31 - i) = true
      · have ha : (n32 (a &&& one >>> i) != 0) = true := by rw [mask_and a i h32]; exact hb
        have Hp : Hid (prodK a (i + 1) b = prodK a i b ^^^ stepN i b) := Lib.hid (by rw [prodK_succ, if_pos hb])
        clear hb
        generalize one >>> i = m at *
        generalize stepN i b = c at *
        generalize prodK a i b = q at *
        go_wp2
        go_round
        case rel => exact ⟨i + 1, by omega, int_eq Hs.out.symm, by rw [Hp.out], by rw [Hm.out]⟩
        case measure => simpa [intOf] using Hme.out
      · have ha : (n32 (a &&& one >>> i) != 0) = false := by rw [mask_and a i h32]; simpa using hb
        have Hp : Hid (prodK a (i + 1) b = prodK a i b) := Lib.hid (by rw [prodK_succ, if_neg hb]; simp)
        clear hb
        generalize one >>> i = m at *
        generalize stepN i b = c at *
        generalize prodK a i b = q at *
        go_wp2
        go_round
        case rel => exact ⟨i + 1, by omega, int_eq Hs.out.symm, by rw [Hp.out], by rw [Hm.out]⟩
        case measure => simpa [intOf] using Hme.out
    · obtain rfl : i = 32 := by omega
      have hm := mask_end
      have Hp : Hid (prodK a 32 b = prod a b) := Lib.hid rfl
      generalize one >>> 32 = m at *
      generalize stepN 32 b = c at *
      generalize prodK a 32 b = q at *
      go_wp2
      go_ret
      exact ⟨by rw [Hp.out]; rfl, rfl⟩

theorem and_one64 (n : Nat) (h : n < 9223372036854775808) : bits .and .i64 (n : Int) 1 = ((n % 2 : Nat) : Int) := by
  have hx : BitVec.ofInt 64 (n : Int) = BitVec.ofNat 64 n := by rw [BitVec.ofInt_natCast]
  show IntKind.i64.wrap ((BitVec.ofInt 64 (n : Int) &&& BitVec.ofInt 64 (1 : Int)).toNat : Int) = _
  have h1 : (BitVec.ofInt 64 (n : Int) &&& BitVec.ofInt 64 (1 : Int)).toNat = n % 2 := by
    rw [hx, BitVec.toNat_and, BitVec.toNat_ofNat, Nat.mod_eq_of_lt (by omega), show (BitVec.ofInt 64 (1 : Int)).toNat = 1 from rfl, nat_mask1]
  rw [h1]; exact IntWalk.i64_in _ (by omega)

theorem prod_steps (m e : Nat) : prod (stepN m one) (stepN e one) = stepN (m + e) one := by
  rw [prod_on, ← stepN_add, Nat.add_comm]
theorem both_fin (a b : W32) (m n : Nat) (h : m = 8 * n) : prod a (stepN m one) ^^^ b = both a b n := by rw [prod_on, h]; rfl
set_option maxHeartbeats 400000 in
theorem both_any (a b : W32) (n : Nat) (w : World) (hn : n ≤ 1000000) : Calls Try.prog 23 #[.int .u32 (n32 a), .int .u32 (n32 b), .int .i64 (n : Int)] w fun e w' => e = .returned (.tuple #[.int .u32 (n32 (both a b n)), .int .i64 0]) ∧ w = w' := by
  have h1 : ¬ ((n : Int) < 0) := by omega
  have h2 : ¬ (1000000 < (n : Int)) := by omega
  go_enter Try.func23, Try.ntmps23
  go_wp2_with fail
  go_loop [2, 8, 9] (fun l by_ x => ∃ (L m e : Nat), L ≤ 1000000 ∧ m + e * L = 8 * n ∧ l = .int .i64 L ∧ by_ = .int .u32 (n32 (stepN m one)) ∧ x = .int .u32 (n32 (stepN e one))) (fun l _ _ => (intOf l).toNat)
  case atStart => exact ⟨n, 0, 8, hn, by omega, rfl, rfl, rfl⟩
  case round =>
    obtain ⟨L, m, e, hL, hme, rfl, rfl, rfl⟩ := hrel
    have Hme := Lib.hid hme
    clear hme
    by_cases h0 : 0 < L
    · have hand := and_one64 L (by omega)
      have Hx := Lib.hid (prod_steps e e)
      have Hm := Lib.hid (prod_steps m e)
      generalize hc : stepN m one = c at *
      generalize hd : stepN e one = d at *
      have Hc := Lib.hid hc
      have Hd := Lib.hid hd
      clear hc hd
      obtain ⟨r, hr⟩ : ∃ r, r = L % 2 := ⟨_, rfl⟩
      rw [← hr] at hand
      have Hr := Lib.hid hr
      have h01 : r = 0 ∨ r = 1 := by omega
      clear hr
      rcases h01 with rfl | rfl
      · have hq : (((0 : Nat) : Int) == 1) = false := rfl
        go_wp2_with (go_at_call 49; refine (product_any _ _ _).mono ?_; rintro e w' ⟨rfl, rfl⟩)
        go_round
        case rel =>
          have hh : L = 2 * (L / 2) := by have := Hr.out; omega
          have h3 : e * L = (e + e) * (L / 2) := by rw [← Nat.two_mul, Nat.mul_comm 2 e, Nat.mul_assoc, ← hh]
          exact ⟨L / 2, m, e + e, by omega, by have := Hme.out; omega, int_eq (by omega), by rw [Hc.out], by rw [Hx.out]⟩
        case measure => simp [intOf]; omega
      · go_wp2_with (go_at_call 49; refine (product_any _ _ _).mono ?_; rintro e w' ⟨rfl, rfl⟩)
        go_round
        case rel =>
          have hh : L = 2 * (L / 2) + 1 := by have := Hr.out; omega
          have h3 : e * L = (e + e) * (L / 2) + e := by
            conv => lhs; rw [hh]
            rw [Nat.mul_add, Nat.mul_one, ← Nat.two_mul, Nat.mul_comm 2 e, Nat.mul_assoc]
          exact ⟨L / 2, m + e, e + e, by omega, by have := Hme.out; omega, int_eq (by omega), by rw [Hm.out], by rw [Hx.out]⟩
        case measure => simp [intOf]; omega
    · obtain rfl : L = 0 := by omega
      have Hf := Lib.hid (both_fin a b m n (by have := Hme.out; omega))
      generalize stepN m one = c at *
      generalize stepN e one = d at *
      go_wp2_with (go_at_call 49; refine (product_any _ _ _).mono ?_; rintro e w' ⟨rfl, rfl⟩)
      go_ret2
      exact ⟨by rw [← Hf.out]; rfl, rfl⟩
theorem both_bad (a b long : Int) (w : World) (hn : long < 0 ∨ 1000000 < long) (h1 : -9223372036854775808 ≤ long) (h2 : long ≤ 9223372036854775807) : Calls Try.prog 23 #[.int .u32 a, .int .u32 b, .int .i64 long] w fun e w' => e = .returned (.tuple #[.int .u32 0, .int .i64 3]) ∧ w = w' := by
  by_cases h0 : long < 0
  · clear hn
    go_enter Try.func23, Try.ntmps23
    go_wp2_with fail
    go_ret2
    exact ⟨rfl, rfl⟩
  · have h3 : 1000000 < long := by omega
    clear hn
    go_enter Try.func23, Try.ntmps23
    go_wp2_with fail
    go_ret2
    exact ⟨rfl, rfl⟩
end Go.Proofs.Ytoncjlbgheaabaa.Sum
