/- reliquarylaw.SumBoth: the walk. -/
import Derived.Test.YtoncjlbgheaabaaSumBoth0
import Derived.Test.YtoncjlbgheaabaaConcatB
import Derived.Test.YtoncjlbgheaabaaOpen
namespace Go.Proofs.Ytoncjlbgheaabaa.SumBoth
open Go Go.RowKit Go.Proofs.Ytoncjlbgheaabaa Go.Proofs.Ytoncjlbgheaabaa.Sum
set_option linter.unusedVariables false

/-- CRC of any bytes, many or few -/
theorem crc_gen (c : W32) (ci : Int) (hci : ci = n32 c) (A : Option Addr) (n cap : Nat) (xs : List UInt8) (w : World) (hn : xs.length = n) (hx : n ≤ maxLen) (hc : ByAt w A xs) :
    Calls Try.prog 16 #[.int .u32 ci, .slice A n cap] w fun e w' => ∃ v er, e = .returned (.tuple #[.int .u32 v, .int .i64 er]) ∧ (er = 0 ∧ n ≤ 12000 ∧ v = n32 (crc c xs) ∨ er = 2 ∧ 12000 < n) ∧ Below w.heap.size w w' := by
  by_cases hm : n ≤ 12000
  · refine (crc_any c ci hci A n cap xs w hn hm hc).mono ?_
    rintro e w' ⟨rfl, hb⟩
    exact ⟨_, _, rfl, .inl ⟨rfl, hm, rfl⟩, hb⟩
  · refine (crc_big ci A n cap w (by omega) hx).mono ?_
    rintro e w' ⟨rfl, rfl⟩
    exact ⟨_, _, rfl, .inr ⟨rfl, by omega⟩, Below.refl _ _⟩
/-- Both of any numbers -/
theorem both_gen (x y : W32) (long : Int) (w : World) (h1 : -9223372036854775808 ≤ long) (h2 : long ≤ 9223372036854775807) :
    Calls Try.prog 23 #[.int .u32 (n32 x), .int .u32 (n32 y), .int .i64 long] w fun e w' => ∃ v er, e = .returned (.tuple #[.int .u32 (n32 v), .int .i64 er]) ∧ (er = 0 ∧ 0 ≤ long ∧ long ≤ 1000000 ∧ (long = 0 → v = x ^^^ y) ∨ er = 3 ∧ (long < 0 ∨ 1000000 < long) ∧ v = 0#32) ∧ w = w' := by
  by_cases hm : long < 0 ∨ 1000000 < long
  · refine (both_bad _ _ long w hm h1 h2).mono ?_
    rintro e w' ⟨rfl, rfl⟩
    exact ⟨0#32, _, rfl, .inr ⟨rfl, hm, rfl⟩, rfl⟩
  · obtain ⟨n, rfl⟩ := Int.eq_ofNat_of_zero_le (show 0 ≤ long by omega)
    refine (both_any x y n w (by omega)).mono ?_
    rintro e w' ⟨rfl, rfl⟩
    refine ⟨_, _, rfl, .inl ⟨rfl, by omega, by omega, fun h => ?_⟩, rfl⟩
    have : n = 0 := by omega
    subst this; rfl
def rowsOf (A B : Option Addr) (na nb ca cb : Nat) (xa xb : List UInt8) : List (Value × Nat × List Value) := [(.slice A na ca, na, xa.map u8v), (.slice B nb cb, nb, xb.map u8v)]
theorem own_by {w : World} {base : Nat} {e : TypeId} {v : Value} {n : Nat} {cs : List Value} {ys : List UInt8} (h : w.ownsRow base e 1 v n cs) (hc : cs = ys.map u8v) (hn : n = ys.length) : ∃ A cap, v = .slice A n cap ∧ ByAt w A ys := by
  subst hc hn
  obtain ⟨A, cap, hv, _, _, hB⟩ := own_bytes h
  exact ⟨A, cap, hv, hB⟩
set_option maxRecDepth 100000 in
set_option maxHeartbeats 4000000 in
theorem walk0 (A B : Option Addr) (na nb ca cb : Nat) (xa xb : List UInt8) (x y : W32) (long : Int) (w : World) (ha : xa.length = na) (hb : xb.length = nb) (la : na ≤ ca) (lb : nb ≤ cb) (ma : ca ≤ maxLen) (mb : cb ≤ maxLen)
    (hA : ByAt w A xa) (hB : ByAt w B xb) (sa : na ≤ 1048576) (sb : nb ≤ 1048576) (hl1 : -9223372036854775808 ≤ long) (hl2 : long ≤ 9223372036854775807) :
    Calls Try.prog 7 #[.slice A na ca, .slice B nb cb, .int .u32 (n32 x), .int .u32 (n32 y), .int .i64 long] w fun e w' => e = .returned (.bool true) ∧ Below w.heap.size w w' := by
  have hA0 : A = none → na = 0 := fun h => by
    rcases Nat.eq_zero_or_pos na with h0 | h0
    · exact h0
    · obtain ⟨b, o, e, _⟩ := hA (by simp; omega); rw [h] at e; cases e
  have hB0 : B = none → nb = 0 := fun h => by
    rcases Nat.eq_zero_or_pos nb with h0 | h0
    · exact h0
    · obtain ⟨b, o, e, _⟩ := hB (by simp; omega); rw [h] at e; cases e
  have HA := Lib.hid hA
  have HB := Lib.hid hB
  have Ha := Lib.hid ha
  have Hb := Lib.hid hb
  have HA0 := Lib.hid hA0
  have HB0 := Lib.hid hB0
  have Hma := Lib.hid ma
  have Hmb := Lib.hid mb
  clear hA hB ha hb hA0 hB0 ma mb
  go_enter Try.func7, Try.ntmps7
  go_wp2_with fail
  refine (crc_gen 0#32 0 rfl A na ca xa _ Ha.out (by unfold maxLen; omega) HA.out).mono ?_
  rintro e w1 ⟨v1, er1, rfl, h1, hb1⟩
  have H1 := Lib.hid h1
  have Hb1 := Lib.hid hb1
  clear h1 hb1
  go_wp2_with fail
  refine (crc_gen 0#32 0 rfl B nb cb xb _ Hb.out (by unfold maxLen; omega) (HB.out.below Hb1.out)).mono ?_
  rintro e w2 ⟨v2, er2, rfl, h2, hb2⟩
  have H2 := Lib.hid h2
  have Hb2 := Lib.hid (Hb1.out.trans (hb2.mono Hb1.out.size))
  clear h2 hb2
  go_wp2_with fail
  have HA2 := Lib.hid (HA.out.below Hb2.out)
  have HB2 := Lib.hid (HB.out.below Hb2.out)
  have hba : Below w2.heap.size w2 (w2.alloc (.cells #[.slice A na ca, .slice B nb cb] 28)) := (Below.refl _ _).alloc (Nat.le_refl _) _
  refine (ConcatB.concat_any _ 2 2 (rowsOf A B na nb ca cb xa xb) _ rfl (by omega) (SlAt.of_heap (heap_alloc_new w2 _) rfl) ?_ ?_ ?_).mono ?_
  · intro r hr
    simp only [rowsOf, List.mem_cons, List.not_mem_nil, or_false] at hr
    rcases hr with rfl | rfl
    · exact ⟨A, ca, rfl, la, Hma.out, by simp; exact Ha.out, HA2.out.below hba, HA0.out⟩
    · exact ⟨B, cb, rfl, lb, Hmb.out, by simp; exact Hb.out, HB2.out.below hba, HB0.out⟩
  · intro r hr
    simp only [rowsOf, List.mem_cons, List.not_mem_nil, or_false] at hr
    rcases hr with rfl | rfl
    · exact u8s_one xa
    · exact u8s_one xb
  · simp [ConcatB.total, rowsOf]; omega
  rintro e w3 ⟨v3, rfl, hown3, hb3⟩
  obtain ⟨C, cc, rfl, hC⟩ := own_by (ys := xa ++ xb) hown3 (by simp [ConcatB.cellsOf, rowsOf]) (by simp [ConcatB.total, rowsOf, Ha.out, Hb.out])
  have htot : ConcatB.total (rowsOf A B na nb ca cb xa xb) = na + nb := by simp [ConcatB.total, rowsOf]
  rw [htot]
  have HC := Lib.hid hC
  have Hb3 := Lib.hid ((Hb2.out.alloc Hb2.out.size _).trans (hb3.mono (by have := Hb2.out.size; simp; omega)))
  have Hcat : Hid ((xa ++ xb).length = na + nb) := Lib.hid (by simp [Ha.out, Hb.out])
  clear hown3 hb3 hC htot hba
  obtain ⟨nc, hnc⟩ : ∃ nc, nc = na + nb := ⟨_, rfl⟩
  rw [← hnc] at Hcat ⊢
  have Hnc := Lib.hid hnc
  have hncb : nc ≤ 2097152 := by omega
  clear hnc
  go_wp2_with fail
  refine (crc_gen 0#32 0 rfl C nc cc (xa ++ xb) _ Hcat.out (by unfold maxLen; omega) HC.out).mono ?_
  rintro e w4 ⟨v4, er4, rfl, h4, hb4⟩
  have H4 := Lib.hid h4
  have Hb4 := Lib.hid (Hb3.out.trans (hb4.mono Hb3.out.size))
  clear h4 hb4
  go_wp2_with fail
  refine (both_gen x y long _ hl1 hl2).mono ?_
  rintro e w5 ⟨v5, er5, rfl, h5, rfl⟩
  have H5 := Lib.hid h5
  clear h5
  go_wp2_with fail
  refine (summed_any _).mono ?_
  rintro e w6 ⟨rfl, hb6⟩
  have Hb6 := Lib.hid (Hb4.out.trans (hb6.mono Hb4.out.size))
  clear hb6
  have Hcr := Lib.hid (crc_both xa xb)
  have Hco := Lib.hid (crc_on xa xb)
  rcases H5.out with ⟨rfl, hl3, hl4, hz⟩ | ⟨rfl, hl5, rfl⟩
  · have Hz := Lib.hid hz
    clear hz
    by_cases h0 : long = 0
    · have hv5 := Hz.out h0
      subst h0
      subst hv5
      clear Hz H5
      rcases H1.out with ⟨rfl, hn1, rfl⟩ | ⟨rfl, hn1⟩ <;> rcases H2.out with ⟨rfl, hn2, rfl⟩ | ⟨rfl, hn2⟩ <;> rcases H4.out with ⟨rfl, hn4, rfl⟩ | ⟨rfl, hn4⟩
      all_goals (go_wp2_with fail)
      all_goals first
        | (go_ret; exact ⟨rfl, Hb6.out⟩)
        | (refine (both_any _ _ nb _ (by omega)).mono ?_
           rintro e w7 ⟨rfl, rfl⟩
           go_wp2_with fail
           refine (crc_gen _ _ rfl B nb cb xb _ Hb.out (by unfold maxLen; omega) (HB.out.below Hb6.out)).mono ?_
           rintro e w8 ⟨v8, er8, rfl, h8, hb8⟩
           obtain ⟨rfl, _, rfl⟩ : er8 = 0 ∧ nb ≤ 12000 ∧ v8 = n32 (crc (crc 0#32 xa) xb) := by
             rcases h8 with h8 | h8
             · exact h8
             · omega
           have Hb8 := Lib.hid (Hb6.out.trans (hb8.mono Hb6.out.size))
           clear hb8 h8
           have hcr : n32 (both (crc 0#32 xa) (crc 0#32 xb) nb) = n32 (crc 0#32 (xa ++ xb)) := by rw [← Hb.out, Hcr.out]
           have hco : n32 (crc (crc 0#32 xa) xb) = n32 (crc 0#32 (xa ++ xb)) := by rw [Hco.out]
           go_wp2_with fail
           go_ret
           exact ⟨rfl, Hb8.out⟩)
    · have hq0 : (long == 0) = false := by simpa using h0
      clear h0
      rcases H1.out with ⟨rfl, hn1, rfl⟩ | ⟨rfl, hn1⟩ <;> rcases H2.out with ⟨rfl, hn2, rfl⟩ | ⟨rfl, hn2⟩ <;> rcases H4.out with ⟨rfl, hn4, rfl⟩ | ⟨rfl, hn4⟩
      all_goals (go_wp2_with fail)
      all_goals first
        | (go_ret; exact ⟨rfl, Hb6.out⟩)
        | (refine (both_any _ _ nb _ (by omega)).mono ?_
           rintro e w7 ⟨rfl, rfl⟩
           go_wp2_with fail
           refine (crc_gen _ _ rfl B nb cb xb _ Hb.out (by unfold maxLen; omega) (HB.out.below Hb6.out)).mono ?_
           rintro e w8 ⟨v8, er8, rfl, h8, hb8⟩
           obtain ⟨rfl, _, rfl⟩ : er8 = 0 ∧ nb ≤ 12000 ∧ v8 = n32 (crc (crc 0#32 xa) xb) := by
             rcases h8 with h8 | h8
             · exact h8
             · omega
           have Hb8 := Lib.hid (Hb6.out.trans (hb8.mono Hb6.out.size))
           clear hb8 h8
           have hcr : n32 (both (crc 0#32 xa) (crc 0#32 xb) nb) = n32 (crc 0#32 (xa ++ xb)) := by rw [← Hb.out, Hcr.out]
           have hco : n32 (crc (crc 0#32 xa) xb) = n32 (crc 0#32 (xa ++ xb)) := by rw [Hco.out]
           go_wp2_with fail
           go_ret
           exact ⟨rfl, Hb8.out⟩)
  · have hq0 : (long == 0) = false := by simp; omega
    rcases hl5 with hl5 | hl5
    all_goals rcases H1.out with ⟨rfl, hn1, rfl⟩ | ⟨rfl, hn1⟩ <;> rcases H2.out with ⟨rfl, hn2, rfl⟩ | ⟨rfl, hn2⟩ <;> rcases H4.out with ⟨rfl, hn4, rfl⟩ | ⟨rfl, hn4⟩
    all_goals (go_wp2_with fail)
    all_goals first
      | (go_ret; exact ⟨rfl, Hb6.out⟩)
      | (refine (both_any _ _ nb _ (by omega)).mono ?_
         rintro e w7 ⟨rfl, rfl⟩
         go_wp2_with fail
         refine (crc_gen _ _ rfl B nb cb xb _ Hb.out (by unfold maxLen; omega) (HB.out.below Hb6.out)).mono ?_
         rintro e w8 ⟨v8, er8, rfl, h8, hb8⟩
         obtain ⟨rfl, _, rfl⟩ : er8 = 0 ∧ nb ≤ 12000 ∧ v8 = n32 (crc (crc 0#32 xa) xb) := by
           rcases h8 with h8 | h8
           · exact h8
           · omega
         have Hb8 := Lib.hid (Hb6.out.trans (hb8.mono Hb6.out.size))
         clear hb8 h8
         have hcr : n32 (both (crc 0#32 xa) (crc 0#32 xb) nb) = n32 (crc 0#32 (xa ++ xb)) := by rw [← Hb.out, Hcr.out]
         have hco : n32 (crc (crc 0#32 xa) xb) = n32 (crc 0#32 (xa ++ xb)) := by rw [Hco.out]
         go_wp2_with fail
         go_ret
         exact ⟨rfl, Hb8.out⟩)


theorem walk (w : World) (v0 : Value) (x0 : List UInt8) (h0 : IsBytes w v0 x0) (v1 : Value) (x1 : List UInt8) (h1 : IsBytes w v1 x1) (a : Int) (wa : (Lit.int .u32 a).wf = true) (b : Int) (wb : (Lit.int .u32 b).wf = true) (long : Int) (wl : (Lit.int .i64 long).wf = true)
    (s0 : x0.length ≤ 1048576) (s1 : x1.length ≤ 1048576) :
    Calls Try.prog 7 #[v0, v1, .int .u32 a, .int .u32 b, .int .i64 long] w fun e w' => e = .returned (.bool true) ∧ Below w.heap.size w w' := by
  obtain ⟨A, ca, rfl, la, ma, ha⟩ := h0
  obtain ⟨B, cb, rfl, lb, mb, hb⟩ := h1
  obtain ⟨x, rfl⟩ := wf_u32 wa
  obtain ⟨y, rfl⟩ := wf_u32 wb
  have h2 := wf_i64 wl
  exact walk0 A B _ _ ca cb x0 x1 x y long w rfl rfl la lb ma mb ha hb s0 s1 h2.1 h2.2
end Go.Proofs.Ytoncjlbgheaabaa.SumBoth
