/- reliquaryref.TokensOf; match.Longest; match.Tokens of too many bytes. -/
import Derived.Test.YtoncjlbgheaabaaMatchTok
namespace Go.Proofs.Ytoncjlbgheaabaa.Match
open Go Go.RowKit Go.Proofs.Ytoncjlbgheaabaa
set_option linter.unusedVariables false

def OfYes (xs : List UInt8) (w : World) (e : Ending) (w' : World) : Prop :=
  (∃ v, e = .returned v ∧ w'.ownsRow w.heap.size 80 3 v (toks xs).length ((toks xs).flatMap tokC)) ∧ Below w.heap.size w w'
set_option maxRecDepth 100000 in
set_option maxHeartbeats 4000000 in
theorem tokensOf_any (A : Option Addr) (n c : Nat) (xs : List UInt8) (w : World) (hn : xs.length = n) (hx : n ≤ 3000) (hA : ByAt w A xs) :
    Calls Try.prog 45 #[.slice A n c] w (OfYes xs w) := by
  have Hn := Lib.hid hn
  have HA := Lib.hid hA
  clear hn hA
  go_enter Try.func45, Try.ntmps45
  go_wp2_with fail
  go_loopw [3, 4] (fun v i wr => ∃ V : Value, V = v ∧ ∃ m k : Nat, ∃ l : List Tok, titer xs m = (k, l) ∧ k ≤ n ∧ l.length ≤ k ∧ i = .int .i64 (k : Int) ∧ wr.ownsRow w.heap.size 80 3 V l.length (l.flatMap tokC) ∧ Below w.heap.size w wr) (fun _ i _ => n - (intOf i).toNat)
  case atStart => exact ⟨_, rfl, 0, 0, [], rfl, Nat.zero_le _, Nat.le_refl _, rfl, World.ownsRow_nil _ _ _ _, Below.refl _ w⟩
  case round =>
    obtain ⟨v, rfl, m, k, l, hm, hk, hl, rfl, ho, hb⟩ := hrel
    have Hm := Lib.hid hm
    have Ho := Lib.hid ho
    have Hb := Lib.hid hb
    clear hm ho hb
    by_cases hlt : k < n
    · have hkl : k < xs.length := by rw [Hn.out]; exact hlt
      have hkx := hkl
      have hll : l.length ≤ 3000 := by omega
      have HA1 := Lib.hid (HA.out.below Hb.out)
      go_wp2_with fail
      refine (longestOf_any A n c k xs _ Hn.out (by omega) HA1.out hlt).mono ?_
      rintro e w2 ⟨rfl, hd⟩
      have hle := longest_le xs k
      have h258 := hle.1
      have hsum := hle.2.1
      have hfar := hle.2.2.1
      clear hle
      have Ho2 : Hid (w2.ownsRow w.heap.size 80 3 v l.length (l.flatMap tokC)) := Lib.hid (by obtain ⟨q, rfl⟩ := hd; exact Ho.out)
      have Hb2 : Hid (Below w.heap.size w w2) := Lib.hid (by obtain ⟨q, rfl⟩ := hd; exact below_drewN' Hb.out q)
      clear hd Ho HA1 Hb
      have Hlit : Hid ((longest xs k).1 = 0 ∨ (k + 1 < xs.length ∧ (longest xs k).1 < (longest xs (k + 1)).1) → titer xs (m + 1) = (k + 1, l ++ [(xs[k], 0, 0)])) := Lib.hid (fun h => by
        show tstep xs (titer xs m) = _
        rw [Hm.out]; exact tstep_lit (a := 0) (m := 0) hkl h)
      have Hcpy : Hid (¬ ((longest xs k).1 = 0 ∨ (k + 1 < xs.length ∧ (longest xs k).1 < (longest xs (k + 1)).1)) → titer xs (m + 1) = (k + (longest xs k).1, l ++ [(0, ((longest xs k).1 : Int), ((longest xs k).2 : Int))])) := Lib.hid (fun h => by
        show tstep xs (titer xs m) = _
        rw [Hm.out]; exact tstep_cpy hkl h)
      rw [Hn.out] at hsum Hlit Hcpy
      generalize longest xs k = s at *
      obtain ⟨a, f⟩ := s
      dsimp only at h258 hsum hfar Hlit Hcpy ⊢
      by_cases ha : a = 0
      · have Hnew := Lib.hid (Hlit.out (Or.inl ha))
        subst ha
        obtain ⟨w3, hw3⟩ : ∃ w3, w3 = w2 := ⟨_, rfl⟩
        subst hw3
        clear Hlit Hcpy
        obtain ⟨bb, oo, rfl, hcell⟩ := (HA.out.below Hb2.out).get hkx
        generalize xs[k] = x at *
        have Ho3 := Lib.hid (own_keep Ho2.out ((Below.refl w3.heap.size w3).alloc (Nat.le_refl _) (.cells #[.int .u8 (n8 x), .int .i64 0, .int .i64 0] 80)))
        have Hb3 := Lib.hid (Hb2.out.alloc Hb2.out.size (.cells #[.int .u8 (n8 x), .int .i64 0, .int .i64 0] 80))
        have Hsl : Hid (SlAt (w3.alloc (.cells #[.int .u8 (n8 x), .int .i64 0, .int .i64 0] 80)) (some ⟨w3.heap.size, 0, none⟩) [.int .u8 (n8 x), .int .i64 0, .int .i64 0]) := Lib.hid (SlAt.of_heap (heap_alloc_new _ _) rfl)
        go_wp2_with (at_builtin; refine wpList_app _ rfl (.tmp 41) (.tmp 47) _ rfl w.heap.size 80 _ 3 24 tyT v l.length (l.flatMap tokC) rfl Ho3.out (some ⟨w3.heap.size, 0, none⟩) 1 1 [.int .u8 (n8 x), .int .i64 0, .int .i64 0] rfl rfl Hsl.out (by simp [Value.oneCell']) (by simp) (by unfold maxLen; omega) (by omega) Hb3.out.size ?_; intro v4 w4 hown4 hg4 _; have Ho4 := Lib.hid hown4; have Hb4 := Lib.hid (own_below Ho3.out hg4 Hb3.out Hb3.out.size); clear hown4 hg4)
        go_roundw
        case rel => exact ⟨v4, rfl, m + 1, k + 1, _, Hnew.out, by omega, by simp; omega, by go_num, by rw [List.length_append, List.flatMap_append]; exact Ho4.out, Hb4.out⟩
        case measure => simp [intOf]; omega
      · have ha0 : 0 < a := by omega
        have heq0 : ((a : Int) == 0) = false := by simp; omega
        by_cases hk1 : k + 1 < n
        · have hk1' : (k : Int) + 1 < (n : Int) := by omega
          go_wp2_with fail
          have hk1i : ((k : Int) + 1) = ((k + 1 : Nat) : Int) := by omega
          rw [hk1i]
          refine (longestOf_any A n c (k + 1) xs _ Hn.out (by omega) (HA.out.below Hb2.out) (by omega)).mono ?_
          rintro e w3 ⟨rfl, hd⟩
          clear hk1i
          have h258' := (longest_le xs (k + 1)).1
          have Ho2 : Hid (w3.ownsRow w.heap.size 80 3 v l.length (l.flatMap tokC)) := Lib.hid (by obtain ⟨q, rfl⟩ := hd; exact Ho2.out)
          have Hb2 : Hid (Below w.heap.size w w3) := Lib.hid (by obtain ⟨q, rfl⟩ := hd; exact below_drewN' Hb2.out q)
          clear hd
          generalize longest xs (k + 1) = s2 at *
          obtain ⟨a2, f2⟩ := s2
          dsimp only at h258' Hlit Hcpy ⊢
          by_cases hm2 : a < a2
          · have Hnew := Lib.hid (Hlit.out (Or.inr ⟨hk1, hm2⟩))
            clear Hlit Hcpy
            obtain ⟨bb, oo, rfl, hcell⟩ := (HA.out.below Hb2.out).get hkx
            generalize xs[k] = x at *
            have Ho3 := Lib.hid (own_keep Ho2.out ((Below.refl w3.heap.size w3).alloc (Nat.le_refl _) (.cells #[.int .u8 (n8 x), .int .i64 0, .int .i64 0] 80)))
            have Hb3 := Lib.hid (Hb2.out.alloc Hb2.out.size (.cells #[.int .u8 (n8 x), .int .i64 0, .int .i64 0] 80))
            have Hsl : Hid (SlAt (w3.alloc (.cells #[.int .u8 (n8 x), .int .i64 0, .int .i64 0] 80)) (some ⟨w3.heap.size, 0, none⟩) [.int .u8 (n8 x), .int .i64 0, .int .i64 0]) := Lib.hid (SlAt.of_heap (heap_alloc_new _ _) rfl)
            go_wp2_with (at_builtin; refine wpList_app _ rfl (.tmp 41) (.tmp 47) _ rfl w.heap.size 80 _ 3 24 tyT v l.length (l.flatMap tokC) rfl Ho3.out (some ⟨w3.heap.size, 0, none⟩) 1 1 [.int .u8 (n8 x), .int .i64 0, .int .i64 0] rfl rfl Hsl.out (by simp [Value.oneCell']) (by simp) (by unfold maxLen; omega) (by omega) Hb3.out.size ?_; intro v4 w4 hown4 hg4 _; have Ho4 := Lib.hid hown4; have Hb4 := Lib.hid (own_below Ho3.out hg4 Hb3.out Hb3.out.size); clear hown4 hg4)
            go_roundw
            case rel => exact ⟨v4, rfl, m + 1, k + 1, _, Hnew.out, by omega, by simp; omega, by go_num, by rw [List.length_append, List.flatMap_append]; exact Ho4.out, Hb4.out⟩
            case measure => simp [intOf]; omega
          · have Hnew := Lib.hid (Hcpy.out (by omega))
            clear Hlit Hcpy
            have Ho3 := Lib.hid (own_keep Ho2.out ((Below.refl w3.heap.size w3).alloc (Nat.le_refl _) (.cells #[.int .u8 0, .int .i64 (a : Int), .int .i64 (f : Int)] 80)))
            have Hb3 := Lib.hid (Hb2.out.alloc Hb2.out.size (.cells #[.int .u8 0, .int .i64 (a : Int), .int .i64 (f : Int)] 80))
            have Hsl : Hid (SlAt (w3.alloc (.cells #[.int .u8 0, .int .i64 (a : Int), .int .i64 (f : Int)] 80)) (some ⟨w3.heap.size, 0, none⟩) [.int .u8 0, .int .i64 (a : Int), .int .i64 (f : Int)]) := Lib.hid (SlAt.of_heap (heap_alloc_new _ _) rfl)
            have heq0 : ((a : Int) == 0) = false := by simp; omega
            go_wp2_with (at_builtin; refine wpList_app _ rfl (.tmp 51) (.tmp 55) _ rfl w.heap.size 80 _ 3 24 tyT v l.length (l.flatMap tokC) rfl Ho3.out (some ⟨w3.heap.size, 0, none⟩) 1 1 [.int .u8 0, .int .i64 (a : Int), .int .i64 (f : Int)] rfl rfl Hsl.out (by simp [Value.oneCell']) (by simp) (by unfold maxLen; omega) (by omega) Hb3.out.size ?_; intro v4 w4 hown4 hg4 _; have Ho4 := Lib.hid hown4; have Hb4 := Lib.hid (own_below Ho3.out hg4 Hb3.out Hb3.out.size); clear hown4 hg4)
            go_roundw
            case rel => exact ⟨v4, rfl, m + 1, k + a, _, Hnew.out, by omega, by simp; omega, by go_num, by rw [List.length_append, List.flatMap_append]; exact Ho4.out, Hb4.out⟩
            case measure => simp [intOf]; omega
        · have hk1' : ¬ ((k : Int) + 1 < (n : Int)) := by omega
          have Hnew := Lib.hid (Hcpy.out (by omega))
          obtain ⟨w3, hw3⟩ : ∃ w3, w3 = w2 := ⟨_, rfl⟩
          subst hw3
          clear Hlit Hcpy
          have Ho3 := Lib.hid (own_keep Ho2.out ((Below.refl w3.heap.size w3).alloc (Nat.le_refl _) (.cells #[.int .u8 0, .int .i64 (a : Int), .int .i64 (f : Int)] 80)))
          have Hb3 := Lib.hid (Hb2.out.alloc Hb2.out.size (.cells #[.int .u8 0, .int .i64 (a : Int), .int .i64 (f : Int)] 80))
          have Hsl : Hid (SlAt (w3.alloc (.cells #[.int .u8 0, .int .i64 (a : Int), .int .i64 (f : Int)] 80)) (some ⟨w3.heap.size, 0, none⟩) [.int .u8 0, .int .i64 (a : Int), .int .i64 (f : Int)]) := Lib.hid (SlAt.of_heap (heap_alloc_new _ _) rfl)
          have heq0 : ((a : Int) == 0) = false := by simp; omega
          go_wp2_with (at_builtin; refine wpList_app _ rfl (.tmp 51) (.tmp 55) _ rfl w.heap.size 80 _ 3 24 tyT v l.length (l.flatMap tokC) rfl Ho3.out (some ⟨w3.heap.size, 0, none⟩) 1 1 [.int .u8 0, .int .i64 (a : Int), .int .i64 (f : Int)] rfl rfl Hsl.out (by simp [Value.oneCell']) (by simp) (by unfold maxLen; omega) (by omega) Hb3.out.size ?_; intro v4 w4 hown4 hg4 _; have Ho4 := Lib.hid hown4; have Hb4 := Lib.hid (own_below Ho3.out hg4 Hb3.out Hb3.out.size); clear hown4 hg4)
          go_roundw
          case rel => exact ⟨v4, rfl, m + 1, k + a, _, Hnew.out, by omega, by simp; omega, by go_num, by rw [List.length_append, List.flatMap_append]; exact Ho4.out, Hb4.out⟩
          case measure => simp [intOf]; omega
    · obtain rfl : k = n := by omega
      have Hd := Lib.hid (titer_done xs m (by rw [Hm.out, Hn.out]; exact Nat.le_refl _))
      rw [Hm.out] at Hd
      go_wp2_with fail
      go_ret
      exact ⟨⟨_, rfl, by rw [← Hd.out]; exact Ho.out⟩, Hb.out⟩
set_option maxHeartbeats 800000 in
theorem tokens_many (A : Option Addr) (n c : Nat) (w : World) (hn : 3000 < n) (hx : n ≤ maxLen) :
    Calls Try.prog 34 #[.slice A n c] w fun e w' => e = .returned (.tuple #[.slice none 0 0, .int .i64 2]) ∧ w' = w := by
  have h1 : 3000 < (n : Int) := by omega
  unfold maxLen at hx
  go_enter Try.func34, Try.ntmps34
  go_wp2_with fail
  go_ret2
  exact ⟨rfl, rfl⟩
/-- what Longest tells -/
def longI (xs : List UInt8) (k : Int) : Int × Int × Int :=
  if 3000 < xs.length then (0, 0, 2) else if k < 0 ∨ (xs.length : Int) ≤ k then (0, 0, 5) else (((longest xs k.toNat).1 : Int), ((longest xs k.toNat).2 : Int), 0)
set_option maxHeartbeats 800000 in
theorem longestL_any (A : Option Addr) (n c : Nat) (k : Int) (xs : List UInt8) (w : World) (hn : xs.length = n) (hx : n ≤ maxLen) (hA : ByAt w A xs) :
    Calls Try.prog 42 #[.slice A n c, .int .i64 k] w fun e w' => e = .returned (.tuple #[.int .i64 (longI xs k).1, .int .i64 (longI xs k).2.1, .int .i64 (longI xs k).2.2]) ∧ ∃ d, w' = w.drewN d := by
  have Hn := Lib.hid hn
  have HA := Lib.hid hA
  by_cases h1 : 3000 < n
  · have Hr : Hid (longI xs k = (0, 0, 2)) := Lib.hid (by unfold longI; rw [if_pos (by omega)])
    unfold maxLen at hx
    have h1' : 3000 < (n : Int) := by omega
    clear hn hA
    go_enter Try.func42, Try.ntmps42
    go_wp2_with fail
    go_ret3
    exact ⟨by rw [Hr.out]; rfl, 0, rfl⟩
  · have h1' : ¬ (3000 < (n : Int)) := by omega
    by_cases h2 : k < 0
    · have Hr : Hid (longI xs k = (0, 0, 5)) := Lib.hid (by unfold longI; rw [if_neg (by omega), if_pos (Or.inl h2)])
      clear hn hA
      go_enter Try.func42, Try.ntmps42
      go_wp2_with fail
      go_ret3
      exact ⟨by rw [Hr.out]; rfl, 0, rfl⟩
    · by_cases h3 : (n : Int) ≤ k
      · have Hr : Hid (longI xs k = (0, 0, 5)) := Lib.hid (by unfold longI; rw [if_neg (by omega), if_pos (Or.inr (by omega))])
        clear hn hA
        go_enter Try.func42, Try.ntmps42
        go_wp2_with fail
        go_ret3
        exact ⟨by rw [Hr.out]; rfl, 0, rfl⟩
      · obtain ⟨z, rfl⟩ := Int.eq_ofNat_of_zero_le (by omega : 0 ≤ k)
        have Hr : Hid (longI xs (z : Int) = (((longest xs z).1 : Int), ((longest xs z).2 : Int), 0)) := Lib.hid (by unfold longI; rw [if_neg (by omega), if_neg (by omega), Int.toNat_natCast])
        clear hn hA
        go_enter Try.func42, Try.ntmps42
        go_wp2_with fail
        refine (longest_any A n c z xs w Hn.out (by omega) HA.out (by omega)).mono ?_
        rintro e w1 ⟨rfl, q, rfl⟩
        go_wp2_with fail
        go_ret3
        exact ⟨by rw [Hr.out]; rfl, q, rfl⟩
end Go.Proofs.Ytoncjlbgheaabaa.Match
