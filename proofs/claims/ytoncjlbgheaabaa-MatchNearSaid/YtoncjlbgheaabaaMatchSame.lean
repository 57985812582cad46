/- package match: same, longest, Longest. -/
import Derived.Test.YtoncjlbgheaabaaMatchPure
import Derived.Test.YtoncjlbgheaabaaEqual
namespace Go.Proofs.Ytoncjlbgheaabaa.Match
open Go Go.RowKit Go.Proofs.Ytoncjlbgheaabaa
set_option linter.unusedVariables false

theorem drew2 (w : World) (a b : Nat) : ∃ d, (w.drewN a).drewN b = w.drewN d := ⟨_, World.drewN_drewN _ _ _⟩
theorem lay_sum (a b : Nat) (h : a + b ≤ 1000000000) : IntKind.i64.wrap ((a : Int) + (b : Int)) = (a : Int) + (b : Int) := IntWalk.i64_in _ (by omega)
set_option maxRecDepth 100000 in
set_option maxHeartbeats 800000 in
theorem same_any (A : Option Addr) (n c i k : Nat) (xs : List UInt8) (w : World) (hn : xs.length = n) (hx : n ≤ 1000000) (hA : ByAt w A xs) (hik : i ≤ k) (hk : k ≤ n) :
    Calls Try.prog 63 #[.slice A n c, .int .i64 (i : Int), .int .i64 (k : Int)] w fun e w' => e = .returned (.int .i64 ((sameN xs i k : Nat) : Int)) ∧ ∃ d, w' = w.drewN d := by
  have Hn := Lib.hid hn
  have HA := Lib.hid hA
  clear hn hA
  go_enter Try.func63, Try.ntmps63
  go_wp2_with fail
  go_loopw [7] (fun v wr => ∃ m : Nat, m ≤ sameN xs i k ∧ m ≤ 258 ∧ k + m ≤ n ∧ v = .int .i64 m ∧ ∃ d, wr = w.drewN d) (fun v _ => 258 - (intOf v).toNat)
  case atStart => exact ⟨0, Nat.zero_le _, by omega, by omega, rfl, 0, rfl⟩
  case round =>
    obtain ⟨m, hm, hm2, hkm, rfl, d, rfl⟩ := hrel
    have HS : Hid (∀ _ : True, True → (¬ (m < 258) ∨ ¬ (k + m < xs.length) ∨ ∃ (h : k + m < xs.length), xs[i + m]'(by omega) ≠ xs[k + m]) → sameN xs i k = m) := Lib.hid (fun _ _ h => same_stop xs i k m hik hm h)
    have HT : Hid (∀ (_ : True) (h1 : m < 258) (h2 : k + m < xs.length), xs[i + m]'(by omega) = xs[k + m] → m + 1 ≤ sameN xs i k) := Lib.hid (fun _ h1 h2 h3 => same_step xs i k m hik hm h1 h2 h3)
    have Hm := Lib.hid hm
    clear hm
    by_cases h1 : m < 258
    · have g1 : decide ((m : Int) < 258) = true := by simp; omega
      by_cases h2 : k + m < n
      · have g2 : decide ((k : Int) + (m : Int) < (n : Int)) = true := by simp; omega
        have h2' : k + m < xs.length := by rw [Hn.out]; exact h2
        have h3' : i + m < xs.length := by omega
        obtain ⟨b, o, rfl, hc1⟩ := HA.out.get h2'
        obtain ⟨b', o', hb, hc2⟩ := HA.out.get h3'
        injection hb with hb; injection hb with e1 e2 e3; subst e1 e2
        have s1 := lay_sum k m (by omega)
        have s2 := lay_sum i m (by omega)
        have p1 : (0 : Int) ≤ (k : Int) + (m : Int) := by omega
        have p2 : (0 : Int) ≤ (i : Int) + (m : Int) := by omega
        have q1 : ((k : Int) + (m : Int)).toNat = k + m := by omega
        have q2 : ((i : Int) + (m : Int)).toNat = i + m := by omega
        have r1 : (k : Int) + (m : Int) < (n : Int) := by omega
        have r2 : (i : Int) + (m : Int) < (n : Int) := by omega
        by_cases he : xs[i + m] = xs[k + m]
        · have Hst := Lib.hid (HT.out trivial h1 h2' he)
          have g3 : (n8 xs[i + m] == n8 xs[k + m]) = true := by rw [he]; simp
          have He := Lib.hid he
          clear he HS HT
          generalize xs[k + m] = x at *
          generalize xs[i + m] = y at *
          go_wp2_with fail
          go_quiet (fail)
          go_wp2_with fail
          go_roundw
          case rel => exact ⟨m + 1, Hst.out, by omega, by omega, by go_num, _, rfl⟩
          case measure => simp [intOf]; omega
        · have Hst := Lib.hid (HS.out trivial trivial (Or.inr (Or.inr ⟨h2', he⟩)))
          have g3 : (n8 xs[i + m] == n8 xs[k + m]) = false := by rw [n8_beq]; simpa using he
          have He := Lib.hid he
          clear he HS HT
          generalize xs[k + m] = x at *
          generalize xs[i + m] = y at *
          go_wp2_with fail
          go_quiet (fail)
          go_wp2_with fail
          go_ret
          exact ⟨ret_int (by rw [Hst.out]), drew2 w d _⟩
      · have g2 : decide ((k : Int) + (m : Int) < (n : Int)) = false := by simp; omega
        have s1 := lay_sum k m (by omega)
        have Hst := Lib.hid (HS.out trivial trivial (Or.inr (Or.inl (by rw [Hn.out]; exact h2))))
        clear HS HT
        go_wp2_with fail
        go_quiet (fail)
        go_wp2_with fail
        go_ret
        exact ⟨ret_int (by rw [Hst.out]), drew2 w d _⟩
    · have g1 : decide ((m : Int) < 258) = false := by simp; omega
      have Hst := Lib.hid (HS.out trivial trivial (Or.inl h1))
      clear HS HT
      go_wp2_with fail
      go_quiet (fail)
      go_wp2_with fail
      go_ret
      exact ⟨ret_int (by rw [Hst.out]), drew2 w d _⟩
set_option maxHeartbeats 800000 in
theorem longest_any (A : Option Addr) (n c k : Nat) (xs : List UInt8) (w : World) (hn : xs.length = n) (hx : n ≤ 1000000) (hA : ByAt w A xs) (hk : k < n) :
    Calls Try.prog 61 #[.slice A n c, .int .i64 (k : Int)] w fun e w' => e = .returned (.tuple #[.int .i64 (((longest xs k).1 : Nat) : Int), .int .i64 (((longest xs k).2 : Nat) : Int)]) ∧ ∃ d, w' = w.drewN d := by
  have HA := Lib.hid hA
  have Hn := Lib.hid hn
  clear hA hn
  go_enter Try.func61, Try.ntmps61
  go_wp2_with fail
  go_loopw [4, 5, 6] (fun a f i wr => ∃ d : Nat, d ≤ k ∧ i = .int .i64 ((k : Int) - 1 - (d : Int)) ∧ a = .int .i64 (((longD xs k d).1 : Nat) : Int) ∧ f = .int .i64 (((longD xs k d).2 : Nat) : Int) ∧ ∃ d, wr = w.drewN d) (fun _ _ i _ => (intOf i + 1).toNat)
  case atStart => exact ⟨0, Nat.zero_le _, by simp, rfl, rfl, 0, rfl⟩
  case round =>
    obtain ⟨d, hd, rfl, rfl, rfl, q, rfl⟩ := hrel
    have hl := longD_le xs k d hd
    have hl1 := hl.1
    have hl2 := hl.2.2.1
    clear hl
    by_cases hlt : d < k
    · have hge : (0 : Int) ≤ (k : Int) - 1 - (d : Int) := by omega
      have hi : ((k : Int) - 1 - (d : Int)) = ((k - (d + 1) : Nat) : Int) := by omega
      have Hs := Lib.hid (show longD xs k (d + 1) = tryAt xs k (longD xs k d) (k - (d + 1)) from rfl)
      have hsl := (same_le xs (k - (d + 1)) k (by omega)).1
      have hik : k - (d + 1) ≤ k := by omega
      have Hd : Hid ((d + 1) + (k - (d + 1)) = k) := Lib.hid (by omega)
      rw [hi] at hge ⊢
      clear hi
      generalize longD xs k d = s at *
      obtain ⟨a, f⟩ := s
      generalize k - (d + 1) = i at *
      dsimp only at hl1 hl2 ⊢
      go_wp2_with fail
      refine (same_any A n c i k xs _ Hn.out hx (by exact HA.out) hik (by omega)).mono ?_
      rintro e w1 ⟨rfl, q2, rfl⟩
      have Hz := Lib.hid (show sameN xs i k = sameN xs i k from rfl)
      have htry1 : Hid (a < sameN xs i k → tryAt xs k (a, f) i = (sameN xs i k, k - i)) := Lib.hid (fun h => if_pos h)
      have htry2 : Hid (¬ a < sameN xs i k → tryAt xs k (a, f) i = (a, f)) := Lib.hid (fun h => if_neg h)
      generalize sameN xs i k = z at *
      by_cases hz : a < z
      · have Hs2 : Hid (longD xs k (d + 1) = (z, k - i)) := Lib.hid (by rw [Hs.out]; exact htry1.out hz)
        go_wp2_with fail
        go_roundw
        case rel => exact ⟨d + 1, by omega, int_eq (by have := Hd.out; omega), by rw [Hs2.out], by rw [Hs2.out]; exact int_eq (by have := Hd.out; dsimp only; omega), _, rfl⟩
        case measure => simp [intOf]
      · have Hs2 : Hid (longD xs k (d + 1) = (a, f)) := Lib.hid (by rw [Hs.out]; exact htry2.out hz)
        go_wp2_with fail
        go_roundw
        case rel => exact ⟨d + 1, by omega, int_eq (by have := Hd.out; omega), by rw [Hs2.out], by rw [Hs2.out], _, rfl⟩
        case measure => simp [intOf]
    · obtain rfl : d = k := by omega
      have Hl := Lib.hid (show longest xs d = cut3 (longD xs d d) from rfl)
      generalize longD xs d d = s at *
      obtain ⟨a, f⟩ := s
      dsimp only at hl1 hl2 ⊢
      by_cases h3 : a < 3
      · have Hr : Hid (longest xs d = (0, 0)) := Lib.hid (by rw [Hl.out]; unfold cut3; rw [if_pos h3])
        go_wp2_with fail
        go_ret2
        exact ⟨by rw [Hr.out]; rfl, _, rfl⟩
      · have Hr : Hid (longest xs d = (a, f)) := Lib.hid (by rw [Hl.out]; unfold cut3; rw [if_neg h3])
        go_wp2_with fail
        go_ret2
        exact ⟨by rw [Hr.out]; rfl, _, rfl⟩
theorem longStep_yes {xs : List UInt8} {k d a f m : Nat} (h : ∀ (t : Nat × Nat), (t = if a < m then (m, d + 1) else (a, f)) → longD xs k (d + 1) = t) (hc : (a : Int) < (m : Int)) : longD xs k (d + 1) = (m, d + 1) :=
  h _ (by rw [if_pos (by omega)])
theorem longStep_no {xs : List UInt8} {k d a f m : Nat} (h : ∀ (t : Nat × Nat), (t = if a < m then (m, d + 1) else (a, f)) → longD xs k (d + 1) = t) (hc : (m : Int) ≤ (a : Int)) : longD xs k (d + 1) = (a, f) :=
  h _ (by rw [if_neg (by omega)])
set_option maxRecDepth 100000 in
set_option maxHeartbeats 1600000 in
theorem longestOf_any (A : Option Addr) (n c k : Nat) (xs : List UInt8) (w : World) (hn : xs.length = n) (hx : n ≤ 1000000) (hA : ByAt w A xs) (hk : k < n) :
    Calls Try.prog 43 #[.slice A n c, .int .i64 (k : Int)] w fun e w' => e = .returned (.tuple #[.int .i64 (((longest xs k).1 : Nat) : Int), .int .i64 (((longest xs k).2 : Nat) : Int)]) ∧ ∃ d, w' = w.drewN d := by
  have HA := Lib.hid hA
  have Hn := Lib.hid hn
  clear hA hn
  go_enter Try.func43, Try.ntmps43
  go_wp2_with fail
  go_loopw [4, 5, 6] (fun a f i wr => ∃ d : Nat, d ≤ k ∧ i = .int .i64 ((d : Int) + 1) ∧ a = .int .i64 (((longD xs k d).1 : Nat) : Int) ∧ f = .int .i64 (((longD xs k d).2 : Nat) : Int) ∧ ∃ d, wr = w.drewN d) (fun _ _ i _ => (k + 1 - (intOf i).toNat))
  case atStart => exact ⟨0, Nat.zero_le _, by simp, rfl, rfl, 0, rfl⟩
  case round =>
    obtain ⟨d, hd, rfl, rfl, rfl, q, rfl⟩ := hrel
    have hl := longD_le xs k d hd
    have hl1 := hl.1
    have hl2 := hl.2.2.1
    clear hl
    by_cases hlt : d < k
    · have hge : (d : Int) + 1 ≤ (k : Int) := by omega
      have Hs := Lib.hid (show longD xs k (d + 1) = tryAt xs k (longD xs k d) (k - (d + 1)) from rfl)
      have hik : k - (d + 1) ≤ k := by omega
      have Hd : Hid ((d + 1) + (k - (d + 1)) = k) := Lib.hid (by omega)
      generalize longD xs k d = s at *
      obtain ⟨a, f⟩ := s
      generalize k - (d + 1) = i at *
      dsimp only at hl1 hl2 ⊢
      obtain ⟨wo, hwo⟩ : ∃ wo : World, wo = w.drewN q := ⟨_, rfl⟩
      go_wp2_with fail
      go_loopw [7] (fun v wr => ∃ m : Nat, m ≤ sameN xs i k ∧ m ≤ 258 ∧ k + m ≤ n ∧ v = .int .i64 m ∧ ∃ d, wr = w.drewN d) (fun v _ => 258 - (intOf v).toNat)
      case atStart => exact ⟨0, Nat.zero_le _, by omega, by omega, rfl, _, rfl⟩
      case round =>
        obtain ⟨m, hm, hm2, hkm, rfl, q1, rfl⟩ := hrel
        have HS : Hid (∀ _ : True, True → (¬ (m < 258) ∨ ¬ (k + m < xs.length) ∨ ∃ (h : k + m < xs.length), xs[i + m]'(by omega) ≠ xs[k + m]) → sameN xs i k = m) := Lib.hid (fun _ _ h => same_stop xs i k m hik hm h)
        have HT : Hid (∀ (_ : True) (h1 : m < 258) (h2 : k + m < xs.length), xs[i + m]'(by omega) = xs[k + m] → m + 1 ≤ sameN xs i k) := Lib.hid (fun _ h1 h2 h3 => same_step xs i k m hik hm h1 h2 h3)
        have Hm := Lib.hid hm
        clear hm hwo
        have HE : Hid (sameN xs i k = m → ∀ (t : Nat × Nat), (t = if a < m then (m, d + 1) else (a, f)) → longD xs k (d + 1) = t) := Lib.hid (by
          intro h t ht
          rw [Hs.out, ht]
          have e : k - i = d + 1 := by have := Hd.out; omega
          unfold tryAt; rw [h, e])
        have s1 := lay_sum k m (by omega)
        by_cases h2 : k + m < n
        · have g2 : decide ((k : Int) + (m : Int) < (n : Int)) = true := by simp; omega
          by_cases h1 : m < 258
          · have g1 : decide ((m : Int) < 258) = true := by simp; omega
            have h2' : k + m < xs.length := by rw [Hn.out]; exact h2
            have h3' : i + m < xs.length := by omega
            obtain ⟨b, o, rfl, hc1⟩ := HA.out.get h2'
            obtain ⟨b', o', hb, hc2⟩ := HA.out.get h3'
            injection hb with hb; injection hb with e1 e2 e3; subst e1 e2
            have p1 : (0 : Int) ≤ (k : Int) + (m : Int) := by omega
            have p2 : (0 : Int) ≤ (k : Int) + (m : Int) - ((d : Int) + 1) := by omega
            have q1 : ((k : Int) + (m : Int)).toNat = k + m := by omega
            have q2 : ((k : Int) + (m : Int) - ((d : Int) + 1)).toNat = i + m := by have := Hd.out; omega
            have r1 : (k : Int) + (m : Int) < (n : Int) := by omega
            have r2 : (k : Int) + (m : Int) - ((d : Int) + 1) < (n : Int) := by omega
            have s2 : IntKind.i64.wrap ((k : Int) + (m : Int) - ((d : Int) + 1)) = (k : Int) + (m : Int) - ((d : Int) + 1) := IntWalk.i64_in _ (by omega)
            by_cases he : xs[i + m] = xs[k + m]
            · have Hst := Lib.hid (HT.out trivial h1 h2' he)
              have g3 : (n8 xs[k + m] == n8 xs[i + m]) = true := by rw [he]; simp
              have He := Lib.hid he
              clear he HS HT HE
              generalize xs[k + m] = x at *
              generalize xs[i + m] = y at *
              go_wp2_with fail
              go_quiet (fail)
              go_wp2_with fail
              go_roundw
              case rel => exact ⟨m + 1, Hst.out, by omega, by omega, by go_num, _, rfl⟩
              case measure => simp [intOf]; omega
            · have Hst := Lib.hid (HE.out (HS.out trivial trivial (Or.inr (Or.inr ⟨h2', he⟩))))
              have g3 : (n8 xs[k + m] == n8 xs[i + m]) = false := by rw [n8_beq]; simpa using fun h => he h.symm
              have He := Lib.hid he
              clear he HS HT HE
              generalize xs[k + m] = x at *
              generalize xs[i + m] = y at *
              go_wp2_with fail
              go_quiet (fail)
              go_wp2_with fail
              all_goals
                go_roundw
                case rel => first | exact ⟨d + 1, by omega, by go_num, by rw [longStep_yes Hst.out (by omega)], by rw [longStep_yes Hst.out (by omega)]; rfl, _, rfl⟩ | exact ⟨d + 1, by omega, by go_num, by rw [longStep_no Hst.out (by omega)], by rw [longStep_no Hst.out (by omega)], _, rfl⟩
                case measure => simp [intOf]; omega
          · have g1 : decide ((m : Int) < 258) = false := by simp; omega
            have Hst := Lib.hid (HE.out (HS.out trivial trivial (Or.inl h1)))
            clear HS HT HE
            go_wp2_with fail
            go_quiet (fail)
            go_wp2_with fail
            all_goals
              go_roundw
              case rel => first | exact ⟨d + 1, by omega, by go_num, by rw [longStep_yes Hst.out (by omega)], by rw [longStep_yes Hst.out (by omega)]; rfl, _, rfl⟩ | exact ⟨d + 1, by omega, by go_num, by rw [longStep_no Hst.out (by omega)], by rw [longStep_no Hst.out (by omega)], _, rfl⟩
              case measure => simp [intOf]; omega
        · have g2 : decide ((k : Int) + (m : Int) < (n : Int)) = false := by simp; omega
          have Hst := Lib.hid (HE.out (HS.out trivial trivial (Or.inr (Or.inl (by rw [Hn.out]; exact h2)))))
          clear HS HT HE
          go_wp2_with fail
          go_quiet (fail)
          go_wp2_with fail
          all_goals
            go_roundw
            case rel => first | exact ⟨d + 1, by omega, by go_num, by rw [longStep_yes Hst.out (by omega)], by rw [longStep_yes Hst.out (by omega)]; rfl, _, rfl⟩ | exact ⟨d + 1, by omega, by go_num, by rw [longStep_no Hst.out (by omega)], by rw [longStep_no Hst.out (by omega)], _, rfl⟩
            case measure => simp [intOf]; omega
    · obtain rfl : d = k := by omega
      have Hl := Lib.hid (show longest xs d = cut3 (longD xs d d) from rfl)
      generalize longD xs d d = s at *
      obtain ⟨a, f⟩ := s
      dsimp only at hl1 hl2 ⊢
      by_cases h3 : a < 3
      · have Hr : Hid (longest xs d = (0, 0)) := Lib.hid (by rw [Hl.out]; unfold cut3; rw [if_pos h3])
        go_wp2_with fail
        go_ret2
        exact ⟨by rw [Hr.out]; rfl, _, rfl⟩
      · have Hr : Hid (longest xs d = (a, f)) := Lib.hid (by rw [Hl.out]; unfold cut3; rw [if_neg h3])
        go_wp2_with fail
        go_ret2
        exact ⟨by rw [Hr.out]; rfl, _, rfl⟩
end Go.Proofs.Ytoncjlbgheaabaa.Match
