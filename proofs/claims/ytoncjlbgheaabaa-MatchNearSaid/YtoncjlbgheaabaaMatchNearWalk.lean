/- reliquarylaw.MatchNear: the walk. -/
import Derived.Test.YtoncjlbgheaabaaMatchBackWalk
import Derived.Test.YtoncjlbgheaabaaMatchNearPure
namespace Go.Proofs.Ytoncjlbgheaabaa.MatchNear
open Go Go.RowKit Go.Proofs.Ytoncjlbgheaabaa Go.Proofs.Ytoncjlbgheaabaa.Match
set_option linter.unusedVariables false

set_option maxHeartbeats 400000 in
theorem hasPrefix_any (A B : Option Addr) (n m ca cb : Nat) (xs ys : List UInt8) (w : World) (hn : xs.length = n) (hm : ys.length = m) (hmn : m ≤ n) (hnc : n ≤ ca) (hx : ca ≤ 9223372036854775807) (ha : ByAt w A xs) (hb : ByAt w B ys) :
    Calls Try.prog 46 #[.slice A n ca, .slice B m cb] w fun e w' => e = .returned (.bool (decide (xs.take m = ys))) ∧ w' = w := by
  have Hn := Lib.hid hn
  have Hm := Lib.hid hm
  have HA := Lib.hid (ByAt.take ha m)
  have HB := Lib.hid hb
  have h1 : (m : Int) ≤ (n : Int) := by omega
  have h2 : (m : Int) ≤ (ca : Int) := by omega
  have h3 : ¬ ((n : Int) < (m : Int)) := by omega
  clear hn hm ha hb
  go_enter Try.func46, Try.ntmps46
  go_wp2_with fail
  refine (equal_bytes A B m m ca cb (xs.take m) ys w (by rw [List.length_take, Hn.out]; omega) Hm.out HA.out HB.out).mono ?_
  rintro e w' ⟨rfl, rfl⟩
  go_wp2_with fail
  go_ret
  exact ⟨rfl, rfl⟩
theorem slat_sub {w : World} {b o : Nat} {xs : List UInt8} (h : ByAt w (some ⟨b, o, none⟩) xs) (k a : Nat) : ByAt w (some ⟨b, o + k, none⟩) ((xs.drop k).take a) := ByAt.take (ByAt.drop h k) a
/-- a nearer place says fewer -/
theorem nearer (xs : List UInt8) (k a f d : Nat) (hl : longest xs k = (a, f)) (h1 : 1 ≤ d) (h2 : d < f) (hk : k + a ≤ xs.length) (ha : a ≤ 258) (hf : f ≤ k) : decide ((xs.drop (k - d)).take a = (xs.drop k).take a) = false := by
  have hlt := longest_first xs k d h1 (by rw [hl]; exact h2)
  rw [hl] at hlt
  simp only [decide_eq_false_iff_not]
  intro h
  have := same_of_take xs (k - d) k a (by omega) ha hk h
  simp at hlt; omega
theorem tok_lit (b : List UInt8) (k : Nat) (hk : k < b.length) (h : (longest b k).1 = 0 ∨ (k + 1 < b.length ∧ (longest b k).1 < (longest b (k + 1)).1)) : tokAt b k = (b[k], 0, 0) ∧ stepAt b k = 1 := by
  unfold tokAt stepAt
  rw [if_pos h, if_pos h]
  simp [List.getD_eq_getElem?_getD, List.getElem?_eq_getElem hk]
theorem tok_cpy (b : List UInt8) (k : Nat) (h : ¬ ((longest b k).1 = 0 ∨ (k + 1 < b.length ∧ (longest b k).1 < (longest b (k + 1)).1))) : tokAt b k = (0, ((longest b k).1 : Int), ((longest b k).2 : Int)) ∧ stepAt b k = (longest b k).1 := by
  unfold tokAt stepAt
  rw [if_neg h, if_neg h]
  exact ⟨rfl, rfl⟩
set_option maxRecDepth 100000 in
set_option maxHeartbeats 8000000 in
theorem walk (W : World) (v : Value) (xs : List UInt8) (h : IsBytes W v xs) :
    Calls Try.prog 14 #[v] W fun e W' => e = .returned (.bool true) ∧ Below W.heap.size W W' := by
  obtain ⟨A, cap, rfl, h1, h2, hA⟩ := h
  obtain ⟨n, hn⟩ : ∃ n, n = xs.length := ⟨_, rfl⟩
  rw [← hn] at h1 ⊢
  have HA := Lib.hid hA
  have Hn := Lib.hid hn.symm
  have Hx : Hid (n ≤ maxLen) := Lib.hid (by omega)
  have hcap : cap ≤ 9223372036854775807 := by unfold maxLen at h2; omega
  clear hA hn h2
  by_cases h3 : n ≤ 3000
  · go_enter Try.func14, Try.ntmps14
    go_wp2_with fail
    refine (tokens_yes A n cap xs W Hn.out h1 h3 HA.out).mono ?_
    rintro e w1 ⟨⟨v1, rfl, ho1⟩, hb1⟩
    obtain ⟨A1, c1, rfl, hc1, hc2, hA1, _⟩ := own_slat ho1
    have HA1 := Lib.hid hA1
    have Hb1 := Lib.hid hb1
    clear hA1 ho1 hb1
    go_wp2_with fail
    refine (matched_any w1).mono ?_
    rintro e w3 ⟨rfl, hb3⟩
    have Hb3 := Lib.hid (stepN Hb1.out hb3)
    have HA3 := Lib.hid (SlAt.below HA1.out hb3)
    clear hb3
    have Hl := Lib.hid (toks_len xs)
    have Hnear : Hid (∀ j t, (toks xs)[j]? = some t → (titer xs j).1 < xs.length ∧ t = tokAt xs (titer xs j).1) := Lib.hid (fun j t h => by
      obtain ⟨hj, rfl⟩ := List.getElem?_eq_some_iff.1 h
      exact near_lt xs j hj)
    have Hend := Lib.hid (near_end xs)
    rw [Hn.out] at Hl Hend
    have Hstep := Lib.hid (titer_step xs)
    generalize toks xs = ts at *
    have hq : ts.length ≤ 3000 := by have := Hl.out; omega
    generalize hqq : ts.length = q at *
    have Hq := Lib.hid hqq
    clear hqq
    go_wp2_with fail
    go_loopw [5, 27] (fun s i wr => ∃ j : Nat, j ≤ q ∧ i = .int .i64 (j : Int) ∧ s = .int .i64 (((titer xs j).1 : Nat) : Int) ∧ Below w3.heap.size w3 wr) (fun _ i _ => q - (intOf i).toNat)
    case atStart => exact ⟨0, Nat.zero_le _, rfl, rfl, Below.refl _ _⟩
    case round =>
      obtain ⟨j, hj, rfl, rfl, hb⟩ := hrel
      obtain ⟨wo, rfl⟩ : ∃ wo : World, wo = wr := ⟨_, rfl⟩
      have Hb := Lib.hid hb
      clear hb
      by_cases hlt : j < q
      · have hjl : j < ts.length := by rw [Hq.out]; exact hlt
        obtain ⟨hk0, htok⟩ := Hnear.out j _ (List.getElem?_eq_getElem hjl)
        have Hk0 := Lib.hid hk0
        obtain ⟨b1, o1, rfl, hc⟩ := slat_elem (size := 3) (fun _ => rfl) (by omega) (HA3.out.below Hb.out) hjl
        have hc0 := hc 0 _ rfl
        have hc1' := hc 1 _ rfl
        have hc2' := hc 2 _ rfl
        have Hst := Lib.hid (Hstep.out j hk0)
        rw [htok] at hc0 hc1' hc2'
        clear hc htok
        generalize hkk : (titer xs j).1 = k at *
        clear hkk
        have hk : k < n := by rw [← Hn.out]; exact hk0
        have hkx : k < xs.length := hk0
        have HAo := Lib.hid (HA.out.below (stepN Hb3.out Hb.out))
        by_cases hcond : (longest xs k).1 = 0 ∨ (k + 1 < xs.length ∧ (longest xs k).1 < (longest xs (k + 1)).1)
        · obtain ⟨t1, t2⟩ := tok_lit xs k hkx hcond
          rw [t1] at hc0 hc1' hc2'
          rw [t2] at Hst
          obtain ⟨bb, oo, rfl, hcell⟩ := HAo.out.get hkx
          have hcell2 : (wo.alloc (.cells #[.int .u8 (n8 xs[k]), .int .i64 0, .int .i64 0] 80)).cell? ⟨bb, oo + k, none⟩ = some (.int .u8 (n8 xs[k])) := cell_below ((Below.refl _ _).alloc (Nat.le_refl _) _) hcell
          simp only [iv, u8v, Nat.add_zero] at hc0 hc1' hc2'
          clear t1 t2 hcond hk0
          have hne : (n8 xs[k] != n8 xs[k]) = false := by simp
          generalize xs[k] = x at *
          have hI : (k : Int) < (n : Int) := by omega
          have hI2 : decide ((n : Int) ≤ (k : Int)) = false := by simp; omega
          go_wp2_with fail
          go_quiet (fail)
          go_wp2_with fail
          go_roundw
          case rel => exact ⟨j + 1, by omega, by go_num, by rw [Hst.out]; go_num, by first | exact Hb.out.alloc Hb.out.size _ | exact below_drewN' (Hb.out.alloc Hb.out.size _) _⟩
          case measure => simp [intOf]; omega
        · obtain ⟨t1, t2⟩ := tok_cpy xs k hcond
          rw [t1] at hc0 hc1' hc2'
          rw [t2] at Hst
          have hle := longest_le xs k
          have hle1 := hle.1
          have hle2 := hle.2.1
          have hle3 := hle.2.2.1
          have hpos : 0 < (longest xs k).1 := by omega
          obtain ⟨hle4, hle5, hle6⟩ := hle.2.2.2 hpos
          have Hsame := Lib.hid hle6
          have hLI : longI xs (k : Int) = (((longest xs k).1 : Int), ((longest xs k).2 : Int), 0) := by unfold longI; rw [Hn.out, if_neg (by omega), if_neg (by omega), Int.toNat_natCast]
          have HLI := Lib.hid hLI
          have Hnearer := Lib.hid (nearer xs k)
          rw [Hn.out] at hle2
          simp only [iv, u8v, Nat.add_zero] at hc0 hc1' hc2'
          clear t1 t2 hcond hle hpos hle6 hLI hk0
          generalize hL : longest xs k = L at *
          have HL := Lib.hid hL
          clear hL
          obtain ⟨a, f⟩ := L
          dsimp only at hle1 hle2 hle3 hle4 hle5 Hsame HLI Hst hc1' hc2'
          obtain ⟨z1, z2⟩ := n8_zero 0 rfl
          have hka : (k : Int) + (a : Int) ≤ (n : Int) := by omega
          have Hbk := Lib.hid (Blk.new wo 80 #[.int .u8 (n8 0), .int .i64 (a : Int), .int .i64 (f : Int)])
          have Hb4 := Lib.hid (Hb.out.alloc Hb.out.size (.cells #[.int .u8 (n8 0), .int .i64 (a : Int), .int .i64 (f : Int)] 80))
          go_wp2_with fail
          refine (longestL_any A n cap k xs _ Hn.out Hx.out (SlAt.alloc HAo.out _)).mono ?_
          rintro e w5 ⟨rfl, hd⟩
          rw [HLI.out]
          have Hbk5 : Hid (Blk w5 wo.heap.size 80 #[.int .u8 (n8 0), .int .i64 (a : Int), .int .i64 (f : Int)]) := Lib.hid (by obtain ⟨d, rfl⟩ := hd; exact Hbk.out)
          have Hb5 : Hid (Below w3.heap.size w3 w5) := Lib.hid (by obtain ⟨d, rfl⟩ := hd; exact below_drewN' Hb4.out d)
          clear hd Hbk Hb4
          have d1 : w5.cell? ⟨wo.heap.size, 1, none⟩ = some (.int .i64 (a : Int)) := Hbk5.out.cell 1
          have d2 : w5.cell? ⟨wo.heap.size, 2, none⟩ = some (.int .i64 (f : Int)) := Hbk5.out.cell 2
          have e1 : ((a : Int) != (a : Int)) = false := by simp
          have e2 : ((f : Int) != (f : Int)) = false := by simp
          go_wp2_with fail
          clear d1 d2
          go_loopw [105] (fun t wx => ∃ i : Nat, i ≤ a ∧ t = .int .i64 (i : Int) ∧ Blk wx wo.heap.size 80 #[.int .u8 (n8 0), .int .i64 (a : Int), .int .i64 (f : Int)] ∧ Below w3.heap.size w3 wx) (fun t _ => a - (intOf t).toNat)
          case atStart => exact ⟨0, Nat.zero_le _, rfl, Hbk5.out, Hb5.out⟩
          case round =>
            obtain ⟨i, hi, rfl, hbk, hbx⟩ := hrel
            obtain ⟨wy, rfl⟩ : ∃ wy : World, wy = wr := ⟨_, rfl⟩
            have Hbky := Lib.hid hbk
            have Hby := Lib.hid hbx
            clear hbx hbk
            have HAy := Lib.hid (HA.out.below (stepN Hb3.out Hby.out))
            by_cases hia : i < a
            · have g1 : k + i < xs.length := by rw [Hn.out]; omega
              have g2 : k - f + i < xs.length := by rw [Hn.out]; omega
              have hsg : ∃ h2 : k + i < xs.length, xs[k - f + i]'(by omega) = xs[k + i] := same_get xs (k - f) k i (by omega) (by have := Hsame.out; omega)
              obtain ⟨_, hsg⟩ := hsg
              obtain ⟨bb, oo, rfl, hcell⟩ := HAy.out.get g1
              obtain ⟨b', o', hb', hcell2⟩ := HAy.out.get g2
              injection hb' with hb'; injection hb' with e3 e4 e5; subst e3 e4
              rw [hsg] at hcell2
              have Hsg := Lib.hid hsg
              clear hsg
              have d2 : wy.cell? ⟨wo.heap.size, 2, none⟩ = some (.int .i64 (f : Int)) := Hbky.out.cell 2
              have s1 : IntKind.i64.wrap ((k : Int) + (i : Int)) = (k : Int) + (i : Int) := IntWalk.i64_in _ (by omega)
              have s2 : IntKind.i64.wrap ((k : Int) + (i : Int) - (f : Int)) = (k : Int) + (i : Int) - (f : Int) := IntWalk.i64_in _ (by omega)
              have p1 : (0 : Int) ≤ (k : Int) + (i : Int) := by omega
              have p2 : (0 : Int) ≤ (k : Int) + (i : Int) - (f : Int) := by omega
              have q1 : ((k : Int) + (i : Int)).toNat = k + i := by omega
              have q2 : ((k : Int) + (i : Int) - (f : Int)).toNat = k - f + i := by omega
              have r1 : (k : Int) + (i : Int) < (n : Int) := by omega
              have r2 : (k : Int) + (i : Int) - (f : Int) < (n : Int) := by omega
              have hne : (n8 xs[k + i] != n8 xs[k + i]) = false := by simp
              generalize xs[k + i] = x at *
              go_wp2_with fail
              go_quiet (fail)
              go_wp2_with fail
              go_roundw
              case rel => exact ⟨i + 1, by omega, by go_num, Hbky.out.drewN _, below_drewN' Hby.out _⟩
              case measure => simp [intOf]; omega
            · obtain rfl : i = a := by omega
              clear hia hi
              by_cases hff : 1 < f ∧ i < 258
              · have t1 : (1 : Int) < (f : Int) := by omega
                have t2 : (i : Int) < 258 := by omega
                go_wp2_with fail
                go_loopw [12] (fun t wx => ∃ d : Nat, 1 ≤ d ∧ d ≤ f ∧ t = .int .i64 (d : Int) ∧ Blk wx wo.heap.size 80 #[.int .u8 (n8 0), .int .i64 (i : Int), .int .i64 (f : Int)] ∧ Below w3.heap.size w3 wx) (fun t _ => f - (intOf t).toNat)
                case atStart => exact ⟨1, Nat.le_refl _, by omega, rfl, Hbky.out, Hby.out⟩
                case round =>
                  obtain ⟨d, hd1, hd, rfl, hbk, hbx⟩ := hrel
                  obtain ⟨wz, rfl⟩ : ∃ wz : World, wz = wr := ⟨_, rfl⟩
                  have Hbkz := Lib.hid hbk
                  have Hbz := Lib.hid hbx
                  clear hbx hbk
                  have HAz := Lib.hid (HA.out.below (stepN Hb3.out Hbz.out))
                  by_cases hdf : d < f
                  · have hkl : k < xs.length := hkx
                    obtain ⟨bb, oo, rfl, hcell⟩ := HAz.out.get hkl
                    clear hcell
                    have Hfal := Lib.hid (Hnearer.out i f d rfl hd1 hdf (by rw [Hn.out]; omega) hle1 hle3)
                    have s1 : IntKind.i64.wrap ((k : Int) - (d : Int)) = (k : Int) - (d : Int) := IntWalk.i64_in _ (by omega)
                    have s2 : IntKind.i64.wrap ((k : Int) + (i : Int)) = (k : Int) + (i : Int) := IntWalk.i64_in _ (by omega)
                    have p1 : (0 : Int) ≤ (k : Int) - (d : Int) := by omega
                    have q1 : ((k : Int) - (d : Int)).toNat = k - d := by omega
                    have p2 : (0 : Int) ≤ (k : Int) + (i : Int) := by omega
                    have q2 : ((k : Int) + (i : Int)).toNat = k + i := by omega
                    have hp : ∀ m, Calls Try.prog 46 #[.slice (some ⟨bb, oo + (k - d), none⟩) (n - (k - d)) (cap - (k - d)), .slice (some ⟨bb, oo + k, none⟩) i (cap - k)] (wz.drewN m) fun e w' => e = .returned (.bool false) ∧ w' = wz.drewN m := fun m => by
                      refine (hasPrefix_any (some ⟨bb, oo + (k - d), none⟩) (some ⟨bb, oo + k, none⟩) (n - (k - d)) i (cap - (k - d)) (cap - k) (xs.drop (k - d)) ((xs.drop k).take i) (wz.drewN m) (by rw [List.length_drop, Hn.out]) (by rw [List.length_take, List.length_drop, Hn.out]; omega) (by omega) (by omega) (by omega) (by exact ByAt.drop HAz.out (k - d)) (by exact slat_sub HAz.out k i)).mono ?_
                      rintro e w' ⟨rfl, rfl⟩
                      exact ⟨ret_bool Hfal.out, rfl⟩
                    have Hp := Lib.hid hp
                    clear hp
                    have c1 : ¬ cap = k - d := by omega
                    have c2 : ¬ cap = k := by omega
                    have c3 : (k : Int) + (i : Int) ≤ (cap : Int) := by omega
                    have c4 : (k : Int) - (d : Int) ≤ (n : Int) := by omega
                    have c5 : (k : Int) ≤ (k : Int) + (i : Int) := by omega
                    have c6 : k ≤ k + i := by omega
                    have c7 : k + i - k = i := by omega
                    go_wp2_with fail
                    go_quiet ((go_at_call 46; exact Calls.quiet_of_same (Hp.out _)))
                    go_wp2_with fail
                    go_roundw
                    case rel => exact ⟨d + 1, by omega, by omega, by go_num, Hbkz.out.drewN _, below_drewN' Hbz.out _⟩
                    case measure => simp [intOf]; omega
                  · obtain rfl : d = f := by omega
                    have d1 : wz.cell? ⟨wo.heap.size, 1, none⟩ = some (.int .i64 (i : Int)) := Hbkz.out.cell 1
                    go_wp2_with fail
                    go_roundw
                    case rel => exact ⟨j + 1, by omega, by go_num, by rw [Hst.out]; go_num, Hbz.out⟩
                    case measure => simp [intOf]; omega
              · have d1 : wy.cell? ⟨wo.heap.size, 1, none⟩ = some (.int .i64 (i : Int)) := Hbky.out.cell 1
                by_cases t1 : 1 < f
                · have t1' : (1 : Int) < (f : Int) := by omega
                  have t2 : ¬ ((i : Int) < 258) := by omega
                  clear hff
                  go_wp2_with fail
                  go_roundw
                  case rel => exact ⟨j + 1, by omega, by go_num, by rw [Hst.out]; go_num, Hby.out⟩
                  case measure => simp [intOf]; omega
                · have t1' : ¬ ((1 : Int) < (f : Int)) := by omega
                  clear hff
                  go_wp2_with fail
                  go_roundw
                  case rel => exact ⟨j + 1, by omega, by go_num, by rw [Hst.out]; go_num, Hby.out⟩
                  case measure => simp [intOf]; omega
      · obtain rfl : j = q := by omega
        have he := Hend.out
        rw [he]
        have e1 : ((n : Int) == (n : Int)) = true := by simp
        go_wp2_with fail
        go_ret
        exact ⟨rfl, stepN Hb3.out Hb.out⟩
  · go_enter Try.func14, Try.ntmps14
    go_wp2_with fail
    refine (tokens_many A n cap W (by omega) Hx.out).mono ?_
    rintro e w1 ⟨rfl, rfl⟩
    go_wp2_with fail
    refine (matched_any w1).mono ?_
    rintro e w2 ⟨rfl, hb2⟩
    have Hb2 := Lib.hid hb2
    clear hb2
    go_wp2_with fail
    refine (matched_any w2).mono ?_
    rintro e w3 ⟨rfl, hb3⟩
    have Hb3 := Lib.hid (stepN Hb2.out hb3)
    clear hb3
    go_wp2_with fail
    go_ret
    exact ⟨rfl, Hb3.out⟩
end Go.Proofs.Ytoncjlbgheaabaa.MatchNear
