/- reliquarylaw.BitsPack: the walk. -/
import Derived.Test.YtoncjlbgheaabaaRowed
import Derived.Test.YtoncjlbgheaabaaNumS
import Derived.Test.YtoncjlbgheaabaaPackAll
import Derived.Deep.QuietTactic
import Derived.BigQuiet
namespace Go.Proofs.Ytoncjlbgheaabaa.BitsPack
open Go Go.RowKit Go.Proofs.Ytoncjlbgheaabaa Go.Proofs.Ytoncjlbgheaabaa.Bits
set_option linter.unusedVariables false

theorem wrap_two (z : Nat) (h : z ≤ 16) : IntKind.i64.wrap ((2 : Int) ^ z) = 2 ^ z := by
  have : ∀ z : Fin 17, IntKind.i64.wrap ((2 : Int) ^ z.val) = 2 ^ z.val := by decide +kernel
  exact this ⟨z, by omega⟩
set_option maxRecDepth 100000 in
set_option maxHeartbeats 8000000 in
theorem walk (W : World) (v0 : Value) (l : List (Int × Int)) (h : Pairs W v0 l) :
    Calls Try.prog 11 #[v0] W fun e w' => e = .returned (.bool true) ∧ Below W.heap.size W w' := by
  have HL := Lib.hid h
  obtain ⟨A, cap, rfl, hc1, hc2, hA, hnil, hdeep⟩ := h
  have HA := Lib.hid hA
  clear hA hnil hdeep
  unfold maxLen at hc2
  generalize hN : l.length = N at hc1 hc2 ⊢
  have HN := Lib.hid hN
  clear hN
  go_enter Try.func11, Try.ntmps11
  go_wp2_with fail
  refine (pack_all (.slice A N cap) l W (by have := HL.out; rwa [HN.out] at this)).mono ?_
  rintro e w1 ⟨⟨u, c, rfl, hc⟩, hb1⟩
  have HC := Lib.hid hc
  have HB1 := Lib.hid hb1
  clear hc hb1
  by_cases hl : N ≤ 3000
  · have hl' : ¬ (3000 < (N : Int)) := by omega
    go_wp2_with fail
    go_loopw [20, 5] (fun i bad wr => ∃ k : Nat, k ≤ N ∧ i = .int .i64 k ∧ bad = .int .i64 0 ∧ (l.take k).all fits = true ∧ Bld w1.heap.size w1.heap.size (rowS (bitsP (l.take k))) wr ∧ Below w1.heap.size w1 wr) (fun i _ _ => N - (intOf i).toNat)
    case atStart => exact ⟨0, Nat.zero_le _, rfl, rfl, rfl, Bld.new w1, (Below.refl _ w1).alloc (Nat.le_refl _) _⟩
    case round =>
      obtain ⟨k, hk, rfl, rfl, hall, hB, hb⟩ := hrel
      have Hall := Lib.hid hall
      have HBl := Lib.hid hB
      have Hb := Lib.hid hb
      clear hall hB hb
      by_cases hlt : k < N
      · have hkl : k < l.length := by rw [HN.out]; exact hlt
        obtain ⟨b, o, rfl, hc⟩ := slat_elem (size := 2) (fun _ => rfl) (by omega) (HA.out.below (HB1.out.trans (Hb.out.mono HB1.out.size))) hkl
        have hc0 := hc 0 _ rfl
        have hc1' := hc 1 _ rfl
        have Hsn := Lib.hid (bitsP_snoc l k hkl)
        have Hts := Lib.hid (all_take_succ l k hkl Hall.out)
        have Hno := Lib.hid (all_not l k hkl)
        have hlen := bitsP_len (l.take k) Hall.out
        clear hc
        generalize l[k] = x at *
        obtain ⟨x0, x1⟩ := x
        simp only [iv, Nat.add_zero] at hc0 hc1'
        cases hf : fits (x0, x1) with
        | true =>
          obtain ⟨f1, f2, f3, f4⟩ := fits_lt hf
          have Hf := Lib.hid hf
          clear hf
          obtain ⟨m, rfl⟩ := Int.eq_ofNat_of_zero_le f3
          obtain ⟨z, rfl⟩ := Int.eq_ofNat_of_zero_le f1
          have hz : z ≤ 16 := by omega
          have hsh : (m : Int) < IntKind.i64.wrap ((2 : Int) ^ z) := by
            rw [wrap_two z hz]
            have h1 : m < 2 ^ z := by simpa using f4
            have h2 : (m : Int) < ((2 ^ z : Nat) : Int) := by omega
            simpa using h2
          have hm64 : m < 9223372036854775808 := by
            have h1 : m < 2 ^ z := by simpa using f4
            have h2 : 2 ^ z ≤ 2 ^ 16 := Nat.pow_le_pow_right (by omega) hz
            omega
          clear f4
          go_wp2_with fail
          go_quiet (fail)
          go_wp2_with fail
          refine (number_any m z _ hm64 (by omega)).mono ?_
          rintro e w3 ⟨rfl, hb3⟩
          have hls : (numBits m z).length ≤ 16 := by rw [numBits_length]; exact hz
          have Hsn2 : Hid (bitsP (l.take (k + 1)) = bitsP (l.take k) ++ numBits m z) := Lib.hid (by have := Hsn.out; simpa using this)
          have HB3 := Lib.hid (below_drewN' (Hb.out.alloc Hb.out.size (.cells #[.int .i64 (m : Int), .int .i64 (z : Int)] 46)) nq |>.trans (hb3.mono (by have := Hb.out.size; simp; omega)))
          have HBl3 := Lib.hid ((HBl.out.other (.cells #[.int .i64 (m : Int), .int .i64 (z : Int)] 46)).drewN nq |>.later hb3)
          clear hb3 Hsn HBl
          have hl2 : (l.take k).length ≤ 3000 := by simp; omega
          generalize numBits m z = bs at *
          generalize bitsP (l.take k) = ps at *
          unfold rowV
          go_wp2_with fail
          refine (HBl3.out.str (rowS bs) (by rw [rowS_length, rowS_length]; omega)).mono ?_
          rintro e w4 ⟨rfl, hB4, hb4⟩
          have HBl4 := Lib.hid hB4
          have HB4 := Lib.hid (HB3.out.trans hb4)
          clear hB4 hb4
          go_wp2_with fail
          go_roundw
          case rel =>
            refine ⟨k + 1, by omega, by go_num, rfl, Hts.out Hf.out, ?_, HB4.out⟩
            rw [Hsn2.out, rowS_append]; exact HBl4.out
          case measure => simp [intOf]; omega
        | false =>
          obtain ⟨rfl, rfl⟩ : u = .slice none 0 0 ∧ c = 3 := by
            have hall : l.all fits = false := Hno.out hf
            rcases HC.out with ⟨_, _, h, _⟩ | ⟨h1, h2, ⟨h3, h4⟩ | ⟨h3, h4, h5⟩⟩
            · rw [hall] at h; cases h
            · rw [HN.out] at h4; omega
            · exact ⟨h1, h3⟩
          clear HC Hts Hsn Hno HBl
          have HBB := Lib.hid (stepN HB1.out Hb.out)
          by_cases g1 : x1 < 0
          · clear hf
            go_wp2_with fail
            go_quiet (fail)
            go_wp2_with fail
            refine (rowed_any _).mono ?_
            rintro e w3 ⟨rfl, hb3⟩
            have Hb3 := Lib.hid (stepN (below_drewN' (HBB.out.alloc HBB.out.size (.cells #[.int .i64 x0, .int .i64 x1] 46)) nq) hb3)
            clear hb3
            go_wp2_with fail
            refine (rowed_any w3).mono ?_
            rintro e w4 ⟨rfl, hb4⟩
            have Hb4 := Lib.hid (stepN Hb3.out hb4)
            clear hb4
            go_wp2_with fail
            go_ret
            exact ⟨rfl, Hb4.out⟩
          · by_cases g2 : 16 < x1
            · clear hf
              go_wp2_with fail
              go_quiet (fail)
              go_wp2_with fail
              refine (rowed_any _).mono ?_
              rintro e w3 ⟨rfl, hb3⟩
              have Hb3 := Lib.hid (stepN (below_drewN' (HBB.out.alloc HBB.out.size (.cells #[.int .i64 x0, .int .i64 x1] 46)) nq) hb3)
              clear hb3
              go_wp2_with fail
              refine (rowed_any w3).mono ?_
              rintro e w4 ⟨rfl, hb4⟩
              have Hb4 := Lib.hid (stepN Hb3.out hb4)
              clear hb4
              go_wp2_with fail
              go_ret
              exact ⟨rfl, Hb4.out⟩
            · by_cases g3 : x0 < 0
              · clear hf
                go_wp2_with fail
                go_quiet (fail)
                go_wp2_with fail
                refine (rowed_any _).mono ?_
                rintro e w3 ⟨rfl, hb3⟩
                have Hb3 := Lib.hid (stepN (below_drewN' (HBB.out.alloc HBB.out.size (.cells #[.int .i64 x0, .int .i64 x1] 46)) nq) hb3)
                clear hb3
                go_wp2_with fail
                refine (rowed_any w3).mono ?_
                rintro e w4 ⟨rfl, hb4⟩
                have Hb4 := Lib.hid (stepN Hb3.out hb4)
                clear hb4
                go_wp2_with fail
                go_ret
                exact ⟨rfl, Hb4.out⟩
              · obtain ⟨m, rfl⟩ := Int.eq_ofNat_of_zero_le (by omega : 0 ≤ x0)
                obtain ⟨z, rfl⟩ := Int.eq_ofNat_of_zero_le (by omega : 0 ≤ x1)
                have hsh : ¬ ((m : Int) < IntKind.i64.wrap ((2 : Int) ^ z)) := by
                  rw [wrap_two z (by omega)]
                  intro hh
                  have : fits ((m : Int), (z : Int)) = true := by
                    simp only [fits, Bool.and_eq_true, decide_eq_true_eq]
                    refine ⟨⟨⟨by omega, by omega⟩, by omega⟩, by simpa using hh⟩
                  rw [this] at hf; cases hf
                clear hf
                go_wp2_with fail
                go_quiet (fail)
                go_wp2_with fail
                refine (rowed_any _).mono ?_
                rintro e w3 ⟨rfl, hb3⟩
                have Hb3 := Lib.hid (stepN (below_drewN' (HBB.out.alloc HBB.out.size (.cells #[.int .i64 (m : Int), .int .i64 (z : Int)] 46)) nq) hb3)
                clear hb3
                go_wp2_with fail
                refine (rowed_any w3).mono ?_
                rintro e w4 ⟨rfl, hb4⟩
                have Hb4 := Lib.hid (stepN Hb3.out hb4)
                clear hb4
                go_wp2_with fail
                go_ret
                exact ⟨rfl, Hb4.out⟩
      · obtain rfl : k = N := by omega
        have Htk := Lib.hid (List.take_of_length_le (by rw [HN.out]; omega : l.length ≤ k))
        have hall := Hall.out
        have hB := HBl.out
        rw [Htk.out] at hall hB
        obtain ⟨rfl, ho⟩ : c = 0 ∧ w1.ownsRow W.heap.size 5 1 u (pack (bitsP l)).length ((pack (bitsP l)).map u8v) := by
          rcases HC.out with ⟨h0, _, _, h⟩ | ⟨h1, h2, ⟨h3, h4⟩ | ⟨h3, h4, h5⟩⟩
          · exact ⟨h0, h⟩
          · rw [HN.out] at h4; omega
          · rw [hall] at h5; cases h5
        obtain ⟨A1, cap1, rfl, hd1, hd2, hA1⟩ := own_bytes ho
        have hlen := bitsP_len l hall
        rw [HN.out] at hlen
        have HBl2 := Lib.hid hB
        have HA1 := Lib.hid (SlAt.below hA1 Hb.out)
        have HA1' := Lib.hid hA1
        clear hA1 hB ho hall HC HBl Hall Htk
        have Hpl := Lib.hid (show (pack (bitsP l)).length = (pack (bitsP l)).length from rfl)
        go_wp2_with fail
        refine (rowed_any wr).mono ?_
        rintro e w3 ⟨rfl, hb3⟩
        have HBl3 := Lib.hid (HBl2.out.later hb3)
        have HA3 := Lib.hid (SlAt.below HA1.out hb3)
        have HBB := Lib.hid (stepN HB1.out (stepN Hb.out hb3))
        have Hsub := Lib.hid (stepN Hb.out hb3)
        clear hb3 HBl2 HA1
        go_wp2_with fail
        refine (Bld.done HBl3.out).mono ?_
        rintro e w4 ⟨rfl, hb4⟩
        have HB4 := Lib.hid (Hsub.out.trans hb4)
        have HA4 := Lib.hid (SlAt.below (HA1'.out) HB4.out)
        clear hb4 HBl3
        go_wp2_with fail
        refine (bytesOf_any (bitsP l) w4 (by omega)).mono ?_
        rintro e w5 ⟨⟨v5, rfl, ho5⟩, hb5⟩
        obtain ⟨A5, cap5, rfl, g1, g2, hA5⟩ := own_bytes ho5
        have HA5 := Lib.hid hA5
        have HA6 := Lib.hid (SlAt.below HA4.out hb5)
        have HB6 := Lib.hid (stepN (stepN HB1.out HB4.out) hb5)
        clear hA5 ho5 hb5 HA4
        generalize pack (bitsP l) = pk at *
        go_wp2_with fail
        refine (equal_bytes A1 A5 pk.length pk.length cap1 cap5 pk pk w5 rfl rfl HA6.out HA5.out).mono ?_
        rintro e w6 ⟨rfl, rfl⟩
        rw [show decide (pk = pk) = true from by simp]
        go_wp2_with fail
        go_ret
        exact ⟨rfl, HB6.out⟩
  · obtain ⟨rfl, rfl⟩ : u = .slice none 0 0 ∧ c = 2 := by
      rcases HC.out with ⟨_, h, _⟩ | ⟨h1, h2, ⟨h3, h4⟩ | ⟨h3, h4, h5⟩⟩
      · rw [HN.out] at h; omega
      · exact ⟨h1, h3⟩
      · rw [HN.out] at h4; omega
    have hl' : 3000 < (N : Int) := by omega
    clear HC
    go_wp2_with fail
    go_loopw [20, 5] (fun i bad wr => i = .int .i64 0 ∧ bad = .int .i64 2 ∧ Below w1.heap.size w1 wr) (fun i _ _ => N - (intOf i).toNat)
    case atStart => exact ⟨rfl, rfl, (Below.refl _ w1).alloc (Nat.le_refl _) _⟩
    case round =>
      obtain ⟨rfl, rfl, hb⟩ := hrel
      have Hb := Lib.hid hb
      clear hb
      have hkl : 0 < l.length := by rw [HN.out]; omega
      have hN0 : 0 < (N : Int) := by omega
      obtain ⟨b, o, rfl, hc⟩ := slat_elem (size := 2) (fun _ => rfl) (by omega) (HA.out.below (HB1.out.trans (Hb.out.mono HB1.out.size))) hkl
      have hc0 := hc 0 _ rfl
      have hc1' := hc 1 _ rfl
      clear hc
      generalize l[0] = x at *
      obtain ⟨x0, x1⟩ := x
      simp only [iv, Nat.add_zero, Nat.zero_mul] at hc0 hc1'
      have HBB := Lib.hid (stepN HB1.out Hb.out)
      go_wp2_with fail
      go_quiet (fail)
      go_wp2_with fail
      refine (rowed_any _).mono ?_
      rintro e w3 ⟨rfl, hb3⟩
      have Hb3 := Lib.hid (stepN (below_drewN' (HBB.out.alloc HBB.out.size (.cells #[.int .i64 x0, .int .i64 x1] 46)) nq) hb3)
      clear hb3
      go_wp2_with fail
      refine (rowed_any w3).mono ?_
      rintro e w4 ⟨rfl, hb4⟩
      have Hb4 := Lib.hid (stepN Hb3.out hb4)
      clear hb4
      go_wp2_with fail
      go_ret
      exact ⟨rfl, Hb4.out⟩
end Go.Proofs.Ytoncjlbgheaabaa.BitsPack
