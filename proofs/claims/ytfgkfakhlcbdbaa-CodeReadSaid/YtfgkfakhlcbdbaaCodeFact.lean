/- package code: Full; reliquarylaw.coded: a closed fact. -/
import Derived.Test.YtfgkfakhlcbdbaaCodeRead0
namespace Go.Proofs.Ytfgkfakhlcbdbaa.Code
open Go Go.RowKit Go.Proofs.Ytfgkfakhlcbdbaa Go.Proofs.Ytfgkfakhlcbdbaa.Bits
set_option linter.unusedVariables false

def usedN (ls : List Nat) : Nat := (ls.filter fun x => decide (x ≠ 0)).length
def oneN (ls : List Nat) : Nat := (ls.filter fun x => decide (x = 1)).length
def fullB (ls : List Nat) : Bool := decide (room ls = 32768) || (decide (usedN ls = 1) && decide (oneN ls = 1))
theorem usedN_take (zs : List Int) (k : Nat) (h : k < zs.length) : usedN (lsOf (zs.take (k + 1))) = usedN (lsOf (zs.take k)) + if zs[k].toNat = 0 then 0 else 1 := by
  unfold usedN
  rw [lsOf_take _ _ h, List.filter_append, List.length_append]
  congr 1
  by_cases h0 : zs[k].toNat = 0 <;> simp [h0]
theorem oneN_take (zs : List Int) (k : Nat) (h : k < zs.length) : oneN (lsOf (zs.take (k + 1))) = oneN (lsOf (zs.take k)) + if zs[k].toNat = 1 then 1 else 0 := by
  unfold oneN
  rw [lsOf_take _ _ h, List.filter_append, List.length_append]
  congr 1
  by_cases h0 : zs[k].toNat = 1 <;> simp [h0]
theorem usedN_le (ls : List Nat) : usedN ls ≤ ls.length := List.length_filter_le _ _
theorem oneN_le (ls : List Nat) : oneN ls ≤ ls.length := List.length_filter_le _ _
set_option maxRecDepth 100000 in
set_option maxHeartbeats 1600000 in
theorem full_any (A : Option Addr) (n c : Nat) (zs : List Int) (w : World) (hn : zs.length = n) (hx : n ≤ maxLen) (hA : InAt w A zs) :
    Calls Try.prog 22 #[.slice A n c] w fun e w' => (chkL zs ≠ 0 ∧ e = .returned (.tuple #[.bool false, .int .i64 (chkL zs)]) ∨ chkL zs = 0 ∧ e = .returned (.tuple #[.bool (fullB (lsOf zs)), .int .i64 0])) ∧ w' = w := by
  have Hn := Lib.hid hn
  have HA := Lib.hid hA
  have HC := Lib.hid (check_any A n c zs w hn hx hA)
  clear hn hA
  go_enter Try.func22, Try.ntmps22
  go_wp2_with fail
  refine (HC.out).mono ?_
  rintro e wx ⟨rfl, hw⟩
  have hw := hw.symm
  subst hw
  by_cases h0 : chkL zs = 0
  · obtain ⟨f1, f2, f3, f4, f5⟩ := chk_fine zs h0
    have H0 := Lib.hid h0
    rw [h0]
    have F5 := Lib.hid f5
    have hn288 : n ≤ 288 := by rw [← Hn.out]; exact f1
    clear h0 f1 f2 f3 f4 f5 hx
    go_wp2_with fail
    go_loop [5, 6, 7, 17] (fun r u o i => ∃ k : Nat, k ≤ n ∧ i = .int .i64 (k : Int) ∧ r = .int .i64 (room (lsOf (zs.take k)) : Int) ∧ u = .int .i64 (usedN (lsOf (zs.take k)) : Int) ∧ o = .int .i64 (oneN (lsOf (zs.take k)) : Int)) (fun _ _ _ i => n - (intOf i).toNat)
    case atStart => exact ⟨0, Nat.zero_le _, rfl, rfl, rfl, rfl⟩
    case round =>
      obtain ⟨k, hk, rfl, rfl, rfl, rfl⟩ := hrel
      have hlk : (lsOf (zs.take k)).length ≤ 288 := by rw [lsOf_len, List.length_take]; omega
      have hroom : room (lsOf (zs.take k)) ≤ 9437184 := by
        have h1 := room_le (lsOf (zs.take k))
        omega
      have hus := Nat.le_trans (usedN_le (lsOf (zs.take k))) hlk
      have hon := Nat.le_trans (oneN_le (lsOf (zs.take k))) hlk
      clear hlk
      by_cases hlt : k < n
      · have hkl : k < zs.length := by rw [Hn.out]; exact hlt
        obtain ⟨b, o, rfl, hc⟩ := HA.out.get hkl
        have Hr := Lib.hid (room_take zs k hkl)
        have Hu := Lib.hid (usedN_take zs k hkl)
        have Ho := Lib.hid (oneN_take zs k hkl)
        have hz := F5.out zs[k] (List.getElem_mem hkl)
        generalize room (lsOf (zs.take k)) = r at *
        generalize usedN (lsOf (zs.take k)) = u at *
        generalize oneN (lsOf (zs.take k)) = q at *
        generalize zs[k] = z at *
        obtain ⟨x, rfl⟩ := Int.eq_ofNat_of_zero_le hz.1
        rw [Int.toNat_natCast] at Hr Hu Ho
        by_cases h0 : x = 0
        · subst h0
          rw [if_pos rfl] at Hr Hu
          rw [if_neg (by omega)] at Ho
          go_wp2_with fail
          go_round
          case rel => exact ⟨k + 1, by omega, by go_num, by rw [Hr.out]; rfl, by rw [Hu.out]; rfl, by rw [Ho.out]; rfl⟩
          case measure => simp [intOf]; omega
        · have h0i : (0 : Int) < (x : Int) := by omega
          rw [if_neg h0] at Hr Hu
          have h3 : (2 : Nat) ^ (15 - x) ≤ 2 ^ 15 := Nat.pow_le_pow_right (by omega) (by omega)
          have ht := two_up (15 - x)
          generalize 2 ^ (15 - x) = y at *
          by_cases h1 : x = 1
          · have e1 : ((x : Int) == 1) = true := by simp; omega
            rw [if_pos h1] at Ho
            clear h1
            go_wp2_with fail
            go_round
            case rel => exact ⟨k + 1, by omega, by go_num, by rw [Hr.out]; go_num, by rw [Hu.out]; go_num, by rw [Ho.out]; go_num⟩
            case measure => simp [intOf]; omega
          · have e1 : ((x : Int) == 1) = false := by simp; omega
            rw [if_neg h1] at Ho
            clear h1
            go_wp2_with fail
            go_round
            case rel => exact ⟨k + 1, by omega, by go_num, by rw [Hr.out]; go_num, by rw [Hu.out]; go_num, by rw [Ho.out]; rfl⟩
            case measure => simp [intOf]; omega
      · obtain rfl : k = n := by omega
        have Htk := Lib.hid (List.take_of_length_le (by rw [Hn.out]; omega : zs.length ≤ k))
        rw [Htk.out] at hroom hus hon ⊢
        have Hf : Hid (fullB (lsOf zs) = (decide (room (lsOf zs) = 32768) || (decide (usedN (lsOf zs) = 1) && decide (oneN (lsOf zs) = 1)))) := Lib.hid rfl
        generalize room (lsOf zs) = r at *
        generalize usedN (lsOf zs) = u at *
        generalize oneN (lsOf zs) = q at *
        by_cases a1 : r = 32768
        · have e1 : ((r : Int) == 32768) = true := by simp; omega
          have Hf2 : Hid (fullB (lsOf zs) = true) := Lib.hid (by rw [Hf.out]; simp [a1])
          clear a1 Hf
          go_wp2_with fail
          go_ret2
          exact ⟨.inr ⟨H0.out, by rw [Hf2.out]; rfl⟩, rfl⟩
        · have e1 : ((r : Int) == 32768) = false := by simp; omega
          by_cases a2 : u = 1
          · have e2 : ((u : Int) == 1) = true := by simp; omega
            by_cases a3 : q = 1
            · have e3 : ((q : Int) == 1) = true := by simp; omega
              have Hf2 : Hid (fullB (lsOf zs) = true) := Lib.hid (by rw [Hf.out]; simp [a2, a3])
              clear a1 a2 a3 Hf
              go_wp2_with fail
              go_ret2
              exact ⟨.inr ⟨H0.out, by rw [Hf2.out]; rfl⟩, rfl⟩
            · have e3 : ((q : Int) == 1) = false := by simp; omega
              have Hf2 : Hid (fullB (lsOf zs) = false) := Lib.hid (by rw [Hf.out]; simp [a1, a3])
              clear a1 a2 a3 Hf
              go_wp2_with fail
              go_ret2
              exact ⟨.inr ⟨H0.out, by rw [Hf2.out]; rfl⟩, rfl⟩
          · have e2 : ((u : Int) == 1) = false := by simp; omega
            have Hf2 : Hid (fullB (lsOf zs) = false) := Lib.hid (by rw [Hf.out]; simp [a1, a2])
            clear a1 a2 Hf
            go_wp2_with fail
            go_ret2
            exact ⟨.inr ⟨H0.out, by rw [Hf2.out]; rfl⟩, rfl⟩
  · generalize hz : chkL zs = z at *
    have Hz := Lib.hid hz
    clear hz
    have h1 : (z == 0) = false := by simpa using h0
    go_wp2_with fail
    go_ret2
    exact ⟨.inl ⟨by rw [Hz.out]; exact h0, by rw [Hz.out]; rfl⟩, rfl⟩
theorem fact_chk : chkL [2, 1, 3, 3] = 0 := by decide +kernel
theorem fact_codes : codesL (lsOf [2, 1, 3, 3]) = [2, 0, 6, 7] := by decide +kernel
theorem fact_full : fullB (lsOf [2, 1, 3, 3]) = true := by decide +kernel
theorem fact_wr : wrE [2, 1, 3, 3] [3, 1, 0] = 0 := by decide +kernel
theorem fact_pack : pack (wbits (lsOf [2, 1, 3, 3]) (lsOf [3, 1, 0])) = [23] := by decide +kernel
theorem fact_rd : rdE [2, 1, 3, 3] [23] 3 = 0 := by decide +kernel
theorem fact_it : (riter (lsOf [2, 1, 3, 3]) (bitsL [23]) (3 : Int).toNat).1 = [3, 1, 0] := by decide +kernel
theorem step1 {w1 w2 : World} {o : Obj} (h2 : Below (w1.alloc o).heap.size (w1.alloc o) w2) : Below w1.heap.size w1 w2 :=
  ((Below.refl w1.heap.size w1).alloc (Nat.le_refl _) o).trans (h2.mono (by simp))
theorem stepN {w1 w2 : World} (h : Below w1.heap.size w1 w2) {w3 : World} (h2 : Below w2.heap.size w2 w3) : Below w1.heap.size w1 w3 :=
  h.trans (h2.mono h.size)
set_option maxRecDepth 100000 in
set_option maxHeartbeats 1600000 in
theorem coded_any (w : World) :
    Calls Try.prog 10 #[] w fun e w' => e = .returned (.bool true) ∧ Below w.heap.size w w' := by
  have hl : InAt (w.alloc (.cells #[.int .i64 2, .int .i64 1, .int .i64 3, .int .i64 3] 3)) (some ⟨w.heap.size, 0, none⟩) [2, 1, 3, 3] := SlAt.of_heap (heap_alloc_new _ _) rfl
  have HL := Lib.hid hl
  have HB := Lib.hid ((Below.refl w.heap.size w).alloc (Nat.le_refl _) (.cells #[.int .i64 2, .int .i64 1, .int .i64 3, .int .i64 3] 3))
  clear hl
  go_enter Try.func10, Try.ntmps10
  go_wp2_with fail
  refine (bcodes_any _ 4 4 [2, 1, 3, 3] _ rfl (by unfold maxLen; omega) HL.out).mono ?_
  generalize w.alloc (.cells #[.int .i64 2, .int .i64 1, .int .i64 3, .int .i64 3] 3) = w0 at *
  generalize hgg : w.heap.size = g0 at *
  have Hgg := Lib.hid hgg
  clear hgg
  rintro e w1 ⟨hp, hb1⟩
  rcases hp with ⟨hbad, _⟩ | ⟨_, g, rfl, hgl, hblk⟩
  · exact absurd fact_chk hbad
  rw [fact_codes] at hblk
  have HB1 := Lib.hid (HB.out.trans (hb1.mono (by rw [← Hgg.out]; exact HB.out.size)))
  have HC1 : Hid (InAt w1 (some ⟨g, 0, none⟩) [2, 0, 6, 7]) := Lib.hid (SlAt.of_heap hblk rfl)
  have HL1 := Lib.hid (HL.out.below hb1)
  clear hb1 hblk
  go_wp2_with fail
  refine (full_any _ 4 4 [2, 1, 3, 3] _ rfl (by unfold maxLen; omega) HL1.out).mono ?_
  rintro e wx ⟨hp, hw⟩
  have hw := hw.symm
  subst hw
  rcases hp with ⟨hbad, _⟩ | ⟨_, rfl⟩
  · exact absurd fact_chk hbad
  rw [fact_full]
  have HP : Hid (InAt (w1.alloc (.cells #[.int .i64 3, .int .i64 1, .int .i64 0] 3)) (some ⟨w1.heap.size, 0, none⟩) [3, 1, 0]) := Lib.hid (SlAt.of_heap (heap_alloc_new _ _) rfl)
  have HL2 : Hid (InAt (w1.alloc (.cells #[.int .i64 3, .int .i64 1, .int .i64 0] 3)) (some ⟨g0, 0, none⟩) [2, 1, 3, 3]) := Lib.hid (SlAt.alloc HL1.out _)
  have HC2 : Hid (InAt (w1.alloc (.cells #[.int .i64 3, .int .i64 1, .int .i64 0] 3)) (some ⟨g, 0, none⟩) [2, 0, 6, 7]) := Lib.hid (SlAt.alloc HC1.out _)
  have HB2 := Lib.hid (HB1.out.alloc (by rw [← Hgg.out]; exact HB1.out.size) (.cells #[.int .i64 3, .int .i64 1, .int .i64 0] 3))
  go_wp2_with fail
  refine (write_any _ _ 4 3 4 3 [2, 1, 3, 3] [3, 1, 0] _ rfl rfl (by unfold maxLen; omega) (by unfold maxLen; omega) HL2.out HP.out).mono ?_
  rintro e w3 ⟨hp, hb3⟩
  rcases hp with ⟨hbad, _⟩ | ⟨_, v3, rfl, hown⟩
  · exact absurd fact_wr hbad
  rw [fact_pack] at hown
  obtain ⟨A3, c3, rfl, _, _, hA3⟩ := own_bytes hown
  have HA3 := Lib.hid hA3
  have HB3 := Lib.hid (HB2.out.trans (hb3.mono (by rw [← Hgg.out]; exact HB2.out.size)))
  have HL3 := Lib.hid (HL2.out.below hb3)
  have HC3 := Lib.hid (HC2.out.below hb3)
  clear hb3 hown hA3 HP HL2 HC2 HB2 HL1 HC1 HB1
  go_wp2_with fail
  refine (read_any _ A3 4 1 4 c3 [2, 1, 3, 3] [23] 3 _ rfl rfl (by unfold maxLen; omega) (by unfold maxLen; omega) HL3.out HA3.out).mono ?_
  rintro e w4 ⟨hp, hb4⟩
  rcases hp with ⟨hbad, _⟩ | ⟨_, v4, rfl, hown⟩
  · exact absurd fact_rd hbad
  rw [fact_it] at hown
  obtain ⟨A4, c4, rfl, _, _, hA4, _⟩ := own_slat hown
  have HA4 : Hid (InAt w4 A4 [3, 1, 0]) := Lib.hid hA4
  have HB4 := Lib.hid (HB3.out.trans (hb4.mono (by rw [← Hgg.out]; exact HB3.out.size)))
  have HC4 := Lib.hid (HC3.out.below hb4)
  clear hb4 hown hA4 HL3 HC3 HB3 HA3
  go_wp2_with fail
  refine (equal_ints _ _ 4 4 4 4 [2, 0, 6, 7] [2, 0, 6, 7] _ rfl rfl (by unfold maxLen; omega) (by unfold maxLen; omega) (SlAt.alloc HC4.out _) (by exact SlAt.of_heap (heap_alloc_new _ _) rfl)).mono ?_
  rintro e w5 ⟨rfl, d5, rfl⟩
  rw [show decide (([2, 0, 6, 7] : List Int) = [2, 0, 6, 7]) = true from by simp]
  have HA5 : Hid (InAt ((w4.alloc (.cells #[.int .i64 2, .int .i64 0, .int .i64 6, .int .i64 7] 3)).drewN d5) A4 [3, 1, 0]) := Lib.hid (SlAt.alloc HA4.out _)
  have HB5 := Lib.hid (below_drewN' (HB4.out.alloc (by rw [← Hgg.out]; exact HB4.out.size) (.cells #[.int .i64 2, .int .i64 0, .int .i64 6, .int .i64 7] 3)) d5)
  clear HA4 HB4 HC4
  generalize (w4.alloc (.cells #[.int .i64 2, .int .i64 0, .int .i64 6, .int .i64 7] 3)).drewN d5 = w5 at *
  go_wp2_with fail
  refine (equal_ints A4 _ 3 3 c4 3 [3, 1, 0] [3, 1, 0] _ rfl rfl (by unfold maxLen; omega) (by unfold maxLen; omega) (SlAt.alloc HA5.out _) (by exact SlAt.of_heap (heap_alloc_new _ _) rfl)).mono ?_
  rintro e w6 ⟨rfl, d6, rfl⟩
  rw [show decide (([3, 1, 0] : List Int) = [3, 1, 0]) = true from by simp]
  go_wp2_with fail
  go_ret
  refine ⟨rfl, ?_⟩
  rw [Hgg.out]
  exact below_drewN' (HB5.out.alloc (by rw [← Hgg.out]; exact HB5.out.size) _) _
end Go.Proofs.Ytfgkfakhlcbdbaa.Code
