/- reliquarylaw.CodeWrite: the walk. -/
import Derived.Test.YtfgkfakhlcbdbaaCdsCodes
import Derived.Test.YtfgkfakhlcbdbaaCdsChk
import Derived.Test.YtfgkfakhlcbdbaaCodeFact
import Derived.Test.YtfgkfakhlcbdbaaBuild
import Derived.Test.YtfgkfakhlcbdbaaEqualB
import Derived.Test.YtfgkfakhlcbdbaaFuncI
import Derived.Test.YtfgkfakhlcbdbaaInts
import Derived.Test.YtfgkfakhlcbdbaaOpen
namespace Go.Proofs.Ytfgkfakhlcbdbaa.CodeWrite
open Go Go.RowKit Go.Proofs.Ytfgkfakhlcbdbaa Go.Proofs.Ytfgkfakhlcbdbaa.Bits Go.Proofs.Ytfgkfakhlcbdbaa.Code Go.Proofs.Ytfgkfakhlcbdbaa.Cds
set_option linter.unusedVariables false
set_option linter.unusedSimpArgs false

set_option maxHeartbeats 800000 in
theorem badPlL_any (g0 : Nat) (A : Option Addr) (n c : Nat) (zs : List Int) (x : Int) (w : World) (hn : zs.length = n) (hg : Blk w g0 22 #[.slice A n c]) (hA : InAt w A zs) :
    Calls Try.prog 9 #[.int .i64 x, .pointer (some ⟨g0, 0, none⟩)] w fun e w' => e = .returned (.bool (badPl zs x)) ∧ Below w.heap.size w w' := by
  have hc0 : w.cell? ⟨g0, 0, none⟩ = some (.slice A n c) := by rw [hg.cell]; rfl
  by_cases h1 : x < 0
  · have Hb : Hid (badPl zs x = true) := Lib.hid (by simp [badPl, h1])
    clear hg hA
    go_enter Try.func9, Try.ntmps9
    go_wp2
    go_ret
    exact ⟨ret_bool Hb.out.symm, Below.refl _ _⟩
  · have hb1 : decide (x < 0) = false := by simp; omega
    by_cases h2 : (n : Int) ≤ x
    · have Hb : Hid (badPl zs x = true) := Lib.hid (by simp [badPl, hn, h2])
      clear hg hA
      go_enter Try.func9, Try.ntmps9
      go_wp2
      go_ret
      exact ⟨ret_bool Hb.out.symm, Below.refl _ _⟩
    · have hb2 : decide ((n : Int) ≤ x) = false := by simp; omega
      obtain ⟨k, rfl⟩ := Int.eq_ofNat_of_zero_le (by omega : 0 ≤ x)
      have hk : k < zs.length := by omega
      obtain ⟨b, o, rfl, hcell⟩ := hA.get hk
      have Hb : Hid (badPl zs k = (zs[k] == 0)) := Lib.hid (by
        have h3 : ¬ ((zs.length : Int) ≤ (k : Int)) := by omega
        have h4 : ¬ ((k : Int) < 0) := by omega
        have e : zs.getD (k : Int).toNat 0 = zs[k] := by simp [List.getD_eq_getElem?_getD, hk]
        unfold badPl
        rw [e, decide_eq_false h4, decide_eq_false h3]
        by_cases h5 : zs[k] = 0 <;> simp [h5])
      clear hg hn
      generalize zs[k] = z at *
      by_cases h0 : z = 0
      · subst h0
        have hz : ((0 : Int) == 0) = true := rfl
        go_enter Try.func9, Try.ntmps9
        go_wp2
        go_ret
        exact ⟨ret_bool Hb.out.symm, Below.refl _ _⟩
      · have hz : (z == 0) = false := by simpa using h0
        rw [hz] at Hb
        go_enter Try.func9, Try.ntmps9
        go_wp2
        go_ret
        exact ⟨ret_bool Hb.out.symm, Below.refl _ _⟩
set_option maxRecDepth 100000 in
set_option maxHeartbeats 8000000 in
theorem walk (W : World) (v0 : Value) (zs : List Int) (h0 : Ints W v0 zs) (v1 : Value) (ps : List Int) (h1 : Ints W v1 ps) :
    Calls Try.prog 3 #[v0, v1] W fun e W' => e = .returned (.bool true) ∧ Below W.heap.size W W' := by
  obtain ⟨A, ca, rfl, g1, g2, hA, _, _⟩ := h0
  obtain ⟨B, cb, rfl, g3, g4, hB, _, _⟩ := h1
  obtain ⟨N, hN⟩ : ∃ N, N = zs.length := ⟨_, rfl⟩
  obtain ⟨M, hM⟩ : ∃ M, M = ps.length := ⟨_, rfl⟩
  rw [← hN] at g1 ⊢
  rw [← hM] at g3 ⊢
  have HN := Lib.hid hN.symm
  have HM := Lib.hid hM.symm
  have Hxn : Hid (N ≤ maxLen) := Lib.hid (by omega)
  have Hxm : Hid (M ≤ maxLen) := Lib.hid (by omega)
  have hNb : N ≤ 9223372036854775807 := by have := Hxn.out; unfold maxLen at this; omega
  have hMb : M ≤ 9223372036854775807 := by have := Hxm.out; unfold maxLen at this; omega
  have HA0 : Hid (InAt (W.alloc (.cells #[.slice A N ca] 22)) A zs) := Lib.hid (SlAt.alloc (ints_at hA) _)
  have HB0 : Hid (InAt (W.alloc (.cells #[.slice A N ca] 22)) B ps) := Lib.hid (SlAt.alloc (ints_at hB) _)
  have HX0 := Lib.hid (Blk.new W 22 #[.slice A N ca])
  have Hb0 := Lib.hid ((Below.refl W.heap.size W).alloc (Nat.le_refl _) (.cells #[.slice A N ca] 22))
  clear hA hB hN hM g1 g2 g3 g4
  go_enter Try.func3, Try.ntmps3
  go_wp2_with fail
  generalize W.alloc (.cells #[.slice A N ca] 22) = w0 at *
  refine (write_any A B N M ca cb zs ps w0 HN.out HM.out Hxn.out Hxm.out HA0.out HB0.out).mono ?_
  rintro e w1 ⟨hp, hb1⟩
  have Hb1 := Lib.hid (stepN Hb0.out hb1)
  have HA1 := Lib.hid (HA0.out.below hb1)
  have HB1 := Lib.hid (HB0.out.below hb1)
  have HX1 := Lib.hid (Blk.below HX0.out hb1 (Blk.lt HX0.out))
  have hc1 : w1.cell? ⟨W.heap.size, 0, none⟩ = some (.slice A N ca) := (HX1.out.cell 0).trans rfl
  clear hb1 HX0 HA0 HB0 Hb0
  have HL1 := Lib.hid (lengths_any A N ca zs w1 HN.out Hxn.out HA1.out)
  by_cases h0 : chkL zs = 0
  · have H0 := Lib.hid h0
    rw [h0] at HL1
    by_cases h3 : 3000 < M
    · have hwr : wrE zs ps = 2 := by unfold wrE; rw [if_neg (by rw [H0.out]; simp), if_pos (by rw [HM.out]; omega)]
      rcases hp with ⟨_, rfl⟩ | ⟨hbad, _⟩
      · rw [hwr]
        clear hwr h0
        have h3i : (3000 : Int) < (M : Int) := by omega
        go_wp2_with fail
        refine (HL1.out).mono ?_
        rintro e wx ⟨rfl, hw⟩
        cases hw
        go_wp2_with fail
        refine (coded_any _).mono ?_
        rintro e w3 ⟨rfl, hb3⟩
        have Hb3 := Lib.hid (stepN Hb1.out hb3)
        clear hb3
        go_wp2_with fail
        refine (coded_any w3).mono ?_
        rintro e w4 ⟨rfl, hb4⟩
        have Hb4 := Lib.hid (stepN Hb3.out hb4)
        clear hb4
        go_wp2_with fail
        go_ret
        exact ⟨rfl, Hb4.out⟩
      · rw [hwr] at hbad; exact absurd hbad (by decide)
    · have h3i : ¬ (3000 : Int) < (M : Int) := by omega
      have HCF := Lib.hid (containsFunc_ints B M cb ps 9 #[.pointer (some ⟨W.heap.size, 0, none⟩)] (badPl zs) w1 HM.out Hxm.out HB1.out (fun _ _ => by kernel_rfl) (fun x _ w' hb' => badPlL_any W.heap.size A N ca zs x w' HN.out (HX1.out.below hb' HX1.out.lt) (HA1.out.below hb')))
      cases hany : ps.any (badPl zs) with
      | true =>
        have hwr : wrE zs ps = 5 := by unfold wrE; rw [if_neg (by rw [H0.out]; simp), if_neg (by rw [HM.out]; omega), if_pos hany]
        rcases hp with ⟨_, rfl⟩ | ⟨hbad, _⟩
        · rw [hwr]
          rw [hany] at HCF
          clear hwr h0 hany
          go_wp2_with fail
          refine (HL1.out).mono ?_
          rintro e wx ⟨rfl, hw⟩
          cases hw
          go_wp2_with fail
          refine (HCF.out).mono ?_
          rintro e w2 ⟨rfl, hb2⟩
          have Hb1 := Lib.hid (stepN Hb1.out hb2)
          clear hb2 HCF HL1 hc1
          go_wp2_with fail
          refine (coded_any _).mono ?_
          rintro e w3 ⟨rfl, hb3⟩
          have Hb3 := Lib.hid (stepN Hb1.out hb3)
          clear hb3
          go_wp2_with fail
          refine (coded_any w3).mono ?_
          rintro e w4 ⟨rfl, hb4⟩
          have Hb4 := Lib.hid (stepN Hb3.out hb4)
          clear hb4
          go_wp2_with fail
          go_ret
          exact ⟨rfl, Hb4.out⟩
        · rw [hwr] at hbad; exact absurd hbad (by decide)
      | false =>
        have hwr : wrE zs ps = 0 := by unfold wrE; rw [if_neg (by rw [H0.out]; simp), if_neg (by rw [HM.out]; omega), if_neg (by rw [hany]; simp)]
        rcases hp with ⟨hbad, _⟩ | ⟨_, v, rfl, hown⟩
        · exact absurd hwr hbad
        obtain ⟨f1, f2, f3, f4, f5⟩ := chk_fine zs h0
        have hn288 : N ≤ 288 := by rw [← HN.out]; exact f1
        have hm3000 : M ≤ 3000 := by omega
        have hwlen : (wbits (lsOf zs) (lsOf ps)).length ≤ 15 * M := by
          have := wbits_len (lsOf zs) (lsOf ps) f4
          rw [lsOf_len, HM.out] at this; exact this
        have Hwk := Lib.hid (fun k => wbits_len (lsOf zs) (lsOf (ps.take k)) f4)
        obtain ⟨A9, c9, rfl, h9a, h9b, hA9⟩ := own_bytes hown
        have HA9 := Lib.hid hA9
        have Hgood : Hid (∀ x ∈ ps, badPl zs x = false) := Lib.hid (fun x hx => by
          have := List.any_eq_false.1 hany x hx
          simpa using this)
        rw [hany] at HCF
        clear hwr h0 hany hown hA9 f1 f2 f3 f4 f5
        go_wp2_with fail
        refine (HL1.out).mono ?_
        rintro e wx ⟨rfl, hw⟩
        cases hw
        go_wp2_with fail
        refine (HCF.out).mono ?_
        rintro e w2 ⟨rfl, hb2⟩
        have Hb2 := Lib.hid (stepN Hb1.out hb2)
        have HA2 := Lib.hid (HA1.out.below hb2)
        have HB2 := Lib.hid (HB1.out.below hb2)
        have H92 := Lib.hid (SlAt.below HA9.out hb2)
        have HX2 := Lib.hid (Blk.below HX1.out hb2 (Blk.lt HX1.out))
        clear hb2 HCF HL1 hc1 HA1 HB1 HA9 HX1 Hb1
        go_wp2_with fail
        refine (coded_any w2).mono ?_
        rintro e w3 ⟨rfl, hb3⟩
        have Hb3 := Lib.hid (stepN Hb2.out hb3)
        have HA3 := Lib.hid (HA2.out.below hb3)
        have HB3 := Lib.hid (HB2.out.below hb3)
        have H93 := Lib.hid (SlAt.below H92.out hb3)
        have HX3 := Lib.hid (Blk.below HX2.out hb3 (Blk.lt HX2.out))
        have hc3 : w3.cell? ⟨W.heap.size, 0, none⟩ = some (.slice A N ca) := (HX3.out.cell 0).trans rfl
        clear hb3 HA2 HB2 H92 HX2 Hb2
        go_wp2_with fail
        refine (codesOf_any A N ca zs w3 HN.out HA3.out H0.out).mono ?_
        rintro e w4 ⟨⟨gs, rfl, hgs, hcs⟩, hb4⟩
        have Hb4 := Lib.hid (stepN Hb3.out hb4)
        have HB4 := Lib.hid (HB3.out.below hb4)
        have H94 := Lib.hid (SlAt.below H93.out hb4)
        have Hcs4 := Lib.hid hcs
        have HBd := Lib.hid (Bld.new w4)
        clear hb4 hcs hc3 HX3 HA3 HB3 H93 Hb3
        go_wp2_with fail
        go_loopw [55] (fun i wr => ∃ k : Nat, k ≤ M ∧ i = .int .i64 (k : Int) ∧ Bld w4.heap.size w4.heap.size (rowS (wbits (lsOf zs) (lsOf (ps.take k)))) wr ∧ Below w4.heap.size w4 wr) (fun i _ => M - (intOf i).toNat)
        case atStart => exact ⟨0, Nat.zero_le _, rfl, HBd.out, (Below.refl _ _).alloc (Nat.le_refl _) _⟩
        case round =>
          obtain ⟨k, hk, rfl, hbd, hbr⟩ := hrel
          have HBr := Lib.hid hbd
          have Hbr := Lib.hid hbr
          clear hbd hbr HBd
          by_cases hlt : k < M
          · have hkl : k < ps.length := by rw [HM.out]; exact hlt
            obtain ⟨b, o, rfl, hcell⟩ := (HB4.out.below Hbr.out).get hkl
            obtain ⟨x, hx, hxl, _⟩ := good_pl zs ps[k] (Hgood.out _ (List.getElem_mem hkl))
            have Htk := Lib.hid (lsOf_take ps k hkl)
            rw [hx, Int.toNat_natCast] at Htk
            rw [hx] at hcell
            have hxN : x < N := by rw [← HN.out]; exact hxl
            have hc2 : wr.cell? ⟨gs, x, none⟩ = some (rowV (codeS (lsOf zs) x)) := by rw [(Blk.below Hcs4.out Hbr.out (Blk.lt Hcs4.out)).cell]; simp [hxN]
            have hlen : (codeS (lsOf zs) x).length ≤ 15 := by
              unfold codeS
              rw [hi_length, List.getD_eq_getElem?_getD, List.getElem?_eq_getElem (by rw [lsOf_len]; exact hxl)]
              exact (chk_fine zs H0.out).2.2.2.1 _ (List.getElem_mem _)
            have hwl : (rowS (wbits (lsOf zs) (lsOf (ps.take k)))).length ≤ 45000 := by
              have := Hwk.out k
              rw [lsOf_len, List.length_take] at this
              rw [rowS_length]; omega
            have HW := Lib.hid (HBr.out.str (rowS (codeS (lsOf zs) x)) (by rw [rowS_length (codeS (lsOf zs) x)]; omega))
            have HS := Lib.hid (wbits_snoc (lsOf zs) (lsOf (ps.take k)) x)
            rw [← Htk.out] at HS
            unfold rowV strB at hc2
            clear hx
            go_wp2_with fail
            refine (HW.out).mono ?_
            rintro e w6 ⟨rfl, hb6, hbb6⟩
            have HB6 := Lib.hid hb6
            have Hb6 := Lib.hid (Hbr.out.trans hbb6)
            clear hb6 hbb6 HW
            go_wp2_with fail
            go_roundw
            case rel =>
              refine ⟨k + 1, by omega, by go_num, ?_, Hb6.out⟩
              rw [HS.out, rowS_append]; exact HB6.out
            case measure => simp [intOf]; omega
          · obtain rfl : k = M := by omega
            have hall : ps.take k = ps := List.take_of_length_le (by rw [HM.out]; exact Nat.le_refl _)
            have hall2 := HBr.out
            rw [hall] at hall2
            have HD := Lib.hid hall2.done
            have H9r := Lib.hid (SlAt.below H94.out Hbr.out)
            have Hbt := Lib.hid (fun V => bytesOf_any (wbits (lsOf zs) (lsOf ps)) V (by omega))
            clear hall hall2
            go_wp2_with fail
            refine (HD.out).mono ?_
            rintro e w6 ⟨rfl, hb6⟩
            have Hb6 := Lib.hid (Hbr.out.trans hb6)
            have H96 := Lib.hid (SlAt.below H94.out Hb6.out)
            clear hb6
            go_wp2_with fail
            refine (Hbt.out w6).mono ?_
            rintro e w7 ⟨⟨v, rfl, hown⟩, hb7⟩
            have Hb7 := Lib.hid (stepN Hb4.out (stepN Hb6.out hb7))
            have H97 := Lib.hid (SlAt.below H96.out hb7)
            obtain ⟨A8, c8, rfl, _, _, hA8⟩ := own_bytes hown
            have HE := Lib.hid (equal_bytes A9 A8 _ _ c9 c8 _ _ w7 rfl rfl H97.out hA8)
            rw [decide_eq_true rfl] at HE
            clear hown hb7 hA8
            go_wp2_with fail
            refine (HE.out).mono ?_
            rintro e w8 ⟨rfl, hw⟩
            cases hw
            go_wp2_with fail
            go_ret
            exact ⟨rfl, Hb7.out⟩
  · have hwr : wrE zs ps = chkL zs := by unfold wrE; rw [if_pos h0]
    rcases hp with ⟨_, rfl⟩ | ⟨hbad, _⟩
    · rw [hwr]
      clear hwr
      generalize chkL zs = z at *
      have hz : (z == 0) = false := by simpa using h0
      have hz2 : (z != 0) = true := by simpa using h0
      have hz3 : (z == z) = true := by simp
      go_wp2_with fail
      refine (HL1.out).mono ?_
      rintro e wx ⟨rfl, hw⟩
      cases hw
      go_wp2_with fail
      refine (coded_any _).mono ?_
      rintro e w3 ⟨rfl, hb3⟩
      have Hb3 := Lib.hid (stepN Hb1.out hb3)
      clear hb3
      go_wp2_with fail
      refine (coded_any w3).mono ?_
      rintro e w4 ⟨rfl, hb4⟩
      have Hb4 := Lib.hid (stepN Hb3.out hb4)
      clear hb4
      go_wp2_with fail
      go_ret
      exact ⟨rfl, Hb4.out⟩
    · rw [hwr] at hbad; exact absurd hbad h0
end Go.Proofs.Ytfgkfakhlcbdbaa.CodeWrite
