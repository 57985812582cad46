/- reliquarylaw.CodeCodes: the walk. -/
import Derived.Test.YtfgkfakhlcbdbaaCdsCodes
import Derived.Test.YtfgkfakhlcbdbaaCdsChk
import Derived.Test.YtfgkfakhlcbdbaaCdsCon
import Derived.Test.YtfgkfakhlcbdbaaTurnS
import Derived.Test.YtfgkfakhlcbdbaaRegT
import Derived.Test.YtfgkfakhlcbdbaaInts
import Derived.Test.YtfgkfakhlcbdbaaOpen
namespace Go.Proofs.Ytfgkfakhlcbdbaa.CodeCodes
open Go Go.RowKit Go.Proofs.Ytfgkfakhlcbdbaa Go.Proofs.Ytfgkfakhlcbdbaa.Bits Go.Proofs.Ytfgkfakhlcbdbaa.Code Go.Proofs.Ytfgkfakhlcbdbaa.Cds
set_option linter.unusedVariables false
set_option linter.unusedSimpArgs false

theorem num_turned (ls : List Nat) (i : Nat) (h : i < ls.length) (hl : ∀ x ∈ ls, x ≤ 15) (hr : room ls ≤ 32768) : num (codeS ls i).reverse = codeOf ls i := by
  unfold codeS
  refine val_hi _ _ ?_
  by_cases h0 : ls.getD i 0 = 0
  · have : codeOf ls i = 0 := by unfold codeOf; rw [if_pos h0]
    rw [this]; exact Nat.two_pow_pos _
  · exact codeOf_lt ls i h h0 hl hr
theorem codeS_len (ls : List Nat) (i : Nat) : (codeS ls i).length = ls.getD i 0 := hi_length _ _
set_option maxRecDepth 100000 in
set_option maxHeartbeats 8000000 in
theorem walk (W : World) (v0 : Value) (zs : List Int) (h0 : Ints W v0 zs) :
    Calls Try.prog 5 #[v0] W fun e W' => e = .returned (.bool true) ∧ Below W.heap.size W W' := by
  obtain ⟨A, ca, rfl, g1, g2, hA, _, _⟩ := h0
  have HA := Lib.hid (ints_at hA)
  obtain ⟨N, hN⟩ : ∃ N, N = zs.length := ⟨_, rfl⟩
  rw [← hN] at g1 ⊢
  have HN := Lib.hid hN.symm
  have Hxn : Hid (N ≤ maxLen) := Lib.hid (by omega)
  have hNb : N ≤ 9223372036854775807 := by have := Hxn.out; unfold maxLen at this; omega
  clear hA hN g1 g2
  go_enter Try.func5, Try.ntmps5
  go_wp2_with fail
  refine (bcodes_any A N ca zs W HN.out Hxn.out HA.out).mono ?_
  rintro e w1 ⟨hp, hb1⟩
  have Hb1 := Lib.hid hb1
  have HA1 := Lib.hid (HA.out.below hb1)
  clear hb1
  rcases hp with ⟨hbad, rfl⟩ | ⟨hok, g, rfl, hgl, hblk⟩
  · go_wp2_with fail
    refine (full_any A N ca zs w1 HN.out Hxn.out HA1.out).mono ?_
    rintro e w2 ⟨hp, hw⟩
    cases hw
    rcases hp with ⟨_, rfl⟩ | ⟨hok, rfl⟩
    · go_wp2_with fail
      refine (lengths_any A N ca zs w1 HN.out Hxn.out HA1.out).mono ?_
      rintro e w2 ⟨rfl, hw⟩
      cases hw
      go_wp2_with fail
      refine (coded_any w1).mono ?_
      rintro e w3 ⟨rfl, hb3⟩
      have Hb3 := Lib.hid (stepN Hb1.out hb3)
      have HA3 := Lib.hid (HA1.out.below hb3)
      clear hb3
      go_wp2_with fail
      refine (check_any A N ca zs w3 HN.out Hxn.out HA3.out).mono ?_
      rintro e w4 ⟨rfl, hw⟩
      cases hw
      generalize chkL zs = z at *
      have hz : (z != 0) = true := by simpa using hbad
      have hzz : (z != z) = false := by simp
      go_wp2_with fail
      go_ret
      exact ⟨rfl, Hb3.out⟩
    · exact absurd hok hbad
  · have Hok := Lib.hid hok
    have Hblk := Lib.hid hblk
    obtain ⟨f1, f2, f3, f4, f5⟩ := chk_fine zs hok
    have F3 := Lib.hid f3
    have F4 := Lib.hid f4
    have F5 := Lib.hid f5
    have hn288 : N ≤ 288 := by rw [← HN.out]; exact f1
    clear f1 f2 f3 f4 f5 hok hblk
    go_wp2_with fail
    refine (full_any A N ca zs w1 HN.out Hxn.out HA1.out).mono ?_
    rintro e w2 ⟨hp, hw⟩
    cases hw
    rcases hp with ⟨hbad, _⟩ | ⟨_, rfl⟩
    · exact absurd Hok.out hbad
    go_wp2_with fail
    refine (lengths_any A N ca zs w1 HN.out Hxn.out HA1.out).mono ?_
    rintro e w2 ⟨rfl, hw⟩
    cases hw
    rw [Hok.out]
    go_wp2_with fail
    refine (coded_any w1).mono ?_
    rintro e w3 ⟨rfl, hb3⟩
    have Hb3 := Lib.hid (stepN Hb1.out hb3)
    have HA3 := Lib.hid (HA1.out.below hb3)
    have Hblk3 := Lib.hid (Blk.below Hblk.out hb3 (Blk.lt Hblk.out))
    clear hb3
    go_wp2_with fail
    refine (check_any A N ca zs w3 HN.out Hxn.out HA3.out).mono ?_
    rintro e w4 ⟨rfl, hw⟩
    cases hw
    rw [Hok.out]
    have HF := Lib.hid (full_says zs F5.out)
    generalize fullB (lsOf zs) = fb at *
    go_wp2_with fail
    go_loop [8, 54] (fun u i => ∃ k : Nat, k ≤ N ∧ i = .int .i64 (k : Int) ∧ u = .int .i64 (usedN (lsOf (zs.take k)) : Int)) (fun _ i => N - (intOf i).toNat)
    case atStart => exact ⟨0, Nat.zero_le _, rfl, rfl⟩
    case round =>
      obtain ⟨k, hk, rfl, rfl⟩ := hrel
      have hus := usedN_le (lsOf (zs.take k))
      rw [lsOf_len, List.length_take] at hus
      by_cases hlt : k < N
      · have hkl : k < zs.length := by rw [HN.out]; exact hlt
        obtain ⟨b, o, rfl, hc⟩ := HA3.out.get hkl
        have Hu := Lib.hid (usedN_take zs k hkl)
        have hz := F5.out zs[k] (List.getElem_mem hkl)
        generalize usedN (lsOf (zs.take k)) = u at *
        generalize zs[k] = z at *
        obtain ⟨x, rfl⟩ := Int.eq_ofNat_of_zero_le hz.1
        rw [Int.toNat_natCast] at Hu
        by_cases h0 : x = 0
        · rw [if_pos h0] at Hu
          subst h0
          go_wp2_with fail
          go_round
          case rel => exact ⟨k + 1, by omega, by go_num, by rw [Hu.out]; rfl⟩
          case measure => simp [intOf]; omega
        · rw [if_neg h0] at Hu
          have hx0 : (0 : Int) < (x : Int) := by omega
          go_wp2_with fail
          go_round
          case rel => exact ⟨k + 1, by omega, by go_num, by rw [Hu.out]; go_num⟩
          case measure => simp [intOf]; omega
      · obtain rfl : k = N := by omega
        have hall : zs.take k = zs := List.take_of_length_le (by rw [HN.out]; exact Nat.le_refl _)
        rw [hall] at hus ⊢
        clear hall
        have HR := Lib.hid (room_any A k ca zs w3 HN.out hn288 F5.out HA3.out)
        have HCn := Lib.hid (contains_any A k ca zs 1 w3 HN.out (by omega) HA3.out)
        have HCd := Lib.hid (codesOf_any A k ca zs w3 HN.out HA3.out Hok.out)
        have HNum := Lib.hid (fun j (hj : j < (lsOf zs).length) => num_turned (lsOf zs) j hj F4.out F3.out)
        generalize hrm : room (lsOf zs) = rm at *
        generalize usedN (lsOf zs) = un at *
        have hrm2 : rm ≤ 32768 := F3.out
        clear hrm
        go_wp2_with fail
        refine (HR.out).mono ?_
        rintro e wx ⟨rfl, hw⟩
        cases hw
        by_cases h1 : rm = 32768
        · subst h1
          obtain rfl : fb = true := by rw [HF.out]; simp
          clear HF
          go_wp2_with fail
          refine (HCd.out).mono ?_
          rintro e w5 ⟨⟨gs, rfl, hgs, hcs⟩, hb5⟩
          have Hb5 := Lib.hid (stepN Hb3.out hb5)
          have Hblk5 := Lib.hid (Blk.below Hblk3.out hb5 (Blk.lt Hblk3.out))
          have Hcs5 := Lib.hid hcs
          clear hb5 hcs HCd HCn HR
          go_wp2_with fail
          go_loopw [86] (fun i wr => ∃ j : Nat, j ≤ k ∧ i = .int .i64 (j : Int) ∧ Blk wr g 3 (nats (codesL (lsOf zs))) ∧ Blk wr gs 9 ((List.range k).map fun i => rowV (codeS (lsOf zs) i)).toArray ∧ Below W.heap.size W wr) (fun i _ => k - (intOf i).toNat)
          case atStart => exact ⟨0, Nat.zero_le _, rfl, Hblk5.out, Hcs5.out, Hb5.out⟩
          case round =>
            obtain ⟨j, hj, rfl, hbk, hcs, hb⟩ := hrel
            have Hbk := Lib.hid hbk
            have Hcs := Lib.hid hcs
            have Hb := Lib.hid hb
            clear hbk hcs hb Hb5 Hblk5 Hcs5
            by_cases hlt : j < k
            · have hjl : j < (lsOf zs).length := by rw [lsOf_len, HN.out]; exact hlt
              have hcl : (codesL (lsOf zs)).length = (lsOf zs).length := by simp [codesL]
              have hc1 : wr.cell? ⟨g, j, none⟩ = some (.int .i64 (codeOf (lsOf zs) j : Int)) := by rw [Hbk.out.cell, nats_get _ _ (by rw [hcl]; exact hjl), codesL_get _ _ hjl]
              have hc2 : wr.cell? ⟨gs, j, none⟩ = some (rowV (codeS (lsOf zs) j)) := by rw [Hcs.out.cell]; simp [hlt]
              have Hnum := Lib.hid (HNum.out j hjl)
              have hlen : (codeS (lsOf zs) j).length ≤ 15 := by
                rw [codeS_len, List.getD_eq_getElem?_getD, List.getElem?_eq_getElem hjl]
                exact F4.out _ (List.getElem_mem hjl)
              have HT := Lib.hid (fun V => turnedS_any (codeS (lsOf zs) j) V (by omega))
              have HO := Lib.hid (fun V => ofNumber_any (codeS (lsOf zs) j).reverse V (by rw [List.length_reverse]; omega))
              rw [Hnum.out] at HO
              generalize codeOf (lsOf zs) j = cj at *
              have Hc1 := Lib.hid hc1
              clear hjl hcl hlen Hnum
              generalize rowV (codeS (lsOf zs) j) = rv at *
              generalize rowV (codeS (lsOf zs) j).reverse = rt at *
              go_wp2_with fail
              refine wp_region_S (fun V => V.cell? ⟨g, j, none⟩ = some (.int .i64 (cj : Int))) 7 (by kernel_rfl) ?_
              obtain ⟨w6, hw6⟩ : ∃ w6, w6 = wr.drew := ⟨_, rfl⟩
              have hHeld : w6.cell? ⟨g, j, none⟩ = some (.int .i64 (cj : Int)) := by rw [hw6]; exact Hc1.out
              have Hbk6 : Hid (Blk w6 g 3 (nats (codesL (lsOf zs)))) := Lib.hid (by rw [hw6]; exact Hbk.out)
              have Hcs6 : Hid (Blk w6 gs 9 ((List.range k).map fun i => rowV (codeS (lsOf zs) i)).toArray) := Lib.hid (by rw [hw6]; exact Hcs.out)
              have Hb6 : Hid (Below W.heap.size W w6) := Lib.hid (by rw [hw6]; exact Hb.out.drew)
              rw [← hw6]
              clear hw6 Hbk Hcs Hb Hc1 hc1 hc2
              refine wpAnyS_takeT (i := 0) (v := ?vax0) (by kernel_rfl) (by kernel_rfl) rfl (by kernel_rfl) (by kernel_rfl) (by kernel_rfl) (fun _ _ _ h => h) (by rfl) (by assumption) ?hyax0 ?restax0
              case hyax0 => (intro V hSW; (try dsimp only at hSW); go_simp; try with_reducible rfl)
              (try simp only [Act.put, List.getElem_toArray, List.getElem_cons_zero, List.getElem_cons_succ, List.setIfInBounds_toArray, List.set_cons_zero, List.set_cons_succ])
              refine wpAnyS_takeT (i := 1) (v := ?vax1) (by kernel_rfl) (by kernel_rfl) rfl (by kernel_rfl) (by kernel_rfl) (by kernel_rfl) (fun _ _ _ h => h) (by rfl) (by assumption) ?hyax1 ?restax1
              case hyax1 => (intro V hSW; (try dsimp only at hSW); go_simp; try with_reducible rfl)
              (try simp only [Act.put, List.getElem_toArray, List.getElem_cons_zero, List.getElem_cons_succ, List.setIfInBounds_toArray, List.set_cons_zero, List.set_cons_succ])
              refine wpAnyS_takeT (i := 2) (v := ?vax2) (by kernel_rfl) (by kernel_rfl) rfl (by kernel_rfl) (by kernel_rfl) (by kernel_rfl) (fun _ _ _ h => h) (by rfl) (by assumption) ?hyax2 ?restax2
              case hyax2 => (intro V hSW; (try dsimp only at hSW); go_simp; try with_reducible rfl)
              (try simp only [Act.put, List.getElem_toArray, List.getElem_cons_zero, List.getElem_cons_succ, List.setIfInBounds_toArray, List.set_cons_zero, List.set_cons_succ])
              refine wpAnyS_takeT (i := 3) (v := ?vax3) (by kernel_rfl) (by kernel_rfl) rfl (by kernel_rfl) (by kernel_rfl) (by kernel_rfl) (fun _ _ _ h => h) (by rfl) (by assumption) ?hyax3 ?restax3
              case hyax3 => (intro V hSW; (try dsimp only at hSW); go_simp; try with_reducible rfl)
              (try simp only [Act.put, List.getElem_toArray, List.getElem_cons_zero, List.getElem_cons_succ, List.setIfInBounds_toArray, List.set_cons_zero, List.set_cons_succ])
              refine wpAnyS_takeT (i := 4) (v := ?vax4) (by kernel_rfl) (by kernel_rfl) rfl (by kernel_rfl) (by kernel_rfl) (by kernel_rfl) (fun _ _ _ h => h) (by rfl) (by assumption) ?hyax4 ?restax4
              case hyax4 => (intro V hSW; (try dsimp only at hSW); go_simp; try with_reducible rfl)
              (try simp only [Act.put, List.getElem_toArray, List.getElem_cons_zero, List.getElem_cons_succ, List.setIfInBounds_toArray, List.set_cons_zero, List.set_cons_succ])
              refine wpAnyS_only (i := 5) rfl (by kernel_rfl) (fun K hK => ?_)
              go_simp
              go_at_call 27
              refine (HT.out w6).mono ?_
              rintro e w7 ⟨rfl, hb7⟩
              have hHeld7 : w7.cell? ⟨g, j, none⟩ = some (.int .i64 (cj : Int)) := cell_below hb7 hHeld
              have Hbk7 := Lib.hid (Blk.below Hbk6.out hb7 (Blk.lt Hbk6.out))
              have Hcs7 := Lib.hid (Blk.below Hcs6.out hb7 (Blk.lt Hcs6.out))
              have Hb7 := Lib.hid (stepN Hb6.out hb7)
              clear hb7 hHeld
              refine hK.out _ _ hHeld7 (fun hHeld => ?_)
              clear hK K
              (try simp only [Act.put, List.getElem_toArray, List.getElem_cons_zero, List.getElem_cons_succ, List.setIfInBounds_toArray, List.set_cons_zero, List.set_cons_succ])
              refine wpAnyS_only (i := 6) rfl (by kernel_rfl) (fun K hK => ?_)
              go_simp
              go_at_call 26
              refine (HO.out w7).mono ?_
              rintro e w8 ⟨rfl, hw8⟩
              cases hw8
              refine hK.out _ _ hHeld7 (fun hHeld => ?_)
              clear hK K
              (try simp only [Act.put, List.getElem_toArray, List.getElem_cons_zero, List.getElem_cons_succ, List.setIfInBounds_toArray, List.set_cons_zero, List.set_cons_succ])
              refine wpAnyS_last rfl (by kernel_rfl) (by kernel_rfl) (fun K hK => ?_)
              go_simp
              refine hK.out _ _ ?_
              clear hK K
              go_wp2_with fail
              go_roundw
              case rel => exact ⟨j + 1, by omega, by go_num, Hbk7.out, Hcs7.out, Hb7.out⟩
              case measure => simp [intOf]; omega
            · obtain rfl : j = k := by omega
              go_wp2_with fail
              go_ret
              exact ⟨rfl, Hb.out⟩
        · by_cases h2 : un = 1
          · subst h2
            have e1 : ((rm : Int) == 32768) = false := by rw [beq_eq_false_iff_ne]; omega
            obtain hfb : fb = decide ((1 : Int) ∈ zs) := by rw [HF.out]; simp [h1]
            clear HF
            go_wp2_with fail
            refine (HCn.out).mono ?_
            rintro e wx ⟨rfl, hw⟩
            cases hw
            rw [← hfb]
            have e3 : (fb != fb) = false := by simp
            clear hfb
            go_wp2_with fail
            refine (HCd.out).mono ?_
            rintro e w5 ⟨⟨gs, rfl, hgs, hcs⟩, hb5⟩
            have Hb5 := Lib.hid (stepN Hb3.out hb5)
            have Hblk5 := Lib.hid (Blk.below Hblk3.out hb5 (Blk.lt Hblk3.out))
            have Hcs5 := Lib.hid hcs
            clear hb5 hcs HCd HCn HR
            go_wp2_with fail
            go_loopw [86] (fun i wr => ∃ j : Nat, j ≤ k ∧ i = .int .i64 (j : Int) ∧ Blk wr g 3 (nats (codesL (lsOf zs))) ∧ Blk wr gs 9 ((List.range k).map fun i => rowV (codeS (lsOf zs) i)).toArray ∧ Below W.heap.size W wr) (fun i _ => k - (intOf i).toNat)
            case atStart => exact ⟨0, Nat.zero_le _, rfl, Hblk5.out, Hcs5.out, Hb5.out⟩
            case round =>
              obtain ⟨j, hj, rfl, hbk, hcs, hb⟩ := hrel
              have Hbk := Lib.hid hbk
              have Hcs := Lib.hid hcs
              have Hb := Lib.hid hb
              clear hbk hcs hb Hb5 Hblk5 Hcs5
              by_cases hlt : j < k
              · have hjl : j < (lsOf zs).length := by rw [lsOf_len, HN.out]; exact hlt
                have hcl : (codesL (lsOf zs)).length = (lsOf zs).length := by simp [codesL]
                have hc1 : wr.cell? ⟨g, j, none⟩ = some (.int .i64 (codeOf (lsOf zs) j : Int)) := by rw [Hbk.out.cell, nats_get _ _ (by rw [hcl]; exact hjl), codesL_get _ _ hjl]
                have hc2 : wr.cell? ⟨gs, j, none⟩ = some (rowV (codeS (lsOf zs) j)) := by rw [Hcs.out.cell]; simp [hlt]
                have Hnum := Lib.hid (HNum.out j hjl)
                have hlen : (codeS (lsOf zs) j).length ≤ 15 := by
                  rw [codeS_len, List.getD_eq_getElem?_getD, List.getElem?_eq_getElem hjl]
                  exact F4.out _ (List.getElem_mem hjl)
                have HT := Lib.hid (fun V => turnedS_any (codeS (lsOf zs) j) V (by omega))
                have HO := Lib.hid (fun V => ofNumber_any (codeS (lsOf zs) j).reverse V (by rw [List.length_reverse]; omega))
                rw [Hnum.out] at HO
                generalize codeOf (lsOf zs) j = cj at *
                have Hc1 := Lib.hid hc1
                clear hjl hcl hlen Hnum
                generalize rowV (codeS (lsOf zs) j) = rv at *
                generalize rowV (codeS (lsOf zs) j).reverse = rt at *
                go_wp2_with fail
                refine wp_region_S (fun V => V.cell? ⟨g, j, none⟩ = some (.int .i64 (cj : Int))) 7 (by kernel_rfl) ?_
                obtain ⟨w6, hw6⟩ : ∃ w6, w6 = wr.drew := ⟨_, rfl⟩
                have hHeld : w6.cell? ⟨g, j, none⟩ = some (.int .i64 (cj : Int)) := by rw [hw6]; exact Hc1.out
                have Hbk6 : Hid (Blk w6 g 3 (nats (codesL (lsOf zs)))) := Lib.hid (by rw [hw6]; exact Hbk.out)
                have Hcs6 : Hid (Blk w6 gs 9 ((List.range k).map fun i => rowV (codeS (lsOf zs) i)).toArray) := Lib.hid (by rw [hw6]; exact Hcs.out)
                have Hb6 : Hid (Below W.heap.size W w6) := Lib.hid (by rw [hw6]; exact Hb.out.drew)
                rw [← hw6]
                clear hw6 Hbk Hcs Hb Hc1 hc1 hc2
                refine wpAnyS_takeT (i := 0) (v := ?vay0) (by kernel_rfl) (by kernel_rfl) rfl (by kernel_rfl) (by kernel_rfl) (by kernel_rfl) (fun _ _ _ h => h) (by rfl) (by assumption) ?hyay0 ?restay0
                case hyay0 => (intro V hSW; (try dsimp only at hSW); go_simp; try with_reducible rfl)
                (try simp only [Act.put, List.getElem_toArray, List.getElem_cons_zero, List.getElem_cons_succ, List.setIfInBounds_toArray, List.set_cons_zero, List.set_cons_succ])
                refine wpAnyS_takeT (i := 1) (v := ?vay1) (by kernel_rfl) (by kernel_rfl) rfl (by kernel_rfl) (by kernel_rfl) (by kernel_rfl) (fun _ _ _ h => h) (by rfl) (by assumption) ?hyay1 ?restay1
                case hyay1 => (intro V hSW; (try dsimp only at hSW); go_simp; try with_reducible rfl)
                (try simp only [Act.put, List.getElem_toArray, List.getElem_cons_zero, List.getElem_cons_succ, List.setIfInBounds_toArray, List.set_cons_zero, List.set_cons_succ])
                refine wpAnyS_takeT (i := 2) (v := ?vay2) (by kernel_rfl) (by kernel_rfl) rfl (by kernel_rfl) (by kernel_rfl) (by kernel_rfl) (fun _ _ _ h => h) (by rfl) (by assumption) ?hyay2 ?restay2
                case hyay2 => (intro V hSW; (try dsimp only at hSW); go_simp; try with_reducible rfl)
                (try simp only [Act.put, List.getElem_toArray, List.getElem_cons_zero, List.getElem_cons_succ, List.setIfInBounds_toArray, List.set_cons_zero, List.set_cons_succ])
                refine wpAnyS_takeT (i := 3) (v := ?vay3) (by kernel_rfl) (by kernel_rfl) rfl (by kernel_rfl) (by kernel_rfl) (by kernel_rfl) (fun _ _ _ h => h) (by rfl) (by assumption) ?hyay3 ?restay3
                case hyay3 => (intro V hSW; (try dsimp only at hSW); go_simp; try with_reducible rfl)
                (try simp only [Act.put, List.getElem_toArray, List.getElem_cons_zero, List.getElem_cons_succ, List.setIfInBounds_toArray, List.set_cons_zero, List.set_cons_succ])
                refine wpAnyS_takeT (i := 4) (v := ?vay4) (by kernel_rfl) (by kernel_rfl) rfl (by kernel_rfl) (by kernel_rfl) (by kernel_rfl) (fun _ _ _ h => h) (by rfl) (by assumption) ?hyay4 ?restay4
                case hyay4 => (intro V hSW; (try dsimp only at hSW); go_simp; try with_reducible rfl)
                (try simp only [Act.put, List.getElem_toArray, List.getElem_cons_zero, List.getElem_cons_succ, List.setIfInBounds_toArray, List.set_cons_zero, List.set_cons_succ])
                refine wpAnyS_only (i := 5) rfl (by kernel_rfl) (fun K hK => ?_)
                go_simp
                go_at_call 27
                refine (HT.out w6).mono ?_
                rintro e w7 ⟨rfl, hb7⟩
                have hHeld7 : w7.cell? ⟨g, j, none⟩ = some (.int .i64 (cj : Int)) := cell_below hb7 hHeld
                have Hbk7 := Lib.hid (Blk.below Hbk6.out hb7 (Blk.lt Hbk6.out))
                have Hcs7 := Lib.hid (Blk.below Hcs6.out hb7 (Blk.lt Hcs6.out))
                have Hb7 := Lib.hid (stepN Hb6.out hb7)
                clear hb7 hHeld
                refine hK.out _ _ hHeld7 (fun hHeld => ?_)
                clear hK K
                (try simp only [Act.put, List.getElem_toArray, List.getElem_cons_zero, List.getElem_cons_succ, List.setIfInBounds_toArray, List.set_cons_zero, List.set_cons_succ])
                refine wpAnyS_only (i := 6) rfl (by kernel_rfl) (fun K hK => ?_)
                go_simp
                go_at_call 26
                refine (HO.out w7).mono ?_
                rintro e w8 ⟨rfl, hw8⟩
                cases hw8
                refine hK.out _ _ hHeld7 (fun hHeld => ?_)
                clear hK K
                (try simp only [Act.put, List.getElem_toArray, List.getElem_cons_zero, List.getElem_cons_succ, List.setIfInBounds_toArray, List.set_cons_zero, List.set_cons_succ])
                refine wpAnyS_last rfl (by kernel_rfl) (by kernel_rfl) (fun K hK => ?_)
                go_simp
                refine hK.out _ _ ?_
                clear hK K
                go_wp2_with fail
                go_roundw
                case rel => exact ⟨j + 1, by omega, by go_num, Hbk7.out, Hcs7.out, Hb7.out⟩
                case measure => simp [intOf]; omega
              · obtain rfl : j = k := by omega
                go_wp2_with fail
                go_ret
                exact ⟨rfl, Hb.out⟩
          · have e1 : ((rm : Int) == 32768) = false := by rw [beq_eq_false_iff_ne]; omega
            have e2 : ((un : Int) == 1) = false := by rw [beq_eq_false_iff_ne]; omega
            obtain rfl : fb = false := by rw [HF.out]; simp [h1, h2]
            clear HF
            go_wp2_with fail
            refine (HCd.out).mono ?_
            rintro e w5 ⟨⟨gs, rfl, hgs, hcs⟩, hb5⟩
            have Hb5 := Lib.hid (stepN Hb3.out hb5)
            have Hblk5 := Lib.hid (Blk.below Hblk3.out hb5 (Blk.lt Hblk3.out))
            have Hcs5 := Lib.hid hcs
            clear hb5 hcs HCd HCn HR
            go_wp2_with fail
            go_loopw [86] (fun i wr => ∃ j : Nat, j ≤ k ∧ i = .int .i64 (j : Int) ∧ Blk wr g 3 (nats (codesL (lsOf zs))) ∧ Blk wr gs 9 ((List.range k).map fun i => rowV (codeS (lsOf zs) i)).toArray ∧ Below W.heap.size W wr) (fun i _ => k - (intOf i).toNat)
            case atStart => exact ⟨0, Nat.zero_le _, rfl, Hblk5.out, Hcs5.out, Hb5.out⟩
            case round =>
              obtain ⟨j, hj, rfl, hbk, hcs, hb⟩ := hrel
              have Hbk := Lib.hid hbk
              have Hcs := Lib.hid hcs
              have Hb := Lib.hid hb
              clear hbk hcs hb Hb5 Hblk5 Hcs5
              by_cases hlt : j < k
              · have hjl : j < (lsOf zs).length := by rw [lsOf_len, HN.out]; exact hlt
                have hcl : (codesL (lsOf zs)).length = (lsOf zs).length := by simp [codesL]
                have hc1 : wr.cell? ⟨g, j, none⟩ = some (.int .i64 (codeOf (lsOf zs) j : Int)) := by rw [Hbk.out.cell, nats_get _ _ (by rw [hcl]; exact hjl), codesL_get _ _ hjl]
                have hc2 : wr.cell? ⟨gs, j, none⟩ = some (rowV (codeS (lsOf zs) j)) := by rw [Hcs.out.cell]; simp [hlt]
                have Hnum := Lib.hid (HNum.out j hjl)
                have hlen : (codeS (lsOf zs) j).length ≤ 15 := by
                  rw [codeS_len, List.getD_eq_getElem?_getD, List.getElem?_eq_getElem hjl]
                  exact F4.out _ (List.getElem_mem hjl)
                have HT := Lib.hid (fun V => turnedS_any (codeS (lsOf zs) j) V (by omega))
                have HO := Lib.hid (fun V => ofNumber_any (codeS (lsOf zs) j).reverse V (by rw [List.length_reverse]; omega))
                rw [Hnum.out] at HO
                generalize codeOf (lsOf zs) j = cj at *
                have Hc1 := Lib.hid hc1
                clear hjl hcl hlen Hnum
                generalize rowV (codeS (lsOf zs) j) = rv at *
                generalize rowV (codeS (lsOf zs) j).reverse = rt at *
                go_wp2_with fail
                refine wp_region_S (fun V => V.cell? ⟨g, j, none⟩ = some (.int .i64 (cj : Int))) 7 (by kernel_rfl) ?_
                obtain ⟨w6, hw6⟩ : ∃ w6, w6 = wr.drew := ⟨_, rfl⟩
                have hHeld : w6.cell? ⟨g, j, none⟩ = some (.int .i64 (cj : Int)) := by rw [hw6]; exact Hc1.out
                have Hbk6 : Hid (Blk w6 g 3 (nats (codesL (lsOf zs)))) := Lib.hid (by rw [hw6]; exact Hbk.out)
                have Hcs6 : Hid (Blk w6 gs 9 ((List.range k).map fun i => rowV (codeS (lsOf zs) i)).toArray) := Lib.hid (by rw [hw6]; exact Hcs.out)
                have Hb6 : Hid (Below W.heap.size W w6) := Lib.hid (by rw [hw6]; exact Hb.out.drew)
                rw [← hw6]
                clear hw6 Hbk Hcs Hb Hc1 hc1 hc2
                refine wpAnyS_takeT (i := 0) (v := ?vaz0) (by kernel_rfl) (by kernel_rfl) rfl (by kernel_rfl) (by kernel_rfl) (by kernel_rfl) (fun _ _ _ h => h) (by rfl) (by assumption) ?hyaz0 ?restaz0
                case hyaz0 => (intro V hSW; (try dsimp only at hSW); go_simp; try with_reducible rfl)
                (try simp only [Act.put, List.getElem_toArray, List.getElem_cons_zero, List.getElem_cons_succ, List.setIfInBounds_toArray, List.set_cons_zero, List.set_cons_succ])
                refine wpAnyS_takeT (i := 1) (v := ?vaz1) (by kernel_rfl) (by kernel_rfl) rfl (by kernel_rfl) (by kernel_rfl) (by kernel_rfl) (fun _ _ _ h => h) (by rfl) (by assumption) ?hyaz1 ?restaz1
                case hyaz1 => (intro V hSW; (try dsimp only at hSW); go_simp; try with_reducible rfl)
                (try simp only [Act.put, List.getElem_toArray, List.getElem_cons_zero, List.getElem_cons_succ, List.setIfInBounds_toArray, List.set_cons_zero, List.set_cons_succ])
                refine wpAnyS_takeT (i := 2) (v := ?vaz2) (by kernel_rfl) (by kernel_rfl) rfl (by kernel_rfl) (by kernel_rfl) (by kernel_rfl) (fun _ _ _ h => h) (by rfl) (by assumption) ?hyaz2 ?restaz2
                case hyaz2 => (intro V hSW; (try dsimp only at hSW); go_simp; try with_reducible rfl)
                (try simp only [Act.put, List.getElem_toArray, List.getElem_cons_zero, List.getElem_cons_succ, List.setIfInBounds_toArray, List.set_cons_zero, List.set_cons_succ])
                refine wpAnyS_takeT (i := 3) (v := ?vaz3) (by kernel_rfl) (by kernel_rfl) rfl (by kernel_rfl) (by kernel_rfl) (by kernel_rfl) (fun _ _ _ h => h) (by rfl) (by assumption) ?hyaz3 ?restaz3
                case hyaz3 => (intro V hSW; (try dsimp only at hSW); go_simp; try with_reducible rfl)
                (try simp only [Act.put, List.getElem_toArray, List.getElem_cons_zero, List.getElem_cons_succ, List.setIfInBounds_toArray, List.set_cons_zero, List.set_cons_succ])
                refine wpAnyS_takeT (i := 4) (v := ?vaz4) (by kernel_rfl) (by kernel_rfl) rfl (by kernel_rfl) (by kernel_rfl) (by kernel_rfl) (fun _ _ _ h => h) (by rfl) (by assumption) ?hyaz4 ?restaz4
                case hyaz4 => (intro V hSW; (try dsimp only at hSW); go_simp; try with_reducible rfl)
                (try simp only [Act.put, List.getElem_toArray, List.getElem_cons_zero, List.getElem_cons_succ, List.setIfInBounds_toArray, List.set_cons_zero, List.set_cons_succ])
                refine wpAnyS_only (i := 5) rfl (by kernel_rfl) (fun K hK => ?_)
                go_simp
                go_at_call 27
                refine (HT.out w6).mono ?_
                rintro e w7 ⟨rfl, hb7⟩
                have hHeld7 : w7.cell? ⟨g, j, none⟩ = some (.int .i64 (cj : Int)) := cell_below hb7 hHeld
                have Hbk7 := Lib.hid (Blk.below Hbk6.out hb7 (Blk.lt Hbk6.out))
                have Hcs7 := Lib.hid (Blk.below Hcs6.out hb7 (Blk.lt Hcs6.out))
                have Hb7 := Lib.hid (stepN Hb6.out hb7)
                clear hb7 hHeld
                refine hK.out _ _ hHeld7 (fun hHeld => ?_)
                clear hK K
                (try simp only [Act.put, List.getElem_toArray, List.getElem_cons_zero, List.getElem_cons_succ, List.setIfInBounds_toArray, List.set_cons_zero, List.set_cons_succ])
                refine wpAnyS_only (i := 6) rfl (by kernel_rfl) (fun K hK => ?_)
                go_simp
                go_at_call 26
                refine (HO.out w7).mono ?_
                rintro e w8 ⟨rfl, hw8⟩
                cases hw8
                refine hK.out _ _ hHeld7 (fun hHeld => ?_)
                clear hK K
                (try simp only [Act.put, List.getElem_toArray, List.getElem_cons_zero, List.getElem_cons_succ, List.setIfInBounds_toArray, List.set_cons_zero, List.set_cons_succ])
                refine wpAnyS_last rfl (by kernel_rfl) (by kernel_rfl) (fun K hK => ?_)
                go_simp
                refine hK.out _ _ ?_
                clear hK K
                go_wp2_with fail
                go_roundw
                case rel => exact ⟨j + 1, by omega, by go_num, Hbk7.out, Hcs7.out, Hb7.out⟩
                case measure => simp [intOf]; omega
              · obtain rfl : j = k := by omega
                go_wp2_with fail
                go_ret
                exact ⟨rfl, Hb.out⟩
end Go.Proofs.Ytfgkfakhlcbdbaa.CodeCodes
