/- reliquarylaw.CodeBack: the walk. -/
import Derived.Test.YtdponlnfdjfljaaCodeFact
import Derived.Test.YtdponlnfdjfljaaInts
namespace Go.Proofs.Ytdponlnfdjfljaa.CodeBack
open Go Go.RowKit Go.Proofs.Ytdponlnfdjfljaa Go.Proofs.Ytdponlnfdjfljaa.Bits Go.Proofs.Ytdponlnfdjfljaa.Code
set_option linter.unusedVariables false

theorem wr_ok (zs ps : List Int) (h : wrE zs ps = 0) : chkL zs = 0 ∧ ps.length ≤ 3000 ∧ ∀ x ∈ ps, badPl zs x = false := by
  unfold wrE at h
  by_cases h0 : chkL zs = 0
  · rw [if_neg (by rw [h0]; simp)] at h
    by_cases h1 : 3000 < ps.length
    · rw [if_pos h1] at h; omega
    · rw [if_neg h1] at h
      by_cases h2 : ps.any (badPl zs) = true
      · rw [if_pos h2] at h; omega
      · refine ⟨h0, by omega, fun x hx => ?_⟩
        rw [Bool.not_eq_true, List.any_eq_false] at h2
        simpa using h2 x hx
  · rw [if_pos h0] at h; exact absurd h h0
theorem back_ok (zs ps : List Int) (h : wrE zs ps = 0) : (pack (wbits (lsOf zs) (lsOf ps))).length ≤ 6000 ∧ rdE zs (pack (wbits (lsOf zs) (lsOf ps))) (ps.length : Nat) = 0 ∧
    (riter (lsOf zs) (bitsL (pack (wbits (lsOf zs) (lsOf ps)))) (ps.length : Int).toNat).1 = lsOf ps := by
  obtain ⟨h0, h1, h2⟩ := wr_ok zs ps h
  obtain ⟨f1, f2, f3, f4, f5⟩ := chk_fine zs h0
  have hw := wbits_len (lsOf zs) (lsOf ps) f4
  rw [lsOf_len] at hw
  have hp : (pack (wbits (lsOf zs) (lsOf ps))).length ≤ 6000 := by rw [pack_length]; omega
  obtain ⟨r, hr⟩ := riter_back (lsOf zs) (lsOf ps) (fun k hk => by
    obtain ⟨x, hx, rfl⟩ := List.mem_map.1 hk
    obtain ⟨j, rfl, hj, hz⟩ := good_pl zs x (h2 x hx)
    rw [Int.toNat_natCast, lsOf_len]
    refine ⟨hj, ?_⟩
    rw [getD_of zs j hj]
    have := f5 zs[j] (List.getElem_mem hj)
    omega) f4 f3
  rw [lsOf_len] at hr
  refine ⟨hp, ?_, by rw [Int.toNat_natCast, hr]⟩
  unfold rdE
  rw [if_neg (by rw [h0]; simp), if_neg (by omega), Int.toNat_natCast, hr]
theorem nat_ints (zs ps : List Int) (h : wrE zs ps = 0) : (lsOf ps).map natV = ps.map iv := by
  obtain ⟨h0, h1, h2⟩ := wr_ok zs ps h
  unfold lsOf
  rw [List.map_map]
  apply List.map_congr_left
  intro x hx
  obtain ⟨j, rfl, _⟩ := good_pl zs x (h2 x hx)
  rfl
set_option maxRecDepth 100000 in
set_option maxHeartbeats 4000000 in
theorem walk (W : World) (v0 : Value) (zs : List Int) (h0 : Ints W v0 zs) (v1 : Value) (ps : List Int) (h1 : Ints W v1 ps) :
    Calls Try.prog 3 #[v0, v1] W fun e W' => e = .returned (.bool true) ∧ Below W.heap.size W W' := by
  obtain ⟨A, ca, rfl, g1, g2, hA, _, _⟩ := h0
  obtain ⟨B, cb, rfl, g3, g4, hB, _, _⟩ := h1
  have HA := Lib.hid (ints_at hA)
  have HB := Lib.hid (ints_at hB)
  obtain ⟨N, hN⟩ : ∃ N, N = zs.length := ⟨_, rfl⟩
  obtain ⟨M, hM⟩ : ∃ M, M = ps.length := ⟨_, rfl⟩
  rw [← hN] at g1 ⊢
  rw [← hM] at g3 ⊢
  have HN := Lib.hid hN.symm
  have HM := Lib.hid hM.symm
  have Hxn : Hid (N ≤ maxLen) := Lib.hid (by omega)
  have Hxm : Hid (M ≤ maxLen) := Lib.hid (by omega)
  have hNb : N ≤ 9223372036854775807 := by have := Hxn.out; unfold maxLen at this; omega
  have hMb : M ≤ 9223372036854775807 := by have := Hxm.out; unfold maxLen at this; omega
  clear hA hB hN hM g1 g2 g3 g4
  go_enter Try.func3, Try.ntmps3
  go_wp2_with fail
  refine (write_any A B N M ca cb zs ps W HN.out HM.out Hxn.out Hxm.out HA.out HB.out).mono ?_
  rintro e w1 ⟨hp, hb1⟩
  have Hb1 := Lib.hid hb1
  clear hb1
  rcases hp with ⟨hbad, rfl⟩ | ⟨hok, v1, rfl, hown⟩
  · generalize wrE zs ps = z at *
    have hz : (z == 0) = false := by simpa using hbad
    go_wp2_with fail
    refine (coded_any w1).mono ?_
    rintro e w2 ⟨rfl, hb2⟩
    have Hb2 := Lib.hid (stepN Hb1.out hb2)
    clear hb2
    go_wp2_with fail
    refine (coded_any w2).mono ?_
    rintro e w3 ⟨rfl, hb3⟩
    have Hb3 := Lib.hid (stepN Hb2.out hb3)
    clear hb3
    go_wp2_with fail
    go_ret
    exact ⟨rfl, Hb3.out⟩
  · obtain ⟨k1, k2, k3⟩ := back_ok zs ps hok
    rw [HM.out] at k2 k3
    obtain ⟨c0, c1, c2⟩ := wr_ok zs ps hok
    have Hnat := Lib.hid (nat_ints zs ps hok)
    obtain ⟨f1, f2, f3, f4, f5⟩ := chk_fine zs c0
    have F5 := Lib.hid f5
    have F4 := Lib.hid f4
    have C0 := Lib.hid c0
    have K2 := Lib.hid k2
    have K3 := Lib.hid k3
    have hM3 : M ≤ 3000 := by rw [← HM.out]; exact c1
    have hN288 : N ≤ 288 := by rw [← HN.out]; exact f1
    clear c0 c1 c2 f1 f2 f3 f4 f5 k2 k3 hok
    generalize hys : pack (wbits (lsOf zs) (lsOf ps)) = ys at *
    clear hys
    obtain ⟨D, cd, rfl, _, _, hD⟩ := own_bytes hown
    have HD := Lib.hid hD
    clear hown hD
    generalize hY : ys.length = Y at *
    have HY := Lib.hid hY
    clear hY
    go_wp2_with fail
    refine (coded_any w1).mono ?_
    rintro e w2 ⟨rfl, hb2⟩
    have Hb2 := Lib.hid (stepN Hb1.out hb2)
    have HD2 := Lib.hid (SlAt.below HD.out hb2)
    clear hb2
    have hno : ¬ (6000 < (Y : Int)) := by omega
    go_wp2_with fail
    refine (read_any A D N Y ca cd zs ys (M : Int) w2 HN.out HY.out Hxn.out (by unfold maxLen; omega) (HA.out.below Hb2.out) HD2.out).mono ?_
    rintro e w3 ⟨hp, hb3⟩
    rcases hp with ⟨hbad, _⟩ | ⟨_, v3, rfl, hown⟩
    · exact absurd K2.out hbad
    rw [K3.out, lsOf_len, HM.out, Hnat.out] at hown
    obtain ⟨E, ce, rfl, _, _, hE, _⟩ := own_slat hown
    have HE : Hid (InAt w3 E ps) := Lib.hid hE
    have Hb3 := Lib.hid (stepN Hb2.out hb3)
    clear hown hE hb3
    go_wp2_with fail
    refine (bcodes_any A N ca zs w3 HN.out Hxn.out (HA.out.below Hb3.out)).mono ?_
    rintro e w4 ⟨hp, hb4⟩
    rcases hp with ⟨hbad, _⟩ | ⟨_, g, rfl, _, hblk⟩
    · exact absurd C0.out hbad
    have Hb4 := Lib.hid (stepN Hb3.out hb4)
    have HE4 := Lib.hid (HE.out.below hb4)
    have Hblk := Lib.hid hblk
    clear hblk hb4
    go_wp2_with fail
    refine (equal_ints E B M M ce cb ps ps w4 HM.out HM.out Hxm.out Hxm.out HE4.out (HB.out.below Hb4.out)).mono ?_
    rintro e w5 ⟨rfl, d5, rfl⟩
    rw [show decide (ps = ps) = true from by simp]
    have HA5 : Hid (InAt (w4.drewN d5) A zs) := Lib.hid (SlAt.drewN (HA.out.below Hb4.out) d5)
    have Hblk5 := Lib.hid (Hblk.out.drewN d5)
    have Hb5 := Lib.hid (below_drewN' Hb4.out d5)
    clear Hblk Hb4 HE4 HE
    generalize w4.drewN d5 = w5 at *
    go_wp2_with fail
    go_loopw [66] (fun i wr => ∃ k : Nat, k ≤ N ∧ i = .int .i64 (k : Int) ∧ InAt wr A zs ∧ Blk wr g 3 (nats (codesL (lsOf zs))) ∧ Below W.heap.size W wr) (fun i _ => N - (intOf i).toNat)
    case atStart => exact ⟨0, Nat.zero_le _, rfl, HA5.out, Hblk5.out, Hb5.out⟩
    case round =>
      obtain ⟨i, hi, rfl, hA6, hblk6, hb6⟩ := hrel
      have HA6 := Lib.hid hA6
      have Hblk6 := Lib.hid hblk6
      have Hb6 := Lib.hid hb6
      clear hA6 hblk6 hb6
      by_cases hiN : i < N
      · have hil : i < zs.length := by rw [HN.out]; exact hiN
        obtain ⟨b, o, rfl, hci⟩ := HA6.out.get hil
        have hzi := F5.out zs[i] (List.getElem_mem hil)
        have Hdi := Lib.hid (getD_of zs i hil)
        generalize zs[i] = zi at *
        obtain ⟨x, hx⟩ := Int.eq_ofNat_of_zero_le hzi.1
        rw [hx, Int.toNat_natCast] at Hdi
        have Hx := Lib.hid hx
        clear hx
        go_wp2_with fail
        clear hci
        go_loopw [73] (fun i wr => ∃ k : Nat, k ≤ N ∧ i = .int .i64 (k : Int) ∧ InAt wr (some ⟨b, o, none⟩) zs ∧ Blk wr g 3 (nats (codesL (lsOf zs))) ∧ Below W.heap.size W wr) (fun i _ => N - (intOf i).toNat)
        case atStart => exact ⟨0, Nat.zero_le _, rfl, HA6.out, Hblk6.out, Hb6.out⟩
        case round =>
          obtain ⟨k, hk, rfl, hA7, hblk7, hb7⟩ := hrel
          have HA7 := Lib.hid hA7
          have Hblk7 := Lib.hid hblk7
          have Hb7 := Lib.hid hb7
          clear hA7 hblk7 hb7
          by_cases hkN : k < N
          · have hkl : k < zs.length := by rw [HN.out]; exact hkN
            obtain ⟨b', o', he, hck⟩ := HA7.out.get hkl
            injection he with he
            injection he with he1 he2
            subst he1 he2
            have hzk := F5.out zs[k] (List.getElem_mem hkl)
            have Hdk := Lib.hid (getD_of zs k hkl)
            generalize zs[k] = zk at *
            obtain ⟨y, hy⟩ := Int.eq_ofNat_of_zero_le hzk.1
            rw [hy, Int.toNat_natCast] at Hdk
            have Hy := Lib.hid hy
            clear hy
            have hkl2 : k < (lsOf zs).length := by rw [lsOf_len]; exact hkl
            have hil2 : i < (lsOf zs).length := by rw [lsOf_len]; exact hil
            have hcl : (codesL (lsOf zs)).length = (lsOf zs).length := by simp [codesL]
            have hcci : wr.cell? ⟨g, i, none⟩ = some (.int .i64 (codeOf (lsOf zs) i : Int)) := by rw [Hblk7.out.cell, nats_get _ _ (by rw [hcl]; exact hil2), codesL_get _ _ hil2]
            have hcck : wr.cell? ⟨g, k, none⟩ = some (.int .i64 (codeOf (lsOf zs) k : Int)) := by rw [Hblk7.out.cell, nats_get _ _ (by rw [hcl]; exact hkl2), codesL_get _ _ hkl2]
            have Hpf : Hid (i ≠ k → x ≠ 0 → x ≤ y → codeOf (lsOf zs) k / 2 ^ (y - x) ≠ codeOf (lsOf zs) i) := Lib.hid (fun a b c => by
              have := prefix_free (lsOf zs) i k hil2 hkl2 a (by rw [Hdi.out]; exact b) (by rw [Hdi.out, Hdk.out]; exact c)
              rw [Hdi.out, Hdk.out] at this; exact this)
            clear hcl hkl2 hil2
            generalize codeOf (lsOf zs) i = ci at *
            generalize codeOf (lsOf zs) k = ck at *
            by_cases e1 : i = k
            · have d1 : ((i : Int) != (k : Int)) = false := by simp; omega
              clear e1 hcci hcck
              go_wp2_with fail
              go_quiet (fail)
              go_wp2_with fail
              go_roundw
              case rel => exact ⟨k + 1, by omega, by go_num, HA7.out, Hblk7.out, below_drewN' Hb7.out _⟩
              case measure => simp [intOf]; omega
            · have d1 : ((i : Int) != (k : Int)) = true := by simp; omega
              by_cases e2 : x = 0
              · have d2 : decide ((0 : Int) < zi) = false := by have := Hx.out; simp; omega
                clear e1 e2 hcci hcck
                go_wp2_with fail
                go_quiet (fail)
                go_wp2_with fail
                go_roundw
                case rel => exact ⟨k + 1, by omega, by go_num, HA7.out, Hblk7.out, below_drewN' Hb7.out _⟩
                case measure => simp [intOf]; omega
              · have d2 : (0 : Int) < zi := by have := Hx.out; omega
                by_cases e3 : x ≤ y
                · have hq := Hpf.out e1 e2 e3
                  have d3 : zi ≤ zk := by have := Hx.out; have := Hy.out; omega
                  have hdd : zk - zi = ((y - x : Nat) : Int) := by have := Hx.out; have := Hy.out; omega
                  have hsh : (ck : Int) / 2 ^ (y - x) = ((ck / 2 ^ (y - x) : Nat) : Int) := by simp
                  generalize hd : y - x = dd at *
                  have hdb : dd ≤ 15 := by have := Hy.out; omega
                  generalize ck / 2 ^ dd = qq at *
                  have d4 : ((qq : Int) == (ci : Int)) = false := by simp; omega
                  clear e1 e2 e3 hq hd
                  generalize (ci : Int) = CI at *
                  generalize (ck : Int) = CK at *
                  generalize (qq : Int) = QQ at *
                  go_wp2_with fail
                  go_quiet (fail)
                  go_wp2_with fail
                  go_roundw
                  case rel => exact ⟨k + 1, by omega, by go_num, HA7.out, Hblk7.out, below_drewN' Hb7.out _⟩
                  case measure => simp [intOf]; omega
                · have d3 : decide (zi ≤ zk) = false := by have := Hx.out; have := Hy.out; simp; omega
                  clear e1 e2 e3 hcci hcck
                  go_wp2_with fail
                  go_quiet (fail)
                  go_wp2_with fail
                  go_roundw
                  case rel => exact ⟨k + 1, by omega, by go_num, HA7.out, Hblk7.out, below_drewN' Hb7.out _⟩
                  case measure => simp [intOf]; omega
          · obtain rfl : k = N := by omega
            go_wp2_with fail
            go_roundw
            case rel => exact ⟨i + 1, by omega, by go_num, HA7.out, Hblk7.out, Hb7.out⟩
            case measure => simp [intOf]; omega
      · obtain rfl : i = N := by omega
        go_wp2_with fail
        go_ret
        exact ⟨rfl, Hb6.out⟩
end Go.Proofs.Ytdponlnfdjfljaa.CodeBack
