/- reliquarylaw.BitsUnpack: the walk. -/
import Derived.Test.YtoncjlbgheaabaaUnpackAll
import Derived.Test.YtoncjlbgheaabaaRowS
import Derived.Test.YtoncjlbgheaabaaTurnS
import Derived.Test.YtoncjlbgheaabaaRowed
import Derived.Deep.DeepCutAuto
namespace Go.Proofs.Ytoncjlbgheaabaa.BitsUnpack
open Go Go.RowKit Go.Proofs.Ytoncjlbgheaabaa Go.Proofs.Ytoncjlbgheaabaa.Bits
set_option linter.unusedVariables false

abbrev Ints (w : World) (v : Value) (l : List Int) : Prop := IsL w intC wfI v l
theorem wrap_two (z : Nat) (h : z ≤ 16) : IntKind.i64.wrap ((2 : Int) ^ z) = (2 : Int) ^ z := by
  have : ∀ z : Fin 17, IntKind.i64.wrap ((2 : Int) ^ z.val) = 2 ^ z.val := by decide +kernel
  exact this ⟨z, by omega⟩
theorem flat_iv (l : List Int) : l.flatMap intC = l.map iv := by
  induction l with
  | nil => rfl
  | cons a l ih => rw [List.flatMap_cons, List.map_cons, ih]; rfl
theorem ints_at {w : World} {A : Option Addr} {l : List Int} (h : SlAt w A (l.flatMap intC)) : InAt w A l := by
  unfold InAt; rw [← flat_iv]; exact h
theorem strB_extract (l : List UInt8) (a b : Nat) : (strB l).extract a b = strB ((l.drop a).take (b - a)) := by
  apply ByteArray.ext
  simp [strB]
theorem rowS_take (l : List Bool) (x : Nat) : (rowS l).take x = rowS (l.take x) := by simp [rowS, List.map_take]
theorem rowS_drop (l : List Bool) (x : Nat) : (rowS l).drop x = rowS (l.drop x) := by simp [rowS, List.map_drop]
theorem fits_back (n size : Int) (h1 : ¬ size < 0) (h2 : ¬ 16 < size) (h3 : ¬ n < 0) (h : fits (n, size) = false) : ∃ m z : Nat, n = m ∧ size = z ∧ z ≤ 16 ∧ (2 : Int) ^ z ≤ (m : Int) := by
  obtain ⟨m, rfl⟩ := Int.eq_ofNat_of_zero_le (by omega : 0 ≤ n)
  obtain ⟨z, rfl⟩ := Int.eq_ofNat_of_zero_le (by omega : 0 ≤ size)
  refine ⟨m, z, rfl, rfl, by omega, ?_⟩
  simp only [fits, Int.toNat_natCast, Bool.and_eq_false_iff, decide_eq_false_iff_not] at h
  omega
theorem fits_ok (n size : Int) (h : fits (n, size) = true) : ∃ m z : Nat, n = m ∧ size = z ∧ z ≤ 16 ∧ (m : Int) < (2 : Int) ^ z := by
  simp only [fits, Bool.and_eq_true, decide_eq_true_eq] at h
  obtain ⟨⟨⟨h1, h2⟩, h3⟩, h4⟩ := h
  obtain ⟨m, rfl⟩ := Int.eq_ofNat_of_zero_le h3
  obtain ⟨z, rfl⟩ := Int.eq_ofNat_of_zero_le h1
  rw [Int.toNat_natCast] at h4
  exact ⟨m, z, rfl, rfl, by omega, h4⟩
set_option maxRecDepth 100000 in
set_option maxHeartbeats 8000000 in
theorem walk (W : World) (v0 : Value) (xs : List UInt8) (h0 : IsBytes W v0 xs) (v1 : Value) (zs : List Int) (h1 : Ints W v1 zs) (n : Int) (wn : wfI n) (size : Int) (ws : wfI size) :
    Calls Try.prog 12 #[v0, v1, .int .i64 n, .int .i64 size] W fun e W' => e = .returned (.bool true) ∧ Below W.heap.size W W' := by
  obtain ⟨A, cap, rfl, g1, g2, hA⟩ := h0
  obtain ⟨B, capB, rfl, g3, g4, hB, _, hz⟩ := h1
  have Hz := Lib.hid hz
  have HA := Lib.hid hA
  have HB := Lib.hid (ints_at hB)
  obtain ⟨N, hN⟩ : ∃ N, N = xs.length := ⟨_, rfl⟩
  obtain ⟨M, hM⟩ : ∃ M, M = zs.length := ⟨_, rfl⟩
  rw [← hN] at g1 ⊢
  rw [← hM] at g3 ⊢
  have HN := Lib.hid hN.symm
  have HM := Lib.hid hM.symm
  have Hxn : Hid (N ≤ maxLen) := Lib.hid (by omega)
  have Hxm : Hid (M ≤ maxLen) := Lib.hid (by omega)
  have hNb : N ≤ 9223372036854775807 := by have := Hxn.out; unfold maxLen at this; omega
  have hMb : M ≤ 9223372036854775807 := by have := Hxm.out; unfold maxLen at this; omega
  clear hz hA hB hN hM g1 g2 g3 g4 wn ws
  go_enter Try.func12, Try.ntmps12
  go_wp2_with fail
  refine (unpack_all A B N M cap capB xs zs W HN.out HM.out Hxn.out Hxm.out HA.out HB.out Hz.out).mono ?_
  rintro e w1 ⟨⟨A1, q, c1, c, rfl, hq, hc1, hU⟩, hb1⟩
  have HU := Lib.hid hU
  have Hb1 := Lib.hid hb1
  have hqb : q ≤ 9223372036854775807 := by unfold maxLen at hc1; omega
  clear hU hb1 hc1
  go_wp2_with fail
  refine (turn_any n size w1).mono ?_
  rintro e w2 ⟨ht, rfl⟩
  have hT : ∃ t f : Int, e = .returned (.tuple #[.int .i64 t, .int .i64 f]) ∧ (fits (n, size) = true ∧ t = (turned n.toNat size.toNat : Nat) ∧ f = 0 ∨ fits (n, size) = false ∧ t = 0 ∧ f = 3) := by
    rcases ht with ⟨a, rfl⟩ | ⟨a, rfl⟩
    · exact ⟨_, _, rfl, .inl ⟨a, rfl, rfl⟩⟩
    · exact ⟨_, _, rfl, .inr ⟨a, rfl, rfl⟩⟩
  obtain ⟨t, f, rfl, hT⟩ := hT
  have HT := Lib.hid hT
  clear ht hT
  go_wp2_with fail
  refine (rowed_any w1).mono ?_
  rintro e w3 ⟨rfl, hb3⟩
  have Hb3 := Lib.hid (stepN Hb1.out hb3)
  have Hb13 := Lib.hid hb3
  clear hb3
  go_upto_region 5 with fail
  go_cut [48] (fun s wx => s = .bool (!(fits (n, size))) ∧ wx = w3)
  case first =>
    by_cases f1 : size < 0
    · have Hf := Lib.hid (fits_no n size (.inl f1))
      go_wp2_with fail
      go_meet
      exact ⟨by rw [Hf.out]; rfl, rfl⟩
    · by_cases f2 : 16 < size
      · have Hf := Lib.hid (fits_no n size (.inr (.inl f2)))
        go_wp2_with fail
        go_meet
        exact ⟨by rw [Hf.out]; rfl, rfl⟩
      · by_cases f3 : n < 0
        · have Hf := Lib.hid (fits_no n size (.inr (.inr f3)))
          go_wp2_with fail
          go_meet
          exact ⟨by rw [Hf.out]; rfl, rfl⟩
        · cases hf : fits (n, size) with
          | true =>
            obtain ⟨m, z, rfl, rfl, hz, hlt⟩ := fits_ok n size hf
            have Hf := Lib.hid hf
            have hl2 : ¬ (IntKind.i64.wrap ((2 : Int) ^ z) ≤ (m : Int)) := by rw [wrap_two z hz]; omega
            clear hf hlt
            go_wp2_with fail
            go_meet
            exact ⟨by rw [Hf.out]; exact congrArg Value.bool (decide_eq_false (by have h := hl2; rw [IntWalk.i64_left] at h; omega)), rfl⟩
          | false =>
            obtain ⟨m, z, rfl, rfl, hz, hlt⟩ := fits_back n size f1 f2 f3 hf
            have Hf := Lib.hid hf
            have hl2 : IntKind.i64.wrap ((2 : Int) ^ z) ≤ (m : Int) := by rw [wrap_two z hz]; omega
            clear hf hlt
            go_wp2_with fail
            go_meet
            exact ⟨by rw [Hf.out]; exact congrArg Value.bool (decide_eq_true (by have h := hl2; rw [IntWalk.i64_left] at h; omega)), rfl⟩
  case rest =>
    obtain ⟨rfl, rfl⟩ := hcut
    cases hf : fits (n, size) with
    | false =>
      have hT := HT.out
      rw [hf] at hT
      obtain ⟨rfl, rfl⟩ : t = 0 ∧ f = 3 := by
        rcases hT with ⟨h, _⟩ | ⟨_, h⟩
        · cases h
        · exact h
      have HBw := Lib.hid Hb3.out
      have Hwc := Lib.hid Hb13.out
      clear HT hT hf Hb3 Hb13
      obtain ⟨w9, rfl⟩ : ∃ w9 : World, w9 = wc := ⟨_, rfl⟩
      rcases HU.out with ⟨hbig, rfl, rfl⟩ | ⟨hN6, hM3, ⟨hbad, rfl, rfl⟩ | ⟨hbad, hsum, rfl, rfl, hsl⟩ | ⟨hbad, hsum, rfl, rfl⟩⟩
      · rw [HN.out, HM.out] at hbig
        clear HU
        by_cases hb6 : 6000 < N
        · have hi : 6000 < (N : Int) := by omega
          clear hbig
          go_wp2_with fail
          go_ret
          exact ⟨rfl, HBw.out⟩
        · have hi : ¬ (6000 < (N : Int)) := by omega
          have hi2 : 3000 < (M : Int) := by omega
          clear hbig
          go_wp2_with fail
          go_ret
          exact ⟨rfl, HBw.out⟩
      · rw [HN.out] at hN6
        rw [HM.out] at hM3
        have Hbad := Lib.hid hbad
        clear HU hbad
        have hi : ¬ (6000 < (N : Int)) := by omega
        have hi2 : ¬ (3000 < (M : Int)) := by omega
        go_wp2_with fail
        go_loopw [83] (fun i wr => ∃ k : Nat, k ≤ M ∧ i = .int .i64 (k : Int) ∧ (zs.take k).any badSize = false ∧ wr = w9) (fun i _ => M - (intOf i).toNat)
        case atStart => exact ⟨0, Nat.zero_le _, rfl, rfl, rfl⟩
        case round =>
          obtain ⟨k, hk, rfl, htk, rfl⟩ := hrel
          have Htk := Lib.hid htk
          clear htk
          by_cases hlt : k < M
          · have hkl : k < zs.length := by rw [HM.out]; exact hlt
            obtain ⟨b, o, rfl, hc⟩ := (HB.out.below HBw.out).get hkl
            have Hnx : Hid (badSize zs[k] = false → (zs.take (k + 1)).any badSize = false) := Lib.hid (fun h => by rw [take_snoc _ _ hkl, List.any_append, Htk.out]; simp [h])
            by_cases hz1 : zs[k] < 0
            · clear Hnx
              generalize zs[k] = z0 at *
              go_wp2_with fail
              go_ret
              exact ⟨rfl, HBw.out⟩
            · by_cases hz2 : 16 < zs[k]
              · clear Hnx
                generalize zs[k] = z0 at *
                go_wp2_with fail
                go_ret
                exact ⟨rfl, HBw.out⟩
              · have Hs := Lib.hid (Hnx.out (by simp [badSize]; omega))
                clear Hnx
                generalize zs[k] = z0 at *
                go_wp2_with fail
                go_roundw
                case rel => exact ⟨k + 1, by omega, by go_num, Hs.out, trivial⟩
                case measure => simp [intOf]; omega
          · obtain rfl : k = M := by omega
            have h1 := Htk.out
            rw [List.take_of_length_le (by rw [HM.out]; omega), Hbad.out] at h1
            cases h1
      · rw [HN.out] at hN6
        rw [HM.out] at hM3
        have Hbad := Lib.hid hbad
        have Hsum' := Lib.hid hsum
        have Hsl' := Lib.hid hsl
        rw [HM.out] at hq hqb ⊢
        rw [HN.out] at Hsum'
        clear HU hbad hsum hsl
        have hi : ¬ (6000 < (N : Int)) := by omega
        have hi2 : ¬ (3000 < (M : Int)) := by omega
        go_wp2_with fail
        go_loopw [83] (fun i wr => ∃ k : Nat, k ≤ M ∧ i = .int .i64 (k : Int) ∧ wr = w9) (fun i _ => M - (intOf i).toNat)
        case atStart => exact ⟨0, Nat.zero_le _, rfl, rfl⟩
        case round =>
          obtain ⟨k, hk, rfl, rfl⟩ := hrel
          by_cases hlt : k < M
          · have hkl : k < zs.length := by rw [HM.out]; exact hlt
            obtain ⟨b, o, rfl, hc⟩ := (HB.out.below HBw.out).get hkl
            have hz0 : badSize zs[k] = false := by
              have := Hbad.out
              rw [List.any_eq_false] at this
              simpa using this zs[k] (List.getElem_mem hkl)
            have hz1 : ¬ zs[k] < 0 := by simp [badSize] at hz0; omega
            have hz2 : ¬ 16 < zs[k] := by simp [badSize] at hz0; omega
            clear hz0
            generalize zs[k] = z0 at *
            go_wp2_with fail
            go_roundw
            case rel => exact ⟨k + 1, by omega, by go_num, trivial⟩
            case measure => simp [intOf]; omega
          · obtain rfl : k = M := by omega
            clear hlt hk
            go_wp2_with fail
            refine (rowOf_any A N cap xs _ HN.out (by omega) (SlAt.below HA.out HBw.out)).mono ?_
            rintro e w10 ⟨rfl, hb10⟩
            have HB10 := Lib.hid (stepN HBw.out hb10)
            have Hc10 := Lib.hid (stepN Hwc.out hb10)
            clear hb10
            have Hbl := Lib.hid (bitsL_length xs)
            rw [HN.out] at Hbl
            go_wp2_with fail
            go_loopw [15, 16, 105] (fun r v i wr => ∃ V : Value, V = v ∧ ∃ j : Nat, j ≤ k ∧ i = .int .i64 (j : Int) ∧ ((zs.map Int.toNat).take j).sum ≤ 8 * N ∧ r = rowV ((bitsL xs).drop ((zs.map Int.toNat).take j).sum) ∧ wr.ownsRow w10.heap.size 3 1 V j ((unpackL (bitsL xs) ((zs.map Int.toNat).take j)).map natV) ∧ Below w10.heap.size w10 wr) (fun _ _ i _ => k - (intOf i).toNat)
            case atStart => exact ⟨_, rfl, 0, Nat.zero_le _, rfl, by simp, by simp, World.ownsRow_nil _ _ _ _, Below.refl _ _⟩
            case round =>
              obtain ⟨v, rfl, j, hj, rfl, hsj, rfl, hoj, hbj⟩ := hrel
              have Hoj := Lib.hid hoj
              have Hbj := Lib.hid hbj
              have Hsj := Lib.hid hsj
              clear hoj hbj hsj
              by_cases hlt : j < k
              · have hjl : j < zs.length := by rw [HM.out]; exact hlt
                have hjt : j < (zs.map Int.toNat).length := by simpa using hjl
                obtain ⟨b, o, rfl, hc⟩ := (HB.out.below (stepN HB10.out Hbj.out)).get hjl
                have hz0 : badSize zs[j] = false := by
                  have := Hbad.out
                  rw [List.any_eq_false] at this
                  simpa using this zs[j] (List.getElem_mem hjl)
                have hzb : 0 ≤ zs[j] ∧ zs[j] ≤ 16 := by simp [badSize] at hz0; omega
                have Hsum := Lib.hid (show ((zs.map Int.toNat).take (j + 1)).sum = ((zs.map Int.toNat).take j).sum + zs[j].toNat by rw [take_snoc _ _ hjt]; simp)
                have Hun := Lib.hid (show unpackL (bitsL xs) ((zs.map Int.toNat).take (j + 1)) = unpackL (bitsL xs) ((zs.map Int.toNat).take j) ++ [num (((bitsL xs).drop ((zs.map Int.toNat).take j).sum).take zs[j].toNat)] by rw [take_snoc _ _ hjt, unpackL_snoc]; simp)
                have Hle := Lib.hid (sum_take_le' (zs.map Int.toNat) (j + 1))
                clear hz0
                generalize zs[j] = z0 at *
                obtain ⟨x, rfl⟩ := Int.eq_ofNat_of_zero_le hzb.1
                have hx16 : x ≤ 16 := by omega
                clear hzb
                rw [Int.toNat_natCast] at Hsum Hun
                generalize ((zs.map Int.toNat).take j).sum = pos at *
                have hpos : pos ≤ 8 * N := Hsj.out
                have Hdl : Hid (((bitsL xs).drop pos).length = 8 * N - pos) := Lib.hid (by rw [List.length_drop, Hbl.out])
                have Hdd : Hid (((bitsL xs).drop pos).drop x = (bitsL xs).drop (pos + x)) := Lib.hid (by rw [List.drop_drop])
                generalize hrow : (bitsL xs).drop pos = row at *
                have Hrow := Lib.hid hrow
                clear hrow
                have Hsz := Lib.hid (show (strB (rowS row)).size = row.length by rw [strB_size, rowS_length])
                unfold rowV
                by_cases hfit : x ≤ row.length
                · have hfs : x ≤ (strB (rowS row)).size := by rw [Hsz.out]; exact hfit
                  have hsb : (strB (rowS row)).size ≤ 48000 := by rw [Hsz.out, Hdl.out]; omega
                  have hx1 := strB_extract (rowS row) 0 x
                  rw [Nat.sub_zero, List.drop_zero, rowS_take] at hx1
                  have Hx1 := Lib.hid hx1
                  have Hx2 : Hid ((strB (rowS row)).extract x (strB (rowS row)).size = strB (rowS (row.drop x))) := Lib.hid (by
                    rw [strB_extract, rowS_drop, Hsz.out, List.take_of_length_le (by rw [rowS_length, List.length_drop]; omega)])
                  clear hx1
                  go_wp2_with fail
                  rw [Hx1.out]
                  refine (ofNumber_any (row.take x) wr (by simp; omega)).mono ?_
                  rintro e w11 ⟨rfl, rfl⟩
                  have hnb : num (row.take x) < 65536 := by
                    have h1 := num_lt (row.take x)
                    have h2 : (row.take x).length ≤ 16 := by simp; omega
                    have h3 : 2 ^ (row.take x).length ≤ 2 ^ 16 := Nat.pow_le_pow_right (by omega) h2
                    omega
                  generalize num (row.take x) = y at *
                  have Hone := Lib.hid (slat_one w11 3 (.int .i64 (y : Int)))
                  have Hown4 := Lib.hid (Hoj.out.alloc (.cells #[.int .i64 (y : Int)] 3))
                  have Hb4 := Lib.hid (Hbj.out.alloc Hbj.out.size (.cells #[.int .i64 (y : Int)] 3))
                  go_wp2_with (at_builtin; refine wpList_appb rfl (.tmp 120) (.tmp 125) _ rfl 3 _ 1 8 tyI _ j _ rfl Hown4.out Hb4.out (some ⟨w11.heap.size, 0, none⟩) 1 1 [.int .i64 (y : Int)] rfl rfl Hone.out (by simp [Value.oneCell']) (by simp) (by unfold maxLen; omega) (by omega) ?_; intro v5 w5 hown5 hb5 hg5 _; have Ho5 := Lib.hid hown5; have Hb5 := Lib.hid hb5; clear hown5 hb5 hg5)
                  go_roundw
                  case rel => exact ⟨_, rfl, j + 1, by omega, by go_num, by rw [Hsum.out]; have := Hdl.out; omega, by rw [Hsum.out, ← Hdd.out, Hx2.out], by rw [Hun.out, List.map_append]; exact Ho5.out, Hb5.out⟩
                  case measure => simp [intOf]; omega
                · have hfs : ¬ x ≤ (strB (rowS row)).size := by rw [Hsz.out]; exact hfit
                  have hsb : (strB (rowS row)).size ≤ 48000 := by rw [Hsz.out, Hdl.out]; omega
                  exact absurd (Nat.le_trans Hle.out (by have := Hsum'.out; omega)) (by rw [Hsum.out]; have := Hdl.out; omega)
              · obtain rfl : j = k := by omega
                have Hall := Lib.hid (show (zs.map Int.toNat).take j = zs.map Int.toNat from List.take_of_length_le (by rw [List.length_map, HM.out]; omega))
                have hoj := Hoj.out
                rw [Hall.out] at hoj
                obtain ⟨A5, c5, rfl, f1, f2, hA5, _⟩ := own_slat hoj
                have HA5 := Lib.hid hA5
                have HA1 := Lib.hid (SlAt.below Hsl'.out (stepN Hc10.out Hbj.out))
                have HBe := Lib.hid (stepN HB10.out Hbj.out)
                have Hul : Hid ((unpackL (bitsL xs) (zs.map Int.toNat)).length = j) := Lib.hid (by rw [unpackL_length, List.length_map, HM.out])
                clear hoj hA5
                generalize unpackL (bitsL xs) (zs.map Int.toNat) = us at *
                go_wp2_with fail
                refine (equal_ints A1 A5 j j c1 c5 (us.map fun (n : Nat) => (n : Int)) (us.map fun (n : Nat) => (n : Int)) _ (by rw [List.length_map, Hul.out]) (by rw [List.length_map, Hul.out]) (by unfold maxLen; omega) (by unfold maxLen; omega) (slat_nat HA1.out rfl) (slat_nat HA5.out rfl)).mono ?_
                rintro e w12 ⟨rfl, d, rfl⟩
                rw [show decide ((us.map fun (n : Nat) => (n : Int)) = (us.map fun (n : Nat) => (n : Int))) = true from by simp]
                go_wp2_with fail
                go_ret
                exact ⟨rfl, below_drewN' HBe.out d⟩
      · rw [HN.out] at hN6
        rw [HM.out] at hM3
        have Hbad := Lib.hid hbad
        have Hsum' := Lib.hid hsum
        rw [HN.out] at Hsum'
        clear HU hbad hsum
        have hi : ¬ (6000 < (N : Int)) := by omega
        have hi2 : ¬ (3000 < (M : Int)) := by omega
        go_wp2_with fail
        go_loopw [83] (fun i wr => ∃ k : Nat, k ≤ M ∧ i = .int .i64 (k : Int) ∧ wr = w9) (fun i _ => M - (intOf i).toNat)
        case atStart => exact ⟨0, Nat.zero_le _, rfl, rfl⟩
        case round =>
          obtain ⟨k, hk, rfl, rfl⟩ := hrel
          by_cases hlt : k < M
          · have hkl : k < zs.length := by rw [HM.out]; exact hlt
            obtain ⟨b, o, rfl, hc⟩ := (HB.out.below HBw.out).get hkl
            have hz0 : badSize zs[k] = false := by
              have := Hbad.out
              rw [List.any_eq_false] at this
              simpa using this zs[k] (List.getElem_mem hkl)
            have hz1 : ¬ zs[k] < 0 := by simp [badSize] at hz0; omega
            have hz2 : ¬ 16 < zs[k] := by simp [badSize] at hz0; omega
            clear hz0
            generalize zs[k] = z0 at *
            go_wp2_with fail
            go_roundw
            case rel => exact ⟨k + 1, by omega, by go_num, trivial⟩
            case measure => simp [intOf]; omega
          · obtain rfl : k = M := by omega
            clear hlt hk
            go_wp2_with fail
            refine (rowOf_any A N cap xs _ HN.out (by omega) (SlAt.below HA.out HBw.out)).mono ?_
            rintro e w10 ⟨rfl, hb10⟩
            have HB10 := Lib.hid (stepN HBw.out hb10)
            have Hc10 := Lib.hid (stepN Hwc.out hb10)
            clear hb10
            have Hbl := Lib.hid (bitsL_length xs)
            rw [HN.out] at Hbl
            go_wp2_with fail
            go_loopw [15, 16, 105] (fun r v i wr => ∃ V : Value, V = v ∧ ∃ j : Nat, j ≤ k ∧ i = .int .i64 (j : Int) ∧ ((zs.map Int.toNat).take j).sum ≤ 8 * N ∧ r = rowV ((bitsL xs).drop ((zs.map Int.toNat).take j).sum) ∧ wr.ownsRow w10.heap.size 3 1 V j ((unpackL (bitsL xs) ((zs.map Int.toNat).take j)).map natV) ∧ Below w10.heap.size w10 wr) (fun _ _ i _ => k - (intOf i).toNat)
            case atStart => exact ⟨_, rfl, 0, Nat.zero_le _, rfl, by simp, by simp, World.ownsRow_nil _ _ _ _, Below.refl _ _⟩
            case round =>
              obtain ⟨v, rfl, j, hj, rfl, hsj, rfl, hoj, hbj⟩ := hrel
              have Hoj := Lib.hid hoj
              have Hbj := Lib.hid hbj
              have Hsj := Lib.hid hsj
              clear hoj hbj hsj
              by_cases hlt : j < k
              · have hjl : j < zs.length := by rw [HM.out]; exact hlt
                have hjt : j < (zs.map Int.toNat).length := by simpa using hjl
                obtain ⟨b, o, rfl, hc⟩ := (HB.out.below (stepN HB10.out Hbj.out)).get hjl
                have hz0 : badSize zs[j] = false := by
                  have := Hbad.out
                  rw [List.any_eq_false] at this
                  simpa using this zs[j] (List.getElem_mem hjl)
                have hzb : 0 ≤ zs[j] ∧ zs[j] ≤ 16 := by simp [badSize] at hz0; omega
                have Hsum := Lib.hid (show ((zs.map Int.toNat).take (j + 1)).sum = ((zs.map Int.toNat).take j).sum + zs[j].toNat by rw [take_snoc _ _ hjt]; simp)
                have Hun := Lib.hid (show unpackL (bitsL xs) ((zs.map Int.toNat).take (j + 1)) = unpackL (bitsL xs) ((zs.map Int.toNat).take j) ++ [num (((bitsL xs).drop ((zs.map Int.toNat).take j).sum).take zs[j].toNat)] by rw [take_snoc _ _ hjt, unpackL_snoc]; simp)
                have Hle := Lib.hid (sum_take_le' (zs.map Int.toNat) (j + 1))
                clear hz0
                generalize zs[j] = z0 at *
                obtain ⟨x, rfl⟩ := Int.eq_ofNat_of_zero_le hzb.1
                have hx16 : x ≤ 16 := by omega
                clear hzb
                rw [Int.toNat_natCast] at Hsum Hun
                generalize ((zs.map Int.toNat).take j).sum = pos at *
                have hpos : pos ≤ 8 * N := Hsj.out
                have Hdl : Hid (((bitsL xs).drop pos).length = 8 * N - pos) := Lib.hid (by rw [List.length_drop, Hbl.out])
                have Hdd : Hid (((bitsL xs).drop pos).drop x = (bitsL xs).drop (pos + x)) := Lib.hid (by rw [List.drop_drop])
                generalize hrow : (bitsL xs).drop pos = row at *
                have Hrow := Lib.hid hrow
                clear hrow
                have Hsz := Lib.hid (show (strB (rowS row)).size = row.length by rw [strB_size, rowS_length])
                unfold rowV
                by_cases hfit : x ≤ row.length
                · have hfs : x ≤ (strB (rowS row)).size := by rw [Hsz.out]; exact hfit
                  have hsb : (strB (rowS row)).size ≤ 48000 := by rw [Hsz.out, Hdl.out]; omega
                  have hx1 := strB_extract (rowS row) 0 x
                  rw [Nat.sub_zero, List.drop_zero, rowS_take] at hx1
                  have Hx1 := Lib.hid hx1
                  have Hx2 : Hid ((strB (rowS row)).extract x (strB (rowS row)).size = strB (rowS (row.drop x))) := Lib.hid (by
                    rw [strB_extract, rowS_drop, Hsz.out, List.take_of_length_le (by rw [rowS_length, List.length_drop]; omega)])
                  clear hx1
                  go_wp2_with fail
                  rw [Hx1.out]
                  refine (ofNumber_any (row.take x) wr (by simp; omega)).mono ?_
                  rintro e w11 ⟨rfl, rfl⟩
                  have hnb : num (row.take x) < 65536 := by
                    have h1 := num_lt (row.take x)
                    have h2 : (row.take x).length ≤ 16 := by simp; omega
                    have h3 : 2 ^ (row.take x).length ≤ 2 ^ 16 := Nat.pow_le_pow_right (by omega) h2
                    omega
                  generalize num (row.take x) = y at *
                  have Hone := Lib.hid (slat_one w11 3 (.int .i64 (y : Int)))
                  have Hown4 := Lib.hid (Hoj.out.alloc (.cells #[.int .i64 (y : Int)] 3))
                  have Hb4 := Lib.hid (Hbj.out.alloc Hbj.out.size (.cells #[.int .i64 (y : Int)] 3))
                  go_wp2_with (at_builtin; refine wpList_appb rfl (.tmp 120) (.tmp 125) _ rfl 3 _ 1 8 tyI _ j _ rfl Hown4.out Hb4.out (some ⟨w11.heap.size, 0, none⟩) 1 1 [.int .i64 (y : Int)] rfl rfl Hone.out (by simp [Value.oneCell']) (by simp) (by unfold maxLen; omega) (by omega) ?_; intro v5 w5 hown5 hb5 hg5 _; have Ho5 := Lib.hid hown5; have Hb5 := Lib.hid hb5; clear hown5 hb5 hg5)
                  go_roundw
                  case rel => exact ⟨_, rfl, j + 1, by omega, by go_num, by rw [Hsum.out]; have := Hdl.out; omega, by rw [Hsum.out, ← Hdd.out, Hx2.out], by rw [Hun.out, List.map_append]; exact Ho5.out, Hb5.out⟩
                  case measure => simp [intOf]; omega
                · have hfs : ¬ x ≤ (strB (rowS row)).size := by rw [Hsz.out]; exact hfit
                  have hsb : (strB (rowS row)).size ≤ 48000 := by rw [Hsz.out, Hdl.out]; omega
                  go_wp2_with fail
                  go_ret
                  exact ⟨rfl, (stepN HB10.out Hbj.out)⟩
              · obtain rfl : j = k := by omega
                have h1 := Hsj.out
                rw [List.take_of_length_le (by rw [List.length_map, HM.out]; omega)] at h1
                exact absurd h1 (by have := Hsum'.out; omega)
    | true =>
      obtain ⟨m, z, rfl, rfl, hz, hlt⟩ := fits_ok n size hf
      have hT := HT.out
      rw [hf] at hT
      obtain ⟨rfl, rfl⟩ : t = (turned (m : Int).toNat (z : Int).toNat : Nat) ∧ f = 0 := by
        rcases hT with ⟨_, h⟩ | ⟨h, _⟩
        · exact h
        · cases h
      have hm : m < 65536 := by
        have h2 : (2 : Nat) ^ z ≤ 2 ^ 16 := Nat.pow_le_pow_right (by omega) hz
        have h3 : ((2 ^ z : Nat) : Int) = (2 : Int) ^ z := by simp
        omega
      clear HT hT hf hlt
      rw [Int.toNat_natCast, Int.toNat_natCast]
      go_wp2_with fail
      refine (number_any m z _ (by omega) (by omega)).mono ?_
      rintro e w4 ⟨rfl, hb4⟩
      have hlen := numBits_length m z
      have Hlen := Lib.hid hlen
      go_wp2_with fail
      refine (turnedS_any (numBits m z) w4 (by omega)).mono ?_
      rintro e w5 ⟨rfl, hb5⟩
      go_wp2_with fail
      refine (ofNumber_any (numBits m z).reverse w5 (by simp; omega)).mono ?_
      rintro e w9 ⟨rfl, rfl⟩
      have HBw := Lib.hid (stepN (stepN Hb3.out hb4) hb5)
      have Hwc := Lib.hid (stepN (stepN Hb13.out hb4) hb5)
      have he : (((turned m z : Nat) : Int) != ((num (numBits m z).reverse : Nat) : Int)) = false := by unfold turned; simp
      clear hb4 hb5 hlen Hb3 Hb13
      generalize turned m z = tt at *
      generalize num (numBits m z).reverse = nn at *
      rcases HU.out with ⟨hbig, rfl, rfl⟩ | ⟨hN6, hM3, ⟨hbad, rfl, rfl⟩ | ⟨hbad, hsum, rfl, rfl, hsl⟩ | ⟨hbad, hsum, rfl, rfl⟩⟩
      · rw [HN.out, HM.out] at hbig
        clear HU
        by_cases hb6 : 6000 < N
        · have hi : 6000 < (N : Int) := by omega
          clear hbig
          go_wp2_with fail
          go_ret
          exact ⟨rfl, HBw.out⟩
        · have hi : ¬ (6000 < (N : Int)) := by omega
          have hi2 : 3000 < (M : Int) := by omega
          clear hbig
          go_wp2_with fail
          go_ret
          exact ⟨rfl, HBw.out⟩
      · rw [HN.out] at hN6
        rw [HM.out] at hM3
        have Hbad := Lib.hid hbad
        clear HU hbad
        have hi : ¬ (6000 < (N : Int)) := by omega
        have hi2 : ¬ (3000 < (M : Int)) := by omega
        go_wp2_with fail
        go_loopw [83] (fun i wr => ∃ k : Nat, k ≤ M ∧ i = .int .i64 (k : Int) ∧ (zs.take k).any badSize = false ∧ wr = w9) (fun i _ => M - (intOf i).toNat)
        case atStart => exact ⟨0, Nat.zero_le _, rfl, rfl, rfl⟩
        case round =>
          obtain ⟨k, hk, rfl, htk, rfl⟩ := hrel
          have Htk := Lib.hid htk
          clear htk
          by_cases hlt : k < M
          · have hkl : k < zs.length := by rw [HM.out]; exact hlt
            obtain ⟨b, o, rfl, hc⟩ := (HB.out.below HBw.out).get hkl
            have Hnx : Hid (badSize zs[k] = false → (zs.take (k + 1)).any badSize = false) := Lib.hid (fun h => by rw [take_snoc _ _ hkl, List.any_append, Htk.out]; simp [h])
            by_cases hz1 : zs[k] < 0
            · clear Hnx
              generalize zs[k] = z0 at *
              go_wp2_with fail
              go_ret
              exact ⟨rfl, HBw.out⟩
            · by_cases hz2 : 16 < zs[k]
              · clear Hnx
                generalize zs[k] = z0 at *
                go_wp2_with fail
                go_ret
                exact ⟨rfl, HBw.out⟩
              · have Hs := Lib.hid (Hnx.out (by simp [badSize]; omega))
                clear Hnx
                generalize zs[k] = z0 at *
                go_wp2_with fail
                go_roundw
                case rel => exact ⟨k + 1, by omega, by go_num, Hs.out, trivial⟩
                case measure => simp [intOf]; omega
          · obtain rfl : k = M := by omega
            have h1 := Htk.out
            rw [List.take_of_length_le (by rw [HM.out]; omega), Hbad.out] at h1
            cases h1
      · rw [HN.out] at hN6
        rw [HM.out] at hM3
        have Hbad := Lib.hid hbad
        have Hsum' := Lib.hid hsum
        have Hsl' := Lib.hid hsl
        rw [HM.out] at hq hqb ⊢
        rw [HN.out] at Hsum'
        clear HU hbad hsum hsl
        have hi : ¬ (6000 < (N : Int)) := by omega
        have hi2 : ¬ (3000 < (M : Int)) := by omega
        go_wp2_with fail
        go_loopw [83] (fun i wr => ∃ k : Nat, k ≤ M ∧ i = .int .i64 (k : Int) ∧ wr = w9) (fun i _ => M - (intOf i).toNat)
        case atStart => exact ⟨0, Nat.zero_le _, rfl, rfl⟩
        case round =>
          obtain ⟨k, hk, rfl, rfl⟩ := hrel
          by_cases hlt : k < M
          · have hkl : k < zs.length := by rw [HM.out]; exact hlt
            obtain ⟨b, o, rfl, hc⟩ := (HB.out.below HBw.out).get hkl
            have hz0 : badSize zs[k] = false := by
              have := Hbad.out
              rw [List.any_eq_false] at this
              simpa using this zs[k] (List.getElem_mem hkl)
            have hz1 : ¬ zs[k] < 0 := by simp [badSize] at hz0; omega
            have hz2 : ¬ 16 < zs[k] := by simp [badSize] at hz0; omega
            clear hz0
            generalize zs[k] = z0 at *
            go_wp2_with fail
            go_roundw
            case rel => exact ⟨k + 1, by omega, by go_num, trivial⟩
            case measure => simp [intOf]; omega
          · obtain rfl : k = M := by omega
            clear hlt hk
            go_wp2_with fail
            refine (rowOf_any A N cap xs _ HN.out (by omega) (SlAt.below HA.out HBw.out)).mono ?_
            rintro e w10 ⟨rfl, hb10⟩
            have HB10 := Lib.hid (stepN HBw.out hb10)
            have Hc10 := Lib.hid (stepN Hwc.out hb10)
            clear hb10
            have Hbl := Lib.hid (bitsL_length xs)
            rw [HN.out] at Hbl
            go_wp2_with fail
            go_loopw [15, 16, 105] (fun r v i wr => ∃ V : Value, V = v ∧ ∃ j : Nat, j ≤ k ∧ i = .int .i64 (j : Int) ∧ ((zs.map Int.toNat).take j).sum ≤ 8 * N ∧ r = rowV ((bitsL xs).drop ((zs.map Int.toNat).take j).sum) ∧ wr.ownsRow w10.heap.size 3 1 V j ((unpackL (bitsL xs) ((zs.map Int.toNat).take j)).map natV) ∧ Below w10.heap.size w10 wr) (fun _ _ i _ => k - (intOf i).toNat)
            case atStart => exact ⟨_, rfl, 0, Nat.zero_le _, rfl, by simp, by simp, World.ownsRow_nil _ _ _ _, Below.refl _ _⟩
            case round =>
              obtain ⟨v, rfl, j, hj, rfl, hsj, rfl, hoj, hbj⟩ := hrel
              have Hoj := Lib.hid hoj
              have Hbj := Lib.hid hbj
              have Hsj := Lib.hid hsj
              clear hoj hbj hsj
              by_cases hlt : j < k
              · have hjl : j < zs.length := by rw [HM.out]; exact hlt
                have hjt : j < (zs.map Int.toNat).length := by simpa using hjl
                obtain ⟨b, o, rfl, hc⟩ := (HB.out.below (stepN HB10.out Hbj.out)).get hjl
                have hz0 : badSize zs[j] = false := by
                  have := Hbad.out
                  rw [List.any_eq_false] at this
                  simpa using this zs[j] (List.getElem_mem hjl)
                have hzb : 0 ≤ zs[j] ∧ zs[j] ≤ 16 := by simp [badSize] at hz0; omega
                have Hsum := Lib.hid (show ((zs.map Int.toNat).take (j + 1)).sum = ((zs.map Int.toNat).take j).sum + zs[j].toNat by rw [take_snoc _ _ hjt]; simp)
                have Hun := Lib.hid (show unpackL (bitsL xs) ((zs.map Int.toNat).take (j + 1)) = unpackL (bitsL xs) ((zs.map Int.toNat).take j) ++ [num (((bitsL xs).drop ((zs.map Int.toNat).take j).sum).take zs[j].toNat)] by rw [take_snoc _ _ hjt, unpackL_snoc]; simp)
                have Hle := Lib.hid (sum_take_le' (zs.map Int.toNat) (j + 1))
                clear hz0
                generalize zs[j] = z0 at *
                obtain ⟨x, rfl⟩ := Int.eq_ofNat_of_zero_le hzb.1
                have hx16 : x ≤ 16 := by omega
                clear hzb
                rw [Int.toNat_natCast] at Hsum Hun
                generalize ((zs.map Int.toNat).take j).sum = pos at *
                have hpos : pos ≤ 8 * N := Hsj.out
                have Hdl : Hid (((bitsL xs).drop pos).length = 8 * N - pos) := Lib.hid (by rw [List.length_drop, Hbl.out])
                have Hdd : Hid (((bitsL xs).drop pos).drop x = (bitsL xs).drop (pos + x)) := Lib.hid (by rw [List.drop_drop])
                generalize hrow : (bitsL xs).drop pos = row at *
                have Hrow := Lib.hid hrow
                clear hrow
                have Hsz := Lib.hid (show (strB (rowS row)).size = row.length by rw [strB_size, rowS_length])
                unfold rowV
                by_cases hfit : x ≤ row.length
                · have hfs : x ≤ (strB (rowS row)).size := by rw [Hsz.out]; exact hfit
                  have hsb : (strB (rowS row)).size ≤ 48000 := by rw [Hsz.out, Hdl.out]; omega
                  have hx1 := strB_extract (rowS row) 0 x
                  rw [Nat.sub_zero, List.drop_zero, rowS_take] at hx1
                  have Hx1 := Lib.hid hx1
                  have Hx2 : Hid ((strB (rowS row)).extract x (strB (rowS row)).size = strB (rowS (row.drop x))) := Lib.hid (by
                    rw [strB_extract, rowS_drop, Hsz.out, List.take_of_length_le (by rw [rowS_length, List.length_drop]; omega)])
                  clear hx1
                  go_wp2_with fail
                  rw [Hx1.out]
                  refine (ofNumber_any (row.take x) wr (by simp; omega)).mono ?_
                  rintro e w11 ⟨rfl, rfl⟩
                  have hnb : num (row.take x) < 65536 := by
                    have h1 := num_lt (row.take x)
                    have h2 : (row.take x).length ≤ 16 := by simp; omega
                    have h3 : 2 ^ (row.take x).length ≤ 2 ^ 16 := Nat.pow_le_pow_right (by omega) h2
                    omega
                  generalize num (row.take x) = y at *
                  have Hone := Lib.hid (slat_one w11 3 (.int .i64 (y : Int)))
                  have Hown4 := Lib.hid (Hoj.out.alloc (.cells #[.int .i64 (y : Int)] 3))
                  have Hb4 := Lib.hid (Hbj.out.alloc Hbj.out.size (.cells #[.int .i64 (y : Int)] 3))
                  go_wp2_with (at_builtin; refine wpList_appb rfl (.tmp 120) (.tmp 125) _ rfl 3 _ 1 8 tyI _ j _ rfl Hown4.out Hb4.out (some ⟨w11.heap.size, 0, none⟩) 1 1 [.int .i64 (y : Int)] rfl rfl Hone.out (by simp [Value.oneCell']) (by simp) (by unfold maxLen; omega) (by omega) ?_; intro v5 w5 hown5 hb5 hg5 _; have Ho5 := Lib.hid hown5; have Hb5 := Lib.hid hb5; clear hown5 hb5 hg5)
                  go_roundw
                  case rel => exact ⟨_, rfl, j + 1, by omega, by go_num, by rw [Hsum.out]; have := Hdl.out; omega, by rw [Hsum.out, ← Hdd.out, Hx2.out], by rw [Hun.out, List.map_append]; exact Ho5.out, Hb5.out⟩
                  case measure => simp [intOf]; omega
                · have hfs : ¬ x ≤ (strB (rowS row)).size := by rw [Hsz.out]; exact hfit
                  have hsb : (strB (rowS row)).size ≤ 48000 := by rw [Hsz.out, Hdl.out]; omega
                  exact absurd (Nat.le_trans Hle.out (by have := Hsum'.out; omega)) (by rw [Hsum.out]; have := Hdl.out; omega)
              · obtain rfl : j = k := by omega
                have Hall := Lib.hid (show (zs.map Int.toNat).take j = zs.map Int.toNat from List.take_of_length_le (by rw [List.length_map, HM.out]; omega))
                have hoj := Hoj.out
                rw [Hall.out] at hoj
                obtain ⟨A5, c5, rfl, f1, f2, hA5, _⟩ := own_slat hoj
                have HA5 := Lib.hid hA5
                have HA1 := Lib.hid (SlAt.below Hsl'.out (stepN Hc10.out Hbj.out))
                have HBe := Lib.hid (stepN HB10.out Hbj.out)
                have Hul : Hid ((unpackL (bitsL xs) (zs.map Int.toNat)).length = j) := Lib.hid (by rw [unpackL_length, List.length_map, HM.out])
                clear hoj hA5
                generalize unpackL (bitsL xs) (zs.map Int.toNat) = us at *
                go_wp2_with fail
                refine (equal_ints A1 A5 j j c1 c5 (us.map fun (n : Nat) => (n : Int)) (us.map fun (n : Nat) => (n : Int)) _ (by rw [List.length_map, Hul.out]) (by rw [List.length_map, Hul.out]) (by unfold maxLen; omega) (by unfold maxLen; omega) (slat_nat HA1.out rfl) (slat_nat HA5.out rfl)).mono ?_
                rintro e w12 ⟨rfl, d, rfl⟩
                rw [show decide ((us.map fun (n : Nat) => (n : Int)) = (us.map fun (n : Nat) => (n : Int))) = true from by simp]
                go_wp2_with fail
                go_ret
                exact ⟨rfl, below_drewN' HBe.out d⟩
      · rw [HN.out] at hN6
        rw [HM.out] at hM3
        have Hbad := Lib.hid hbad
        have Hsum' := Lib.hid hsum
        rw [HN.out] at Hsum'
        clear HU hbad hsum
        have hi : ¬ (6000 < (N : Int)) := by omega
        have hi2 : ¬ (3000 < (M : Int)) := by omega
        go_wp2_with fail
        go_loopw [83] (fun i wr => ∃ k : Nat, k ≤ M ∧ i = .int .i64 (k : Int) ∧ wr = w9) (fun i _ => M - (intOf i).toNat)
        case atStart => exact ⟨0, Nat.zero_le _, rfl, rfl⟩
        case round =>
          obtain ⟨k, hk, rfl, rfl⟩ := hrel
          by_cases hlt : k < M
          · have hkl : k < zs.length := by rw [HM.out]; exact hlt
            obtain ⟨b, o, rfl, hc⟩ := (HB.out.below HBw.out).get hkl
            have hz0 : badSize zs[k] = false := by
              have := Hbad.out
              rw [List.any_eq_false] at this
              simpa using this zs[k] (List.getElem_mem hkl)
            have hz1 : ¬ zs[k] < 0 := by simp [badSize] at hz0; omega
            have hz2 : ¬ 16 < zs[k] := by simp [badSize] at hz0; omega
            clear hz0
            generalize zs[k] = z0 at *
            go_wp2_with fail
            go_roundw
            case rel => exact ⟨k + 1, by omega, by go_num, trivial⟩
            case measure => simp [intOf]; omega
          · obtain rfl : k = M := by omega
            clear hlt hk
            go_wp2_with fail
            refine (rowOf_any A N cap xs _ HN.out (by omega) (SlAt.below HA.out HBw.out)).mono ?_
            rintro e w10 ⟨rfl, hb10⟩
            have HB10 := Lib.hid (stepN HBw.out hb10)
            have Hc10 := Lib.hid (stepN Hwc.out hb10)
            clear hb10
            have Hbl := Lib.hid (bitsL_length xs)
            rw [HN.out] at Hbl
            go_wp2_with fail
            go_loopw [15, 16, 105] (fun r v i wr => ∃ V : Value, V = v ∧ ∃ j : Nat, j ≤ k ∧ i = .int .i64 (j : Int) ∧ ((zs.map Int.toNat).take j).sum ≤ 8 * N ∧ r = rowV ((bitsL xs).drop ((zs.map Int.toNat).take j).sum) ∧ wr.ownsRow w10.heap.size 3 1 V j ((unpackL (bitsL xs) ((zs.map Int.toNat).take j)).map natV) ∧ Below w10.heap.size w10 wr) (fun _ _ i _ => k - (intOf i).toNat)
            case atStart => exact ⟨_, rfl, 0, Nat.zero_le _, rfl, by simp, by simp, World.ownsRow_nil _ _ _ _, Below.refl _ _⟩
            case round =>
              obtain ⟨v, rfl, j, hj, rfl, hsj, rfl, hoj, hbj⟩ := hrel
              have Hoj := Lib.hid hoj
              have Hbj := Lib.hid hbj
              have Hsj := Lib.hid hsj
              clear hoj hbj hsj
              by_cases hlt : j < k
              · have hjl : j < zs.length := by rw [HM.out]; exact hlt
                have hjt : j < (zs.map Int.toNat).length := by simpa using hjl
                obtain ⟨b, o, rfl, hc⟩ := (HB.out.below (stepN HB10.out Hbj.out)).get hjl
                have hz0 : badSize zs[j] = false := by
                  have := Hbad.out
                  rw [List.any_eq_false] at this
                  simpa using this zs[j] (List.getElem_mem hjl)
                have hzb : 0 ≤ zs[j] ∧ zs[j] ≤ 16 := by simp [badSize] at hz0; omega
                have Hsum := Lib.hid (show ((zs.map Int.toNat).take (j + 1)).sum = ((zs.map Int.toNat).take j).sum + zs[j].toNat by rw [take_snoc _ _ hjt]; simp)
                have Hun := Lib.hid (show unpackL (bitsL xs) ((zs.map Int.toNat).take (j + 1)) = unpackL (bitsL xs) ((zs.map Int.toNat).take j) ++ [num (((bitsL xs).drop ((zs.map Int.toNat).take j).sum).take zs[j].toNat)] by rw [take_snoc _ _ hjt, unpackL_snoc]; simp)
                have Hle := Lib.hid (sum_take_le' (zs.map Int.toNat) (j + 1))
                clear hz0
                generalize zs[j] = z0 at *
                obtain ⟨x, rfl⟩ := Int.eq_ofNat_of_zero_le hzb.1
                have hx16 : x ≤ 16 := by omega
                clear hzb
                rw [Int.toNat_natCast] at Hsum Hun
                generalize ((zs.map Int.toNat).take j).sum = pos at *
                have hpos : pos ≤ 8 * N := Hsj.out
                have Hdl : Hid (((bitsL xs).drop pos).length = 8 * N - pos) := Lib.hid (by rw [List.length_drop, Hbl.out])
                have Hdd : Hid (((bitsL xs).drop pos).drop x = (bitsL xs).drop (pos + x)) := Lib.hid (by rw [List.drop_drop])
                generalize hrow : (bitsL xs).drop pos = row at *
                have Hrow := Lib.hid hrow
                clear hrow
                have Hsz := Lib.hid (show (strB (rowS row)).size = row.length by rw [strB_size, rowS_length])
                unfold rowV
                by_cases hfit : x ≤ row.length
                · have hfs : x ≤ (strB (rowS row)).size := by rw [Hsz.out]; exact hfit
                  have hsb : (strB (rowS row)).size ≤ 48000 := by rw [Hsz.out, Hdl.out]; omega
                  have hx1 := strB_extract (rowS row) 0 x
                  rw [Nat.sub_zero, List.drop_zero, rowS_take] at hx1
                  have Hx1 := Lib.hid hx1
                  have Hx2 : Hid ((strB (rowS row)).extract x (strB (rowS row)).size = strB (rowS (row.drop x))) := Lib.hid (by
                    rw [strB_extract, rowS_drop, Hsz.out, List.take_of_length_le (by rw [rowS_length, List.length_drop]; omega)])
                  clear hx1
                  go_wp2_with fail
                  rw [Hx1.out]
                  refine (ofNumber_any (row.take x) wr (by simp; omega)).mono ?_
                  rintro e w11 ⟨rfl, rfl⟩
                  have hnb : num (row.take x) < 65536 := by
                    have h1 := num_lt (row.take x)
                    have h2 : (row.take x).length ≤ 16 := by simp; omega
                    have h3 : 2 ^ (row.take x).length ≤ 2 ^ 16 := Nat.pow_le_pow_right (by omega) h2
                    omega
                  generalize num (row.take x) = y at *
                  have Hone := Lib.hid (slat_one w11 3 (.int .i64 (y : Int)))
                  have Hown4 := Lib.hid (Hoj.out.alloc (.cells #[.int .i64 (y : Int)] 3))
                  have Hb4 := Lib.hid (Hbj.out.alloc Hbj.out.size (.cells #[.int .i64 (y : Int)] 3))
                  go_wp2_with (at_builtin; refine wpList_appb rfl (.tmp 120) (.tmp 125) _ rfl 3 _ 1 8 tyI _ j _ rfl Hown4.out Hb4.out (some ⟨w11.heap.size, 0, none⟩) 1 1 [.int .i64 (y : Int)] rfl rfl Hone.out (by simp [Value.oneCell']) (by simp) (by unfold maxLen; omega) (by omega) ?_; intro v5 w5 hown5 hb5 hg5 _; have Ho5 := Lib.hid hown5; have Hb5 := Lib.hid hb5; clear hown5 hb5 hg5)
                  go_roundw
                  case rel => exact ⟨_, rfl, j + 1, by omega, by go_num, by rw [Hsum.out]; have := Hdl.out; omega, by rw [Hsum.out, ← Hdd.out, Hx2.out], by rw [Hun.out, List.map_append]; exact Ho5.out, Hb5.out⟩
                  case measure => simp [intOf]; omega
                · have hfs : ¬ x ≤ (strB (rowS row)).size := by rw [Hsz.out]; exact hfit
                  have hsb : (strB (rowS row)).size ≤ 48000 := by rw [Hsz.out, Hdl.out]; omega
                  go_wp2_with fail
                  go_ret
                  exact ⟨rfl, (stepN HB10.out Hbj.out)⟩
              · obtain rfl : j = k := by omega
                have h1 := Hsj.out
                rw [List.take_of_length_le (by rw [List.length_map, HM.out]; omega)] at h1
                exact absurd h1 (by have := Hsum'.out; omega)
end Go.Proofs.Ytoncjlbgheaabaa.BitsUnpack
