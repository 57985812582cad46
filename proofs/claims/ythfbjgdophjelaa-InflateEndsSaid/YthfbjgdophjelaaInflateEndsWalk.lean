/- reliquarylaw.InflateEnds: the walk. -/
import Derived.Test.YthfbjgdophjelaaInfFact
import Derived.Test.YthfbjgdophjelaaOpen
namespace Go.Proofs.Ythfbjgdophjelaa.InflateEnds
open Go Go.RowKit Go.Proofs.Ythfbjgdophjelaa Go.Proofs.Ythfbjgdophjelaa.Bits Go.Proofs.Ythfbjgdophjelaa.Code Go.Proofs.Ythfbjgdophjelaa.Inf
set_option linter.unusedVariables false
set_option linter.unusedSimpArgs false

set_option maxRecDepth 100000 in
set_option maxHeartbeats 1600000 in
theorem walk (w : World) (v : Value) (xs : List UInt8) (h : IsBytes w v xs) :
    Calls Try.prog 3 #[v] w fun e w' => e = .returned (.bool true) ∧ Below w.heap.size w w' := by
  obtain ⟨A, cap, rfl, hle, hmax, hc⟩ := h
  obtain ⟨n, hn⟩ : ∃ n, n = xs.length := ⟨_, rfl⟩
  rw [← hn] at hle ⊢
  have Hn := Lib.hid hn
  have hmx : (n : Int) ≤ 9223372036854775807 := by unfold maxLen at hmax; omega
  have hnc : (n : Int) ≤ (cap : Int) := by omega
  have Hc := Lib.hid hc
  have HU := Lib.hid (Inf.unpack_any A n cap xs w hn.symm (by omega) hc)
  clear hn hc
  go_enter Try.func3, Try.ntmps3
  go_wp2_with fail
  refine (HU.out).mono ?_
  rintro e w1 ⟨hu, hb1⟩
  unfold UPost at hu
  have HB1 := Lib.hid hb1
  cases hr : unpackR xs with
  | bad z =>
    rw [hr] at hu
    dsimp only at hu
    subst hu
    have hz : (z != 0) = true := by simpa using nz_unpack xs z hr
    clear hr hb1 HU
    go_wp2_with fail
    refine (inflated_any w1).mono ?_
    rintro e w2 ⟨rfl, hb2⟩
    have HB2 := Lib.hid (HB1.out.trans (hb2.mono HB1.out.size))
    clear hb2
    go_wp2_with fail
    refine (inflated_any w2).mono ?_
    rintro e w3 ⟨rfl, hb3⟩
    have HB3 := Lib.hid (HB2.out.trans (hb3.mono HB2.out.size))
    clear hb3
    go_wp2_with fail
    go_ret
    exact ⟨rfl, HB3.out⟩
  | ok a =>
    rw [hr] at hu
    dsimp only at hu
    obtain ⟨out, us, ks⟩ := a
    dsimp only at hu
    obtain ⟨hfew, Ao, co, Ak, ck, rfl, ho, hk⟩ := hu
    obtain ⟨t1, t2, t3, t4, t5⟩ := unpack_take hr
    have T4 := Lib.hid t4
    have T5 := Lib.hid t5
    obtain ⟨_, _, e1, _, _, so, _⟩ := own_slat ho
    injection e1 with e1 _ e2
    subst e1 e2
    obtain ⟨_, _, e1, hk1, hk2, sk, _⟩ := own_slat hk
    injection e1 with e1 _ e2
    subst e1 e2
    obtain ⟨ol, hol⟩ : ∃ ol, ol = out.length := ⟨_, rfl⟩
    obtain ⟨kl, hkl⟩ : ∃ kl, kl = ks.length := ⟨_, rfl⟩
    rw [← Hn.out] at t2
    rw [← hol] at hfew ⊢
    rw [← hkl]
    have hk0 : kl ≠ 0 := by rw [hkl]; intro e; exact t3 (List.eq_nil_of_length_eq_zero e)
    have Hol := Lib.hid hol
    have Hkl := Lib.hid hkl
    have SO := Lib.hid so
    have SK := Lib.hid sk
    have Hc1 := Lib.hid (SlAt.below Hc.out hb1)
    have hkx : kl ≤ maxLen := by omega
    have i1 : (1 : Int) ≤ (us : Int) := by omega
    have i2 : (us : Int) ≤ (n : Int) := by omega
    have i3 : (ol : Int) ≤ 3000 := by omega
    have i4 : ((kl : Int) == 0) = false := by rw [beq_eq_false_iff_ne]; omega
    obtain ⟨um, hum⟩ : ∃ um, um = us - 1 := ⟨_, rfl⟩
    have hwu : IntKind.i64.wrap ((us : Int) - 1) = (um : Int) := by rw [show (us : Int) - 1 = (um : Int) by omega]; exact IntWalk.i64_in _ (by omega)
    have i5 : (0 : Int) ≤ (um : Int) := by omega
    have i6 : (um : Int) ≤ (cap : Int) := by omega
    have i7 : (us : Int) ≤ (cap : Int) := by omega
    rw [← hum] at t4
    have T4 := Lib.hid t4
    have hun : um ≤ n := by omega
    clear hr hb1 HU ho hk so sk hol hkl t3 t4 t5 hum
    go_wp2_with fail
    refine (inflated_any w1).mono ?_
    rintro e w2 ⟨rfl, hb2⟩
    have HB2 := Lib.hid (HB1.out.trans (hb2.mono HB1.out.size))
    have Hc2 := Lib.hid (SlAt.below Hc1.out hb2)
    have SO2 := Lib.hid (SlAt.below SO.out hb2)
    have SK2 := Lib.hid (SlAt.below SK.out hb2)
    clear hb2 SO SK Hc1
    have HU2 := Lib.hid (fun cc => Inf.unpack_any A um cc (xs.take um) w2 (by rw [List.length_take, ← Hn.out]; omega) (by omega) (by have := SlAt.take Hc2.out um; rwa [← List.map_take] at this))
    go_wp2_with fail
    refine (HU2.out _).mono ?_
    rintro e w3 ⟨hu, hb3⟩
    unfold UPost at hu
    rw [T4.out] at hu
    dsimp only at hu
    subst hu
    have HB3 := Lib.hid (HB2.out.trans (hb3.mono HB2.out.size))
    have Hc3 := Lib.hid (SlAt.below Hc2.out hb3)
    have SO3 := Lib.hid (SlAt.below SO2.out hb3)
    have SK3 := Lib.hid (SlAt.below SK2.out hb3)
    clear hb3 SO2 SK2 Hc2 HU2
    have HU3 := Lib.hid (fun cc => Inf.unpack_any A us cc (xs.take us) w3 (by rw [List.length_take, ← Hn.out]; omega) (by omega) (by have := SlAt.take Hc3.out us; rwa [← List.map_take] at this))
    go_wp2_with fail
    refine (HU3.out _).mono ?_
    rintro e w4 ⟨hu, hb4⟩
    unfold UPost at hu
    rw [T5.out] at hu
    dsimp only at hu
    obtain ⟨_, Ax, cx, Al, cl, rfl, hx, hl⟩ := hu
    obtain ⟨_, _, e1, _, _, sx, _⟩ := own_slat hx
    injection e1 with e1 _ e2
    subst e1 e2
    obtain ⟨_, _, e1, _, _, sl, _⟩ := own_slat hl
    injection e1 with e1 _ e2
    subst e1 e2
    rw [← Hol.out, ← Hkl.out]
    have HB4 := Lib.hid (HB3.out.trans (hb4.mono HB3.out.size))
    have SX := Lib.hid sx
    have SL := Lib.hid sl
    have SO4 := Lib.hid (SlAt.below SO3.out hb4)
    have SK4 := Lib.hid (SlAt.below SK3.out hb4)
    clear hx hl sx sl hb4 HU3 SO3 SK3
    go_wp2_with fail
    refine (equal_bytes Ax Ao ol ol _ _ out out w4 Hol.out.symm Hol.out.symm SX.out SO4.out).mono ?_
    rintro e w5 ⟨rfl, rfl⟩
    rw [show decide (out = out) = true from by simp]
    go_wp2_with fail
    refine (equal_ints Al Ak kl kl _ _ (ks.map Int.ofNat) (ks.map Int.ofNat) _ (by rw [List.length_map]; exact Hkl.out.symm) (by rw [List.length_map]; exact Hkl.out.symm) hkx hkx (slat_iv SL.out) (slat_iv SK4.out)).mono ?_
    rintro e w6 ⟨rfl, d, rfl⟩
    rw [show decide (ks.map Int.ofNat = ks.map Int.ofNat) = true from by simp]
    go_wp2_with fail
    go_ret
    exact ⟨rfl, below_drewN' HB4.out _⟩
end Go.Proofs.Ythfbjgdophjelaa.InflateEnds
