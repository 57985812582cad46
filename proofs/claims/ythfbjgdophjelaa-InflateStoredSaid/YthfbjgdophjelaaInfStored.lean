/- package inflate: a block of bytes as they stand. -/
import Derived.Test.YthfbjgdophjelaaInfFail
namespace Go.Proofs.Ythfbjgdophjelaa.Inf
open Go Go.RowKit Go.Proofs.Ythfbjgdophjelaa Go.Proofs.Ythfbjgdophjelaa.Bits Go.Proofs.Ythfbjgdophjelaa.Code
set_option linter.unusedVariables false

theorem RdAt.bw {w : World} {base g q : Nat} {A : Option Addr} {n c pos : Nat} {out : List UInt8} {ks : List Nat} (h : RdAt w base g q A n c pos out ks) : base ≤ w.heap.size := by
  obtain ⟨h1, _, _, _, ⟨vo, vk, h4, _, _⟩, _⟩ := h
  have := h4.lt
  omega
theorem RdAt.src0 {w : World} {base g q : Nat} {A : Option Addr} {n c pos : Nat} {out : List UInt8} {ks : List Nat} (h : RdAt w base g q A n c pos out ks) : w.cell? ⟨g, 0, none⟩ = some (.pointer (some ⟨q, 0, none⟩)) := by
  obtain ⟨_, _, _, _, ⟨vo, vk, h4, _, _⟩, _⟩ := h
  rw [h4.cell]; rfl
theorem xor16 (n : Nat) (h : n < 65536) : Go.bits .xor .i64 (n : Int) 65535 = ((65535 - n : Nat) : Int) := by
  have hx : n ^^^ 65535 = 65535 - n := by
    apply Nat.eq_of_testBit_eq
    intro i
    have e1 : (65535 - n).testBit i = (decide (i < 16) && !n.testBit i) := by
      rw [show 65535 - n = 2 ^ 16 - (n + 1) by omega]
      exact Nat.testBit_two_pow_sub_succ (by omega) i
    have e2 : (65535 : Nat).testBit i = decide (i < 16) := by
      rw [show (65535 : Nat) = 2 ^ 16 - 1 by decide, Nat.testBit_two_pow_sub_one]
    rw [Nat.testBit_xor, e1, e2]
    by_cases hi : i < 16
    · simp [hi]
    · have : n.testBit i = false := Nat.testBit_lt_two_pow (Nat.lt_of_lt_of_le h (show 65536 ≤ 2 ^ i from by rw [show (65536 : Nat) = 2 ^ 16 by decide]; exact Nat.pow_le_pow_right (by omega) (by omega)))
      simp [hi, this]
  show IntKind.i64.wrap ((BitVec.ofInt 64 (n : Int) ^^^ BitVec.ofInt 64 (65535 : Int)).toNat : Int) = _
  have h1 : (BitVec.ofInt 64 (n : Int) ^^^ BitVec.ofInt 64 (65535 : Int)).toNat = 65535 - n := by
    rw [BitVec.toNat_xor, BitVec.ofInt_natCast, BitVec.toNat_ofNat, Nat.mod_eq_of_lt (by omega), show (BitVec.ofInt 64 (65535 : Int)).toNat = 65535 from rfl, hx]
  rw [h1]
  exact IntWalk.i64_in _ (by omega)
set_option maxRecDepth 100000 in
set_option maxHeartbeats 1600000 in
theorem fill_any (q : Nat) (A : Option Addr) (n c pos : Nat) (w : World) (h : SrcAt w q A n c pos) (hp : pos ≤ 8 * n) (hn : n ≤ 1099511627776) :
    Calls Try.prog 21 #[.pointer (some ⟨q, 0, none⟩)] w fun e w' => e = .returned (.tuple #[]) ∧ SrcAt w' q A n c (fillP pos) ∧ Keeps q srcT w w' := by
  have c1 : w.cell? ⟨q, 1, none⟩ = some (.int .i64 (pos : Int)) := by rw [h.cell]; rfl
  have f1 := Blk.frozen h 1
  have HS := Lib.hid h
  have h1 : IntKind.i64.wrap ((pos : Int) + 7) = (pos : Int) + 7 := IntWalk.i64_in _ (by omega)
  have h2 : IntKind.i64.wrap (((pos : Int) + 7) / 8) = ((pos : Int) + 7) / 8 := IntWalk.i64_in _ (by omega)
  have h3 : IntKind.i64.wrap (((pos : Int) + 7) / 8 * 8) = ((fillP pos : Nat) : Int) := by
    rw [show ((pos : Int) + 7) / 8 * 8 = ((fillP pos : Nat) : Int) by unfold fillP; omega]
    exact IntWalk.i64_in _ (by unfold fillP; omega)
  have h4 : ((pos : Int) + 7).tdiv 8 = ((pos : Int) + 7) / 8 := Int.tdiv_eq_ediv_of_nonneg (by omega)
  have hq := Blk.lt h
  clear h
  go_enter Try.func21, Try.ntmps21
  go_wp2_with fail
  go_end0
  exact ⟨rfl, HS.out.set_ 1 _, (Keeps.refl _ _ _).setBlk HS.out (by simp [srcT]) (Nat.le_refl _) 1 _⟩
theorem rpost_bad {α : Type} {r : Rd α} {ok : α → Ending → World → Prop} {e : Ending} {w : World} {x : Int} (h : RPost r ok e w) (hr : r = .bad x) : e = stopE x := by rw [hr] at h; exact h
theorem rpost_ok {α : Type} {r : Rd α} {ok : α → Ending → World → Prop} {e : Ending} {w : World} {a : α} (h : RPost r ok e w) (hr : r = .ok a) : ok a e w := by rw [hr] at h; exact h
theorem bad_rpost {α : Type} {r : Rd α} {ok : α → Ending → World → Prop} {w : World} {x : Int} (hr : r = .bad x) : RPost r ok (stopE x) w := by rw [hr]; rfl
theorem ok_rpost {α : Type} {r : Rd α} {ok : α → Ending → World → Prop} {e : Ending} {w : World} {a : α} (hr : r = .ok a) (h : ok a e w) : RPost r ok e w := by rw [hr]; exact h
theorem RdAt.filled {w w' : World} {base g q : Nat} {A : Option Addr} {n c pos pos' : Nat} {out : List UInt8} {ks : List Nat} (h : RdAt w base g q A n c pos out ks) (hk : Keeps q srcT w w') (hs : SrcAt w' q A n c pos') (hp : pos' ≤ 8 * n) : RdAt w' base g q A n c pos' out ks := by
  obtain ⟨hg, hq, _, hfew, ⟨vo, vk, hb, ho, hk'⟩, _⟩ := h
  exact ⟨hg, hq, hp, hfew, ⟨vo, vk, hk.blk hb (by decide), hk.own ho (by decide), hk.own hk' (by decide)⟩, hs⟩
theorem getR_lt {row : List Bool} {p n : Nat} {a : Nat × Nat} (h : getR row p n = .ok a) : a.1 < 2 ^ n := by
  unfold getR at h
  split at h
  · injection h with h
    subst h
    exact Nat.lt_of_lt_of_le (num_lt _) (Nat.pow_le_pow_right (by omega) (by rw [List.length_take]; omega))
  · cases h
set_option maxRecDepth 100000 in
set_option maxHeartbeats 4000000 in
theorem stored_r (base g q : Nat) (A : Option Addr) (n c pos : Nat) (xs : List UInt8) (out : List UInt8) (ks : List Nat) (w : World) (h : RdAt w base g q A n c pos out ks) (hi : InAt_ w base A n xs) :
    Calls Try.prog 14 #[.pointer (some ⟨g, 0, none⟩)] w fun e w' =>
      RPost (storedR (bitsL xs) pos out) (fun a e w' => e = .returned (.tuple #[]) ∧ RdAt w' base g q A n c a.1 a.2 ks) e w' ∧ Keeps base infT w w' := by
  obtain ⟨R, hR⟩ : ∃ R, R = storedR (bitsL xs) pos out := ⟨_, rfl⟩
  have HU := Lib.hid (show R = (getR (bitsL xs) (fillP pos) 16).then_ fun x => (getR (bitsL xs) x.2 16).then_ fun y => if x.1 + y.1 ≠ 65535 then .bad 4 else rawR (bitsL xs) x.1 y.2 out from hR)
  rw [← hR]
  clear hR
  have HI := Lib.hid hi
  have H := Lib.hid h
  have hle : fillP pos ≤ 8 * n := by have := h.ple; unfold fillP; omega
  have HF := Lib.hid (fill_any q A n c pos w h.src h.ple hi.few)
  have b0 := h.src0
  have hq := h.qle
  clear h hi
  go_enter Try.func14, Try.ntmps14
  go_wp2_with fail
  refine (HF.out).mono ?_
  rintro e w2 ⟨rfl, hs2, hk2⟩
  have HK2 := Lib.hid (kT hk2 hq)
  have H2 := Lib.hid (H.out.filled hk2 hs2 hle)
  have HI2 := Lib.hid (HI.out.keeps HK2.out)
  have HG := Lib.hid (get_r base g q A n c (fillP pos) 16 xs out ks w2 H2.out HI2.out (by omega))
  clear hs2 hk2 b0 HF
  go_wp2_with fail
  refine (HG.out).mono ?_
  rintro e w3 ⟨hr3, hk3⟩
  have HK3 := Lib.hid (HK2.out.trans hk3)
  have HI3 := Lib.hid (HI2.out.keeps hk3)
  cases hg3 : getR (bitsL xs) (fillP pos) 16 with
  | bad z =>
    have he := rpost_bad hr3 hg3
    subst he
    have HU := Lib.hid (show R = .bad z by rw [HU.out, hg3]; rfl)
    clear hr3 hk3 hg3
    unfold stopE
    go_wp2_with fail
    exact ⟨rfl, bad_rpost HU.out, HK3.out⟩
  | ok x =>
    obtain ⟨he, hrd3⟩ := rpost_ok hr3 hg3
    subst he
    have hx := getR_lt hg3
    have HU := Lib.hid (show R = (getR (bitsL xs) x.2 16).then_ fun y => if x.1 + y.1 ≠ 65535 then .bad 4 else rawR (bitsL xs) x.1 y.2 out by rw [HU.out, hg3]; rfl)
    have H3 := Lib.hid hrd3
    have HG := Lib.hid (get_r base g q A n c x.2 16 xs out ks w3 H3.out HI3.out (by omega))
    obtain ⟨nb, p3⟩ := x
    dsimp only at hx HU H3 HG ⊢
    clear hr3 hk3 hg3 hrd3
    go_wp2_with fail
    refine (HG.out).mono ?_
    rintro e w4 ⟨hr4, hk4⟩
    have HK4 := Lib.hid (HK3.out.trans hk4)
    have HI4 := Lib.hid (HI3.out.keeps hk4)
    cases hg4 : getR (bitsL xs) p3 16 with
    | bad z =>
      have he := rpost_bad hr4 hg4
      subst he
      have HU := Lib.hid (show R = .bad z by rw [HU.out, hg4]; rfl)
      clear hr4 hk4 hg4
      unfold stopE
      go_wp2_with fail
      exact ⟨rfl, bad_rpost HU.out, HK4.out⟩
    | ok y =>
      obtain ⟨he, hrd4⟩ := rpost_ok hr4 hg4
      subst he
      have hy := getR_lt hg4
      have HU := Lib.hid (show R = if nb + y.1 ≠ 65535 then .bad 4 else rawR (bitsL xs) nb y.2 out by rw [HU.out, hg4]; rfl)
      have H4 := Lib.hid hrd4
      obtain ⟨mb, p4⟩ := y
      dsimp only at hy HU H4 ⊢
      have hxr := xor16 nb (by omega)
      clear hr4 hk4 hg4 hrd4 HG
      by_cases hne : nb + mb = 65535
      · have HU := Lib.hid (show R = rawR (bitsL xs) nb p4 out by rw [HU.out, if_neg (by omega)])
        have hq1 : (((65535 - nb : Nat) : Int) != (mb : Int)) = false := by
          have : ((65535 - nb : Nat) : Int) = (mb : Int) := by omega
          rw [this]; simp
        have hn65 : nb ≤ 65535 := by omega
        clear hne
        go_wp2_with fail
        go_loopw [19] (fun vi wr => ∃ (j p : Nat) (o : List UInt8), j ≤ nb ∧ vi = .int .i64 (j : Int) ∧ rawR (bitsL xs) nb p4 out = rawR (bitsL xs) (nb - j) p o ∧ RdAt wr base g q A n c p o ks ∧ Keeps base infT w wr ∧ InAt_ wr base A n xs) (fun vi _ => nb - (intOf vi).toNat)
        case atStart => exact ⟨0, p4, out, Nat.zero_le _, rfl, rfl, H4.out, HK4.out, HI4.out⟩
        case round =>
          obtain ⟨j, p, o, hj, rfl, hraw, hrd, hk, hin⟩ := hrel
          have HRaw := Lib.hid hraw
          have HR := Lib.hid hrd
          have HK := Lib.hid hk
          have HIn := Lib.hid hin
          clear hraw hrd hk hin
          by_cases hlt : j < nb
          · have HU := Lib.hid (show R = (getR (bitsL xs) p 8).then_ fun x => (pushR o (UInt8.ofNat x.1)).then_ fun o => rawR (bitsL xs) (nb - (j + 1)) x.2 o by
              rw [HU.out, HRaw.out, show nb - j = (nb - (j + 1)) + 1 by omega]; rfl)
            have HG := Lib.hid (get_r base g q A n c p 8 xs o ks wr HR.out HIn.out (by omega))
            have HRaw := Lib.hid (show rawR (bitsL xs) nb p4 out = (getR (bitsL xs) p 8).then_ fun x => (pushR o (UInt8.ofNat x.1)).then_ fun o => rawR (bitsL xs) (nb - (j + 1)) x.2 o by
              rw [HRaw.out, show nb - j = (nb - (j + 1)) + 1 by omega]; rfl)
            go_wp2_with fail
            refine (HG.out).mono ?_
            rintro e w5 ⟨hr5, hk5⟩
            have HK5 := Lib.hid (HK.out.trans hk5)
            have HI5 := Lib.hid (HIn.out.keeps hk5)
            cases hg5 : getR (bitsL xs) p 8 with
            | bad z =>
              have he := rpost_bad hr5 hg5
              subst he
              have HU := Lib.hid (show R = .bad z by rw [HU.out, hg5]; rfl)
              clear hr5 hk5 hg5
              unfold stopE
              go_wp2_with fail
              exact ⟨rfl, bad_rpost HU.out, HK5.out⟩
            | ok x =>
              obtain ⟨he, hrd5⟩ := rpost_ok hr5 hg5
              subst he
              have hx5 := getR_lt hg5
              have HU := Lib.hid (show R = (pushR o (UInt8.ofNat x.1)).then_ fun o => rawR (bitsL xs) (nb - (j + 1)) x.2 o by rw [HU.out, hg5]; rfl)
              have HRaw := Lib.hid (show rawR (bitsL xs) nb p4 out = (pushR o (UInt8.ofNat x.1)).then_ fun o => rawR (bitsL xs) (nb - (j + 1)) x.2 o by rw [HRaw.out, hg5]; rfl)
              have H5 := Lib.hid hrd5
              obtain ⟨bx, p5⟩ := x
              dsimp only at hx5 HU HRaw H5 ⊢
              have HP := Lib.hid (put_r base g q A n c p5 (UInt8.ofNat bx) o ks w5 H5.out)
              have hcv : u8v (UInt8.ofNat bx) = .int .u8 (bx : Int) := by
                unfold u8v n8
                have : (UInt8.ofNat bx).toNat = bx := by show bx % 2 ^ 8 = bx; omega
                rw [this]
              rw [hcv] at HP
              clear hr5 hk5 hg5 hrd5 HG
              go_wp2_with fail
              refine (HP.out).mono ?_
              rintro e w6 ⟨hr6, hk6⟩
              have HK6 := Lib.hid (HK5.out.trans hk6)
              have HI6 := Lib.hid (HI5.out.keeps hk6)
              cases hg6 : pushR o (UInt8.ofNat bx) with
              | bad z =>
                have he := rpost_bad hr6 hg6
                subst he
                have HU := Lib.hid (show R = .bad z by rw [HU.out, hg6]; rfl)
                clear hr6 hk6 hg6
                unfold stopE
                go_wp2_with fail
                exact ⟨rfl, bad_rpost HU.out, HK6.out⟩
              | ok o2 =>
                obtain ⟨he, hrd6⟩ := rpost_ok hr6 hg6
                subst he
                have HRaw := Lib.hid (show rawR (bitsL xs) nb p4 out = rawR (bitsL xs) (nb - (j + 1)) p5 o2 by rw [HRaw.out, hg6]; rfl)
                have H6 := Lib.hid hrd6
                clear hr6 hk6 hg6 hrd6 hx5 hcv HP
                go_wp2_with fail
                go_roundw
                case rel => exact ⟨j + 1, p5, o2, by omega, by go_num, HRaw.out, H6.out, HK6.out, HI6.out⟩
                case measure => simp [intOf]; omega
          · obtain rfl : j = nb := by omega
            have HU := Lib.hid (show R = .ok (p, o) by rw [HU.out, HRaw.out, Nat.sub_self]; rfl)
            go_wp2_with fail
            go_end0
            exact ⟨ok_rpost HU.out ⟨rfl, HR.out⟩, HK.out⟩
      · have HU := Lib.hid (show R = .bad 4 by rw [HU.out, if_pos hne])
        have hq1 : (((65535 - nb : Nat) : Int) != (mb : Int)) = true := by
          simp only [bne_iff_ne, ne_eq]
          omega
        clear hne
        go_wp2_with fail
        refine (fail_any 4 _).mono ?_
        rintro e w5 ⟨rfl, rfl⟩
        unfold stopE
        go_wp2_with fail
        exact ⟨rfl, bad_rpost HU.out, HK4.out⟩
end Go.Proofs.Ythfbjgdophjelaa.Inf
