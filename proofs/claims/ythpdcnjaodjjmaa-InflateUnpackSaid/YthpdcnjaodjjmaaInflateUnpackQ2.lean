/- texts joined: InfStored InfTable BlkFixed InfFixed ShelfMul InfRepeat RegS RegT InfOld InfBody. -/
import Derived.Test.YthpdcnjaodjjmaaInflateUnpackQ1
import Derived.Shelf.Bits.Mul64
import Derived.Test.YthpdcnjaodjjmaaProg
import Derived.Laws.CopyOwn
import Derived.StillTailTactics
import Derived.Deep.RegionHeld3
import Derived.Deep.RegionLaw
/- package inflate: a block of bytes as they stand. -/
namespace Go.Proofs.Ythpdcnjaodjjmaa.Inf
open Go Go.RowKit Go.Proofs.Ythpdcnjaodjjmaa Go.Proofs.Ythpdcnjaodjjmaa.Bits Go.Proofs.Ythpdcnjaodjjmaa.Code
set_option linter.unusedVariables false

theorem RdAt.bw {w : World} {base g q : Nat} {A : Option Addr} {n c pos : Nat} {out : List UInt8} {ks : List Nat} (h : RdAt w base g q A n c pos out ks) : base ≤ w.heap.size := by
  obtain ⟨h1, _, _, _, ⟨vo, vk, h4, _, _⟩, _⟩ := h
  have := h4.lt
  omega
theorem RdAt.src0 {w : World} {base g q : Nat} {A : Option Addr} {n c pos : Nat} {out : List UInt8} {ks : List Nat} (h : RdAt w base g q A n c pos out ks) : w.cell? ⟨g, 0, none⟩ = some (.pointer (some ⟨q, 0, none⟩)) := by
  obtain ⟨_, _, _, _, ⟨vo, vk, h4, _, _⟩, _⟩ := h
  rw [h4.cell]; rfl
theorem xor16 (n : Nat) (h : n < 65536) : Go.bits .xor .i64 (n : Int) 65535 = ((65535 - n : Nat) : Int) := by
  have hx : n ^^^ 65535 = 65535 - n := by
    apply Nat.eq_of_testBit_eq
    intro i
    have e1 : (65535 - n).testBit i = (decide (i < 16) && !n.testBit i) := by
      rw [show 65535 - n = 2 ^ 16 - (n + 1) by omega]
      exact Nat.testBit_two_pow_sub_succ (by omega) i
    have e2 : (65535 : Nat).testBit i = decide (i < 16) := by
      rw [show (65535 : Nat) = 2 ^ 16 - 1 by decide, Nat.testBit_two_pow_sub_one]
    rw [Nat.testBit_xor, e1, e2]
    by_cases hi : i < 16
    · simp [hi]
    · have : n.testBit i = false := Nat.testBit_lt_two_pow (Nat.lt_of_lt_of_le h (show 65536 ≤ 2 ^ i from by rw [show (65536 : Nat) = 2 ^ 16 by decide]; exact Nat.pow_le_pow_right (by omega) (by omega)))
      simp [hi, this]
  show IntKind.i64.wrap ((BitVec.ofInt 64 (n : Int) ^^^ BitVec.ofInt 64 (65535 : Int)).toNat : Int) = _
  have h1 : (BitVec.ofInt 64 (n : Int) ^^^ BitVec.ofInt 64 (65535 : Int)).toNat = 65535 - n := by
    rw [BitVec.toNat_xor, BitVec.ofInt_natCast, BitVec.toNat_ofNat, Nat.mod_eq_of_lt (by omega), show (BitVec.ofInt 64 (65535 : Int)).toNat = 65535 from rfl, hx]
  rw [h1]
  exact IntWalk.i64_in _ (by omega)
set_option maxRecDepth 100000 in
set_option maxHeartbeats 1600000 in
theorem fill_any (q : Nat) (A : Option Addr) (n c pos : Nat) (w : World) (h : SrcAt w q A n c pos) (hp : pos ≤ 8 * n) (hn : n ≤ 1099511627776) :
    Calls Try.prog 73 #[.pointer (some ⟨q, 0, none⟩)] w fun e w' => e = .returned (.tuple #[]) ∧ SrcAt w' q A n c (fillP pos) ∧ Keeps q srcT w w' := by
  have c1 : w.cell? ⟨q, 1, none⟩ = some (.int .i64 (pos : Int)) := by rw [h.cell]; rfl
  have f1 := Blk.frozen h 1
  have HS := Lib.hid h
  have h1 : IntKind.i64.wrap ((pos : Int) + 7) = (pos : Int) + 7 := IntWalk.i64_in _ (by omega)
  have h2 : IntKind.i64.wrap (((pos : Int) + 7) / 8) = ((pos : Int) + 7) / 8 := IntWalk.i64_in _ (by omega)
  have h3 : IntKind.i64.wrap (((pos : Int) + 7) / 8 * 8) = ((fillP pos : Nat) : Int) := by
    rw [show ((pos : Int) + 7) / 8 * 8 = ((fillP pos : Nat) : Int) by unfold fillP; omega]
    exact IntWalk.i64_in _ (by unfold fillP; omega)
  have h4 : ((pos : Int) + 7).tdiv 8 = ((pos : Int) + 7) / 8 := Int.tdiv_eq_ediv_of_nonneg (by omega)
  have hq := Blk.lt h
  clear h
  go_enter Try.func73, Try.ntmps73
  go_wp2_with fail
  go_end0
  exact ⟨rfl, HS.out.set_ 1 _, (Keeps.refl _ _ _).setBlk HS.out (by simp [srcT]) (Nat.le_refl _) 1 _⟩
theorem rpost_bad {α : Type} {r : Rd α} {ok : α → Ending → World → Prop} {e : Ending} {w : World} {x : Int} (h : RPost r ok e w) (hr : r = .bad x) : e = stopE x := by rw [hr] at h; exact h
theorem rpost_ok {α : Type} {r : Rd α} {ok : α → Ending → World → Prop} {e : Ending} {w : World} {a : α} (h : RPost r ok e w) (hr : r = .ok a) : ok a e w := by rw [hr] at h; exact h
theorem bad_rpost {α : Type} {r : Rd α} {ok : α → Ending → World → Prop} {w : World} {x : Int} (hr : r = .bad x) : RPost r ok (stopE x) w := by rw [hr]; rfl
theorem ok_rpost {α : Type} {r : Rd α} {ok : α → Ending → World → Prop} {e : Ending} {w : World} {a : α} (hr : r = .ok a) (h : ok a e w) : RPost r ok e w := by rw [hr]; exact h
theorem RdAt.filled {w w' : World} {base g q : Nat} {A : Option Addr} {n c pos pos' : Nat} {out : List UInt8} {ks : List Nat} (h : RdAt w base g q A n c pos out ks) (hk : Keeps q srcT w w') (hs : SrcAt w' q A n c pos') (hp : pos' ≤ 8 * n) : RdAt w' base g q A n c pos' out ks := by
  obtain ⟨hg, hq, _, hfew, ⟨vo, vk, hb, ho, hk'⟩, _⟩ := h
  exact ⟨hg, hq, hp, hfew, ⟨vo, vk, hk.blk hb (by decide), hk.own ho (by decide), hk.own hk' (by decide)⟩, hs⟩
theorem getR_lt {row : List Bool} {p n : Nat} {a : Nat × Nat} (h : getR row p n = .ok a) : a.1 < 2 ^ n := by
  unfold getR at h
  split at h
  · injection h with h
    subst h
    exact Nat.lt_of_lt_of_le (num_lt _) (Nat.pow_le_pow_right (by omega) (by rw [List.length_take]; omega))
  · cases h
set_option maxRecDepth 100000 in
set_option maxHeartbeats 4000000 in
theorem stored_r (base g q : Nat) (A : Option Addr) (n c pos : Nat) (xs : List UInt8) (out : List UInt8) (ks : List Nat) (w : World) (h : RdAt w base g q A n c pos out ks) (hi : InAt_ w base A n xs) :
    Calls Try.prog 42 #[.pointer (some ⟨g, 0, none⟩)] w fun e w' =>
      RPost (storedR (bitsL xs) pos out) (fun a e w' => e = .returned (.tuple #[]) ∧ RdAt w' base g q A n c a.1 a.2 ks) e w' ∧ Keeps base infT w w' := by
  obtain ⟨R, hR⟩ : ∃ R, R = storedR (bitsL xs) pos out := ⟨_, rfl⟩
  have HU := Lib.hid (show R = (getR (bitsL xs) (fillP pos) 16).then_ fun x => (getR (bitsL xs) x.2 16).then_ fun y => if x.1 + y.1 ≠ 65535 then .bad 4 else rawR (bitsL xs) x.1 y.2 out from hR)
  rw [← hR]
  clear hR
  have HI := Lib.hid hi
  have H := Lib.hid h
  have hle : fillP pos ≤ 8 * n := by have := h.ple; unfold fillP; omega
  have HF := Lib.hid (fill_any q A n c pos w h.src h.ple hi.few)
  have b0 := h.src0
  have hq := h.qle
  clear h hi
  go_enter Try.func42, Try.ntmps42
  go_wp2_with fail
  refine (HF.out).mono ?_
  rintro e w2 ⟨rfl, hs2, hk2⟩
  have HK2 := Lib.hid (kT hk2 hq)
  have H2 := Lib.hid (H.out.filled hk2 hs2 hle)
  have HI2 := Lib.hid (HI.out.keeps HK2.out)
  have HG := Lib.hid (get_r base g q A n c (fillP pos) 16 xs out ks w2 H2.out HI2.out (by omega))
  clear hs2 hk2 b0 HF
  go_wp2_with fail
  refine (HG.out).mono ?_
  rintro e w3 ⟨hr3, hk3⟩
  have HK3 := Lib.hid (HK2.out.trans hk3)
  have HI3 := Lib.hid (HI2.out.keeps hk3)
  cases hg3 : getR (bitsL xs) (fillP pos) 16 with
  | bad z =>
    have he := rpost_bad hr3 hg3
    subst he
    have HU := Lib.hid (show R = .bad z by rw [HU.out, hg3]; rfl)
    clear hr3 hk3 hg3
    unfold stopE
    go_wp2_with fail
    exact ⟨rfl, bad_rpost HU.out, HK3.out⟩
  | ok x =>
    obtain ⟨he, hrd3⟩ := rpost_ok hr3 hg3
    subst he
    have hx := getR_lt hg3
    have HU := Lib.hid (show R = (getR (bitsL xs) x.2 16).then_ fun y => if x.1 + y.1 ≠ 65535 then .bad 4 else rawR (bitsL xs) x.1 y.2 out by rw [HU.out, hg3]; rfl)
    have H3 := Lib.hid hrd3
    have HG := Lib.hid (get_r base g q A n c x.2 16 xs out ks w3 H3.out HI3.out (by omega))
    obtain ⟨nb, p3⟩ := x
    dsimp only at hx HU H3 HG ⊢
    clear hr3 hk3 hg3 hrd3
    go_wp2_with fail
    refine (HG.out).mono ?_
    rintro e w4 ⟨hr4, hk4⟩
    have HK4 := Lib.hid (HK3.out.trans hk4)
    have HI4 := Lib.hid (HI3.out.keeps hk4)
    cases hg4 : getR (bitsL xs) p3 16 with
    | bad z =>
      have he := rpost_bad hr4 hg4
      subst he
      have HU := Lib.hid (show R = .bad z by rw [HU.out, hg4]; rfl)
      clear hr4 hk4 hg4
      unfold stopE
      go_wp2_with fail
      exact ⟨rfl, bad_rpost HU.out, HK4.out⟩
    | ok y =>
      obtain ⟨he, hrd4⟩ := rpost_ok hr4 hg4
      subst he
      have hy := getR_lt hg4
      have HU := Lib.hid (show R = if nb + y.1 ≠ 65535 then .bad 4 else rawR (bitsL xs) nb y.2 out by rw [HU.out, hg4]; rfl)
      have H4 := Lib.hid hrd4
      obtain ⟨mb, p4⟩ := y
      dsimp only at hy HU H4 ⊢
      have hxr := xor16 nb (by omega)
      clear hr4 hk4 hg4 hrd4 HG
      by_cases hne : nb + mb = 65535
      · have HU := Lib.hid (show R = rawR (bitsL xs) nb p4 out by rw [HU.out, if_neg (by omega)])
        have hq1 : (((65535 - nb : Nat) : Int) != (mb : Int)) = false := by
          have : ((65535 - nb : Nat) : Int) = (mb : Int) := by omega
          rw [this]; simp
        have hn65 : nb ≤ 65535 := by omega
        clear hne
        go_wp2_with fail
        go_loopw [19] (fun vi wr => ∃ (j p : Nat) (o : List UInt8), j ≤ nb ∧ vi = .int .i64 (j : Int) ∧ rawR (bitsL xs) nb p4 out = rawR (bitsL xs) (nb - j) p o ∧ RdAt wr base g q A n c p o ks ∧ Keeps base infT w wr ∧ InAt_ wr base A n xs) (fun vi _ => nb - (intOf vi).toNat)
        case atStart => exact ⟨0, p4, out, Nat.zero_le _, rfl, rfl, H4.out, HK4.out, HI4.out⟩
        case round =>
          obtain ⟨j, p, o, hj, rfl, hraw, hrd, hk, hin⟩ := hrel
          have HRaw := Lib.hid hraw
          have HR := Lib.hid hrd
          have HK := Lib.hid hk
          have HIn := Lib.hid hin
          clear hraw hrd hk hin
          by_cases hlt : j < nb
          · have HU := Lib.hid (show R = (getR (bitsL xs) p 8).then_ fun x => (pushR o (UInt8.ofNat x.1)).then_ fun o => rawR (bitsL xs) (nb - (j + 1)) x.2 o by
              rw [HU.out, HRaw.out, show nb - j = (nb - (j + 1)) + 1 by omega]; rfl)
            have HG := Lib.hid (get_r base g q A n c p 8 xs o ks wr HR.out HIn.out (by omega))
            have HRaw := Lib.hid (show rawR (bitsL xs) nb p4 out = (getR (bitsL xs) p 8).then_ fun x => (pushR o (UInt8.ofNat x.1)).then_ fun o => rawR (bitsL xs) (nb - (j + 1)) x.2 o by
              rw [HRaw.out, show nb - j = (nb - (j + 1)) + 1 by omega]; rfl)
            go_wp2_with fail
            refine (HG.out).mono ?_
            rintro e w5 ⟨hr5, hk5⟩
            have HK5 := Lib.hid (HK.out.trans hk5)
            have HI5 := Lib.hid (HIn.out.keeps hk5)
            cases hg5 : getR (bitsL xs) p 8 with
            | bad z =>
              have he := rpost_bad hr5 hg5
              subst he
              have HU := Lib.hid (show R = .bad z by rw [HU.out, hg5]; rfl)
              clear hr5 hk5 hg5
              unfold stopE
              go_wp2_with fail
              exact ⟨rfl, bad_rpost HU.out, HK5.out⟩
            | ok x =>
              obtain ⟨he, hrd5⟩ := rpost_ok hr5 hg5
              subst he
              have hx5 := getR_lt hg5
              have HU := Lib.hid (show R = (pushR o (UInt8.ofNat x.1)).then_ fun o => rawR (bitsL xs) (nb - (j + 1)) x.2 o by rw [HU.out, hg5]; rfl)
              have HRaw := Lib.hid (show rawR (bitsL xs) nb p4 out = (pushR o (UInt8.ofNat x.1)).then_ fun o => rawR (bitsL xs) (nb - (j + 1)) x.2 o by rw [HRaw.out, hg5]; rfl)
              have H5 := Lib.hid hrd5
              obtain ⟨bx, p5⟩ := x
              dsimp only at hx5 HU HRaw H5 ⊢
              have HP := Lib.hid (put_r base g q A n c p5 (UInt8.ofNat bx) o ks w5 H5.out)
              have hcv : u8v (UInt8.ofNat bx) = .int .u8 (bx : Int) := by
                unfold u8v n8
                have : (UInt8.ofNat bx).toNat = bx := by show bx % 2 ^ 8 = bx; omega
                rw [this]
              rw [hcv] at HP
              clear hr5 hk5 hg5 hrd5 HG
              go_wp2_with fail
              refine (HP.out).mono ?_
              rintro e w6 ⟨hr6, hk6⟩
              have HK6 := Lib.hid (HK5.out.trans hk6)
              have HI6 := Lib.hid (HI5.out.keeps hk6)
              cases hg6 : pushR o (UInt8.ofNat bx) with
              | bad z =>
                have he := rpost_bad hr6 hg6
                subst he
                have HU := Lib.hid (show R = .bad z by rw [HU.out, hg6]; rfl)
                clear hr6 hk6 hg6
                unfold stopE
                go_wp2_with fail
                exact ⟨rfl, bad_rpost HU.out, HK6.out⟩
              | ok o2 =>
                obtain ⟨he, hrd6⟩ := rpost_ok hr6 hg6
                subst he
                have HRaw := Lib.hid (show rawR (bitsL xs) nb p4 out = rawR (bitsL xs) (nb - (j + 1)) p5 o2 by rw [HRaw.out, hg6]; rfl)
                have H6 := Lib.hid hrd6
                clear hr6 hk6 hg6 hrd6 hx5 hcv HP
                go_wp2_with fail
                go_roundw
                case rel => exact ⟨j + 1, p5, o2, by omega, by go_num, HRaw.out, H6.out, HK6.out, HI6.out⟩
                case measure => simp [intOf]; omega
          · obtain rfl : j = nb := by omega
            have HU := Lib.hid (show R = .ok (p, o) by rw [HU.out, HRaw.out, Nat.sub_self]; rfl)
            go_wp2_with fail
            go_end0
            exact ⟨ok_rpost HU.out ⟨rfl, HR.out⟩, HK.out⟩
      · have HU := Lib.hid (show R = .bad 4 by rw [HU.out, if_pos hne])
        have hq1 : (((65535 - nb : Nat) : Int) != (mb : Int)) = true := by
          simp only [bne_iff_ne, ne_eq]
          omega
        clear hne
        go_wp2_with fail
        refine (fail_any 4 _).mono ?_
        rintro e w5 ⟨rfl, rfl⟩
        unfold stopE
        go_wp2_with fail
        exact ⟨rfl, bad_rpost HU.out, HK4.out⟩
end Go.Proofs.Ythpdcnjaodjjmaa.Inf

/- package inflate: a table of lengths, if they make a code. -/
namespace Go.Proofs.Ythpdcnjaodjjmaa.Inf
open Go Go.RowKit Go.Proofs.Ythpdcnjaodjjmaa Go.Proofs.Ythpdcnjaodjjmaa.Bits Go.Proofs.Ythpdcnjaodjjmaa.Code
set_option linter.unusedVariables false

set_option maxRecDepth 100000 in
set_option maxHeartbeats 1600000 in
theorem table_r (A : Option Addr) (n c : Nat) (zs : List Int) (w : World) (hn : zs.length = n) (hx : n ≤ maxLen) (hA : InAt w A zs) :
    Calls Try.prog 77 #[.slice A n c] w fun e w' =>
      RPost (tableR zs) (fun ls e w' => chkL zs = 0 ∧ ∃ p, e = .returned (.pointer (some ⟨p, 0, none⟩)) ∧ TabAt w' w.heap.size p ls) e w' ∧ Below w.heap.size w w' := by
  have HCk := Lib.hid (check_any A n c zs w hn hx hA)
  have HA := Lib.hid hA
  have Hn := Lib.hid hn
  clear hA hn
  go_enter Try.func77, Try.ntmps77
  go_wp2_with fail
  refine (HCk.out).mono ?_
  rintro e w2 ⟨rfl, hw2⟩
  have hb2 : Below w.heap.size w w2 := by
    first
      | exact hw2
      | (obtain ⟨d, rfl⟩ := hw2; exact (Below.refl _ _).drewN' d)
      | (rw [hw2]; exact Below.refl _ _)
  have Hb2 := Lib.hid hb2
  clear hw2 hb2 HCk
  obtain ⟨z, hz⟩ : ∃ z, z = chkL zs := ⟨_, rfl⟩
  rw [← hz]
  by_cases h0 : z = 0
  · subst h0
    have HM := Lib.hid (make_any A n c zs w2 Hn.out (SlAt.below HA.out Hb2.out) hz.symm)
    have Hz := Lib.hid hz.symm
    clear hz
    go_wp2_with fail
    refine (HM.out).mono ?_
    rintro e w3 ⟨⟨p, rfl, ht⟩, hb3⟩
    have HT := Lib.hid ht
    have Hb3 := Lib.hid hb3
    clear ht hb3 HM
    go_wp2_with fail
    go_ret
    refine ⟨ok_rpost (a := lsOf zs) (by unfold tableR; rw [if_pos Hz.out]) ⟨Hz.out, p, rfl, ?_⟩, Hb2.out.trans (Hb3.out.mono Hb2.out.size)⟩
    obtain ⟨h1, v, h2, h3⟩ := HT.out
    exact ⟨Nat.le_trans Hb2.out.size h1, v, h2, own_base h3 Hb2.out.size⟩
  · have hz1 : (z != 0) = true := by simpa using h0
    have Hz := Lib.hid (show chkL zs ≠ 0 by rw [← hz]; exact h0)
    clear hz
    go_wp2_with fail
    refine (fail_any 8 _).mono ?_
    rintro e w3 ⟨rfl, rfl⟩
    unfold stopE
    go_wp2_with fail
    exact ⟨rfl, bad_rpost (by unfold tableR; rw [if_neg Hz.out]), Hb2.out⟩
/-- again: the closure of lengths; l in a cell of its own, n in another one -/
theorem again_low (n : Nat) : (n : Int) = (n : Int) := rfl
end Go.Proofs.Ythpdcnjaodjjmaa.Inf

/- package block: what symbols say; the code that is told to nobody. -/
namespace Go.Proofs.Ythpdcnjaodjjmaa.Inf
open Go Go.RowKit Go.Proofs.Ythpdcnjaodjjmaa Go.Proofs.Ythpdcnjaodjjmaa.Bits Go.Proofs.Ythpdcnjaodjjmaa.Code
set_option linter.unusedVariables false

theorem run_maxI {P : Program} (ts : Array TypeId) (t : TypeId) (a b : Int) (w : World) :
    (Builtin.max_ ts t #[.int .i64 a, .int .i64 b]).run P w = .ok (.int .i64 (max a b)) w := by
  simp [Builtin.max_, Builtin.max2]
  (repeat' split) <;> omega
theorem tyI : SliceTy Try.prog 30 3 (.int .i64 0) 1 8 := ⟨Try.underlying30, by kernel_rfl, rfl, by omega⟩
def exC (x : Nat × Nat) : List Value := [.int .i64 (x.1 : Int), .int .i64 (x.2 : Int)]
theorem exC_len (l : List (Nat × Nat)) : (l.flatMap exC).length = l.length * 2 := by
  induction l with
  | nil => rfl
  | cons a l ih => rw [List.flatMap_cons, List.length_append, ih, List.length_cons]; simp [exC]; omega
theorem tyX : SliceTy Try.prog 118 123 (.agg #[.int .i64 0, .int .i64 0]) 2 16 := ⟨Try.underlying118, by kernel_rfl, rfl, by omega⟩
def fromS (k : Nat) : Nat := (List.range k).foldl (fun f i => f + 2 ^ (i / 4 - 1)) 3
theorem fromS_next (k : Nat) : fromS (k + 1) = fromS k + 2 ^ (k / 4 - 1) := by unfold fromS; rw [List.range_succ, List.foldl_append]; rfl
theorem sameL_get : ∀ k < 28, sameL.getD k (0, 0) = (fromS k, k / 4 - 1) ∧ fromS k ≤ 1000 := by decide
set_option maxRecDepth 100000 in
set_option maxHeartbeats 1600000 in
theorem sames_any (w : World) : Calls Try.prog 68 #[] w fun e w' => ∃ A c, e = .returned (.slice A 29 c) ∧ w'.ownsRow w.heap.size 123 2 (.slice A 29 c) 29 (sameL.flatMap exC) ∧ Below w.heap.size w w' := by
  go_enter Try.func68, Try.ntmps68
  go_wp2_with fail
  go_loopw [1, 2, 5] (fun pl pf vi wr => ∃ k : Nat, k ≤ 28 ∧ vi = .int .i64 (k : Int) ∧ pf = .int .i64 (fromS k : Int) ∧ wr.ownsRow w.heap.size 123 2 pl k ((sameL.take k).flatMap exC) ∧ Below w.heap.size w wr) (fun _ _ vi _ => 28 - (intOf vi).toNat)
  case atStart => exact ⟨0, Nat.zero_le _, rfl, rfl, World.ownsRow_nil .., Below.refl _ _⟩
  case round =>
    obtain ⟨k, hk, rfl, rfl, ho, hb⟩ := hrel
    have HO := Lib.hid ho
    have Hb := Lib.hid hb
    clear ho hb
    by_cases hlt : k < 28
    · obtain ⟨h1, h2⟩ := sameL_get k hlt
      obtain ⟨b, hb⟩ : ∃ b, b = k / 4 - 1 := ⟨_, rfl⟩
      have hmm : max (0 : Int) ((k : Int) / 4 - 1) = (b : Int) := by omega
      have hmax : ∀ (ts : Array TypeId) (ty : TypeId) (W : World), (Builtin.max_ ts ty #[.int .i64 0, .int .i64 ((k : Int) / 4 - 1)]).run Try.prog W = .ok (.int .i64 (b : Int)) W := fun ts ty W => by rw [run_maxI, hmm]
      rw [← hb] at h1
      have hnx := fromS_next k
      rw [← hb] at hnx
      obtain ⟨f, hf⟩ : ∃ f, f = fromS k := ⟨_, rfl⟩
      rw [← hf] at h1 h2 hnx ⊢
      have hb8 : b ≤ 8 := by omega
      have hp2 : 2 ^ b ≤ 256 := Nat.le_trans (Nat.pow_le_pow_right (by omega) hb8) (by decide)
      have hpi : ((2 : Int) ^ b) = ((2 ^ b : Nat) : Int) := by simp
      have hsh : IntKind.i64.wrap ((2 : Int) ^ b) = (2 : Int) ^ b := by
        rw [hpi]
        exact IntWalk.i64_in _ (by omega)
      have hsm : IntKind.i64.wrap ((f : Int) + (2 : Int) ^ b) = ((f + 2 ^ b : Nat) : Int) := by
        rw [hpi, ← Int.natCast_add]
        exact IntWalk.i64_in _ (by omega)
      have H1 := Lib.hid h1
      have Hnx := Lib.hid hnx
      have hba : Below wr.heap.size wr (wr.alloc (.cells #[.int .i64 (f : Int), .int .i64 (b : Int)] 123)) := (Below.refl _ _).alloc (Nat.le_refl _) _
      have HO2 := Lib.hid (own_keep HO.out hba)
      have Hb2 := Lib.hid (Hb.out.trans (hba.mono Hb.out.size))
      have HZ : Hid (SlAt (wr.alloc (.cells #[.int .i64 (f : Int), .int .i64 (b : Int)] 123)) (some ⟨wr.heap.size, 0, none⟩) [.int .i64 (f : Int), .int .i64 (b : Int)]) := Lib.hid (SlAt.of_heap (heap_alloc_new _ _) rfl)
      clear h1 hnx hf hb hmm hba hpi
      go_wp2_with (at_builtin; refine wpList_app _ rfl (.tmp 12) (.tmp 16) _ rfl w.heap.size 123 _ 2 16 tyX _ k ((sameL.take k).flatMap exC) rfl HO2.out (some ⟨wr.heap.size, 0, none⟩) 1 1 [.int .i64 (f : Int), .int .i64 (b : Int)] rfl rfl HZ.out (by simp [Value.oneCell']) (by simp) (by unfold maxLen; omega) (by omega) Hb2.out.size ?_; intro v8 w8 hown8 hg8 _; have Hb8 := Lib.hid (own_below HO2.out hg8 Hb2.out Hb2.out.size); have Ho8 := Lib.hid hown8; clear hown8 hg8)
      go_roundw
      case rel => exact ⟨k + 1, by omega, by go_num, by rw [Hnx.out]; simp, by
        have h : sameL.take (k + 1) = sameL.take k ++ [(f, b)] := by
          have hk29 : k < sameL.length := by show k < 29; omega
          rw [take_snoc _ _ hk29]
          congr 2
          have := H1.out
          rw [List.getD_eq_getElem?_getD, List.getElem?_eq_getElem hk29] at this
          exact this
        rw [h, List.flatMap_append]
        exact Ho8.out, Hb8.out⟩
      case measure => simp [intOf]; omega
    · obtain rfl : k = 28 := by omega
      have hba : Below wr.heap.size wr (wr.alloc (.cells #[.int .i64 258, .int .i64 0] 123)) := (Below.refl _ _).alloc (Nat.le_refl _) _
      have HO2 := Lib.hid (own_keep HO.out hba)
      have Hb2 := Lib.hid (Hb.out.trans (hba.mono Hb.out.size))
      have HZ : Hid (SlAt (wr.alloc (.cells #[.int .i64 258, .int .i64 0] 123)) (some ⟨wr.heap.size, 0, none⟩) [.int .i64 258, .int .i64 0]) := Lib.hid (SlAt.of_heap (heap_alloc_new _ _) rfl)
      clear hba
      go_wp2_with (at_builtin; refine wpList_app _ rfl (.tmp 23) (.tmp 25) _ rfl w.heap.size 123 _ 2 16 tyX _ 28 ((sameL.take 28).flatMap exC) rfl HO2.out (some ⟨wr.heap.size, 0, none⟩) 1 1 [.int .i64 258, .int .i64 0] rfl rfl HZ.out (by simp [Value.oneCell']) (by simp) (by unfold maxLen; omega) (by omega) Hb2.out.size ?_; intro v8 w8 hown8 hg8 _; have Hb8 := Lib.hid (own_below HO2.out hg8 Hb2.out Hb2.out.size); have Ho8 := Lib.hid hown8; clear hown8 hg8)
      go_ret
      obtain ⟨A8, c8, rfl, _⟩ := own_slat Ho8.out
      refine ⟨A8, c8, rfl, ?_, Hb8.out⟩
      have h : sameL.flatMap exC = (sameL.take 28).flatMap exC ++ [.int .i64 258, .int .i64 0] := by rfl
      rw [h]
      exact Ho8.out
def fromF (k : Nat) : Nat := (List.range k).foldl (fun f i => f + 2 ^ (i / 2 - 1)) 1
theorem fromF_next (k : Nat) : fromF (k + 1) = fromF k + 2 ^ (k / 2 - 1) := by unfold fromF; rw [List.range_succ, List.foldl_append]; rfl
theorem farL_get : ∀ k < 30, farL.getD k (0, 0) = (fromF k, k / 2 - 1) ∧ fromF k ≤ 40000 := by decide
set_option maxRecDepth 100000 in
set_option maxHeartbeats 1600000 in
theorem fars_any (w : World) : Calls Try.prog 69 #[] w fun e w' => ∃ A c, e = .returned (.slice A 30 c) ∧ w'.ownsRow w.heap.size 123 2 (.slice A 30 c) 30 (farL.flatMap exC) ∧ Below w.heap.size w w' := by
  go_enter Try.func69, Try.ntmps69
  go_wp2_with fail
  go_loopw [1, 2, 5] (fun pl pf vi wr => ∃ k : Nat, k ≤ 30 ∧ vi = .int .i64 (k : Int) ∧ pf = .int .i64 (fromF k : Int) ∧ wr.ownsRow w.heap.size 123 2 pl k ((farL.take k).flatMap exC) ∧ Below w.heap.size w wr) (fun _ _ vi _ => 30 - (intOf vi).toNat)
  case atStart => exact ⟨0, Nat.zero_le _, rfl, rfl, World.ownsRow_nil .., Below.refl _ _⟩
  case round =>
    obtain ⟨k, hk, rfl, rfl, ho, hb⟩ := hrel
    have HO := Lib.hid ho
    have Hb := Lib.hid hb
    clear ho hb
    by_cases hlt : k < 30
    · obtain ⟨h1, h2⟩ := farL_get k hlt
      obtain ⟨b, hb⟩ : ∃ b, b = k / 2 - 1 := ⟨_, rfl⟩
      have hmm : max (0 : Int) ((k : Int) / 2 - 1) = (b : Int) := by omega
      have hmax : ∀ (ts : Array TypeId) (ty : TypeId) (W : World), (Builtin.max_ ts ty #[.int .i64 0, .int .i64 ((k : Int) / 2 - 1)]).run Try.prog W = .ok (.int .i64 (b : Int)) W := fun ts ty W => by rw [run_maxI, hmm]
      rw [← hb] at h1
      have hnx := fromF_next k
      rw [← hb] at hnx
      obtain ⟨f, hf⟩ : ∃ f, f = fromF k := ⟨_, rfl⟩
      rw [← hf] at h1 h2 hnx ⊢
      have hb8 : b ≤ 14 := by omega
      have hp2 : 2 ^ b ≤ 16384 := Nat.le_trans (Nat.pow_le_pow_right (by omega) hb8) (by decide)
      have hpi : ((2 : Int) ^ b) = ((2 ^ b : Nat) : Int) := by simp
      have hsh : IntKind.i64.wrap ((2 : Int) ^ b) = (2 : Int) ^ b := by
        rw [hpi]
        exact IntWalk.i64_in _ (by omega)
      have hsm : IntKind.i64.wrap ((f : Int) + (2 : Int) ^ b) = ((f + 2 ^ b : Nat) : Int) := by
        rw [hpi, ← Int.natCast_add]
        exact IntWalk.i64_in _ (by omega)
      have H1 := Lib.hid h1
      have Hnx := Lib.hid hnx
      have hba : Below wr.heap.size wr (wr.alloc (.cells #[.int .i64 (f : Int), .int .i64 (b : Int)] 123)) := (Below.refl _ _).alloc (Nat.le_refl _) _
      have HO2 := Lib.hid (own_keep HO.out hba)
      have Hb2 := Lib.hid (Hb.out.trans (hba.mono Hb.out.size))
      have HZ : Hid (SlAt (wr.alloc (.cells #[.int .i64 (f : Int), .int .i64 (b : Int)] 123)) (some ⟨wr.heap.size, 0, none⟩) [.int .i64 (f : Int), .int .i64 (b : Int)]) := Lib.hid (SlAt.of_heap (heap_alloc_new _ _) rfl)
      clear h1 hnx hf hb hmm hba hpi
      go_wp2_with (at_builtin; refine wpList_app _ rfl (.tmp 12) (.tmp 16) _ rfl w.heap.size 123 _ 2 16 tyX _ k ((farL.take k).flatMap exC) rfl HO2.out (some ⟨wr.heap.size, 0, none⟩) 1 1 [.int .i64 (f : Int), .int .i64 (b : Int)] rfl rfl HZ.out (by simp [Value.oneCell']) (by simp) (by unfold maxLen; omega) (by omega) Hb2.out.size ?_; intro v8 w8 hown8 hg8 _; have Hb8 := Lib.hid (own_below HO2.out hg8 Hb2.out Hb2.out.size); have Ho8 := Lib.hid hown8; clear hown8 hg8)
      go_roundw
      case rel => exact ⟨k + 1, by omega, by go_num, by rw [Hnx.out]; simp, by
        have h : farL.take (k + 1) = farL.take k ++ [(f, b)] := by
          have hk29 : k < farL.length := by show k < 30; omega
          rw [take_snoc _ _ hk29]
          congr 2
          have := H1.out
          rw [List.getD_eq_getElem?_getD, List.getElem?_eq_getElem hk29] at this
          exact this
        rw [h, List.flatMap_append]
        exact Ho8.out, Hb8.out⟩
      case measure => simp [intOf]; omega
    · obtain rfl : k = 30 := by omega
      obtain ⟨A8, c8, rfl, _⟩ := own_slat HO.out
      go_wp2_with fail
      go_ret
      exact ⟨A8, c8, rfl, HO.out, Hb.out⟩
def ints2 (l : List Nat) : List Value := l.map natV
set_option maxRecDepth 100000 in
set_option maxHeartbeats 4000000 in
theorem fixed_any (w : World) : Calls Try.prog 37 #[] w fun e w' => ∃ A a B b, e = .returned (.tuple #[.slice A 288 a, .slice B 32 b]) ∧ w'.ownsRow w.heap.size 3 1 (.slice A 288 a) 288 (fixedA.map natV) ∧ w'.ownsRow w.heap.size 3 1 (.slice B 32 b) 32 (fixedB.map natV) ∧ Below w.heap.size w w' := by
  go_enter Try.func37, Try.ntmps37
  go_wp2_with fail
  go_loopw [0, 4] (fun pl vi wr => ∃ k : Nat, k ≤ 288 ∧ vi = .int .i64 (k : Int) ∧ wr.ownsRow w.heap.size 3 1 pl k ((fixedA.take k).map natV) ∧ Below w.heap.size w wr) (fun _ vi _ => 288 - (intOf vi).toNat)
  case atStart => exact ⟨0, Nat.zero_le _, rfl, World.ownsRow_nil .., Below.refl _ _⟩
  case round =>
    obtain ⟨k, hk, rfl, ho, hb⟩ := hrel
    have HO := Lib.hid ho
    have Hb := Lib.hid hb
    clear ho hb
    by_cases hlt : k < 288
    · have hkl : k < fixedA.length := by simp [fixedA]; omega
      have HT : Hid ((fixedA.take (k + 1)).map natV = (fixedA.take k).map natV ++ [natV fixedA[k]]) := Lib.hid (by rw [take_snoc _ _ hkl, List.map_append]; rfl)
      have hv : fixedA[k] = if 144 ≤ k ∧ k < 256 then 9 else if 256 ≤ k ∧ k < 280 then 7 else 8 := by simp [fixedA]
      rcases (by omega : (144 ≤ k ∧ k < 256) ∨ (256 ≤ k ∧ k < 280) ∨ (k < 144 ∨ 280 ≤ k)) with hc | hc | hc
      · have hvv : fixedA[k] = 9 := by rw [hv]; rw [if_pos hc]
        have HT2 : Hid ((fixedA.take (k + 1)).map natV = (fixedA.take k).map natV ++ [.int .i64 9]) := Lib.hid (by rw [HT.out, hvv]; rfl)
        have hba : Below wr.heap.size wr (wr.alloc (.cells #[.int .i64 9] 3)) := (Below.refl _ _).alloc (Nat.le_refl _) _
        have HO2 := Lib.hid (own_keep HO.out hba)
        have Hb2 := Lib.hid (Hb.out.trans (hba.mono Hb.out.size))
        have HZ : Hid (SlAt (wr.alloc (.cells #[.int .i64 9] 3)) (some ⟨wr.heap.size, 0, none⟩) [.int .i64 9]) := Lib.hid (SlAt.of_heap (heap_alloc_new _ _) rfl)
        have hq1 : (144 : Int) ≤ (k : Int) := by omega
        have hq2 : (k : Int) < 256 := by omega
        clear hba hv hvv hkl HT hc
        go_wp2_with (at_builtin; refine wpList_app _ rfl (.tmp 21) (.tmp 23) _ rfl w.heap.size 3 _ 1 8 tyI _ k ((fixedA.take k).map natV) rfl HO2.out (some ⟨wr.heap.size, 0, none⟩) 1 1 [.int .i64 9] rfl rfl HZ.out (by simp [Value.oneCell']) (by simp) (by unfold maxLen; omega) (by omega) Hb2.out.size ?_; intro v8 w8 hown8 hg8 _; have Hb8 := Lib.hid (own_below HO2.out hg8 Hb2.out Hb2.out.size); have Ho8 := Lib.hid hown8; clear hown8 hg8)
        all_goals (
          go_roundw
          case rel => exact ⟨k + 1, by omega, by go_num, by rw [HT2.out]; exact Ho8.out, Hb8.out⟩
          case measure => simp [intOf]; omega)
      · have hvv : fixedA[k] = 7 := by rw [hv]; rw [if_neg (by omega), if_pos hc]
        have HT2 : Hid ((fixedA.take (k + 1)).map natV = (fixedA.take k).map natV ++ [.int .i64 7]) := Lib.hid (by rw [HT.out, hvv]; rfl)
        have hba : Below wr.heap.size wr (wr.alloc (.cells #[.int .i64 7] 3)) := (Below.refl _ _).alloc (Nat.le_refl _) _
        have HO2 := Lib.hid (own_keep HO.out hba)
        have Hb2 := Lib.hid (Hb.out.trans (hba.mono Hb.out.size))
        have HZ : Hid (SlAt (wr.alloc (.cells #[.int .i64 7] 3)) (some ⟨wr.heap.size, 0, none⟩) [.int .i64 7]) := Lib.hid (SlAt.of_heap (heap_alloc_new _ _) rfl)
        have hq1 : (144 : Int) ≤ (k : Int) := by omega
        have hq2 : ¬ (k : Int) < 256 := by omega
        have hq3 : (256 : Int) ≤ (k : Int) := by omega
        have hq4 : (k : Int) < 280 := by omega
        clear hba hv hvv hkl HT hc
        go_wp2_with (at_builtin; refine wpList_app _ rfl (.tmp 21) (.tmp 23) _ rfl w.heap.size 3 _ 1 8 tyI _ k ((fixedA.take k).map natV) rfl HO2.out (some ⟨wr.heap.size, 0, none⟩) 1 1 [.int .i64 7] rfl rfl HZ.out (by simp [Value.oneCell']) (by simp) (by unfold maxLen; omega) (by omega) Hb2.out.size ?_; intro v8 w8 hown8 hg8 _; have Hb8 := Lib.hid (own_below HO2.out hg8 Hb2.out Hb2.out.size); have Ho8 := Lib.hid hown8; clear hown8 hg8)
        all_goals (
          go_roundw
          case rel => exact ⟨k + 1, by omega, by go_num, by rw [HT2.out]; exact Ho8.out, Hb8.out⟩
          case measure => simp [intOf]; omega)
      · have hvv : fixedA[k] = 8 := by rw [hv]; rw [if_neg (by omega), if_neg (by omega)]
        have HT2 : Hid ((fixedA.take (k + 1)).map natV = (fixedA.take k).map natV ++ [.int .i64 8]) := Lib.hid (by rw [HT.out, hvv]; rfl)
        have hba : Below wr.heap.size wr (wr.alloc (.cells #[.int .i64 8] 3)) := (Below.refl _ _).alloc (Nat.le_refl _) _
        have HO2 := Lib.hid (own_keep HO.out hba)
        have Hb2 := Lib.hid (Hb.out.trans (hba.mono Hb.out.size))
        have HZ : Hid (SlAt (wr.alloc (.cells #[.int .i64 8] 3)) (some ⟨wr.heap.size, 0, none⟩) [.int .i64 8]) := Lib.hid (SlAt.of_heap (heap_alloc_new _ _) rfl)
        clear hv hvv hkl HT
        rcases hc with hc | hc
        · have hq1 : ¬ (144 : Int) ≤ (k : Int) := by omega
          have hq3 : ¬ (256 : Int) ≤ (k : Int) := by omega
          clear hba hc
          go_wp2_with (at_builtin; refine wpList_app _ rfl (.tmp 21) (.tmp 23) _ rfl w.heap.size 3 _ 1 8 tyI _ k ((fixedA.take k).map natV) rfl HO2.out (some ⟨wr.heap.size, 0, none⟩) 1 1 [.int .i64 8] rfl rfl HZ.out (by simp [Value.oneCell']) (by simp) (by unfold maxLen; omega) (by omega) Hb2.out.size ?_; intro v8 w8 hown8 hg8 _; have Hb8 := Lib.hid (own_below HO2.out hg8 Hb2.out Hb2.out.size); have Ho8 := Lib.hid hown8; clear hown8 hg8)
          all_goals (
            go_roundw
            case rel => exact ⟨k + 1, by omega, by go_num, by rw [HT2.out]; exact Ho8.out, Hb8.out⟩
            case measure => simp [intOf]; omega)
        · have hq1 : (144 : Int) ≤ (k : Int) := by omega
          have hq2 : ¬ (k : Int) < 256 := by omega
          have hq3 : (256 : Int) ≤ (k : Int) := by omega
          have hq4 : ¬ (k : Int) < 280 := by omega
          clear hba hc
          go_wp2_with (at_builtin; refine wpList_app _ rfl (.tmp 21) (.tmp 23) _ rfl w.heap.size 3 _ 1 8 tyI _ k ((fixedA.take k).map natV) rfl HO2.out (some ⟨wr.heap.size, 0, none⟩) 1 1 [.int .i64 8] rfl rfl HZ.out (by simp [Value.oneCell']) (by simp) (by unfold maxLen; omega) (by omega) Hb2.out.size ?_; intro v8 w8 hown8 hg8 _; have Hb8 := Lib.hid (own_below HO2.out hg8 Hb2.out Hb2.out.size); have Ho8 := Lib.hid hown8; clear hown8 hg8)
          all_goals (
            go_roundw
            case rel => exact ⟨k + 1, by omega, by go_num, by rw [HT2.out]; exact Ho8.out, Hb8.out⟩
            case measure => simp [intOf]; omega)
    · obtain rfl : k = 288 := by omega
      obtain ⟨A8, c8, rfl, _⟩ := own_slat HO.out
      have HOA := HO
      have HbA := Hb
      obtain ⟨w1, rfl⟩ : ∃ w1, w1 = wr := ⟨_, rfl⟩
      clear hlt hk
      go_wp2_with fail
      go_loopw [1, 26] (fun pl vi wr => ∃ k : Nat, k ≤ 32 ∧ vi = .int .i64 (k : Int) ∧ wr.ownsRow w1.heap.size 3 1 pl k ((fixedB.take k).map natV) ∧ Below w1.heap.size w1 wr) (fun _ vi _ => 32 - (intOf vi).toNat)
      case atStart => exact ⟨0, Nat.zero_le _, rfl, World.ownsRow_nil .., Below.refl _ _⟩
      case round =>
        obtain ⟨k, hk, rfl, ho, hb⟩ := hrel
        have HO := Lib.hid ho
        have Hb := Lib.hid hb
        clear ho hb
        by_cases hlt : k < 32
        · have HT : Hid ((fixedB.take (k + 1)).map natV = (fixedB.take k).map natV ++ [.int .i64 5]) := Lib.hid (by
            have hkl : k < fixedB.length := by simp [fixedB]; omega
            have hv : fixedB[k] = 5 := List.eq_of_mem_replicate (List.getElem_mem hkl)
            rw [take_snoc _ _ hkl, List.map_append, hv]
            rfl)
          have hba : Below wr.heap.size wr (wr.alloc (.cells #[.int .i64 5] 3)) := (Below.refl _ _).alloc (Nat.le_refl _) _
          have HO2 := Lib.hid (own_keep HO.out hba)
          have Hb2 := Lib.hid (Hb.out.trans (hba.mono Hb.out.size))
          have HZ : Hid (SlAt (wr.alloc (.cells #[.int .i64 5] 3)) (some ⟨wr.heap.size, 0, none⟩) [.int .i64 5]) := Lib.hid (SlAt.of_heap (heap_alloc_new _ _) rfl)
          clear hba
          go_wp2_with (at_builtin; refine wpList_app _ rfl (.tmp 28) (.tmp 29) _ rfl w1.heap.size 3 _ 1 8 tyI _ k ((fixedB.take k).map natV) rfl HO2.out (some ⟨wr.heap.size, 0, none⟩) 1 1 [.int .i64 5] rfl rfl HZ.out (by simp [Value.oneCell']) (by simp) (by unfold maxLen; omega) (by omega) Hb2.out.size ?_; intro v8 w8 hown8 hg8 _; have Hb8 := Lib.hid (own_below HO2.out hg8 Hb2.out Hb2.out.size); have Ho8 := Lib.hid hown8; clear hown8 hg8)
          go_roundw
          case rel => exact ⟨_, _, _, _, _, _, _, ⟨k + 1, by omega, by go_num, by rw [HT.out]; exact Ho8.out, Hb8.out⟩, rfl⟩
          case measure => simp [intOf]; omega
        · obtain rfl : k = 32 := by omega
          obtain ⟨B8, d8, rfl, _⟩ := own_slat HO.out
          go_wp2_with fail
          go_ret2
          refine ⟨A8, c8, B8, d8, rfl, ?_, own_base HO.out HbA.out.size, HbA.out.trans (Hb.out.mono HbA.out.size)⟩
          exact own_keep HOA.out Hb.out
end Go.Proofs.Ythpdcnjaodjjmaa.Inf

/- package block: what symbols say; the code that is told to nobody: see BlkFixed. -/

/-
  DERIVED: THE SHELF's CONTRACTS AT THIS DUMP, IN PLAIN WORDS (tools/lay-plain.mjs out of 'YthpdcnjaodjjmaaShelfMul.lean', which tools/lay-shelf.mjs wrote): THE SAME DECLARATIONS UNDER THE SAME NAMES: 'import', 'namespace', 'open', 'def', 'theorem' AND NOTHING ELSE: no command of the shelf's: FOR A HAND-IN. Each laying: the table of numbers ('.._ren') and one theorem, a field a fact of the dump's own or the kernel's comparison; each contract: ONE APPLICATION.
-/
namespace Go.Proofs
open Go.Shelf
def Ythpdcnjaodjjmaa.lays212_ren : Go.Shelf.Ren := ⟨fun | 212 => 100 | 263 => 109 | 264 => 110 | n => n, fun | 46 => 41 | 51 => 39 | 146 => 171 | 53 => 173 | 148 => 174 | n => n, fun | n => n⟩
theorem Ythpdcnjaodjjmaa.lays212 : Go.Proofs.Lays.n212 Try.prog Ythpdcnjaodjjmaa.lays212_ren := {
  mixed := by kernel_rfl
  f212 := Try.func100.trans (congrArg some (by kernel_rfl))
  f263 := Try.func109.trans (congrArg some (by kernel_rfl))
  f264 := Try.func110.trans (congrArg some (by kernel_rfl))
  t46 := Try.underlying41
  a46 := Try.isAgg41
  z46 := Try.sizeOf41
  v46 := Try.zeroValue41
  t51 := Try.underlying39
  a51 := Try.isAgg39
  z51 := Try.sizeOf39
  v51 := Try.zeroValue39
  t53 := Try.underlying173
  a53 := Try.isAgg173
  z53 := Try.sizeOf173
  v53 := Try.zeroValue173
  t146 := Try.underlying171
  a146 := Try.isAgg171
  z146 := Try.sizeOf171
  v146 := Try.zeroValue171
  t148 := Try.underlying174
  a148 := Try.isAgg174
  z148 := Try.sizeOf174
  v148 := Try.zeroValue174 }
end Go.Proofs

/- slices.Repeat of one number. -/
namespace Go.Proofs.Ythpdcnjaodjjmaa.Inf
open Go Go.RowKit Go.Proofs.Ythpdcnjaodjjmaa Go.Proofs.Ythpdcnjaodjjmaa.Code
set_option linter.unusedVariables false
set_option linter.unusedSimpArgs false

/-- n of k numbers are told, the rest is 0 -/
def repRow (v : Int) (k n : Nat) : List Value := List.replicate n (.int .i64 v) ++ List.replicate (k - n) (.int .i64 0)
theorem repRow_len (v : Int) (k n : Nat) (h : n ≤ k) : (repRow v k n).length = k := by simp [repRow]; omega
theorem repRow_end (v : Int) (k : Nat) : repRow v k k = List.replicate k (.int .i64 v) := by simp [repRow]
theorem repRow_zero (v : Int) (k : Nat) : madeCells #[.int .i64 0] k = (repRow v k 0).toArray := by
  rw [nats_zero]
  unfold nats repRow natV
  simp
theorem repRow_more (v : Int) (k n m : Nat) (h : n + m ≤ k) : splice (repRow v k n) n (List.replicate m (.int .i64 v)) = repRow v k (n + m) := by
  unfold splice repRow
  rw [List.length_replicate, List.take_append_of_le_length (by simp), List.take_of_length_le (by simp), List.drop_append, List.drop_of_length_le (by simp)]
  simp only [List.length_replicate, List.nil_append, List.drop_replicate]
  rw [← List.append_assoc, List.replicate_append_replicate]
  congr 2
  omega
theorem repRow_get (v : Int) (k n j : Nat) (h : j < n) : (repRow v k n)[j]? = some (.int .i64 v) := by
  unfold repRow
  rw [List.getElem?_append_left (by simp; omega), List.getElem?_replicate, if_pos h]
theorem src_of {w : World} {A : Option Addr} {X : List Value} (h : SlAt w A X) : 0 < X.length → ∃ ad, A = some ad ∧ ∀ j v, X[j]? = some v → w.cell? (ad.add j) = some v := fun hp => by
  obtain ⟨b, o, e, hc⟩ := h hp
  exact ⟨_, e, fun j v hj => by
    have := hc j v hj
    by_cases hj0 : j = 0
    · subst hj0; simpa [Addr.add] using this
    · simpa [Addr.add, hj0] using this⟩
theorem sizeI : (Try.prog.info? 3).map (·.size) = some 1 := by kernel_rfl
set_option maxRecDepth 100000 in
set_option maxHeartbeats 1600000 in
theorem repeat1_any (A : Option Addr) (c k : Nat) (v : Int) (w : World) (hA : SlAt w A [.int .i64 v]) (h1 : 1 ≤ k) (hk : k ≤ 1000) :
    Calls Try.prog 81 #[.slice A 1 c, .int .i64 (k : Int)] w fun e w' => (∃ A', e = .returned (.slice A' k k) ∧ SlAt w' A' (List.replicate k (.int .i64 v))) ∧ Below w.heap.size w w' := by
  have hv1 : k < 18446744073709551616 := by omega
  have HM : Hid (∀ W, Calls Try.prog 100 #[.int .u64 1, .int .u64 (k : Int)] W fun e w' => e = .returned (.tuple #[.int .u64 0, .int .u64 (k : Int)]) ∧ w' = W) := Lib.hid (fun W => by
    have h := Any.bits_Mul Ythpdcnjaodjjmaa.lays212 1 k (by omega) hv1 W
    rw [Nat.one_mul, Nat.div_eq_of_lt hv1, Nat.mod_eq_of_lt hv1] at h
    exact h)
  have hmk := make_ints k (by omega)
  have HA := Lib.hid hA
  have Hz := Lib.hid (repRow_zero v k)
  clear hA hv1
  go_enter Try.func81, Try.ntmps81
  go_wp2_with fail
  refine (HM.out _).mono ?_
  rintro e w2 ⟨rfl, rfl⟩
  obtain ⟨g, hg⟩ : ∃ g, g = w2.heap.size := ⟨_, rfl⟩
  have Hg := Lib.hid hg
  obtain ⟨X, hX⟩ : ∃ X, X = [Value.int .i64 v] := ⟨_, rfl⟩
  have HX := Lib.hid hX
  rw [← hX] at HA
  obtain ⟨r0, hr0⟩ : ∃ r, r = repRow v k 0 := ⟨_, rfl⟩
  rw [← hr0] at Hz
  have HR0 := Lib.hid hr0
  have hk1 : X.length = Nat.min 1 k := by rw [hX]; exact (Nat.min_eq_left h1).symm
  have hX1 : X.length = 1 := by rw [hX]; rfl
  have Hr0 : Hid (r0.length = k) := Lib.hid (by rw [hr0]; exact repRow_len v k 0 (by omega))
  have Hone : Hid (∀ u ∈ X, u.oneCell' = true) := Lib.hid (by rw [hX]; simp [Value.oneCell'])
  have HMk : Hid (∀ (u : World), (Instr.makeSlice 30 (.int .i64 (k : Int)) (.int .i64 (k : Int))).run Try.prog u = .ok (.slice (some ⟨u.heap.size, 0, none⟩) k k) (u.alloc (.cells r0.toArray 3))) := Lib.hid (fun u => by rw [hmk u, Hz.out])
  replace hmk := HMk.out w2
  rw [← hg] at hmk
  have Hnew : Hid ((w2.alloc (.cells r0.toArray 3)).heap[g]? = some (.cells r0.toArray 3 (0, 0))) := Lib.hid (by rw [hg]; exact heap_alloc_new _ _)
  have Hb1 : Hid (Below w2.heap.size w2 (w2.alloc (.cells r0.toArray 3))) := Lib.hid ((Below.refl _ _).alloc (Nat.le_refl _) _)
  have HA1 := Lib.hid (src_of (HA.out.below Hb1.out))
  clear HM HMk hg hX hr0 Hz
  generalize w2.alloc (.cells r0.toArray 3) = w3 at *
  go_wp2_with (with_reducible refine wpList_copy_splice (o := ⟨some 33, _, _, _, _, _⟩) ?hgd (.tmp 31) (.tmp 32) 30 30 ?ho 3 ?hu ?hsz (some ⟨g, 0, none⟩) A k k 1 c ?hd ?hs g 0 r0 3 ?hg X ?hn ?hpos ?hfit ?h1 w2.heap.size w2 ?hb ?hBg ?h; (case hgd => (rfl)); (case ho => (rfl)); (case hu => (exact Try.underlying30)); (case hsz => (exact sizeI)); (case hd => (simp [Act.eval])); (case hs => (simp [Act.eval])); (case hg => (exact Hnew.out)); (case hn => (exact hk1)); (case hpos => (exact (fun hp => ⟨rfl, HA1.out hp⟩))); (case hfit => (rw [hX1, Hr0.out]; omega)); (case h1 => (exact Hone.out)); (case hb => (exact Hb1.out)); (case hBg => (rw [Hg.out]; exact Nat.le_refl _)); intro w4 HG4 hB4; rw [hX1]; have HB4 := Lib.hid hB4; clear hB4)
  have HG4 : Hid (w4.heap[g]? = some (.cells (repRow v k 1).toArray 3 (0, 0))) := Lib.hid (by
    rw [HG4.out, HR0.out, HX.out]
    exact congrArg (fun l => some (Obj.cells (List.toArray l) 3 (0, 0))) (repRow_more v k 0 1 (by omega)))
  clear Hb1 HA1 Hnew HA Hr0 hk1 hX1 Hone HX HR0 hmk
  go_loopw [8] (fun vn wr => ∃ n : Nat, 1 ≤ n ∧ n ≤ k ∧ vn = .int .i64 (n : Int) ∧ wr.heap[g]? = some (.cells (repRow v k n).toArray 3 (0, 0)) ∧ Below w2.heap.size w2 wr) (fun vn _ => k - (intOf vn).toNat)
  case atStart => exact ⟨1, by omega, h1, rfl, HG4.out, HB4.out⟩
  case round =>
    obtain ⟨n, hn1, hnk, rfl, hg, hb⟩ := hrel
    have HG := Lib.hid hg
    have HB := Lib.hid hb
    clear hg hb HG4 HB4
    by_cases hlt : n < k
    · obtain ⟨m, hm⟩ : ∃ m, m = Nat.min n (k - n) := ⟨_, rfl⟩
      have hm1 : 1 ≤ m ∧ n + m ≤ k := by rw [hm]; show 1 ≤ min n (k - n) ∧ n + min n (k - n) ≤ k; omega
      obtain ⟨X, hX⟩ : ∃ X, X = List.replicate m (Value.int .i64 v) := ⟨_, rfl⟩
      have hXl : X.length = m := by rw [hX]; simp
      have Hone : Hid (∀ u ∈ X, u.oneCell' = true) := Lib.hid (by rw [hX]; intro u hu; rw [List.eq_of_mem_replicate hu]; rfl)
      obtain ⟨r0, hr0⟩ : ∃ r, r = repRow v k n := ⟨_, rfl⟩
      have Hrl : Hid (r0.length = k) := Lib.hid (by rw [hr0]; exact repRow_len v k n hnk)
      have HS : Hid (splice r0 n X = repRow v k (n + m)) := Lib.hid (by rw [hr0, hX]; exact repRow_more v k n m hm1.2)
      have HA : Hid (SlAt wr (some ⟨g, 0, none⟩) X) := Lib.hid (fun _ => ⟨g, 0, rfl, fun j u hj => by
        rw [cell_of_row wr g _ _ _ _ HG.out]
        have hjm : j < m := by
          rcases Nat.lt_or_ge j m with h | h
          · exact h
          · rw [hX, List.getElem?_eq_none (by simp; omega)] at hj; cases hj
        rw [hX, List.getElem?_replicate, if_pos hjm] at hj
        rw [← hj, Nat.zero_add, List.getElem?_toArray]
        exact repRow_get v k n j (by have : m ≤ n := by rw [hm]; exact Nat.min_le_left _ _; 
                                     omega)⟩)
      rw [← hr0] at HG
      have hwn : IntKind.i64.wrap ((n : Int) + (m : Int)) = ((n + m : Nat) : Int) := by rw [show (n : Int) + (m : Int) = ((n + m : Nat) : Int) by omega]; exact IntWalk.i64_in _ (by omega)
      have hlt' : (n : Int) < (k : Int) := by omega
      have hkn : ¬ k = n := by omega
      have Hm := Lib.hid hm
      clear hm hX hr0
      go_wp2_with fail
      have hbd : Below wr.heap.size wr wr.drew := (Below.refl _ _).drew
      have HGd := Lib.hid (show wr.drew.heap[g]? = some (.cells r0.toArray 3 (0, 0)) from HG.out)
      have HAd := Lib.hid (src_of (HA.out.below hbd))
      have HBd := Lib.hid (show Below w2.heap.size w2 wr.drew from HB.out.drew)
      have Hmn : Hid (X.length = Nat.min n (k - n)) := Lib.hid (by rw [hXl]; exact Hm.out)
      clear hbd HG HA HB Hm
      go_region_law ((first
        | (refine step_copy_splice rfl (.tmp 41) (.tmp 44) 30 30 rfl 3 Try.underlying30 sizeI (some ⟨g, n, none⟩) (some ⟨g, 0, none⟩) (k - n) (k - n) n k (by simp [Act.eval, Act.put, hkn]) (by simp [Act.eval, Act.put, hkn]) g n r0 3 HGd.out X Hmn.out (fun hp => ⟨rfl, HAd.out hp⟩) (by rw [hXl, Hrl.out]; exact hm1.2) Hone.out w2.heap.size w2 HBd.out (by rw [Hg.out]; exact Nat.le_refl _) ?_
           intro w4 HG4 hB4
           rw [hXl]
           have HB4 := Lib.hid hB4
           clear hB4)))
      rw [HS.out] at HG4
      simp only [Act.put, List.getElem_toArray, List.getElem_cons_zero, List.getElem_cons_succ, List.setIfInBounds_toArray, List.set_cons_zero, List.set_cons_succ]
      go_roundw
      case rel =>
        first
        | exact ⟨_, _, _, _, _, _, _, _, ⟨n + m, by omega, by omega, rfl, HG4.out, HB4.out⟩, rfl⟩
        | exact ⟨_, _, _, _, _, _, _, _, _, ⟨n + m, by omega, by omega, rfl, HG4.out, HB4.out⟩, rfl⟩
        | exact ⟨_, _, _, _, _, _, _, _, _, _, ⟨n + m, by omega, by omega, rfl, HG4.out, HB4.out⟩, rfl⟩
        | exact ⟨_, _, _, _, _, _, _, _, _, _, _, ⟨n + m, by omega, by omega, rfl, HG4.out, HB4.out⟩, rfl⟩
        | exact ⟨_, _, _, _, _, _, _, _, _, _, _, _, ⟨n + m, by omega, by omega, rfl, HG4.out, HB4.out⟩, rfl⟩
        | exact ⟨_, _, _, _, _, _, _, _, _, _, _, _, _, ⟨n + m, by omega, by omega, rfl, HG4.out, HB4.out⟩, rfl⟩
        | exact ⟨_, _, _, _, _, _, _, _, _, _, _, _, _, _, ⟨n + m, by omega, by omega, rfl, HG4.out, HB4.out⟩, rfl⟩
      case measure => simp [intOf]; omega
    · obtain rfl : n = k := by omega
      have hlt' : ¬ (n : Int) < (n : Int) := by omega
      go_wp2_with fail
      go_ret
      exact ⟨⟨_, rfl, SlAt.of_heap HG.out (by rw [repRow_end])⟩, HB.out⟩
end Go.Proofs.Ythpdcnjaodjjmaa.Inf

/- a region that draws its order and ends in one operation that waits for all others: a condition on the world is kept till then. No program in sight. -/
namespace Go.Proofs.Ythpdcnjaodjjmaa
open Go
set_option linter.unusedVariables false

section
variable {P : Program} {ops : Array Oper} {Q : Exit → Act → World → Prop} {md : Region.Mode} {S : World → Prop} {n : Nat}
/-- number n waits for number i -/
def lastB (md : Region.Mode) (ops : Array Oper) (n i : Nat) : Bool :=
  match ops[n]? with
  | none => false
  | some o => o.after.any fun e => Region.binds md e && e.on == i
/-- whatever order is picked from here on, and S holds behind every operation but the last -/
def wpAnyS (P : Program) (md : Region.Mode) (ops : Array Oper) (Q : Exit → Act → World → Prop) (S : World → Prop) (n : Nat) : Nat → Array Bool → Act → World → Prop
  | 0, listed, a, w => Region.ready md ops listed = [] ∧ Q .normal a w
  | fuel + 1, listed, a, w =>
    (Region.ready md ops listed = [] → Q .normal a w) ∧
    ∀ i ∈ Region.ready md ops listed, wpOp P ops Q i (fun a' w' => (i ≠ n → S w') ∧ wpAnyS P md ops Q S n fuel (listed.setIfInBounds i true) a' w') a w
theorem wpAny_of_S : ∀ (fuel : Nat) (listed : Array Bool) (a : Act) (w : World), wpAnyS P md ops Q S n fuel listed a w → wpAny P md ops Q fuel listed a w
  | 0, _, _, _, h => h
  | fuel + 1, _, _, _, h => ⟨h.1, fun i hi => wpOp_mono (fun a' w' h' => wpAny_of_S fuel _ a' w' h'.2) (h.2 i hi)⟩
theorem wpAnyS_first {i : Nat} {oi : Oper} {v : Value} (hl : lastB md ops n i = true) (hi : ops[i]? = some oi) (hsel : ∀ (j : Nat) (o : Oper) cs b, ops[j]? = some o → o.op ≠ .select cs b)
    (hQ : ∀ c a w, Q (.panic c) (a.put oi.dst v) w → Q (.panic c) a w) :
    ∀ (fuel : Nat) (listed : Array Bool) (a : Act) (w : World),
      (∀ j oj, ops[j]? = some oj → j ≠ i → listed.getD j true = false → (∀ e ∈ oj.after, Region.binds md e = true → e.on ≠ i) → oi.apart ops oj = true) →
      i ∈ Region.ready md ops listed → YieldsIf P ops S oi v a → S w →
      wpAnyS P md ops Q S n fuel (listed.setIfInBounds i true) (a.put oi.dst v) w → wpAnyS P md ops Q S n (fuel + 1) listed a w := by
  intro fuel
  induction fuel with
  | zero =>
    intro listed a w _ hr hy hS H
    refine ⟨fun h => (by rw [h] at hr; cases hr), fun j hj => ?_⟩
    by_cases hji : j = i
    · subst hji; exact hy.wpOp hi hS ⟨fun _ => hS, H⟩
    · have := ready_mono hj hji
      rw [H.1] at this
      cases this
  | succ fuel ih =>
    intro listed a w hfree hr hy hS H
    refine ⟨fun h => (by rw [h] at hr; cases hr), fun j hj => ?_⟩
    by_cases hji : j = i
    · subst hji; exact hy.wpOp hi hS ⟨fun _ => hS, H⟩
    · have h1 := H.2 j (ready_mono hj hji)
      obtain ⟨hjun, oj, hoj, hall⟩ := mem_ready.1 hj
      have hnot : ∀ e ∈ oj.after, Region.binds md e = true → e.on ≠ i := fun e he hb heq => by
        have h1 := hall e he hb
        have h0 := (mem_ready.1 hr).1
        rw [heq] at h1
        rcases Nat.lt_or_ge i listed.size with h' | h'
        · simp [h'] at h0 h1; rw [h0] at h1; cases h1
        · simp [Array.getElem?_eq_none h'] at h1
      have hjn : j ≠ n := fun e => by
        subst e
        unfold lastB at hl
        rw [hoj] at hl
        simp only at hl
        rw [Array.any_eq_true] at hl
        obtain ⟨m, hm, he⟩ := hl
        simp only [Bool.and_eq_true, beq_iff_eq] at he
        exact hnot _ (Array.getElem_mem hm) he.1 he.2
      have h2 := wpOp_putIf hoj (hfree j oj hoj hji hjun hnot) (fun cs b => hsel i oi cs b hi) (fun cs b => hsel j oj cs b hoj) hQ hy h1
      have hfree' : ∀ k ok, ops[k]? = some ok → k ≠ i → (listed.setIfInBounds j true).getD k true = false →
          (∀ e ∈ ok.after, Region.binds md e = true → e.on ≠ i) → oi.apart ops ok = true := fun k ok hk hki hun hno => by
        refine hfree k ok hk hki ?_ hno
        by_cases hjk : j = k
        · subst hjk; exact hjun
        · rw [getD_set_ne true hjk] at hun; exact hun
      refine wpOp_mono (fun a' w' h3 => ⟨h3.2.1, ih (listed.setIfInBounds j true) a' w' hfree' (ready_mono hr (Ne.symm hji)) h3.1 (h3.2.1 hjn) ?_⟩) h2
      rw [Array.setIfInBounds_comm _ _ hji]
      exact h3.2.2
theorem wpAnyS_take {i : Nat} {oi : Oper} {v : Value} {fuel : Nat} {listed : Array Bool} {a : Act} {w : World} (hl : lastB md ops n i = true) (hi : ops[i]? = some oi)
    (hs : Region.noSelect ops = true) (hf : Region.free md ops listed i = true) (hr : (Region.ready md ops listed).contains i = true)
    (hQ : ∀ c a w, Q (.panic c) (a.put oi.dst v) w → Q (.panic c) a w) (hw : Region.wanted oi (yielded ops a.tmps) = true) (hS : S w) (hy : ∀ w, S w → (execOp a.eval oi).run P w = .ok (.value v) w)
    (h : wpAnyS P md ops Q S n fuel (listed.setIfInBounds i true) (a.put oi.dst v) w) : wpAnyS P md ops Q S n (fuel + 1) listed a w :=
  wpAnyS_first hl hi (Region.noSelect_spec hs) hQ fuel listed a w (Region.free_spec hi hf) (by simpa using hr) (.inl ⟨hw, hy⟩) hS h
theorem wpAnyS_only {i : Nat} {o : Oper} {fuel : Nat} {listed : Array Bool} {a : Act} {w : World} (hi : ops[i]? = some o) (hr : Region.ready md ops listed = [i])
    (h : ∀ K' : Act → World → Prop, Shut (∀ a w, S w → (S w → wpAnyS P md ops Q S n fuel (listed.setIfInBounds i true) a w) → K' a w) → if Region.wanted o (yielded ops a.tmps) = true then Oper.wp P o a w K' Q else K' (a.put o.dst undef) w) :
    wpAnyS P md ops Q S n (fuel + 1) listed a w := by
  refine ⟨fun h0 => (by rw [hr] at h0; cases h0), fun j hj => ?_⟩
  rw [hr, List.mem_singleton] at hj
  subst hj
  exact wpOp_step hi (fun K' hK => h K' (fun a w hS hW => hK a w ⟨fun _ => hS, hW hS⟩))
theorem wpAnyS_last {o : Oper} {fuel : Nat} {listed : Array Bool} {a : Act} {w : World} (hi : ops[n]? = some o) (hr : Region.ready md ops listed = [n]) (hd : Region.ready md ops (listed.setIfInBounds n true) = [])
    (h : ∀ K' : Act → World → Prop, Shut (∀ a w, Q .normal a w → K' a w) → if Region.wanted o (yielded ops a.tmps) = true then Oper.wp P o a w K' Q else K' (a.put o.dst undef) w) :
    wpAnyS P md ops Q S n (fuel + 1) listed a w := by
  refine ⟨fun h0 => (by rw [hr] at h0; cases h0), fun j hj => ?_⟩
  rw [hr, List.mem_singleton] at hj
  subst hj
  refine wpOp_step hi (fun K' hK => h K' (fun a w hq => hK a w ⟨fun hh => absurd rfl hh, ?_⟩))
  cases fuel with
  | zero => exact ⟨hd, hq⟩
  | succ f => exact ⟨fun _ => hq, by rw [hd]; simp⟩
theorem wp_region_S (S : World → Prop) (n : Nat) {id : Nat} {a : Act} {w : World} (hm : P.follows .mixedOrders = true)
    (h : wpAnyS P .any ops Q S n ops.size (Array.replicate ops.size false) a w.drew) : (Code.region id ops true).wp P Q a w :=
  wp_region_any hm (wpAny_of_S _ _ _ _ h)
end
end Go.Proofs.Ythpdcnjaodjjmaa

/- a region that draws its order and ends in one operation that waits for all others, be it through others. No program in sight. -/
namespace Go.Proofs.Ythpdcnjaodjjmaa
open Go
set_option linter.unusedVariables false

section
variable {P : Program} {ops : Array Oper} {Q : Exit → Act → World → Prop} {md : Region.Mode} {S : World → Prop} {n : Nat}
/-- number n waits for number i, be it through others -/
def reachB (md : Region.Mode) (ops : Array Oper) : Nat → Nat → Nat → Bool
  | 0, _, _ => false
  | f + 1, n, i => match ops[n]? with
    | none => false
    | some o => o.after.any fun e => Region.binds md e && (e.on == i || reachB md ops f e.on i)
/-- what is listed waited for nothing that isn't -/
def Closed (md : Region.Mode) (ops : Array Oper) (listed : Array Bool) : Prop := ∀ j o, ops[j]? = some o → listed.getD j false = true → ∀ e ∈ o.after, Region.binds md e = true → listed.getD e.on false = true
def closedB (md : Region.Mode) (ops : Array Oper) (listed : Array Bool) : Bool := (List.range ops.size).all fun j => match ops[j]? with
  | none => true
  | some o => !listed.getD j false || o.after.all fun e => !Region.binds md e || listed.getD e.on false
theorem closed_of {listed : Array Bool} (h : closedB md ops listed = true) : Closed md ops listed := by
  intro j o ho hl e he hb
  unfold closedB at h
  rw [List.all_eq_true] at h
  have hj : j < ops.size := by
    rcases Nat.lt_or_ge j ops.size with h1 | h1
    · exact h1
    · rw [Array.getElem?_eq_none h1] at ho; cases ho
  have h1 := h j (List.mem_range.2 hj)
  rw [ho] at h1
  simp only [hl, Bool.not_true, Bool.false_or, Array.all_eq_true] at h1
  obtain ⟨m, hm, rfl⟩ := Array.mem_iff_getElem.1 he
  have h2 := h1 m hm
  rw [hb] at h2
  simpa using h2
theorem closed_set {listed : Array Bool} (h : Closed md ops listed) {j : Nat} (hj : j ∈ Region.ready md ops listed) : Closed md ops (listed.setIfInBounds j true) := by
  intro k o ho hl e he hb
  by_cases hkj : k = j
  · subst hkj
    obtain ⟨_, o', ho', hall⟩ := mem_ready.1 hj
    rw [ho] at ho'
    injection ho' with ho'
    subst ho'
    exact getD_set_true (hall e he hb)
  · rw [getD_set_ne false (Ne.symm hkj)] at hl
    exact getD_set_true (h k o ho hl e he hb)
theorem reach_listed {listed : Array Bool} (h : Closed md ops listed) : ∀ (f n i : Nat), reachB md ops f n i = true → (∀ o, ops[n]? = some o → ∀ e ∈ o.after, Region.binds md e = true → listed.getD e.on false = true) → listed.getD i false = true
  | 0, n, i, hr, _ => by cases hr
  | f + 1, n, i, hr, hn => by
    unfold reachB at hr
    cases ho : ops[n]? with
    | none => rw [ho] at hr; cases hr
    | some o =>
      rw [ho] at hr
      simp only at hr
      rw [Array.any_eq_true] at hr
      obtain ⟨m, hm, he⟩ := hr
      simp only [Bool.and_eq_true, Bool.or_eq_true, beq_iff_eq] at he
      have hl := hn o ho _ (Array.getElem_mem hm) he.1
      rcases he.2 with h1 | h1
      · rw [h1] at hl; exact hl
      · exact reach_listed h f _ i h1 (fun o' ho' e' he' hb' => h _ o' ho' hl e' he' hb')
theorem not_ready {listed : Array Bool} (h : Closed md ops listed) {f i : Nat} (hl : reachB md ops f n i = true) (hr : i ∈ Region.ready md ops listed) : n ∉ Region.ready md ops listed := fun hn => by
  obtain ⟨_, o, ho, hall⟩ := mem_ready.1 hn
  have h1 := reach_listed h f n i hl (fun o' ho' e he hb => by
    rw [ho] at ho'
    injection ho' with ho'
    subst ho'
    exact hall e he hb)
  have h0 := (mem_ready.1 hr).1
  rcases Nat.lt_or_ge i listed.size with h' | h'
  · simp [h'] at h0 h1
    rw [h0] at h1
    cases h1
  · simp [Array.getElem?_eq_none h'] at h1
theorem wpAnyS_firstT {f i : Nat} {oi : Oper} {v : Value} (hl : reachB md ops f n i = true) (hi : ops[i]? = some oi) (hsel : ∀ (j : Nat) (o : Oper) cs b, ops[j]? = some o → o.op ≠ .select cs b)
    (hQ : ∀ c a w, Q (.panic c) (a.put oi.dst v) w → Q (.panic c) a w) :
    ∀ (fuel : Nat) (listed : Array Bool) (a : Act) (w : World), Closed md ops listed →
      (∀ j oj, ops[j]? = some oj → j ≠ i → listed.getD j true = false → (∀ e ∈ oj.after, Region.binds md e = true → e.on ≠ i) → oi.apart ops oj = true) →
      i ∈ Region.ready md ops listed → YieldsIf P ops S oi v a → S w →
      wpAnyS P md ops Q S n fuel (listed.setIfInBounds i true) (a.put oi.dst v) w → wpAnyS P md ops Q S n (fuel + 1) listed a w := by
  intro fuel
  induction fuel with
  | zero =>
    intro listed a w _ _ hr hy hS H
    refine ⟨fun h => (by rw [h] at hr; cases hr), fun j hj => ?_⟩
    by_cases hji : j = i
    · subst hji; exact hy.wpOp hi hS ⟨fun _ => hS, H⟩
    · have := ready_mono hj hji
      rw [H.1] at this
      cases this
  | succ fuel ih =>
    intro listed a w hc hfree hr hy hS H
    refine ⟨fun h => (by rw [h] at hr; cases hr), fun j hj => ?_⟩
    by_cases hji : j = i
    · subst hji; exact hy.wpOp hi hS ⟨fun _ => hS, H⟩
    · have h1 := H.2 j (ready_mono hj hji)
      obtain ⟨hjun, oj, hoj, hall⟩ := mem_ready.1 hj
      have hnot : ∀ e ∈ oj.after, Region.binds md e = true → e.on ≠ i := fun e he hb heq => by
        have h1 := hall e he hb
        have h0 := (mem_ready.1 hr).1
        rw [heq] at h1
        rcases Nat.lt_or_ge i listed.size with h' | h'
        · simp [h'] at h0 h1; rw [h0] at h1; cases h1
        · simp [Array.getElem?_eq_none h'] at h1
      have hjn : j ≠ n := fun e => by
        subst e
        exact not_ready hc hl hr hj
      have h2 := wpOp_putIf hoj (hfree j oj hoj hji hjun hnot) (fun cs b => hsel i oi cs b hi) (fun cs b => hsel j oj cs b hoj) hQ hy h1
      have hfree' : ∀ k ok, ops[k]? = some ok → k ≠ i → (listed.setIfInBounds j true).getD k true = false →
          (∀ e ∈ ok.after, Region.binds md e = true → e.on ≠ i) → oi.apart ops ok = true := fun k ok hk hki hun hno => by
        refine hfree k ok hk hki ?_ hno
        by_cases hjk : j = k
        · subst hjk; exact hjun
        · rw [getD_set_ne true hjk] at hun; exact hun
      refine wpOp_mono (fun a' w' h3 => ⟨h3.2.1, ih (listed.setIfInBounds j true) a' w' (closed_set hc hj) hfree' (ready_mono hr (Ne.symm hji)) h3.1 (h3.2.1 hjn) ?_⟩) h2
      rw [Array.setIfInBounds_comm _ _ hji]
      exact h3.2.2
theorem wpAnyS_takeT {i : Nat} {oi : Oper} {v : Value} {fuel : Nat} {listed : Array Bool} {a : Act} {w : World} (hl : reachB md ops ops.size n i = true) (hcl : closedB md ops listed = true) (hi : ops[i]? = some oi)
    (hs : Region.noSelect ops = true) (hf : Region.free md ops listed i = true) (hr : (Region.ready md ops listed).contains i = true)
    (hQ : ∀ c a w, Q (.panic c) (a.put oi.dst v) w → Q (.panic c) a w) (hw : Region.wanted oi (yielded ops a.tmps) = true) (hS : S w) (hy : ∀ w, S w → (execOp a.eval oi).run P w = .ok (.value v) w)
    (h : wpAnyS P md ops Q S n fuel (listed.setIfInBounds i true) (a.put oi.dst v) w) : wpAnyS P md ops Q S n (fuel + 1) listed a w :=
  wpAnyS_firstT hl hi (Region.noSelect_spec hs) hQ fuel listed a w (closed_of hcl) (Region.free_spec hi hf) (by simpa using hr) (.inl ⟨hw, hy⟩) hS h
end
end Go.Proofs.Ythpdcnjaodjjmaa

/- package inflate: reading while memory of the call's own turns; again. -/
namespace Go.Proofs.Ythpdcnjaodjjmaa.Inf
open Go Go.RowKit Go.Proofs.Ythpdcnjaodjjmaa Go.Proofs.Ythpdcnjaodjjmaa.Bits Go.Proofs.Ythpdcnjaodjjmaa.Code
set_option linter.unusedVariables false
set_option linter.unusedSimpArgs false

/-- below 'base' nothing has turned, and of what lay below B0 nothing but blocks of the types T -/
structure OldK (base B0 : Nat) (T : List TypeId) (w w' : World) : Prop where
  os : w'.os = w.os
  tape : w'.tape = w.tape
  output : w'.output = w.output
  size : w.heap.size ≤ w'.heap.size
  block : ∀ k, k < base → w'.heap[k]? = w.heap[k]?
  other : ∀ (k : Nat) (o : Obj), k < B0 → w.heap[k]? = some o → (∀ cs t fr, o = Obj.cells cs t fr → t ∉ T) → w'.heap[k]? = some o
section
variable {base B0 : Nat} {T : List TypeId} {w w' w'' : World}
theorem OldK.refl (base B0 : Nat) (T : List TypeId) (w : World) : OldK base B0 T w w := ⟨rfl, rfl, rfl, Nat.le_refl _, fun _ _ => rfl, fun _ _ _ h _ => h⟩
theorem OldK.trans (h : OldK base B0 T w w') (k : OldK base B0 T w' w'') : OldK base B0 T w w'' :=
  ⟨k.os.trans h.os, k.tape.trans h.tape, k.output.trans h.output, Nat.le_trans h.size k.size, fun i hi => (k.block i hi).trans (h.block i hi), fun i o hi ho ht => k.other i o hi (h.other i o hi ho ht) ht⟩
theorem OldK.keeps (h : OldK base B0 T w w') (k : Keeps base T w' w'') : OldK base B0 T w w'' :=
  h.trans ⟨k.os, k.tape, k.output, k.size, k.block, fun i o _ ho ht => k.other i o ho ht⟩
theorem OldK.below (h : OldK base B0 T w w') (k : Below B0 w' w'') (hb : base ≤ B0) : OldK base B0 T w w'' :=
  h.trans ⟨k.os, k.tape, k.output, k.size, fun i hi => k.block i (by omega), fun i o hi ho _ => by rw [k.block i hi]; exact ho⟩
theorem OldK.toKeeps (h : OldK base w.heap.size T w w') : Keeps base T w w' :=
  ⟨h.os, h.tape, h.output, h.size, h.block, fun k o ho ht => h.other k o (by
    rcases Nat.lt_or_ge k w.heap.size with h | h
    · exact h
    · rw [Array.getElem?_eq_none h] at ho; cases ho) ho ht⟩
theorem OldK.blk (h : OldK base w.heap.size T w w') {g : Nat} {t : TypeId} {cs : Array Value} (hb : Blk w g t cs) (ht : t ∉ T) : Blk w' g t cs := h.toKeeps.blk hb ht
end
theorem step_app3 {P : Program} {ops : Array Oper} {o : Oper} {a : Act} {w : World} {K : Act → World → Prop} {Q : Exit → Act → World → Prop} {E : Prop} (hgd : o.guard = none) (s x : Operand) (t : TypeId)
    (hop : o.op = .call { callee := .builtin .append, args := #[s, x], argTypes := #[t, t] })
    (base : Nat) (e : TypeId) (z : Value) (size bytes : Nat) (hT : SliceTy P t e z size bytes)
    (v : Value) (n : Nat) (xs : List Value) (hs : a.eval s = v) (hown : w.ownsRow base e size v n xs)
    (A : Option Addr) (m c : Nat) (news : List Value) (hx : a.eval x = .slice A m c) (hl : news.length = m * size) (hr : SlAt w A news) (h1 : ∀ u ∈ news, u.oneCell' = true)
    (hA : A = none → m = 0) (h63 : n + m ≤ maxLen) (hbytes : (n + m) * bytes ≤ 140737488355328) (hbase : base ≤ w.heap.size)
    (hK : ∀ v' w', w'.ownsRow base e size v' (n + m) (xs ++ news) → w.grownBy w' v.ownBlock → (v'.ownBlock = v.ownBlock ∨ v'.ownBlock = some w.heap.size) → K (a.put o.dst v') w') :
    if Region.wanted o (yielded ops a.tmps) = true then Oper.wp P o a w K Q else E := by
  have hw : Region.wanted o (yielded ops a.tmps) = true := by simp [Region.wanted, hgd]
  rw [if_pos hw]
  obtain ⟨v', w', hrun, h2, h3, h4⟩ := run_app (P := P) w base t o.type e z size bytes hT v n xs hown A m c news hl hr h1 hA h63 hbytes hbase
  unfold Oper.wp
  simp [execOp, hop, resolve, invoke, builtin, hs, hx, hrun, Result.andThen]
  exact hK _ _ h2 h3 h4
theorem InAt_.old {w w' : World} {base B0 : Nat} {T : List TypeId} {A : Option Addr} {n : Nat} {xs : List UInt8} (h : InAt_ w base A n xs) (hk : OldK base B0 T w w') : InAt_ w' base A n xs :=
  ⟨h.len, h.few, fun hp => by
    obtain ⟨b, o, e, hc⟩ := h.at_ hp
    refine ⟨b, o, e, fun j v hj => ?_⟩
    rw [World.cell?_of_block (hk.block b (h.low b o e (by rw [← h.len]; simpa using hp)))]
    exact hc j v hj, h.low⟩
set_option maxRecDepth 100000 in
set_option maxHeartbeats 1600000 in
theorem get_k (base g q : Nat) (A : Option Addr) (n c pos size : Nat) (xs : List UInt8) (w : World) (hq : base ≤ q) (b0 : w.cell? ⟨g, 0, none⟩ = some (.pointer (some ⟨q, 0, none⟩))) (hsrc : SrcAt w q A n c pos) (hp : pos ≤ 8 * n) (hi : InAt_ w base A n xs) (hs : size ≤ 61) :
    Calls Try.prog 41 #[.pointer (some ⟨g, 0, none⟩), .int .i64 (size : Int)] w fun e w' =>
      RPost (getR (bitsL xs) pos size) (fun a e w' => e = .returned (.int .i64 (a.1 : Int)) ∧ SrcAt w' q A n c a.2 ∧ a.2 ≤ 8 * n) e w' ∧ Keeps q srcT w w' := by
  have Hrow : Hid ((bitsL xs).length = 8 * n) := Lib.hid (by rw [bitsL_length, hi.len])
  have HG := Lib.hid (get_any q A n c pos size xs w hsrc hi.len hi.at_ hs hp hi.few (fun b o e hp => by have := hi.low b o e hp; omega))
  clear hi hsrc
  go_enter Try.func41, Try.ntmps41
  go_wp2_with fail
  refine (HG.out).mono ?_
  rintro e w2 ⟨hcase, hk2⟩
  have HK2 := Lib.hid hk2
  clear hk2 b0 HG
  rcases hcase with ⟨h1, rfl, hs2⟩ | ⟨h1, rfl, _⟩
  · have HS2 := Lib.hid hs2
    clear hs2
    go_wp2_with fail
    go_ret
    exact ⟨ok_rpost (a := (num (((bitsL xs).drop pos).take size), pos + size)) (by unfold getR; rw [Hrow.out, if_pos h1]) ⟨rfl, HS2.out, h1⟩, HK2.out⟩
  · go_wp2_with fail
    refine (fail_any 7 _).mono ?_
    rintro e w3 ⟨rfl, rfl⟩
    unfold stopE
    go_wp2_with fail
    exact ⟨rfl, bad_rpost (by unfold getR; rw [Hrow.out, if_neg (by omega)]), HK2.out⟩
set_option maxRecDepth 100000 in
set_option maxHeartbeats 1600000 in
theorem sym_k (base tb g q tp : Nat) (A : Option Addr) (n c pos : Nat) (xs : List UInt8) (ls : List Nat) (w : World) (hq : base ≤ q) (b0 : w.cell? ⟨g, 0, none⟩ = some (.pointer (some ⟨q, 0, none⟩))) (hsrc : SrcAt w q A n c pos) (hp : pos ≤ 8 * n) (hi : InAt_ w base A n xs)
    (hT : TabAt w tb tp ls) (hl : ∀ x ∈ ls, x ≤ 15) (hr : room ls ≤ 32768) (hlen : ls.length ≤ 288) :
    Calls Try.prog 75 #[.pointer (some ⟨g, 0, none⟩), .pointer (some ⟨tp, 0, none⟩)] w fun e w' =>
      RPost (symR (bitsL xs) ls pos) (fun a e w' => e = .returned (.int .i64 (a.1 : Int)) ∧ SrcAt w' q A n c a.2 ∧ a.2 ≤ 8 * n) e w' ∧ Keeps q srcT w w' := by
  have HG := Lib.hid (tread_any tb tp q A n c pos xs ls w hT hsrc hi.len hi.at_ hp hi.few (fun b o e hp => by have := hi.low b o e hp; omega) hl hr hlen)
  clear hi hsrc hT hl hr hlen
  go_enter Try.func75, Try.ntmps75
  go_wp2_with fail
  refine (HG.out).mono ?_
  rintro e w2 ⟨⟨k, m, z, hn, rfl, hz⟩, hk2⟩
  have HK2 := Lib.hid hk2
  have HZ := Lib.hid hz
  have HN := Lib.hid hn
  clear hk2 hz hn b0 HG
  by_cases h0 : z = 0
  · subst h0
    go_wp2_with fail
    go_ret
    refine ⟨?_, HK2.out⟩
    unfold RPost symR
    rw [HN.out]
    exact ⟨rfl, (HZ.out (by simp)).1, (HZ.out (by simp)).2⟩
  · have hz1 : (z != 0) = true := by simpa using h0
    go_wp2_with fail
    refine (fail_any z _).mono ?_
    rintro e w3 ⟨rfl, rfl⟩
    unfold stopE
    go_wp2_with fail
    refine ⟨rfl, ?_, HK2.out⟩
    unfold RPost symR
    rw [HN.out, if_neg (show ¬ (k, m, z).2.2 = 0 from h0)]
    rfl
theorem natV_oneCell (l : List Nat) : ∀ u ∈ l.map natV, u.oneCell' = true := by
  intro u hu
  obtain ⟨x, _, rfl⟩ := List.mem_map.1 hu
  rfl
/-- what again leaves: the row of numbers in its cell, the number of all in another one -/
structure AgAt (w : World) (B gl gn n : Nat) (l : List Nat) : Prop where
  gle : B ≤ gl
  row : ∃ vl, Blk w gl 30 #[vl] ∧ w.ownsRow B 3 1 vl l.length (l.map natV) ∧ vl.ownBlock ≠ some gn
  num : Blk w gn 3 #[.int .i64 (n : Int)]
  fit : l.length ≤ n
  few : n ≤ 1000
set_option maxRecDepth 100000 in
set_option maxHeartbeats 1600000 in
theorem again_any (B gl gn n v k : Nat) (l : List Nat) (w : World) (h : AgAt w B gl gn n l) (h1 : 1 ≤ k) (hk : k ≤ 1000) (hB : B ≤ w.heap.size) :
    Calls Try.prog 97 #[.int .i64 (v : Int), .int .i64 (k : Int), .pointer (some ⟨gl, 0, none⟩), .pointer (some ⟨gn, 0, none⟩)] w fun e w' =>
      RPost (againR n l v k) (fun m e w' => e = .returned (.tuple #[]) ∧ AgAt w' B gl gn n m) e w' ∧ Below B w w' := by
  obtain ⟨hgl, ⟨vl, hbl, hol, hne⟩, hbn, hfit, hfew⟩ := h
  obtain ⟨Al, cl, rfl, _⟩ := own_slat hol
  obtain ⟨L, hL⟩ : ∃ L, L = l.length := ⟨_, rfl⟩
  rw [← hL] at hbl hol hfit hne
  have HL := Lib.hid hL
  have b0 : w.cell? ⟨gl, 0, none⟩ = some (.slice Al L cl) := by rw [hbl.cell]; rfl
  have b1 : w.cell? ⟨gn, 0, none⟩ = some (.int .i64 (n : Int)) := by rw [hbn.cell]; rfl
  have hlt := hbl.lt
  have hltn := hbn.lt
  have HBl := Lib.hid hbl
  have HBn := Lib.hid hbn
  have HOl := Lib.hid hol
  have HNe := Lib.hid hne
  clear hbl hol hbn hne hL
  have hw1 : IntKind.i64.wrap ((L : Int) + (k : Int)) = (L : Int) + (k : Int) := IntWalk.i64_in _ (by omega)
  by_cases hn : n < L + k
  · have hn' : (n : Int) < (L : Int) + (k : Int) := by omega
    have HU : Hid (againR n l v k = .bad 8) := Lib.hid (by unfold againR; rw [if_pos (by rw [← HL.out]; exact hn)])
    go_enter Try.func97, Try.ntmps97
    go_wp2_with fail
    refine (fail_any 8 _).mono ?_
    rintro e w3 ⟨rfl, rfl⟩
    unfold stopE
    go_wp2_with fail
    exact ⟨rfl, bad_rpost HU.out, Below.refl _ _⟩
  · have hn' : ¬ (n : Int) < (L : Int) + (k : Int) := by omega
    have HU : Hid (againR n l v k = .ok (l ++ List.replicate k v)) := Lib.hid (by unfold againR; rw [if_neg (by rw [← HL.out]; exact hn)])
    go_enter Try.func97, Try.ntmps97
    go_wp2_with fail
    refine wp_region_S (fun W => W.cell? ⟨gl, 0, none⟩ = some (.slice Al L cl)) 6 (by kernel_rfl) ?_
    have hHeld : w.drew.cell? ⟨gl, 0, none⟩ = some (.slice Al L cl) := b0
    obtain ⟨w2, hw2⟩ : ∃ w2, w2 = w.drew := ⟨_, rfl⟩
    have Hb2 : Hid (Below w.heap.size w w2) := Lib.hid (by rw [hw2]; exact (Below.refl _ _).drew)
    rw [← hw2] at hHeld ⊢
    clear hw2 b0 b1
    refine wpAnyS_takeT (i := 0) (v := ?va0) (by kernel_rfl) (by kernel_rfl) rfl (by kernel_rfl) (by kernel_rfl) (by kernel_rfl) (fun _ _ _ h => h) (by rfl) (by assumption) ?hya0 ?resta0
    case hya0 => (intro W hSW; (try dsimp only at hSW); go_simp; try with_reducible rfl)
    (try simp only [Act.put, List.getElem_toArray, List.getElem_cons_zero, List.getElem_cons_succ, List.setIfInBounds_toArray, List.set_cons_zero, List.set_cons_succ])
    refine wpAnyS_takeT (i := 1) (v := ?va1) (by kernel_rfl) (by kernel_rfl) rfl (by kernel_rfl) (by kernel_rfl) (by kernel_rfl) (fun _ _ _ h => h) (by rfl) (by assumption) ?hya1 ?resta1
    case hya1 => (intro W hSW; (try dsimp only at hSW); go_simp; try with_reducible rfl)
    (try simp only [Act.put, List.getElem_toArray, List.getElem_cons_zero, List.getElem_cons_succ, List.setIfInBounds_toArray, List.set_cons_zero, List.set_cons_succ])
    refine wpAnyS_takeT (i := 3) (v := ?va3) (by kernel_rfl) (by kernel_rfl) rfl (by kernel_rfl) (by kernel_rfl) (by kernel_rfl) (fun _ _ _ h => h) (by rfl) (by assumption) ?hya3 ?resta3
    case hya3 => (intro W hSW; (try dsimp only at hSW); go_simp; try with_reducible rfl)
    (try simp only [Act.put, List.getElem_toArray, List.getElem_cons_zero, List.getElem_cons_succ, List.setIfInBounds_toArray, List.set_cons_zero, List.set_cons_succ])
    refine wpAnyS_only (i := 2) rfl (by kernel_rfl) (fun K hK => ?_)
    go_simp
    clear hHeld
    have Hb3 := Lib.hid (Hb2.out.alloc Hb2.out.size (.cells #[.int .i64 (v : Int)] 3))
    have Hv3 : Hid (SlAt (w2.alloc (.cells #[.int .i64 (v : Int)] 3)) (some ⟨w2.heap.size, 0, none⟩) [.int .i64 (v : Int)]) := Lib.hid (SlAt.of_heap (heap_alloc_new _ _) rfl)
    refine hK.out _ _ ((Blk.below HBl.out Hb3.out hlt).cell 0) (fun hHeld => ?_)
    clear hK K
    (try simp only [Act.put, List.getElem_toArray, List.getElem_cons_zero, List.getElem_cons_succ, List.setIfInBounds_toArray, List.set_cons_zero, List.set_cons_succ])
    generalize w2.alloc (.cells #[.int .i64 (v : Int)] 3) = w3 at *
    generalize w2.heap.size = g3 at *
    refine wpAnyS_only (i := 4) rfl (by kernel_rfl) (fun K hK => ?_)
    go_simp
    go_at_call 81
    refine (repeat1_any (some ⟨g3, 0, none⟩) 1 k (v : Int) w3 Hv3.out h1 hk).mono ?_
    rintro e w4 ⟨⟨A4, rfl, hs4⟩, hb4⟩
    have Hb4 := Lib.hid (Hb3.out.trans (hb4.mono Hb3.out.size))
    have HS4 := Lib.hid hs4
    clear hb4 hs4 hHeld
    refine hK.out _ _ ((Blk.below HBl.out Hb4.out hlt).cell 0) (fun hHeld => ?_)
    clear hK K
    (try simp only [Act.put, List.getElem_toArray, List.getElem_cons_zero, List.getElem_cons_succ, List.setIfInBounds_toArray, List.set_cons_zero, List.set_cons_succ])
    have HOl4 := Lib.hid (own_keep HOl.out Hb4.out)
    have hBw4 : B ≤ w4.heap.size := Nat.le_trans hB Hb4.out.size
    obtain ⟨X, hX⟩ : ∃ X, X = List.replicate k (Value.int .i64 (v : Int)) := ⟨_, rfl⟩
    have HX := Lib.hid hX
    have hXl : X.length = k * 1 := by rw [hX]; simp
    have HXo : Hid (∀ u ∈ X, u.oneCell' = true) := Lib.hid (by rw [hX]; intro u hu; rw [List.eq_of_mem_replicate hu]; rfl)
    rw [← hX] at HS4
    clear hX
    have hA4 : A4 = none → k = 0 := fun e => by
      obtain ⟨b, o, e', _⟩ := HS4.out (by rw [hXl]; omega)
      rw [e] at e'
      cases e'
    refine wpAnyS_only (i := 5) rfl (by kernel_rfl) (fun K hK => ?_)
    refine step_app3 rfl (.tmp 13) (.tmp 17) _ rfl B 3 _ 1 8 tyI (.slice Al L cl) L (l.map natV) (by simp [Act.eval]) HOl4.out A4 k k X (by simp [Act.eval]) hXl HS4.out HXo.out hA4 (by unfold maxLen; omega) (by omega) hBw4 ?_
    intro v5 w5 hown5 hg5 hwhere5
    have HO5 := Lib.hid hown5
    have HG5 := Lib.hid hg5
    have HW5 := Lib.hid hwhere5
    clear hown5 hg5 hwhere5 hHeld
    have HB4 := Lib.hid (Blk.below HBl.out Hb4.out hlt)
    have HBn4 := Lib.hid (Blk.below HBn.out Hb4.out hltn)
    have HB5 := Lib.hid (HB4.out.grown HG5.out (own_ne HOl4.out HB4.out (by decide)))
    have HBn5 := Lib.hid (HBn4.out.grown HG5.out HNe.out)
    have hlt4 := HBn4.out.lt
    refine hK.out _ _ (HB5.out.cell 0) (fun hHeld => ?_)
    clear hK K
    (try simp only [Act.put, List.getElem_toArray, List.getElem_cons_zero, List.getElem_cons_succ, List.setIfInBounds_toArray, List.set_cons_zero, List.set_cons_succ])
    obtain ⟨A5, c5, rfl, _⟩ := own_slat HO5.out
    have f5 := HB5.out.frozen 0
    refine wpAnyS_last rfl (by kernel_rfl) (by kernel_rfl) (fun K hK => ?_)
    go_simp
    refine hK.out _ _ ?_
    clear hK K
    clear hHeld
    go_wp2_with fail
    go_end0
    have hb5 : Below B w4 w5 := ⟨HG5.out.os, HG5.out.tape, HG5.out.output, HG5.out.size, fun i hi => HG5.out.block i (by omega) (fun e => by have := (HOl4.out.lt i e.symm).1; omega)⟩
    refine ⟨ok_rpost HU.out ⟨rfl, hgl, ⟨_, HB5.out.set_ 0 _, ?_, ?_⟩, HBn5.out.far (p := ⟨gl, 0, none⟩) ?_ _, ?_, hfew⟩, ((Hb4.out.mono hB).trans hb5).setCell (p := ⟨gl, 0, none⟩) hgl _⟩
    · have h6 : (w5.setCell ⟨gl, 0, none⟩ (.slice A5 (L + k) c5)).ownsRow B 3 1 (.slice A5 (L + k) c5) (L + k) (l.map natV ++ X) := ((Keeps.refl B [30] w5).setBlk HB5.out (by simp) hgl 0 _).own HO5.out (by decide)
      rw [List.length_append, List.length_replicate, ← HL.out, List.map_append, List.map_replicate]
      rw [HX.out] at h6
      exact h6
    · intro e
      rcases HW5.out with h | h
      · exact HNe.out (h.symm.trans e)
      · rw [h] at e
        injection e with e
        omega
    · intro e
      have e : gn = gl := e
      subst e
      have h1 := HBl.out
      have h2 := HBn.out
      unfold Blk at h1 h2
      rw [h1] at h2
      cases h2
    · rw [List.length_append, List.length_replicate, ← HL.out]
      omega
end Go.Proofs.Ythpdcnjaodjjmaa.Inf

/- package inflate: a block's body. -/
namespace Go.Proofs.Ythpdcnjaodjjmaa.Inf
open Go Go.RowKit Go.Proofs.Ythpdcnjaodjjmaa Go.Proofs.Ythpdcnjaodjjmaa.Bits Go.Proofs.Ythpdcnjaodjjmaa.Code
set_option linter.unusedVariables false
set_option linter.unusedSimpArgs false

/-- where a source stands -/
def posOf (q : Nat) (w : World) : Nat := match w.cell? ⟨q, 1, none⟩ with
  | some (.int _ p) => p.toNat
  | _ => 0
theorem posOf_src {w : World} {q n c pos : Nat} {A : Option Addr} (h : SrcAt w q A n c pos) : posOf q w = pos := by
  unfold posOf
  rw [show w.cell? ⟨q, 1, none⟩ = some (.int .i64 (pos : Int)) by rw [Blk.cell h]; rfl]
  simp
theorem nxt_pos (ls : List Nat) (row : List Bool) : ∀ (k n i m : Nat), 1 ≤ n → nxt ls row k n = (i, m, 0) → n ≤ m ∧ m ≤ row.length := fun k n i m hn h => by
  have := nxt_take ls row row.length (Nat.le_refl _) k n i m hn h
  exact ⟨this.1, this.2.1⟩
theorem symR_lt {row : List Bool} {ls : List Nat} {p : Nat} {a : Nat × Nat} (h : symR row ls p = .ok a) (hp : p ≤ row.length) : p < a.2 ∧ a.2 ≤ row.length := by
  unfold symR at h
  split at h
  · rename_i hz
    injection h with h
    obtain ⟨i, m, z, hn⟩ : ∃ i m z, next ls (row.drop p) = (i, m, z) := ⟨_, _, _, rfl⟩
    rw [hn] at h hz
    dsimp only at h hz
    subst hz h
    have := nxt_pos ls (row.drop p) 15 1 i m (Nat.le_refl _) hn
    rw [List.length_drop] at this
    dsimp only
    omega
  · cases h
theorem symR_place {row : List Bool} {ls : List Nat} {p : Nat} {a : Nat × Nat} (h : symR row ls p = .ok a) : a.1 < ls.length := by
  unfold symR at h
  split at h
  · rename_i hz
    injection h with h
    subst h
    dsimp only
    unfold next at hz ⊢
    have key : ∀ (k n : Nat), (nxt ls (row.drop p) k n).2.2 = 0 → (nxt ls (row.drop p) k n).1 < ls.length := by
      intro k
      induction k with
      | zero => intro n h; simp [nxt] at h
      | succ k ih =>
        intro n h
        by_cases h1 : (row.drop p).length < n
        · rw [nxt_torn _ _ _ _ h1] at h
          simp at h
        · cases hf : findC ls n (val ((row.drop p).take n)) with
          | some j =>
            rw [nxt_hit ls _ k n j (by omega) hf]
            exact (findC_inv ls n _ j hf).1
          | none =>
            rw [nxt_miss ls _ k n (by omega) hf] at h ⊢
            exact ih (n + 1) h
    exact key 15 1 hz
  · cases h
/-- a table that stands while reading -/
structure TbAt (w : World) (base p : Nat) (ls : List Nat) : Prop where
  tab : TabAt w base p ls
  le : ∀ x ∈ ls, x ≤ 15
  room : room ls ≤ 32768
  len : ls.length ≤ 288
theorem TbAt.keeps {w w' : World} {base p : Nat} {ls : List Nat} (h : TbAt w base p ls) (hk : Keeps base infT w w') : TbAt w' base p ls := by
  obtain ⟨⟨h1, v, h2, h3⟩, h4, h5, h6⟩ := h
  exact ⟨⟨h1, v, hk.blk h2 (by decide), hk.own h3 (by decide)⟩, h4, h5, h6⟩
theorem ex_cells {w : World} {A : Option Addr} {l : List (Nat × Nat)} (h : SlAt w A (l.flatMap exC)) {k : Nat} (hk : k < l.length) : ∃ b o, A = some ⟨b, o, none⟩ ∧ w.cell? ⟨b, o + k * 2, none⟩ = some (.int .i64 (l[k].1 : Int)) ∧ w.cell? ⟨b, o + k * 2 + 1, none⟩ = some (.int .i64 (l[k].2 : Int)) := by
  have e : l.flatMap exC = (l.take k).flatMap exC ++ (exC l[k] ++ (l.drop (k + 1)).flatMap exC) := by
    rw [← List.flatMap_cons, ← List.flatMap_append, ← List.drop_eq_getElem_cons hk, List.take_append_drop]
  have hl : ((l.take k).flatMap exC).length = k * 2 := by rw [exC_len, List.length_take]; omega
  obtain ⟨b, o, ea, hc⟩ := h (by rw [exC_len]; omega)
  refine ⟨b, o, ea, hc (k * 2) _ ?_, hc (k * 2 + 1) _ ?_⟩
  · rw [e, List.getElem?_append_right (by omega), hl, Nat.sub_self]
    rfl
  · rw [e, List.getElem?_append_right (by omega), hl, show k * 2 + 1 - k * 2 = 1 by omega]
    rfl
theorem conv8 (k : Nat) (h : k < 256) : u8v (UInt8.ofNat k) = .int .u8 (k : Int) := by
  unfold u8v n8
  have : (UInt8.ofNat k).toNat = k := by show k % 2 ^ 8 = k; omega
  rw [this]
theorem sameL_bd : ∀ k < 29, (sameL.getD k (0, 0)).1 ≤ 258 ∧ (sameL.getD k (0, 0)).2 ≤ 5 := by decide
theorem farL_bd : ∀ k < 30, (1 ≤ (farL.getD k (0, 0)).1 ∧ (farL.getD k (0, 0)).1 ≤ 24577) ∧ (farL.getD k (0, 0)).2 ≤ 13 := by decide
/-- a pair of a row of the call's own -/
theorem ex_at {w : World} {base n c : Nat} {A : Option Addr} {l : List (Nat × Nat)} (h : w.ownsRow base 123 2 (.slice A n c) n (l.flatMap exC)) {k : Nat} (hk : k < l.length) : ∃ b o, A = some ⟨b, o, none⟩ ∧ w.cell? ⟨b, o + k * 2, none⟩ = some (.int .i64 ((l.getD k (0, 0)).1 : Int)) ∧ w.cell? ⟨b, o + k * 2 + 1, none⟩ = some (.int .i64 ((l.getD k (0, 0)).2 : Int)) := by
  have hg : l.getD k (0, 0) = l[k] := by rw [List.getD_eq_getElem?_getD, List.getElem?_eq_getElem hk]; rfl
  rw [hg]
  obtain ⟨A', c', e, _, _, h3, _⟩ := own_slat h
  injection e with e1 e2 e3
  subst e1
  exact ex_cells h3 hk
/-- what stands beside a reader while a body is read -/
structure Bd (w0 : World) (base : Nat) (A : Option Addr) (n : Nat) (xs : List UInt8) (tl tf : Nat) (lit far : List Nat) (As : Option Addr) (cs : Nat) (Af : Option Addr) (cf : Nat) (w : World) : Prop where
  keep : Keeps base infT w0 w
  inp : InAt_ w base A n xs
  tbl : TbAt w base tl lit
  tbf : TbAt w base tf far
  so : w.ownsRow base 123 2 (.slice As 29 cs) 29 (sameL.flatMap exC)
  fo : w.ownsRow base 123 2 (.slice Af 30 cf) 30 (farL.flatMap exC)
theorem Bd.keeps {w0 w w' : World} {base : Nat} {A : Option Addr} {n : Nat} {xs : List UInt8} {tl tf : Nat} {lit far : List Nat} {As Af : Option Addr} {cs cf : Nat} (h : Bd w0 base A n xs tl tf lit far As cs Af cf w) (hk : Keeps base infT w w') : Bd w0 base A n xs tl tf lit far As cs Af cf w' :=
  ⟨h.keep.trans hk, h.inp.keeps hk, h.tbl.keeps hk, h.tbf.keeps hk, hk.own h.so (by decide), hk.own h.fo (by decide)⟩
theorem getR_pos {row : List Bool} {p n : Nat} {a : Nat × Nat} (h : getR row p n = .ok a) : a.2 = p + n ∧ p + n ≤ row.length := by
  unfold getR at h
  split at h
  · injection h with h
    subst h
    exact ⟨rfl, by assumption⟩
  · cases h
theorem pushR_len {o o2 : List UInt8} {x : UInt8} (h : pushR o x = .ok o2) : o2.length = o.length + 1 := by
  unfold pushR at h
  split at h
  · cases h
  · injection h with h
    subst h
    simp
theorem RdAt.out1 {w : World} {base g q : Nat} {A : Option Addr} {n c pos : Nat} {out : List UInt8} {ks : List Nat} (h : RdAt w base g q A n c pos out ks) : ∃ Ao ol co, ol = out.length ∧ w.cell? ⟨g, 1, none⟩ = some (.slice Ao ol co) ∧ ol ≤ 3000 ∧ SlAt w Ao (out.map u8v) := by
  obtain ⟨hg, hq, hp, hfew, ⟨vo, vk, hb, ho, hk⟩, hsrc⟩ := h
  obtain ⟨Ao, co, rfl, _, _, h3, _⟩ := own_slat ho
  exact ⟨Ao, _, co, rfl, by rw [hb.cell]; rfl, hfew, h3⟩
theorem RdAt.outd {w : World} {base g q : Nat} {A : Option Addr} {n c pos : Nat} {out : List UInt8} {ks : List Nat} (h : RdAt w base g q A n c pos out ks) (h0 : 0 < out.length) : ∃ b o ol co, ol = out.length ∧ w.cell? ⟨g, 1, none⟩ = some (.slice (some ⟨b, o, none⟩) ol co) ∧ ∀ i, i < ol → w.cell? ⟨b, o + i, none⟩ = some (u8v (out.getD i 0)) := by
  obtain ⟨Ao, ol, co, e, h1, _, h3⟩ := h.out1
  obtain ⟨b, o, rfl, hc⟩ := h3 (by rw [List.length_map]; exact h0)
  refine ⟨b, o, ol, co, e, h1, fun i hi => hc i _ ?_⟩
  rw [List.getElem?_map, List.getD_eq_getElem?_getD, List.getElem?_eq_getElem (by omega)]
  rfl
set_option maxRecDepth 100000 in
set_option maxHeartbeats 8000000 in
theorem body_r (base g q tl tf : Nat) (A : Option Addr) (n c pos : Nat) (xs : List UInt8) (out : List UInt8) (ks lit far : List Nat) (w : World) (h : RdAt w base g q A n c pos out ks) (hi : InAt_ w base A n xs) (hl : TbAt w base tl lit) (hf : TbAt w base tf far) (hn : n ≤ 1000000) :
    Calls Try.prog 43 #[.pointer (some ⟨g, 0, none⟩), .pointer (some ⟨tl, 0, none⟩), .pointer (some ⟨tf, 0, none⟩)] w fun e w' =>
      RPost (bodyR (bitsL xs) lit far ((bitsL xs).length + 1) pos out) (fun a e w' => e = .returned (.tuple #[]) ∧ RdAt w' base g q A n c a.1 a.2 ks) e w' ∧ Keeps base infT w w' := by
  obtain ⟨R, hR⟩ : ∃ R, R = bodyR (bitsL xs) lit far ((bitsL xs).length + 1) pos out := ⟨_, rfl⟩
  have hrow : (bitsL xs).length = 8 * n := by rw [bitsL_length, hi.len]
  have Hrow := Lib.hid hrow
  rw [← hR]
  rw [hrow] at hR
  have HU := Lib.hid hR
  have H := Lib.hid h
  have HI := Lib.hid hi
  have HL := Lib.hid hl
  have HFr := Lib.hid hf
  have HS := Lib.hid (sames_any w)
  have hp := h.ple
  have hbw := h.bw
  clear h hi hl hf hR hrow
  go_enter Try.func43, Try.ntmps43
  go_wp2_with fail
  refine (HS.out).mono ?_
  rintro e w2 ⟨As, cs, rfl, hs, hb2⟩
  have HFa := Lib.hid (fars_any w2)
  have HSo := Lib.hid hs
  have Hb2 := Lib.hid hb2
  clear hs hb2 HS
  go_wp2_with fail
  refine (HFa.out).mono ?_
  rintro e w3 ⟨Af, cf, rfl, hfo, hb3⟩
  have HSo := Lib.hid (own_base (own_keep HSo.out hb3) hbw)
  have HFo := Lib.hid (own_base hfo (Nat.le_trans hbw Hb2.out.size))
  have Hb3 := Lib.hid (Hb2.out.trans (hb3.mono Hb2.out.size))
  have HK3 : Hid (Keeps base infT w w3) := Lib.hid (Keeps.of_below Hb3.out hbw)
  have H3 := Lib.hid (H.out.below Hb3.out)
  have HI3 := Lib.hid (HI.out.keeps HK3.out)
  have HL3 := Lib.hid (HL.out.keeps HK3.out)
  have HF3 := Lib.hid (HFr.out.keeps HK3.out)
  clear hfo hb3 HFa H HI HL HFr Hb2 Hb3
  go_wp2_with fail
  go_loopw [] (fun wr => ∃ (f p : Nat) (o : List UInt8), 8 * n + 1 ≤ p + f ∧ R = bodyR (bitsL xs) lit far f p o ∧ RdAt wr base g q A n c p o ks ∧ Keeps base infT w wr ∧ InAt_ wr base A n xs ∧ TbAt wr base tl lit ∧ TbAt wr base tf far ∧ wr.ownsRow base 123 2 (.slice As 29 cs) 29 (sameL.flatMap exC) ∧ wr.ownsRow base 123 2 (.slice Af 30 cf) 30 (farL.flatMap exC)) (fun wr => 8 * n - posOf q wr)
  case atStart => exact ⟨8 * n + 1, pos, out, by omega, HU.out, H3.out, HK3.out, HI3.out, HL3.out, HF3.out, HSo.out, HFo.out⟩
  case round =>
    obtain ⟨f, p, o, hpf, hR, hrd, hk, hin, hlt, hft, hso, hfo⟩ := hrel
    have hple := hrd.ple
    obtain ⟨f, rfl⟩ : ∃ f', f = f' + 1 := ⟨f - 1, by omega⟩
    have HU := Lib.hid (show R = (bodyStep (bitsL xs) lit far p o).then_ fun x => if x.1 = true then .ok x.2 else bodyR (bitsL xs) lit far f x.2.1 x.2.2 from hR)
    have Hpos : Hid (posOf q wr = p) := Lib.hid (posOf_src hrd.src)
    have HK := Lib.hid hk
    have HL := Lib.hid hlt
    have HF := Lib.hid hft
    have HSo := Lib.hid hso
    have HFo := Lib.hid hfo
    have HG := Lib.hid (sym_r base g q tl A n c p xs o ks lit wr hrd hin hlt.tab hlt.le hlt.room hlt.len)
    have HIn := Lib.hid hin
    clear hR hrd hk hin hlt hft hso hfo H3 HK3 HI3 HL3 HF3
    go_wp2_with fail
    refine (HG.out).mono ?_
    rintro e w4 ⟨hr4, hk4⟩
    have HK4 := Lib.hid (HK.out.trans hk4)
    have HI4 := Lib.hid (HIn.out.keeps hk4)
    have HL4 := Lib.hid (HL.out.keeps hk4)
    have HF4 := Lib.hid (HF.out.keeps hk4)
    have HSo4 := Lib.hid (hk4.own HSo.out (by decide))
    have HFo4 := Lib.hid (hk4.own HFo.out (by decide))
    cases hg4 : symR (bitsL xs) lit p with
    | bad z =>
      have he := rpost_bad hr4 hg4
      subst he
      have HU := Lib.hid (show R = .bad z by rw [HU.out]; unfold bodyStep; rw [hg4]; rfl)
      clear hr4 hk4 hg4
      unfold stopE
      go_wp2_with fail
      exact ⟨rfl, bad_rpost HU.out, HK4.out⟩
    | ok a =>
      obtain ⟨he, hrd4⟩ := rpost_ok hr4 hg4
      subst he
      have hp4 := symR_lt hg4 (by rw [Hrow.out]; exact hple)
      rw [Hrow.out] at hp4
      have hpl := symR_place hg4
      have hl288 := HL.out.len
      have Hst := Lib.hid (show bodyStep (bitsL xs) lit far p o = _ by unfold bodyStep; rw [hg4, then_ok])
      have H4 := Lib.hid hrd4
      obtain ⟨k, p4⟩ := a
      dsimp only at hp4 hpl Hst H4 ⊢
      clear hr4 hk4 hg4 hrd4 HG HIn HL HF HSo HFo
      rcases (by omega : k < 256 ∨ k = 256 ∨ 256 < k) with hc | hc | hc
      · have HP := Lib.hid (put_r base g q A n c p4 (UInt8.ofNat k) o ks w4 H4.out)
        rw [conv8 k hc] at HP
        have Hst := Lib.hid (show bodyStep (bitsL xs) lit far p o = (pushR o (UInt8.ofNat k)).then_ fun o => .ok (false, p4, o) by rw [Hst.out, if_pos hc])
        have hc' : (k : Int) < 256 := by omega
        have hc8 : k < 2 ^ 8 := hc
        clear hc
        go_wp2_with fail
        refine (HP.out).mono ?_
        rintro e w5 ⟨hr5, hk5⟩
        have HK5 := Lib.hid (HK4.out.trans hk5)
        have HI5 := Lib.hid (HI4.out.keeps hk5)
        have HL5 := Lib.hid (HL4.out.keeps hk5)
        have HF5 := Lib.hid (HF4.out.keeps hk5)
        have HSo5 := Lib.hid (hk5.own HSo4.out (by decide))
        have HFo5 := Lib.hid (hk5.own HFo4.out (by decide))
        cases hg5 : pushR o (UInt8.ofNat k) with
        | bad z =>
          have he := rpost_bad hr5 hg5
          subst he
          have HU := Lib.hid (show R = .bad z by rw [HU.out, Hst.out, hg5]; rfl)
          clear hr5 hk5 hg5
          unfold stopE
          go_wp2_with fail
          exact ⟨rfl, bad_rpost HU.out, HK5.out⟩
        | ok o2 =>
          obtain ⟨he, hrd5⟩ := rpost_ok hr5 hg5
          subst he
          have HU := Lib.hid (show R = bodyR (bitsL xs) lit far f p4 o2 by rw [HU.out, Hst.out, hg5]; rfl)
          have H5 := Lib.hid hrd5
          clear hr5 hk5 hg5 hrd5 HP
          go_wp2_with fail
          go_roundw
          case rel => exact ⟨f, p4, o2, by omega, HU.out, H5.out, HK5.out, HI5.out, HL5.out, HF5.out, HSo5.out, HFo5.out⟩
          case measure =>
            rw [Hpos.out, posOf_src H5.out.src]
            omega
      · have HU := Lib.hid (show R = .ok (p4, o) by rw [HU.out, Hst.out, if_neg (by omega), if_pos hc]; rfl)
        subst hc
        go_wp2_with fail
        refine bodyPost_ret (results_none rfl _ _ _) rfl ?_
        exact ⟨ok_rpost HU.out ⟨rfl, H4.out⟩, HK4.out⟩
      · obtain ⟨j, rfl⟩ : ∃ j, k = j + 257 := ⟨k - 257, by omega⟩
        have hc1 : ¬ ((j + 257 : Nat) : Int) < 256 := by omega
        have hc2 : (((j + 257 : Nat) : Int) == 256) = false := by rw [beq_eq_false_iff_ne]; omega
        have hc3 : ((j + 257 : Nat) : Int) - 257 = (j : Int) := by omega
        have hw3 : IntKind.i64.wrap (j : Int) = (j : Int) := IntWalk.i64_in _ (by omega)
        by_cases h29 : 29 ≤ j
        · have HU := Lib.hid (show R = .bad 8 by rw [HU.out, Hst.out, if_neg (by omega), if_neg (by omega), if_pos (by omega)]; rfl)
          have h29' : (29 : Int) ≤ (j : Int) := by omega
          clear hc
          go_wp2_with fail
          refine (fail_any 8 _).mono ?_
          rintro e w5 ⟨rfl, rfl⟩
          unfold stopE
          go_wp2_with fail
          exact ⟨rfl, bad_rpost HU.out, HK4.out⟩
        · obtain ⟨bs, os, hAs, hc0, hc1⟩ := ex_at HSo4.out (k := j) (by show j < 29; omega)
          have hSS : Hid (∀ W : World, W.ownsRow base 123 2 (.slice As 29 cs) 29 (sameL.flatMap exC) → W.cell? ⟨bs, os + j * 2, none⟩ = some (.int .i64 ((sameL.getD j (0, 0)).1 : Int)) ∧ W.cell? ⟨bs, os + j * 2 + 1, none⟩ = some (.int .i64 ((sameL.getD j (0, 0)).2 : Int))) := Lib.hid (fun (W : World) hW => by
            obtain ⟨b', o', e, h1, h2⟩ := ex_at hW (k := j) (by show j < 29; omega)
            rw [hAs] at e
            injection e with e
            injection e with e1 e2
            subst e1 e2
            exact ⟨h1, h2⟩)
          obtain ⟨hfr, hbt⟩ := sameL_bd j (by omega)
          have Hst := Lib.hid (show bodyStep (bitsL xs) lit far p o = (getR (bitsL xs) p4 (sameL.getD j (0, 0)).2).then_ fun x => (symR (bitsL xs) far x.2).then_ fun f =>
                if 30 ≤ f.1 then .bad 8
                else (getR (bitsL xs) f.2 (farL.getD f.1 (0, 0)).2).then_ fun y =>
                  if o.length < (farL.getD f.1 (0, 0)).1 + y.1 then .bad 9
                  else (copyR ((farL.getD f.1 (0, 0)).1 + y.1) ((sameL.getD j (0, 0)).1 + x.1) o).then_ fun o => .ok (false, y.2, o) by
            rw [Hst.out, if_neg (by omega), if_neg (by omega), if_neg (by omega), show j + 257 - 257 = j by omega])
          generalize sameL.getD j (0, 0) = ex at *
          obtain ⟨fr, bt⟩ := ex
          dsimp only at hc0 hc1 hfr hbt hSS Hst
          subst hAs
          have HG := Lib.hid (fun W (hr : RdAt W base g q A n c p4 o ks) (hi : InAt_ W base A n xs) => get_r base g q A n c p4 bt xs o ks W hr hi (by omega))
          have hj0 : (0 : Int) ≤ (j : Int) := by omega
          have hj29 : (j : Int) < 29 := by omega
          have h29n : ¬ (29 : Int) ≤ (j : Int) := by omega
          have HB4 := Lib.hid (show Bd w base A n xs tl tf lit far (some ⟨bs, os, none⟩) cs Af cf w4 from ⟨HK4.out, HI4.out, HL4.out, HF4.out, HSo4.out, HFo4.out⟩)
          have hbw4 : base ≤ w4.heap.size := H4.out.bw
          clear hc h29 HK4 HI4 HL4 HF4 HSo4 HFo4
          go_wp2_with fail
          refine wp_region_S (fun W => W.cell? ⟨bs, os + j * 2, none⟩ = some (.int .i64 (fr : Int)) ∧ W.cell? ⟨bs, os + j * 2 + 1, none⟩ = some (.int .i64 (bt : Int))) 13 (by kernel_rfl) ?_
          obtain ⟨w5, hw5⟩ : ∃ w5, w5 = w4.drew := ⟨_, rfl⟩
          have hb5 : Below w4.heap.size w4 w5 := by rw [hw5]; exact (Below.refl _ _).drew
          have H5 := Lib.hid (H4.out.below hb5)
          have HB5 := Lib.hid (HB4.out.keeps (Keeps.of_below hb5 hbw4))
          rw [← hw5]
          have hHeld := hSS.out w5 HB5.out.so
          clear hw5 hb5 hc0 hc1
          refine wpAnyS_take (i := 0) (v := ?va0) (by kernel_rfl) rfl (by kernel_rfl) (by kernel_rfl) (by kernel_rfl) (fun _ _ _ h => h) (by rfl) (by assumption) ?hya0 ?resta0
          case hya0 => (intro W hSW; (try dsimp only at hSW); go_simp; try with_reducible rfl)
          (try simp only [Act.put, List.getElem_toArray, List.getElem_cons_zero, List.getElem_cons_succ, List.setIfInBounds_toArray, List.set_cons_zero, List.set_cons_succ])
          refine wpAnyS_take (i := 1) (v := ?va1) (by kernel_rfl) rfl (by kernel_rfl) (by kernel_rfl) (by kernel_rfl) (fun _ _ _ h => h) (by rfl) (by assumption) ?hya1 ?resta1
          case hya1 => (intro W hSW; (try dsimp only at hSW); go_simp; try with_reducible rfl)
          (try simp only [Act.put, List.getElem_toArray, List.getElem_cons_zero, List.getElem_cons_succ, List.setIfInBounds_toArray, List.set_cons_zero, List.set_cons_succ])
          refine wpAnyS_take (i := 2) (v := ?va2) (by kernel_rfl) rfl (by kernel_rfl) (by kernel_rfl) (by kernel_rfl) (fun _ _ _ h => h) (by rfl) (by assumption) ?hya2 ?resta2
          case hya2 => (intro W hSW; (try dsimp only at hSW); go_simp; try with_reducible rfl)
          (try simp only [Act.put, List.getElem_toArray, List.getElem_cons_zero, List.getElem_cons_succ, List.setIfInBounds_toArray, List.set_cons_zero, List.set_cons_succ])
          refine wpAnyS_take (i := 3) (v := ?va3) (by kernel_rfl) rfl (by kernel_rfl) (by kernel_rfl) (by kernel_rfl) (fun _ _ _ h => h) (by rfl) (by assumption) ?hya3 ?resta3
          case hya3 => (intro W hSW; (try dsimp only at hSW); go_simp; try with_reducible rfl)
          (try simp only [Act.put, List.getElem_toArray, List.getElem_cons_zero, List.getElem_cons_succ, List.setIfInBounds_toArray, List.set_cons_zero, List.set_cons_succ])
          refine wpAnyS_take (i := 4) (v := ?va4) (by kernel_rfl) rfl (by kernel_rfl) (by kernel_rfl) (by kernel_rfl) (fun _ _ _ h => h) (by rfl) (by assumption) ?hya4 ?resta4
          case hya4 => (intro W hSW; (try dsimp only at hSW); go_simp; try with_reducible rfl)
          (try simp only [Act.put, List.getElem_toArray, List.getElem_cons_zero, List.getElem_cons_succ, List.setIfInBounds_toArray, List.set_cons_zero, List.set_cons_succ])
          refine wpAnyS_take (i := 5) (v := ?va5) (by kernel_rfl) rfl (by kernel_rfl) (by kernel_rfl) (by kernel_rfl) (fun _ _ _ h => h) (by rfl) (by assumption) ?hya5 ?resta5
          case hya5 => (intro W hSW; (try dsimp only at hSW); go_simp; try with_reducible rfl)
          (try simp only [Act.put, List.getElem_toArray, List.getElem_cons_zero, List.getElem_cons_succ, List.setIfInBounds_toArray, List.set_cons_zero, List.set_cons_succ])
          refine wpAnyS_take (i := 6) (v := ?va6) (by kernel_rfl) rfl (by kernel_rfl) (by kernel_rfl) (by kernel_rfl) (fun _ _ _ h => h) (by rfl) (by assumption) ?hya6 ?resta6
          case hya6 => (intro W hSW; (try dsimp only at hSW); go_simp; try with_reducible rfl)
          (try simp only [Act.put, List.getElem_toArray, List.getElem_cons_zero, List.getElem_cons_succ, List.setIfInBounds_toArray, List.set_cons_zero, List.set_cons_succ])
          refine wpAnyS_take (i := 7) (v := ?va7) (by kernel_rfl) rfl (by kernel_rfl) (by kernel_rfl) (by kernel_rfl) (fun _ _ _ h => h) (by rfl) (by assumption) ?hya7 ?resta7
          case hya7 => (intro W hSW; (try dsimp only at hSW); go_simp; try with_reducible rfl)
          (try simp only [Act.put, List.getElem_toArray, List.getElem_cons_zero, List.getElem_cons_succ, List.setIfInBounds_toArray, List.set_cons_zero, List.set_cons_succ])
          refine wpAnyS_take (i := 8) (v := ?va8) (by kernel_rfl) rfl (by kernel_rfl) (by kernel_rfl) (by kernel_rfl) (fun _ _ _ h => h) (by rfl) (by assumption) ?hya8 ?resta8
          case hya8 => (intro W hSW; (try dsimp only at hSW); go_simp; try with_reducible rfl)
          (try simp only [Act.put, List.getElem_toArray, List.getElem_cons_zero, List.getElem_cons_succ, List.setIfInBounds_toArray, List.set_cons_zero, List.set_cons_succ])
          refine wpAnyS_take (i := 9) (v := ?va9) (by kernel_rfl) rfl (by kernel_rfl) (by kernel_rfl) (by kernel_rfl) (fun _ _ _ h => h) (by rfl) (by assumption) ?hya9 ?resta9
          case hya9 => (intro W hSW; (try dsimp only at hSW); go_simp; try with_reducible rfl)
          (try simp only [Act.put, List.getElem_toArray, List.getElem_cons_zero, List.getElem_cons_succ, List.setIfInBounds_toArray, List.set_cons_zero, List.set_cons_succ])
          refine wpAnyS_take (i := 10) (v := ?va10) (by kernel_rfl) rfl (by kernel_rfl) (by kernel_rfl) (by kernel_rfl) (fun _ _ _ h => h) (by rfl) (by assumption) ?hya10 ?resta10
          case hya10 => (intro W hSW; (try dsimp only at hSW); go_simp; try with_reducible rfl)
          (try simp only [Act.put, List.getElem_toArray, List.getElem_cons_zero, List.getElem_cons_succ, List.setIfInBounds_toArray, List.set_cons_zero, List.set_cons_succ])
          refine wpAnyS_only (i := 11) rfl (by kernel_rfl) (fun K hK => ?_)
          go_simp
          clear hHeld
          go_at_call 41
          refine (HG.out w5 H5.out HB5.out.inp).mono ?_
          rintro e w6 ⟨hr6, hk6⟩
          have HB6 := Lib.hid (HB5.out.keeps hk6)
          cases hg6 : getR (bitsL xs) p4 bt with
          | bad z =>
            have he := rpost_bad hr6 hg6
            subst he
            have HU := Lib.hid (show R = .bad z by rw [HU.out, Hst.out, hg6]; rfl)
            clear hr6 hk6 hg6
            unfold stopE
            go_wp2_with fail
            exact ⟨rfl, bad_rpost HU.out, HB6.out.keep⟩
          | ok a =>
            obtain ⟨he, hrd6⟩ := rpost_ok hr6 hg6
            subst he
            have hx := getR_lt hg6
            have hq6 := getR_pos hg6
            replace Hst := Lib.hid (Hst.out.trans (by rw [hg6, then_ok]))
            have H6 := Lib.hid hrd6
            obtain ⟨x, p6⟩ := a
            dsimp only at hx hq6 Hst H6 ⊢
            have hx32 : x < 32 := Nat.lt_of_lt_of_le hx (Nat.le_trans (Nat.pow_le_pow_right (by omega) hbt) (by decide))
            have hwx : IntKind.i64.wrap ((fr : Int) + (x : Int)) = ((fr + x : Nat) : Int) := by rw [show (fr : Int) + (x : Int) = ((fr + x : Nat) : Int) by omega]; exact IntWalk.i64_in _ (by omega)
            have hm300 : fr + x ≤ 300 := by omega
            clear hr6 hk6 hg6 hrd6 hx HG
            refine hK.out _ _ (hSS.out w6 HB6.out.so) (fun hHeld => ?_)
            clear hK K
            (try simp only [Act.put, List.getElem_toArray, List.getElem_cons_zero, List.getElem_cons_succ, List.setIfInBounds_toArray, List.set_cons_zero, List.set_cons_succ])
            refine wpAnyS_only (i := 12) rfl (by kernel_rfl) (fun K hK => ?_)
            go_simp
            rw [show (fr : Int) + (x : Int) = ((fr + x : Nat) : Int) by omega]
            refine hK.out _ _ (hSS.out w6 HB6.out.so) (fun hHeld => ?_)
            clear hK K hHeld
            (try simp only [Act.put, List.getElem_toArray, List.getElem_cons_zero, List.getElem_cons_succ, List.setIfInBounds_toArray, List.set_cons_zero, List.set_cons_succ])
            generalize hmm : fr + x = m at *
            refine wpAnyS_last rfl (by kernel_rfl) (by kernel_rfl) (fun K hK => ?_)
            go_simp
            refine hK.out _ _ ?_
            clear hK K
            have HY := Lib.hid (sym_r base g q tf A n c p6 xs o ks far w6 H6.out HB6.out.inp HB6.out.tbf.tab HB6.out.tbf.le HB6.out.tbf.room HB6.out.tbf.len)
            have hf288 := HB6.out.tbf.len
            have hple6 := H6.out.ple
            go_wp2_with fail
            refine (HY.out).mono ?_
            rintro e w7 ⟨hr7, hk7⟩
            have HB7 := Lib.hid (HB6.out.keeps hk7)
            cases hg7 : symR (bitsL xs) far p6 with
            | bad z =>
              have he := rpost_bad hr7 hg7
              subst he
              have HU := Lib.hid (show R = .bad z by rw [HU.out, Hst.out, hg7]; rfl)
              clear hr7 hk7 hg7
              unfold stopE
              go_wp2_with fail
              exact ⟨rfl, bad_rpost HU.out, HB7.out.keep⟩
            | ok a =>
              obtain ⟨he, hrd7⟩ := rpost_ok hr7 hg7
              subst he
              have hp7 := symR_lt hg7 (by rw [Hrow.out]; exact hple6)
              rw [Hrow.out] at hp7
              have hpl7 := symR_place hg7
              replace Hst := Lib.hid (Hst.out.trans (by rw [hg7, then_ok]))
              have H7 := Lib.hid hrd7
              obtain ⟨j2, p7⟩ := a
              dsimp only at hp7 hpl7 Hst H7 ⊢
              clear hr7 hk7 hg7 hrd7 HY
              have hj20 : (0 : Int) ≤ (j2 : Int) := by omega
              by_cases h30 : 30 ≤ j2
              · have HU := Lib.hid (show R = .bad 8 by rw [HU.out, Hst.out, if_pos h30]; rfl)
                have h30' : (30 : Int) ≤ (j2 : Int) := by omega
                go_wp2_with fail
                refine (fail_any 8 _).mono ?_
                rintro e w8 ⟨rfl, rfl⟩
                unfold stopE
                go_wp2_with fail
                exact ⟨rfl, bad_rpost HU.out, HB7.out.keep⟩
              · replace Hst := Lib.hid (Hst.out.trans (if_neg h30))
                obtain ⟨bf, of, hAf, _, _⟩ := ex_at HB7.out.fo (k := j2) (by show j2 < 30; omega)
                have hSF : Hid (∀ W : World, W.ownsRow base 123 2 (.slice Af 30 cf) 30 (farL.flatMap exC) → W.cell? ⟨bf, of + j2 * 2, none⟩ = some (.int .i64 ((farL.getD j2 (0, 0)).1 : Int)) ∧ W.cell? ⟨bf, of + j2 * 2 + 1, none⟩ = some (.int .i64 ((farL.getD j2 (0, 0)).2 : Int))) := Lib.hid (fun (W : World) hW => by
                  obtain ⟨b', o', e, h1, h2⟩ := ex_at hW (k := j2) (by show j2 < 30; omega)
                  rw [hAf] at e
                  injection e with e
                  injection e with e1 e2
                  subst e1 e2
                  exact ⟨h1, h2⟩)
                obtain ⟨hfr2, hbt2⟩ := farL_bd j2 (by omega)
                generalize farL.getD j2 (0, 0) = ex at Hst hSF hfr2 hbt2
                obtain ⟨fr2, bt2⟩ := ex
                dsimp only at hfr2 hbt2 hSF Hst
                subst hAf
                have HG := Lib.hid (fun W (hr : RdAt W base g q A n c p7 o ks) (hi : InAt_ W base A n xs) => get_r base g q A n c p7 bt2 xs o ks W hr hi (by omega))
                have hj230 : (j2 : Int) < 30 := by omega
                have h30n : ¬ (30 : Int) ≤ (j2 : Int) := by omega
                have hbw7 : base ≤ w7.heap.size := H7.out.bw
                clear h30
                go_wp2_with fail
                refine wp_region_S (fun W => W.cell? ⟨bf, of + j2 * 2, none⟩ = some (.int .i64 (fr2 : Int)) ∧ W.cell? ⟨bf, of + j2 * 2 + 1, none⟩ = some (.int .i64 (bt2 : Int))) 13 (by kernel_rfl) ?_
                obtain ⟨w8, hw8⟩ : ∃ w8, w8 = w7.drew := ⟨_, rfl⟩
                have hb8 : Below w7.heap.size w7 w8 := by rw [hw8]; exact (Below.refl _ _).drew
                have H8 := Lib.hid (H7.out.below hb8)
                have HB8 := Lib.hid (HB7.out.keeps (Keeps.of_below hb8 hbw7))
                rw [← hw8]
                have hHeld := hSF.out w8 HB8.out.fo
                clear hw8 hb8
                refine wpAnyS_take (i := 0) (v := ?vb0) (by kernel_rfl) rfl (by kernel_rfl) (by kernel_rfl) (by kernel_rfl) (fun _ _ _ h => h) (by rfl) (by assumption) ?hyb0 ?restb0
                case hyb0 => (intro W hSW; (try dsimp only at hSW); go_simp; try with_reducible rfl)
                (try simp only [Act.put, List.getElem_toArray, List.getElem_cons_zero, List.getElem_cons_succ, List.setIfInBounds_toArray, List.set_cons_zero, List.set_cons_succ])
                refine wpAnyS_take (i := 1) (v := ?vb1) (by kernel_rfl) rfl (by kernel_rfl) (by kernel_rfl) (by kernel_rfl) (fun _ _ _ h => h) (by rfl) (by assumption) ?hyb1 ?restb1
                case hyb1 => (intro W hSW; (try dsimp only at hSW); go_simp; try with_reducible rfl)
                (try simp only [Act.put, List.getElem_toArray, List.getElem_cons_zero, List.getElem_cons_succ, List.setIfInBounds_toArray, List.set_cons_zero, List.set_cons_succ])
                refine wpAnyS_take (i := 2) (v := ?vb2) (by kernel_rfl) rfl (by kernel_rfl) (by kernel_rfl) (by kernel_rfl) (fun _ _ _ h => h) (by rfl) (by assumption) ?hyb2 ?restb2
                case hyb2 => (intro W hSW; (try dsimp only at hSW); go_simp; try with_reducible rfl)
                (try simp only [Act.put, List.getElem_toArray, List.getElem_cons_zero, List.getElem_cons_succ, List.setIfInBounds_toArray, List.set_cons_zero, List.set_cons_succ])
                refine wpAnyS_take (i := 3) (v := ?vb3) (by kernel_rfl) rfl (by kernel_rfl) (by kernel_rfl) (by kernel_rfl) (fun _ _ _ h => h) (by rfl) (by assumption) ?hyb3 ?restb3
                case hyb3 => (intro W hSW; (try dsimp only at hSW); go_simp; try with_reducible rfl)
                (try simp only [Act.put, List.getElem_toArray, List.getElem_cons_zero, List.getElem_cons_succ, List.setIfInBounds_toArray, List.set_cons_zero, List.set_cons_succ])
                refine wpAnyS_take (i := 4) (v := ?vb4) (by kernel_rfl) rfl (by kernel_rfl) (by kernel_rfl) (by kernel_rfl) (fun _ _ _ h => h) (by rfl) (by assumption) ?hyb4 ?restb4
                case hyb4 => (intro W hSW; (try dsimp only at hSW); go_simp; try with_reducible rfl)
                (try simp only [Act.put, List.getElem_toArray, List.getElem_cons_zero, List.getElem_cons_succ, List.setIfInBounds_toArray, List.set_cons_zero, List.set_cons_succ])
                refine wpAnyS_take (i := 5) (v := ?vb5) (by kernel_rfl) rfl (by kernel_rfl) (by kernel_rfl) (by kernel_rfl) (fun _ _ _ h => h) (by rfl) (by assumption) ?hyb5 ?restb5
                case hyb5 => (intro W hSW; (try dsimp only at hSW); go_simp; try with_reducible rfl)
                (try simp only [Act.put, List.getElem_toArray, List.getElem_cons_zero, List.getElem_cons_succ, List.setIfInBounds_toArray, List.set_cons_zero, List.set_cons_succ])
                refine wpAnyS_take (i := 6) (v := ?vb6) (by kernel_rfl) rfl (by kernel_rfl) (by kernel_rfl) (by kernel_rfl) (fun _ _ _ h => h) (by rfl) (by assumption) ?hyb6 ?restb6
                case hyb6 => (intro W hSW; (try dsimp only at hSW); go_simp; try with_reducible rfl)
                (try simp only [Act.put, List.getElem_toArray, List.getElem_cons_zero, List.getElem_cons_succ, List.setIfInBounds_toArray, List.set_cons_zero, List.set_cons_succ])
                refine wpAnyS_take (i := 7) (v := ?vb7) (by kernel_rfl) rfl (by kernel_rfl) (by kernel_rfl) (by kernel_rfl) (fun _ _ _ h => h) (by rfl) (by assumption) ?hyb7 ?restb7
                case hyb7 => (intro W hSW; (try dsimp only at hSW); go_simp; try with_reducible rfl)
                (try simp only [Act.put, List.getElem_toArray, List.getElem_cons_zero, List.getElem_cons_succ, List.setIfInBounds_toArray, List.set_cons_zero, List.set_cons_succ])
                refine wpAnyS_take (i := 8) (v := ?vb8) (by kernel_rfl) rfl (by kernel_rfl) (by kernel_rfl) (by kernel_rfl) (fun _ _ _ h => h) (by rfl) (by assumption) ?hyb8 ?restb8
                case hyb8 => (intro W hSW; (try dsimp only at hSW); go_simp; try with_reducible rfl)
                (try simp only [Act.put, List.getElem_toArray, List.getElem_cons_zero, List.getElem_cons_succ, List.setIfInBounds_toArray, List.set_cons_zero, List.set_cons_succ])
                refine wpAnyS_take (i := 9) (v := ?vb9) (by kernel_rfl) rfl (by kernel_rfl) (by kernel_rfl) (by kernel_rfl) (fun _ _ _ h => h) (by rfl) (by assumption) ?hyb9 ?restb9
                case hyb9 => (intro W hSW; (try dsimp only at hSW); go_simp; try with_reducible rfl)
                (try simp only [Act.put, List.getElem_toArray, List.getElem_cons_zero, List.getElem_cons_succ, List.setIfInBounds_toArray, List.set_cons_zero, List.set_cons_succ])
                refine wpAnyS_take (i := 10) (v := ?vb10) (by kernel_rfl) rfl (by kernel_rfl) (by kernel_rfl) (by kernel_rfl) (fun _ _ _ h => h) (by rfl) (by assumption) ?hyb10 ?restb10
                case hyb10 => (intro W hSW; (try dsimp only at hSW); go_simp; try with_reducible rfl)
                (try simp only [Act.put, List.getElem_toArray, List.getElem_cons_zero, List.getElem_cons_succ, List.setIfInBounds_toArray, List.set_cons_zero, List.set_cons_succ])
                refine wpAnyS_only (i := 11) rfl (by kernel_rfl) (fun K hK => ?_)
                go_simp
                clear hHeld
                go_at_call 41
                refine (HG.out w8 H8.out HB8.out.inp).mono ?_
                rintro e w9 ⟨hr9, hk9⟩
                have HB9 := Lib.hid (HB8.out.keeps hk9)
                cases hg9 : getR (bitsL xs) p7 bt2 with
                | bad z =>
                  have he := rpost_bad hr9 hg9
                  subst he
                  have HU := Lib.hid (show R = .bad z by rw [HU.out, Hst.out, hg9]; rfl)
                  clear hr9 hk9 hg9
                  unfold stopE
                  go_wp2_with fail
                  exact ⟨rfl, bad_rpost HU.out, HB9.out.keep⟩
                | ok a =>
                  obtain ⟨he, hrd9⟩ := rpost_ok hr9 hg9
                  subst he
                  have hy := getR_lt hg9
                  have hq9 := getR_pos hg9
                  replace Hst := Lib.hid (Hst.out.trans (by rw [hg9, then_ok]))
                  have H9 := Lib.hid hrd9
                  obtain ⟨y, p9⟩ := a
                  dsimp only at hy hq9 Hst H9 ⊢
                  have hy8k : y < 8192 := Nat.lt_of_lt_of_le hy (Nat.le_trans (Nat.pow_le_pow_right (by omega) hbt2) (by decide))
                  have hwy : IntKind.i64.wrap ((fr2 : Int) + (y : Int)) = ((fr2 + y : Nat) : Int) := by rw [show (fr2 : Int) + (y : Int) = ((fr2 + y : Nat) : Int) by omega]; exact IntWalk.i64_in _ (by omega)
                  have hd0 : 1 ≤ fr2 + y := by have := hfr2.1; omega
                  have hd1 : fr2 + y ≤ 40000 := by omega
                  clear hr9 hk9 hg9 hrd9 hy HG
                  refine hK.out _ _ (hSF.out w9 HB9.out.fo) (fun hHeld => ?_)
                  clear hK K
                  (try simp only [Act.put, List.getElem_toArray, List.getElem_cons_zero, List.getElem_cons_succ, List.setIfInBounds_toArray, List.set_cons_zero, List.set_cons_succ])
                  refine wpAnyS_only (i := 12) rfl (by kernel_rfl) (fun K hK => ?_)
                  go_simp
                  rw [show (fr2 : Int) + (y : Int) = ((fr2 + y : Nat) : Int) by omega]
                  refine hK.out _ _ (hSF.out w9 HB9.out.fo) (fun hHeld => ?_)
                  clear hK K hHeld
                  (try simp only [Act.put, List.getElem_toArray, List.getElem_cons_zero, List.getElem_cons_succ, List.setIfInBounds_toArray, List.set_cons_zero, List.set_cons_succ])
                  generalize hdd : fr2 + y = d at *
                  refine wpAnyS_last rfl (by kernel_rfl) (by kernel_rfl) (fun K hK => ?_)
                  go_simp
                  refine hK.out _ _ ?_
                  clear hK K hSS hSF
                  obtain ⟨Ao, ol, co, hol, b1, ho3, _⟩ := H9.out.out1
                  have Hol := Lib.hid hol
                  by_cases hd : ol < d
                  · have HU := Lib.hid (show R = .bad 9 by rw [HU.out, Hst.out, if_pos (by rw [← hol]; exact hd)]; rfl)
                    have hd' : (ol : Int) < (d : Int) := by omega
                    clear hol
                    go_wp2_with fail
                    refine (fail_any 9 _).mono ?_
                    rintro e w10 ⟨rfl, rfl⟩
                    unfold stopE
                    go_wp2_with fail
                    exact ⟨rfl, bad_rpost HU.out, HB9.out.keep⟩
                  · have hst : bodyStep (bitsL xs) lit far p o = (copyR d m o).then_ fun o => .ok (false, p9, o) := Hst.out.trans (if_neg (by rw [← hol]; exact hd))
                    have HU := Lib.hid (show R = (copyR d m o).then_ fun o => bodyR (bitsL xs) lit far f p9 o by rw [HU.out, hst]; cases copyR d m o <;> rfl)
                    have hd' : ¬ (ol : Int) < (d : Int) := by omega
                    have hdo : d ≤ o.length := by rw [← hol]; omega
                    clear hol hst
                    go_wp2_with fail
                    go_loopw [77] (fun vi wr => ∃ (k r : Nat) (o' : List UInt8), k + r = m ∧ vi = .int .i64 (k : Int) ∧ d ≤ o'.length ∧ R = (copyR d r o').then_ (fun o => bodyR (bitsL xs) lit far f p9 o) ∧ RdAt wr base g q A n c p9 o' ks ∧ Bd w base A n xs tl tf lit far (some ⟨bs, os, none⟩) cs (some ⟨bf, of, none⟩) cf wr) (fun vi _ => m - (intOf vi).toNat)
                    case atStart => exact ⟨0, m, o, by omega, rfl, hdo, HU.out, H9.out, HB9.out⟩
                    case round =>
                      obtain ⟨k, r, o', hkr, rfl, hdo', hR, hrd, hbd⟩ := hrel
                      have HU := Lib.hid hR
                      have HR := Lib.hid hrd
                      have HB := Lib.hid hbd
                      clear hR hrd hbd HB9 H9 HB8 H8
                      by_cases hlt : k < m
                      · obtain ⟨r, rfl⟩ : ∃ r', r = r' + 1 := ⟨r - 1, by omega⟩
                        obtain ⟨b, oo, ol, co, hol, hb1, hsl⟩ := HR.out.outd (by omega)
                        have hbwr : base ≤ wr.heap.size := HR.out.bw
                        have hfew := HR.out.few
                        obtain ⟨ix, hix⟩ : ∃ ix, ix = ol - d := ⟨_, rfl⟩
                        have hcx := hsl ix (by omega)
                        have HU := Lib.hid (show R = (pushR o' (o'.getD ix 0)).then_ fun o => (copyR d r o).then_ (fun o => bodyR (bitsL xs) lit far f p9 o) by
                          rw [HU.out, hix, hol]
                          show ((pushR o' (o'.getD (o'.length - d) 0)).then_ fun o => copyR d r o).then_ _ = _
                          cases pushR o' (o'.getD (o'.length - d) 0) <;> rfl)
                        have hwi : IntKind.i64.wrap ((ol : Int) - (d : Int)) = (ix : Int) := by rw [show (ol : Int) - (d : Int) = (ix : Int) by omega]; exact IntWalk.i64_in _ (by omega)
                        have hki : IntKind.i64.wrap ((k : Int) + 1) = ((k + 1 : Nat) : Int) := by rw [show (k : Int) + 1 = ((k + 1 : Nat) : Int) by omega]; exact IntWalk.i64_in _ (by omega)
                        have hix1 : (ix : Int) < (ol : Int) := by omega
                        have hix0 : (0 : Int) ≤ (ix : Int) := by omega
                        have hlt' : (k : Int) < (m : Int) := by omega
                        generalize o'.getD ix 0 = bx at *
                        have HP := Lib.hid (fun W (hr : RdAt W base g q A n c p9 o' ks) => put_r base g q A n c p9 bx o' ks W hr)
                        clear hix hol hsl
                        go_wp2_with fail
                        go_still_tail 14, (by kernel_rfl)
                        obtain ⟨w10, hw10⟩ : ∃ w10, w10 = wr.drew := ⟨_, rfl⟩
                        have hb10 : Below wr.heap.size wr w10 := by rw [hw10]; exact (Below.refl _ _).drew
                        have H10 := Lib.hid (HR.out.below hb10)
                        have HB10 := Lib.hid (HB.out.keeps (Keeps.of_below hb10 hbwr))
                        change wpList _ _ _ _ _ wr.drew
                        rw [← hw10]
                        clear hw10 hb10 hb1 hcx
                        go_wp2_with fail
                        refine (HP.out w10 H10.out).mono ?_
                        rintro e w11 ⟨hr11, hk11⟩
                        have HB11 := Lib.hid (HB10.out.keeps hk11)
                        cases hg11 : pushR o' bx with
                        | bad z =>
                          have he := rpost_bad hr11 hg11
                          subst he
                          have HU := Lib.hid (show R = .bad z by rw [HU.out, hg11]; rfl)
                          clear hr11 hk11 hg11
                          unfold stopE
                          go_wp2_with fail
                          exact ⟨rfl, bad_rpost HU.out, HB11.out.keep⟩
                        | ok o2 =>
                          obtain ⟨he, hrd11⟩ := rpost_ok hr11 hg11
                          subst he
                          have ho2 := pushR_len hg11
                          have HU := Lib.hid (show R = (copyR d r o2).then_ (fun o => bodyR (bitsL xs) lit far f p9 o) by rw [HU.out, hg11]; rfl)
                          have H11 := Lib.hid hrd11
                          clear hr11 hk11 hg11 hrd11 HP
                          go_wp2_with fail
                          go_roundw
                          case rel => exact ⟨k + 1, r, o2, by omega, rfl, by omega, HU.out, H11.out, HB11.out⟩
                          case measure =>
                            show m - (k + 1) < m - k
                            omega
                      · have hlt' : ¬ (k : Int) < (m : Int) := by omega
                        have HU := Lib.hid (show R = bodyR (bitsL xs) lit far f p9 o' by rw [HU.out, show r = 0 by omega]; rfl)
                        go_wp2_with fail
                        go_roundw
                        case rel => exact ⟨f, p9, o', by omega, HU.out, HR.out, HB.out.keep, HB.out.inp, HB.out.tbl, HB.out.tbf, HB.out.so, HB.out.fo⟩
                        case measure =>
                          rw [Hpos.out, posOf_src HR.out.src]
                          omega
end Go.Proofs.Ythpdcnjaodjjmaa.Inf
