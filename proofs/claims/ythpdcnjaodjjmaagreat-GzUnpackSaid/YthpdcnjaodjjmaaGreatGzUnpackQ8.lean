/- texts joined: GzUn GzFact SumCrcOf UnpPure CdsPure NumP0 CdsRep SlcMem SlcSwap SlcIns SlcSym. -/
import Derived.Test.YthpdcnjaodjjmaaGreatGzUnpackQ7
import Derived.Test.YthpdcnjaodjjmaaGreatGzUnpackQ6
import Derived.Lib.SlBytesConst
import Derived.Test.YthpdcnjaodjjmaaGreatProg
import Derived.WalkSpells
import Derived.Test.YthpdcnjaodjjmaaGreatGzUnpackQ1
import Derived.Test.YthpdcnjaodjjmaaGreatSortPure
import Derived.Test.YthpdcnjaodjjmaaGreatGzUnpackQ3
import Derived.Test.YthpdcnjaodjjmaaGreatGzUnpackQ4
import Derived.BigQuiet
import Derived.Maps.AppendAt
import Derived.Lib.ReflectliteSwap
import Derived.Lib.ReflectliteSlice
import Derived.Laws.Externs
/- package gz: Unpack: the walk. -/
namespace Go.Proofs.YthpdcnjaodjjmaaGreat.Gz
open Go Go.RowKit Go.Proofs.YthpdcnjaodjjmaaGreat Go.Proofs.YthpdcnjaodjjmaaGreat.Bits Go.Proofs.YthpdcnjaodjjmaaGreat.Inf Go.Proofs.YthpdcnjaodjjmaaGreat.Rt Go.Proofs.YthpdcnjaodjjmaaGreat.Blk
set_option linter.unusedVariables false

set_option maxHeartbeats 400000 in
theorem hasPre_any (A B : Option Addr) (n m ca cb : Nat) (xs ys : List UInt8) (w : World) (hn : xs.length = n) (hm : ys.length = m) (hnc : n ≤ ca) (hx : ca ≤ 9223372036854775807) (hmx : m ≤ 140737488355328) (ha : ByAt w A xs) (hb : ByAt w B ys) :
  Calls Tryz.prog 23 #[.slice A n ca, .slice B m cb] w fun e w' => e = .returned (.bool (decide (xs.take m = ys))) ∧ w' = w := by
 have Hn := Lib.hid hn
 have Hm := Lib.hid hm
 have HA := Lib.hid (ByAt.take ha m)
 have HB := Lib.hid hb
 clear hn hm ha hb
 go_enter Tryz.func23, Tryz.ntmps23
 by_cases hmn : m ≤ n
 ·have h1 : (m : Int) ≤ (n : Int) := by omega
  have h2 : (m : Int) ≤ (ca : Int) := by omega
  have h3 : ¬ ((n : Int) < (m : Int)) := by omega
  go_wp2_with fail
  refine (equal_bytes A B m m ca cb (xs.take m) ys w (by rw [List.length_take, Hn.out]; omega) Hm.out HA.out HB.out).mono ?_
  rintro e w' ⟨rfl, rfl⟩
  go_wp2_with fail
  go_ret
  exact ⟨rfl, rfl⟩
 ·have h1 : ¬ (m : Int) ≤ (n : Int) := by omega
  have h3 : ((n : Int) < (m : Int)) := by omega
  have Hd : Hid (decide (xs.take m = ys) = false) := Lib.hid (by
   rw [decide_eq_false_iff_not]; intro h
   have := congrArg List.length h
   rw [List.length_take, Hn.out, Hm.out] at this
   omega)
  clear hmn
  go_wp2_with fail
  go_ret
  exact ⟨by rw [Hd.out]; rfl, rfl⟩
def CutPost (A : Option Addr) (n ca : Nat) (xs : List UInt8) (w : World) (e : Ending) : Prop :=
 (¬ (xs.take 10 = hdr10) ∧ e = .returned (.tuple #[.slice A n ca, .bool false])) ∨
 (xs.take 10 = hdr10 ∧ 10 ≤ n ∧ ∃ b o, e = .returned (.tuple #[.slice (some ⟨b, o, none⟩) (n - 10) (ca - 10), .bool true]) ∧ ByAt w (some ⟨b, o, none⟩) (xs.drop 10))
set_option maxRecDepth 100000 in
set_option maxHeartbeats 400000 in
theorem cut_any (A B : Option Addr) (n ca cb : Nat) (xs : List UInt8) (w : World) (hn : xs.length = n) (hnc : n ≤ ca) (hx : ca ≤ 9223372036854775807) (ha : ByAt w A xs) (hb : ByAt w B hdr10) :
  Calls Tryz.prog 12 #[.slice A n ca, .slice B 10 cb] w fun e w' => CutPost A n ca xs w e ∧ w' = w := by
 have Hn := Lib.hid hn
 have HA := Lib.hid ha
 have HP := Lib.hid (hasPre_any A B n 10 ca cb xs hdr10 w hn rfl hnc hx (by omega) ha hb)
 clear hn ha hb
 go_enter Tryz.func12, Tryz.ntmps12
 go_wp2_with fail
 refine (HP.out).mono ?_
 rintro e w1 ⟨rfl, rfl⟩
 by_cases h : xs.take 10 = hdr10
 ·have h10 : 10 ≤ n := by
   have := congrArg List.length h
   rw [List.length_take, Hn.out, hdr_len] at this
   omega
  have H := Lib.hid h
  rw [show decide (xs.take 10 = hdr10) = true from by simp [h]]
  obtain ⟨b, o, rfl, hc0⟩ := HA.out.get (k := 0) (by rw [Hn.out]; omega)
  have HD := Lib.hid (ByAt.drop HA.out 10)
  have h10a : (10 : Int) ≤ (n : Int) := by omega
  have h10b : (10 : Int) ≤ (ca : Int) := by omega
  have hh : 10 ≤ ca := by omega
  have HN0 : Hid (ca = 10 → ByAt w1 (some ⟨b, o, none⟩) (xs.drop 10)) := Lib.hid (fun e => by
   have hz : xs.drop 10 = [] := List.drop_eq_nil_iff.2 (by rw [Hn.out]; omega)
   rw [hz]; exact SlAt.nil)
  clear h HP hc0
  by_cases hca : ca = 10
  ·have HN1 := Lib.hid (HN0.out hca)
   clear HN0
   subst hca
   obtain rfl : n = 10 := by omega
   go_wp2_with fail
   go_ret2
   exact ⟨.inr ⟨H.out, h10, _, _, rfl, HN1.out⟩, rfl⟩
  ·go_wp2_with fail
   go_ret2
   exact ⟨.inr ⟨H.out, h10, _, _, rfl, HD.out⟩, rfl⟩
 ·have H := Lib.hid h
  rw [show decide (xs.take 10 = hdr10) = false from by simp [h]]
  clear h HP
  go_wp2_with fail
  go_ret2
  exact ⟨.inl ⟨H.out, rfl⟩, rfl⟩

def ZPost (xs : List UInt8) (w : World) (e : Ending) (w' : World) : Prop := match gunzR xs with
 | .bad z => e = .returned (.tuple #[.slice none 0 0, .int .i64 z])
 | .ok out => out.length ≤ 3000 ∧ ∃ v, e = .returned (.tuple #[v, .int .i64 0]) ∧ w'.ownsRow w.heap.size 5 1 v out.length (out.map u8v)
theorem zpost_bad {xs : List UInt8} {w w' : World} {z : Int} (h : gunzR xs = .bad z) : ZPost xs w (.returned (.tuple #[.slice none 0 0, .int .i64 z])) w' := by unfold ZPost; rw [h]
theorem zpost_ok {xs out : List UInt8} {w w' : World} {v : Value} (h : gunzR xs = .ok out) (h3 : out.length ≤ 3000) (ho : w'.ownsRow w.heap.size 5 1 v out.length (out.map u8v)) : ZPost xs w (.returned (.tuple #[v, .int .i64 0])) w' := by unfold ZPost; rw [h]; exact ⟨h3, v, rfl, ho⟩
theorem gunz_long {b : List UInt8} (h : 6000 < b.length) : gunzR b = .bad 2 := by unfold gunzR; rw [if_pos h]
theorem gunz_form {b : List UInt8} (h : ¬ 6000 < b.length) (ht : ¬ (b.take 10 = hdr10)) : gunzR b = .bad 4 := by unfold gunzR; rw [if_neg h, if_pos ht]
theorem gunz_go {b : List UInt8} (h : ¬ 6000 < b.length) (ht : b.take 10 = hdr10) : gunzR b = (unpackR (b.drop 10)).then_ fun x => if b.length - 10 - x.2.1 < 8 then .bad 7
  else if 8 < b.length - 10 - x.2.1 then .bad 4
  else if (b.drop 10).drop x.2.1 = tl x.1 then .ok x.1 else .bad 10 := by
 unfold gunzR; rw [if_neg h, if_neg (fun h => h ht)]
theorem gunz_bad {b : List UInt8} {z : Int} (h : ¬ 6000 < b.length) (ht : b.take 10 = hdr10) (hu : unpackR (b.drop 10) = .bad z) : gunzR b = .bad z := by rw [gunz_go h ht, hu]; rfl
theorem gunz_fin {b out : List UInt8} {used : Nat} {ks : List Nat} (h : ¬ 6000 < b.length) (ht : b.take 10 = hdr10) (hu : unpackR (b.drop 10) = .ok (out, used, ks)) : gunzR b = if b.length - 10 - used < 8 then .bad 7
  else if 8 < b.length - 10 - used then .bad 4
  else if (b.drop 10).drop used = tl out then .ok out else .bad 10 := by rw [gunz_go h ht, hu]; rfl
set_option maxRecDepth 100000 in
set_option maxHeartbeats 1600000 in
theorem gunz_any (A : Option Addr) (n c : Nat) (xs : List UInt8) (w : World) (hn : xs.length = n) (hnc : n ≤ c) (hcm : c ≤ maxLen) (hA : ByAt w A xs) :
  Calls Tryz.prog 10 #[.slice A n c] w fun e w' => ZPost xs w e w' ∧ Below w.heap.size w w' := by
 have Hn := Lib.hid hn
 have HA := Lib.hid hA
 have Hcm := Lib.hid hcm
 unfold maxLen at hcm
 clear hn hA
 go_enter Tryz.func10, Tryz.ntmps10
 by_cases h6 : 6000 < n
 ·have h6' : (6000 : Int) < (n : Int) := by omega
  have Hz := Lib.hid (gunz_long (b := xs) (by rw [Hn.out]; exact h6))
  clear h6
  go_wp2_with fail
  go_ret2
  exact ⟨zpost_bad Hz.out, Below.refl _ _⟩
 ·have h6' : ¬ (6000 : Int) < (n : Int) := by omega
  have H6 : Hid (¬ 6000 < xs.length) := Lib.hid (by rw [Hn.out]; exact h6)
  go_wp2_with fail
  refine (head_any _).mono ?_
  rintro e w1 ⟨⟨v1, rfl, ho1⟩, hb1⟩
  have Hb1 := Lib.hid hb1
  obtain ⟨A1, c1, rfl, _, _, hs1, hz1⟩ := own_slat ho1
  have HC := Lib.hid (cut_any A A1 n c c1 xs w1 Hn.out hnc (by omega) (HA.out.below hb1) hs1)
  clear ho1 hs1 hz1 hb1
  go_wp2_with fail
  refine (HC.out).mono ?_
  rintro e w2 ⟨hp, rfl⟩
  rcases hp with ⟨ht, rfl⟩ | ⟨ht, h10, b, o, rfl, hd⟩
  ·have Hz := Lib.hid (gunz_form H6.out ht)
   clear ht HC
   go_wp2_with fail
   go_ret2
   exact ⟨zpost_bad Hz.out, Hb1.out⟩
  ·have HD := Lib.hid hd
   have Ht := Lib.hid ht
   have hl10 : (xs.drop 10).length = n - 10 := by rw [List.length_drop, Hn.out]
   have HU := Lib.hid (unpack_any (some ⟨b, o, none⟩) (n - 10) (c - 10) (xs.drop 10) w2 hl10 (by unfold maxLen; omega) hd)
   have Hl10 := Lib.hid hl10
   clear hd ht HC hl10
   go_wp2_with fail
   refine (HU.out).mono ?_
   rintro e w3 ⟨hu, hb3⟩
   have Hb3 := Lib.hid (Hb1.out.trans (hb3.mono Hb1.out.size))
   have HD3 := Lib.hid (HD.out.below hb3)
   unfold UPost at hu
   rcases hr : unpackR (xs.drop 10) with z | ⟨out, used, ks⟩
   ·rw [hr] at hu
    obtain rfl := hu
    have Hz := Lib.hid (gunz_bad H6.out Ht.out hr)
    have hzz : (z == 0) = false := by rw [beq_eq_false_iff_ne]; exact nz_unpack _ z hr
    have hzn : (z != 0) = true := by rw [bne, hzz]; rfl
    clear hr hb3 HU
    go_wp2_with fail
    go_ret2
    exact ⟨zpost_bad Hz.out, Hb3.out⟩
   ·rw [hr] at hu
    obtain ⟨hu3, Ao, co, Ak, ck, rfl, hoo, hok⟩ := hu
    dsimp only at hu3 hoo hok ⊢
    have hub : used ≤ (xs.drop 10).length := (unpack_take hr).2.1
    rw [Hl10.out] at hub
    have Hz := Lib.hid (gunz_fin H6.out Ht.out hr)
    rw [Hn.out] at Hz
    have Ho := Lib.hid (own_base hoo Hb1.out.size)
    obtain ⟨_, _, e1, hco, hcox, so, _⟩ := own_slat hoo
    injection e1 with e1 _ e2
    subst e1 e2
    have HO := Lib.hid so
    have Hol : Hid (out.length = out.length) := Lib.hid rfl
    obtain ⟨no, hno⟩ : ∃ no, no = out.length := ⟨_, rfl⟩
    rw [← hno] at hu3 ⊢
    generalize ks.length = nk at *
    have Hno := Lib.hid hno.symm
    clear hr hb3 HU hoo hok so hno hco hcox Hol
    by_cases hr8 : n - 10 - used < 8
    ·have Hz2 : Hid (gunzR xs = .bad 7) := Lib.hid (by rw [Hz.out, if_pos hr8])
     have hr8' : ((n - 10 - used : Nat) : Int) < 8 := by omega
     clear hr8 Hz
     go_wp2_with fail
     all_goals (go_ret2; exact ⟨zpost_bad Hz2.out, Hb3.out⟩)
    ·have hr8' : ¬ ((n - 10 - used : Nat) : Int) < 8 := by omega
     have hcu : ¬ (c - 10 = used) := by omega
     by_cases hr9 : 8 < n - 10 - used
     ·have Hz2 : Hid (gunzR xs = .bad 4) := Lib.hid (by rw [Hz.out, if_neg hr8, if_pos hr9])
      have hr9' : (8 : Int) < ((n - 10 - used : Nat) : Int) := by omega
      clear hr8 hr9 Hz
      go_wp2_with fail
      go_ret2
      exact ⟨zpost_bad Hz2.out, Hb3.out⟩
     ·have hr9' : ¬ (8 : Int) < ((n - 10 - used : Nat) : Int) := by omega
      have Hz2 : Hid (gunzR xs = if (xs.drop 10).drop used = tl out then .ok out else .bad 10) := Lib.hid (by rw [Hz.out, if_neg hr8, if_neg hr9])
      have HR : Hid (ByAt w3 (some ⟨b, o + used, none⟩) ((xs.drop 10).drop used)) := Lib.hid (ByAt.drop HD3.out used)
      have Hrl : Hid (((xs.drop 10).drop used).length = n - 10 - used) := Lib.hid (by rw [List.length_drop, Hl10.out])
      have hq : n - 10 - used = 8 := by omega
      generalize (xs.drop 10).drop used = R at *
      clear hr8 hr9 Hz HD3
      go_wp2_with fail
      refine (tail_any Ao no co out w3 Hno.out (by omega) HO.out).mono ?_
      rintro e w4 ⟨⟨v4, rfl, ho4⟩, hb4⟩
      rw [tl_len] at ho4
      obtain ⟨A4, c4, rfl, _, _, hs4, _⟩ := own_slat ho4
      have HE := Lib.hid (equal_bytes (some ⟨b, o + used, none⟩) A4 8 8 (c - 10 - used) c4 R (tl out) w4 (by rw [Hrl.out]; exact hq) (tl_len out) (HR.out.below hb4) hs4)
      have HO4 := Lib.hid (own_keep Ho.out hb4)
      have Hb4 := Lib.hid (Hb3.out.trans (hb4.mono Hb3.out.size))
      clear ho4 hs4 hb4 HR Hb3 Ho HO
      try rw [hq]
      go_wp2_with fail
      refine (HE.out).mono ?_
      rintro e w5 ⟨rfl, hw5⟩
      have HO5 : Hid (w5.ownsRow w.heap.size 5 1 (.slice Ao no co) no (out.map u8v)) := Lib.hid (by rw [hw5, ← Hno.out]; exact HO4.out)
      have Hb5 : Hid (Below w.heap.size w w5) := Lib.hid (by rw [hw5]; exact Hb4.out)
      clear hw5 HE HO4 Hb4
      by_cases he : R = tl out
      ·have Hz3 : Hid (gunzR xs = .ok out) := Lib.hid (by rw [Hz2.out, if_pos he])
       rw [show decide (R = tl out) = true from by simp [he]]
       clear he
       go_wp2_with fail
       go_ret2
       exact ⟨zpost_ok Hz3.out (by rw [Hno.out]; exact hu3) (by rw [Hno.out]; exact HO5.out), Hb5.out⟩
      ·have Hz3 : Hid (gunzR xs = .bad 10) := Lib.hid (by rw [Hz2.out, if_neg he])
       rw [show decide (R = tl out) = false from by simp [he]]
       clear he
       go_wp2_with fail
       go_ret2
       exact ⟨zpost_bad Hz3.out, Hb5.out⟩
end Go.Proofs.YthpdcnjaodjjmaaGreat.Gz

/- reliquarylaw.zipped: a closed fact. -/
namespace Go.Proofs.YthpdcnjaodjjmaaGreat.Gz
open Go Go.RowKit Go.Proofs.YthpdcnjaodjjmaaGreat Go.Proofs.YthpdcnjaodjjmaaGreat.Bits Go.Proofs.YthpdcnjaodjjmaaGreat.Inf Go.Proofs.YthpdcnjaodjjmaaGreat.Rt Go.Proofs.YthpdcnjaodjjmaaGreat.Blk
set_option linter.unusedVariables false

def hello : List UInt8 := [104, 101, 108, 108, 111, 32, 104, 101, 108, 108, 111, 32, 104, 101, 108, 108, 111]
theorem hello0 : (packB [hello] [0]).length ≤ 100 := by decide +kernel
theorem best_pos (xs : List UInt8) (hx : xs.length ≤ 3000) (h6 : (bestK xs 3).1.length ≤ 6000) : 1 ≤ (bestK xs 3).1.length := by
 obtain ⟨k, hk⟩ := best_back xs [] hx (by rw [List.append_nil]; exact h6)
 exact (unpack_take hk).1
theorem gzB_at0 (xs : List UInt8) : (gzB xs)[0]? = some 31 := by
 unfold gzB hdr10; rfl
set_option maxRecDepth 100000 in
set_option maxHeartbeats 1600000 in
theorem zipped_any (w : World) : Calls Tryz.prog 11 #[] w fun e w' => e = .returned (.bool true) ∧ Below w.heap.size w w' := by
 have hb0 : Below w.heap.size w (w.alloc (.cells #[.int .u8 104, .int .u8 101, .int .u8 108, .int .u8 108, .int .u8 111, .int .u8 32, .int .u8 104, .int .u8 101, .int .u8 108, .int .u8 108, .int .u8 111, .int .u8 32, .int .u8 104, .int .u8 101, .int .u8 108, .int .u8 108, .int .u8 111] 5 (17, 18))) := (Below.refl _ _).alloc (Nat.le_refl _) _
 have HP := gzpack_any (some ⟨w.heap.size, 0, none⟩) 17 17 hello (w.alloc (.cells #[.int .u8 104, .int .u8 101, .int .u8 108, .int .u8 108, .int .u8 111, .int .u8 32, .int .u8 104, .int .u8 101, .int .u8 108, .int .u8 108, .int .u8 111, .int .u8 32, .int .u8 104, .int .u8 101, .int .u8 108, .int .u8 108, .int .u8 111] 5 (17, 18))) rfl (by omega) (by unfold maxLen; omega) (ByAt.of_new _ _ _ (17, 18) rfl)
 have hbl : (bestK hello 3).1.length ≤ 100 := Nat.le_trans (best_first hello) hello0
 have hbp : 1 ≤ (bestK hello 3).1.length := best_pos hello (by decide) (by omega)
 have hl := gzB_len hello
 have Hz := Lib.hid (gunz_back hello (by decide) (by omega))
 have H0 := Lib.hid (gzB_at0 hello)
 have Hb0 := Lib.hid hb0
 have HP := Lib.hid HP
 obtain ⟨N, hN⟩ : ∃ N, N = (gzB hello).length := ⟨_, rfl⟩
 have HN := Lib.hid hN.symm
 have hN1 : 18 < N := by omega
 have hN2 : N ≤ 200 := by omega
 clear hb0 hbl hbp hl hN
 have kk := fun (w : World) (C : Array Value) (n c : Nat) => Lib.run_convert_bytes_const (P := Tryz.prog) w 24 5 C n c Tryz.underlying24 Tryz.underlying5
 go_enter Tryz.func11, Tryz.ntmps11
 go_wp2_with fail
 refine (HP.out).mono ?_
 rintro e w1 ⟨h, hb1⟩
 rcases h with ⟨h, _⟩ | ⟨_, v1, rfl, ho1⟩
 ·omega
 have Hb1 : Hid (Below w.heap.size w w1) := Lib.hid (Hb0.out.trans (hb1.mono (by rw [World.size_alloc]; omega)))
 rw [HN.out] at ho1
 obtain ⟨A1, c1, rfl, hc1, hcm1, hs1, _⟩ := own_slat ho1
 have HS1 : Hid (ByAt w1 A1 (gzB hello)) := Lib.hid hs1
 have HU := Lib.hid (gunz_any A1 N c1 (gzB hello) w1 HN.out hc1 hcm1 hs1)
 clear ho1 hs1 hb1 HP Hb0 kk hcm1
 go_wp2_with fail
 refine (HU.out).mono ?_
 rintro e w2 ⟨hz, hb2⟩
 unfold ZPost at hz
 rw [Hz.out] at hz
 obtain ⟨_, v2, rfl, ho2⟩ := hz
 have Hb2 := Lib.hid (Hb1.out.trans (hb2.mono Hb1.out.size))
 obtain ⟨b, o, rfl, hc0⟩ := (HS1.out.below hb2).get (k := 0) (by rw [HN.out]; omega)
 have h31 : (gzB hello)[0]'(by rw [HN.out]; omega) = 31 := by
  have := H0.out
  rw [List.getElem?_eq_getElem (by rw [HN.out]; omega)] at this
  exact Option.some.inj this
 rw [h31] at hc0
 obtain ⟨A2, c2, rfl, _, _, hs2, _⟩ := own_slat ho2
 have hcv : (convert 24 9 (.slice A2 17 c2)).run Tryz.prog w2 = .ok (.string ⟨#[104, 101, 108, 108, 111, 32, 104, 101, 108, 108, 111, 32, 104, 101, 108, 108, 111]⟩) w2 := conv_bytes A2 17 c2 hello w2 rfl hs2
 have hc0' : w2.cell? ⟨b, o, none⟩ = some (.int .u8 31) := hc0
 have h18 : (18 : Int) < (N : Int) := by omega
 have hN0 : 0 < N := by omega
 rw [show hello.length = 17 from rfl]
 clear ho2 hs2 hb2 Hb1 HS1 HU hc0 h31
 go_wp2_with fail
 go_ret
 exact ⟨rfl, Hb2.out⟩
end Go.Proofs.YthpdcnjaodjjmaaGreat.Gz

/- sums: the walk of the reference's CRCOf. -/
namespace Go.Proofs.YthpdcnjaodjjmaaGreat.Sum
open Go Go.RowKit Go.Proofs.YthpdcnjaodjjmaaGreat

def bitN (x : UInt8) (j : Nat) : Int := ((x.toNat.testBit j).toNat : Int)
theorem u8_and_bit (x : UInt8) (j : Nat) : bits .and .u8 (n8 x / 2 ^ j) 1 = bitN x j := by
 have hx := x.toNat_lt
 have hlt : x.toNat / 2 ^ j < 256 := Nat.lt_of_le_of_lt (Nat.div_le_self _ _) hx
 have h2 : n8 x / 2 ^ j = ((x.toNat / 2 ^ j : Nat) : Int) := by unfold n8; simp
 rw [h2, show (1 : Int) = ((1 : Nat) : Int) from rfl, u8_and_nat _ _ hlt (by omega), nat_mask1]
 unfold bitN; rw [Nat.toNat_testBit]
theorem u32_bit (x : UInt8) (j : Nat) : IntKind.u32.wrap (bitN x j) = n32 (b32 (x.toNat.testBit j)) := by
 unfold bitN; cases x.toNat.testBit j <;> rfl
theorem u32_bit' (x : UInt8) (j : Nat) : bitN x j % 4294967296 = n32 (b32 (x.toNat.testBit j)) := by
 unfold bitN; cases x.toNat.testBit j <;> rfl
attribute [local go_sem] u8_and_bit u32_bit u32_bit'

theorem beq_one (c : W32) : (n32 c == 1) = decide (c = 1#32) := n32_beq c 1#32
theorem bits_take (x : UInt8) (j : Nat) (h : j < 8) : (bitsOf x).take (j + 1) = (bitsOf x).take j ++ [x.toNat.testBit j] := by
 rw [take_snoc _ _ (by simp [bitsOf_length]; exact h)]
 simp [bitsOf]
theorem refStep_yes (d : W32) (b : Bool) (h : (d &&& 1#32) ^^^ b32 b = 1#32) : (d >>> 1) ^^^ 3988292384#32 = crcBit d b := by
 rw [← refBit_eq]; unfold refBit; rw [if_pos h]; rfl
theorem refStep_no (d : W32) (b : Bool) (h : ¬ (d &&& 1#32) ^^^ b32 b = 1#32) : (d >>> 1) = crcBit d b := by
 rw [← refBit_eq]; unfold refBit; rw [if_neg h]; simp
theorem crcBits_snoc (c : W32) (l : List Bool) (b : Bool) : crcBits c (l ++ [b]) = crcBit (crcBits c l) b := by simp [crcBits]

set_option maxRecDepth 100000 in
set_option maxHeartbeats 400000 in
theorem crcof_any (c : W32) (A : Option Addr) (n cap : Nat) (xs : List UInt8) (w : World) (hn : xs.length = n) (hm : n ≤ maxLen) (hc : ByAt w A xs) :
  Calls Tryz.prog 13 #[.int .u32 (n32 c), .slice A n cap] w fun e w' => e = .returned (.int .u32 (n32 (crc c xs))) ∧ w = w' := by
 unfold maxLen at hm
 have Hn := Lib.hid hn
 have Hc := Lib.hid hc
 clear hn hc
 go_enter Tryz.func13, Tryz.ntmps13
 go_wp2
 go_loop [5, 14] (fun cc i => ∃ k : Nat, k ≤ n ∧ i = .int .i64 k ∧ cc = .int .u32 (n32 (crcL (~~~c) (xs.take k)))) (fun _ i => n - (intOf i).toNat)
 case atStart => exact ⟨0, Nat.zero_le _, rfl, rfl⟩
 case round =>
  obtain ⟨k, hk, rfl, rfl⟩ := hrel
  by_cases hlt : k < n
  ·have hkx : k < xs.length := by rw [Hn.out]; exact hlt
   obtain ⟨b, o, rfl, hcell⟩ := Hc.out.get hkx
   have Hs : Hid (crcL (~~~c) (xs.take (k + 1)) = crcBits (crcL (~~~c) (xs.take k)) (bitsOf xs[k])) := Lib.hid (by rw [take_snoc _ _ hkx, crcL_snoc, crcB_bits])
   clear Hc
   generalize hd0 : crcL (~~~c) (xs.take k) = d0 at *
   have Hd0 := Lib.hid hd0
   clear hd0
   generalize hx0 : xs[k] = x at *
   clear hx0
   go_wp2
   go_loop [5, 18] (fun cc i => ∃ j : Nat, j ≤ 8 ∧ i = .int .i64 j ∧ cc = .int .u32 (n32 (crcBits d0 ((bitsOf x).take j)))) (fun _ i => 8 - (intOf i).toNat)
   case atStart => exact ⟨0, Nat.zero_le _, rfl, rfl⟩
   case round =>
    obtain ⟨j, hj, rfl, rfl⟩ := hrel
    by_cases hj8 : j < 8
    ·have Hb : Hid (crcBits d0 ((bitsOf x).take (j + 1)) = crcBit (crcBits d0 ((bitsOf x).take j)) (x.toNat.testBit j)) := Lib.hid (by rw [bits_take _ _ hj8, crcBits_snoc])
     generalize crcBits d0 ((bitsOf x).take j) = d at *
     by_cases hlow : (d &&& 1#32) ^^^ b32 (x.toNat.testBit j) = 1#32
     ·have hq : ((n32 ((d &&& 1#32) ^^^ b32 (x.toNat.testBit j))) == 1) = true := by rw [beq_one]; simpa using hlow
      have Hy := Lib.hid (refStep_yes d _ hlow)
      clear hlow
      go_wp2
      go_round
      case rel => exact ⟨j + 1, by omega, by go_num, by rw [Hb.out, ← Hy.out]⟩
      case measure => simp [intOf]; omega
     ·have hq : ((n32 ((d &&& 1#32) ^^^ b32 (x.toNat.testBit j))) == 1) = false := by rw [beq_one]; simpa using hlow
      have Hy := Lib.hid (refStep_no d _ hlow)
      clear hlow
      go_wp2
      go_round
      case rel => exact ⟨j + 1, by omega, by go_num, by rw [Hb.out, ← Hy.out]⟩
      case measure => simp [intOf]; omega
    ·obtain rfl : j = 8 := by omega
     have Hb : Hid ((bitsOf x).take 8 = bitsOf x) := Lib.hid (List.take_of_length_le (by simp [bitsOf_length]))
     go_wp2
     go_round
     case rel => exact ⟨k + 1, by omega, by go_num, by rw [Hs.out, Hb.out]⟩
     case measure => simp [intOf]; omega
  ·have Hk : Hid (xs.take k = xs) := Lib.hid (List.take_of_length_le (by rw [Hn.out]; omega))
   go_wp2
   go_ret
   exact ⟨by rw [Hk.out]; rfl, rfl⟩

end Go.Proofs.YthpdcnjaodjjmaaGreat.Sum

/- reliquaryref.Unpacked: what the unpacker of a row does, and that it is what blocks of bits say; the plain law. No program in sight. -/
namespace Go.Proofs.YthpdcnjaodjjmaaGreat.Unp
open Go.Proofs.YthpdcnjaodjjmaaGreat.Bits Go.Proofs.YthpdcnjaodjjmaaGreat.Code
open Go.Proofs.YthpdcnjaodjjmaaGreat.Inf hiding then_ok
set_option linter.unusedVariables false

structure St where
 pos : Nat
 out : List UInt8
 ks : List Nat
 e : Int
def uget (row : List Bool) (s : St) (n : Nat) : Nat × St := if s.e = 0 then (match getR row s.pos n with | .ok a => (a.1, ⟨a.2, s.out, s.ks, 0⟩) | .bad z => (0, ⟨s.pos, s.out, s.ks, z⟩)) else (0, s)
def uplace (row : List Bool) (ls : List Nat) (s : St) : Nat × St := if s.e = 0 then (match symR row ls s.pos with | .ok a => (a.1, ⟨a.2, s.out, s.ks, 0⟩) | .bad z => (0, ⟨s.pos, s.out, s.ks, z⟩)) else (0, s)
def usay (s : St) (b : UInt8) : St := if s.e = 0 then (match pushR s.out b with | .ok o => ⟨s.pos, o, s.ks, 0⟩ | .bad z => ⟨s.pos, s.out, s.ks, z⟩) else s
def uwrong (s : St) (z : Int) : St := if s.e = 0 then ⟨s.pos, s.out, s.ks, z⟩ else s
def ukind (s : St) (k : Nat) : St := ⟨s.pos, s.out, s.ks ++ [k], s.e⟩
def ufill (s : St) : St := ⟨fillP s.pos, s.out, s.ks, s.e⟩
def uraw (row : List Bool) : Nat → St → St
 | 0, s => s
 | n + 1, s => if s.e = 0 then uraw row n (usay (uget row s 8).2 (UInt8.ofNat (uget row s 8).1)) else s
def uif (c : Prop) [Decidable c] (s : St) (z : Int) : St := if s.e = 0 ∧ c then uwrong s z else s
def ustored (row : List Bool) (s : St) : St :=
 uraw row (uget row (ufill s) 16).1 (uif ((uget row (ufill s) 16).1 + (uget row (uget row (ufill s) 16).2 16).1 ≠ 65535) (uget row (uget row (ufill s) 16).2 16).2 4)
def ucopy (d : Nat) : Nat → St → St
 | 0, s => s
 | n + 1, s => if s.e = 0 then ucopy d n (usay s (s.out.getD (s.out.length - d) 0)) else s
def ubody (row : List Bool) (lit far : List Nat) : Nat → St → St
 | 0, s => uwrong s 7
 | f + 1, s => if s.e = 0 then
   if (uplace row lit s).2.e ≠ 0 ∨ (uplace row lit s).1 = 256 then (uplace row lit s).2
   else if (uplace row lit s).1 < 256 then ubody row lit far f (usay (uplace row lit s).2 (UInt8.ofNat (uplace row lit s).1))
   else if 285 < (uplace row lit s).1 then uwrong (uplace row lit s).2 8
   else
    let q := uget row (uplace row lit s).2 (sameL.getD ((uplace row lit s).1 - 257) (0, 0)).2
    let g := uplace row far q.2
    let s4 := uif (29 < g.1) g.2 8
    if s4.e ≠ 0 then s4
    else
     let y := uget row s4 (farL.getD g.1 (0, 0)).2
     ubody row lit far f (ucopy ((farL.getD g.1 (0, 0)).1 + y.1) ((sameL.getD ((uplace row lit s).1 - 257) (0, 0)).1 + q.1) (uif (y.2.out.length < (farL.getD g.1 (0, 0)).1 + y.1) y.2 9))
  else s
def usizes (row : List Bool) : List Nat → List Nat → St → List Nat × St
 | [], sm, s => (sm, s)
 | k :: ks, sm, s => usizes row ks (sm.set k (uget row s 3).1) (uget row s 3).2
def utimes (row : List Bool) (l : List Nat) (k : Nat) (s : St) : Nat × Nat × St :=
 if k = 16 ∧ l = [] then (k, 1, uwrong s 8)
 else if k = 16 then (l.getLastD 0, 3 + (uget row s 2).1, (uget row s 2).2)
 else if k = 17 then (0, 3 + (uget row s 3).1, (uget row s 3).2)
 else if k = 18 then (0, 11 + (uget row s 7).1, (uget row s 7).2)
 else (k, 1, s)
def ulens (row : List Bool) (ls : List Nat) (n : Nat) : Nat → List Nat → St → List Nat × St
 | 0, l, s => (l, s)
 | f + 1, l, s => if l.length < n ∧ s.e = 0 then
   let r := utimes row l (uplace row ls s).1 (uplace row ls s).2
   ulens row ls n f (l ++ List.replicate r.2.1 r.1) (uif (n < l.length + r.2.1) r.2.2 8)
  else (l, s)
def utold (row : List Bool) (s : St) : (List Nat × List Nat) × St :=
 let a := uget row s 5
 let b := uget row a.2 5
 let c := uget row b.2 4
 let s4 := if 286 < a.1 + 257 ∨ 30 < b.1 + 1 then uwrong c.2 8 else c.2
 let z := usizes row (orderL.take (c.1 + 4)) (List.replicate 19 0) s4
 let s6 := uif (chkL (zsOf z.1) ≠ 0) z.2 8
 if s6.e ≠ 0 then (([], []), s6)
 else
  let l := ulens row z.1 (a.1 + 257 + (b.1 + 1)) (a.1 + 257 + (b.1 + 1)) [] s6
  if l.2.e ≠ 0 then (([], []), l.2)
  else if l.1.getD 256 0 = 0 ∨ chkL (zsOf (l.1.take (a.1 + 257))) ≠ 0 ∨ chkL (zsOf (l.1.drop (a.1 + 257))) ≠ 0 then (([], []), uwrong l.2 8)
  else ((l.1.take (a.1 + 257), l.1.drop (a.1 + 257)), l.2)
def ublock (row : List Bool) (s : St) : Bool × St :=
 let l := uget row s 1
 let k := uget row l.2 2
 if k.2.e ≠ 0 then (true, k.2)
 else if k.1 = 0 then (l.1 == 1, ukind (ustored row k.2) k.1)
 else
  let t := if k.1 = 1 then ((fixedA, fixedB), k.2) else if k.1 = 2 then utold row k.2 else (([], []), uwrong k.2 4)
  if t.2.e ≠ 0 then (true, t.2)
  else (l.1 == 1, ukind (ubody row t.1.1 t.1.2 (row.length + 1) t.2) k.1)
def ublocks (row : List Bool) : Nat → St → St
 | 0, s => uwrong s 7
 | f + 1, s => if (ublock row s).1 = false ∧ (ublock row s).2.e = 0 then ublocks row f (ublock row s).2 else (ublock row s).2

section
variable {row : List Bool} {s : St}
theorem get_stuck {n : Nat} (h : s.e ≠ 0) : uget row s n = (0, s) := by unfold uget; rw [if_neg h]
theorem place_stuck {ls : List Nat} (h : s.e ≠ 0) : uplace row ls s = (0, s) := by unfold uplace; rw [if_neg h]
theorem say_stuck {b : UInt8} (h : s.e ≠ 0) : usay s b = s := by unfold usay; rw [if_neg h]
theorem wrong_stuck {z : Int} (h : s.e ≠ 0) : uwrong s z = s := by unfold uwrong; rw [if_neg h]
theorem if_stuck {c : Prop} [Decidable c] {z : Int} (h : s.e ≠ 0) : uif c s z = s := by unfold uif; rw [if_neg (fun hh => h hh.1)]
theorem raw_stuck {n : Nat} (h : s.e ≠ 0) : uraw row n s = s := by
 cases n with
 | zero => rfl
 | succ n => unfold uraw; rw [if_neg h]
theorem copy_stuck {d n : Nat} (h : s.e ≠ 0) : ucopy d n s = s := by
 cases n with
 | zero => rfl
 | succ n => unfold ucopy; rw [if_neg h]
theorem body_stuck {lit far : List Nat} {f : Nat} (h : s.e ≠ 0) : ubody row lit far f s = s := by
 cases f with
 | zero => exact wrong_stuck h
 | succ n => unfold ubody; rw [if_neg h]
theorem get_ok {n : Nat} {a : Nat × Nat} (h : s.e = 0) (hg : getR row s.pos n = .ok a) : uget row s n = (a.1, ⟨a.2, s.out, s.ks, 0⟩) := by unfold uget; rw [if_pos h, hg]
theorem get_bad {n : Nat} {z : Int} (h : s.e = 0) (hg : getR row s.pos n = .bad z) : uget row s n = (0, ⟨s.pos, s.out, s.ks, z⟩) := by unfold uget; rw [if_pos h, hg]
theorem place_ok {ls : List Nat} {a : Nat × Nat} (h : s.e = 0) (hg : symR row ls s.pos = .ok a) : uplace row ls s = (a.1, ⟨a.2, s.out, s.ks, 0⟩) := by unfold uplace; rw [if_pos h, hg]
theorem place_bad {ls : List Nat} {z : Int} (h : s.e = 0) (hg : symR row ls s.pos = .bad z) : uplace row ls s = (0, ⟨s.pos, s.out, s.ks, z⟩) := by unfold uplace; rw [if_pos h, hg]
theorem say_ok {b : UInt8} {o : List UInt8} (h : s.e = 0) (hg : pushR s.out b = .ok o) : usay s b = ⟨s.pos, o, s.ks, 0⟩ := by unfold usay; rw [if_pos h, hg]
theorem say_bad {b : UInt8} {z : Int} (h : s.e = 0) (hg : pushR s.out b = .bad z) : usay s b = ⟨s.pos, s.out, s.ks, z⟩ := by unfold usay; rw [if_pos h, hg]
theorem if_yes {c : Prop} [Decidable c] {z : Int} (h : s.e = 0) (hc : c) : uif c s z = ⟨s.pos, s.out, s.ks, z⟩ := by unfold uif uwrong; rw [if_pos ⟨h, hc⟩, if_pos h]
theorem if_no {c : Prop} [Decidable c] {z : Int} (hc : ¬ c) : uif c s z = s := by unfold uif; rw [if_neg (fun hh => hc hh.2)]
end
theorem wrong_yes {s : St} {z : Int} (h : s.e = 0) : uwrong s z = ⟨s.pos, s.out, s.ks, z⟩ := by unfold uwrong; rw [if_pos h]
theorem thn {α β : Type} (a : α) (f : α → Inf.Rd β) : (Inf.Rd.ok a).then_ f = f a := rfl
theorem thb {α β : Type} (z : Int) (f : α → Inf.Rd β) : (Inf.Rd.bad z : Inf.Rd α).then_ f = .bad z := rfl
def Sim {α : Type} (r : Inf.Rd α) (t : St) (f : α → St) : Prop := match r with
 | .ok a => t = f a
 | .bad z => t.e = z
theorem sim_raw (row : List Bool) : ∀ (n : Nat) (s : St), s.e = 0 → Sim (rawR row n s.pos s.out) (uraw row n s) (fun a => ⟨a.1, a.2, s.ks, 0⟩)
 | 0, s, h => by obtain ⟨p, o, k, e⟩ := s; dsimp only at h; subst h; rfl
 | n + 1, s, h => by
  unfold uraw rawR
  rw [if_pos h]
  cases hg : getR row s.pos 8 with
  | bad z =>
   have hz := nz_get row s.pos 8 z hg
   rw [get_bad h hg, thb]
   dsimp only
   rw [say_stuck (s := ⟨s.pos, s.out, s.ks, z⟩) hz, raw_stuck (s := ⟨s.pos, s.out, s.ks, z⟩) hz]
   exact rfl
  | ok a =>
   rw [get_ok h hg, thn]
   dsimp only
   cases hp : pushR s.out (UInt8.ofNat a.1) with
   | bad z =>
    have hz := nz_push _ _ z hp
    rw [say_bad (s := ⟨a.2, s.out, s.ks, 0⟩) rfl hp, thb, raw_stuck (s := ⟨a.2, s.out, s.ks, z⟩) hz]
    exact rfl
   | ok o =>
    rw [say_ok (s := ⟨a.2, s.out, s.ks, 0⟩) rfl hp, thn]
    exact sim_raw row n ⟨a.2, o, s.ks, 0⟩ rfl
theorem sim_stored (row : List Bool) (s : St) (h : s.e = 0) : Sim (storedR row s.pos s.out) (ustored row s) (fun a => ⟨a.1, a.2, s.ks, 0⟩) := by
 have hf : (ufill s).e = 0 := h
 unfold storedR ustored
 cases hg : getR row (fillP s.pos) 16 with
 | bad z =>
  have hz := nz_get _ _ _ z hg
  rw [get_bad (s := ufill s) hf hg, thb]
  dsimp only
  rw [get_stuck (s := ⟨(ufill s).pos, (ufill s).out, (ufill s).ks, z⟩) hz]
  dsimp only
  rw [if_stuck (s := ⟨(ufill s).pos, (ufill s).out, (ufill s).ks, z⟩) hz, raw_stuck (s := ⟨(ufill s).pos, (ufill s).out, (ufill s).ks, z⟩) hz]
  exact rfl
 | ok a =>
  rw [get_ok (s := ufill s) hf hg, thn]
  dsimp only
  cases hg2 : getR row a.2 16 with
  | bad z =>
   have hz := nz_get _ _ _ z hg2
   rw [get_bad (s := ⟨a.2, (ufill s).out, (ufill s).ks, 0⟩) rfl hg2, thb]
   dsimp only
   rw [if_stuck (s := ⟨a.2, (ufill s).out, (ufill s).ks, z⟩) hz, raw_stuck (s := ⟨a.2, (ufill s).out, (ufill s).ks, z⟩) hz]
   exact rfl
  | ok b =>
   rw [get_ok (s := ⟨a.2, (ufill s).out, (ufill s).ks, 0⟩) rfl hg2, thn]
   dsimp only
   by_cases hc : a.1 + b.1 ≠ 65535
   ·rw [if_pos hc, if_yes (s := ⟨b.2, (ufill s).out, (ufill s).ks, 0⟩) rfl hc, raw_stuck (s := ⟨b.2, (ufill s).out, (ufill s).ks, 4⟩) (by dsimp only; decide)]
    exact rfl
   ·rw [if_neg hc, if_no hc]
    exact sim_raw row a.1 ⟨b.2, s.out, s.ks, 0⟩ rfl
theorem sim_copy (d : Nat) : ∀ (n : Nat) (s : St), s.e = 0 → Sim (copyR d n s.out) (ucopy d n s) (fun o => ⟨s.pos, o, s.ks, 0⟩)
 | 0, s, h => by obtain ⟨p, o, k, e⟩ := s; dsimp only at h; subst h; rfl
 | n + 1, s, h => by
  unfold ucopy copyR
  rw [if_pos h]
  cases hp : pushR s.out (s.out.getD (s.out.length - d) 0) with
  | bad z =>
   have hz := nz_push _ _ z hp
   rw [say_bad h hp, thb, copy_stuck (s := ⟨s.pos, s.out, s.ks, z⟩) hz]
   exact rfl
  | ok o =>
   rw [say_ok h hp, thn]
   exact sim_copy d n ⟨s.pos, o, s.ks, 0⟩ rfl
set_option maxRecDepth 100000 in
theorem sim_body (row : List Bool) (lit far : List Nat) : ∀ (f : Nat) (s : St), s.e = 0 → Sim (bodyR row lit far f s.pos s.out) (ubody row lit far f s) (fun a => ⟨a.1, a.2, s.ks, 0⟩)
 | 0, s, h => by unfold ubody uwrong; rw [if_pos h]; exact rfl
 | f + 1, s, h => by
  unfold ubody bodyR bodyStep
  rw [if_pos h]
  cases hg : symR row lit s.pos with
  | bad z =>
   have hz := nz_sym _ _ _ z hg
   rw [place_bad h hg, thb, thb]
   dsimp only
   rw [if_pos (.inl hz)]
   exact rfl
  | ok a =>
   rw [place_ok h hg, thn]
   dsimp only
   by_cases h256 : a.1 = 256
   ·rw [if_neg (show ¬ a.1 < 256 by omega), if_pos h256, thn, if_pos (show (true, a.2, s.out).1 = true from rfl), if_pos (show ((0 : Int) ≠ 0 ∨ a.1 = 256) from .inr h256)]
    exact rfl
   ·rw [if_neg (show ¬ ((0 : Int) ≠ 0 ∨ a.1 = 256) by simp [h256])]
    by_cases hlt : a.1 < 256
    ·rw [if_pos hlt, if_pos hlt]
     cases hp : pushR s.out (UInt8.ofNat a.1) with
     | bad z =>
      have hz := nz_push _ _ z hp
      rw [say_bad (s := ⟨a.2, s.out, s.ks, 0⟩) rfl hp, thb, thb, body_stuck (s := ⟨a.2, s.out, s.ks, z⟩) hz]
      exact rfl
     | ok o =>
      rw [say_ok (s := ⟨a.2, s.out, s.ks, 0⟩) rfl hp, thn, thn, if_neg (by simp)]
      exact sim_body row lit far f ⟨a.2, o, s.ks, 0⟩ rfl
    ·rw [if_neg hlt, if_neg hlt, if_neg h256]
     by_cases h285 : 285 < a.1
     ·rw [if_pos h285, if_pos (show 29 ≤ a.1 - 257 by omega), thb, wrong_yes (s := ⟨a.2, s.out, s.ks, 0⟩) rfl]
      exact rfl
     ·rw [if_neg h285, if_neg (show ¬ 29 ≤ a.1 - 257 by omega)]
      cases hx : getR row a.2 (sameL.getD (a.1 - 257) (0, 0)).2 with
      | bad z =>
       have hz := nz_get _ _ _ z hx
       rw [get_bad (s := ⟨a.2, s.out, s.ks, 0⟩) rfl hx, thb, thb]
       dsimp only
       rw [place_stuck (s := ⟨a.2, s.out, s.ks, z⟩) hz]
       dsimp only
       rw [if_stuck (s := ⟨a.2, s.out, s.ks, z⟩) hz, if_pos hz]
       exact rfl
      | ok x =>
       rw [get_ok (s := ⟨a.2, s.out, s.ks, 0⟩) rfl hx, thn]
       dsimp only
       cases hq : symR row far x.2 with
       | bad z =>
        have hz := nz_sym _ _ _ z hq
        rw [place_bad (s := ⟨x.2, s.out, s.ks, 0⟩) rfl hq, thb, thb]
        dsimp only
        rw [if_stuck (s := ⟨x.2, s.out, s.ks, z⟩) hz, if_pos hz]
        exact rfl
       | ok g =>
        rw [place_ok (s := ⟨x.2, s.out, s.ks, 0⟩) rfl hq, thn]
        dsimp only
        by_cases h29 : 29 < g.1
        ·rw [if_yes (s := ⟨g.2, s.out, s.ks, 0⟩) rfl h29, if_pos (show (8 : Int) ≠ 0 by decide), if_pos (show 30 ≤ g.1 by omega), thb]
         exact rfl
        ·rw [if_no h29, if_neg (show ¬ ((0 : Int) ≠ 0) by simp), if_neg (show ¬ 30 ≤ g.1 by omega)]
         cases hy : getR row g.2 (farL.getD g.1 (0, 0)).2 with
         | bad z =>
          have hz := nz_get _ _ _ z hy
          rw [get_bad (s := ⟨g.2, s.out, s.ks, 0⟩) rfl hy, thb, thb]
          dsimp only
          rw [if_stuck (s := ⟨g.2, s.out, s.ks, z⟩) hz, copy_stuck (s := ⟨g.2, s.out, s.ks, z⟩) hz, body_stuck (s := ⟨g.2, s.out, s.ks, z⟩) hz]
          exact rfl
         | ok y =>
          rw [get_ok (s := ⟨g.2, s.out, s.ks, 0⟩) rfl hy, thn]
          dsimp only
          by_cases hd : s.out.length < (farL.getD g.1 (0, 0)).1 + y.1
          ·rw [if_yes (s := ⟨y.2, s.out, s.ks, 0⟩) rfl hd, if_pos hd, thb, copy_stuck (s := ⟨y.2, s.out, s.ks, 9⟩) (by dsimp only; decide), body_stuck (s := ⟨y.2, s.out, s.ks, 9⟩) (by dsimp only; decide)]
           exact rfl
          ·rw [if_no hd, if_neg hd]
           have hcp := sim_copy ((farL.getD g.1 (0, 0)).1 + y.1) ((sameL.getD (a.1 - 257) (0, 0)).1 + x.1) ⟨y.2, s.out, s.ks, 0⟩ rfl
           dsimp only at hcp
           cases hc : copyR ((farL.getD g.1 (0, 0)).1 + y.1) ((sameL.getD (a.1 - 257) (0, 0)).1 + x.1) s.out with
           | bad z =>
            have hz := nz_copy _ _ _ z hc
            rw [hc] at hcp
            have hcp : (ucopy _ _ _).e = z := hcp
            rw [thb, thb, body_stuck (by rw [hcp]; exact hz)]
            exact hcp
           | ok o =>
            rw [hc] at hcp
            have hcp : ucopy _ _ _ = _ := hcp
            rw [thn, thn, if_neg (by simp), hcp]
            exact sim_body row lit far f ⟨y.2, o, s.ks, 0⟩ rfl
theorem sizes_stuck (row : List Bool) : ∀ (ks sm : List Nat) (s : St), s.e ≠ 0 → (usizes row ks sm s).2 = s
 | [], sm, s, h => rfl
 | k :: ks, sm, s, h => by unfold usizes; rw [get_stuck h]; exact sizes_stuck row ks _ s h
theorem sim_sizes (row : List Bool) : ∀ (ks sm : List Nat) (s : St), s.e = 0 → match sizesR row ks s.pos sm with
  | .ok a => usizes row ks sm s = (a.2, ⟨a.1, s.out, s.ks, 0⟩)
  | .bad z => (usizes row ks sm s).2.e = z
 | [], sm, s, h => by obtain ⟨p, o, k, e⟩ := s; dsimp only at h; subst h; rfl
 | k :: ks, sm, s, h => by
  unfold usizes sizesR
  cases hg : getR row s.pos 3 with
  | bad z =>
   have hz := nz_get _ _ _ z hg
   rw [get_bad h hg, thb]
   dsimp only
   rw [sizes_stuck row ks _ ⟨s.pos, s.out, s.ks, z⟩ hz]
  | ok a =>
   rw [get_ok h hg, thn]
   exact sim_sizes row ks (sm.set k a.1) ⟨a.2, s.out, s.ks, 0⟩ rfl
theorem lens_stuck {row : List Bool} {ls l : List Nat} {n f : Nat} {s : St} (h : s.e ≠ 0) : ulens row ls n f l s = (l, s) := by
 cases f with
 | zero => rfl
 | succ f => unfold ulens; rw [if_neg (fun hh => h hh.2)]
theorem wrong_yes' {s : St} {z : Int} (h : s.e = 0) : (uwrong s z).e = z := by rw [wrong_yes h]
theorem lens_get {row : List Bool} {ls l : List Nat} {n f v add bt p : Nat} {s : St} (ih : ∀ (l : List Nat) (s : St), s.e = 0 → match lenR row ls n f s.pos l with
  | .ok a => ulens row ls n f l s = (a.2, ⟨a.1, s.out, s.ks, 0⟩)
  | .bad z => (ulens row ls n f l s).2.e = z) (o : List UInt8) (kk : List Nat) :
  match ((getR row p bt).then_ fun x => (againR n l v (add + x.1)).then_ fun m => Inf.Rd.ok (x.2, m)).then_ fun x => lenR row ls n f x.1 x.2 with
  | .ok a => ulens row ls n f (l ++ List.replicate (add + (uget row ⟨p, o, kk, 0⟩ bt).1) v) (uif (n < l.length + (add + (uget row ⟨p, o, kk, 0⟩ bt).1)) (uget row ⟨p, o, kk, 0⟩ bt).2 8) = (a.2, ⟨a.1, o, kk, 0⟩)
  | .bad z => (ulens row ls n f (l ++ List.replicate (add + (uget row ⟨p, o, kk, 0⟩ bt).1) v) (uif (n < l.length + (add + (uget row ⟨p, o, kk, 0⟩ bt).1)) (uget row ⟨p, o, kk, 0⟩ bt).2 8)).2.e = z := by
 cases hg : getR row p bt with
 | bad z =>
  have hz := nz_get _ _ _ z hg
  rw [get_bad (s := ⟨p, o, kk, 0⟩) rfl hg, thb, thb]
  dsimp only
  rw [if_stuck (s := ⟨p, o, kk, z⟩) hz, lens_stuck (s := ⟨p, o, kk, z⟩) hz]
 | ok a =>
  rw [get_ok (s := ⟨p, o, kk, 0⟩) rfl hg, thn]
  dsimp only
  unfold againR
  by_cases hn : n < l.length + (add + a.1)
  ·rw [if_pos hn, if_yes (s := ⟨a.2, o, kk, 0⟩) rfl hn, thb, thb, lens_stuck (s := ⟨a.2, o, kk, 8⟩) (show (8 : Int) ≠ 0 by decide)]
  ·rw [if_neg hn, if_no hn, thn, thn]
   exact ih _ ⟨a.2, o, kk, 0⟩ rfl
theorem sim_lens (row : List Bool) (ls : List Nat) (n : Nat) : ∀ (f : Nat) (l : List Nat) (s : St), s.e = 0 → match lenR row ls n f s.pos l with
  | .ok a => ulens row ls n f l s = (a.2, ⟨a.1, s.out, s.ks, 0⟩)
  | .bad z => (ulens row ls n f l s).2.e = z
 | 0, l, s, h => by obtain ⟨p, o, k, e⟩ := s; dsimp only at h; subst h; rfl
 | f + 1, l, s, h => by
  have ih := sim_lens row ls n f
  unfold ulens lenR
  by_cases hn : n ≤ l.length
  ·rw [if_pos hn, if_neg (fun hh => by omega)]
   obtain ⟨p, o, k, e⟩ := s; dsimp only at h; subst h; rfl
  ·rw [if_neg hn, if_pos ⟨by omega, h⟩]
   unfold lenStep
   cases hg : symR row ls s.pos with
   | bad z =>
    have hz := nz_sym _ _ _ z hg
    rw [place_bad h hg, thb, thb]
    dsimp only
    have hu : utimes row l 0 ⟨s.pos, s.out, s.ks, z⟩ = (0, 1, ⟨s.pos, s.out, s.ks, z⟩) := by
     unfold utimes
     rw [if_neg (fun hh => absurd hh.1 (by decide)), if_neg (by decide), if_neg (by decide), if_neg (by decide)]
    rw [hu]
    dsimp only
    rw [if_stuck (s := ⟨s.pos, s.out, s.ks, z⟩) hz, lens_stuck (s := ⟨s.pos, s.out, s.ks, z⟩) hz]
   | ok a =>
    rw [place_ok h hg, thn]
    dsimp only
    by_cases h16 : a.1 = 16
    ·by_cases hl : l = []
     ·have hu : utimes row l a.1 ⟨a.2, s.out, s.ks, 0⟩ = (a.1, 1, ⟨a.2, s.out, s.ks, 8⟩) := by
       unfold utimes; rw [if_pos ⟨h16, hl⟩]; rfl
      rw [if_pos h16, if_pos hl, hu, thb]
      dsimp only
      rw [if_stuck (s := ⟨a.2, s.out, s.ks, 8⟩) (show (8 : Int) ≠ 0 by decide), lens_stuck (s := ⟨a.2, s.out, s.ks, 8⟩) (show (8 : Int) ≠ 0 by decide)]
     ·have hu : utimes row l a.1 ⟨a.2, s.out, s.ks, 0⟩ = (l.getLastD 0, 3 + (uget row ⟨a.2, s.out, s.ks, 0⟩ 2).1, (uget row ⟨a.2, s.out, s.ks, 0⟩ 2).2) := by
       unfold utimes; rw [if_neg (fun hh => hl hh.2), if_pos h16]
      rw [if_pos h16, if_neg hl, hu]
      exact lens_get (s := s) ih s.out s.ks
    ·by_cases h17 : a.1 = 17
     ·have hu : utimes row l a.1 ⟨a.2, s.out, s.ks, 0⟩ = (0, 3 + (uget row ⟨a.2, s.out, s.ks, 0⟩ 3).1, (uget row ⟨a.2, s.out, s.ks, 0⟩ 3).2) := by
       unfold utimes; rw [if_neg (fun hh => h16 hh.1), if_neg h16, if_pos h17]
      rw [if_neg h16, if_pos h17, hu]
      exact lens_get (s := s) ih s.out s.ks
     ·by_cases h18 : a.1 = 18
      ·have hu : utimes row l a.1 ⟨a.2, s.out, s.ks, 0⟩ = (0, 11 + (uget row ⟨a.2, s.out, s.ks, 0⟩ 7).1, (uget row ⟨a.2, s.out, s.ks, 0⟩ 7).2) := by
        unfold utimes; rw [if_neg (fun hh => h16 hh.1), if_neg h16, if_neg h17, if_pos h18]
       rw [if_neg h16, if_neg h17, if_pos h18, hu]
       exact lens_get (s := s) ih s.out s.ks
      ·have hu : utimes row l a.1 ⟨a.2, s.out, s.ks, 0⟩ = (a.1, 1, ⟨a.2, s.out, s.ks, 0⟩) := by
        unfold utimes; rw [if_neg (fun hh => h16 hh.1), if_neg h16, if_neg h17, if_neg h18]
       rw [if_neg h16, if_neg h17, if_neg h18, hu]
       dsimp only
       unfold againR
       by_cases hn2 : n < l.length + 1
       ·rw [if_pos hn2, if_yes (s := ⟨a.2, s.out, s.ks, 0⟩) rfl hn2, thb, thb, lens_stuck (s := ⟨a.2, s.out, s.ks, 8⟩) (show (8 : Int) ≠ 0 by decide)]
       ·rw [if_neg hn2, if_no hn2, thn, thn]
        exact ih _ ⟨a.2, s.out, s.ks, 0⟩ rfl
theorem table_cases (zs : List Int) : (chkL zs = 0 ∧ tableR zs = .ok (lsOf zs)) ∨ (chkL zs ≠ 0 ∧ tableR zs = .bad 8) := by
 unfold tableR
 by_cases h : chkL zs = 0
 ·exact .inl ⟨h, by rw [if_pos h]⟩
 ·exact .inr ⟨h, by rw [if_neg h]⟩
theorem lsOf_zs (l : List Nat) : lsOf (zsOf l) = l := by
 unfold lsOf zsOf; rw [List.map_map]
 conv => rhs; rw [← List.map_id l]
 apply List.map_congr_left
 intro x _; rfl
set_option maxRecDepth 100000 in
theorem sim_told (row : List Bool) (s : St) (h : s.e = 0) : match headR row s.pos with
  | .ok a => utold row s = ((a.2.1, a.2.2), ⟨a.1, s.out, s.ks, 0⟩)
  | .bad z => (utold row s).2.e = z := by
 -- something is wrong ahead of the sizes
 have key : ∀ (a b c : Nat × St) (z : Int), z ≠ 0 → c.2.e = z → a = uget row s 5 → b = uget row a.2 5 → c = uget row b.2 4 → (utold row s).2.e = z := by
  intro a b c z hz he ha hb hc
  have hs4 : (if 286 < a.1 + 257 ∨ 30 < b.1 + 1 then uwrong c.2 8 else c.2) = c.2 := by
   split
   ·exact wrong_stuck (by rw [he]; exact hz)
   ·rfl
  unfold utold
  rw [← ha]
  dsimp only
  rw [← hb, ← hc]
  rw [hs4]
  have hst := sizes_stuck row (orderL.take (c.1 + 4)) (List.replicate 19 0) c.2 (by rw [he]; exact hz)
  rw [hst, if_stuck (s := c.2) (by rw [he]; exact hz), if_pos (by rw [he]; exact hz)]
  exact he
 unfold headR
 cases h1 : getR row s.pos 5 with
 | bad z =>
  have hz := nz_get _ _ _ z h1
  rw [thb]
  exact key _ _ _ z hz (by rw [get_bad h h1, get_stuck (s := ⟨s.pos, s.out, s.ks, z⟩) hz, get_stuck (s := ⟨s.pos, s.out, s.ks, z⟩) hz]) rfl rfl rfl
 | ok a =>
  rw [thn]
  cases h2 : getR row a.2 5 with
  | bad z =>
   have hz := nz_get _ _ _ z h2
   rw [thb]
   exact key _ _ _ z hz (by rw [get_ok h h1, get_bad (s := ⟨a.2, s.out, s.ks, 0⟩) rfl h2, get_stuck (s := ⟨a.2, s.out, s.ks, z⟩) hz]) rfl rfl rfl
  | ok b =>
   rw [thn]
   cases h3 : getR row b.2 4 with
   | bad z =>
    have hz := nz_get _ _ _ z h3
    rw [thb]
    exact key _ _ _ z hz (by rw [get_ok h h1, get_ok (s := ⟨a.2, s.out, s.ks, 0⟩) rfl h2, get_bad (s := ⟨b.2, s.out, s.ks, 0⟩) rfl h3]) rfl rfl rfl
   | ok c =>
    rw [thn]
    unfold utold
    rw [get_ok h h1]
    dsimp only
    rw [get_ok (s := ⟨a.2, s.out, s.ks, 0⟩) rfl h2]
    dsimp only
    rw [get_ok (s := ⟨b.2, s.out, s.ks, 0⟩) rfl h3]
    dsimp only
    by_cases hc : 286 < a.1 + 257 ∨ 30 < b.1 + 1
    ·rw [if_pos hc, if_pos hc, wrong_yes (s := ⟨c.2, s.out, s.ks, 0⟩) rfl]
     dsimp only
     rw [sizes_stuck row _ _ ⟨c.2, s.out, s.ks, 8⟩ (show (8 : Int) ≠ 0 by decide), if_stuck (s := ⟨c.2, s.out, s.ks, 8⟩) (show (8 : Int) ≠ 0 by decide), if_pos (show (8 : Int) ≠ 0 by decide)]
    ·rw [if_neg hc, if_neg hc]
     have hz5 := sim_sizes row (orderL.take (c.1 + 4)) (List.replicate 19 0) ⟨c.2, s.out, s.ks, 0⟩ rfl
     dsimp only at hz5
     cases h5 : sizesR row (orderL.take (c.1 + 4)) c.2 (List.replicate 19 0) with
     | bad z =>
      have hz := nz_sizes _ _ _ _ z h5
      rw [h5] at hz5
      dsimp only at hz5
      rw [thb, if_stuck (by rw [hz5]; exact hz), if_pos (by rw [hz5]; exact hz)]
      exact hz5
     | ok sz =>
      rw [h5] at hz5
      dsimp only at hz5
      rw [hz5, thn]
      dsimp only
      rcases table_cases (zsOf sz.2) with ⟨ht, ht2⟩ | ⟨ht, ht2⟩
      ·rw [ht2, thn, lsOf_zs, if_no (show ¬ chkL (zsOf sz.2) ≠ 0 by simpa using ht), if_neg (show ¬ ((0 : Int) ≠ 0) by simp)]
       have hl := sim_lens row sz.2 (a.1 + 257 + (b.1 + 1)) (a.1 + 257 + (b.1 + 1)) [] ⟨sz.1, s.out, s.ks, 0⟩ rfl
       dsimp only at hl
       cases h6 : lenR row sz.2 (a.1 + 257 + (b.1 + 1)) (a.1 + 257 + (b.1 + 1)) sz.1 [] with
       | bad z =>
        have hz := nz_len _ _ _ _ _ _ z h6
        rw [h6] at hl
        dsimp only at hl
        rw [thb, if_pos (by rw [hl]; exact hz)]
        exact hl
       | ok l =>
        rw [h6] at hl
        dsimp only at hl
        rw [hl, thn]
        dsimp only
        rw [if_neg (show ¬ ((0 : Int) ≠ 0) by simp)]
        by_cases h256 : l.2.getD 256 0 = 0
        ·rw [if_pos h256, if_pos (.inl h256)]
         exact wrong_yes' rfl
        ·rw [if_neg h256]
         rcases table_cases (zsOf (l.2.take (a.1 + 257))) with ⟨hx, hx2⟩ | ⟨hx, hx2⟩
         ·rw [hx2, thn, lsOf_zs]
          rcases table_cases (zsOf (l.2.drop (a.1 + 257))) with ⟨hy, hy2⟩ | ⟨hy, hy2⟩
          ·rw [hy2, thn, lsOf_zs, if_neg (by rintro (g | g | g); exact h256 g; exact g hx; exact g hy)]
          ·rw [hy2, thb, if_pos (.inr (.inr hy))]
           exact wrong_yes' rfl
         ·rw [hx2, thb, if_pos (.inr (.inl hx))]
          exact wrong_yes' rfl
      ·rw [ht2, thb, if_yes (s := ⟨sz.1, s.out, s.ks, 0⟩) rfl ht, if_pos (show (8 : Int) ≠ 0 by decide)]
set_option maxRecDepth 100000 in
theorem sim_block (row : List Bool) (s : St) (h : s.e = 0) : match blockR row s.pos s.out with
  | .ok a => ublock row s = (a.1, ⟨a.2.2.1, a.2.2.2, s.ks ++ [a.2.1], 0⟩)
  | .bad z => (ublock row s).2.e = z := by
 unfold ublock blockR
 cases h1 : getR row s.pos 1 with
 | bad z =>
  have hz := nz_get _ _ _ z h1
  rw [get_bad h h1, thb]
  dsimp only
  rw [get_stuck (s := ⟨s.pos, s.out, s.ks, z⟩) hz]
  dsimp only
  rw [if_pos hz]
 | ok l =>
  rw [get_ok h h1, thn]
  dsimp only
  cases h2 : getR row l.2 2 with
  | bad z =>
   have hz := nz_get _ _ _ z h2
   rw [get_bad (s := ⟨l.2, s.out, s.ks, 0⟩) rfl h2, thb]
   dsimp only
   rw [if_pos hz]
  | ok k =>
   rw [get_ok (s := ⟨l.2, s.out, s.ks, 0⟩) rfl h2, thn]
   dsimp only
   rw [if_neg (show ¬ ((0 : Int) ≠ 0) by simp)]
   by_cases h0 : k.1 = 0
   ·rw [if_pos h0, if_pos h0]
    have hs := sim_stored row ⟨k.2, s.out, s.ks, 0⟩ rfl
    dsimp only at hs
    cases h3 : storedR row k.2 s.out with
    | bad z =>
     rw [h3] at hs
     have hs : (ustored row _).e = z := hs
     rw [thb]
     exact hs
    | ok x =>
     rw [h3] at hs
     have hs : ustored row _ = _ := hs
     rw [hs, thn]
     rfl
   ·rw [if_neg h0, if_neg h0]
    have body : ∀ (A B : List Nat) (q : Nat), match (bodyR row A B (row.length + 1) q s.out).then_ fun x => Inf.Rd.ok (l.1 == 1, k.1, x.1, x.2) with
      | .ok a => ((l.1 == 1, ukind (ubody row A B (row.length + 1) ⟨q, s.out, s.ks, 0⟩) k.1) : Bool × St) = (a.1, ⟨a.2.2.1, a.2.2.2, s.ks ++ [a.2.1], 0⟩)
      | .bad z => (ukind (ubody row A B (row.length + 1) ⟨q, s.out, s.ks, 0⟩) k.1).e = z := by
     intro A B q
     have hb := sim_body row A B (row.length + 1) ⟨q, s.out, s.ks, 0⟩ rfl
     dsimp only at hb
     cases h4 : bodyR row A B (row.length + 1) q s.out with
     | bad z =>
      rw [h4] at hb
      have hb : (ubody row A B _ _).e = z := hb
      rw [thb]
      exact hb
     | ok x =>
      rw [h4] at hb
      have hb : ubody row A B _ _ = _ := hb
      rw [hb, thn]
      rfl
    by_cases hk1 : k.1 = 1
    ·rw [if_pos hk1, if_pos hk1]
     dsimp only
     rw [if_neg (show ¬ ((0 : Int) ≠ 0) by simp)]
     exact body fixedA fixedB k.2
    ·rw [if_neg hk1, if_neg hk1]
     by_cases hk2 : k.1 = 2
     ·rw [if_pos hk2, if_pos hk2]
      have ht := sim_told row ⟨k.2, s.out, s.ks, 0⟩ rfl
      dsimp only at ht
      cases h5 : headR row k.2 with
      | bad z =>
       have hz := nz_head _ _ z h5
       rw [h5] at ht
       dsimp only at ht
       rw [thb, if_pos (by rw [ht]; exact hz)]
       exact ht
      | ok x =>
       rw [h5] at ht
       dsimp only at ht
       rw [ht, thn]
       dsimp only
       rw [if_neg (show ¬ ((0 : Int) ≠ 0) by simp)]
       exact body x.2.1 x.2.2 x.1
     ·rw [if_neg hk2, if_neg hk2, wrong_yes (s := ⟨k.2, s.out, s.ks, 0⟩) rfl]
      dsimp only
      rw [if_pos (show (4 : Int) ≠ 0 by decide)]
theorem sim_blocks (row : List Bool) : ∀ (f : Nat) (s : St), s.e = 0 → match blocksR row f s.pos s.out s.ks with
  | .ok a => ublocks row f s = ⟨a.1, a.2.1, a.2.2, 0⟩
  | .bad z => (ublocks row f s).e = z
 | 0, s, h => by unfold ublocks; exact wrong_yes' h
 | f + 1, s, h => by
  unfold ublocks blocksR
  have hb := sim_block row s h
  cases h1 : blockR row s.pos s.out with
  | bad z =>
   have hz := nz_block _ _ _ z h1
   rw [h1] at hb
   dsimp only at hb
   rw [thb, if_neg (fun hh => hz (by rw [← hb]; exact hh.2))]
   exact hb
  | ok a =>
   rw [h1] at hb
   dsimp only at hb
   rw [hb, thn]
   dsimp only
   cases ha : a.1 with
   | true => rw [if_pos rfl, if_neg (by simp)]
   | false =>
    rw [if_neg (by simp), if_pos ⟨rfl, rfl⟩]
    exact sim_blocks row f ⟨a.2.2.1, a.2.2.2, s.ks ++ [a.2.1], 0⟩ rfl
end Go.Proofs.YthpdcnjaodjjmaaGreat.Unp

/- package reliquaryref: codes in the order of places; the plain law. No program in sight. -/
namespace Go.Proofs.YthpdcnjaodjjmaaGreat.Cds
open Go.Proofs.YthpdcnjaodjjmaaGreat.Bits Go.Proofs.YthpdcnjaodjjmaaGreat.Code Go.Proofs.YthpdcnjaodjjmaaGreat.SP
set_option linter.unusedVariables false

def placesL (ls : List Nat) : List (Nat × Nat) := ls.zipIdx.filter fun p => p.1 != 0
def skey (e : Nat × Nat) : Nat := e.1
theorem placesL_take (ls : List Nat) (k : Nat) (h : k < ls.length) : placesL (ls.take (k + 1)) = placesL (ls.take k) ++ if ls[k] = 0 then [] else [(ls[k], k)] := by
 unfold placesL
 rw [List.take_succ_eq_append_getElem h, List.zipIdx_append, List.filter_append, List.length_take, Nat.min_eq_left (by omega)]
 congr 1
 by_cases h0 : ls[k] = 0
 ·simp [h0]
 ·simp [h0]
theorem placesL_len (ls : List Nat) : (placesL ls).length ≤ ls.length := by
 unfold placesL
 refine Nat.le_trans (List.length_filter_le _ _) ?_
 simp
theorem placesL_mem (ls : List Nat) (p : Nat × Nat) : p ∈ placesL ls ↔ p.2 < ls.length ∧ ls.getD p.2 0 = p.1 ∧ p.1 ≠ 0 := by
 unfold placesL
 rw [List.mem_filter, List.mem_zipIdx_iff_getElem?]
 constructor
 ·rintro ⟨h1, h2⟩
  have h3 := (List.getElem?_eq_some_iff.1 h1)
  obtain ⟨h4, h5⟩ := h3
  refine ⟨h4, ?_, by simpa using h2⟩
  rw [List.getD_eq_getElem?_getD, h1]; rfl
 ·rintro ⟨h1, h2, h3⟩
  refine ⟨?_, by simpa using h3⟩
  rw [List.getD_eq_getElem?_getD, List.getElem?_eq_getElem h1] at h2
  rw [List.getElem?_eq_getElem h1]
  simpa using h2
def lePl (x y : Nat × Nat) : Prop := x.1 < y.1 ∨ (x.1 = y.1 ∧ x.2 ≤ y.2)
theorem lePl_anti (x y : Nat × Nat) (h : lePl x y) (k : lePl y x) : x = y := by
 obtain ⟨a, b⟩ := x
 obtain ⟨c, d⟩ := y
 unfold lePl at h k
 simp only at h k
 have h1 : a = c := by omega
 have h2 : b = d := by omega
 rw [h1, h2]
theorem placesL_rise (ls : List Nat) : (placesL ls).Pairwise (fun x y => x.2 < y.2) := by
 unfold placesL
 refine List.Pairwise.filter _ ?_
 have := rise_zip ls 0
 exact this
theorem ordN_rise (ls : List Nat) (n : Nat) : (ordN ls n).Pairwise (· < ·) := by
 unfold ordN
 exact List.Pairwise.filter _ List.pairwise_lt_range
theorem stab_le (l : List (Nat × Nat)) (h : l.Pairwise (fun x y => x.2 < y.2)) : (stab skey l).Pairwise lePl := by
 unfold stab
 rw [List.pairwise_map]
 have hs := stabT_sorted skey l
 have hm : ∀ t ∈ stabT skey l, ∃ hh : t.2 < l.length, l[t.2] = t.1 := by
  intro t ht
  have := (stabT_perm skey l).mem_iff.1 ht
  rw [List.mem_zipIdx_iff_getElem?] at this
  obtain ⟨h1, h2⟩ := List.getElem?_eq_some_iff.1 this
  exact ⟨h1, h2⟩
 refine List.Pairwise.imp_of_mem ?_ hs
 intro x y hx hy hxy
 obtain ⟨h1, h2⟩ := hm x hx
 obtain ⟨h3, h4⟩ := hm y hy
 unfold lexP skey at hxy
 unfold lePl
 rcases hxy with h5 | ⟨h5, h6⟩
 ·exact .inl h5
 ·refine .inr ⟨h5, ?_⟩
  rcases Nat.lt_or_ge x.2 y.2 with h7 | h7
  ·have := List.pairwise_iff_getElem.1 h x.2 y.2 h1 h3 h7
   rw [h2, h4] at this
   omega
  ·have e : x.2 = y.2 := by omega
   have : x.1 = y.1 := by rw [← h2, ← h4]; simp [e]
   rw [this]
   exact Nat.le_refl _
theorem ordUp_mem (ls : List Nat) (s i : Nat) : i ∈ ordUp ls s ↔ i < ls.length ∧ ls.getD i 0 ≠ 0 ∧ ls.getD i 0 ≤ s := by
 unfold ordUp
 simp only [List.mem_flatMap, List.mem_range, ordN_mem]
 constructor
 ·rintro ⟨k, h1, h2, h3⟩
  exact ⟨h2, by omega, by omega⟩
 ·rintro ⟨h1, h2, h3⟩
  exact ⟨ls.getD i 0 - 1, by omega, h1, by omega⟩
theorem ordUp_le_pl (ls : List Nat) : ∀ s, ((ordUp ls s).map fun i => (ls.getD i 0, i)).Pairwise lePl
 | 0 => by simp [ordUp]
 | s + 1 => by
  rw [ordUp_succ, List.map_append, List.pairwise_append]
  refine ⟨ordUp_le_pl ls s, ?_, ?_⟩
  ·rw [List.pairwise_map]
   refine List.Pairwise.imp_of_mem ?_ (ordN_rise ls (s + 1))
   intro a b ha hb hab
   have h1 := (ordN_mem ls (s + 1) a).1 ha
   have h2 := (ordN_mem ls (s + 1) b).1 hb
   exact .inr ⟨by rw [h1.2, h2.2], Nat.le_of_lt hab⟩
  ·intro x hx y hy
   obtain ⟨a, ha, rfl⟩ := List.mem_map.1 hx
   obtain ⟨b, hb, rfl⟩ := List.mem_map.1 hy
   have h1 := (ordUp_mem ls s a).1 ha
   have h2 := (ordN_mem ls (s + 1) b).1 hb
   exact .inl (by show ls.getD a 0 < ls.getD b 0; omega)
theorem nodup_of_le {l : List (Nat × Nat)} (h : l.Pairwise fun x y => x.2 < y.2) : l.Nodup := List.Pairwise.imp (fun hxy e => by rw [e] at hxy; omega) h
theorem ordUp_nodup (ls : List Nat) : ∀ s, (ordUp ls s).Nodup
 | 0 => by simp [ordUp]
 | s + 1 => by
  rw [ordUp_succ, List.nodup_append]
  refine ⟨ordUp_nodup ls s, List.Pairwise.imp (fun h e => by omega) (ordN_rise ls (s + 1)), ?_⟩
  intro a ha b hb e
  subst e
  have h1 := (ordUp_mem ls s a).1 ha
  have h2 := (ordN_mem ls (s + 1) a).1 hb
  omega
theorem stab_places (ls : List Nat) (hl : ∀ x ∈ ls, x ≤ 15) : stab skey (placesL ls) = (ordUp ls 15).map fun i => (ls.getD i 0, i) := by
 refine sorted_unique (le := lePl) lePl_anti _ _ ?_ (stab_le _ (placesL_rise ls)) (ordUp_le_pl ls 15)
 refine (stab_perm skey (placesL ls)).trans ?_
 refine (List.perm_ext_iff_of_nodup (nodup_of_le (placesL_rise ls)) ?_).2 ?_
 ·exact List.Pairwise.map _ (fun a b h e => h (by injection e)) (ordUp_nodup ls 15)
 ·intro p
  rw [placesL_mem, List.mem_map]
  constructor
  ·rintro ⟨h1, h2, h3⟩
   refine ⟨p.2, (ordUp_mem ls 15 p.2).2 ⟨h1, by rw [h2]; exact h3, ?_⟩, by rw [h2]⟩
   rw [List.getD_eq_getElem?_getD, List.getElem?_eq_getElem h1]
   exact hl _ (List.getElem_mem h1)
  ·rintro ⟨i, hi, rfl⟩
   have := (ordUp_mem ls 15 i).1 hi
   exact ⟨this.1, rfl, this.2.1⟩
def wt (ls : List Nat) (o : List Nat) : Nat := (o.map fun i => 2 ^ (15 - ls.getD i 0)).sum
theorem wt_append (ls a b : List Nat) : wt ls (a ++ b) = wt ls a + wt ls b := by unfold wt; rw [List.map_append, List.sum_append]
theorem wt_same (ls : List Nat) (n : Nat) : ∀ o : List Nat, (∀ i ∈ o, ls.getD i 0 = n) → wt ls o = o.length * 2 ^ (15 - n)
 | [], _ => by simp [wt]
 | i :: o, h => by
  have h1 := wt_same ls n o (fun j hj => h j (List.mem_cons_of_mem _ hj))
  unfold wt at h1 ⊢
  rw [List.map_cons, List.sum_cons, h1, h i List.mem_cons_self, List.length_cons, Nat.succ_mul]
  omega
theorem twice_pow (A c s : Nat) (hs : s + 1 ≤ 15) : A * 2 ^ (15 - s) + c * 2 ^ (15 - (s + 1)) = (2 * A + c) * 2 ^ (15 - (s + 1)) := by
 rw [show 15 - s = (15 - (s + 1)) + 1 by omega, Nat.pow_succ, Nat.add_mul, Nat.mul_comm 2 A, Nat.mul_assoc A 2, Nat.mul_comm 2 (2 ^ (15 - (s + 1)))]
theorem wt_up (ls : List Nat) : ∀ s, s ≤ 15 → wt ls (ordUp ls s) = (first ls s + cnt ls s) * 2 ^ (15 - s)
 | 0, _ => by simp [wt, ordUp, first, cnt]
 | s + 1, hs => by
  rw [ordUp_succ, wt_append, wt_up ls s (by omega), wt_same ls (s + 1) _ (fun i hi => ((ordN_mem ls (s + 1) i).1 hi).2)]
  have e : first ls (s + 1) = 2 * (first ls s + cnt ls s) := rfl
  have c : cnt ls (s + 1) = (ordN ls (s + 1)).length := rfl
  rw [e, c, twice_pow _ _ _ hs]
theorem nodup_at {l : List Nat} (h : l.Nodup) (i j : Nat) (hi : i < l.length) (hj : j < l.length) (e : l[i] = l[j]) : i = j := by
 have hp := List.pairwise_iff_getElem.1 h
 rcases Nat.lt_trichotomy i j with h1 | h1 | h1
 ·exact absurd e (hp i j hi hj h1)
 ·exact h1
 ·exact absurd e.symm (hp j i hj hi h1)
theorem code_at (ls : List Nat) : ∀ (s : Nat), s ≤ 15 → ∀ (pre post : List Nat) (i : Nat), ordUp ls s = pre ++ i :: post → codeOf ls i * 2 ^ (15 - ls.getD i 0) = wt ls pre
 | 0, _, pre, post, i, h => by simp [ordUp] at h
 | s + 1, hs, pre, post, i, h => by
  rw [ordUp_succ] at h
  rcases List.append_eq_append_iff.1 h with ⟨a, h1, h2⟩ | ⟨a, h1, h2⟩
  ·have hn : ls.getD i 0 = s + 1 := ((ordN_mem ls (s + 1) i).1 (by rw [h2]; simp)).2
   have hi : i < ls.length := ((ordN_mem ls (s + 1) i).1 (by rw [h2]; simp)).1
   have hr : rank ls i = a.length := by
    have h3 := ordN_rank ls i hi
    rw [hn, h2] at h3
    have hnd : (a ++ i :: post).Nodup := by rw [← h2]; exact List.Pairwise.imp (fun h e => by omega) (ordN_rise ls (s + 1))
    have h4 : (a ++ i :: post)[a.length]? = some i := by rw [List.getElem?_append_right (Nat.le_refl _), Nat.sub_self]; rfl
    obtain ⟨l1, e1⟩ := List.getElem?_eq_some_iff.1 h3
    obtain ⟨l2, e2⟩ := List.getElem?_eq_some_iff.1 h4
    exact nodup_at hnd _ _ l1 l2 (e1.trans e2.symm)
   have hc : codeOf ls i = first ls (s + 1) + a.length := by
    unfold codeOf
    rw [if_neg (by omega), hn, hr]
   rw [h1, wt_append, wt_up ls s (by omega), wt_same ls (s + 1) a (fun j hj => ((ordN_mem ls (s + 1) j).1 (by rw [h2]; exact List.mem_append_left _ hj)).2), hc, hn]
   have e : first ls (s + 1) = 2 * (first ls s + cnt ls s) := rfl
   rw [e, twice_pow _ _ _ hs]
  ·cases a with
   | nil =>
    rw [List.nil_append] at h2
    rw [List.append_nil] at h1
    have hn : ls.getD i 0 = s + 1 := ((ordN_mem ls (s + 1) i).1 (by rw [← h2]; simp)).2
    have hi : i < ls.length := ((ordN_mem ls (s + 1) i).1 (by rw [← h2]; simp)).1
    have hr : rank ls i = 0 := by
     have h3 := ordN_rank ls i hi
     rw [hn, ← h2] at h3
     have hnd : (i :: post).Nodup := by rw [h2]; exact List.Pairwise.imp (fun h e => by omega) (ordN_rise ls (s + 1))
     have h4 : (i :: post)[0]? = some i := rfl
     obtain ⟨l1, e1⟩ := List.getElem?_eq_some_iff.1 h3
     obtain ⟨l2, e2⟩ := List.getElem?_eq_some_iff.1 h4
     exact nodup_at hnd _ _ l1 l2 (e1.trans e2.symm)
    have hc : codeOf ls i = first ls (s + 1) := by
     unfold codeOf
     rw [if_neg (by omega), hn, hr]; rfl
    rw [← h1, wt_up ls s (by omega), hc, hn]
    have e : first ls (s + 1) = 2 * (first ls s + cnt ls s) := rfl
    have := twice_pow (first ls s + cnt ls s) 0 s hs
    rw [Nat.zero_mul, Nat.add_zero, Nat.add_zero] at this
    rw [e, this]
   | cons b a =>
    rw [List.cons_append] at h2
    injection h2 with h3 h4
    subst h3
    exact code_at ls s (by omega) pre a i h1
def codeS (ls : List Nat) (i : Nat) : List Bool := hi (ls.getD i 0) (codeOf ls i)
theorem codeS_none (ls : List Nat) (i : Nat) (h : ls.getD i 0 = 0) : codeS ls i = [] := by unfold codeS; rw [h]; rfl
theorem hi_succ (n c : Nat) : hi (n + 1) c = hi n (c / 2) ++ [decide (c % 2 = 1)] := by
 unfold hi numBits
 rw [List.range_succ_eq_map, List.map_cons, List.reverse_cons, List.map_map]
 congr 1
 ·congr 1
  apply List.map_congr_left
  intro k _
  show c.testBit (k + 1) = (c / 2).testBit k
  rw [Nat.testBit_succ]
 ·rw [Nat.testBit_zero]
theorem hi_more : ∀ (n c : Nat), c + 1 < 2 ^ n → ∃ a t, hi n c = a ++ false :: List.replicate t true ∧ hi n (c + 1) = a ++ true :: List.replicate t false
 | 0, c, h => by simp at h
 | n + 1, c, h => by
  rw [Nat.pow_succ] at h
  rcases Nat.mod_two_eq_zero_or_one c with h0 | h0
  ·refine ⟨hi n (c / 2), 0, ?_, ?_⟩
   ·rw [hi_succ, h0]; rfl
   ·rw [hi_succ, show (c + 1) / 2 = c / 2 by omega, show (c + 1) % 2 = 1 by omega]; rfl
  ·obtain ⟨a, t, h1, h2⟩ := hi_more n (c / 2) (by omega)
   refine ⟨a, t + 1, ?_, ?_⟩
   ·rw [hi_succ, h0, h1, List.replicate_succ']
    simp
   ·rw [hi_succ, show (c + 1) / 2 = c / 2 + 1 by omega, show (c + 1) % 2 = 0 by omega, h2, List.replicate_succ']
    simp
theorem hi_far : ∀ (d n c : Nat), hi (n + d) (c * 2 ^ d) = hi n c ++ List.replicate d false
 | 0, n, c => by simp
 | d + 1, n, c => by
  rw [← Nat.add_assoc, hi_succ, Nat.pow_succ, ← Nat.mul_assoc, Nat.mul_div_cancel _ (by decide), hi_far d n c, Nat.mul_mod_left, List.replicate_succ']
  simp
theorem codeS_first (ls : List Nat) (i : Nat) (post : List Nat) (h : ordUp ls 15 = i :: post) : codeS ls i = List.replicate (ls.getD i 0) false := by
 have h1 := code_at ls 15 (Nat.le_refl _) [] post i h
 have h0 : codeOf ls i = 0 := by
  rcases Nat.mul_eq_zero.1 (h1.trans (by rfl)) with h | h
  ·exact h
  ·exact absurd h (Nat.pos_iff_ne_zero.1 (Nat.two_pow_pos _))
 unfold codeS
 rw [h0]
 have := hi_far (ls.getD i 0) 0 0
 rw [Nat.zero_add, Nat.zero_mul] at this
 rw [this]; rfl
theorem codeS_next (ls : List Nat) (hl : ∀ x ∈ ls, x ≤ 15) (hr : room ls ≤ 32768) (pre post : List Nat) (i j : Nat) (h : ordUp ls 15 = pre ++ i :: j :: post) :
  ls.getD i 0 ≤ ls.getD j 0 ∧ ∃ a t, codeS ls i = a ++ false :: List.replicate t true ∧ codeS ls j = (a ++ true :: List.replicate t false) ++ List.replicate (ls.getD j 0 - ls.getD i 0) false := by
 have hi_ := (ordUp_mem ls 15 i).1 (by rw [h]; simp)
 have hj_ := (ordUp_mem ls 15 j).1 (by rw [h]; simp)
 have hle : ls.getD i 0 ≤ ls.getD j 0 := by
  have hp := ordUp_le_pl ls 15
  rw [h, List.map_append, List.pairwise_append] at hp
  have h2 := hp.2.1
  rw [List.map_cons, List.pairwise_cons] at h2
  have h3 := h2.1 (ls.getD j 0, j) (by simp)
  unfold lePl at h3
  simp only at h3
  omega
 have h1 := code_at ls 15 (Nat.le_refl _) pre (j :: post) i h
 have h2 := code_at ls 15 (Nat.le_refl _) (pre ++ [i]) post j (by rw [h]; simp)
 rw [wt_append, ← h1, show wt ls [i] = 2 ^ (15 - ls.getD i 0) by simp [wt]] at h2
 have hd : codeOf ls j = (codeOf ls i + 1) * 2 ^ (ls.getD j 0 - ls.getD i 0) := by
  have hp : (2 : Nat) ^ (15 - ls.getD i 0) = 2 ^ (ls.getD j 0 - ls.getD i 0) * 2 ^ (15 - ls.getD j 0) := by rw [← Nat.pow_add]; congr 1; omega
  have h3 : codeOf ls j * 2 ^ (15 - ls.getD j 0) = ((codeOf ls i + 1) * 2 ^ (ls.getD j 0 - ls.getD i 0)) * 2 ^ (15 - ls.getD j 0) := by
   rw [h2, hp, Nat.add_mul (codeOf ls i) 1, Nat.add_mul, Nat.one_mul, Nat.mul_assoc]
  exact Nat.eq_of_mul_eq_mul_right (Nat.two_pow_pos _) h3
 have hlt := codeOf_lt ls j hj_.1 hj_.2.1 hl hr
 have hlt2 : codeOf ls i + 1 < 2 ^ ls.getD i 0 := by
  rw [hd] at hlt
  have hp : (2 : Nat) ^ ls.getD j 0 = 2 ^ ls.getD i 0 * 2 ^ (ls.getD j 0 - ls.getD i 0) := by rw [← Nat.pow_add]; congr 1; omega
  rw [hp] at hlt
  exact Nat.lt_of_mul_lt_mul_right hlt
 obtain ⟨a, t, e1, e2⟩ := hi_more (ls.getD i 0) (codeOf ls i) hlt2
 refine ⟨hle, a, t, e1, ?_⟩
 unfold codeS
 rw [hd, ← e2]
 have := hi_far (ls.getD j 0 - ls.getD i 0) (ls.getD i 0) (codeOf ls i + 1)
 rw [show ls.getD i 0 + (ls.getD j 0 - ls.getD i 0) = ls.getD j 0 by omega] at this
 exact this
end Go.Proofs.YthpdcnjaodjjmaaGreat.Cds

/- reliquaryref: rows of '0' and '1': OfNumber, BytesOf. -/
namespace Go.Proofs.YthpdcnjaodjjmaaGreat.Bits
open Go Go.RowKit Go.Proofs.YthpdcnjaodjjmaaGreat
set_option linter.unusedVariables false

def ch (b : Bool) : UInt8 := if b then 49 else 48
def rowS (l : List Bool) : List UInt8 := l.map ch
def rowV (l : List Bool) : Value := .string (strB (rowS l))
theorem strB_size (l : List UInt8) : (strB l).size = l.length := by simp [strB, ByteArray.size]
theorem rowS_length (l : List Bool) : (rowS l).length = l.length := by simp [rowS]
theorem strB_append (a b : List UInt8) : strB a ++ strB b = strB (a ++ b) := by
 apply ByteArray.ext
 simp [strB]
theorem rowS_append (a b : List Bool) : rowS (a ++ b) = rowS a ++ rowS b := by simp [rowS]
theorem num_drop (l : List Bool) (k : Nat) (h : k < l.length) : num (l.drop k) = 2 * num (l.drop (k + 1)) + l[k].toNat := by
 rw [List.drop_eq_getElem_cons h]; simp [num]; omega
theorem num_bound (l : List Bool) (k : Nat) (h : l.length ≤ 60) : num (l.drop k) < 1152921504606846976 := by
 have h1 := num_lt (l.drop k)
 have h2 : 2 ^ (l.drop k).length ≤ 2 ^ 60 := Nat.pow_le_pow_right (by omega) (by simp; omega)
 omega
theorem ch_get (l : List Bool) (j : Nat) (h : j < l.length) {hs : j < (strB (rowS l)).size} : (((strB (rowS l))[j]'hs).toNat : Int) = 48 + (l[j].toNat : Int) := by
 have : (strB (rowS l))[j]'hs = ch l[j] := by
  show (strB (rowS l)).data[j]'hs = _
  simp [strB, rowS]
 rw [this]
 cases l[j] <;> simp [ch]
set_option maxHeartbeats 400000 in
theorem ofNumber_any (l : List Bool) (w : World) (hl : l.length ≤ 60) :
  Calls Tryz.prog 60 #[rowV l] w fun e w' => e = .returned (.int .i64 (num l : Nat)) ∧ w' = w := by
 unfold rowV
 have hsz : (strB (rowS l)).size ≤ 60 := by rw [strB_size, rowS_length]; exact hl
 go_enter Tryz.func60, Tryz.ntmps60
 go_wp2_with fail
 go_loopw [4, 3] (fun i m wr => ∃ k : Nat, k ≤ l.length ∧ i = .int .i64 ((k : Int) - 1) ∧ m = .int .i64 ((num (l.drop k) : Nat) : Int) ∧ wr = w) (fun i _ _ => ((intOf i) + 1).toNat)
 case atStart =>
  refine ⟨l.length, Nat.le_refl _, ?_, ?_, rfl⟩
  ·rw [strB_size, rowS_length]
  ·simp [num]
 case round =>
  obtain ⟨k, hk, rfl, rfl, rfl⟩ := hrel
  by_cases hlt : 0 < k
  ·obtain ⟨j, rfl⟩ : ∃ j, k = j + 1 := ⟨k - 1, by omega⟩
   have Hn := Lib.hid (num_drop l j (by omega))
   have hb := num_bound l (j + 1) hl
   have hjs : j < (strB (rowS l)).size := by rw [strB_size, rowS_length]; omega
   generalize num (l.drop (j + 1)) = m at *
   have e : (((j + 1 : Nat) : Int) - 1) = (j : Int) := by omega
   rw [e]
   clear e
   go_wp2_with fail
   go_roundw
   case rel =>
    refine ⟨j, by omega, rfl, ?_, trivial⟩
    apply int_eq
    rw [Hn.out, ch_get l j (by omega)]
    have : l[j].toNat ≤ 1 := by cases l[j] <;> simp
    omega
   case measure => simp [intOf]
  ·obtain rfl : k = 0 := by omega
   go_wp2_with fail
   go_ret
   exact ⟨by simp, rfl⟩
end Go.Proofs.YthpdcnjaodjjmaaGreat.Bits

/- strings.Repeat of "0", strings.LastIndexByte. -/
namespace Go.Proofs.YthpdcnjaodjjmaaGreat.Cds
open Go Go.RowKit Go.Proofs.YthpdcnjaodjjmaaGreat Go.Proofs.YthpdcnjaodjjmaaGreat.Bits
set_option linter.unusedVariables false
set_option linter.unusedSimpArgs false

set_option maxRecDepth 100000 in
set_option maxHeartbeats 1600000 in
theorem prefix_in (s : ByteArray) (w : World) (hs : s.size ≤ 1000) (h1 : 1 ≤ s.size) :
  Calls Tryz.prog 126 #[.string s, .string ⟨#[48]⟩] w fun e w' => (∃ b, e = .returned (.bool b) ∧ b = ((s.extract 0 1).toList == [48])) ∧ w' = w := by
 have hz : (⟨#[48]⟩ : ByteArray).size = 1 := rfl
 have i1 : (1 : Int) ≤ (s.size : Int) := by omega
 go_enter Tryz.func126, Tryz.ntmps126
 go_wp2_with fail
 go_ret
 exact ⟨⟨_, rfl, rfl⟩, rfl⟩
set_option maxRecDepth 100000 in
set_option maxHeartbeats 1600000 in
theorem hasPrefix_any (s : ByteArray) (w : World) (hs : s.size ≤ 1000) (h1 : 1 ≤ s.size) :
  Calls Tryz.prog 107 #[.string s, .string ⟨#[48]⟩] w fun e w' => (∃ b, e = .returned (.bool b) ∧ b = ((s.extract 0 1).toList == [48])) ∧ w' = w := by
 have HI := Lib.hid (prefix_in s w hs h1)
 go_enter Tryz.func107, Tryz.ntmps107
 go_wp2_with fail
 refine (HI.out).mono ?_
 rintro e w' ⟨⟨b, rfl, hb⟩, rfl⟩
 have Hb := Lib.hid hb
 clear hb
 go_wp2_with fail
 go_ret
 exact ⟨⟨_, rfl, Hb.out⟩, rfl⟩
theorem zeros_extract : ∀ k < 16, ByteArray.extract ⟨#[48, 48, 48, 48, 48, 48, 48, 48, 48, 48, 48, 48, 48, 48, 48, 48, 48, 48, 48, 48, 48, 48, 48, 48, 48, 48, 48, 48, 48, 48, 48, 48, 48, 48, 48, 48, 48, 48, 48, 48, 48, 48, 48, 48, 48, 48, 48, 48, 48, 48, 48, 48, 48, 48, 48, 48, 48, 48, 48, 48, 48, 48, 48, 48]⟩ 0 k = strB (List.replicate k 48) := by decide +kernel
set_option maxRecDepth 100000 in
set_option maxHeartbeats 1600000 in
theorem repeat0_any (k : Nat) (w : World) (hk : k ≤ 15) :
  Calls Tryz.prog 90 #[.string ⟨#[48]⟩, .int .i64 (k : Int)] w fun e w' => e = .returned (.string (strB (List.replicate k 48))) ∧ w' = w := by
 rcases (by omega : k = 0 ∨ k = 1 ∨ 2 ≤ k) with h | h | h
 ·subst h
  go_enter Tryz.func90, Tryz.ntmps90
  go_wp2_with fail
  go_ret
  exact ⟨rfl, rfl⟩
 ·subst h
  go_enter Tryz.func90, Tryz.ntmps90
  go_wp2_with fail
  go_ret
  exact ⟨rfl, rfl⟩
 ·have hv1 : k < 18446744073709551616 := by omega
  have HM : Hid (∀ W, Calls Tryz.prog 85 #[.int .u64 1, .int .u64 (k : Int)] W fun e w' => e = .returned (.tuple #[.int .u64 0, .int .u64 (k : Int)]) ∧ w' = W) := Lib.hid (fun W => by
   have h := Any.bits_Mul YthpdcnjaodjjmaaGreat.lays212 1 k (by omega) hv1 W
   rw [Nat.one_mul, Nat.div_eq_of_lt hv1, Nat.mod_eq_of_lt hv1] at h
   exact h)
  have hz : (⟨#[48]⟩ : ByteArray).size = 1 := rfl
  have e0 : ((k : Int) == 0) = false := by rw [beq_eq_false_iff_ne]; omega
  have e1 : ((k : Int) == 1) = false := by rw [beq_eq_false_iff_ne]; omega
  have i1 : (k : Int) ≤ 128 := by omega
  have i2 : (k : Int) ≤ 64 := by omega
  clear hv1
  go_enter Tryz.func90, Tryz.ntmps90
  go_wp2_with fail
  refine (HM.out _).mono ?_
  rintro e w2 ⟨rfl, hw2⟩
  cases hw2
  go_wp2_with fail
  refine (hasPrefix_any _ _ (by decide +kernel) (by decide +kernel)).mono ?_
  rintro e w3 ⟨⟨b, rfl, hb⟩, hw3⟩
  cases hw3
  obtain rfl : b = false := hb.trans (by decide +kernel)
  clear hb
  go_wp2_with fail
  refine (hasPrefix_any _ _ (by decide +kernel) (by decide +kernel)).mono ?_
  rintro e w4 ⟨⟨b, rfl, hb⟩, hw4⟩
  cases hw4
  obtain rfl : b = false := hb.trans (by decide +kernel)
  clear hb
  go_wp2_with fail
  refine (hasPrefix_any _ _ (by decide +kernel) (by decide +kernel)).mono ?_
  rintro e w5 ⟨⟨b, rfl, hb⟩, hw5⟩
  cases hw5
  obtain rfl : b = true := hb.trans (by decide +kernel)
  clear hb
  go_wp2_with fail
  go_ret
  exact ⟨congrArg (fun s => Ending.returned (.string s)) (zeros_extract k (by omega)), rfl⟩
set_option maxRecDepth 100000 in
set_option maxHeartbeats 1600000 in
theorem lastIn_any (a : List Bool) (t : Nat) (w : World) (hl : a.length + t ≤ 100) :
  Calls Tryz.prog 106 #[rowV (a ++ false :: List.replicate t true), .int .u8 48] w fun e w' => e = .returned (.int .i64 (a.length : Int)) ∧ w' = w := by
 obtain ⟨l, hl'⟩ : ∃ l, l = a ++ false :: List.replicate t true := ⟨_, rfl⟩
 have hlen : l.length = a.length + 1 + t := by rw [hl']; simp; omega
 have H1 : Hid (∀ (h : a.length < l.length), l[a.length] = false) := Lib.hid (fun h => by subst hl'; simp)
 have H2 : Hid (∀ j (h : j < l.length), a.length < j → l[j] = true) := Lib.hid (fun j h hj => by
  subst hl'
  rw [List.getElem_append_right (by omega), List.getElem_cons, dif_neg (by omega), List.getElem_replicate])
 rw [← hl']
 have hsz : (strB (rowS l)).size = l.length := by rw [strB_size, rowS_length]
 have hsz2 : (strB (rowS l)).size ≤ 101 := by omega
 have HSz := Lib.hid hsz
 have Hlen := Lib.hid hlen
 obtain ⟨n, hn⟩ : ∃ n, n = a.length := ⟨_, rfl⟩
 rw [← hn] at H1 H2 Hlen hl ⊢
 clear hl' hlen hsz hn
 unfold rowV
 go_enter Tryz.func106, Tryz.ntmps106
 go_wp2_with fail
 go_loopw [5] (fun i wr => ∃ k : Nat, n < k ∧ k ≤ l.length ∧ i = .int .i64 ((k : Int) - 1) ∧ wr = w) (fun i _ => ((intOf i) + 1).toNat)
 case atStart =>
  refine ⟨l.length, by have := Hlen.out; omega, Nat.le_refl _, ?_, rfl⟩
  rw [HSz.out]
 case round =>
  obtain ⟨k, hk1, hk2, rfl, rfl⟩ := hrel
  obtain ⟨j, rfl⟩ : ∃ j, k = j + 1 := ⟨k - 1, by omega⟩
  have e : (((j + 1 : Nat) : Int) - 1) = (j : Int) := by omega
  rw [e]
  clear e
  have hjs : j < (strB (rowS l)).size := by rw [HSz.out]; omega
  have hch := ch_get l j (by omega) (hs := hjs)
  have Hch := Lib.hid hch
  clear hch
  by_cases hjn : j = n
  ·subst hjn
   have hb : l[j].toNat = 0 := by rw [H1.out (by omega)]; rfl
   have hc : (((strB (rowS l))[j]'hjs).toNat : Int) = 48 := by rw [Hch.out, hb]; rfl
   clear hb
   go_wp2_with fail
   go_ret
   exact ⟨rfl, rfl⟩
  ·have hb : l[j].toNat = 1 := by rw [H2.out j (by omega) (by omega)]; rfl
   have hc : (((strB (rowS l))[j]'hjs).toNat : Int) = 49 := by rw [Hch.out, hb]; rfl
   have hw : IntKind.i64.wrap ((j : Int) - 1) = (j : Int) - 1 := IntWalk.i64_in _ (by omega)
   clear hb
   go_wp2_with fail
   go_roundw
   case rel => exact ⟨j, by omega, by omega, rfl, trivial⟩
   case measure => simp [intOf]
set_option maxRecDepth 100000 in
set_option maxHeartbeats 1600000 in
theorem last_any (a : List Bool) (t : Nat) (w : World) (hl : a.length + t ≤ 100) :
  Calls Tryz.prog 89 #[rowV (a ++ false :: List.replicate t true), .int .u8 48] w fun e w' => e = .returned (.int .i64 (a.length : Int)) ∧ w' = w := by
 have HI := Lib.hid (lastIn_any a t w hl)
 unfold rowV at *
 go_enter Tryz.func89, Tryz.ntmps89
 go_wp2_with fail
 refine (HI.out).mono ?_
 rintro e w' ⟨rfl, rfl⟩
 go_wp2_with fail
 go_ret
 exact ⟨rfl, rfl⟩
end Go.Proofs.YthpdcnjaodjjmaaGreat.Cds

/- rows of places, and what sort.SliceStable's functions are handed: less, swap. -/
namespace Go.Proofs.YthpdcnjaodjjmaaGreat.Slc
open Go Go.RowKit Go.Proofs.YthpdcnjaodjjmaaGreat
set_option linter.unusedVariables false

abbrev El := Nat × Nat
abbrev TE := El × Nat
def nv (n : Nat) : Value := .int .i64 (n : Int)
def cellsE (e : TE) : List Value := [nv e.1.1, nv e.1.2]
def ekey (e : El) : Nat := e.1
def PkAt (w : World) (g : Nat) (rest : List Value) (d : List TE) : Prop := Blk w g 150 (d.flatMap cellsE ++ rest).toArray
theorem flat_len (d : List TE) : (d.flatMap cellsE).length = d.length * 2 := by
 induction d with
 | nil => rfl
 | cons a d ih => rw [List.flatMap_cons, List.length_append, ih]; simp [cellsE]; omega
theorem PkAt.c0 {w : World} {g : Nat} {rest : List Value} {X Y : List TE} {u : TE} (h : PkAt w g rest (X ++ u :: Y)) {i : Nat} (hi : i = X.length) : w.cell? ⟨g, i * 2, none⟩ = some (nv u.1.1) := by
 subst hi
 rw [Blk.cell h, List.getElem?_toArray, List.flatMap_append, List.append_assoc, List.getElem?_append_right (by rw [flat_len]; exact Nat.le_refl _), flat_len, Nat.sub_self]
 rfl
theorem PkAt.c1 {w : World} {g : Nat} {rest : List Value} {X Y : List TE} {u : TE} (h : PkAt w g rest (X ++ u :: Y)) {i : Nat} (hi : i = X.length) : w.cell? ⟨g, i * 2 + 1, none⟩ = some (nv u.1.2) := by
 subst hi
 rw [Blk.cell h, List.getElem?_toArray, List.flatMap_append, List.append_assoc, List.getElem?_append_right (by rw [flat_len]; omega), flat_len, show X.length * 2 + 1 - X.length * 2 = 1 by omega]
 rfl
theorem PkAt.mid {w : World} {g : Nat} {rest : List Value} {X Y Z : List TE} {u v : TE} (h : PkAt w g rest (X ++ u :: (Y ++ v :: Z))) : PkAt w g rest ((X ++ u :: Y) ++ v :: Z) := by
 have e : (X ++ u :: Y) ++ v :: Z = X ++ u :: (Y ++ v :: Z) := by simp
 rw [e]; exact h
theorem mid_len (X Y : List TE) (u : TE) {j : Nat} (h : j = X.length + 1 + Y.length) : j = (X ++ u :: Y).length := by rw [h]; simp; omega
theorem set4 (A B C : List Value) (u0 u1 v0 v1 x0 x1 y0 y1 : Value) :
  ((((A ++ u0 :: u1 :: (B ++ v0 :: v1 :: C)).set A.length x0).set (A.length + 1) x1).set (A.length + 2 + B.length) y0).set (A.length + 2 + B.length + 1) y1 = A ++ x0 :: x1 :: (B ++ y0 :: y1 :: C) := by
 have s1 : ∀ (L : List Value) (M : List Value) (n : Nat) (x : Value), (L ++ M).set (L.length + n) x = L ++ M.set n x := by
  intro L M n x
  rw [List.set_append_right _ _ (Nat.le_add_right _ _), Nat.add_sub_cancel_left]
 have h1 := s1 A (u0 :: u1 :: (B ++ v0 :: v1 :: C)) 0 x0
 rw [Nat.add_zero] at h1
 rw [h1, s1 A _ 1 x1, Nat.add_assoc A.length 2 B.length, s1 A _ (2 + B.length) y0, Nat.add_assoc A.length, s1 A _ (2 + B.length + 1) y1]
 congr 1
 have h2 := s1 B (v0 :: v1 :: C) 0 y0
 rw [Nat.add_zero] at h2
 rw [show 2 + B.length + 1 = (B.length + 1) + 1 + 1 by omega, show 2 + B.length = B.length + 1 + 1 by omega]
 show x0 :: x1 :: (((B ++ v0 :: v1 :: C).set B.length y0).set (B.length + 1) y1) = _
 rw [h2, List.set_cons_zero, s1 B _ 1 y1]
 rfl
theorem comm4 (l : List Value) (a b c d : Nat) (x0 x1 y0 y1 : Value) (h1 : a ≠ c) (h2 : a ≠ d) (h3 : b ≠ c) (h4 : b ≠ d) : (((l.set c y0).set d y1).set a x0).set b x1 = (((l.set a x0).set b x1).set c y0).set d y1 := by
 rw [List.set_comm y1 x0 (Ne.symm h2), List.set_comm y0 x0 (Ne.symm h1), List.set_comm y1 x1 (Ne.symm h4), List.set_comm y0 x1 (Ne.symm h3)]
theorem flat2 (X Y Z : List TE) (u v : TE) (rest : List Value) : (X ++ u :: (Y ++ v :: Z)).flatMap cellsE ++ rest = X.flatMap cellsE ++ nv u.1.1 :: (nv u.1.2) :: (Y.flatMap cellsE ++ nv v.1.1 :: (nv v.1.2) :: (Z.flatMap cellsE ++ rest)) := by
 simp [List.flatMap_append, List.flatMap_cons, cellsE]
theorem blk_eq {w : World} {g : Nat} {t : TypeId} {cs ds : Array Value} (h : Blk w g t cs) (e : cs = ds) : Blk w g t ds := e ▸ h
theorem PkAt.swapU {w : World} {g : Nat} {rest : List Value} {X Y Z : List TE} {u v : TE} (h : PkAt w g rest (X ++ u :: (Y ++ v :: Z))) {i j : Nat} (hi : i = X.length) (hj : j = X.length + 1 + Y.length) :
  PkAt ((((w.setCell ⟨g, i * 2, none⟩ (nv v.1.1)).setCell ⟨g, i * 2 + 1, none⟩ (nv v.1.2)).setCell ⟨g, j * 2, none⟩ (nv u.1.1)).setCell ⟨g, j * 2 + 1, none⟩ (nv u.1.2)) g rest (X ++ v :: (Y ++ u :: Z)) := by
 subst hi hj
 have := (((Blk.set_ h (X.length * 2) (nv v.1.1)).set_ (X.length * 2 + 1) (nv v.1.2)).set_ ((X.length + 1 + Y.length) * 2) (nv u.1.1)).set_ ((X.length + 1 + Y.length) * 2 + 1) (nv u.1.2)
 unfold PkAt
 refine blk_eq this ?_
 apply Array.ext'
 simp only [Array.toList_setIfInBounds]
 rw [flat2, flat2]
 have s := set4 (X.flatMap cellsE) (Y.flatMap cellsE) (Z.flatMap cellsE ++ rest) (nv u.1.1) (nv u.1.2) (nv v.1.1) (nv v.1.2) (nv v.1.1) (nv v.1.2) (nv u.1.1) (nv u.1.2)
 rw [flat_len, flat_len] at s
 rw [← s, show (X.length + 1 + Y.length) * 2 = X.length * 2 + 2 + Y.length * 2 by omega]
theorem PkAt.swapD {w : World} {g : Nat} {rest : List Value} {X Y Z : List TE} {u v : TE} (h : PkAt w g rest (X ++ u :: (Y ++ v :: Z))) {i j : Nat} (hi : i = X.length) (hj : j = X.length + 1 + Y.length) :
  PkAt ((((w.setCell ⟨g, j * 2, none⟩ (nv u.1.1)).setCell ⟨g, j * 2 + 1, none⟩ (nv u.1.2)).setCell ⟨g, i * 2, none⟩ (nv v.1.1)).setCell ⟨g, i * 2 + 1, none⟩ (nv v.1.2)) g rest (X ++ v :: (Y ++ u :: Z)) := by
 subst hi hj
 have := (((Blk.set_ h ((X.length + 1 + Y.length) * 2) (nv u.1.1)).set_ ((X.length + 1 + Y.length) * 2 + 1) (nv u.1.2)).set_ (X.length * 2) (nv v.1.1)).set_ (X.length * 2 + 1) (nv v.1.2)
 unfold PkAt
 refine blk_eq this ?_
 apply Array.ext'
 simp only [Array.toList_setIfInBounds]
 rw [flat2, flat2]
 have s := set4 (X.flatMap cellsE) (Y.flatMap cellsE) (Z.flatMap cellsE ++ rest) (nv u.1.1) (nv u.1.2) (nv v.1.1) (nv v.1.2) (nv v.1.1) (nv v.1.2) (nv u.1.1) (nv u.1.2)
 rw [flat_len, flat_len] at s
 rw [← s, show (X.length + 1 + Y.length) * 2 = X.length * 2 + 2 + Y.length * 2 by omega]
 exact comm4 _ _ _ _ _ _ _ _ _ (by omega) (by omega) (by omega) (by omega)
theorem PkAt.pair {w : World} {g : Nat} {rest : List Value} {X Y Z : List TE} {u v : TE} (h : PkAt w g rest (X ++ u :: (Y ++ v :: Z))) {i j : Nat} (hi : i = X.length) (hj : j = X.length + 1 + Y.length) :
  w.cell? ⟨g, i * 2, none⟩ = some (nv u.1.1) ∧ w.cell? ⟨g, i * 2 + 1, none⟩ = some (nv u.1.2) ∧ w.cell? ⟨g, j * 2, none⟩ = some (nv v.1.1) ∧ w.cell? ⟨g, j * 2 + 1, none⟩ = some (nv v.1.2) ∧
  w.frozen? ⟨g, i * 2, none⟩ = false ∧ w.frozen? ⟨g, i * 2 + 1, none⟩ = false ∧ w.frozen? ⟨g, j * 2, none⟩ = false ∧ w.frozen? ⟨g, j * 2 + 1, none⟩ = false :=
 ⟨h.c0 hi, h.c1 hi, h.mid.c0 (mid_len X Y _ hj), h.mid.c1 (mid_len X Y _ hj), Blk.frozen h _, Blk.frozen h _, Blk.frozen h _, Blk.frozen h _⟩
def swW (w : World) (g i j : Nat) (u0 u1 v0 v1 : Value) : World := (((w.setCell ⟨g, i * 2, none⟩ u0).setCell ⟨g, i * 2 + 1, none⟩ u1).setCell ⟨g, j * 2, none⟩ v0).setCell ⟨g, j * 2 + 1, none⟩ v1
theorem grown_set {w w' : World} {g : Nat} (h : w.grownBy w' (some g)) (i : Nat) (u : Value) : w.grownBy (w'.setCell ⟨g, i, none⟩ u) (some g) :=
 ⟨h.os, h.tape, h.output, by simpa [World.setCell] using h.size, fun k hk hne => by rw [Below.heap_setCell _ _ _ _ (by intro e; exact hne (by rw [e]))]; exact h.block k hk hne⟩
theorem grown_drew {w w' : World} {r : Option Nat} (h : w.grownBy w' r) : w.grownBy w'.drew r := ⟨h.os, h.tape, h.output, h.size, h.block⟩
theorem grown_drewN {w w' : World} {r : Option Nat} (h : w.grownBy w' r) (n : Nat) : w.grownBy (w'.drewN n) r := ⟨h.os, h.tape, h.output, h.size, h.block⟩
theorem grown_below {w w' w'' : World} {r : Option Nat} (h : w.grownBy w' r) (hb : Below w'.heap.size w' w'') : w.grownBy w'' r :=
 ⟨hb.os.trans h.os, hb.tape.trans h.tape, hb.output.trans h.output, Nat.le_trans h.size hb.size, fun k hk hne => (hb.block k (Nat.lt_of_lt_of_le hk h.size)).trans (h.block k hk hne)⟩
theorem grown_sw0 {w w' : World} {g : Nat} (h : w.grownBy w' (some g)) (i j : Nat) (u0 u1 v0 v1 : Value) : w.grownBy (swW w' g i j u0 u1 v0 v1) (some g) := grown_set (grown_set (grown_set (grown_set h _ _) _ _) _ _) _ _
theorem grown_sw {w w' : World} {g : Nat} (h : w.grownBy w' (some g)) (i j : Nat) (u0 u1 v0 v1 : Value) : w.grownBy (swW w' g i j u0 u1 v0 v1).drew (some g) := grown_drew (grown_set (grown_set (grown_set (grown_set h _ _) _ _) _ _) _ _)

noncomputable def hdl : Value := typeHandle Tryz.prog 150
def lessV (gv : Nat) : Value := .func (.func 88) #[] #[.pointer (some ⟨gv, 0, none⟩)]
noncomputable def swapV (g N cap : Nat) : Value := .func (.func 123) #[] #[.slice (some ⟨g, 0, none⟩) N cap, hdl]
noncomputable def dataV (g gv N cap : Nat) : Value := .agg #[lessV gv, swapV g N cap]
structure Var (w : World) (g gv N cap : Nat) : Prop where
 var : Blk w gv 148 #[.slice (some ⟨g, 0, none⟩) N cap]
 ne : gv ≠ g
structure Mm (w1 w : World) (bx g gv N cap : Nat) (rest : List Value) (d : List TE) : Prop where
 pk : PkAt w g rest d
 grown : w1.grownBy w (some g)
 box : Blk w bx 177 #[lessV gv, swapV g N cap]
 var : Var w g gv N cap
 bg : bx ≠ g
 len : d.length = N
 few : N ≤ 1000000
theorem Mm.start {w : World} {g gv N cap : Nat} {rest : List Value} {d : List TE} (h : PkAt w g rest d) (hv : Var w g gv N cap) (hn : d.length = N) (hN : N ≤ 1000000) :
  Mm (w.alloc (.cells #[lessV gv, swapV g N cap] 177)) (w.alloc (.cells #[lessV gv, swapV g N cap] 177)) w.heap.size g gv N cap rest d :=
 ⟨Blk.alloc h _, World.grownBy.refl _ _, Blk.new _ _ _, ⟨hv.var.alloc _, hv.ne⟩, by have := Blk.lt h; omega, hn, hN⟩
theorem Mm.more {w1 w w' : World} {bx g gv N cap : Nat} {rest : List Value} {d d' : List TE} (h : Mm w1 w bx g gv N cap rest d) (hg : w.grownBy w' (some g)) (hp : PkAt w' g rest d') (hl : d'.length = d.length) : Mm w1 w' bx g gv N cap rest d' :=
 ⟨hp, h.grown.trans hg, Blk.grown h.box hg (fun e => h.bg (by injection e with e; exact e.symm)), ⟨Blk.grown h.var.var hg (fun e => h.var.ne (by injection e with e; exact e.symm)), h.var.ne⟩, h.bg, hl.trans h.len, h.few⟩
theorem Mm.drewN {w1 w : World} {bx g gv N cap : Nat} {rest : List Value} {d : List TE} (h : Mm w1 w bx g gv N cap rest d) (q : Nat) : Mm w1 (w.drewN q) bx g gv N cap rest d :=
 ⟨h.pk, grown_drewN h.grown q, h.box, ⟨h.var.var, h.var.ne⟩, h.bg, h.len, h.few⟩
theorem Mm.c0 {w1 w : World} {bx g gv N cap : Nat} {rest : List Value} {d : List TE} (h : Mm w1 w bx g gv N cap rest d) : w.cell? ⟨bx, 0, none⟩ = some (lessV gv) := (h.box.cell 0).trans rfl
theorem Mm.c1 {w1 w : World} {bx g gv N cap : Nat} {rest : List Value} {d : List TE} (h : Mm w1 w bx g gv N cap rest d) : w.cell? ⟨bx, 1, none⟩ = some (swapV g N cap) := (h.box.cell 1).trans rfl
theorem Mm.done {w w' : World} {bx g gv N cap : Nat} {rest : List Value} {d : List TE} {o : Obj} (h : Mm (w.alloc o) w' bx g gv N cap rest d) : w.grownBy w' (some g) :=
 (grown_below (World.grownBy.refl w (some g)) ((Below.refl w.heap.size w).alloc (Nat.le_refl _) o)).trans h.grown
set_option maxRecDepth 100000 in
set_option maxHeartbeats 1600000 in
theorem less_cells (g gv N cap i j x y : Nat) (w : World) (hv : w.cell? ⟨gv, 0, none⟩ = some (.slice (some ⟨g, 0, none⟩) N cap)) (hi : w.cell? ⟨g, i * 2, none⟩ = some (.int .i64 (x : Int))) (hj : w.cell? ⟨g, j * 2, none⟩ = some (.int .i64 (y : Int))) (hiN : i < N) (hjN : j < N) (hN : N ≤ 1000000) :
  Calls Tryz.prog 88 #[.int .i64 (i : Int), .int .i64 (j : Int), .pointer (some ⟨gv, 0, none⟩)] w fun e w' => e = .returned (.bool (decide (x < y))) ∧ ∃ q, w' = w.drewN q := by
 have hi0 : (0 : Int) ≤ (i : Int) := by omega
 have hj0 : (0 : Int) ≤ (j : Int) := by omega
 have hi1 : (i : Int) < (N : Int) := by omega
 have hj1 : (j : Int) < (N : Int) := by omega
 have hb : ((x : Int) < (y : Int)) ↔ x < y := by omega
 go_enter Tryz.func88, Tryz.ntmps88
 go_wp2_with fail
 go_quiet (fail)
 go_wp2_with fail
 go_ret
 exact ⟨by simp, _, rfl⟩
theorem Mm.less' {w1 w : World} {bx g gv N cap : Nat} {rest : List Value} {X Y Z : List TE} {u v : TE} (h : Mm w1 w bx g gv N cap rest (X ++ u :: (Y ++ v :: Z))) {i j : Nat} (hi : i = X.length) (hj : j = X.length + 1 + Y.length) :
  Calls Tryz.prog 88 #[.int .i64 (j : Int), .int .i64 (i : Int), .pointer (some ⟨gv, 0, none⟩)] w fun e w' => e = .returned (.bool (decide (v.1.1 < u.1.1))) ∧ Mm w1 w' bx g gv N cap rest (X ++ u :: (Y ++ v :: Z)) := by
 obtain ⟨c0, c1, c2, c3, _⟩ := h.pk.pair hi hj
 have hl := h.len
 simp only [List.length_append, List.length_cons] at hl
 refine (less_cells g gv N cap j i v.1.1 u.1.1 w ((h.var.var.cell 0).trans rfl) c2 c0 (by omega) (by omega) h.few).mono ?_
 rintro e w' ⟨rfl, q, rfl⟩
 exact ⟨rfl, h.drewN q⟩
theorem swap_fn (args : Array Value) (w : World) : (callFunc 123 args).run Tryz.prog w = ((Extern.ReflectliteSwapper.swap false args).run Tryz.prog w).andThen fun v w' => .ok (.value v) w' :=
 run_callFunc_extern Tryz.func123 (by kernel_rfl) (by kernel_rfl) (by kernel_rfl) (by kernel_rfl) args w
theorem info_place : ∃ ie, Tryz.prog.info? 150 = some ie ∧ ie.size = 2 := by
 have h : (Tryz.prog.info? 150).map (·.size) = some 2 := by kernel_rfl
 cases hi : Tryz.prog.info? 150 with
 | none => rw [hi] at h; cases h
 | some ie => rw [hi] at h; exact ⟨ie, rfl, by simpa using h⟩
theorem agg_place (w : World) : (isAgg 150).run Tryz.prog w = .ok true w := by
 simp [isAgg, run_underlying Tryz.underlying150, go_sem]
theorem two_at {w : World} {g o : Nat} {a b : Value} (h0 : w.cell? ⟨g, o, none⟩ = some a) (h1 : w.cell? ⟨g, o + 1, none⟩ = some b) : ∀ k v, [a, b][k]? = some v → w.cell? ⟨g, 0 + o + k, none⟩ = some v := by
 intro k v hk
 rw [Nat.zero_add]
 match k, hk with
 | 0, hk => simp at hk; rw [← hk]; exact h0
 | 1, hk => simp at hk; rw [← hk]; exact h1
theorem two_fr {w : World} {g o : Nat} (h0 : w.frozen? ⟨g, o, none⟩ = false) (h1 : w.frozen? ⟨g, o + 1, none⟩ = false) : ∀ k, k < 2 → w.frozen? ⟨g, 0 + o + k, none⟩ = false := by
 intro k hk
 rw [Nat.zero_add]
 match k, hk with
 | 0, _ => exact h0
 | 1, _ => exact h1
theorem swap_run {w : World} {g N cap : Nat} {rest : List Value} {X Y Z : List TE} {u v : TE} (h : PkAt w g rest (X ++ u :: (Y ++ v :: Z))) {i j : Nat} (hi : i = X.length) (hj : j = X.length + 1 + Y.length) (hN : (X ++ u :: (Y ++ v :: Z)).length = N) :
  (callFunc 123 #[.int .i64 (i : Int), .int .i64 (j : Int), .slice (some ⟨g, 0, none⟩) N cap, hdl]).run Tryz.prog w = .ok (.value (.tuple #[])) (swW w g i j (nv v.1.1) (nv v.1.2) (nv u.1.1) (nv u.1.2)) := by
 obtain ⟨c0, c1, c2, c3, f0, f1, f2, f3⟩ := h.pair hi hj
 obtain ⟨ie, hie, hs⟩ := info_place
 simp only [List.length_append, List.length_cons] at hN
 have := Lib.run_swap_cells (P := Tryz.prog) false 150 ie hie agg_place g 0 N cap i j (by omega) (by omega) (cellsE u) (cellsE v) (by rw [hs]; rfl) (by rw [hs]; rfl) (by simp [cellsE, nv, Value.oneCell']) (by simp [cellsE, nv, Value.oneCell']) w
  (by rw [hs]; exact two_at c0 c1) (by rw [hs]; exact two_at c2 c3) (by rw [hs]; exact two_fr f0 f1) (by rw [hs]; exact two_fr f2 f3)
 rw [swap_fn, show hdl = typeHandle Tryz.prog 150 from rfl, this, hs]
 simp [World.setCells, cellsE, swW]
theorem swap_run' {w : World} {g N cap : Nat} {rest : List Value} {X Y Z : List TE} {u v : TE} (h : PkAt w g rest (X ++ u :: (Y ++ v :: Z))) {i j : Nat} (hi : i = X.length) (hj : j = X.length + 1 + Y.length) (hN : (X ++ u :: (Y ++ v :: Z)).length = N) :
  (callFunc 123 #[.int .i64 (j : Int), .int .i64 (i : Int), .slice (some ⟨g, 0, none⟩) N cap, hdl]).run Tryz.prog w = .ok (.value (.tuple #[])) (swW w g j i (nv u.1.1) (nv u.1.2) (nv v.1.1) (nv v.1.2)) := by
 obtain ⟨c0, c1, c2, c3, f0, f1, f2, f3⟩ := h.pair hi hj
 obtain ⟨ie, hie, hs⟩ := info_place
 simp only [List.length_append, List.length_cons] at hN
 have := Lib.run_swap_cells (P := Tryz.prog) false 150 ie hie agg_place g 0 N cap j i (by omega) (by omega) (cellsE v) (cellsE u) (by rw [hs]; rfl) (by rw [hs]; rfl) (by simp [cellsE, nv, Value.oneCell']) (by simp [cellsE, nv, Value.oneCell']) w
  (by rw [hs]; exact two_at c2 c3) (by rw [hs]; exact two_at c0 c1) (by rw [hs]; exact two_fr f2 f3) (by rw [hs]; exact two_fr f0 f1)
 rw [swap_fn, show hdl = typeHandle Tryz.prog 150 from rfl, this, hs]
 simp [World.setCells, cellsE, swW]
theorem Mm.swap {w1 w : World} {bx g gv N cap : Nat} {rest : List Value} {X Y Z : List TE} {u v : TE} (h : Mm w1 w bx g gv N cap rest (X ++ u :: (Y ++ v :: Z))) {i j : Nat} (hi : i = X.length) (hj : j = X.length + 1 + Y.length) :
  ∃ w', (callFunc 123 #[.int .i64 (i : Int), .int .i64 (j : Int), .slice (some ⟨g, 0, none⟩) N cap, hdl]).run Tryz.prog w = .ok (.value (.tuple #[])) w' ∧ Mm w1 w' bx g gv N cap rest (X ++ v :: (Y ++ u :: Z)) :=
 ⟨_, swap_run h.pk hi hj h.len, h.more (grown_sw0 (World.grownBy.refl _ _) _ _ _ _ _ _) (h.pk.swapU hi hj) (by simp)⟩
theorem Mm.swap' {w1 w : World} {bx g gv N cap : Nat} {rest : List Value} {X Y Z : List TE} {u v : TE} (h : Mm w1 w bx g gv N cap rest (X ++ u :: (Y ++ v :: Z))) {i j : Nat} (hi : i = X.length) (hj : j = X.length + 1 + Y.length) :
  ∃ w', (callFunc 123 #[.int .i64 (j : Int), .int .i64 (i : Int), .slice (some ⟨g, 0, none⟩) N cap, hdl]).run Tryz.prog w = .ok (.value (.tuple #[])) w' ∧ Mm w1 w' bx g gv N cap rest (X ++ v :: (Y ++ u :: Z)) :=
 ⟨_, swap_run' h.pk hi hj h.len, h.more (grown_sw0 (World.grownBy.refl _ _) _ _ _ _ _ _) (h.pk.swapD hi hj) (by simp)⟩
end Go.Proofs.YthpdcnjaodjjmaaGreat.Slc

/- sort.swapRange_func, sort.rotate_func at rows of places. -/
namespace Go.Proofs.YthpdcnjaodjjmaaGreat.Slc
open Go Go.RowKit Go.Proofs.YthpdcnjaodjjmaaGreat
set_option linter.unusedVariables false

def srL (P U M V Q : List TE) (i : Nat) : List TE := P ++ V.take i ++ (U.drop i ++ (M ++ U.take i ++ (V.drop i ++ Q)))
theorem sr_here (P U M V Q : List TE) (i : Nat) (h1 : i < U.length) (h2 : i < V.length) : srL P U M V Q i = (P ++ V.take i) ++ U[i] :: ((U.drop (i + 1) ++ (M ++ U.take i)) ++ V[i] :: (V.drop (i + 1) ++ Q)) := by
 unfold srL
 rw [List.drop_eq_getElem_cons h1, List.drop_eq_getElem_cons h2]
 simp only [List.append_assoc, List.cons_append]
theorem sr_next (P U M V Q : List TE) (i : Nat) (h1 : i < U.length) (h2 : i < V.length) : srL P U M V Q (i + 1) = (P ++ V.take i) ++ V[i] :: ((U.drop (i + 1) ++ (M ++ U.take i)) ++ U[i] :: (V.drop (i + 1) ++ Q)) := by
 unfold srL
 rw [List.take_succ_eq_append_getElem h1, List.take_succ_eq_append_getElem h2]
 simp only [List.append_assoc, List.cons_append, List.nil_append]
set_option maxRecDepth 100000 in
set_option maxHeartbeats 4000000 in
theorem swapRange_any (g gv N cap a b k : Nat) (rest : List Value) (P U M V Q : List TE) (w : World) (h : PkAt w g rest (P ++ U ++ (M ++ (V ++ Q)))) (hv : Var w g gv N cap) (hU : U.length = k) (hV : V.length = k) (ha : P.length = a) (hb : P.length + U.length + M.length = b)
  (hN : (P ++ U ++ (M ++ (V ++ Q))).length = N) (hN2 : N ≤ 1000000) :
  Calls Tryz.prog 132 #[dataV g gv N cap, .int .i64 (a : Int), .int .i64 (b : Int), .int .i64 (k : Int)] w fun e w' => e = .returned (.tuple #[]) ∧ PkAt w' g rest (P ++ V ++ (M ++ (U ++ Q))) ∧ w.grownBy w' (some g) := by
 have hN3 : P.length + U.length + M.length + V.length + Q.length = N := by rw [← hN]; simp; omega
 have h0 : srL P U M V Q 0 = P ++ U ++ (M ++ (V ++ Q)) := by simp [srL]
 have h1 : srL P U M V Q k = P ++ V ++ (M ++ (U ++ Q)) := by unfold srL; rw [List.take_of_length_le (by omega), List.take_of_length_le (by omega), List.drop_of_length_le (by omega), List.drop_of_length_le (by omega)]; simp
 have H := Lib.hid (Mm.start h hv hN hN2)
 rw [← h0] at H
 have H1 := Lib.hid h1
 have HU := Lib.hid hU
 have HV := Lib.hid hV
 have HP := Lib.hid ha
 have HB := Lib.hid hb
 have hbk : b + k ≤ N := by omega
 have hak : a + k ≤ b := by omega
 clear h h0 h1 hN hN3 hU hV ha hb hv
 unfold dataV
 go_enter Tryz.func132, Tryz.ntmps132
 go_wp2_with fail
 generalize hw1 : w.alloc (.cells #[lessV gv, swapV g N cap] 177) = w1 at *
 generalize hbx : w.heap.size = bx at *
 have Hw1 := Lib.hid hw1
 clear hw1 hbx
 go_loopw [8] (fun i wr => ∃ j : Nat, j ≤ k ∧ i = .int .i64 (j : Int) ∧ Mm w1 wr bx g gv N cap rest (srL P U M V Q j)) (fun i _ => k - (intOf i).toNat)
 case atStart => exact ⟨0, Nat.zero_le _, rfl, H.out⟩
 case round =>
  obtain ⟨j, hj, rfl, hm⟩ := hrel
  by_cases hlt : j < k
  ·have e1 : j < U.length := by rw [HU.out]; exact hlt
   have e2 : j < V.length := by rw [HV.out]; exact hlt
   rw [sr_here P U M V Q j e1 e2] at hm
   have hX : a + j = (P ++ V.take j).length := by rw [List.length_append, List.length_take, HP.out, HV.out]; omega
   have hY : b + j = (P ++ V.take j).length + 1 + (U.drop (j + 1) ++ (M ++ U.take j)).length := by
    have := HU.out; have := HV.out; have := HP.out; have := HB.out
    simp; omega
   obtain ⟨w9, hsw, hm9⟩ := hm.swap hX hY
   rw [← sr_next P U M V Q j e1 e2] at hm9
   have c1 := hm.c1
   have HM9 := Lib.hid hm9
   have q1 : ((a + j : Nat) : Int) = (a : Int) + (j : Int) := by omega
   have q2 : ((b + j : Nat) : Int) = (b : Int) + (j : Int) := by omega
   rw [q1, q2] at hsw
   unfold swapV at c1
   clear hm hm9 hX hY e1 e2 q1 q2
   go_wp2_with fail
   go_roundw
   case rel => exact ⟨j + 1, by omega, by go_num, HM9.out⟩
   case measure => simp [intOf]; omega
  ·obtain rfl : j = k := by omega
   have HM := Lib.hid hm
   clear hm
   go_wp2_with fail
   go_end0
   exact ⟨rfl, by rw [← H1.out]; exact HM.out.pk, (Hw1.out ▸ HM.out : Mm (w.alloc _) _ _ _ _ _ _ _ _).done⟩
def rtL (P A U V B Q : List TE) : List TE := (P ++ A) ++ U ++ ([] ++ (V ++ (B ++ Q)))
set_option maxRecDepth 100000 in
set_option maxHeartbeats 4000000 in
theorem rotate_any (g gv N cap a m b : Nat) (rest : List Value) (P X Y Q : List TE) (w : World) (h : PkAt w g rest (P ++ X ++ (Y ++ Q))) (hv : Var w g gv N cap) (ha : P.length = a) (hm : a + X.length = m) (hb : m + Y.length = b) (hX : 1 ≤ X.length) (hY : 1 ≤ Y.length)
  (hN : (P ++ X ++ (Y ++ Q)).length = N) (hN2 : N ≤ 1000000) :
  Calls Tryz.prog 129 #[dataV g gv N cap, .int .i64 (a : Int), .int .i64 (m : Int), .int .i64 (b : Int)] w fun e w' => e = .returned (.tuple #[]) ∧ PkAt w' g rest (P ++ Y ++ (X ++ Q)) ∧ w.grownBy w' (some g) := by
 have hN3 : P.length + X.length + Y.length + Q.length = N := by rw [← hN]; simp; omega
 have HN3 := Lib.hid hN3
 have H := Lib.hid (Mm.start h hv hN hN2)
 have HP := Lib.hid ha
 have ei : (m : Int) - (a : Int) = ((X.length : Nat) : Int) := by omega
 have ej : (b : Int) - (m : Int) = ((Y.length : Nat) : Int) := by omega
 have hmb : m ≤ b := by omega
 have hbN : b ≤ N := by omega
 have ham : a ≤ m := by omega
 have Hx := Lib.hid hX
 have Hy := Lib.hid hY
 have Hm := Lib.hid hm
 have Hb := Lib.hid hb
 clear h hN hN3 ha hX hY hm hb hv
 generalize hxl : X.length = xl at *
 generalize hyl : Y.length = yl at *
 have Hxl := Lib.hid hxl
 have Hyl := Lib.hid hyl
 clear hxl hyl
 unfold dataV
 go_enter Tryz.func129, Tryz.ntmps129
 go_wp2_with fail
 generalize hw1 : w.alloc (.cells #[lessV gv, swapV g N cap] 177) = w1 at *
 generalize hbx : w.heap.size = bx at *
 have Hw1 := Lib.hid hw1
 clear hw1 hbx
 go_loopw [8, 9] (fun i j wr => ∃ A U V B : List TE, i = .int .i64 (U.length : Int) ∧ j = .int .i64 (V.length : Int) ∧ 1 ≤ U.length ∧ 1 ≤ V.length ∧ (P ++ A).length + U.length = m ∧ m + V.length ≤ b ∧ (rtL P A U V B Q).length = N ∧ Y ++ X = A ++ (V ++ U) ++ B ∧ Mm w1 wr bx g gv N cap rest (rtL P A U V B Q)) (fun i j _ => (intOf i).toNat + (intOf j).toNat)
 case atStart =>
  refine ⟨[], X, Y, [], by rw [Hxl.out], by rw [Hyl.out], by rw [Hxl.out]; exact Hx.out, by rw [Hyl.out]; exact Hy.out, ?_, ?_, ?_, by simp, ?_⟩
  ·rw [List.append_nil, HP.out, Hxl.out]; exact Hm.out
  ·rw [Hyl.out]; exact Nat.le_of_eq Hb.out
  ·have := HN3.out; have := Hxl.out; have := Hyl.out; simp [rtL]; omega
  ·simpa [rtL] using H.out
 case round =>
  obtain ⟨A, U, V, B, rfl, rfl, hu, hv, hA, hV, hL, htgt, hpk⟩ := hrel
  have c0 := hpk.c0
  have c1 := hpk.c1
  have Hpk := Lib.hid hpk
  have Htgt := Lib.hid htgt
  have HL := Lib.hid hL
  have HA := Lib.hid hA
  clear hpk htgt hL
  obtain ⟨i, hi⟩ : ∃ i, U.length = i := ⟨_, rfl⟩
  obtain ⟨j, hj⟩ : ∃ j, V.length = j := ⟨_, rfl⟩
  obtain ⟨p, hp⟩ : ∃ p, (P ++ A).length = p := ⟨_, rfl⟩
  have Hi := Lib.hid hi
  have Hj := Lib.hid hj
  have Hp := Lib.hid hp
  rw [hi, hp] at hA
  rw [hi] at hu ⊢
  rw [hj] at hv hV ⊢
  clear hi hj hp
  have e1 : (m : Int) - (i : Int) = (p : Int) := by omega
  by_cases hij : i = j
  ·have hne : ((i : Int) != (j : Int)) = false := by simp; omega
   have hc := swapRange_any g gv N cap p m i rest (P ++ A) U [] V (B ++ Q) wr Hpk.out.pk Hpk.out.var Hi.out (by rw [Hj.out]; exact hij.symm) Hp.out (by rw [Hp.out, Hi.out]; simpa using hA) HL.out hN2
   unfold dataV at hc
   have Hc := Lib.hid hc
   have Hfin : Hid ((P ++ A) ++ V ++ ([] ++ (U ++ (B ++ Q))) = P ++ Y ++ (X ++ Q)) := Lib.hid (by
    have := Htgt.out
    have h2 : P ++ (Y ++ X) ++ Q = P ++ (A ++ (V ++ U) ++ B) ++ Q := by rw [this]
    simp only [List.append_assoc, List.nil_append] at h2 ⊢
    exact h2.symm)
   clear hc hij
   go_wp2_with fail
   refine (Hc.out).mono ?_
   rintro e w2 ⟨rfl, hp2, hg2⟩
   rw [Hfin.out] at hp2
   have Hp2 := Lib.hid hp2
   have Hg2 := Lib.hid hg2
   clear hp2 hg2
   go_wp2_with fail
   go_end0
   exact ⟨rfl, Hp2.out, (Hw1.out ▸ (Hpk.out.more Hg2.out Hp2.out (by have a7 := HL.out; have h9 := congrArg List.length Hfin.out; unfold rtL; simp only [List.length_append, List.length_nil] at h9 ⊢; omega)) : Mm (w.alloc _) _ _ _ _ _ _ _ _).done⟩
  ·have hne : ((i : Int) != (j : Int)) = true := by simp; omega
   by_cases hlt : j < i
   ·have hU : U = U.take j ++ U.drop j := (List.take_append_drop _ _).symm
    have hc := swapRange_any g gv N cap p m j rest (P ++ A) (U.take j) (U.drop j) V (B ++ Q) wr (by have := Hpk.out.pk; unfold rtL at this; rw [hU] at this; simpa only [List.append_assoc, List.nil_append] using this) Hpk.out.var (by rw [List.length_take, Hi.out]; omega) Hj.out Hp.out
     (by rw [Hp.out, List.length_take, List.length_drop, Hi.out]; omega) (by have := HL.out; unfold rtL at this; rw [hU] at this; simpa only [List.append_assoc, List.nil_append] using this) hN2
    unfold dataV at hc
    have Hc := Lib.hid hc
    have e3 : (i : Int) - (j : Int) = (((U.drop j).length : Nat) : Int) := by rw [List.length_drop, Hi.out]; omega
    have Hd : Hid ((U.drop j).length = i - j) := Lib.hid (by rw [List.length_drop, Hi.out])
    have Ht : Hid ((U.take j).length = j) := Lib.hid (by rw [List.length_take, Hi.out]; omega)
    have Htg2 : Hid (Y ++ X = (A ++ V) ++ (U.take j ++ U.drop j) ++ B) := Lib.hid (by rw [Htgt.out, List.take_append_drop]; simp only [List.append_assoc])
    have hjI : (j : Int) < (i : Int) := by omega
    clear hc hij hU
    generalize U.drop j = U2 at *
    generalize U.take j = U1 at *
    generalize hd : U2.length = dd at *
    have Hdl := Lib.hid hd
    clear hd
    go_wp2_with fail
    refine (Hc.out).mono ?_
    rintro e w2 ⟨rfl, hp2, hg2⟩
    have Hp2 : Hid (Mm w1 w2 bx g gv N cap rest (rtL P (A ++ V) U2 U1 B Q)) := Lib.hid (Hpk.out.more hg2 (by unfold rtL; simpa only [List.append_assoc, List.nil_append] using hp2) (by have a1 := Hd.out; have a2 := Ht.out; (try have a3 := Hdl.out); have a7 := HL.out; have a8 := Hi.out; have a9 := Hj.out; unfold rtL at a7 ⊢; simp only [List.length_append, List.length_nil] at a7 ⊢; omega))
    clear hp2 hg2
    go_wp2_with fail
    go_roundw
    case rel =>
     have a1 := Hd.out; have a2 := Ht.out; have a3 := Hdl.out; have a4 := Hj.out; have a5 := Hi.out; have a6 := Hp.out; have a7 := HL.out
     refine ⟨A ++ V, U2, U1, B, by rw [a3], by rw [a2], by omega, by omega, ?_, by omega, ?_, Htg2.out, Hp2.out⟩
     ·simp only [List.length_append] at a6 ⊢; omega
     ·unfold rtL at a7 ⊢; simp only [List.length_append, List.length_nil] at a7 a6 ⊢; omega
    case measure =>
     have a1 := Hd.out
     simp [intOf]; omega
   ·have hV' : V = V.take (j - i) ++ V.drop (j - i) := (List.take_append_drop _ _).symm
    have hc := swapRange_any g gv N cap p (m + (j - i)) i rest (P ++ A) U (V.take (j - i)) (V.drop (j - i)) (B ++ Q) wr (by have := Hpk.out.pk; unfold rtL at this; rw [hV'] at this; simpa only [List.append_assoc, List.nil_append] using this) Hpk.out.var Hi.out (by rw [List.length_drop, Hj.out]; omega) Hp.out
     (by rw [Hp.out, List.length_take, Hi.out, Hj.out]; omega) (by have := HL.out; unfold rtL at this; rw [hV'] at this; simpa only [List.append_assoc, List.nil_append] using this) hN2
    unfold dataV at hc
    have Hc := Lib.hid hc
    have Hd : Hid ((V.drop (j - i)).length = i) := Lib.hid (by rw [List.length_drop, Hj.out]; omega)
    have Ht : Hid ((V.take (j - i)).length = j - i) := Lib.hid (by rw [List.length_take, Hj.out]; omega)
    have Htg2 : Hid (Y ++ X = A ++ (V.take (j - i) ++ V.drop (j - i)) ++ (U ++ B)) := Lib.hid (by rw [Htgt.out, List.take_append_drop]; simp only [List.append_assoc])
    have hjI : ¬ ((j : Int) < (i : Int)) := by omega
    obtain ⟨q, hq⟩ : ∃ q, m + (j - i) = q := ⟨_, rfl⟩
    have e2 : (m : Int) + (j : Int) - (i : Int) = (q : Int) := by omega
    obtain ⟨r, hr⟩ : ∃ r, j - i = r := ⟨_, rfl⟩
    have e3 : (j : Int) - (i : Int) = (r : Int) := by omega
    rw [hq] at Hc
    rw [hr] at Ht Hd Htg2 Hc
    have hrij : r + i = j := by omega
    have hr1 : 1 ≤ r := by omega
    clear hc hij hV' hq hr
    generalize V.drop r = V2 at *
    generalize V.take r = V1 at *
    go_wp2_with fail
    refine (Hc.out).mono ?_
    rintro e w2 ⟨rfl, hp2, hg2⟩
    have Hp2 : Hid (Mm w1 w2 bx g gv N cap rest (rtL P A V2 V1 (U ++ B) Q)) := Lib.hid (Hpk.out.more hg2 (by unfold rtL; simpa only [List.append_assoc, List.nil_append] using hp2) (by have a1 := Hd.out; have a2 := Ht.out; (try have a3 := Hdl.out); have a7 := HL.out; have a8 := Hi.out; have a9 := Hj.out; unfold rtL at a7 ⊢; simp only [List.length_append, List.length_nil] at a7 ⊢; omega))
    clear hp2 hg2
    go_wp2_with fail
    go_roundw
    case rel =>
     have a1 := Hd.out; have a2 := Ht.out; have a4 := Hj.out; have a5 := Hi.out; have a6 := Hp.out; have a7 := HL.out
     refine ⟨A, V2, V1, U ++ B, by rw [a1], by rw [a2], by omega, by omega, by rw [a6, a1]; omega, by omega, ?_, Htg2.out, Hp2.out⟩
     unfold rtL at a7 ⊢; simp only [List.length_append, List.length_nil] at a7 a6 ⊢; omega
    case measure => simp [intOf]; omega
end Go.Proofs.YthpdcnjaodjjmaaGreat.Slc

/- sort.insertionSort_func at rows of places. -/
namespace Go.Proofs.YthpdcnjaodjjmaaGreat.Slc
open Go Go.RowKit Go.Proofs.YthpdcnjaodjjmaaGreat Go.Proofs.YthpdcnjaodjjmaaGreat.SP
set_option linter.unusedVariables false

def isL (P S' : List TE) (x : TE) (R : List TE) (u : Nat) : List TE := (P ++ S'.take u) ++ x :: (S'.drop u ++ R)
theorem is_pre (P S' : List TE) (x : TE) (R : List TE) (u : Nat) (h : u < S'.length) : isL P S' x R (u + 1) = (P ++ S'.take u) ++ S'[u] :: ([] ++ x :: (S'.drop (u + 1) ++ R)) := by
 unfold isL
 rw [List.take_succ_eq_append_getElem h]
 simp only [List.append_assoc, List.cons_append, List.nil_append]
theorem is_post (P S' : List TE) (x : TE) (R : List TE) (u : Nat) (h : u < S'.length) : isL P S' x R u = (P ++ S'.take u) ++ x :: ([] ++ S'[u] :: (S'.drop (u + 1) ++ R)) := by
 unfold isL
 rw [List.drop_eq_getElem_cons h]
 simp only [List.append_assoc, List.cons_append, List.nil_append]
theorem ins_sorted (S' : List TE) (x : TE) (u : Nat) (hu : u ≤ S'.length) (hs : S'.Pairwise (lexP ekey)) (ht : ∀ y ∈ S', y.2 < x.2) (h1 : u = 0 ∨ ∃ h : u - 1 < S'.length, S'[u - 1].1.1 ≤ x.1.1) (h2 : u = S'.length ∨ ∃ h : u < S'.length, x.1.1 < S'[u].1.1) :
  (S'.take u ++ x :: S'.drop u).Pairwise (lexP ekey) := by
 refine put_sorted ekey x S' u hu hs ?_ ?_
 ·rcases h1 with h | ⟨h, k⟩
  ·exact .inl h
  ·refine .inr ⟨h, ?_⟩
   have := ht _ (List.getElem_mem h)
   unfold lexP ekey; omega
 ·rcases h2 with h | ⟨h, k⟩
  ·exact .inl h
  ·exact .inr ⟨h, .inl k⟩
theorem ins_perm (S' T : List TE) (x : TE) (u : Nat) (h : S'.Perm T) : (S'.take u ++ x :: S'.drop u).Perm (T ++ [x]) :=
 (put_perm x S' u).trans ((h.cons x).trans (List.perm_append_singleton x T).symm)
set_option maxRecDepth 100000 in
set_option maxHeartbeats 4000000 in
theorem insertion_any (g gv N cap a b : Nat) (rest : List Value) (P S Q : List TE) (w : World) (h : PkAt w g rest (P ++ S ++ Q)) (hv : Var w g gv N cap) (ha : P.length = a) (hb : a + S.length = b) (hr : Rise S) (hN : (P ++ S ++ Q).length = N) (hN2 : N ≤ 1000000) :
  Calls Tryz.prog 124 #[dataV g gv N cap, .int .i64 (a : Int), .int .i64 (b : Int)] w fun e w' => e = .returned (.tuple #[]) ∧ (∃ S', PkAt w' g rest (P ++ S' ++ Q) ∧ S'.Perm S ∧ S'.Pairwise (lexP ekey)) ∧ w.grownBy w' (some g) := by
 have hN3 : P.length + S.length + Q.length = N := by rw [← hN]; simp; omega
 have H := Lib.hid (Mm.start h hv hN hN2)
 have HP := Lib.hid ha
 have HR := Lib.hid hr
 have HS := Lib.hid hb
 have hbN : b ≤ N := by omega
 have hab : a ≤ b := by omega
 clear h hN hN3 ha hr hb hv
 unfold dataV
 go_enter Tryz.func124, Tryz.ntmps124
 go_wp2_with fail
 generalize hw1 : w.alloc (.cells #[lessV gv, swapV g N cap] 177) = w1 at *
 generalize hbx : w.heap.size = bx at *
 have Hw1 := Lib.hid hw1
 clear hw1 hbx
 go_loopw [6] (fun i wr => ∃ (t ti : Nat) (S' : List TE), a + t = ti ∧ i = .int .i64 (ti : Int) ∧ 1 ≤ t ∧ (t ≤ S.length ∨ t = 1) ∧ S'.Perm (S.take t) ∧ S'.Pairwise (lexP ekey) ∧ Mm w1 wr bx g gv N cap rest (P ++ S' ++ (S.drop t ++ Q))) (fun i _ => b - (intOf i).toNat)
 case atStart =>
  refine ⟨1, a + 1, S.take 1, rfl, by go_num, Nat.le_refl _, .inr rfl, List.Perm.refl _, ?_, ?_⟩
  ·rcases S with _ | ⟨x, S⟩
   ·exact List.Pairwise.nil
   ·exact List.pairwise_singleton _ _
  ·have := H.out
   rw [List.append_assoc, ← List.append_assoc (S.take 1), List.take_append_drop, ← List.append_assoc]; exact this
 case round =>
  obtain ⟨t, ti, S', hti, rfl, ht1, htS, hperm, hsort, hpk⟩ := hrel
  have Hpk := Lib.hid hpk
  have Hperm := Lib.hid hperm
  have Hsort := Lib.hid hsort
  have Hti := Lib.hid hti
  clear hpk hperm hsort
  by_cases hlt : ti < b
  ·have htl : t < S.length := by have := HS.out; omega
   have HSl : Hid (S'.length = t) := Lib.hid (by rw [Hperm.out.length_eq, List.length_take]; omega)
   have Htag : Hid (∀ y ∈ S', y.2 < S[t].2) := Lib.hid (fun y hy => by
    have h1 := Hperm.out.mem_iff.1 hy
    obtain ⟨i, hi, rfl⟩ := List.mem_iff_getElem.1 h1
    rw [List.length_take] at hi
    rw [List.getElem_take]
    exact List.pairwise_iff_getElem.1 HR.out i t (by omega) htl (by omega))
   have Hst : Hid (P ++ S' ++ (S.drop t ++ Q) = isL P S' S[t] (S.drop (t + 1) ++ Q) t) := Lib.hid (by
    unfold isL
    rw [List.drop_eq_getElem_cons htl, List.take_of_length_le (Nat.le_of_eq HSl.out), List.drop_of_length_le (Nat.le_of_eq HSl.out)]
    simp only [List.append_assoc, List.cons_append, List.nil_append])
   have Htk : Hid (S.take (t + 1) = S.take t ++ [S[t]]) := Lib.hid (List.take_succ_eq_append_getElem htl)
   rw [Hst.out] at Hpk
   generalize S[t] = x at *
   clear Hst
   go_wp2_with fail
   go_loopw [7] (fun j wr => ∃ (u uj : Nat), a + u = uj ∧ j = .int .i64 (uj : Int) ∧ u ≤ t ∧ (u = S'.length ∨ ∃ h : u < S'.length, x.1.1 < S'[u].1.1) ∧ Mm w1 wr bx g gv N cap rest (isL P S' x (S.drop (t + 1) ++ Q) u)) (fun j _ => (intOf j).toNat)
   case atStart => exact ⟨t, ti, Hti.out, rfl, Nat.le_refl _, .inl HSl.out.symm, Hpk.out⟩
   case round =>
    obtain ⟨u, uj, huj, rfl, hut, hux, hpk⟩ := hrel
    have Hux := Lib.hid hux
    have c0 := hpk.c0
    have c1 := hpk.c1
    unfold lessV at c0
    unfold swapV at c1
    clear hux
    rcases u with _ | u
    ·have d0 : decide (a < uj) = false := by simp; omega
     have d1 : ¬ (a : Int) < (uj : Int) := by omega
     have Hpk2 := Lib.hid hpk
     have Huj := Lib.hid huj
     clear hpk huj
     have hpr : Hid (uj ≤ ti) := Lib.hid (by have := Huj.out; have := Hti.out; omega)
     go_wp2_with fail
     go_roundw
     case rel =>
      have a0 := HSl.out
      have hu0 : (0 : Nat) ≤ S'.length := Nat.zero_le _
      have hso := ins_sorted S' x 0 hu0 Hsort.out Htag.out (.inl rfl) Hux.out
      have hpe := ins_perm S' _ x 0 Hperm.out
      rw [← Htk.out] at hpe
      exact ⟨t + 1, ti + 1, _, by omega, by go_num, by omega, .inl (by omega), hpe, hso, by have := Hpk2.out; unfold isL at this; simpa only [List.append_assoc, List.cons_append] using this⟩
     case measure => simp [intOf]; omega
    ·obtain ⟨jm, hjm⟩ : ∃ jm, a + u = jm := ⟨_, rfl⟩
     have hju : uj = jm + 1 := by omega
     have hul : u < S'.length := by rw [HSl.out]; omega
     rw [is_pre P S' x _ u hul] at hpk
     have hX : jm = (P ++ S'.take u).length := by rw [List.length_append, List.length_take, HP.out, HSl.out]; omega
     have hY : uj = (P ++ S'.take u).length + 1 + ([] : List TE).length := by rw [← hX, hju]; rfl
     have e1 : (uj : Int) - 1 = (jm : Int) := by omega
     have hw : IntKind.i64.wrap (jm : Int) = (jm : Int) := IntWalk.i64_in _ (by omega)
     have hpr : Hid (uj ≤ ti ∧ jm + 1 = uj ∧ a ≤ jm) := Lib.hid (by omega)
     have ha2 : (a : Int) < (uj : Int) := by omega
     have hpost := is_post P S' x (S.drop (t + 1) ++ Q) u hul
     have Hpk3 := Lib.hid hpk
     obtain ⟨y, hy⟩ : ∃ y, S'[u] = y := ⟨_, rfl⟩
     rw [hy] at hpost Hpk3
     have Hy : Hid (∀ h : u < S'.length, S'[u] = y) := Lib.hid (fun _ => hy)
     have Hpost := Lib.hid hpost
     have HX := Lib.hid hX
     have HY := Lib.hid hY
     have Huj : Hid (a + (u + 1) = uj ∧ a + u = jm) := Lib.hid ⟨huj, hjm⟩
     have HL := Lib.hid (Hpk3.out.less' HX.out HY.out)
     clear hy hpost hpk hX hY huj hjm hju
     by_cases hc : x.1.1 < y.1.1
     ·have hb1 : decide (x.1.1 < y.1.1) = true := by simp [hc]
      rw [hb1] at HL
      clear hb1
      go_wp2_with fail
      refine (HL.out).mono ?_
      rintro e w3 ⟨rfl, hm3⟩
      have c1 := hm3.c1
      unfold swapV at c1
      obtain ⟨w9, hsw, hm9⟩ := hm3.swap' HX.out HY.out
      rw [← Hpost.out] at hm9
      have HM9 := Lib.hid hm9
      clear hm3 hm9 c0
      go_wp2_with fail
      go_roundw
      case rel => exact ⟨u, jm, Huj.out.2, rfl, by omega, .inr ⟨hul, by rw [Hy.out]; exact hc⟩, HM9.out⟩
      case measure => simp [intOf]; omega
     ·have hb1 : decide (x.1.1 < y.1.1) = false := by simp; omega
      rw [hb1] at HL
      have Hold : Hid (∀ W, Mm w1 W bx g gv N cap rest (P ++ S'.take u ++ y :: ([] ++ x :: (S'.drop (u + 1) ++ (S.drop (t + 1) ++ Q)))) → Mm w1 W bx g gv N cap rest (isL P S' x (S.drop (t + 1) ++ Q) (u + 1))) := Lib.hid (fun W hW => by rw [is_pre P S' _ _ u hul, Hy.out]; exact hW)
      clear hb1
      go_wp2_with fail
      refine (HL.out).mono ?_
      rintro e w3 ⟨rfl, hm3⟩
      have HM3 := Lib.hid (Hold.out _ hm3)
      clear hm3 Hold
      go_wp2_with fail
      go_roundw
      case rel =>
       have a0 := HSl.out
       have hu0 : u + 1 ≤ S'.length := hul
       have hso := ins_sorted S' x (u + 1) hu0 Hsort.out Htag.out (.inr ⟨hul, by rw [show S'[u + 1 - 1] = S'[u] from rfl, Hy.out]; omega⟩) Hux.out
       have hpe := ins_perm S' _ x (u + 1) Hperm.out
       rw [← Htk.out] at hpe
       exact ⟨t + 1, ti + 1, _, by omega, by go_num, by omega, .inl (by omega), hpe, hso, by have := HM3.out; unfold isL at this; simpa only [List.append_assoc, List.cons_append] using this⟩
      case measure => simp [intOf]; omega
  ·have hall : S.length ≤ t := by have := HS.out; omega
   have Hp1 : Hid (S'.Perm S) := Lib.hid (by have := Hperm.out; rwa [List.take_of_length_le hall] at this)
   have Hpk1 : Hid (Mm w1 wr bx g gv N cap rest (P ++ S' ++ Q)) := Lib.hid (by have := Hpk.out; rwa [List.drop_of_length_le hall, List.nil_append] at this)
   go_wp2_with fail
   go_end0
   exact ⟨rfl, ⟨S', Hpk1.out.pk, Hp1.out, Hsort.out⟩, (Hw1.out ▸ Hpk1.out : Mm (w.alloc _) _ _ _ _ _ _ _ _).done⟩
end Go.Proofs.YthpdcnjaodjjmaaGreat.Slc

/- sort.symMerge_func at rows of places: one ahead; one behind. -/
namespace Go.Proofs.YthpdcnjaodjjmaaGreat.Slc
open Go Go.RowKit Go.Proofs.YthpdcnjaodjjmaaGreat Go.Proofs.YthpdcnjaodjjmaaGreat.SP
set_option linter.unusedVariables false

theorem put_up (x : TE) (R : List TE) (t : Nat) (ht : t ≤ R.length) (hs : R.Pairwise (lexP ekey)) (htag : ∀ y ∈ R, x.2 < y.2) (h1 : t = 0 ∨ ∃ h : t - 1 < R.length, R[t - 1].1.1 < x.1.1) (h2 : t = R.length ∨ ∃ h : t < R.length, x.1.1 ≤ R[t].1.1) :
  (R.take t ++ x :: R.drop t).Pairwise (lexP ekey) := by
 refine put_sorted ekey x R t ht hs ?_ ?_
 ·rcases h1 with h | ⟨h, k⟩
  ·exact .inl h
  ·exact .inr ⟨h, .inl k⟩
 ·rcases h2 with h | ⟨h, k⟩
  ·exact .inl h
  ·refine .inr ⟨h, ?_⟩
   have := htag _ (List.getElem_mem h)
   unfold lexP ekey; omega
theorem up_at (P R Q : List TE) (x : TE) (k : Nat) (h : k < R.length) : P ++ [x] ++ (R ++ Q) = P ++ x :: (R.take k ++ R[k] :: (R.drop (k + 1) ++ Q)) := by
 have : R = R.take k ++ R[k] :: R.drop (k + 1) := by rw [← List.drop_eq_getElem_cons h, List.take_append_drop]
 conv => lhs; rw [this]
 simp only [List.append_assoc, List.cons_append, List.nil_append]
def upL (P R Q : List TE) (x : TE) (s : Nat) : List TE := (P ++ R.take s) ++ x :: (R.drop s ++ Q)
theorem up_pre (P R Q : List TE) (x : TE) (s : Nat) (h : s < R.length) : upL P R Q x s = (P ++ R.take s) ++ x :: ([] ++ R[s] :: (R.drop (s + 1) ++ Q)) := by
 unfold upL
 rw [List.drop_eq_getElem_cons h]
 simp only [List.cons_append, List.nil_append]
theorem up_post (P R Q : List TE) (x : TE) (s : Nat) (h : s < R.length) : upL P R Q x (s + 1) = (P ++ R.take s) ++ R[s] :: ([] ++ x :: (R.drop (s + 1) ++ Q)) := by
 unfold upL
 rw [List.take_succ_eq_append_getElem h]
 simp only [List.append_assoc, List.cons_append, List.nil_append]
set_option maxRecDepth 100000 in
set_option maxHeartbeats 8000000 in
theorem sym_up (g gv N cap a m b : Nat) (rest : List Value) (P R Q : List TE) (x : TE) (w : World) (h : PkAt w g rest (P ++ [x] ++ (R ++ Q))) (hv : Var w g gv N cap) (ha : P.length = a) (hm : a + 1 = m) (hb : m + R.length = b) (hR : 1 ≤ R.length)
  (hs : R.Pairwise (lexP ekey)) (htag : ∀ y ∈ R, x.2 < y.2) (hN : (P ++ [x] ++ (R ++ Q)).length = N) (hN2 : N ≤ 1000000) :
  Calls Tryz.prog 125 #[dataV g gv N cap, .int .i64 (a : Int), .int .i64 (m : Int), .int .i64 (b : Int)] w fun e w' => e = .returned (.tuple #[]) ∧ (∃ S', PkAt w' g rest (P ++ S' ++ Q) ∧ S'.Perm ([x] ++ R) ∧ S'.Pairwise (lexP ekey)) ∧ w.grownBy w' (some g) := by
 have hN3 : P.length + 1 + R.length + Q.length = N := by rw [← hN]; simp; omega
 have H := Lib.hid (Mm.start h hv hN hN2)
 have HP := Lib.hid ha
 have Hs := Lib.hid hs
 have Htag := Lib.hid htag
 have Hb := Lib.hid hb
 have hbN : b ≤ N := by omega
 have hmb : m < b := by omega
 have ham : a < m := by omega
 have e1 : (m : Int) - (a : Int) = 1 := by omega
 have Hm := Lib.hid hm
 clear h hN hN3 ha hs htag hb hm hR hv
 unfold dataV
 go_enter Tryz.func125, Tryz.ntmps125
 go_wp2_with fail
 generalize hw1 : w.alloc (.cells #[lessV gv, swapV g N cap] 177) = w1 at *
 generalize hbx : w.heap.size = bx at *
 have Hw1 := Lib.hid hw1
 clear hw1 hbx
 clear e1
 go_loopw [8, 9] (fun iv jv wr => ∃ i j : Nat, iv = .int .i64 (i : Int) ∧ jv = .int .i64 (j : Int) ∧ m ≤ i ∧ i ≤ j ∧ j ≤ b ∧ (i = m ∨ ∃ h : i - m - 1 < R.length, R[i - m - 1].1.1 < x.1.1) ∧ (j = b ∨ ∃ h : j - m < R.length, x.1.1 ≤ R[j - m].1.1) ∧
  Mm w1 wr bx g gv N cap rest (P ++ [x] ++ (R ++ Q))) (fun iv jv _ => (intOf jv - intOf iv).toNat)
 case atStart => exact ⟨m, b, rfl, rfl, Nat.le_refl _, by omega, Nat.le_refl _, .inl rfl, .inl rfl, H.out⟩
 case round =>
  obtain ⟨i, j, rfl, rfl, hmi, hij, hjb, hI, hJ, hpk⟩ := hrel
  have HI := Lib.hid hI
  have HJ := Lib.hid hJ
  clear hI hJ
  have c0 := hpk.c0
  unfold lessV at c0
  by_cases hlt : i < j
  ·obtain ⟨q, hq⟩ : ∃ q, q = (i + j) / 2 := ⟨_, rfl⟩
   have hqi : i ≤ q := by omega
   have hqj : q < j := by omega
   have hql : q - m < R.length := by have := Hb.out; omega
   have Hat := Lib.hid (up_at P R Q x (q - m) hql)
   have HX : Hid (a = P.length) := Lib.hid HP.out.symm
   have HY : Hid (q = P.length + 1 + (R.take (q - m)).length) := Lib.hid (by rw [List.length_take, HP.out]; have := Hm.out; omega)
   obtain ⟨y, hy⟩ : ∃ y, R[q - m] = y := ⟨_, rfl⟩
   have Hy : Hid (∀ h : q - m < R.length, R[q - m] = y) := Lib.hid (fun _ => hy)
   rw [Hat.out, hy] at hpk
   have HL := Lib.hid (hpk.less' HX.out HY.out)
   have Hback : Hid (∀ W, Mm w1 W bx g gv N cap rest (P ++ x :: (R.take (q - m) ++ y :: (R.drop (q - m + 1) ++ Q))) → Mm w1 W bx g gv N cap rest (P ++ [x] ++ (R ++ Q))) := Lib.hid (fun W hW => by rw [Hat.out, hy]; exact hW)
   have e2 : ((i : Int) + (j : Int)) / 2 = (q : Int) := by omega
   clear hpk hy hq
   by_cases hc : y.1.1 < x.1.1
   ·have hb1 : decide (y.1.1 < x.1.1) = true := by simp [hc]
    rw [hb1] at HL
    clear hb1
    go_wp2_with fail
    refine (HL.out).mono ?_
    rintro e w3 ⟨rfl, hm3⟩
    have HM3 := Lib.hid (Hback.out _ hm3)
    clear hm3
    go_wp2_with fail
    go_roundw
    case rel => exact ⟨q + 1, j, by go_num, rfl, by omega, by omega, hjb, .inr ⟨by omega, by
     have e9 : q + 1 - m - 1 = q - m := by omega
     have := Hy.out hql
     simp only [e9, this]; exact hc⟩, HJ.out, HM3.out⟩
    case measure => simp [intOf]; omega
   ·have hb1 : decide (y.1.1 < x.1.1) = false := by simp; omega
    rw [hb1] at HL
    clear hb1
    go_wp2_with fail
    refine (HL.out).mono ?_
    rintro e w3 ⟨rfl, hm3⟩
    have HM3 := Lib.hid (Hback.out _ hm3)
    clear hm3
    go_wp2_with fail
    go_roundw
    case rel => exact ⟨i, q, rfl, rfl, hmi, hqi, by omega, HI.out, .inr ⟨hql, by rw [Hy.out hql]; omega⟩, HM3.out⟩
    case measure => simp [intOf]; omega
  ·obtain rfl : i = j := by omega
   obtain ⟨t, ht⟩ : ∃ t, a + t = i - 1 := ⟨i - 1 - a, by have := Hm.out; omega⟩
   have htm : i - m = t := by have := Hm.out; omega
   have htR : t ≤ R.length := by have := Hb.out; omega
   have hso : (R.take t ++ x :: R.drop t).Pairwise (lexP ekey) := by
    refine put_up _ R t htR Hs.out Htag.out ?_ ?_
    ·rcases HI.out with h | ⟨h, k⟩
     ·left; omega
     ·right; simp only [htm] at h k; exact ⟨h, k⟩
    ·rcases HJ.out with h | ⟨h, k⟩
     ·left; have := Hb.out; omega
     ·right; simp only [htm] at h k; exact ⟨h, k⟩
   have Hso := Lib.hid hso
   have Hpk : Hid (Mm w1 wr bx g gv N cap rest (upL P R Q x 0)) := Lib.hid (by
    have e : upL P R Q x 0 = P ++ [x] ++ (R ++ Q) := by simp [upL]
    rw [e]; exact hpk)
   have Hfin : Hid (upL P R Q x t = P ++ (R.take t ++ x :: R.drop t) ++ Q) := Lib.hid (by unfold upL; simp only [List.append_assoc, List.cons_append])
   have Hpe : Hid ((R.take t ++ x :: R.drop t).Perm ([x] ++ R)) := Lib.hid (put_perm _ R t)
   have Ht := Lib.hid ht
   obtain ⟨i1, hi1⟩ : ∃ i1, i = i1 + 1 := ⟨i - 1, by omega⟩
   have e3 : (i : Int) - 1 = (i1 : Int) := by omega
   have Hi1 : Hid (a + t = i1) := Lib.hid (by omega)
   have hi1N : i1 < N := by omega
   clear hpk hso ht htm HI HJ hi1 c0
   go_wp2_with fail
   go_loopw [11] (fun kv wr => ∃ s k : Nat, kv = .int .i64 (k : Int) ∧ a + s = k ∧ s ≤ t ∧ Mm w1 wr bx g gv N cap rest (upL P R Q x s)) (fun kv _ => i1 - (intOf kv).toNat)
   case atStart => exact ⟨0, a, rfl, rfl, Nat.zero_le _, Hpk.out⟩
   case round =>
    obtain ⟨s, k, rfl, hk, hst, hpk⟩ := hrel
    have Hk := Lib.hid hk
    have c1 := hpk.c1
    unfold swapV at c1
    by_cases hlt : k < i1
    ·have hsl : s < R.length := by have := Hi1.out; omega
     have HX : Hid (k = (P ++ R.take s).length) := Lib.hid (by rw [List.length_append, List.length_take, HP.out]; omega)
     have HY : Hid (k + 1 = (P ++ R.take s).length + 1 + ([] : List TE).length) := Lib.hid (by rw [← HX.out]; rfl)
     rw [up_pre P R Q _ s hsl] at hpk
     have hpost := up_post P R Q x s hsl
     obtain ⟨w9, hsw, hm9⟩ := hpk.swap HX.out HY.out
     rw [← hpost] at hm9
     have HM9 := Lib.hid hm9
     have q1 : ((k + 1 : Nat) : Int) = (k : Int) + 1 := by omega
     rw [q1] at hsw
     clear hpk hpost hm9 q1
     go_wp2_with fail
     go_roundw
     case rel => exact ⟨s + 1, k + 1, by go_num, by have := Hk.out; omega, by have := Hi1.out; omega, HM9.out⟩
     case measure => simp [intOf]; omega
    ·obtain rfl : s = t := by have := Hi1.out; omega
     obtain rfl : k = i1 := by have := Hi1.out; omega
     rw [Hfin.out] at hpk
     have Hpk2 := Lib.hid hpk
     clear hpk
     go_wp2_with fail
     refine bodyPost_ret (results_none rfl _ _ _) rfl ?_
     exact ⟨rfl, ⟨_, Hpk2.out.pk, Hpe.out, Hso.out⟩, (Hw1.out ▸ Hpk2.out : Mm (w.alloc _) _ _ _ _ _ _ _ _).done⟩
theorem dn_at (P L Q : List TE) (x : TE) (k : Nat) (h : k < L.length) : P ++ L ++ ([x] ++ Q) = (P ++ L.take k) ++ L[k] :: (L.drop (k + 1) ++ x :: Q) := by
 have : L = L.take k ++ L[k] :: L.drop (k + 1) := by rw [← List.drop_eq_getElem_cons h, List.take_append_drop]
 conv => lhs; rw [this]
 simp only [List.append_assoc, List.cons_append, List.nil_append]
set_option maxRecDepth 100000 in
set_option maxHeartbeats 8000000 in
theorem sym_dn (g gv N cap a m b : Nat) (rest : List Value) (P L Q : List TE) (x : TE) (w : World) (h : PkAt w g rest (P ++ L ++ ([x] ++ Q))) (hv : Var w g gv N cap) (ha : P.length = a) (hm : a + L.length = m) (hb : m + 1 = b) (hR : 2 ≤ L.length)
  (hs : L.Pairwise (lexP ekey)) (htag : ∀ y ∈ L, y.2 < x.2) (hN : (P ++ L ++ ([x] ++ Q)).length = N) (hN2 : N ≤ 1000000) :
  Calls Tryz.prog 125 #[dataV g gv N cap, .int .i64 (a : Int), .int .i64 (m : Int), .int .i64 (b : Int)] w fun e w' => e = .returned (.tuple #[]) ∧ (∃ S', PkAt w' g rest (P ++ S' ++ Q) ∧ S'.Perm (L ++ [x]) ∧ S'.Pairwise (lexP ekey)) ∧ w.grownBy w' (some g) := by
 have hN3 : P.length + L.length + 1 + Q.length = N := by rw [← hN]; simp; omega
 have H := Lib.hid (Mm.start h hv hN hN2)
 have HP := Lib.hid ha
 have Hs := Lib.hid hs
 have Htag := Lib.hid htag
 have hbN : b ≤ N := by omega
 have hmb : m < b := by omega
 have ham : a < m := by omega
 have e1 : (m : Int) - (a : Int) = ((L.length : Nat) : Int) := by omega
 have e0 : (((L.length : Nat) : Int) == 1) = false := by simp; omega
 have e2 : (b : Int) - (m : Int) = 1 := by omega
 have Hm := Lib.hid hm
 clear h hN hN3 ha hs htag hb hm hR hv
 generalize hll : L.length = ll at *
 have Hll := Lib.hid hll
 clear hll
 unfold dataV
 go_enter Tryz.func125, Tryz.ntmps125
 go_wp2_with fail
 generalize hw1 : w.alloc (.cells #[lessV gv, swapV g N cap] 177) = w1 at *
 generalize hbx : w.heap.size = bx at *
 have Hw1 := Lib.hid hw1
 clear hw1 hbx
 clear e1 e0 e2
 go_loopw [12, 13] (fun iv jv wr => ∃ i j : Nat, iv = .int .i64 (i : Int) ∧ jv = .int .i64 (j : Int) ∧ a ≤ i ∧ i ≤ j ∧ j ≤ m ∧ (i = a ∨ ∃ h : i - a - 1 < L.length, L[i - a - 1].1.1 ≤ x.1.1) ∧ (j = m ∨ ∃ h : j - a < L.length, x.1.1 < L[j - a].1.1) ∧
  Mm w1 wr bx g gv N cap rest (P ++ L ++ ([x] ++ Q))) (fun iv jv _ => (intOf jv - intOf iv).toNat)
 case atStart => exact ⟨a, m, rfl, rfl, Nat.le_refl _, by omega, Nat.le_refl _, .inl rfl, .inl rfl, H.out⟩
 case round =>
  obtain ⟨i, j, rfl, rfl, hmi, hij, hjb, hI, hJ, hpk⟩ := hrel
  have HI := Lib.hid hI
  have HJ := Lib.hid hJ
  clear hI hJ
  have c0 := hpk.c0
  unfold lessV at c0
  by_cases hlt : i < j
  ·obtain ⟨q, hq⟩ : ∃ q, q = (i + j) / 2 := ⟨_, rfl⟩
   have hqi : i ≤ q := by omega
   have hqj : q < j := by omega
   have hql : q - a < L.length := by have := Hm.out; have := Hll.out; omega
   have Hat := Lib.hid (dn_at P L Q x (q - a) hql)
   have HX : Hid (q = (P ++ L.take (q - a)).length) := Lib.hid (by rw [List.length_append, List.length_take, HP.out]; omega)
   have HY : Hid (m = (P ++ L.take (q - a)).length + 1 + (L.drop (q - a + 1)).length) := Lib.hid (by rw [← HX.out, List.length_drop]; have := Hm.out; have := Hll.out; omega)
   obtain ⟨y, hy⟩ : ∃ y, L[q - a] = y := ⟨_, rfl⟩
   have Hy : Hid (∀ h : q - a < L.length, L[q - a] = y) := Lib.hid (fun _ => hy)
   rw [Hat.out, hy] at hpk
   have HL := Lib.hid (hpk.less' HX.out HY.out)
   have Hback : Hid (∀ W, Mm w1 W bx g gv N cap rest (P ++ L.take (q - a) ++ y :: (L.drop (q - a + 1) ++ x :: Q)) → Mm w1 W bx g gv N cap rest (P ++ L ++ ([x] ++ Q))) := Lib.hid (fun W hW => by rw [Hat.out, hy]; exact hW)
   have e2 : ((i : Int) + (j : Int)) / 2 = (q : Int) := by omega
   clear hpk hy hq
   by_cases hc : x.1.1 < y.1.1
   ·have hb1 : decide (x.1.1 < y.1.1) = true := by simp [hc]
    rw [hb1] at HL
    clear hb1
    go_wp2_with fail
    refine (HL.out).mono ?_
    rintro e w3 ⟨rfl, hm3⟩
    have HM3 := Lib.hid (Hback.out _ hm3)
    clear hm3
    go_wp2_with fail
    go_roundw
    case rel => exact ⟨i, q, rfl, rfl, hmi, hqi, by omega, HI.out, .inr ⟨hql, by rw [Hy.out hql]; exact hc⟩, HM3.out⟩
    case measure => simp [intOf]; omega
   ·have hb1 : decide (x.1.1 < y.1.1) = false := by simp; omega
    rw [hb1] at HL
    clear hb1
    go_wp2_with fail
    refine (HL.out).mono ?_
    rintro e w3 ⟨rfl, hm3⟩
    have HM3 := Lib.hid (Hback.out _ hm3)
    clear hm3
    go_wp2_with fail
    go_roundw
    case rel => exact ⟨q + 1, j, by go_num, rfl, by omega, by omega, hjb, .inr ⟨by omega, by
     have e9 : q + 1 - a - 1 = q - a := by omega
     have := Hy.out hql
     simp only [e9, this]; omega⟩, HJ.out, HM3.out⟩
    case measure => simp [intOf]; omega
  ·obtain rfl : i = j := by omega
   obtain ⟨t, ht⟩ : ∃ t, a + t = i := ⟨i - a, by omega⟩
   have htm : i - a = t := by omega
   have htR : t ≤ L.length := by have := Hm.out; have := Hll.out; omega
   have hso : (L.take t ++ x :: L.drop t).Pairwise (lexP ekey) := by
    refine ins_sorted L _ t htR Hs.out Htag.out ?_ ?_
    ·rcases HI.out with h | ⟨h, k⟩
     ·left; omega
     ·right; simp only [htm] at h k; exact ⟨h, k⟩
    ·rcases HJ.out with h | ⟨h, k⟩
     ·left; have := Hm.out; have := Hll.out; omega
     ·right; simp only [htm] at h k; exact ⟨h, k⟩
   have Hso := Lib.hid hso
   have Hpk : Hid (Mm w1 wr bx g gv N cap rest (isL P L x Q L.length)) := Lib.hid (by
    have e : isL P L x Q L.length = P ++ L ++ ([x] ++ Q) := by simp [isL]
    rw [e]; exact hpk)
   have Hfin : Hid (isL P L x Q t = P ++ (L.take t ++ x :: L.drop t) ++ Q) := Lib.hid (by unfold isL; simp only [List.append_assoc, List.cons_append])
   have Hpe : Hid ((L.take t ++ x :: L.drop t).Perm (L ++ [x])) := Lib.hid (ins_perm L L _ t (List.Perm.refl _))
   have Ht := Lib.hid ht
   clear hpk hso ht htm HI HJ c0
   go_wp2_with fail
   go_loopw [15] (fun kv wr => ∃ s k : Nat, kv = .int .i64 (k : Int) ∧ a + s = k ∧ t ≤ s ∧ s ≤ L.length ∧ Mm w1 wr bx g gv N cap rest (isL P L x Q s)) (fun kv _ => (intOf kv).toNat)
   case atStart => exact ⟨L.length, m, rfl, by rw [Hll.out]; exact Hm.out, htR, Nat.le_refl _, Hpk.out⟩
   case round =>
    obtain ⟨s, k, rfl, hk, hst, hsL, hpk⟩ := hrel
    have c1 := hpk.c1
    unfold swapV at c1
    by_cases hlt : i < k
    ·rcases s with _ | s
     ·exfalso; have := Ht.out; omega
     obtain ⟨k1, hk1⟩ : ∃ k1, a + s = k1 := ⟨_, rfl⟩
     have hsl : s < L.length := by omega
     have Hk : Hid (k = k1 + 1 ∧ a + s = k1) := Lib.hid (by omega)
     have e4 : (k : Int) - 1 = (k1 : Int) := by omega
     have HX : Hid (k1 = (P ++ L.take s).length) := Lib.hid (by rw [List.length_append, List.length_take, HP.out]; omega)
     have HY : Hid (k = (P ++ L.take s).length + 1 + ([] : List TE).length) := Lib.hid (by rw [← HX.out]; exact Hk.out.1)
     rw [is_pre P L _ Q s hsl] at hpk
     have hpost := is_post P L x Q s hsl
     obtain ⟨w9, hsw, hm9⟩ := hpk.swap' HX.out HY.out
     rw [← hpost] at hm9
     have HM9 := Lib.hid hm9
     have hw : IntKind.i64.wrap (k1 : Int) = (k1 : Int) := IntWalk.i64_in _ (by have := Hm.out; have := Hll.out; omega)
     clear hpk hpost hk hk1 hm9
     go_wp2_with fail
     go_roundw
     case rel => exact ⟨s, k1, rfl, Hk.out.2, by have := Ht.out; have := Hk.out; omega, by omega, HM9.out⟩
     case measure => have := Hk.out; simp [intOf]; omega
    ·obtain rfl : s = t := by have := Ht.out; omega
     obtain rfl : k = i := by have := Ht.out; omega
     rw [Hfin.out] at hpk
     have Hpk2 := Lib.hid hpk
     clear hpk hk
     go_wp2_with fail
     refine bodyPost_ret (results_none rfl _ _ _) rfl ?_
     exact ⟨rfl, ⟨_, Hpk2.out.pk, Hpe.out, Hso.out⟩, (Hw1.out ▸ Hpk2.out : Mm (w.alloc _) _ _ _ _ _ _ _ _).done⟩
end Go.Proofs.YthpdcnjaodjjmaaGreat.Slc
