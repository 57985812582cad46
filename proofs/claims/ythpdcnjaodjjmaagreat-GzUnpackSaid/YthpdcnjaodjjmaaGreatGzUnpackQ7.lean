/- texts joined: GzPure SumCrc GzPk InfCodes InfBlock InfCatch InfMono InfUnpack InfNz. -/
import Derived.Test.YthpdcnjaodjjmaaGreatGzUnpackQ6
import Derived.Test.YthpdcnjaodjjmaaGreatProg
import Derived.WalkSpells
import Derived.Test.YthpdcnjaodjjmaaGreatGzUnpackQ4
import Derived.Test.YthpdcnjaodjjmaaGreatGzUnpackQ5
import Derived.Tactics
import Derived.Tactics2
import Derived.Defers
import Derived.Recover
import Derived.Test.YthpdcnjaodjjmaaGreatGzUnpackQ1
/- package gz: the plain law: there and back. No program's walk in sight. -/
namespace Go.Proofs.YthpdcnjaodjjmaaGreat.Gz
open Go Go.RowKit Go.Proofs.YthpdcnjaodjjmaaGreat Go.Proofs.YthpdcnjaodjjmaaGreat.Bits Go.Proofs.YthpdcnjaodjjmaaGreat.Inf Go.Proofs.YthpdcnjaodjjmaaGreat.Rt Go.Proofs.YthpdcnjaodjjmaaGreat.Blk
set_option linter.unusedVariables false

def hdr10 : List UInt8 := [31, 139, 8, 0, 0, 0, 0, 0, 0, 255]
def sumN (xs : List UInt8) : Nat := (Sum.crc 0#32 xs).toNat
def tailS (c n : Nat) : Nat → List Bool
 | 0 => []
 | 1 => (numBits (c % 65536) 16 ++ numBits (c / 65536) 16)
 | _ => (numBits (c % 65536) 16 ++ numBits (c / 65536) 16) ++ numBits (n % 65536) 16 ++ numBits (n / 65536) 16
def tl (xs : List UInt8) : List UInt8 := pack (tailS (sumN xs) xs.length 2)
def gzB (xs : List UInt8) : List UInt8 := (hdr10 ++ (bestK xs 3).1) ++ tl xs
theorem num16 (n : Nat) : numBits n 16 = bitsL [UInt8.ofNat n, UInt8.ofNat (n / 256)] := by
 unfold bitsL bitsOf
 rw [List.flatMap_cons, List.flatMap_cons, List.flatMap_nil, List.append_nil]
 apply List.ext_getElem
 ·simp [numBits_length]
 ·intro i h1 h2
  rw [numBits_length] at h1
  have e : ∀ m k (h : k < (numBits m 8).length), (numBits m 8)[k] = m.testBit k := fun m k h => by simp [numBits]
  rw [List.getElem_append]
  have hx : (numBits n 16)[i]'(by rw [numBits_length]; exact h1) = n.testBit i := by simp [numBits]
  rw [hx]
  split
  ·rename_i h
   rw [numBits_length] at h
   rw [e, UInt8.toNat_ofNat', show (2 ^ 8 : Nat) = 2 ^ 8 from rfl, Nat.testBit_mod_two_pow]
   simp [h]
  ·rename_i h
   rw [numBits_length] at h
   rw [e, numBits_length, UInt8.toNat_ofNat', Nat.testBit_mod_two_pow, show n / 256 = n / 2 ^ 8 from rfl, Nat.testBit_div_two_pow]
   have h8 : i - 8 < 8 := by omega
   simp only [h8, decide_true, Bool.true_and]
   congr 1; omega
theorem sumN_lt (xs : List UInt8) : sumN xs < 4294967296 := (Sum.crc 0#32 xs).isLt
theorem tl_bytes (xs : List UInt8) (h : xs.length < 65536) :
  tl xs = [UInt8.ofNat (sumN xs), UInt8.ofNat (sumN xs / 256), UInt8.ofNat (sumN xs / 65536), UInt8.ofNat (sumN xs / 16777216), UInt8.ofNat xs.length, UInt8.ofNat (xs.length / 256), 0, 0] := by
 have ht : tl xs = pack ((numBits (sumN xs % 65536) 16 ++ numBits (sumN xs / 65536) 16) ++ numBits (xs.length % 65536) 16 ++ numBits (xs.length / 65536) 16) := rfl
 rw [ht, num16, num16, num16, num16, ← bitsL_append, ← bitsL_append, ← bitsL_append, pack_bitsL]
 have e : ∀ m k : Nat, UInt8.ofNat (m % 65536) = UInt8.ofNat m := fun m _ => by
  apply UInt8.toNat_inj.1; rw [UInt8.toNat_ofNat', UInt8.toNat_ofNat']; omega
 have e2 : ∀ m : Nat, UInt8.ofNat (m % 65536 / 256) = UInt8.ofNat (m / 256) := fun m => by
  apply UInt8.toNat_inj.1; rw [UInt8.toNat_ofNat', UInt8.toNat_ofNat']; omega
 rw [e _ 0, e _ 0, e2, e2, Nat.div_div_eq_div_mul, Nat.div_eq_of_lt h]
 rfl
theorem tl_len (xs : List UInt8) : (tl xs).length = 8 := by
 unfold tl; rw [pack_length]; unfold tailS; simp [numBits_length]
theorem hdr_len : hdr10.length = 10 := rfl
theorem gzB_len (xs : List UInt8) : (gzB xs).length = (bestK xs 3).1.length + 18 := by unfold gzB; rw [List.length_append, List.length_append, tl_len, hdr_len]; omega
theorem best_some (xs : List UInt8) : ∃ k, k ≤ 2 ∧ bestK xs 3 = (packB [xs] [k], k) := by
 have h1 : bestK xs 1 = (packB [xs] [0], 0) := bestK_yes xs 0 (.inl rfl)
 have step : ∀ j, j ≤ 2 → (∃ k, k ≤ 2 ∧ bestK xs j = (packB [xs] [k], k)) → ∃ k, k ≤ 2 ∧ bestK xs (j + 1) = (packB [xs] [k], k) := fun j hj h => by
  by_cases hc : j = 0 ∨ (packB [xs] [j]).length < (bestK xs j).1.length
  ·exact ⟨j, hj, bestK_yes xs j hc⟩
  ·rw [bestK_no xs j hc]; exact h
 exact step 2 (by omega) (step 1 (by omega) ⟨0, by omega, h1⟩)
theorem best_first (xs : List UInt8) : (bestK xs 3).1.length ≤ (packB [xs] [0]).length := by
 have h1 : bestK xs 1 = (packB [xs] [0], 0) := bestK_yes xs 0 (.inl rfl)
 have step : ∀ j, 1 ≤ j → (bestK xs (j + 1)).1.length ≤ (bestK xs j).1.length := fun j hj => by
  by_cases hc : j = 0 ∨ (packB [xs] [j]).length < (bestK xs j).1.length
  ·rw [bestK_yes xs j hc]
   rcases hc with h | h
   ·omega
   ·show (packB [xs] [j]).length ≤ _; omega
  ·rw [bestK_no xs j hc]; exact Nat.le_refl _
 have a := step 1 (by omega)
 have b := step 2 (by omega)
 rw [h1] at a
 exact Nat.le_trans b a
def gunzR (b : List UInt8) : Inf.Rd (List UInt8) :=
 if 6000 < b.length then .bad 2
 else if ¬ (b.take 10 = hdr10) then .bad 4
 else (unpackR (b.drop 10)).then_ fun x =>
  if b.length - 10 - x.2.1 < 8 then .bad 7
  else if 8 < b.length - 10 - x.2.1 then .bad 4
  else if (b.drop 10).drop x.2.1 = tl x.1 then .ok x.1 else .bad 10
theorem best_back (xs more : List UInt8) (hx : xs.length ≤ 3000) (h6 : ((bestK xs 3).1 ++ more).length ≤ 6000) :
  ∃ k, unpackR ((bestK xs 3).1 ++ more) = .ok (xs, (bestK xs 3).1.length, [k]) := by
 obtain ⟨k, hk, h⟩ := best_some xs
 rw [h] at h6 ⊢
 have := unpack_pack [xs] [k] more (by simp) rfl (by simp; exact hk) (by simp; exact hx) h6
 exact ⟨k, by rw [this]; simp⟩
theorem gunz_of {b B more xs : List UInt8} {ks : List Nat} (hl : b.length = 10 + B.length + more.length) (h6 : b.length ≤ 6000) (ht : b.take 10 = hdr10) (hu : unpackR (b.drop 10) = .ok (xs, B.length, ks)) (hd : (b.drop 10).drop B.length = more) :
  gunzR b = if more.length < 8 then .bad 7 else if 8 < more.length then .bad 4 else if more = tl xs then .ok xs else .bad 10 := by
 have e1 : b.length - 10 - B.length = more.length := by omega
 have e2 : gunzR b = (unpackR (b.drop 10)).then_ fun x => if b.length - 10 - x.2.1 < 8 then .bad 7
  else if 8 < b.length - 10 - x.2.1 then .bad 4
  else if (b.drop 10).drop x.2.1 = tl x.1 then .ok x.1 else .bad 10 := by
  unfold gunzR
  rw [if_neg (by omega), if_neg (by simp only [ht, not_true_eq_false, not_false_eq_true])]
 rw [e2, hu]
 have e3 : ((Inf.Rd.ok (xs, B.length, ks)).then_ fun x => if b.length - 10 - x.2.1 < 8 then .bad 7
  else if 8 < b.length - 10 - x.2.1 then .bad 4
  else if (b.drop 10).drop x.2.1 = tl x.1 then .ok x.1 else .bad 10) = (if b.length - 10 - B.length < 8 then Inf.Rd.bad 7
  else if 8 < b.length - 10 - B.length then .bad 4
  else if (b.drop 10).drop B.length = tl xs then .ok xs else .bad 10) := rfl
 rw [e3, e1, hd]
theorem gunz_tail (xs more : List UInt8) (hx : xs.length ≤ 3000) (h6 : (bestK xs 3).1.length + 10 + more.length ≤ 6000) :
  gunzR ((hdr10 ++ (bestK xs 3).1) ++ more) = if more.length < 8 then .bad 7 else if 8 < more.length then .bad 4 else if more = tl xs then .ok xs else .bad 10 := by
 obtain ⟨k, hk⟩ := best_back xs more hx (by rw [List.length_append]; omega)
 have hl : ((hdr10 ++ (bestK xs 3).1) ++ more).length = 10 + (bestK xs 3).1.length + more.length := by rw [List.length_append, List.length_append, hdr_len]
 have hd : ((hdr10 ++ (bestK xs 3).1) ++ more).drop 10 = (bestK xs 3).1 ++ more := by rw [List.append_assoc]; exact List.drop_left' hdr_len
 have ht : ((hdr10 ++ (bestK xs 3).1) ++ more).take 10 = hdr10 := by rw [List.append_assoc]; exact List.take_left' hdr_len
 exact gunz_of hl (by rw [hl]; omega) ht (by rw [hd]; exact hk) (by rw [hd, List.drop_left])
theorem gunz_back (xs : List UInt8) (hx : xs.length ≤ 3000) (h6 : (gzB xs).length ≤ 6000) : gunzR (gzB xs) = .ok xs := by
 rw [gzB_len] at h6
 unfold gzB
 rw [gunz_tail xs (tl xs) hx (by rw [tl_len]; omega), tl_len, if_neg (by omega), if_neg (by omega), if_pos rfl]
end Go.Proofs.YthpdcnjaodjjmaaGreat.Gz

/- sums: the walk of sum.CRC. -/
namespace Go.Proofs.YthpdcnjaodjjmaaGreat.Sum
open Go Go.RowKit Go.Proofs.YthpdcnjaodjjmaaGreat

theorem tab_lt' (k : Nat) (h : k < 256) : (k : Int) = n32 (stepN 0 (BitVec.ofNat 32 k)) := by
 unfold n32 stepN; simp; omega
def tabCs (k : Nat) : Array Value := ((List.range 256).map fun i => if i < k then Value.int .u32 (n32 (tab i)) else .int .u32 0).toArray
def tabV : Array Value := tabCs 256
theorem tabCs_size (k : Nat) : (tabCs k).size = 256 := by simp [tabCs]
theorem tabCs_zero : tabCs 0 = Tryz.zeroCells128 := by kernel_rfl
theorem tabCs_succ (k : Nat) (_h : k < 256) : (tabCs k).setIfInBounds k (.int .u32 (n32 (tab k))) = tabCs (k + 1) := by
 apply Array.ext
 ·simp [tabCs]
 ·intro i h1 h2
  simp [tabCs]
  by_cases e : k = i
  ·subst e; simp
  ·simp [e]; by_cases h3 : i < k
   ·rw [if_pos h3, if_pos (by omega)]
   ·rw [if_neg h3, if_neg (by omega)]
theorem tabV_get (k : Nat) (h : k < 256) : tabV[k]? = some (.int .u32 (n32 (tab k))) := by
 simp [tabV, tabCs, h]
theorem tabV_one : tabV.all (·.oneCell') = true := by
 simp [tabV, tabCs]; intro i hi; rw [if_pos hi]; rfl
attribute [local irreducible] tabCs
set_option maxRecDepth 100000 in
set_option maxHeartbeats 400000 in
theorem table_any (w : World) : Calls Tryz.prog 72 #[] w fun e w' => e = .returned (.agg tabV) ∧ Below w.heap.size w w' := by
 go_enter Tryz.func72, Tryz.ntmps72
 go_wp2
 go_loopw [4] (fun i wr => ∃ k : Nat, k ≤ 256 ∧ i = .int .i64 k ∧ Blk wr w.heap.size 128 (tabCs 0) ∧ Blk wr (w.heap.size + 1) 128 (tabCs k) ∧ Below w.heap.size w wr) (fun i _ => 256 - (intOf i).toNat)
 case atStart =>
  refine ⟨0, by omega, rfl, ?_, ?_, ?_⟩
  ·rw [tabCs_zero]; exact (Blk.new w _ _).alloc _
  ·rw [tabCs_zero]; have := Blk.new (w.alloc (.cells Tryz.zeroCells128 128)) 128 Tryz.zeroCells128; simpa using this
  ·exact ((Below.refl _ _).alloc (Nat.le_refl _) _).alloc (by simp) _
 case round =>
  obtain ⟨k, hk, rfl, hb0, hb1, hbl⟩ := hrel
  by_cases hlt : k < 256
  ·have hfz := hb1.frozen k
   obtain ⟨old, hold⟩ : ∃ old, (tabCs k)[k]? = some old := ⟨_, Array.getElem?_eq_getElem (by rw [tabCs_size]; exact hlt)⟩
   have hcell : wr.cell? ⟨w.heap.size + 1, k, none⟩ = some old := by rw [hb1.cell, hold]
   clear hold
   have Hst := Lib.hid (hb1.set_ k (.int .u32 (n32 (tab k))))
   have Hb0 := Lib.hid hb0
   have Hbl := Lib.hid hbl
   have H0 := Lib.hid (tab_lt' k hlt)
   have hbk := Lib.hid hb1.lt
   clear hb0 hb1 hbl
   go_wp2
   go_loop [3, 9] (fun c j => ∃ m : Nat, m ≤ 8 ∧ j = .int .i64 m ∧ c = .int .u32 (n32 (stepN m (BitVec.ofNat 32 k)))) (fun _ j => 8 - (intOf j).toNat)
   case atStart => exact ⟨0, by omega, rfl, int_eq H0.out⟩
   case round =>
    obtain ⟨m, hm, rfl, rfl⟩ := hrel
    by_cases hm8 : m < 8
    ·have Hs : Hid (stepN (m + 1) (BitVec.ofNat 32 k) = (stepN m (BitVec.ofNat 32 k)) >>> 1 ^^^ (3988292384#32 * (stepN m (BitVec.ofNat 32 k) &&& 1#32))) := Lib.hid rfl
     generalize stepN m (BitVec.ofNat 32 k) = c at *
     go_wp2
     go_round
     case rel => exact ⟨m + 1, by omega, by go_num, by rw [Hs.out]⟩
     case measure => simp [intOf]; omega
    ·obtain rfl : m = 8 := by omega
     have Ht : Hid (stepN 8 (BitVec.ofNat 32 k) = tab k) := Lib.hid rfl
     generalize stepN 8 (BitVec.ofNat 32 k) = c at *
     go_wp2
     go_roundw
     case rel =>
      refine ⟨k + 1, by omega, by go_num, ?_, ?_, ?_⟩
      ·exact Hb0.out.far (by simp) _
      ·rw [← tabCs_succ k hlt, Ht.out]; exact Hst.out
      ·exact Hbl.out.setCell (by simp) _
     case measure => simp [intOf]; omega
  ·obtain rfl : k = 256 := by omega
   have hi : (Tryz.prog.info? 128).map (·.size) = some (tabCs 256).size := by rw [tabCs_size]; kernel_rfl
   have hh1 : wr.heap[w.heap.size + 1]? = some (.cells (tabCs 256) 128 (0, 0)) := hb1
   have hh0 : wr.heap[w.heap.size]? = some (.cells (tabCs 0) 128 (0, 0)) := hb0
   have Hh0 := Lib.hid hh0
   have Hh1 := Lib.hid hh1
   have Hi := Lib.hid hi
   have Hbl := Lib.hid hbl
   clear hi hh1 hh0 hb0 hb1 hbl
   have Ho := Lib.hid (show (tabCs 0).size = (tabCs 256).size by rw [tabCs_size, tabCs_size])
   go_wp2_with (first | (refine wpList_load_row rfl 128 (.tmp 1) rfl (w.heap.size + 1) rfl 128 _ (0, 0) _ Hh1.out Tryz.underlying128 rfl Hi.out ?_) | (refine wpList_store_row rfl 128 (.tmp 0) (.tmp 22) rfl w.heap.size (tabCs 256) rfl rfl 128 (tabCs 0) Hh0.out Hi.out Ho.out tabV_one ?_))
   refine bodyPost_ret (v := .agg (tabCs 256)) (results_cell_row rfl _ _ w.heap.size 128 (tabCs 256) (0, 0) _ rfl (setRow_heap _ _ _ _ _ _ Hh0.out) Tryz.underlying128 rfl Hi.out) rfl ⟨rfl, ?_⟩
   exact Hbl.out.trans ⟨rfl, rfl, rfl, by simp, fun k hk => setRow_other _ _ _ _ (by omega)⟩

theorem crcB_eq (c : W32) (x : UInt8) : n32 (c >>> 8 ^^^ tab ((UInt8.ofBitVec (BitVec.setWidth 8 c)) ^^^ x).toNat) = n32 (crcB c x) := rfl
set_option maxRecDepth 100000 in
set_option maxHeartbeats 400000 in
theorem crc_any (c : W32) (ci : Int) (hci : ci = n32 c) (A : Option Addr) (n cap : Nat) (xs : List UInt8) (w : World) (hn : xs.length = n) (hm : n ≤ 12000) (hc : ByAt w A xs) :
  Calls Tryz.prog 45 #[.int .u32 ci, .slice A n cap] w fun e w' => e = .returned (.tuple #[.int .u32 (n32 (crc c xs)), .int .i64 0]) ∧ Below w.heap.size w w' := by
 subst hci
 have Hn := Lib.hid hn
 have Hc := Lib.hid hc
 clear hn hc
 have h12 : ¬ (12000 < (n : Int)) := by omega
 have hi : (Tryz.prog.info? 128).map (·.size) = some tabV.size := by rw [show tabV.size = 256 from tabCs_size 256]; kernel_rfl
 have Hi := Lib.hid hi
 clear hi
 go_enter Tryz.func45, Tryz.ntmps45
 go_wp2_with (first | (go_at_call 72; refine (table_any _).mono ?_; rintro e w1 ⟨rfl, hb1⟩; have Hb1 := Lib.hid hb1; clear hb1) | (refine wpList_store_row rfl 128 (.tmp 6) (.tmp 13) rfl w1.heap.size tabV rfl rfl 128 _ (Blk.new w1 _ _) Hi.out (show _ = tabV.size from (tabCs_size 256).symm) tabV_one ?_))
 have hbW : Below w.heap.size w ((w1.alloc (.cells Tryz.zeroCells128 128)).setRow w1.heap.size tabV) :=
  (Hb1.out.alloc Hb1.out.size _).trans ⟨rfl, rfl, rfl, by simp, fun k hk => setRow_other _ _ _ _ (by have := Hb1.out.size; omega)⟩
 have hT : Blk ((w1.alloc (.cells Tryz.zeroCells128 128)).setRow w1.heap.size tabV) w1.heap.size 128 tabV := (Blk.new w1 _ _).setRow _
 generalize (w1.alloc (.cells Tryz.zeroCells128 128)).setRow w1.heap.size tabV = W at *
 have HT := Lib.hid hT
 have HW := Lib.hid hbW
 clear hT hbW
 generalize w1.heap.size = g at *
 go_loop [7, 18] (fun cc i => ∃ k : Nat, k ≤ n ∧ i = .int .i64 k ∧ cc = .int .u32 (n32 (crcL (~~~c) (xs.take k)))) (fun _ i => n - (intOf i).toNat)
 case atStart => exact ⟨0, Nat.zero_le _, rfl, rfl⟩
 case round =>
  obtain ⟨k, hk, rfl, rfl⟩ := hrel
  by_cases hlt : k < n
  ·have hkx : k < xs.length := by rw [Hn.out]; exact hlt
   obtain ⟨b, o, rfl, hcell⟩ := (Hc.out.below HW.out).get hkx
   have Hs : Hid (n32 (crcL (~~~c) (xs.take (k + 1))) = n32 ((crcL (~~~c) (xs.take k)) >>> 8 ^^^ tab ((UInt8.ofBitVec (BitVec.setWidth 8 (crcL (~~~c) (xs.take k)))) ^^^ xs[k]).toNat)) := Lib.hid (by rw [take_snoc _ _ hkx, crcL_snoc, crcB_eq])
   generalize crcL (~~~c) (xs.take k) = d at *
   generalize xs[k] = x at *
   generalize hy0 : UInt8.ofBitVec (BitVec.setWidth 8 d) ^^^ x = y at *
   have hyb := n8_bd y
   have hc2 : W.cell? ⟨g, (n8 y).toNat, none⟩ = some (.int .u32 (n32 (tab y.toNat))) := by
    rw [HT.out.cell]; exact tabV_get _ y.toNat_lt
   go_wp2
   go_round
   case rel => exact ⟨k + 1, by omega, by go_num, int_eq (by rw [Hs.out])⟩
   case measure => simp [intOf]; omega
  ·have Hk : Hid (xs.take k = xs) := Lib.hid (List.take_of_length_le (by rw [Hn.out]; omega))
   go_wp2
   go_ret2
   exact ⟨by rw [Hk.out]; rfl, HW.out⟩

end Go.Proofs.YthpdcnjaodjjmaaGreat.Sum

/- package gz: head, tail, Pack: the walks. -/
namespace Go.Proofs.YthpdcnjaodjjmaaGreat.Gz
open Go Go.RowKit Go.Proofs.YthpdcnjaodjjmaaGreat Go.Proofs.YthpdcnjaodjjmaaGreat.Bits Go.Proofs.YthpdcnjaodjjmaaGreat.Inf Go.Proofs.YthpdcnjaodjjmaaGreat.Rt Go.Proofs.YthpdcnjaodjjmaaGreat.Blk
set_option linter.unusedVariables false

theorem and_low16 (n : Nat) (h : n < 9223372036854775808) : bits .and .i64 (n : Int) 65535 = ((n % 65536 : Nat) : Int) := by
 have hx : BitVec.ofInt 64 (n : Int) = BitVec.ofNat 64 n := by rw [BitVec.ofInt_natCast]
 show IntKind.i64.wrap ((BitVec.ofInt 64 (n : Int) &&& BitVec.ofInt 64 (65535 : Int)).toNat : Int) = _
 have h1 : (BitVec.ofInt 64 (n : Int) &&& BitVec.ofInt 64 (65535 : Int)).toNat = n % 65536 := by
  rw [hx, BitVec.toNat_and, BitVec.toNat_ofNat, Nat.mod_eq_of_lt (by omega), show (BitVec.ofInt 64 (65535 : Int)).toNat = 2 ^ 16 - 1 from rfl, Nat.and_two_pow_sub_one_eq_mod]
 rw [h1]; exact IntWalk.i64_in _ (by omega)
theorem hdr_row : (hdr10.map u8v) = [.int .u8 31, .int .u8 139, .int .u8 8, .int .u8 0, .int .u8 0, .int .u8 0, .int .u8 0, .int .u8 0, .int .u8 0, .int .u8 255] := by rfl
set_option maxRecDepth 100000 in
theorem head_any (w : World) : Calls Tryz.prog 19 #[] w fun e w' => (∃ v, e = .returned v ∧ w'.ownsRow w.heap.size 5 1 v 10 (hdr10.map u8v)) ∧ Below w.heap.size w w' := by
 go_enter Tryz.func19, Tryz.ntmps19
 go_wp2_with fail
 go_ret
 refine ⟨⟨_, rfl, ?_⟩, (Below.refl _ _).alloc (Nat.le_refl _) _⟩
 rw [hdr_row]
 exact World.ownsRow_lit (base := w.heap.size) (size := 1) (e := 5) w _ 10 (Nat.le_refl _) (by unfold maxLen; omega) rfl
theorem pair_index (a b : Int) (k : Nat) (h : k < 2) (W : World) : (Instr.index 78 (.agg #[.int .i64 a, .int .i64 b]) (.int .i64 (k : Int))).run Tryz.prog W = .ok (.int .i64 (if k = 0 then a else b)) W := by
 have hu := run_underlying (P := Tryz.prog) Tryz.underlying78
 obtain rfl | rfl : k = 0 ∨ k = 1 := by omega
 ·simp [Instr.index, hu, asIntOf, go_sem]
 ·simp [Instr.index, hu, asIntOf, go_sem]
theorem tailS_succ (c n k : Nat) (h : k < 2) : tailS c n (k + 1) = (tailS c n k ++ numBits ((if k = 0 then c else n) % 65536) 16) ++ numBits ((if k = 0 then c else n) / 65536) 16 := by
 obtain rfl | rfl : k = 0 ∨ k = 1 := by omega
 ·rfl
 ·rfl
theorem tailS_len (c n k : Nat) (h : k ≤ 2) : (tailS c n k).length ≤ 64 := by
 obtain rfl | rfl | rfl : k = 0 ∨ k = 1 ∨ k = 2 := by omega
 all_goals simp [tailS, numBits_length]
set_option maxRecDepth 100000 in
set_option maxHeartbeats 800000 in
theorem tail_any (A : Option Addr) (n c : Nat) (xs : List UInt8) (w : World) (hn : xs.length = n) (hx : n ≤ 12000) (hA : ByAt w A xs) :
  Calls Tryz.prog 21 #[.slice A n c] w fun e w' => (∃ v, e = .returned v ∧ w'.ownsRow w.heap.size 5 1 v (tl xs).length ((tl xs).map u8v)) ∧ Below w.heap.size w w' := by
 have HC := Lib.hid (Sum.crc_any 0#32 0 rfl A n c xs w hn hx hA)
 have Hn := Lib.hid hn
 have hS : n32 (Sum.crc 0#32 xs) = ((sumN xs : Nat) : Int) := rfl
 have hS2 := sumN_lt xs
 have HT : Hid (tl xs = pack (tailS (sumN xs) n 2)) := Lib.hid (by unfold tl; rw [hn])
 rw [hS] at HC
 generalize sumN xs = S at *
 clear hn hA hS
 go_enter Tryz.func21, Tryz.ntmps21
 go_wp2_with fail
 refine (HC.out).mono ?_
 rintro e w1 ⟨rfl, hb1⟩
 have HRow0 := Lib.hid (RowAt.new w1 (base := w1.heap.size) (Nat.le_refl _))
 have Hb1 := Lib.hid hb1
 have Hb0 := Lib.hid (hb1.alloc hb1.size (.cells #[.slice none 0 0, .int .i64 0] 42))
 have Hi64 : Hid (IntKind.i64.wrap (S : Int) = (S : Int)) := Lib.hid (IntWalk.i64_in _ (by omega))
 clear hb1 HC
 go_wp2_with fail
 generalize hw3 : w1.alloc (.cells #[.slice none 0 0, .int .i64 0] 42) = w3 at *
 generalize hp0 : w1.heap.size = p0 at *
 have Hp0 := Lib.hid hp0
 have Hw0 : Hid (w.heap.size ≤ p0) := Lib.hid (by rw [← hp0]; exact Hb1.out.size)
 clear hw3 hp0
 go_loopw [18] (fun i wr => ∃ k : Nat, k ≤ 2 ∧ i = .int .i64 (k : Int) ∧ RowAt wr p0 p0 (tailS S n k) ∧ Keeps p0 rowT w3 wr) (fun i _ => 2 - (intOf i).toNat)
 case atStart => exact ⟨0, by omega, rfl, HRow0.out, Keeps.refl _ _ _⟩
 case round =>
  clear HRow0
  obtain ⟨k, hk, rfl, hrow, hkp⟩ := hrel
  have HRow := Lib.hid hrow
  have HKp := Lib.hid hkp
  have hln := tailS_len S n k hk
  clear hrow hkp
  by_cases hlt : k < 2
  ·have hidx := pair_index (S : Int) (n : Int) k hlt
   obtain ⟨v, hv⟩ : ∃ v : Nat, v = if k = 0 then S else n := ⟨_, rfl⟩
   have hvi : (if k = 0 then (S : Int) else (n : Int)) = (v : Int) := by rw [hv]; split <;> rfl
   have hvl : v < 4294967296 := by rw [hv]; split <;> omega
   have Hst : Hid (tailS S n (k + 1) = (tailS S n k ++ numBits (v % 65536) 16) ++ numBits (v / 65536) 16) := Lib.hid (by rw [hv]; exact tailS_succ S n k hlt)
   rw [hvi] at hidx
   have hand := and_low16 v (by omega)
   have hshr : (v : Int) / 65536 = ((v / 65536 : Nat) : Int) := by simp
   obtain ⟨lo, hlo⟩ : ∃ lo, lo = v % 65536 := ⟨_, rfl⟩
   obtain ⟨hi, hhi⟩ : ∃ hi, hi = v / 65536 := ⟨_, rfl⟩
   rw [← hlo] at hand Hst
   rw [← hhi] at hshr Hst
   have hlo2 : lo < 65536 := by omega
   have hhi2 : hi < 65536 := by omega
   have HP1 := Lib.hid (put_any p0 p0 lo 16 (tailS S n k) wr HRow.out (by omega) (by omega) (by omega))
   have hl2 : (tailS S n k ++ numBits lo 16).length ≤ 80 := by rw [List.length_append, numBits_length]; omega
   clear hv hvi hlo hhi
   go_wp2_with fail
   refine (HP1.out).mono ?_
   rintro e w5 ⟨rfl, hr5, hk5⟩
   have HP2 := Lib.hid (put_any p0 p0 hi 16 (tailS S n k ++ numBits lo 16) w5 hr5 (by omega) (by omega) (by omega))
   have HK5 := Lib.hid (HKp.out.trans hk5)
   clear hr5 hk5 HP1 HRow HKp
   go_wp2_with fail
   refine (HP2.out).mono ?_
   rintro e w6 ⟨rfl, hr6, hk6⟩
   have HR6 : Hid (RowAt w6 p0 p0 (tailS S n (k + 1))) := Lib.hid (by rw [Hst.out]; exact hr6)
   have HK6 := Lib.hid (HK5.out.trans hk6)
   clear hr6 hk6 HP2 HK5
   go_wp2_with fail
   go_roundw
   case rel => exact ⟨k + 1, by omega, by go_num, HR6.out, HK6.out⟩
   case measure => simp [intOf]; omega
  ·obtain rfl : k = 2 := by omega
   obtain ⟨hpp, v, hv1, hv2⟩ := HRow.out
   have hby := Lib.hid (bytes_any p0 v _ wr hv1)
   have Hv2 := Lib.hid hv2
   have Hbk := Lib.hid (Hb0.out.trans (HKp.out.below.mono Hw0.out))
   clear hv1 hv2 hpp HRow HKp
   go_wp2_with fail
   refine (hby.out).mono ?_
   rintro e w5 ⟨rfl, rfl⟩
   go_wp2_with fail
   go_ret
   exact ⟨⟨v, rfl, by rw [HT.out]; exact own_base Hv2.out Hw0.out⟩, Hbk.out⟩
def GPost (n : Nat) (xs : List UInt8) (w : World) (e : Ending) (w' : World) : Prop :=
  (3000 < n ∧ e = .returned (.tuple #[.slice none 0 0, .int .i64 2]) ∨
   n ≤ 3000 ∧ ∃ v, e = .returned (.tuple #[v, .int .i64 0]) ∧ w'.ownsRow w.heap.size 5 1 v (gzB xs).length ((gzB xs).map u8v)) ∧ Below w.heap.size w w'
theorem pack0_len (xs : List UInt8) (h : xs.length ≤ 3000) : (packB [xs] [0]).length ≤ 100000 := by
 unfold packB
 rw [pack_length]
 have := packK_len [xs] [0] (by simp; exact h) [xs].length
 simp only [List.length_cons, List.length_nil] at this ⊢
 omega
set_option maxRecDepth 100000 in
set_option maxHeartbeats 800000 in
theorem gzpack_any (A : Option Addr) (n c : Nat) (xs : List UInt8) (w : World) (hn : xs.length = n) (hnc : n ≤ c) (hcm : c ≤ maxLen) (hA : ByAt w A xs) :
  Calls Tryz.prog 22 #[.slice A n c] w (GPost n xs w) := by
 have HB := Lib.hid (best_any A n c xs w hn hnc hcm hA)
 have Hn := Lib.hid hn
 have HA := Lib.hid hA
 unfold maxLen at hcm
 clear hn hA
 go_enter Tryz.func22, Tryz.ntmps22
 go_wp2_with fail
 refine (HB.out).mono ?_
 rintro e w1 ⟨h, hb1⟩
 have Hb1 := Lib.hid hb1
 clear hb1 HB
 rcases h with ⟨h3, rfl⟩ | ⟨h3, v1, rfl, ho1⟩
 ·go_wp2_with fail
  go_ret2
  exact ⟨.inl ⟨h3, rfl⟩, Hb1.out⟩
 ·have HG : Hid (gzB xs = (hdr10 ++ (bestK xs 3).1) ++ tl xs) := Lib.hid rfl
  have hbl : (bestK xs 3).1.length ≤ 100000 := Nat.le_trans (best_first xs) (pack0_len xs (by rw [Hn.out]; exact h3))
  generalize (bestK xs 3).1 = B at *
  generalize (bestK xs 3).2 = kd at *
  obtain ⟨A1, c1, rfl, _, _, hs1, hz1⟩ := own_slat ho1
  have HS1 : Hid (ByAt w1 A1 B) := Lib.hid hs1
  have HZ1 := Lib.hid hz1
  obtain ⟨nb, hnb⟩ : ∃ nb, nb = B.length := ⟨_, rfl⟩
  rw [← hnb] at hbl HZ1 ⊢
  have Hnb := Lib.hid hnb.symm
  clear ho1 hs1 hz1 hnb
  go_wp2_with fail
  refine (head_any _).mono ?_
  rintro e w2 ⟨⟨v2, rfl, ho2⟩, hb2⟩
  have HO2 := Lib.hid (own_base ho2 Hb1.out.size)
  have Hb2 := Lib.hid (Hb1.out.trans (hb2.mono Hb1.out.size))
  have HS2 := Lib.hid (ByAt.below HS1.out hb2)
  have Hl : Hid ((B.map u8v).length = nb * 1) := Lib.hid (by rw [List.length_map, Hnb.out, Nat.mul_one])
  have Hone := Lib.hid (u8s_one B)
  clear ho2 hb2 HS1 Hb1
  go_wp2_with (at_builtin; refine wpList_appb rfl (.tmp 16) (.tmp 17) _ rfl 5 _ 1 1 ty8 _ 10 _ rfl HO2.out Hb2.out A1 nb c1 (B.map u8v) rfl Hl.out HS2.out Hone.out HZ1.out (by unfold maxLen; omega) (by omega) ?_; intro v3 w3 hown3 hb3 _ _; have HO3 := Lib.hid hown3; have Hb3 := Lib.hid hb3; clear hown3 hb3)
  refine (tail_any A n c xs w3 Hn.out (by omega) (ByAt.below HA.out Hb3.out)).mono ?_
  rintro e w4 ⟨⟨v4, rfl, ho4⟩, hb4⟩
  have HO4 := Lib.hid (own_keep HO3.out hb4)
  have Hb4 := Lib.hid (Hb3.out.trans (hb4.mono Hb3.out.size))
  rw [tl_len] at ho4
  obtain ⟨A4, c4, rfl, _, _, hs4, hz4⟩ := own_slat ho4
  have HS4 : Hid (SlAt w4 A4 ((tl xs).map u8v)) := Lib.hid hs4
  have HZ4 := Lib.hid hz4
  have Hl4 : Hid (((tl xs).map u8v).length = 8 * 1) := Lib.hid (by rw [List.length_map, tl_len])
  have Hone4 := Lib.hid (u8s_one (tl xs))
  clear ho4 hs4 hz4 hb4 HO3 Hb3 HO2 Hb2 HS2
  go_wp2_with (at_builtin; refine wpList_appb rfl (.tmp 18) (.tmp 20) _ rfl 5 _ 1 1 ty8 _ (10 + nb) _ rfl HO4.out Hb4.out A4 8 c4 ((tl xs).map u8v) rfl Hl4.out HS4.out Hone4.out HZ4.out (by unfold maxLen; omega) (by omega) ?_; intro v5 w5 hown5 hb5 _ _; have HO5 := Lib.hid hown5; have Hb5 := Lib.hid hb5; clear hown5 hb5)
  go_ret2
  refine ⟨.inr ⟨h3, v5, rfl, ?_⟩, Hb5.out⟩
  rw [HG.out]
  have e1 : ((hdr10 ++ B) ++ tl xs).length = 10 + nb + 8 := by rw [List.length_append, List.length_append, tl_len, hdr_len, Hnb.out]
  rw [e1, List.map_append, List.map_append]
  exact HO5.out
end Go.Proofs.YthpdcnjaodjjmaaGreat.Gz

/- package inflate: codes that are told. -/
namespace Go.Proofs.YthpdcnjaodjjmaaGreat.Inf
open Go Go.RowKit Go.Proofs.YthpdcnjaodjjmaaGreat Go.Proofs.YthpdcnjaodjjmaaGreat.Bits Go.Proofs.YthpdcnjaodjjmaaGreat.Code
set_option linter.unusedVariables false
set_option linter.unusedSimpArgs false

theorem tabAt_tb {w : World} {base b p : Nat} {zs : List Int} (h : TabAt w b p (lsOf zs)) (hb : base ≤ b) (hc : chkL zs = 0) : TbAt w base p (lsOf zs) := by
 obtain ⟨h1, v, h2, h3⟩ := h
 obtain ⟨c1, _, c2, c3, _⟩ := chk_fine zs hc
 exact ⟨⟨Nat.le_trans hb h1, v, h2, own_base h3 hb⟩, c3, c2, by unfold lsOf; rw [List.length_map]; exact c1⟩
theorem own_here {w : World} {base size n : Nat} {e : TypeId} {v : Value} {xs : List Value} (h : w.ownsRow base e size v n xs) (h0 : 0 < n) : ∃ g c, v = .slice (some ⟨g, 0, none⟩) n c ∧ base ≤ g ∧ n ≤ c ∧ c ≤ maxLen ∧ SlAt w (some ⟨g, 0, none⟩) xs := by
 obtain ⟨A, c, rfl, h1, h2, h3, _⟩ := own_slat h
 rcases h.2 with ⟨h1', _⟩ | ⟨g, cap', cur, hv, hb, hg, _⟩
 ·injection h1' with h1' h2'; omega
 ·injection hv with hv; subst hv; exact ⟨g, c, rfl, hb, h1, h2, h3⟩
theorem slat_nth {w : World} {g : Nat} {xs : List Value} (h : SlAt w (some ⟨g, 0, none⟩) xs) {k : Nat} {v : Value} (hk : xs[k]? = some v) : w.cell? ⟨g, k, none⟩ = some v := by
 obtain ⟨b, o, e, hc⟩ := h (by
  rcases Nat.eq_zero_or_pos xs.length with h0 | h0
  ·rw [List.eq_nil_of_length_eq_zero h0] at hk; cases hk
  ·exact h0)
 injection e with e
 injection e with e1 e2
 subst e1 e2
 have := hc k v hk
 rwa [Nat.zero_add] at this
theorem TbAt.old {w w' : World} {base p B0 : Nat} {ls : List Nat} (h : TbAt w base p ls) (hk : Below w.heap.size w w') : TbAt w' base p ls := by
 obtain ⟨⟨h1, v, h2, h3⟩, h4, h5, h6⟩ := h
 exact ⟨⟨h1, v, h2.below hk h2.lt, own_keep h3 hk⟩, h4, h5, h6⟩
theorem zs_iv (s : List Nat) : (zsOf s).map iv = s.map natV := by
 unfold zsOf
 rw [List.map_map]
 rfl
theorem orderL_lt : ∀ j < 19, orderL.getD j 0 < 19 := by decide
set_option maxRecDepth 100000 in
set_option maxHeartbeats 4000000 in
theorem codes_r (base g q : Nat) (A : Option Addr) (n c pos : Nat) (xs : List UInt8) (vo vk : Value) (w : World) (hq : base ≤ q) (hbw : base ≤ w.heap.size)
  (hb : Blk w g 86 #[.pointer (some ⟨q, 0, none⟩), vo, vk]) (hsrc : SrcAt w q A n c pos) (hp : pos ≤ 8 * n) (hi : InAt_ w base A n xs) :
  Calls Tryz.prog 70 #[.pointer (some ⟨g, 0, none⟩)] w fun e w' =>
   RPost (headR (bitsL xs) pos) (fun a e w' => ∃ p1 p2, e = .returned (.tuple #[.pointer (some ⟨p1, 0, none⟩), .pointer (some ⟨p2, 0, none⟩)]) ∧ TbAt w' base p1 a.2.1 ∧ TbAt w' base p2 a.2.2 ∧ SrcAt w' q A n c a.1 ∧ a.1 ≤ 8 * n) e w' ∧ OldK base w.heap.size srcT w w' := by
 obtain ⟨R, hR⟩ : ∃ R, R = headR (bitsL xs) pos := ⟨_, rfl⟩
 rw [← hR]
 unfold headR at hR
 have HU := Lib.hid hR
 have HB := Lib.hid hb
 have HS := Lib.hid hsrc
 have HI := Lib.hid hi
 have HO1 : Hid (OldK base w.heap.size srcT w w) := Lib.hid (OldK.refl _ _ _ _)
 have HI1 := HI
 have HB1 := HB
 have HS1 := HS
 have hp1 := hp
 have HG := Lib.hid (get_k base g q A n c pos 5 xs w hq (by rw [hb.cell]; rfl) hsrc hp hi (by omega))
 have hqlt : q < w.heap.size := Blk.lt hsrc
 clear hb hsrc hi hR
 go_enter Tryz.func70, Tryz.ntmps70
 go_wp2_with fail
 refine (HG.out).mono ?_
 rintro e w2 ⟨hr2, hk2⟩
 have HO2 := Lib.hid (HO1.out.keeps (hk2.mono hq (fun _ h => h)))
 cases hg2 : getR (bitsL xs) pos 5 with
 | bad z =>
  have he := rpost_bad hr2 hg2
  subst he
  have HU := Lib.hid (show R = .bad z by rw [HU.out, hg2]; rfl)
  clear hr2 hk2 hg2
  unfold stopE
  go_wp2_with fail
  exact ⟨rfl, bad_rpost HU.out, HO2.out⟩
 | ok a =>
  obtain ⟨he, hs2, hp2⟩ := rpost_ok hr2 hg2
  subst he
  have hx2 := getR_lt hg2
  replace HU := Lib.hid (HU.out.trans (by rw [hg2, then_ok]))
  have HB2 := Lib.hid (hk2.blk HB1.out (by decide))
  have HI2 := Lib.hid (HI1.out.keeps (hk2.mono hq (fun _ h => h)))
  have HS2 := Lib.hid hs2
  obtain ⟨x, p2⟩ := a
  dsimp only at hx2 HU HS2 hp2 ⊢
  have hxb : x < 32 := hx2
  have HKx := Lib.hid hk2
  clear hr2 hk2 hg2 hs2 HG hx2
  obtain ⟨m, hm⟩ : ∃ m, m = x + 257 := ⟨_, rfl⟩
  have hwm : IntKind.i64.wrap ((x : Int) + 257) = (m : Int) := by rw [show (x : Int) + 257 = (m : Int) by omega]; exact IntWalk.i64_in _ (by omega)
  rw [← hm] at HU
  have hm1 : 257 ≤ m := by omega

  have hm2 : m < 289 := by omega
  have HG := Lib.hid (get_k base g q A n c p2 5 xs w2 hq (by rw [HB2.out.cell]; rfl) HS2.out hp2 HI2.out (by omega))
  clear hm hxb
  go_wp2_with fail
  refine (HG.out).mono ?_
  rintro e w3 ⟨hr3, hk3⟩
  have HO3 := Lib.hid (HO2.out.keeps (hk3.mono hq (fun _ h => h)))
  cases hg3 : getR (bitsL xs) p2 5 with
  | bad z =>
   have he := rpost_bad hr3 hg3
   subst he
   have HU := Lib.hid (show R = .bad z by rw [HU.out, hg3]; rfl)
   clear hr3 hk3 hg3
   unfold stopE
   go_wp2_with fail
   exact ⟨rfl, bad_rpost HU.out, HO3.out⟩
  | ok a =>
   obtain ⟨he, hs3, hp3⟩ := rpost_ok hr3 hg3
   subst he
   have hx3 := getR_lt hg3
   replace HU := Lib.hid (HU.out.trans (by rw [hg3, then_ok]))
   have HB3 := Lib.hid (hk3.blk HB2.out (by decide))
   have HI3 := Lib.hid (HI2.out.keeps (hk3.mono hq (fun _ h => h)))
   have HS3 := Lib.hid hs3
   obtain ⟨x, p3⟩ := a
   dsimp only at hx3 HU HS3 hp3 ⊢
   have hxb : x < 32 := hx3
   have HKx := Lib.hid hk3
   clear hr3 hk3 hg3 hs3 HG hx3
   obtain ⟨d, hd⟩ : ∃ d, d = x + 1 := ⟨_, rfl⟩
   have hwd : IntKind.i64.wrap ((x : Int) + 1) = (d : Int) := by rw [show (x : Int) + 1 = (d : Int) by omega]; exact IntWalk.i64_in _ (by omega)
   rw [← hd] at HU
   have hd1 : 1 ≤ d := by omega

   have hd2 : d < 33 := by omega
   have HG := Lib.hid (get_k base g q A n c p3 4 xs w3 hq (by rw [HB3.out.cell]; rfl) HS3.out hp3 HI3.out (by omega))
   clear hd hxb
   go_wp2_with fail
   refine (HG.out).mono ?_
   rintro e w4 ⟨hr4, hk4⟩
   have HO4 := Lib.hid (HO3.out.keeps (hk4.mono hq (fun _ h => h)))
   cases hg4 : getR (bitsL xs) p3 4 with
   | bad z =>
    have he := rpost_bad hr4 hg4
    subst he
    have HU := Lib.hid (show R = .bad z by rw [HU.out, hg4]; rfl)
    clear hr4 hk4 hg4
    unfold stopE
    go_wp2_with fail
    exact ⟨rfl, bad_rpost HU.out, HO4.out⟩
   | ok a =>
    obtain ⟨he, hs4, hp4⟩ := rpost_ok hr4 hg4
    subst he
    have hx4 := getR_lt hg4
    replace HU := Lib.hid (HU.out.trans (by rw [hg4, then_ok]))
    have HB4 := Lib.hid (hk4.blk HB3.out (by decide))
    have HI4 := Lib.hid (HI3.out.keeps (hk4.mono hq (fun _ h => h)))
    have HS4 := Lib.hid hs4
    obtain ⟨x, p4⟩ := a
    dsimp only at hx4 HU HS4 hp4 ⊢
    have hxb : x < 16 := hx4
    have HKx := Lib.hid hk4
    clear hr4 hk4 hg4 hs4 HG hx4
    obtain ⟨C, hC⟩ : ∃ C, C = x + 4 := ⟨_, rfl⟩
    have hwC : IntKind.i64.wrap ((x : Int) + 4) = (C : Int) := by rw [show (x : Int) + 4 = (C : Int) by omega]; exact IntWalk.i64_in _ (by omega)
    rw [← hC] at HU
    have hC1 : 4 ≤ C := by omega

    have hC2 : C ≤ 19 := by omega
    clear hC hxb
    by_cases hbad : 286 < m ∨ 30 < d
    ·have HU := Lib.hid (show R = .bad 8 by rw [HU.out, if_pos hbad])
     have hcnd : (decide ((m : Int) > 286) || decide ((d : Int) > 30)) = true := by
      rcases hbad with h | h
      ·have : (m : Int) > 286 := by omega
       simp [this]
      ·have : (d : Int) > 30 := by omega
       simp [this]
     rcases (by omega : 286 < m ∨ (m ≤ 286 ∧ 30 < d)) with h1 | ⟨h1, h2⟩
     ·have h1' : (286 : Int) < (m : Int) := by omega
      clear hcnd hbad
      go_wp2_with fail
      refine (fail_any 8 _).mono ?_
      rintro e w5 ⟨rfl, rfl⟩
      unfold stopE
      go_wp2_with fail
      exact ⟨rfl, bad_rpost HU.out, HO4.out⟩
     ·have h1' : (m : Int) ≤ 286 := by omega
      have h2' : (30 : Int) < (d : Int) := by omega
      clear hcnd hbad
      go_wp2_with fail
      refine (fail_any 8 _).mono ?_
      rintro e w5 ⟨rfl, rfl⟩
      unfold stopE
      go_wp2_with fail
      exact ⟨rfl, bad_rpost HU.out, HO4.out⟩
    ·replace HU := Lib.hid (HU.out.trans (if_neg hbad))
     have hm3 : m ≤ 286 := by omega
     have hd3 : d ≤ 30 := by omega
     have hm' : (m : Int) ≤ 286 := by omega
     have hd' : (d : Int) ≤ 30 := by omega
     clear hbad hm2 hd2
     have hmk : ∀ u : World, (Instr.makeSlice 23 (.int .i64 19) (.int .i64 19)).run Tryz.prog u = .ok (.slice (some ⟨u.heap.size, 0, none⟩) 19 19) (u.alloc (.cells (nats (List.replicate 19 0)) 3)) := fun u => by rw [← nats_zero]; exact make_ints 19 (by omega) u
     have HOr := Lib.hid (order_any (w4.alloc (.cells (nats (List.replicate 19 0)) 3)))
     go_wp2_with fail
     refine (HOr.out).mono ?_
     rintro e w5 ⟨rfl, hb5⟩
     have hst := store_ord w5
     have hB4 := HO4.out.size
     have HO5 : Hid (OldK base w.heap.size srcT w w5) := Lib.hid ((HO4.out.below ((Below.refl _ _).alloc hB4 _) hbw).below (hb5.mono (by simp; omega)) hbw)
     have HS5 : Hid (SrcAt w5 q A n c p4) := Lib.hid (Blk.below ((HS4.out.below ((Below.refl _ _).alloc (Nat.le_refl _) _) (Blk.lt HS4.out))) hb5 (by have := Blk.lt HS4.out; simp; omega))
     obtain ⟨F, hU, hF⟩ : ∃ F, (R = (sizesR (bitsL xs) (orderL.take C) p4 (List.replicate 19 0)).then_ F) ∧ F = _ := ⟨_, HU.out, rfl⟩
     have HU := Lib.hid hU
     have HF := Lib.hid hF
     clear hU
     have Hsz : Hid (Blk w5 w4.heap.size 3 (nats (List.replicate 19 0))) := Lib.hid ((Blk.new w4 3 (nats (List.replicate 19 0))).below hb5 (by simp))
     have hC' : (C : Int) ≤ 19 := by omega
     have hC0 : (0 : Int) ≤ (C : Int) := by omega
     have hlt5 : w4.heap.size < w5.heap.size := by have := Blk.lt Hsz.out; omega
     have hgs : w.heap.size ≤ w4.heap.size := hB4
     clear hF hb5 HOr hmk
     go_wp2_with fail
     have hb6 : Below w5.heap.size w5 ((w5.alloc (.cells #[.int .i64 0, .int .i64 0, .int .i64 0, .int .i64 0, .int .i64 0, .int .i64 0, .int .i64 0, .int .i64 0, .int .i64 0, .int .i64 0, .int .i64 0, .int .i64 0, .int .i64 0, .int .i64 0, .int .i64 0, .int .i64 0, .int .i64 0, .int .i64 0, .int .i64 0] 104)).setRow w5.heap.size ordA) := below_setRow ((Below.refl _ _).alloc (Nat.le_refl _) _) (Nat.le_refl _) _
     have HO6 := Lib.hid (HO5.out.below (hb6.mono HO5.out.size) hbw)
     have HS6 := Lib.hid (Blk.below HS5.out hb6 (Blk.lt HS5.out))
     have Hsz6 := Lib.hid (Hsz.out.below hb6 hlt5)
     have Hor6 : Hid (Blk ((w5.alloc (.cells #[.int .i64 0, .int .i64 0, .int .i64 0, .int .i64 0, .int .i64 0, .int .i64 0, .int .i64 0, .int .i64 0, .int .i64 0, .int .i64 0, .int .i64 0, .int .i64 0, .int .i64 0, .int .i64 0, .int .i64 0, .int .i64 0, .int .i64 0, .int .i64 0, .int .i64 0] 104)).setRow w5.heap.size ordA) w5.heap.size 104 ordA) := Lib.hid ((Blk.new _ _ _).setRow ordA)
     have hgo : w.heap.size ≤ w5.heap.size := HO5.out.size
     generalize ((w5.alloc (.cells #[.int .i64 0, .int .i64 0, .int .i64 0, .int .i64 0, .int .i64 0, .int .i64 0, .int .i64 0, .int .i64 0, .int .i64 0, .int .i64 0, .int .i64 0, .int .i64 0, .int .i64 0, .int .i64 0, .int .i64 0, .int .i64 0, .int .i64 0, .int .i64 0, .int .i64 0] 104)).setRow w5.heap.size ordA) = w6 at *
     generalize w4.heap.size = gs at *
     generalize w5.heap.size = go at *
     clear hst HS5 Hsz HO5 hb6
     go_loopw [33] (fun vi wr => ∃ (j p : Nat) (s : List Nat), j ≤ C ∧ vi = .int .i64 (j : Int) ∧ s.length = 19 ∧ R = (sizesR (bitsL xs) ((orderL.take C).drop j) p s).then_ F ∧ p ≤ 8 * n ∧ SrcAt wr q A n c p ∧ Blk wr gs 3 (nats s) ∧ Blk wr go 104 ordA ∧ OldK base w.heap.size srcT w wr) (fun vi _ => C - (intOf vi).toNat)
     case atStart => exact ⟨0, p4, List.replicate 19 0, Nat.zero_le _, rfl, rfl, HU.out, hp4, HS6.out, Hsz6.out, Hor6.out, HO6.out⟩
     case round =>
      obtain ⟨j, p, s, hj, rfl, hsl, hR, hple, hsr, hsz, hor, hold⟩ := hrel
      have Hsl := Lib.hid hsl
      clear HU HO6 HS6 Hsz6 Hor6 hsl
      have HI6 := Lib.hid (HI.out.old hold)
      have HB6 := Lib.hid (hold.blk HB.out (by decide))
      have HO6 := Lib.hid hold
      have HS6 := Lib.hid hsr
      have Hsz := Lib.hid hsz
      have Hor := Lib.hid hor
      by_cases hlt : j < C
      ·obtain ⟨k, hk⟩ : ∃ k, k = orderL.getD j 0 := ⟨_, rfl⟩
       have hk19 : k < 19 := by rw [hk]; exact orderL_lt j (by omega)
       have hcell : wr.cell? ⟨go, j, none⟩ = some (.int .i64 (k : Int)) := by
        have hj19 : j < orderL.length := by show j < 19; omega
        rw [hor.cell, ordA_eq, List.getElem?_toArray, List.getElem?_map, List.getElem?_eq_getElem hj19, hk, List.getD_eq_getElem?_getD, List.getElem?_eq_getElem hj19]
        rfl
       have hdr : (orderL.take C).drop j = k :: (orderL.take C).drop (j + 1) := by
        have hj19 : j < (orderL.take C).length := by rw [List.length_take]; show j < min C 19; omega
        rw [List.drop_eq_getElem_cons hj19, hk, List.getElem_take, List.getD_eq_getElem?_getD, List.getElem?_eq_getElem (by show j < 19; omega)]
        rfl
       have HU := Lib.hid (show R = ((getR (bitsL xs) p 3).then_ fun x => sizesR (bitsL xs) ((orderL.take C).drop (j + 1)) x.2 (s.set k x.1)).then_ F by rw [hR, hdr]; rfl)
       have HG := Lib.hid (get_k base g q A n c p 3 xs wr hq (by rw [HB6.out.cell]; rfl) hsr hple HI6.out (by omega))
       have hjC : (j : Int) < (C : Int) := by omega
       have hj0 : (0 : Int) ≤ (j : Int) := by omega
       have hk0 : (0 : Int) ≤ (k : Int) := by omega
       have hk19' : (k : Int) < 19 := by omega
       clear hk hdr hR hold hsr hsz hor
       go_wp2_with fail
       refine (HG.out).mono ?_
       rintro e w7 ⟨hr7, hk7⟩
       have HO7 := Lib.hid (HO6.out.keeps (hk7.mono hq (fun _ h => h)))
       cases hg7 : getR (bitsL xs) p 3 with
       | bad z =>
        have he := rpost_bad hr7 hg7
        subst he
        have HU := Lib.hid (show R = .bad z by rw [HU.out, hg7]; rfl)
        clear hr7 hk7 hg7
        unfold stopE
        go_wp2_with fail
        exact ⟨rfl, bad_rpost HU.out, HO7.out⟩
       | ok a =>
        obtain ⟨he, hs7, hp7⟩ := rpost_ok hr7 hg7
        subst he
        have hx7 := getR_lt hg7
        replace HU := Lib.hid (HU.out.trans (by rw [hg7, then_ok]))
        have HB7 := Lib.hid (hk7.blk HB6.out (by decide))
        have HI7 := Lib.hid (HI6.out.keeps (hk7.mono hq (fun _ h => h)))
        have HS7 := Lib.hid hs7
        obtain ⟨x, p7⟩ := a
        dsimp only at hx7 HU HS7 hp7 ⊢
        have hxb : x < 8 := hx7
        have HKx := Lib.hid hk7
        clear hr7 hk7 hg7 hs7 HG hx7
        have Hsz7 := Lib.hid (HKx.out.blk Hsz.out (by decide))
        have Hor7 := Lib.hid (HKx.out.blk Hor.out (by decide))
        have hc7 : w7.cell? ⟨gs, k, none⟩ = some (.int .i64 ((s.getD k 0 : Nat) : Int)) := by
         rw [Hsz7.out.cell, nats_get _ _ (by rw [Hsl.out]; exact hk19), List.getD_eq_getElem?_getD, List.getElem?_eq_getElem (by rw [Hsl.out]; exact hk19)]
         rfl
        have hf7 := Hsz7.out.frozen k
        have HU := Lib.hid (show R = (sizesR (bitsL xs) ((orderL.take C).drop (j + 1)) p7 (s.set k x)).then_ F from HU.out)
        generalize s.getD k 0 = ov at hc7
        clear HKx Hsz Hor
        go_wp2_with fail
        go_roundw
        case rel => exact ⟨j + 1, p7, s.set k x, by omega, by go_num, by rw [List.length_set]; exact Hsl.out, HU.out, hp7, Blk.far HS7.out (p := ⟨gs, k, none⟩) (by show q ≠ gs; omega) _, by rw [← nats_set]; exact Hsz7.out.set_ k _, Hor7.out.far (p := ⟨gs, k, none⟩) (by show go ≠ gs; omega) _, HO7.out.below ((Below.refl _ _).setCell (p := ⟨gs, k, none⟩) hgs _) hbw⟩
        case measure => simp [intOf]; omega
      ·obtain rfl : j = C := by omega
       have HU := Lib.hid (show R = F (p, s) by rw [hR, List.drop_of_length_le (by rw [List.length_take]; omega)]; rfl)
       rw [HF.out] at HU
       dsimp only at HU
       have HT := Lib.hid (table_r (some ⟨gs, 0, none⟩) 19 19 (zsOf s) wr (by unfold zsOf; rw [List.length_map]; exact Hsl.out) (by decide) (show SlAt _ _ _ by rw [zs_iv]; exact SlAt.of_heap hsz (by simp [nats])))
       have hB6 := hold.size
       obtain ⟨N, hN⟩ : ∃ N, N = m + d := ⟨_, rfl⟩
       have hwN : IntKind.i64.wrap ((m : Int) + (d : Int)) = (N : Int) := by rw [show (m : Int) + (d : Int) = (N : Int) by omega]; exact IntWalk.i64_in _ (by omega)
       have hN1 : m < N := by omega
       have hN2 : N ≤ 316 := by omega
       have hNd : N - m = d := by omega
       rw [← hN] at HU
       have hj19 : ¬ (j : Int) < (j : Int) := by omega
       clear hN hR hold hsr hsz hor HF Hsz Hor
       go_wp2_with fail
       refine (HT.out).mono ?_
       rintro e w8 ⟨hr8, hb8⟩
       have HO8 := Lib.hid (HO6.out.below (hb8.mono hB6) hbw)
       cases ht8 : tableR (zsOf s) with
       | bad z =>
        have he := rpost_bad hr8 ht8
        subst he
        have HU := Lib.hid (show R = .bad z by rw [HU.out, ht8]; rfl)
        clear hr8 hb8 ht8
        unfold stopE
        go_wp2_with fail
        exact ⟨rfl, bad_rpost HU.out, HO8.out⟩
       | ok ls =>
        obtain ⟨hc8, tp, he, ht⟩ := rpost_ok hr8 ht8
        subst he
        have els : lsOf (zsOf s) = ls := by
         unfold tableR at ht8
         rw [if_pos hc8] at ht8
         injection ht8
        rw [← els] at ht
        have HTb := Lib.hid (show TbAt w8 base tp ls by rw [← els]; exact tabAt_tb ht (Nat.le_trans hbw hB6) hc8)
        replace HU := Lib.hid (HU.out.trans (by rw [ht8, then_ok]))
        have HS8 := Lib.hid (Blk.below HS6.out hb8 (Blk.lt HS6.out))
        have HB8 := Lib.hid (HB6.out.below hb8 (Blk.lt HB6.out))
        have HI8 := Lib.hid (HI.out.old HO8.out)
        have hbw8 : base ≤ w8.heap.size := Nat.le_trans hbw HO8.out.size
        have HL := Lib.hid (lengths_r base base g q tp A n c p N xs ls vo vk w8 hq hbw8 HB8.out HS8.out hple HI8.out HTb.out hN2)
        clear hr8 hb8 ht8 els ht hc8 HT
        go_wp2_with fail
        refine (HL.out).mono ?_
        rintro e w9 ⟨hr9, hk9⟩
        have HO9 := Lib.hid (HO8.out.trans (hk9.mono HO8.out.size))
        cases hl9 : lenR (bitsL xs) ls N N p [] with
        | bad z =>
         have he := rpost_bad hr9 hl9
         subst he
         have HU := Lib.hid (show R = .bad z by rw [HU.out, hl9]; rfl)
         clear hr9 hk9 hl9
         unfold stopE
         go_wp2_with fail
         exact ⟨rfl, bad_rpost HU.out, HO9.out⟩
        | ok a =>
         obtain ⟨A9, c9, he, hll, hown, hs9, hp9⟩ := rpost_ok hr9 hl9
         subst he
         replace HU := Lib.hid (HU.out.trans (by rw [hl9, then_ok]))
         obtain ⟨p9, l⟩ := a
         dsimp only at hll hown hs9 hp9 HU ⊢
         obtain ⟨g9, c9', e9, hg9, hc9, hc9m, hsl9⟩ := own_here hown (by omega)
         injection e9 with e1 e2 e3
         subst e1 e3
         have HOwn := Lib.hid hown
         have HS9 := Lib.hid hs9
         obtain ⟨v, hv⟩ : ∃ v, v = l.getD 256 0 := ⟨_, rfl⟩
         have hl256 : l[256]? = some v := by rw [hv, List.getD_eq_getElem?_getD, List.getElem?_eq_getElem (by omega)]; rfl
         have hc256 : w9.cell? ⟨g9, 256, none⟩ = some (.int .i64 (v : Int)) := by
          exact slat_nth hsl9 (by rw [List.getElem?_map, hl256]; rfl)
         rw [← hv] at HU
         have hN256 : (256 : Int) < (N : Int) := by omega
         have Hl := Lib.hid hll
         clear hr9 hk9 hl9 hown hs9 hv hl256 hll hsl9 HL
         by_cases hv0 : v = 0
         ·subst hv0
          have HU := Lib.hid (show R = .bad 8 by rw [HU.out, if_pos rfl])
          go_wp2_with fail
          refine (fail_any 8 _).mono ?_
          rintro e w10 ⟨rfl, rfl⟩
          unfold stopE
          go_wp2_with fail
          exact ⟨rfl, bad_rpost HU.out, HO9.out⟩
         ·replace HU := Lib.hid (HU.out.trans (if_neg hv0))
          have hvb : ((v : Int) == 0) = false := by rw [beq_eq_false_iff_ne]; omega
          clear hv0
          go_wp2_with fail
          have hmN : (m : Int) ≤ (N : Int) := by omega
          have hm0 : (0 : Int) ≤ (m : Int) := by omega
          have hNc : (N : Int) ≤ (c9 : Int) := by omega
          have hmc : (m : Int) ≤ (c9 : Int) := by omega
          have hmc' : ¬ (c9 = m) := by omega
          have hmcn : (m : Int) ≠ (c9 : Int) := by omega
          refine wp_region_S (fun _ => True) 9 (by kernel_rfl) ?_
          have hHeld : True := True.intro
          obtain ⟨w10, hw10⟩ : ∃ w10, w10 = w9.drew := ⟨_, rfl⟩
          have hb10 : Below w9.heap.size w9 w10 := by rw [hw10]; exact (Below.refl _ _).drew
          have HOwn := Lib.hid (own_keep HOwn.out hb10)
          have HS10 := Lib.hid (Blk.below HS9.out hb10 (Blk.lt HS9.out))
          have HO10 := Lib.hid (HO9.out.below (hb10.mono HO9.out.size) hbw)
          rw [← hw10]
          clear hw10 hb10 hc256 HS9 HO9
          refine wpAnyS_takeT (i := 0) (v := ?va0) (by kernel_rfl) (by kernel_rfl) rfl (by kernel_rfl) (by kernel_rfl) (by kernel_rfl) (fun _ _ _ h => h) (by rfl) (by assumption) ?hya0 ?resta0
          case hya0 => (intro W hSW; (try dsimp only at hSW); go_simp; try with_reducible rfl)
          (try simp only [Act.put, List.getElem_toArray, List.getElem_cons_zero, List.getElem_cons_succ, List.setIfInBounds_toArray, List.set_cons_zero, List.set_cons_succ])
          refine wpAnyS_takeT (i := 1) (v := ?va1) (by kernel_rfl) (by kernel_rfl) rfl (by kernel_rfl) (by kernel_rfl) (by kernel_rfl) (fun _ _ _ h => h) (by rfl) (by assumption) ?hya1 ?resta1
          case hya1 => (intro W hSW; (try dsimp only at hSW); go_simp; try with_reducible rfl)
          (try simp only [Act.put, List.getElem_toArray, List.getElem_cons_zero, List.getElem_cons_succ, List.setIfInBounds_toArray, List.set_cons_zero, List.set_cons_succ])
          refine wpAnyS_takeT (i := 2) (v := ?va2) (by kernel_rfl) (by kernel_rfl) rfl (by kernel_rfl) (by kernel_rfl) (by kernel_rfl) (fun _ _ _ h => h) (by rfl) (by assumption) ?hya2 ?resta2
          case hya2 => (intro W hSW; (try dsimp only at hSW); go_simp; try with_reducible rfl)
          (try simp only [Act.put, List.getElem_toArray, List.getElem_cons_zero, List.getElem_cons_succ, List.setIfInBounds_toArray, List.set_cons_zero, List.set_cons_succ])
          refine wpAnyS_takeT (i := 4) (v := ?va4) (by kernel_rfl) (by kernel_rfl) rfl (by kernel_rfl) (by kernel_rfl) (by kernel_rfl) (fun _ _ _ h => h) (by rfl) (by assumption) ?hya4 ?resta4
          case hya4 => (intro W hSW; (try dsimp only at hSW); go_simp; try with_reducible rfl)
          (try simp only [Act.put, List.getElem_toArray, List.getElem_cons_zero, List.getElem_cons_succ, List.setIfInBounds_toArray, List.set_cons_zero, List.set_cons_succ])
          refine wpAnyS_takeT (i := 5) (v := ?va5) (by kernel_rfl) (by kernel_rfl) rfl (by kernel_rfl) (by kernel_rfl) (by kernel_rfl) (fun _ _ _ h => h) (by rfl) (by assumption) ?hya5 ?resta5
          case hya5 => (intro W hSW; (try dsimp only at hSW); go_simp; try with_reducible rfl)
          (try simp only [Act.put, List.getElem_toArray, List.getElem_cons_zero, List.getElem_cons_succ, List.setIfInBounds_toArray, List.set_cons_zero, List.set_cons_succ])
          refine wpAnyS_takeT (i := 6) (v := ?va6) (by kernel_rfl) (by kernel_rfl) rfl (by kernel_rfl) (by kernel_rfl) (by kernel_rfl) (fun _ _ _ h => h) (by rfl) (by assumption) ?hya6 ?resta6
          case hya6 => (intro W hSW; (try dsimp only at hSW); go_simp; try with_reducible rfl)
          (try simp only [Act.put, List.getElem_toArray, List.getElem_cons_zero, List.getElem_cons_succ, List.setIfInBounds_toArray, List.set_cons_zero, List.set_cons_succ])
          obtain ⟨gb, gcap, eg, _, _, _, hsl⟩ := own_here HOwn.out (by omega)
          injection eg with e1 e2 e3
          injection e1 with e1
          injection e1 with e1
          subst e1 e3
          have htake : (l.take m).length = m := by rw [List.length_take, Hl.out]; omega
          have hdrop : (l.drop m).length = d := by rw [List.length_drop, Hl.out]; exact hNd
          have HT1 := Lib.hid (fun W (h : SlAt W (some ⟨g9, 0, none⟩) ((l.map natV))) (cc : Nat) => table_r (some ⟨g9, 0, none⟩) m cc (zsOf (l.take m)) W (by unfold zsOf; rw [List.length_map]; exact htake) (by unfold maxLen; omega) (show SlAt _ _ _ by rw [zs_iv, List.map_take]; exact SlAt.take h m))
          have HT2 := Lib.hid (fun W (h : SlAt W (some ⟨g9, 0, none⟩) ((l.map natV))) (cc : Nat) => table_r (some ⟨g9, m, none⟩) d cc (zsOf (l.drop m)) W (by unfold zsOf; rw [List.length_map]; exact hdrop) (by unfold maxLen; omega) (show SlAt _ _ _ by rw [zs_iv, List.map_drop]; have := SlAt.drop h m; rwa [Nat.zero_add] at this))
          have Hsl := Lib.hid hsl
          have hB10 := HO10.out.size
          clear hsl htake hdrop HOwn
          refine wpAnyS_only (i := 3) rfl (by kernel_rfl) (fun K hK => ?_)
          go_simp
          clear hHeld
          go_at_call 96
          refine (HT1.out w10 Hsl.out _).mono ?_
          rintro e w11 ⟨hr11, hb11⟩
          have HO11 := Lib.hid (HO10.out.below (hb11.mono hB10) hbw)
          cases ht11 : tableR (zsOf (l.take m)) with
          | bad z =>
           have he := rpost_bad hr11 ht11
           subst he
           have HU := Lib.hid (show R = .bad z by rw [HU.out, ht11]; rfl)
           clear hr11 hb11 ht11
           unfold stopE
           go_wp2_with fail
           exact ⟨rfl, bad_rpost HU.out, HO11.out⟩
          | ok l1 =>
           obtain ⟨hc11, p1, he, ht⟩ := rpost_ok hr11 ht11
           subst he
           have els : lsOf (zsOf (l.take m)) = l1 := by
            unfold tableR at ht11
            rw [if_pos hc11] at ht11
            injection ht11
           rw [← els] at ht
           have HTb1 := Lib.hid (show TbAt w11 base p1 l1 by rw [← els]; exact tabAt_tb ht (Nat.le_trans hbw hB10) hc11)
           replace HU := Lib.hid (HU.out.trans (by rw [ht11, then_ok]))
           have HS11 := Lib.hid (Blk.below HS10.out hb11 (Blk.lt HS10.out))
           have Hsl := Lib.hid (SlAt.below Hsl.out hb11)
           have hB11 := HO11.out.size
           clear hr11 hb11 ht11 els ht hc11 HT1 HS10
           refine hK.out _ _ True.intro (fun hHeld => ?_)
           clear hK K
           (try simp only [Act.put, List.getElem_toArray, List.getElem_cons_zero, List.getElem_cons_succ, List.setIfInBounds_toArray, List.set_cons_zero, List.set_cons_succ])
           refine wpAnyS_only (i := 7) rfl (by kernel_rfl) (fun K hK => ?_)
           go_simp
           go_at_call 96
           refine (HT2.out w11 Hsl.out _).mono ?_
           rintro e w12 ⟨hr12, hb12⟩
           have HO12 := Lib.hid (HO11.out.below (hb12.mono hB11) hbw)
           cases ht12 : tableR (zsOf (l.drop m)) with
           | bad z =>
            have he := rpost_bad hr12 ht12
            subst he
            have HU := Lib.hid (show R = .bad z by rw [HU.out, ht12]; rfl)
            clear hr12 hb12 ht12
            unfold stopE
            go_wp2_with fail
            exact ⟨rfl, bad_rpost HU.out, HO12.out⟩
           | ok l2 =>
            obtain ⟨hc12, p2', he, ht⟩ := rpost_ok hr12 ht12
            subst he
            have els : lsOf (zsOf (l.drop m)) = l2 := by
             unfold tableR at ht12
             rw [if_pos hc12] at ht12
             injection ht12
            rw [← els] at ht
            have HTb2 := Lib.hid (show TbAt w12 base p2' l2 by rw [← els]; exact tabAt_tb ht (Nat.le_trans hbw hB11) hc12)
            have HTb1 := Lib.hid (HTb1.out.old (B0 := 0) hb12)
            replace HU := Lib.hid (HU.out.trans (by rw [ht12, then_ok]))
            have HS12 := Lib.hid (Blk.below HS11.out hb12 (Blk.lt HS11.out))
            clear hr12 hb12 ht12 els ht hc12 HT2 HS11 Hsl
            refine hK.out _ _ True.intro (fun hHeld => ?_)
            clear hK K
            (try simp only [Act.put, List.getElem_toArray, List.getElem_cons_zero, List.getElem_cons_succ, List.setIfInBounds_toArray, List.set_cons_zero, List.set_cons_succ])
            refine wpAnyS_only (i := 8) rfl (by kernel_rfl) (fun K hK => ?_)
            go_simp
            refine hK.out _ _ True.intro (fun hHeld => ?_)
            clear hK K
            (try simp only [Act.put, List.getElem_toArray, List.getElem_cons_zero, List.getElem_cons_succ, List.setIfInBounds_toArray, List.set_cons_zero, List.set_cons_succ])
            refine wpAnyS_last rfl (by kernel_rfl) (by kernel_rfl) (fun K hK => ?_)
            go_simp
            refine hK.out _ _ ?_
            clear hK K
            go_wp2_with fail
            go_ret2
            exact ⟨ok_rpost HU.out ⟨p1, p2', rfl, HTb1.out, HTb2.out, HS12.out, hp9⟩, HO12.out⟩
end Go.Proofs.YthpdcnjaodjjmaaGreat.Inf

/- package inflate: a block. -/
namespace Go.Proofs.YthpdcnjaodjjmaaGreat.Inf
open Go Go.RowKit Go.Proofs.YthpdcnjaodjjmaaGreat Go.Proofs.YthpdcnjaodjjmaaGreat.Bits Go.Proofs.YthpdcnjaodjjmaaGreat.Code
set_option linter.unusedVariables false
set_option linter.unusedSimpArgs false

def infT2 : List TypeId := [86, 122, 5, 3]
theorem kT2 {base : Nat} {w w' : World} (hk : Keeps base infT w w') : Keeps base infT2 w w' := hk.mono (Nat.le_refl _) (fun t ht => by simp only [infT, List.mem_cons, List.not_mem_nil, or_false] at ht; rcases ht with h | h | h <;> subst h <;> simp [infT2])
theorem kT3 {base : Nat} {w w' : World} (hk : Keeps base srcT w w') : Keeps base infT w w' := kT hk (Nat.le_refl _)
theorem RdAt.filledO {w w' : World} {base g q : Nat} {A : Option Addr} {n c pos pos' : Nat} {out : List UInt8} {ks : List Nat} (h : RdAt w base g q A n c pos out ks) (hk : Keeps base srcT w w') (hs : SrcAt w' q A n c pos') (hp : pos' ≤ 8 * n) : RdAt w' base g q A n c pos' out ks := by
 obtain ⟨hg, hq, _, hfew, ⟨vo, vk, hb, ho, hk'⟩, _⟩ := h
 exact ⟨hg, hq, hp, hfew, ⟨vo, vk, hk.blk hb (by decide), hk.own ho (by decide), hk.own hk' (by decide)⟩, hs⟩
theorem RdAt.rdr {w : World} {base g q : Nat} {A : Option Addr} {n c pos : Nat} {out : List UInt8} {ks : List Nat} (h : RdAt w base g q A n c pos out ks) : ∃ vo vk, Blk w g 86 #[.pointer (some ⟨q, 0, none⟩), vo, vk] := by
 obtain ⟨_, _, _, _, ⟨vo, vk, hb, _, _⟩, _⟩ := h
 exact ⟨vo, vk, hb⟩
theorem lsOf_zsOf (l : List Nat) : lsOf (zsOf l) = l := by
 unfold lsOf zsOf
 rw [List.map_map]
 exact (List.map_congr_left (fun x _ => by simp)).trans (List.map_id l)
theorem chk_fixA : chkL (zsOf fixedA) = 0 := by decide +kernel
theorem chk_fixB : chkL (zsOf fixedB) = 0 := by decide +kernel
set_option maxRecDepth 100000 in
set_option maxHeartbeats 1600000 in
theorem kind_any {w : World} {base g q : Nat} {A : Option Addr} {n c pos : Nat} {out : List UInt8} {ks : List Nat} (h : RdAt w base g q A n c pos out ks) : ∃ vo Ak kl ck, kl = ks.length ∧ Blk w g 86 #[.pointer (some ⟨q, 0, none⟩), vo, .slice Ak kl ck] ∧ w.ownsRow base 5 1 vo out.length (out.map u8v) ∧ w.ownsRow base 3 1 (.slice Ak kl ck) kl (ks.map natV) := by
 obtain ⟨_, _, _, _, ⟨vo, vk, hb, ho, hk⟩, _⟩ := h
 obtain ⟨Ak, ck, rfl, _⟩ := own_slat hk
 exact ⟨vo, Ak, _, ck, rfl, hb, ho, hk⟩
theorem hkl_vo {w : World} {o : Obj} {g : Nat} {t : TypeId} {a vo vk vo' vk' : Value} (h1 : Blk w g t #[a, vo, vk]) (h2 : Blk (w.alloc o) g t #[a, vo', vk']) : vo = vo' := by
 have := (h1.alloc o).symm.trans h2
 injection this with this
 injection this with this
 simp at this
 exact this.1
set_option maxRecDepth 100000 in
set_option maxHeartbeats 1600000 in
theorem block_r (base g q : Nat) (A : Option Addr) (n c pos : Nat) (xs : List UInt8) (out : List UInt8) (ks : List Nat) (w : World) (h : RdAt w base g q A n c pos out ks) (hi : InAt_ w base A n xs) (hn : n ≤ 1000000) (hkl : ks.length ≤ 1000000) :
  Calls Tryz.prog 43 #[.pointer (some ⟨g, 0, none⟩)] w fun e w' =>
   RPost (blockR (bitsL xs) pos out) (fun a e w' => e = .returned (.bool a.1) ∧ RdAt w' base g q A n c a.2.2.1 a.2.2.2 (ks ++ [a.2.1])) e w' ∧ Keeps base infT2 w w' := by
 obtain ⟨R, hR⟩ : ∃ R, R = blockR (bitsL xs) pos out := ⟨_, rfl⟩
 rw [← hR]
 unfold blockR at hR
 have HU := Lib.hid hR
 have HR1 := Lib.hid h
 have HI := Lib.hid hi
 have hq := h.qle
 have HG := Lib.hid (get_r base g q A n c pos 1 xs out ks w h hi (by omega))
 clear h hi hR
 go_enter Tryz.func43, Tryz.ntmps43
 go_wp2_with fail
 refine (HG.out).mono ?_
 rintro e w2 ⟨hr2, hk2⟩
 have HK2 := Lib.hid (kT2 hk2)
 have HI2 := Lib.hid (HI.out.keeps hk2)
 cases hg2 : getR (bitsL xs) pos 1 with
 | bad z =>
  have he := rpost_bad hr2 hg2
  subst he
  have HU := Lib.hid (show R = .bad z by rw [HU.out, hg2]; rfl)
  clear hr2 hk2 hg2
  unfold stopE
  go_wp2_with fail
  exact ⟨rfl, bad_rpost HU.out, HK2.out⟩
 | ok a =>
  obtain ⟨he, hrd2⟩ := rpost_ok hr2 hg2
  subst he
  replace HU := Lib.hid (HU.out.trans (by rw [hg2, then_ok]))
  have HR2 := Lib.hid hrd2
  obtain ⟨x, p2⟩ := a
  dsimp only at HU HR2 ⊢
  obtain ⟨lb, hlb⟩ : ∃ lb, lb = (x == 1) := ⟨_, rfl⟩
  have hlb' : ((x : Int) == 1) = lb := by
   rw [hlb, Bool.eq_iff_iff]
   simp only [beq_iff_eq]
   omega
  rw [← hlb] at HU
  have HG := Lib.hid (get_r base g q A n c p2 2 xs out ks w2 HR2.out HI2.out (by omega))
  clear hr2 hk2 hg2 hrd2 hlb
  go_wp2_with fail
  refine (HG.out).mono ?_
  rintro e w3 ⟨hr3, hk3⟩
  have HK3 := Lib.hid (HK2.out.trans (kT2 hk3))
  have HI3 := Lib.hid (HI2.out.keeps hk3)
  cases hg3 : getR (bitsL xs) p2 2 with
  | bad z =>
   have he := rpost_bad hr3 hg3
   subst he
   have HU := Lib.hid (show R = .bad z by rw [HU.out, hg3]; rfl)
   clear hr3 hk3 hg3
   unfold stopE
   go_wp2_with fail
   exact ⟨rfl, bad_rpost HU.out, HK3.out⟩
  | ok a =>
   obtain ⟨he, hrd3⟩ := rpost_ok hr3 hg3
   subst he
   have hk4 := getR_lt hg3
   replace HU := Lib.hid (HU.out.trans (by rw [hg3, then_ok]))
   have HR3 := Lib.hid hrd3
   obtain ⟨k, p3⟩ := a
   dsimp only at HU HR3 hk4 ⊢
   clear hr3 hk3 hg3 hrd3 HG
   rcases (by omega : k = 0 ∨ k = 1 ∨ k = 2 ∨ k = 3) with hk | hk | hk | hk
   ·subst hk
    replace HU := Lib.hid (HU.out.trans (if_pos rfl))
    have HG := Lib.hid (stored_r base g q A n c p3 xs out ks w3 HR3.out HI3.out)
    have hrb := HR3
    go_wp2_with fail
    refine (HG.out).mono ?_
    rintro e w4 ⟨hr4, hk4⟩
    have HK4 := Lib.hid (HK3.out.trans (kT2 hk4))
    cases hg4 : storedR (bitsL xs) p3 out with
    | bad z =>
     have he := rpost_bad hr4 hg4
     subst he
     have HU := Lib.hid (show R = .bad z by rw [HU.out, hg4]; rfl)
     clear hr4 hk4 hg4
     unfold stopE
     go_wp2_with fail
     exact ⟨rfl, bad_rpost HU.out, HK4.out⟩
    | ok a =>
     obtain ⟨he, hrd4⟩ := rpost_ok hr4 hg4
     subst he
     replace HU := Lib.hid (HU.out.trans (by rw [hg4, then_ok]))
     have HR4 := Lib.hid hrd4
     obtain ⟨p4, o4⟩ := a
     dsimp only at HU HR4 ⊢
     clear hr4 hk4 hg4 hrd4 HG hrb
     obtain ⟨vo, Ak, kl, ck, ekl, hb, ho, hkk⟩ := kind_any HR4.out
     have hbw : base ≤ w4.heap.size := HR4.out.bw
     have c2 : w4.cell? ⟨g, 2, none⟩ = some (.slice Ak kl ck) := by rw [hb.cell]; rfl
     have f2 := hb.frozen 2
     have hlt := hb.lt
     have hkl1 : kl ≤ 1000000 := by omega
     have hbA : Below w4.heap.size w4 (w4.alloc (.cells #[.int .i64 0] 3)) := (Below.refl _ _).alloc (Nat.le_refl _) _
     have HO2 := Lib.hid (own_keep hkk hbA)
     have HB2 := Lib.hid (hb.below hbA hb.lt)
     have hbw2 : base ≤ (w4.alloc (.cells #[.int .i64 0] 3)).heap.size := Nat.le_trans hbw hbA.size
     have HZ : Hid (SlAt (w4.alloc (.cells #[.int .i64 0] 3)) (some ⟨w4.heap.size, 0, none⟩) [.int .i64 0]) := Lib.hid (SlAt.of_heap (heap_alloc_new _ _) rfl)
     have Hekl := Lib.hid ekl
     have HKA := Lib.hid (Keeps.of_below (T := infT2) hbA hbw)
     clear hb ho hkk hbA ekl
     go_wp2_with (at_builtin; refine wpList_app _ rfl (.tmp 47) (.tmp 49) _ rfl base 3 _ 1 8 tyI _ kl (ks.map natV) rfl HO2.out (some ⟨w4.heap.size, 0, none⟩) 1 1 [.int .i64 0] rfl rfl HZ.out (by simp [Value.oneCell']) (by simp) (by unfold maxLen; omega) (by omega) hbw2 ?_; intro v8 w8 hown8 hg8 _; obtain ⟨A8, d8, rfl, _⟩ := own_slat hown8; have hkp : Keeps base [3] (w4.alloc (.cells #[.int .i64 0] 3)) w8 := (Keeps.refl _ _ _).grown HO2.out hg8 (by simp) hbw2; have HB8 := Lib.hid (hkp.blk HB2.out (by decide)); have HK8 := Lib.hid hkp; have Ho8 := Lib.hid hown8; have c8 : w8.cell? ⟨g, 2, none⟩ = some (.slice Ak kl ck) := (HB8.out.cell 2).trans rfl; have f8 := HB8.out.frozen 2; clear hown8 hg8 hkp)
     go_ret
     have hgg : base ≤ g := by obtain ⟨hg, _⟩ := HR4.out; exact hg
     have k8 : Keeps base [3] w4 w8 := (Keeps.of_below ((Below.refl _ _).alloc (Nat.le_refl _) _) hbw).trans HK8.out
     have k9 : Keeps base [86] w8 (w8.setCell ⟨g, 2, none⟩ (.slice A8 (kl + 1) d8)) := (Keeps.refl _ _ _).setBlk HB8.out (by simp) hgg 2 _
     have k89 : Keeps base [3, 86] w4 (w8.setCell ⟨g, 2, none⟩ (.slice A8 (kl + 1) d8)) := (k8.mono (Nat.le_refl _) (by simp)).trans (k9.mono (Nat.le_refl _) (by simp))
     refine ⟨ok_rpost HU.out ⟨rfl, ?_⟩, HK4.out.trans (k89.mono (Nat.le_refl _) (by simp [infT2]))⟩
     obtain ⟨h1, h2, h3, h4, ⟨vo', vk', h5, h6, h7⟩, h8⟩ := HR4.out
     have e5 : vo' = vo := by
      have := hkl_vo h5 HB2.out
      exact this
     subst e5
     refine ⟨h1, h2, h3, h4, ⟨vo', .slice A8 (kl + 1) d8, HB8.out.set_ 2 _, k89.own h6 (by decide), ?_⟩, k89.blk h8 (by decide)⟩
     have h9 := k9.own Ho8.out (by decide)
     rw [List.length_append, ← Hekl.out, List.map_append]
     exact h9
   ·subst hk
    replace HU := Lib.hid (HU.out.trans ((if_neg (by omega)).trans (if_pos rfl)))
    have HF := Lib.hid (fixed_any w3)
    have hbw3 : base ≤ w3.heap.size := HR3.out.bw
    go_wp2_with fail
    refine (HF.out).mono ?_
    rintro e w4 ⟨Aa, ca, Ab, cb, rfl, ha, hb, hb4⟩
    have HK4 := Lib.hid (HK3.out.trans (Keeps.of_below hb4 hbw3))
    have HI4 := Lib.hid (HI3.out.keeps (T := infT) (Keeps.of_below hb4 hbw3))
    have HR4 := Lib.hid (HR3.out.below hb4)
    obtain ⟨_, _, e1, _, _, sa, _⟩ := own_slat ha
    injection e1 with e1 _ e2
    subst e1 e2
    obtain ⟨_, _, e1, _, _, sb, _⟩ := own_slat hb
    injection e1 with e1 _ e2
    subst e1 e2
    have SA := Lib.hid sa
    have SB := Lib.hid sb
    have HM := Lib.hid (make_any Aa 288 ca (zsOf fixedA) w4 (by decide) (show SlAt _ _ _ by rw [zs_iv]; exact sa) chk_fixA)
    have hbw4 : base ≤ w4.heap.size := HR4.out.bw
    clear ha hb hb4 sa sb HF
    go_wp2_with fail
    refine (HM.out).mono ?_
    rintro e w5 ⟨⟨pa, rfl, hta⟩, hb5⟩
    rw [lsOf_zsOf] at hta
    have HTa : Hid (TbAt w5 base pa fixedA) := Lib.hid (by
     rw [← lsOf_zsOf fixedA] at hta ⊢
     exact tabAt_tb hta hbw4 chk_fixA)
    have HK5 := Lib.hid (HK4.out.trans (Keeps.of_below hb5 hbw4))
    have HI5 := Lib.hid (HI4.out.keeps (T := infT) (Keeps.of_below hb5 hbw4))
    have HR5 := Lib.hid (HR4.out.below hb5)
    have SB := Lib.hid (SlAt.below SB.out hb5)
    have HM := Lib.hid (make_any Ab 32 cb (zsOf fixedB) w5 (by decide) (show SlAt _ _ _ by rw [zs_iv]; exact SB.out) chk_fixB)
    have hbw5 : base ≤ w5.heap.size := HR5.out.bw
    clear hb5 hta
    go_wp2_with fail
    refine (HM.out).mono ?_
    rintro e w6 ⟨⟨pb, rfl, htb⟩, hb6⟩
    rw [lsOf_zsOf] at htb
    have HTb : Hid (TbAt w6 base pb fixedB) := Lib.hid (by
     rw [← lsOf_zsOf fixedB] at htb ⊢
     exact tabAt_tb htb hbw5 chk_fixB)
    have HTa := Lib.hid (HTa.out.old (B0 := 0) hb6)
    have HK6 := Lib.hid (HK5.out.trans (Keeps.of_below hb6 hbw5))
    have HI6 := Lib.hid (HI5.out.keeps (T := infT) (Keeps.of_below hb6 hbw5))
    have HR6 := Lib.hid (HR5.out.below hb6)
    clear hb6 htb HM SA SB
    have HG := Lib.hid (body_r base g q pa pb A n c p3 xs out ks fixedA fixedB w6 HR6.out HI6.out HTa.out HTb.out hn)
    have hwlen : (bitsL xs).length = (bitsL xs).length := rfl
    clear hwlen
    go_wp2_with fail
    refine (HG.out).mono ?_
    rintro e w7 ⟨hr7, hk7⟩
    have HK7 := Lib.hid (HK6.out.trans (kT2 hk7))
    cases hg7 : bodyR (bitsL xs) fixedA fixedB ((bitsL xs).length + 1) p3 out with
    | bad z =>
     have he := rpost_bad hr7 hg7
     subst he
     have HU := Lib.hid (show R = .bad z by rw [HU.out, hg7]; rfl)
     clear hr7 hk7 hg7
     unfold stopE
     go_wp2_with fail
     exact ⟨rfl, bad_rpost HU.out, HK7.out⟩
    | ok a =>
     obtain ⟨he, hrd7⟩ := rpost_ok hr7 hg7
     subst he
     replace HU := Lib.hid (HU.out.trans (by rw [hg7, then_ok]))
     have HR7 := Lib.hid hrd7
     obtain ⟨p7, o7⟩ := a
     dsimp only at HU HR7 ⊢
     clear hr7 hk7 hg7 hrd7 HG
     obtain ⟨vo, Ak, kl, ck, ekl, hb, ho, hkk⟩ := kind_any HR7.out
     have hbw : base ≤ w7.heap.size := HR7.out.bw
     have c2 : w7.cell? ⟨g, 2, none⟩ = some (.slice Ak kl ck) := by rw [hb.cell]; rfl
     have f2 := hb.frozen 2
     have hlt := hb.lt
     have hkl1 : kl ≤ 1000000 := by omega
     have hbA : Below w7.heap.size w7 (w7.alloc (.cells #[.int .i64 1] 3)) := (Below.refl _ _).alloc (Nat.le_refl _) _
     have HO2 := Lib.hid (own_keep hkk hbA)
     have HB2 := Lib.hid (hb.below hbA hb.lt)
     have hbw2 : base ≤ (w7.alloc (.cells #[.int .i64 1] 3)).heap.size := Nat.le_trans hbw hbA.size
     have HZ : Hid (SlAt (w7.alloc (.cells #[.int .i64 1] 3)) (some ⟨w7.heap.size, 0, none⟩) [.int .i64 1]) := Lib.hid (SlAt.of_heap (heap_alloc_new _ _) rfl)
     have Hekl := Lib.hid ekl
     have HKA := Lib.hid (Keeps.of_below (T := infT2) hbA hbw)
     clear hb ho hkk hbA ekl
     go_wp2_with (at_builtin; refine wpList_app _ rfl (.tmp 47) (.tmp 49) _ rfl base 3 _ 1 8 tyI _ kl (ks.map natV) rfl HO2.out (some ⟨w7.heap.size, 0, none⟩) 1 1 [.int .i64 1] rfl rfl HZ.out (by simp [Value.oneCell']) (by simp) (by unfold maxLen; omega) (by omega) hbw2 ?_; intro v8 w8 hown8 hg8 _; obtain ⟨A8, d8, rfl, _⟩ := own_slat hown8; have hkp : Keeps base [3] (w7.alloc (.cells #[.int .i64 1] 3)) w8 := (Keeps.refl _ _ _).grown HO2.out hg8 (by simp) hbw2; have HB8 := Lib.hid (hkp.blk HB2.out (by decide)); have HK8 := Lib.hid hkp; have Ho8 := Lib.hid hown8; have c8 : w8.cell? ⟨g, 2, none⟩ = some (.slice Ak kl ck) := (HB8.out.cell 2).trans rfl; have f8 := HB8.out.frozen 2; clear hown8 hg8 hkp)
     go_ret
     have hgg : base ≤ g := by obtain ⟨hg, _⟩ := HR7.out; exact hg
     have k8 : Keeps base [3] w7 w8 := (Keeps.of_below ((Below.refl _ _).alloc (Nat.le_refl _) _) hbw).trans HK8.out
     have k9 : Keeps base [86] w8 (w8.setCell ⟨g, 2, none⟩ (.slice A8 (kl + 1) d8)) := (Keeps.refl _ _ _).setBlk HB8.out (by simp) hgg 2 _
     have k89 : Keeps base [3, 86] w7 (w8.setCell ⟨g, 2, none⟩ (.slice A8 (kl + 1) d8)) := (k8.mono (Nat.le_refl _) (by simp)).trans (k9.mono (Nat.le_refl _) (by simp))
     refine ⟨ok_rpost HU.out ⟨rfl, ?_⟩, HK7.out.trans (k89.mono (Nat.le_refl _) (by simp [infT2]))⟩
     obtain ⟨h1, h2, h3, h4, ⟨vo', vk', h5, h6, h7⟩, h8⟩ := HR7.out
     have e5 : vo' = vo := by
      have := hkl_vo h5 HB2.out
      exact this
     subst e5
     refine ⟨h1, h2, h3, h4, ⟨vo', .slice A8 (kl + 1) d8, HB8.out.set_ 2 _, k89.own h6 (by decide), ?_⟩, k89.blk h8 (by decide)⟩
     have h9 := k9.own Ho8.out (by decide)
     rw [List.length_append, ← Hekl.out, List.map_append]
     exact h9
   ·subst hk
    replace HU := Lib.hid (HU.out.trans ((if_neg (by omega)).trans ((if_neg (by omega)).trans (if_pos rfl))))
    obtain ⟨vo0, vk0, hrdr⟩ := HR3.out.rdr
    have hbw3 : base ≤ w3.heap.size := HR3.out.bw
    have HC := Lib.hid (codes_r base g q A n c p3 xs vo0 vk0 w3 hq hbw3 hrdr HR3.out.src HR3.out.ple HI3.out)
    clear hrdr
    go_wp2_with fail
    refine (HC.out).mono ?_
    rintro e w4 ⟨hr4, hk4⟩
    have hkk := hk4.toKeeps
    have HK4 := Lib.hid (HK3.out.trans (kT2 (kT3 hkk)))
    cases hg4 : headR (bitsL xs) p3 with
    | bad z =>
     have he := rpost_bad hr4 hg4
     subst he
     have HU := Lib.hid (show R = .bad z by rw [HU.out, hg4]; rfl)
     clear hr4 hk4 hg4 hkk
     unfold stopE
     go_wp2_with fail
     exact ⟨rfl, bad_rpost HU.out, HK4.out⟩
    | ok a =>
     obtain ⟨pa, pb, he, hta, htb, hs4, hp4⟩ := rpost_ok hr4 hg4
     subst he
     replace HU := Lib.hid (HU.out.trans (by rw [hg4, then_ok]))
     have HI4 := Lib.hid (HI3.out.keeps hkk)
     have HR4 := Lib.hid (HR3.out.filledO hkk hs4 hp4)
     have HTa := Lib.hid hta
     have HTb := Lib.hid htb
     obtain ⟨p4, la, lb'⟩ := a
     dsimp only at HU HR4 HTa HTb ⊢
     clear hr4 hk4 hg4 hkk hta htb hs4 hp4 HC
     have HG := Lib.hid (body_r base g q pa pb A n c p4 xs out ks la lb' w4 HR4.out HI4.out HTa.out HTb.out hn)
     have hwlen : (bitsL xs).length = (bitsL xs).length := rfl
     clear hwlen
     go_wp2_with fail
     refine (HG.out).mono ?_
     rintro e w7 ⟨hr7, hk7⟩
     have HK7 := Lib.hid (HK4.out.trans (kT2 hk7))
     cases hg7 : bodyR (bitsL xs) la lb' ((bitsL xs).length + 1) p4 out with
     | bad z =>
      have he := rpost_bad hr7 hg7
      subst he
      have HU := Lib.hid (show R = .bad z by rw [HU.out, hg7]; rfl)
      clear hr7 hk7 hg7
      unfold stopE
      go_wp2_with fail
      exact ⟨rfl, bad_rpost HU.out, HK7.out⟩
     | ok a =>
      obtain ⟨he, hrd7⟩ := rpost_ok hr7 hg7
      subst he
      replace HU := Lib.hid (HU.out.trans (by rw [hg7, then_ok]))
      have HR7 := Lib.hid hrd7
      obtain ⟨p7, o7⟩ := a
      dsimp only at HU HR7 ⊢
      clear hr7 hk7 hg7 hrd7 HG
      obtain ⟨vo, Ak, kl, ck, ekl, hb, ho, hkk⟩ := kind_any HR7.out
      have hbw : base ≤ w7.heap.size := HR7.out.bw
      have c2 : w7.cell? ⟨g, 2, none⟩ = some (.slice Ak kl ck) := by rw [hb.cell]; rfl
      have f2 := hb.frozen 2
      have hlt := hb.lt
      have hkl1 : kl ≤ 1000000 := by omega
      have hbA : Below w7.heap.size w7 (w7.alloc (.cells #[.int .i64 2] 3)) := (Below.refl _ _).alloc (Nat.le_refl _) _
      have HO2 := Lib.hid (own_keep hkk hbA)
      have HB2 := Lib.hid (hb.below hbA hb.lt)
      have hbw2 : base ≤ (w7.alloc (.cells #[.int .i64 2] 3)).heap.size := Nat.le_trans hbw hbA.size
      have HZ : Hid (SlAt (w7.alloc (.cells #[.int .i64 2] 3)) (some ⟨w7.heap.size, 0, none⟩) [.int .i64 2]) := Lib.hid (SlAt.of_heap (heap_alloc_new _ _) rfl)
      have Hekl := Lib.hid ekl
      have HKA := Lib.hid (Keeps.of_below (T := infT2) hbA hbw)
      clear hb ho hkk hbA ekl
      go_wp2_with (at_builtin; refine wpList_app _ rfl (.tmp 47) (.tmp 49) _ rfl base 3 _ 1 8 tyI _ kl (ks.map natV) rfl HO2.out (some ⟨w7.heap.size, 0, none⟩) 1 1 [.int .i64 2] rfl rfl HZ.out (by simp [Value.oneCell']) (by simp) (by unfold maxLen; omega) (by omega) hbw2 ?_; intro v8 w8 hown8 hg8 _; obtain ⟨A8, d8, rfl, _⟩ := own_slat hown8; have hkp : Keeps base [3] (w7.alloc (.cells #[.int .i64 2] 3)) w8 := (Keeps.refl _ _ _).grown HO2.out hg8 (by simp) hbw2; have HB8 := Lib.hid (hkp.blk HB2.out (by decide)); have HK8 := Lib.hid hkp; have Ho8 := Lib.hid hown8; have c8 : w8.cell? ⟨g, 2, none⟩ = some (.slice Ak kl ck) := (HB8.out.cell 2).trans rfl; have f8 := HB8.out.frozen 2; clear hown8 hg8 hkp)
      go_ret
      have hgg : base ≤ g := by obtain ⟨hg, _⟩ := HR7.out; exact hg
      have k8 : Keeps base [3] w7 w8 := (Keeps.of_below ((Below.refl _ _).alloc (Nat.le_refl _) _) hbw).trans HK8.out
      have k9 : Keeps base [86] w8 (w8.setCell ⟨g, 2, none⟩ (.slice A8 (kl + 1) d8)) := (Keeps.refl _ _ _).setBlk HB8.out (by simp) hgg 2 _
      have k89 : Keeps base [3, 86] w7 (w8.setCell ⟨g, 2, none⟩ (.slice A8 (kl + 1) d8)) := (k8.mono (Nat.le_refl _) (by simp)).trans (k9.mono (Nat.le_refl _) (by simp))
      refine ⟨ok_rpost HU.out ⟨rfl, ?_⟩, HK7.out.trans (k89.mono (Nat.le_refl _) (by simp [infT2]))⟩
      obtain ⟨h1, h2, h3, h4, ⟨vo', vk', h5, h6, h7⟩, h8⟩ := HR7.out
      have e5 : vo' = vo := by
       have := hkl_vo h5 HB2.out
       exact this
      subst e5
      refine ⟨h1, h2, h3, h4, ⟨vo', .slice A8 (kl + 1) d8, HB8.out.set_ 2 _, k89.own h6 (by decide), ?_⟩, k89.blk h8 (by decide)⟩
      have h9 := k9.own Ho8.out (by decide)
      rw [List.length_append, ← Hekl.out, List.map_append]
      exact h9
   ·replace HU := Lib.hid (show R = .bad 4 from HU.out.trans (by rw [if_neg (by omega), if_neg (by omega), if_neg (by omega)]))
    subst hk
    go_wp2_with fail
    refine (fail_any 4 _).mono ?_
    rintro e w5 ⟨rfl, rfl⟩
    unfold stopE
    go_wp2_with fail
    exact ⟨rfl, bad_rpost HU.out, HK3.out⟩
end Go.Proofs.YthpdcnjaodjjmaaGreat.Inf

/- package inflate: Unpack's deferred closure. -/
namespace Go.Proofs.YthpdcnjaodjjmaaGreat.Inf
open Go Go.RowKit Go.Proofs.YthpdcnjaodjjmaaGreat Go.Proofs.YthpdcnjaodjjmaaGreat.Bits Go.Proofs.YthpdcnjaodjjmaaGreat.Code
set_option linter.unusedVariables false
set_option linter.unusedSimpArgs false

structure OutAt (w : World) (B g2 g3 g4 g5 : Nat) (v2 v3 v4 v5 : Value) : Prop where
 le2 : B ≤ g2
 le3 : B ≤ g3
 le4 : B ≤ g4
 le5 : B ≤ g5
 b2 : Blk w g2 24 #[v2]
 b3 : Blk w g3 3 #[v3]
 b4 : Blk w g4 23 #[v4]
 b5 : Blk w g5 25 #[v5]
theorem blk_ne {w : World} {g g' : Nat} {t t' : TypeId} {cs cs' : Array Value} (h : Blk w g t cs) (h' : Blk w g' t' cs') (hne : t ≠ t') : g ≠ g' := by
 rintro rfl
 have := h.symm.trans h'
 injection this with this
 injection this with _ e _
 exact hne e
theorem OutAt.s2 {w : World} {B g2 g3 g4 g5 : Nat} {v2 v3 v4 v5 : Value} (h : OutAt w B g2 g3 g4 g5 v2 v3 v4 v5) (u : Value) : OutAt (w.setCell ⟨g2, 0, none⟩ u) B g2 g3 g4 g5 u v3 v4 v5 :=
 ⟨h.le2, h.le3, h.le4, h.le5, h.b2.set_ 0 u, h.b3.far (p := ⟨g2, 0, none⟩) (blk_ne h.b3 h.b2 (by decide)) u, h.b4.far (p := ⟨g2, 0, none⟩) (blk_ne h.b4 h.b2 (by decide)) u, h.b5.far (p := ⟨g2, 0, none⟩) (blk_ne h.b5 h.b2 (by decide)) u⟩
theorem OutAt.s3 {w : World} {B g2 g3 g4 g5 : Nat} {v2 v3 v4 v5 : Value} (h : OutAt w B g2 g3 g4 g5 v2 v3 v4 v5) (u : Value) : OutAt (w.setCell ⟨g3, 0, none⟩ u) B g2 g3 g4 g5 v2 u v4 v5 :=
 ⟨h.le2, h.le3, h.le4, h.le5, h.b2.far (p := ⟨g3, 0, none⟩) (blk_ne h.b2 h.b3 (by decide)) u, h.b3.set_ 0 u, h.b4.far (p := ⟨g3, 0, none⟩) (blk_ne h.b4 h.b3 (by decide)) u, h.b5.far (p := ⟨g3, 0, none⟩) (blk_ne h.b5 h.b3 (by decide)) u⟩
theorem OutAt.s4 {w : World} {B g2 g3 g4 g5 : Nat} {v2 v3 v4 v5 : Value} (h : OutAt w B g2 g3 g4 g5 v2 v3 v4 v5) (u : Value) : OutAt (w.setCell ⟨g4, 0, none⟩ u) B g2 g3 g4 g5 v2 v3 u v5 :=
 ⟨h.le2, h.le3, h.le4, h.le5, h.b2.far (p := ⟨g4, 0, none⟩) (blk_ne h.b2 h.b4 (by decide)) u, h.b3.far (p := ⟨g4, 0, none⟩) (blk_ne h.b3 h.b4 (by decide)) u, h.b4.set_ 0 u, h.b5.far (p := ⟨g4, 0, none⟩) (blk_ne h.b5 h.b4 (by decide)) u⟩
theorem OutAt.s5 {w : World} {B g2 g3 g4 g5 : Nat} {v2 v3 v4 v5 : Value} (h : OutAt w B g2 g3 g4 g5 v2 v3 v4 v5) (u : Value) : OutAt (w.setCell ⟨g5, 0, none⟩ u) B g2 g3 g4 g5 v2 v3 v4 u :=
 ⟨h.le2, h.le3, h.le4, h.le5, h.b2.far (p := ⟨g5, 0, none⟩) (blk_ne h.b2 h.b5 (by decide)) u, h.b3.far (p := ⟨g5, 0, none⟩) (blk_ne h.b3 h.b5 (by decide)) u, h.b4.far (p := ⟨g5, 0, none⟩) (blk_ne h.b4 h.b5 (by decide)) u, h.b5.set_ 0 u⟩
theorem OutAt.below {w w' : World} {B g2 g3 g4 g5 : Nat} {v2 v3 v4 v5 : Value} (h : OutAt w B g2 g3 g4 g5 v2 v3 v4 v5) (hb : Below w.heap.size w w') : OutAt w' B g2 g3 g4 g5 v2 v3 v4 v5 :=
 ⟨h.le2, h.le3, h.le4, h.le5, h.b2.below hb h.b2.lt, h.b3.below hb h.b3.lt, h.b4.below hb h.b4.lt, h.b5.below hb h.b5.lt⟩
structure OutC (w : World) (g2 g3 g4 g5 : Nat) (v2 v3 v4 v5 : Value) : Prop where
 c2 : w.cell? ⟨g2, 0, none⟩ = some v2
 c3 : w.cell? ⟨g3, 0, none⟩ = some v3
 c4 : w.cell? ⟨g4, 0, none⟩ = some v4
 c5 : w.cell? ⟨g5, 0, none⟩ = some v5
 f2 : w.frozen? ⟨g2, 0, none⟩ = false
 f3 : w.frozen? ⟨g3, 0, none⟩ = false
 f4 : w.frozen? ⟨g4, 0, none⟩ = false
 f5 : w.frozen? ⟨g5, 0, none⟩ = false
theorem OutAt.cells {w : World} {B g2 g3 g4 g5 : Nat} {v2 v3 v4 v5 : Value} (h : OutAt w B g2 g3 g4 g5 v2 v3 v4 v5) : OutC w g2 g3 g4 g5 v2 v3 v4 v5 :=
 ⟨h.b2.cell 0, h.b3.cell 0, h.b4.cell 0, h.b5.cell 0, h.b2.frozen 0, h.b3.frozen 0, h.b4.frozen 0, h.b5.frozen 0⟩
set_option maxRecDepth 100000 in
set_option maxHeartbeats 1600000 in
theorem catch_panicking (B g2 g3 g4 g5 : Nat) (v2 v3 v4 v5 : Value) (x : Int) (older : List PanicEntry) (w : World) (hBw : B ≤ w.heap.size) (h : OutAt w B g2 g3 g4 g5 v2 v3 v4 v5) :
  CallsD Tryz.prog 41 #[.pointer (some ⟨g2, 0, none⟩), .pointer (some ⟨g3, 0, none⟩), .pointer (some ⟨g4, 0, none⟩), .pointer (some ⟨g5, 0, none⟩)] (.panicking ({ v := .iface 80 (.agg #[.int .i64 x]), recovered := false } :: older)) w fun e u' w' =>
   e = .returned (.tuple #[]) ∧ u' = .panicking ({ v := .iface 80 (.agg #[.int .i64 x]), recovered := true } :: older) ∧
    OutAt w' B g2 g3 g4 g5 (.slice none 0 0) (.int .i64 0) (.slice none 0 0) (.int .i64 x) ∧ Below B w w' := by
 have H := Lib.hid h
 clear h
 refine callsD_of_wpS Tryz.func41 rfl fun c₀ cs hu => ?_
 apply wpS_seq
 apply wpS_region
 simp [wpOpsS, go_sem, recoverD, hu, Tryz.ntmps41, Exit.thenS]
 refine wpS_of_wp (wp_mono (Q := fun e a w' => e = .normal ∧ a.defers = [] ∧ OutAt w' B g2 g3 g4 g5 (.slice none 0 0) (.int .i64 0) (.slice none 0 0) (.int .i64 x) ∧ Below B w w') ?_ ?_)
 rotate_left
 ·rintro e a w' ⟨rfl, hd, h1, h2⟩
  cases c₀
  simp only at hu
  subst hu
  exact ⟨hd, _, rfl, _, results_none rfl _ _ _, rfl, rfl, h1, h2⟩
 clear hu
 have htm : #[.pointer (some ⟨g2, 0, none⟩), .pointer (some ⟨g3, 0, none⟩), .pointer (some ⟨g4, 0, none⟩), .pointer (some ⟨g5, 0, none⟩)] ++ ((Array.replicate 16 undef).setIfInBounds 3 (.iface 80 (.agg #[.int .i64 x]))).setIfInBounds 0 (.iface 80 (.agg #[.int .i64 x])) = #[.pointer (some ⟨g2, 0, none⟩), .pointer (some ⟨g3, 0, none⟩), .pointer (some ⟨g4, 0, none⟩), .pointer (some ⟨g5, 0, none⟩), .iface 80 (.agg #[.int .i64 x]), undef, undef, .iface 80 (.agg #[.int .i64 x]), undef, undef, undef, undef, undef, undef, undef, undef, undef, undef, undef, undef] := rfl
 rw [htm]
 clear htm
 have has : ∀ (v : Value) (W : World), (Instr.typeAssert (.iface 80 v) 20 80 true).run Tryz.prog W = .ok (.tuple #[v, .bool true]) W := fun _ _ => by kernel_rfl
 go_wp2_with fail
 obtain ⟨gx, hgx⟩ : ∃ gx, gx = w.heap.size := ⟨_, rfl⟩
 have hb2 : Below w.heap.size w (w.alloc (.cells #[.int .i64 x] 80)) := (Below.refl _ _).alloc (Nat.le_refl _) _
 have H2 := Lib.hid (H.out.below hb2)
 have Hb2 := Lib.hid (hb2.mono hBw)
 have HX : Hid (Blk (w.alloc (.cells #[.int .i64 x] 80)) gx 80 #[.int .i64 x]) := Lib.hid (by rw [hgx]; exact Blk.new _ _ _)
 clear hb2
 rw [← hgx]
 clear hgx
 generalize w.alloc (.cells #[.int .i64 x] 80) = w2 at *
 refine wp_region_S (fun W => W.cell? ⟨gx, 0, none⟩ = some (.int .i64 x)) 5 (by kernel_rfl) ?_
 have hHeld : w2.drew.cell? ⟨gx, 0, none⟩ = some (.int .i64 x) := HX.out.cell 0
 have H3 := Lib.hid (H2.out.below ((Below.refl _ _).drew))
 have Hb3 := Lib.hid (Hb2.out.trans ((Below.refl B w2).drew))
 have HX3 : Hid (Blk w2.drew gx 80 #[.int .i64 x]) := Lib.hid HX.out
 clear H2 Hb2 HX
 generalize w2.drew = w3 at *
 refine wpAnyS_takeT (i := 0) (v := ?va0) (by kernel_rfl) (by kernel_rfl) rfl (by kernel_rfl) (by kernel_rfl) (by kernel_rfl) (fun _ _ _ h => h) (by rfl) (by assumption) ?hya0 ?resta0
 case hya0 => (intro W hSW; (try dsimp only at hSW); go_simp; try with_reducible rfl)
 (try simp only [Act.put, List.getElem_toArray, List.getElem_cons_zero, List.getElem_cons_succ, List.setIfInBounds_toArray, List.set_cons_zero, List.set_cons_succ])
 refine wpAnyS_takeT (i := 1) (v := ?va1) (by kernel_rfl) (by kernel_rfl) rfl (by kernel_rfl) (by kernel_rfl) (by kernel_rfl) (fun _ _ _ h => h) (by rfl) (by assumption) ?hya1 ?resta1
 case hya1 => (intro W hSW; (try dsimp only at hSW); go_simp; try with_reducible rfl)
 (try simp only [Act.put, List.getElem_toArray, List.getElem_cons_zero, List.getElem_cons_succ, List.setIfInBounds_toArray, List.set_cons_zero, List.set_cons_succ])
 obtain ⟨c2, c3, c4, c5, f2, f3, f4, f5⟩ := H3.out.cells
 refine wpAnyS_only (i := 2) rfl (by kernel_rfl) (fun K hK => ?_)
 go_simp
 have H4 := Lib.hid (H3.out.s2 (.slice none 0 0))
 have Hb4 := Lib.hid (Hb3.out.setCell (p := ⟨g2, 0, none⟩) H3.out.le2 (.slice none 0 0))
 have HX4 := Lib.hid (HX3.out.far (p := ⟨g2, 0, none⟩) (blk_ne HX3.out H3.out.b2 (by decide)) (.slice none 0 0))
 clear hHeld c2 c3 c4 c5 f2 f3 f4 f5
 refine hK.out _ _ (HX4.out.cell 0) (fun hHeld => ?_)
 clear hK K H3 Hb3 HX3
 (try simp only [Act.put, List.getElem_toArray, List.getElem_cons_zero, List.getElem_cons_succ, List.setIfInBounds_toArray, List.set_cons_zero, List.set_cons_succ])
 generalize w3.setCell ⟨g2, 0, none⟩ (.slice none 0 0) = w4 at *
 obtain ⟨c2, c3, c4, c5, f2, f3, f4, f5⟩ := H4.out.cells
 refine wpAnyS_only (i := 3) rfl (by kernel_rfl) (fun K hK => ?_)
 go_simp
 have H5 := Lib.hid (H4.out.s3 (.int .i64 0))
 have Hb5 := Lib.hid (Hb4.out.setCell (p := ⟨g3, 0, none⟩) H4.out.le3 (.int .i64 0))
 have HX5 := Lib.hid (HX4.out.far (p := ⟨g3, 0, none⟩) (blk_ne HX4.out H4.out.b3 (by decide)) (.int .i64 0))
 clear hHeld c2 c3 c4 c5 f2 f3 f4 f5
 refine hK.out _ _ (HX5.out.cell 0) (fun hHeld => ?_)
 clear hK K H4 Hb4 HX4
 (try simp only [Act.put, List.getElem_toArray, List.getElem_cons_zero, List.getElem_cons_succ, List.setIfInBounds_toArray, List.set_cons_zero, List.set_cons_succ])
 generalize w4.setCell ⟨g3, 0, none⟩ (.int .i64 0) = w5 at *
 obtain ⟨c2, c3, c4, c5, f2, f3, f4, f5⟩ := H5.out.cells
 refine wpAnyS_only (i := 4) rfl (by kernel_rfl) (fun K hK => ?_)
 go_simp
 have H6 := Lib.hid (H5.out.s4 (.slice none 0 0))
 have Hb6 := Lib.hid (Hb5.out.setCell (p := ⟨g4, 0, none⟩) H5.out.le4 (.slice none 0 0))
 have HX6 := Lib.hid (HX5.out.far (p := ⟨g4, 0, none⟩) (blk_ne HX5.out H5.out.b4 (by decide)) (.slice none 0 0))
 clear hHeld c2 c3 c4 c5 f2 f3 f4 f5
 refine hK.out _ _ (HX6.out.cell 0) (fun hHeld => ?_)
 clear hK K H5 Hb5 HX5
 (try simp only [Act.put, List.getElem_toArray, List.getElem_cons_zero, List.getElem_cons_succ, List.setIfInBounds_toArray, List.set_cons_zero, List.set_cons_succ])
 generalize w5.setCell ⟨g4, 0, none⟩ (.slice none 0 0) = w6 at *
 obtain ⟨c2, c3, c4, c5, f2, f3, f4, f5⟩ := H6.out.cells
 refine wpAnyS_last rfl (by kernel_rfl) (by kernel_rfl) (fun K hK => ?_)
 go_simp
 have H7 := Lib.hid (H6.out.s5 (.int .i64 x))
 have Hb7 := Lib.hid (Hb6.out.setCell (p := ⟨g5, 0, none⟩) H6.out.le5 (.int .i64 x))
 clear hHeld c2 c3 c4 c5 f2 f3 f4 f5
 refine hK.out _ _ ?_
 clear hK K
 exact ⟨rfl, rfl, H7.out, Hb7.out⟩
set_option maxRecDepth 100000 in
set_option maxHeartbeats 1600000 in
theorem catch_idle (g2 g3 g4 g5 : Nat) (w : World) :
  CallsD Tryz.prog 41 #[.pointer (some ⟨g2, 0, none⟩), .pointer (some ⟨g3, 0, none⟩), .pointer (some ⟨g4, 0, none⟩), .pointer (some ⟨g5, 0, none⟩)] .returning w fun e u' w' => e = .returned (.tuple #[]) ∧ u' = .returning ∧ w' = w := by
 refine callsD_of_wpS Tryz.func41 rfl fun c₀ cs hu => ?_
 apply wpS_seq
 apply wpS_region
 simp [wpOpsS, go_sem, recoverD, hu, Tryz.ntmps41, Exit.thenS]
 refine wpS_of_wp (wp_mono (Q := fun e a w' => e = .normal ∧ a.defers = [] ∧ w' = w) ?_ ?_)
 rotate_left
 ·rintro e a w' ⟨rfl, hd, rfl⟩
  cases c₀
  simp only at hu
  subst hu
  exact ⟨hd, _, rfl, _, results_none rfl _ _ _, rfl, rfl, rfl⟩
 clear hu
 go_wp2_with fail
end Go.Proofs.YthpdcnjaodjjmaaGreat.Inf

/- package inflate: where reading stands goes on, and never beyond the row. No program in sight. -/
namespace Go.Proofs.YthpdcnjaodjjmaaGreat.Inf
open Go.Proofs.YthpdcnjaodjjmaaGreat.Bits Go.Proofs.YthpdcnjaodjjmaaGreat.Code
set_option linter.unusedVariables false

theorem then_inv {α β : Type} {r : Rd α} {f : α → Rd β} {b : β} (h : r.then_ f = .ok b) : ∃ a, r = .ok a ∧ f a = .ok b := by
 cases r with
 | bad e => cases h
 | ok a => exact ⟨a, rfl, h⟩
theorem fillP_le (p : Nat) : p ≤ fillP p := by unfold fillP; omega
theorem raw_mono {row : List Bool} : ∀ {n p : Nat} {out : List UInt8} {a : Nat × List UInt8}, rawR row n p out = .ok a → p ≤ row.length → p ≤ a.1 ∧ a.1 ≤ row.length
 | 0, p, out, a, h, hp => by injection h with h; subst h; exact ⟨Nat.le_refl _, hp⟩
 | n + 1, p, out, a, h, hp => by
  obtain ⟨x, hx, h⟩ := then_inv h
  obtain ⟨o, ho, h⟩ := then_inv h
  have h1 := getR_pos hx
  have h2 := raw_mono h (by omega)
  omega
theorem stored_mono {row : List Bool} {p : Nat} {out : List UInt8} {a : Nat × List UInt8} (h : storedR row p out = .ok a) : p ≤ a.1 ∧ a.1 ≤ row.length := by
 obtain ⟨x, hx, h⟩ := then_inv h
 obtain ⟨y, hy, h⟩ := then_inv h
 have h1 := getR_pos hx
 have h2 := getR_pos hy
 have h3 := fillP_le p
 split at h
 ·cases h
 ·have h4 := raw_mono h (by omega)
  omega
theorem lenStep_mono {row : List Bool} {ls l : List Nat} {n p : Nat} {a : Nat × List Nat} (h : lenStep row ls n p l = .ok a) (hp : p ≤ row.length) : p ≤ a.1 ∧ a.1 ≤ row.length := by
 obtain ⟨k, hk, h⟩ := then_inv h
 have h1 := symR_lt hk hp
 have key : ∀ (q nb v add : Nat), ((getR row q nb).then_ fun x => (againR n l v (add + x.1)).then_ fun m => Rd.ok (x.2, m)) = .ok a → q ≤ a.1 ∧ a.1 ≤ row.length := by
  intro q nb v add h
  obtain ⟨x, hx, h⟩ := then_inv h
  obtain ⟨m, _, h⟩ := then_inv h
  have := getR_pos hx
  injection h with h
  subst h
  (try dsimp only)
  omega
 split at h
 ·split at h
  ·cases h
  ·have := key _ _ _ _ h; omega
 ·split at h
  ·have := key _ _ _ _ h; omega
  ·split at h
   ·have := key _ _ _ _ h; omega
   ·obtain ⟨m, _, h⟩ := then_inv h
    injection h with h
    subst h
    (try dsimp only)
    omega
theorem len_mono {row : List Bool} {ls : List Nat} {n : Nat} : ∀ {f p : Nat} {l : List Nat} {a : Nat × List Nat}, lenR row ls n f p l = .ok a → p ≤ row.length → p ≤ a.1 ∧ a.1 ≤ row.length
 | 0, p, l, a, h, hp => by injection h with h; subst h; exact ⟨Nat.le_refl _, hp⟩
 | f + 1, p, l, a, h, hp => by
  unfold lenR at h
  split at h
  ·injection h with h; subst h; exact ⟨Nat.le_refl _, hp⟩
  ·obtain ⟨x, hx, h⟩ := then_inv h
   have h1 := lenStep_mono hx hp
   have h2 := len_mono h h1.2
   omega
theorem sizes_mono {row : List Bool} : ∀ {ks : List Nat} {p : Nat} {s : List Nat} {a : Nat × List Nat}, sizesR row ks p s = .ok a → p ≤ row.length → p ≤ a.1 ∧ a.1 ≤ row.length
 | [], p, s, a, h, hp => by injection h with h; subst h; exact ⟨Nat.le_refl _, hp⟩
 | k :: ks, p, s, a, h, hp => by
  obtain ⟨x, hx, h⟩ := then_inv h
  have h1 := getR_pos hx
  have h2 := sizes_mono h (by omega)
  omega
theorem head_mono {row : List Bool} {p : Nat} {a : Nat × List Nat × List Nat} (h : headR row p = .ok a) : p ≤ a.1 ∧ a.1 ≤ row.length := by
 obtain ⟨x, hx, h⟩ := then_inv h
 obtain ⟨y, hy, h⟩ := then_inv h
 obtain ⟨z, hz, h⟩ := then_inv h
 have h1 := getR_pos hx
 have h2 := getR_pos hy
 have h3 := getR_pos hz
 split at h
 ·cases h
 ·obtain ⟨s, hs, h⟩ := then_inv h
  obtain ⟨t, _, h⟩ := then_inv h
  obtain ⟨l, hl, h⟩ := then_inv h
  have h4 := sizes_mono hs (by omega)
  have h5 := len_mono hl h4.2
  split at h
  ·cases h
  ·obtain ⟨u, _, h⟩ := then_inv h
   obtain ⟨v, _, h⟩ := then_inv h
   injection h with h
   subst h
   (try dsimp only)
   omega
theorem bodyStep_mono {row : List Bool} {lit far : List Nat} {p : Nat} {out : List UInt8} {a : Bool × Nat × List UInt8} (h : bodyStep row lit far p out = .ok a) (hp : p ≤ row.length) : p < a.2.1 ∧ a.2.1 ≤ row.length := by
 obtain ⟨k, hk, h⟩ := then_inv h
 have h1 := symR_lt hk hp
 split at h
 ·obtain ⟨o, _, h⟩ := then_inv h
  injection h with h; subst h; dsimp only; omega
 ·split at h
  ·injection h with h; subst h; dsimp only; omega
  ·split at h
   ·cases h
   ·obtain ⟨x, hx, h⟩ := then_inv h
    obtain ⟨f, hf, h⟩ := then_inv h
    have h2 := getR_pos hx
    have h3 := symR_lt hf (by omega)
    split at h
    ·cases h
    ·obtain ⟨y, hy, h⟩ := then_inv h
     have h4 := getR_pos hy
     split at h
     ·cases h
     ·obtain ⟨o, _, h⟩ := then_inv h
      injection h with h; subst h; dsimp only; omega
theorem body_mono {row : List Bool} {lit far : List Nat} : ∀ {f p : Nat} {out : List UInt8} {a : Nat × List UInt8}, bodyR row lit far f p out = .ok a → p ≤ row.length → p ≤ a.1 ∧ a.1 ≤ row.length
 | 0, p, out, a, h, hp => by cases h
 | f + 1, p, out, a, h, hp => by
  obtain ⟨x, hx, h⟩ := then_inv h
  have h1 := bodyStep_mono hx hp
  split at h
  ·injection h with h; subst h; omega
  ·have h2 := body_mono h h1.2
   omega
theorem block_mono {row : List Bool} {p : Nat} {out : List UInt8} {a : Bool × Nat × Nat × List UInt8} (h : blockR row p out = .ok a) : p < a.2.2.1 ∧ a.2.2.1 ≤ row.length := by
 obtain ⟨l, hl, h⟩ := then_inv h
 obtain ⟨k, hk, h⟩ := then_inv h
 have h1 := getR_pos hl
 have h2 := getR_pos hk
 split at h
 ·obtain ⟨x, hx, h⟩ := then_inv h
  have := stored_mono hx
  injection h with h; subst h; dsimp only; omega
 ·split at h
  ·obtain ⟨x, hx, h⟩ := then_inv h
   have := body_mono hx (by omega)
   injection h with h; subst h; dsimp only; omega
  ·split at h
   ·obtain ⟨y, hy, h⟩ := then_inv h
    obtain ⟨x, hx, h⟩ := then_inv h
    have h3 := head_mono hy
    have := body_mono hx h3.2
    injection h with h; subst h; dsimp only; omega
   ·cases h
theorem blocks_mono {row : List Bool} : ∀ {f p : Nat} {out : List UInt8} {ks : List Nat} {a : Nat × List UInt8 × List Nat}, blocksR row f p out ks = .ok a → p < a.1 ∧ a.1 ≤ row.length ∧ a.2.2 ≠ []
 | 0, p, out, ks, a, h => by cases h
 | f + 1, p, out, ks, a, h => by
  obtain ⟨x, hx, h⟩ := then_inv h
  have h1 := block_mono hx
  split at h
  ·injection h with h; subst h; exact ⟨h1.1, h1.2, by simp⟩
  ·have h2 := blocks_mono h
   exact ⟨by omega, h2.2⟩
theorem cut_ok {α : Type} {L : Nat} {pos : α → Nat} {a : α} (h : pos a ≤ L) : Cut L pos (.ok a) (.ok a) := by
 intro b hb
 injection hb with hb
 subst hb
 rw [if_pos h]
theorem cut_bad {α : Type} {L : Nat} {pos : α → Nat} {e : Int} {r : Rd α} : Cut L pos (.bad e) r := by intro b hb; cases hb
theorem cut_same {α β : Type} {L : Nat} {pb : β → Nat} {r : Rd α} {f f' : α → Rd β} (hf : ∀ a, r = .ok a → Cut L pb (f a) (f' a)) : Cut L pb (r.then_ f) (r.then_ f') := by
 cases r with
 | bad e => exact cut_bad
 | ok a => exact hf a rfl
variable {row : List Bool} {L : Nat}
theorem cut_raw (hL : L ≤ row.length) : ∀ {n p : Nat} {out : List UInt8}, p ≤ L → Cut L (fun x : Nat × List UInt8 => x.1) (rawR row n p out) (rawR (row.take L) n p out)
 | 0, p, out, hp => cut_ok hp
 | n + 1, p, out, hp => by
  refine cut_then (cut_get hp hL) (fun x hx hxl => cut_same (fun o ho => cut_raw hL hxl)) (fun x b hx h => ?_)
  obtain ⟨o, _, h⟩ := then_inv h
  have := getR_pos hx
  exact (raw_mono h (by omega)).1
theorem getP_mono {p n : Nat} {a : Nat × Nat} (h : getR row p n = .ok a) : a.2 ≤ row.length := by have := getR_pos h; omega
theorem get_torn {p n : Nat} (h : L < p) (hL : L ≤ row.length) : getR (row.take L) p n = .bad 7 := by
 unfold getR
 rw [if_neg (by rw [List.length_take]; omega)]
theorem cut_get' {p n : Nat} (hL : L ≤ row.length) : Cut L (fun x : Nat × Nat => x.2) (getR row p n) (getR (row.take L) p n) := by
 rcases Nat.lt_or_ge L p with h | h
 ·intro a ha
  have := getR_pos ha
  (try dsimp only)
  rw [if_neg (by omega)]
  exact get_torn h hL
 ·exact cut_get h hL
theorem cut_stored (hL : L ≤ row.length) {p : Nat} {out : List UInt8} : Cut L (fun x : Nat × List UInt8 => x.1) (storedR row p out) (storedR (row.take L) p out) := by
 refine cut_then (cut_get' hL) (fun x hx hxl => ?_) (fun x b hx h => ?_)
 ·refine cut_then (cut_get hxl hL) (fun y hy hyl => ?_) (fun y b hy h => ?_)
  ·(try dsimp only)
   split
   ·exact cut_bad
   ·exact cut_raw hL hyl
  ·split at h
   ·cases h
   ·exact (raw_mono h (getP_mono hy)).1
 ·obtain ⟨y, hy, h⟩ := then_inv h
  have := getR_pos hy
  split at h
  ·cases h
  ·have := raw_mono h (getP_mono hy)
   omega
theorem cut_lenStep (hL : L ≤ row.length) {ls l : List Nat} {n p : Nat} (hp : p ≤ L) : Cut L (fun x : Nat × List Nat => x.1) (lenStep row ls n p l) (lenStep (row.take L) ls n p l) := by
 have key : ∀ (q nb v add : Nat), q ≤ L → Cut L (fun x : Nat × List Nat => x.1) ((getR row q nb).then_ fun x => (againR n l v (add + x.1)).then_ fun m => Rd.ok (x.2, m)) ((getR (row.take L) q nb).then_ fun x => (againR n l v (add + x.1)).then_ fun m => Rd.ok (x.2, m)) := by
  intro q nb v add hq
  refine cut_then (cut_get hq hL) (fun x hx hxl => cut_same (fun m hm => cut_ok hxl)) (fun x b hx h => ?_)
  obtain ⟨m, _, h⟩ := then_inv h
  injection h with h
  subst h
  exact Nat.le_refl _
 refine cut_then (cut_sym hp hL) (fun k hk hkl => ?_) (fun k b hk h => ?_)
 ·(try dsimp only)
  split
  ·split
   ·exact cut_bad
   ·exact key _ _ _ _ hkl
  ·split
   ·exact key _ _ _ _ hkl
   ·split
    ·exact key _ _ _ _ hkl
    ·exact cut_same (fun m hm => cut_ok hkl)
 ·have hk2 := symR_lt hk (by omega)
  have k2 : ∀ (q nb v add : Nat), ((getR row q nb).then_ fun x => (againR n l v (add + x.1)).then_ fun m => Rd.ok (x.2, m)) = .ok b → q ≤ b.1 := by
   intro q nb v add h
   obtain ⟨x, hx, h⟩ := then_inv h
   obtain ⟨m, _, h⟩ := then_inv h
   have := getR_pos hx
   injection h with h
   subst h
   (try dsimp only)
   omega
  split at h
  ·split at h
   ·cases h
   ·exact k2 _ _ _ _ h
  ·split at h
   ·exact k2 _ _ _ _ h
   ·split at h
    ·exact k2 _ _ _ _ h
    ·obtain ⟨m, _, h⟩ := then_inv h
     injection h with h
     subst h
     exact Nat.le_refl _
theorem cut_len (hL : L ≤ row.length) {ls : List Nat} {n : Nat} : ∀ {f p : Nat} {l : List Nat}, p ≤ L → Cut L (fun x : Nat × List Nat => x.1) (lenR row ls n f p l) (lenR (row.take L) ls n f p l)
 | 0, p, l, hp => cut_ok hp
 | f + 1, p, l, hp => by
  unfold lenR
  split
  ·exact cut_ok hp
  ·refine cut_then (cut_lenStep hL hp) (fun x hx hxl => cut_len hL hxl) (fun x b hx h => ?_)
   have := lenStep_mono hx (by omega)
   exact (len_mono h this.2).1
theorem cut_sizes (hL : L ≤ row.length) : ∀ {ks : List Nat} {p : Nat} {s : List Nat}, p ≤ L → Cut L (fun x : Nat × List Nat => x.1) (sizesR row ks p s) (sizesR (row.take L) ks p s)
 | [], p, s, hp => cut_ok hp
 | k :: ks, p, s, hp => by
  refine cut_then (cut_get hp hL) (fun x hx hxl => cut_sizes hL hxl) (fun x b hx h => ?_)
  exact (sizes_mono h (getP_mono hx)).1
theorem cut_head (hL : L ≤ row.length) {p : Nat} (hp : p ≤ L) : Cut L (fun x : Nat × List Nat × List Nat => x.1) (headR row p) (headR (row.take L) p) := by
 have tl : ∀ {m n : Nat} {t : List Nat} {s : Nat × List Nat} {b : Nat × List Nat × List Nat}, s.1 ≤ row.length → ((lenR row t n n s.1 []).then_ fun l => if l.2.getD 256 0 = 0 then Rd.bad 8 else (tableR (zsOf (l.2.take m))).then_ fun x => (tableR (zsOf (l.2.drop m))).then_ fun y => .ok (l.1, x, y)) = .ok b → s.1 ≤ b.1 := by
  intro m n t s b hs h
  obtain ⟨l, hl, h⟩ := then_inv h
  have h1 := len_mono hl hs
  split at h
  ·cases h
  ·obtain ⟨u, _, h⟩ := then_inv h
   obtain ⟨v, _, h⟩ := then_inv h
   injection h with h
   subst h
   exact h1.1
 refine cut_then (cut_get hp hL) (fun x hx hxl => ?_) (fun x b hx h => ?_)
 ·refine cut_then (cut_get hxl hL) (fun y hy hyl => ?_) (fun y b hy h => ?_)
  ·refine cut_then (cut_get hyl hL) (fun z hz hzl => ?_) (fun z b hz h => ?_)
   ·(try dsimp only)
    split
    ·exact cut_bad
    ·refine cut_then (cut_sizes hL hzl) (fun s hs hsl => ?_) (fun s b hs h => ?_)
     ·refine cut_same (fun t ht => ?_)
      refine cut_then (cut_len hL hsl) (fun l hl hll => ?_) (fun l b hl h => ?_)
      ·(try dsimp only)
       split
       ·exact cut_bad
       ·exact cut_same (fun u hu => cut_same (fun v hv => cut_ok hll))
      ·split at h
       ·cases h
       ·obtain ⟨u, _, h⟩ := then_inv h
        obtain ⟨v, _, h⟩ := then_inv h
        injection h with h
        subst h
        exact Nat.le_refl _
     ·obtain ⟨t, _, h⟩ := then_inv h
      exact tl (sizes_mono hs (getP_mono hz)).2 h
   ·split at h
    ·cases h
    ·obtain ⟨s, hs, h⟩ := then_inv h
     obtain ⟨t, _, h⟩ := then_inv h
     have h1 := sizes_mono hs (getP_mono hz)
     have h2 := tl h1.2 h
     omega
  ·obtain ⟨z, hz, h⟩ := then_inv h
   have h0 := getR_pos hz
   split at h
   ·cases h
   ·obtain ⟨s, hs, h⟩ := then_inv h
    obtain ⟨t, _, h⟩ := then_inv h
    have h1 := sizes_mono hs (getP_mono hz)
    have h2 := tl h1.2 h
    omega
 ·obtain ⟨y, hy, h⟩ := then_inv h
  obtain ⟨z, hz, h⟩ := then_inv h
  have h0 := getR_pos hz
  have h0' := getR_pos hy
  split at h
  ·cases h
  ·obtain ⟨s, hs, h⟩ := then_inv h
   obtain ⟨t, _, h⟩ := then_inv h
   have h1 := sizes_mono hs (getP_mono hz)
   have h2 := tl h1.2 h
   omega
theorem cut_bodyStep (hL : L ≤ row.length) {lit far : List Nat} {p : Nat} {out : List UInt8} (hp : p ≤ L) : Cut L (fun x : Bool × Nat × List UInt8 => x.2.1) (bodyStep row lit far p out) (bodyStep (row.take L) lit far p out) := by
 have tl : ∀ {f : Nat × Nat} {n : Nat} {b : Bool × Nat × List UInt8}, (if 30 ≤ f.1 then Rd.bad 8 else (getR row f.2 (farL.getD f.1 (0, 0)).2).then_ fun y => if out.length < (farL.getD f.1 (0, 0)).1 + y.1 then .bad 9 else (copyR ((farL.getD f.1 (0, 0)).1 + y.1) n out).then_ fun o => .ok (false, y.2, o)) = .ok b → f.2 ≤ b.2.1 := by
  intro f n b h
  split at h
  ·cases h
  ·obtain ⟨y, hy, h⟩ := then_inv h
   have := getR_pos hy
   split at h
   ·cases h
   ·obtain ⟨o, _, h⟩ := then_inv h
    injection h with h
    subst h
    (try dsimp only)
    omega
 refine cut_then (cut_sym hp hL) (fun k hk hkl => ?_) (fun k b hk h => ?_)
 ·(try dsimp only)
  split
  ·exact cut_same (fun o ho => cut_ok hkl)
  ·split
   ·exact cut_ok hkl
   ·split
    ·exact cut_bad
    ·refine cut_then (cut_get hkl hL) (fun x hx hxl => ?_) (fun x b hx h => ?_)
     ·refine cut_then (cut_sym hxl hL) (fun f hf hfl => ?_) (fun f b hf h => tl h)
      (try dsimp only)
      split
      ·exact cut_bad
      ·refine cut_then (cut_get hfl hL) (fun y hy hyl => ?_) (fun y b hy h => ?_)
       ·(try dsimp only)
        split
        ·exact cut_bad
        ·exact cut_same (fun o ho => cut_ok hyl)
       ·split at h
        ·cases h
        ·obtain ⟨o, _, h⟩ := then_inv h
         injection h with h
         subst h
         exact Nat.le_refl _
     ·obtain ⟨f, hf, h⟩ := then_inv h
      have h1 := symR_lt hf (getP_mono hx)
      have h2 := tl h
      omega
 ·have h1 := symR_lt hk (by omega)
  split at h
  ·obtain ⟨o, _, h⟩ := then_inv h
   injection h with h; subst h; exact Nat.le_refl _
  ·split at h
   ·injection h with h; subst h; exact Nat.le_refl _
   ·split at h
    ·cases h
    ·obtain ⟨x, hx, h⟩ := then_inv h
     obtain ⟨f, hf, h⟩ := then_inv h
     have h2 := getR_pos hx
     have h3 := symR_lt hf (getP_mono hx)
     have h4 := tl h
     omega
theorem cut_body (hL : L ≤ row.length) {lit far : List Nat} : ∀ {f f' p : Nat} {out : List UInt8}, p ≤ L → L + 1 ≤ p + f' → Cut L (fun x : Nat × List UInt8 => x.1) (bodyR row lit far f p out) (bodyR (row.take L) lit far f' p out)
 | 0, f', p, out, hp, hf => cut_bad
 | f + 1, 0, p, out, hp, hf => by omega
 | f + 1, f' + 1, p, out, hp, hf => by
  refine cut_then (cut_bodyStep hL hp) (fun x hx hxl => ?_) (fun x b hx h => ?_)
  ·have h1 := bodyStep_mono hx (by omega)
   (try dsimp only at hxl ⊢)
   split
   ·exact cut_ok hxl
   ·exact cut_body hL hxl (by omega)
  ·have h1 := bodyStep_mono hx (by omega)
   split at h
   ·injection h with h; subst h; exact Nat.le_refl _
   ·exact (body_mono h h1.2).1
theorem cut_block (hL : L ≤ row.length) {p : Nat} {out : List UInt8} (hp : p ≤ L) : Cut L (fun x : Bool × Nat × Nat × List UInt8 => x.2.2.1) (blockR row p out) (blockR (row.take L) p out) := by
 have hlen : (row.take L).length = L := by rw [List.length_take]; omega
 refine cut_then (cut_get hp hL) (fun l hl hll => ?_) (fun l b hl h => ?_)
 ·refine cut_then (cut_get hll hL) (fun k hk hkl => ?_) (fun k b hk h => ?_)
  ·(try dsimp only at hkl ⊢)
   split
   ·refine cut_then (cut_stored hL) (fun x hx hxl => cut_ok hxl) (fun x b hx h => ?_)
    injection h with h; subst h; exact Nat.le_refl _
   ·split
    ·refine cut_then (cut_body hL hkl (by omega)) (fun x hx hxl => cut_ok hxl) (fun x b hx h => ?_)
     injection h with h; subst h; exact Nat.le_refl _
    ·split
     ·refine cut_then (cut_head hL hkl) (fun x hx hxl => ?_) (fun x b hx h => ?_)
      ·refine cut_then (cut_body hL hxl (by (try dsimp only at hxl); omega)) (fun y hy hyl => cut_ok hyl) (fun y b hy h => ?_)
       injection h with h; subst h; exact Nat.le_refl _
      ·obtain ⟨y, hy, h⟩ := then_inv h
       have h1 := head_mono hx
       have h2 := body_mono hy h1.2
       injection h with h; subst h; dsimp only; omega
     ·exact cut_bad
  ·have h0 := getR_pos hk
   split at h
   ·obtain ⟨x, hx, h⟩ := then_inv h
    have := stored_mono hx
    injection h with h; subst h; dsimp only; omega
   ·split at h
    ·obtain ⟨x, hx, h⟩ := then_inv h
     have := body_mono hx (getP_mono hk)
     injection h with h; subst h; dsimp only; omega
    ·split at h
     ·obtain ⟨y, hy, h⟩ := then_inv h
      obtain ⟨x, hx, h⟩ := then_inv h
      have h3 := head_mono hy
      have := body_mono hx h3.2
      injection h with h; subst h; dsimp only; omega
     ·cases h
 ·have hb : blockR row p out = .ok b := by
   show (getR row p 1).then_ _ = _
   rw [hl]
   exact h
  have h1 := getR_pos hl
  obtain ⟨k, hk, h⟩ := then_inv h
  have h0 := getR_pos hk
  split at h
  ·obtain ⟨x, hx, h⟩ := then_inv h
   have := stored_mono hx
   injection h with h; subst h; dsimp only; omega
  ·split at h
   ·obtain ⟨x, hx, h⟩ := then_inv h
    have := body_mono hx (getP_mono hk)
    injection h with h; subst h; dsimp only; omega
   ·split at h
    ·obtain ⟨y, hy, h⟩ := then_inv h
     obtain ⟨x, hx, h⟩ := then_inv h
     have h3 := head_mono hy
     have := body_mono hx h3.2
     injection h with h; subst h; dsimp only; omega
    ·cases h
theorem cut_blocks (hL : L ≤ row.length) : ∀ {f f' p : Nat} {out : List UInt8} {ks : List Nat}, p ≤ L → L + 1 ≤ p + f' → Cut L (fun x : Nat × List UInt8 × List Nat => x.1) (blocksR row f p out ks) (blocksR (row.take L) f' p out ks)
 | 0, f', p, out, ks, hp, hf => cut_bad
 | f + 1, 0, p, out, ks, hp, hf => by omega
 | f + 1, f' + 1, p, out, ks, hp, hf => by
  refine cut_then (cut_block hL hp) (fun x hx hxl => ?_) (fun x b hx h => ?_)
  ·have h1 := block_mono hx
   (try dsimp only at hxl ⊢)
   split
   ·exact cut_ok hxl
   ·exact cut_blocks hL hxl (by omega)
  ·split at h
   ·injection h with h; subst h; exact Nat.le_refl _
   ·exact Nat.le_of_lt (blocks_mono h).1
theorem bitsL_takeN (b : List UInt8) (k : Nat) (hk : k ≤ b.length) : bitsL (b.take k) = (bitsL b).take (8 * k) := by
 have e : bitsL b = bitsL (b.take k) ++ bitsL (b.drop k) := by rw [← bitsL_append, List.take_append_drop]
 rw [e, List.take_left' (by rw [bitsL_length, List.length_take, Nat.min_eq_left hk])]
theorem unpack_take {b : List UInt8} {out : List UInt8} {used : Nat} {ks : List Nat} (h : unpackR b = .ok (out, used, ks)) : 1 ≤ used ∧ used ≤ b.length ∧ ks ≠ [] ∧ unpackR (b.take (used - 1)) = .bad 7 ∧ unpackR (b.take used) = .ok (out, used, ks) := by
 unfold unpackR at h
 split at h
 ·cases h
 ·rename_i h6
  obtain ⟨x, hx, h⟩ := then_inv h
  injection h with h
  obtain ⟨p, o, l⟩ := x
  dsimp only at h
  injection h with h1 h2
  injection h2 with h2 h3
  subst h1 h2 h3
  have hm := blocks_mono hx
  rw [bitsL_length] at hm
  dsimp only at hm
  have hk : ∀ k, k ≤ b.length → bitsL (b.take k) = (bitsL b).take (8 * k) := by
   intro k hk
   exact bitsL_takeN b k hk
  have hc : ∀ k, k ≤ b.length → Cut (8 * k) (fun x : Nat × List UInt8 × List Nat => x.1) (blocksR (bitsL b) (8 * b.length + 1) 0 [] []) (blocksR ((bitsL b).take (8 * k)) (8 * k + 1) 0 [] []) := fun k hk => cut_blocks (by rw [bitsL_length]; omega) (Nat.zero_le _) (by omega)
  refine ⟨by omega, by omega, hm.2.2, ?_, ?_⟩
  ·have := hc ((p + 7) / 8 - 1) (by omega) _ hx
   dsimp only at this
   rw [if_neg (by omega)] at this
   unfold unpackR
   rw [if_neg (by rw [List.length_take]; omega), hk _ (by omega), List.length_take, Nat.min_eq_left (by omega), this]
   rfl
  ·have := hc ((p + 7) / 8) (by omega) _ hx
   dsimp only at this
   rw [if_pos (by omega)] at this
   unfold unpackR
   rw [if_neg (by rw [List.length_take]; omega), hk _ (by omega), List.length_take, Nat.min_eq_left (by omega), this]
   rfl
end Go.Proofs.YthpdcnjaodjjmaaGreat.Inf

/- package inflate: Unpack. -/
namespace Go.Proofs.YthpdcnjaodjjmaaGreat.Inf
open Go Go.RowKit Go.Proofs.YthpdcnjaodjjmaaGreat Go.Proofs.YthpdcnjaodjjmaaGreat.Bits Go.Proofs.YthpdcnjaodjjmaaGreat.Code
set_option linter.unusedVariables false
set_option linter.unusedSimpArgs false

def UPost (w : World) (xs : List UInt8) (e : Ending) (w' : World) : Prop := match unpackR xs with
 | .bad z => e = .returned (.tuple #[.slice none 0 0, .int .i64 0, .slice none 0 0, .int .i64 z])
 | .ok a => a.1.length ≤ 3000 ∧ ∃ Ao co Ak ck, e = .returned (.tuple #[.slice Ao a.1.length co, .int .i64 (a.2.1 : Int), .slice Ak a.2.2.length ck, .int .i64 0]) ∧
   w'.ownsRow w.heap.size 5 1 (.slice Ao a.1.length co) a.1.length (a.1.map u8v) ∧ w'.ownsRow w.heap.size 3 1 (.slice Ak a.2.2.length ck) a.2.2.length (a.2.2.map natV)
theorem unp_long {xs : List UInt8} (h : 6000 < xs.length) : unpackR xs = .bad 2 := by unfold unpackR; rw [if_pos h]
theorem unp_some {xs : List UInt8} (h : ¬ 6000 < xs.length) : unpackR xs = (blocksR (bitsL xs) (8 * xs.length + 1) 0 [] []).then_ fun x => .ok (x.2.1, (x.1 + 7) / 8, x.2.2) := by unfold unpackR; rw [if_neg h]
theorem results4 {P : Program} {fn : Func} {p2 p3 p4 p5 : Tmp} {t2 t3 t4 t5 : TypeId} (h : fn.results = #[.cell p2 t2, .cell p3 t3, .cell p4 t4, .cell p5 t5]) (tmps : Array Value) (w : World) (a2 a3 a4 a5 : Addr) (v2 v3 v4 v5 : Value)
  (h2 : tmps.getD p2 undef = .pointer (some a2)) (h3 : tmps.getD p3 undef = .pointer (some a3)) (h4 : tmps.getD p4 undef = .pointer (some a4)) (h5 : tmps.getD p5 undef = .pointer (some a5))
  (l2 : (loadVar t2 a2).run P w = .ok v2 w) (l3 : (loadVar t3 a3).run P w = .ok v3 w) (l4 : (loadVar t4 a4).run P w = .ok v4 w) (l5 : (loadVar t5 a5).run P w = .ok v5 w) :
  (results fn tmps).run P w = .ok (.tuple #[v2, v3, v4, v5]) w := by
 have h2' : tmps[p2]?.getD undef = .pointer (some a2) := by simpa using h2
 have h3' : tmps[p3]?.getD undef = .pointer (some a3) := by simpa using h3
 have h4' : tmps[p4]?.getD undef = .pointer (some a4) := by simpa using h4
 have h5' : tmps[p5]?.getD undef = .pointer (some a5) := by simpa using h5
 simp [results, h, h2', h3', h4', h5', asAddr, l2, l3, l4, l5]
theorem lv_sl8 (w : World) (a : Addr) (v : Value) (h : w.cell? a = some v) : (loadVar 24 a).run Tryz.prog w = .ok v w := by
 simp [loadVar, run_underlying Tryz.underlying24, go_sem, h]
theorem lv_int (w : World) (a : Addr) (v : Value) (h : w.cell? a = some v) : (loadVar 3 a).run Tryz.prog w = .ok v w := by
 simp [loadVar, run_underlying Tryz.underlying3, go_sem, h]
theorem lv_sli (w : World) (a : Addr) (v : Value) (h : w.cell? a = some v) : (loadVar 23 a).run Tryz.prog w = .ok v w := by
 simp [loadVar, run_underlying Tryz.underlying23, go_sem, h]
theorem lv_err (w : World) (a : Addr) (v : Value) (h : w.cell? a = some v) : (loadVar 25 a).run Tryz.prog w = .ok v w := by
 simp [loadVar, run_underlying Tryz.underlying25, go_sem, h]
theorem OutAt.kept {w w' : World} {B g2 g3 g4 g5 : Nat} {T : List TypeId} {v2 v3 v4 v5 : Value} (h : OutAt w B g2 g3 g4 g5 v2 v3 v4 v5) (hk : Keeps w.heap.size T w w') : OutAt w' B g2 g3 g4 g5 v2 v3 v4 v5 :=
 ⟨h.le2, h.le3, h.le4, h.le5, (hk.block g2 h.b2.lt).trans h.b2, (hk.block g3 h.b3.lt).trans h.b3, (hk.block g4 h.b4.lt).trans h.b4, (hk.block g5 h.b5.lt).trans h.b5⟩
theorem below_keeps {B : Nat} {T : List TypeId} {w w4 w' : World} (h : Below B w w4) (hk : Keeps w4.heap.size T w4 w') (hB : B ≤ w4.heap.size) : Below B w w' :=
 h.trans ⟨hk.os, hk.tape, hk.output, hk.size, fun k hkB => hk.block k (by omega)⟩
theorem wp_calm {P : Program} {c : Code} {Q : Exit → Act → World → Prop} {a : Act} {w : World} (h : c.wp P (fun e a w => e = .normal ∧ Q .normal a w) a w) : c.wp P Q a w :=
 wp_mono h (by rintro e a w ⟨rfl, h⟩; exact h)
structure Rest (w : World) (g B : Nat) (A : Option Addr) (n c p : Nat) (Ao : Option Addr) (ol co : Nat) (Ak : Option Addr) (kl ck : Nat) (o : List UInt8) (ks : List Nat) : Prop where
 rdr : Blk w g 86 #[.pointer (some ⟨B, 0, none⟩), .slice Ao ol co, .slice Ak kl ck]
 src : SrcAt w B A n c p
 out : w.ownsRow B 5 1 (.slice Ao ol co) ol (o.map u8v)
 kinds : w.ownsRow B 3 1 (.slice Ak kl ck) kl (ks.map natV)
theorem Rest.held {w : World} {g B n c p ol co kl ck : Nat} {A Ao Ak : Option Addr} {o : List UInt8} {ks : List Nat} (h : Rest w g B A n c p Ao ol co Ak kl ck o ks) : w.cell? ⟨g, 0, none⟩ = some (.pointer (some ⟨B, 0, none⟩)) ∧ w.cell? ⟨g, 1, none⟩ = some (.slice Ao ol co) ∧ w.cell? ⟨g, 2, none⟩ = some (.slice Ak kl ck) := ⟨h.rdr.cell 0, h.rdr.cell 1, h.rdr.cell 2⟩
theorem Rest.set_ {w : World} {g B n c p ol co kl ck x : Nat} {A Ao Ak : Option Addr} {o : List UInt8} {ks : List Nat} {t : TypeId} {cs : Array Value} (h : Rest w g B A n c p Ao ol co Ak kl ck o ks) (hx : Blk w x t cs) (hB : x < B) (hg : g ≠ x) (u : Value) : Rest (w.setCell ⟨x, 0, none⟩ u) g B A n c p Ao ol co Ak kl ck o ks :=
 ⟨h.rdr.far (p := ⟨x, 0, none⟩) hg u, Blk.far h.src (p := ⟨x, 0, none⟩) (by show B ≠ x; omega) u, ownsRow_setCell_below h.out (a := ⟨x, 0, none⟩) hB u, ownsRow_setCell_below h.kinds (a := ⟨x, 0, none⟩) hB u⟩
set_option maxRecDepth 100000 in
set_option maxHeartbeats 1600000 in
theorem at_any (q : Nat) (A : Option Addr) (n c pos : Nat) (w : World) (h : SrcAt w q A n c pos) (hp : pos ≤ 8 * n) (hn : n ≤ 1099511627776) :
  Calls Tryz.prog 44 #[.pointer (some ⟨q, 0, none⟩)] w fun e w' => e = .returned (.int .i64 (((pos + 7) / 8 : Nat) : Int)) ∧ w' = w := by
 have c1 : w.cell? ⟨q, 1, none⟩ = some (.int .i64 (pos : Int)) := by rw [h.cell]; rfl
 have h1 : IntKind.i64.wrap ((pos : Int) + 7) = (pos : Int) + 7 := IntWalk.i64_in _ (by omega)
 have h4 : ((pos : Int) + 7).tdiv 8 = ((pos : Int) + 7) / 8 := Int.tdiv_eq_ediv_of_nonneg (by omega)
 have h2 : IntKind.i64.wrap (((pos : Int) + 7) / 8) = (((pos + 7) / 8 : Nat) : Int) := by
  rw [show ((pos : Int) + 7) / 8 = (((pos + 7) / 8 : Nat) : Int) by omega]
  exact IntWalk.i64_in _ (by omega)
 have hq := Blk.lt h
 clear h
 generalize (pos + 7) / 8 = u at *
 go_enter Tryz.func44, Tryz.ntmps44
 go_wp2_with fail
 go_ret
 exact ⟨rfl, rfl⟩
theorem results_out {w : World} {g2 g3 g4 g5 : Nat} {v2 v3 v4 v5 : Value} (h : OutC w g2 g3 g4 g5 v2 v3 v4 v5) (tmps : Array Value)
  (h2 : tmps.getD 2 undef = .pointer (some ⟨g2, 0, none⟩)) (h3 : tmps.getD 3 undef = .pointer (some ⟨g3, 0, none⟩)) (h4 : tmps.getD 4 undef = .pointer (some ⟨g4, 0, none⟩)) (h5 : tmps.getD 5 undef = .pointer (some ⟨g5, 0, none⟩)) :
  (results Tryz.f20 tmps).run Tryz.prog w = .ok (.tuple #[v2, v3, v4, v5]) w :=
 results4 Tryz.results20 tmps w _ _ _ _ _ _ _ _ h2 h3 h4 h5 (lv_sl8 _ _ _ h.c2) (lv_int _ _ _ h.c3) (lv_sli _ _ _ h.c4) (lv_err _ _ _ h.c5)
theorem out_new (w : World) (x : Value) : OutAt ((((w.alloc (.cells #[.slice none 0 0] 24)).alloc (.cells #[.int .i64 0] 3)).alloc (.cells #[.slice none 0 0] 23)).alloc (.cells #[x] 25)) w.heap.size w.heap.size (w.heap.size + 1) (w.heap.size + 1 + 1) (w.heap.size + 1 + 1 + 1) (.slice none 0 0) (.int .i64 0) (.slice none 0 0) x := by
 have b2 := (((Blk.new w 24 #[.slice none 0 0]).alloc (.cells #[.int .i64 0] 3)).alloc (.cells #[.slice none 0 0] 23)).alloc (.cells #[x] 25)
 have b3 := ((Blk.new (w.alloc (.cells #[.slice none 0 0] 24)) 3 #[.int .i64 0]).alloc (.cells #[.slice none 0 0] 23)).alloc (.cells #[x] 25)
 have b4 := (Blk.new ((w.alloc (.cells #[.slice none 0 0] 24)).alloc (.cells #[.int .i64 0] 3)) 23 #[.slice none 0 0]).alloc (.cells #[x] 25)
 have b5 := Blk.new (((w.alloc (.cells #[.slice none 0 0] 24)).alloc (.cells #[.int .i64 0] 3)).alloc (.cells #[.slice none 0 0] 23)) 25 #[x]
 simp only [World.size_alloc] at b2 b3 b4 b5
 exact ⟨Nat.le_refl _, by omega, by omega, by omega, b2, b3, b4, b5⟩
theorem slat_lt8 {w : World} {b o : Nat} {cs : List Value} (h : SlAt w (some ⟨b, o, none⟩) cs) (hp : 0 < cs.length) : b < w.heap.size := by
 obtain ⟨b', o', e, hc⟩ := h hp
 injection e with e
 injection e with e1 e2
 subst e1 e2
 obtain ⟨x, hx⟩ : ∃ x, cs[0]? = some x := ⟨cs[0], List.getElem?_eq_getElem hp⟩
 exact block_lt_of_cell (hc 0 x hx)
theorem out_below (w : World) (x : Value) : Below w.heap.size w ((((w.alloc (.cells #[.slice none 0 0] 24)).alloc (.cells #[.int .i64 0] 3)).alloc (.cells #[.slice none 0 0] 23)).alloc (.cells #[x] 25)) :=
 ((((Below.refl _ _).alloc (Nat.le_refl _) _).alloc (by simp) _).alloc (by simp; omega) _).alloc (by simp; omega) _
set_option maxRecDepth 100000 in
set_option maxHeartbeats 1600000 in
theorem unpack_any (A : Option Addr) (n c : Nat) (xs : List UInt8) (w : World) (hn : xs.length = n) (hx : n ≤ maxLen) (hA : ByAt w A xs) :
  Calls Tryz.prog 20 #[.slice A n c] w fun e w' => UPost w xs e w' ∧ Below w.heap.size w w' := by
 unfold maxLen at hx
 have hmf : ∀ (fn : Fn) (first cap : Array Value) (w : World), (Instr.makeFunc fn first cap).run Tryz.prog w = .ok (.func fn first cap) w := fun _ _ _ _ => rfl
 have Hn := Lib.hid hn
 have HA := Lib.hid hA
 clear hn hA
 by_cases h6 : 6000 < n
 ·have h6' : (6000 : Int) < (n : Int) := by omega
  have HU := Lib.hid (unp_long (show 6000 < xs.length by rw [Hn.out]; exact h6))
  go_enter_defers Tryz.func20, Tryz.ntmps20
  go_wp2_with fail
  refine ⟨_, results_out (out_new w (.int .i64 2)).cells _ rfl rfl rfl rfl, ?_, out_below w _⟩
  unfold UPost
  rw [HU.out]
 ·have h6' : ¬ (6000 : Int) < (n : Int) := by omega
  have HU := Lib.hid (unp_some (show ¬ 6000 < xs.length by rw [Hn.out]; exact h6))
  go_enter_defers Tryz.func20, Tryz.ntmps20
  go_wp2_with fail
  have HOut := Lib.hid (out_new w (.int .i64 0))
  have Hb4 := Lib.hid (out_below w (.int .i64 0))
  generalize ((((w.alloc (.cells #[.slice none 0 0] 24)).alloc (.cells #[.int .i64 0] 3)).alloc (.cells #[.slice none 0 0] 23)).alloc (.cells #[.int .i64 0] 25)) = w4 at *
  generalize hg3 : w.heap.size + 1 = g3 at *
  generalize hg4 : g3 + 1 = g4 at *
  generalize hg5 : g4 + 1 = g5 at *
  generalize hg2 : w.heap.size = g2 at *
  have Hg2 := Lib.hid hg2
  have HA4 := Lib.hid (SlAt.below HA.out (by rw [hg2]; exact Hb4.out))
  have hBw : g2 ≤ w4.heap.size := by have := Hb4.out.size; omega
  have hlow : ∀ b o, A = some ⟨b, o, none⟩ → 0 < n → b < w4.heap.size := fun b o e hp => by
   have := slat_lt8 (e ▸ HA.out) (by rw [List.length_map, Hn.out]; exact hp)
   omega
  clear hg2 hg3 hg4 hg5 HA
  refine (of_any A n c w4).mono ?_
  rintro e w5 ⟨rfl, hsrc, hb5⟩
  have HS5 := Lib.hid hsrc
  have Hb5 := Lib.hid hb5
  clear hsrc hb5
  go_wp2_with fail
  obtain ⟨G, hG⟩ : ∃ G : Nat × List UInt8 × List Nat → Rd (List UInt8 × Nat × List Nat), G = fun x => .ok (x.2.1, (x.1 + 7) / 8, x.2.2) := ⟨_, rfl⟩
  obtain ⟨R, hR⟩ : ∃ R, R = unpackR xs := ⟨_, rfl⟩
  have HU := Lib.hid (show R = (blocksR (bitsL xs) (8 * n + 1) 0 [] []).then_ G by rw [hR, HU.out, hG, Hn.out])
  have HGd := Lib.hid hG
  have HRd := Lib.hid hR
  clear hG hR
  have hrow : (bitsL xs).length = 8 * n := by rw [bitsL_length, Hn.out]
  have Hrow := Lib.hid hrow
  clear hrow
  have hbx : Below w4.heap.size w4 (w5.alloc (.cells #[.pointer (some ⟨w4.heap.size, 0, none⟩), .slice none 0 0, .slice none 0 0] 86)) := Hb5.out.alloc Hb5.out.size _
  have HOut6 := Lib.hid (HOut.out.below hbx)
  have HK6 : Hid (Keeps w4.heap.size infT2 w4 (w5.alloc (.cells #[.pointer (some ⟨w4.heap.size, 0, none⟩), .slice none 0 0, .slice none 0 0] 86))) := Lib.hid (Keeps.of_below hbx (Nat.le_refl _))
  have HR6 : Hid (RdAt (w5.alloc (.cells #[.pointer (some ⟨w4.heap.size, 0, none⟩), .slice none 0 0, .slice none 0 0] 86)) w4.heap.size w5.heap.size w4.heap.size A n c 0 [] []) := Lib.hid
   ⟨Hb5.out.size, Nat.le_refl _, by omega, by simp, ⟨_, _, Blk.new _ _ _, World.ownsRow_nil _ _ _ _, World.ownsRow_nil _ _ _ _⟩, Blk.alloc HS5.out _⟩
  have HI4 : Hid (InAt_ w4 w4.heap.size A n xs) := Lib.hid ⟨Hn.out, by omega, HA4.out, hlow⟩
  generalize w5.alloc (.cells #[.pointer (some ⟨w4.heap.size, 0, none⟩), .slice none 0 0, .slice none 0 0] 86) = w6 at *
  generalize w5.heap.size = g at *
  obtain ⟨B, hB⟩ : ∃ B, B = w4.heap.size := ⟨_, rfl⟩
  rw [← hB] at HK6 HR6 HI4 hBw ⊢
  have HBe := Lib.hid hB
  clear hB hbx hlow HS5 Hb5 HA4
  go_loopw [] (fun wr => ∃ (f p : Nat) (o : List UInt8) (ks : List Nat), 8 * n + 1 ≤ p + f ∧ ks.length ≤ p ∧ R = (blocksR (bitsL xs) f p o ks).then_ G ∧ RdAt wr B g B A n c p o ks ∧ Keeps B infT2 w4 wr) (fun wr => 8 * n - posOf B wr)
  case atStart => exact ⟨8 * n + 1, 0, [], [], by omega, by simp, HU.out, HR6.out, HK6.out⟩
  case round =>
   obtain ⟨f, p, o, ks, hpf, hkp, hR, hrd, hk⟩ := hrel
   have hple := hrd.ple
   obtain ⟨f, rfl⟩ : ∃ f', f = f' + 1 := ⟨f - 1, by omega⟩
   have HU := Lib.hid (show R = ((blockR (bitsL xs) p o).then_ fun x => if x.1 = true then .ok (x.2.2.1, x.2.2.2, ks ++ [x.2.1]) else blocksR (bitsL xs) f x.2.2.1 x.2.2.2 (ks ++ [x.2.1])).then_ G from hR)
   have Hpos : Hid (posOf B wr = p) := Lib.hid (posOf_src hrd.src)
   have HK := Lib.hid hk
   have HIr : Hid (InAt_ wr B A n xs) := Lib.hid (HI4.out.keeps hk)
   have HBk := Lib.hid (block_r B g B A n c p xs o ks wr hrd HIr.out (by omega) (by omega))
   have HOutr : Hid (OutAt wr g2 g2 g3 g4 g5 (.slice none 0 0) (.int .i64 0) (.slice none 0 0) (.int .i64 0)) := Lib.hid (HOut.out.kept (HBe.out ▸ hk))
   clear hR hrd hk HR6 HK6 HOut6 HIr
   go_wp2_with fail
   refine (HBk.out).mono ?_
   rintro e w7 ⟨hr7, hk7⟩
   have HK7 := Lib.hid (HK.out.trans hk7)
   have HOut7 : Hid (OutAt w7 g2 g2 g3 g4 g5 (.slice none 0 0) (.int .i64 0) (.slice none 0 0) (.int .i64 0)) := Lib.hid (HOut.out.kept (HBe.out ▸ HK7.out))
   have Hb7 : Hid (Below g2 w w7) := Lib.hid (below_keeps Hb4.out (HBe.out ▸ HK7.out) (HBe.out ▸ hBw))
   cases hg7 : blockR (bitsL xs) p o with
   | bad z =>
    have he := rpost_bad hr7 hg7
    subst he
    have HU := Lib.hid (show R = .bad z by rw [HU.out, hg7]; rfl)
    clear hr7 hk7 hg7
    unfold stopE
    go_wp2_with fail
    refine leaves_cons (f := 41) (args := #[.pointer (some ⟨g2, 0, none⟩), .pointer (some ⟨g3, 0, none⟩), .pointer (some ⟨g4, 0, none⟩), .pointer (some ⟨g5, 0, none⟩)]) (by simp) (by simp [go_sem]) ?_
    refine (catch_panicking g2 g2 g3 g4 g5 _ _ _ _ z [] w7 (Nat.le_trans (HBe.out ▸ hBw) HK7.out.size |> fun h => by have := HK7.out.size; have := HBe.out; omega) HOut7.out).mono ?_
    rintro e u' w8 ⟨rfl, rfl, hout8, hb8⟩
    refine ⟨_, results_out hout8.cells _ rfl rfl rfl rfl, ?_, ?_⟩
    ·unfold UPost
     rw [← HRd.out, HU.out]
    ·rw [Hg2.out]
     exact Hb7.out.trans hb8
   | ok a =>
    obtain ⟨he, hrd7⟩ := rpost_ok hr7 hg7
    subst he
    have hm := block_mono hg7
    rw [Hrow.out] at hm
    replace HU := Lib.hid (HU.out.trans (by rw [hg7, then_ok]))
    have HR7 := Lib.hid hrd7
    obtain ⟨lb, k, p7, o7⟩ := a
    dsimp only at HU HR7 hm ⊢
    clear hr7 hk7 hg7 hrd7 HBk
    cases lb with
    | false =>
     replace HU := Lib.hid (HU.out.trans (by rw [if_neg (by simp)]))
     go_wp2_with fail
     go_roundw
     case rel => exact ⟨f, p7, o7, ks ++ [k], by omega, by simp; omega, HU.out, HR7.out, HK7.out⟩
     case measure => rw [Hpos.out, posOf_src HR7.out.src]; omega
    | true =>
     replace HU := Lib.hid (HU.out.trans (by rw [if_pos rfl, then_ok, HGd.out]))
     dsimp only at HU
     obtain ⟨vo, Ak, kl, ck, ekl, hb, ho, hkk⟩ := kind_any HR7.out
     obtain ⟨Ao, co, rfl, _⟩ := own_slat ho
     obtain ⟨ol, hol⟩ : ∃ ol, ol = o7.length := ⟨_, rfl⟩
     rw [← hol] at hb ho
     have Hol := Lib.hid hol
     have Hekl := Lib.hid ekl
     have HO7 := Lib.hid ho
     have HKK7 := Lib.hid hkk
     have HBR := Lib.hid hb
     have HS7 := Lib.hid HR7.out.src
     have hfew := HR7.out.few
     have hp7 := HR7.out.ple
     have hBB : g2 ≤ B := hBw
     have hBe := HBe.out
     have hlt2 : g2 < B := by have := HOut.out.b2.lt; omega
     have hlt3 : g3 < B := by have := HOut.out.b3.lt; omega
     have hlt4 : g4 < B := by have := HOut.out.b4.lt; omega
     have hlt5 : g5 < B := by have := HOut.out.b5.lt; omega
     have hgB : B ≤ g := by obtain ⟨h1, _⟩ := HR7.out; exact h1
     clear hBe
     clear hol ekl ho hkk hb HOut Hb4 HI4
     go_wp2_with fail
     refine wp_calm ?_
     refine wp_region_S (fun W => W.cell? ⟨g, 0, none⟩ = some (.pointer (some ⟨B, 0, none⟩)) ∧ W.cell? ⟨g, 1, none⟩ = some (.slice Ao ol co) ∧ W.cell? ⟨g, 2, none⟩ = some (.slice Ak kl ck)) 16 (by kernel_rfl) ?_
     have hHeld : w7.drew.cell? ⟨g, 0, none⟩ = some (.pointer (some ⟨B, 0, none⟩)) ∧ w7.drew.cell? ⟨g, 1, none⟩ = some (.slice Ao ol co) ∧ w7.drew.cell? ⟨g, 2, none⟩ = some (.slice Ak kl ck) := ⟨HBR.out.cell 0, HBR.out.cell 1, HBR.out.cell 2⟩
     have H3 := Lib.hid (HOut7.out.below ((Below.refl _ _).drew))
     have Hb3 := Lib.hid (Hb7.out.trans ((Below.refl g2 w7).drew))
     have HX3 : Hid (Rest w7.drew g B A n c p7 Ao ol co Ak kl ck o7 (ks ++ [k])) := Lib.hid ⟨HBR.out, HS7.out, HO7.out, HKK7.out⟩
     have HAt := Lib.hid (at_any B A n c p7 w7.drew HX3.out.src hp7 (by omega))
     clear HOut7 Hb7 HBR HO7 HKK7 HS7
     generalize w7.drew = w3 at *
     refine wpAnyS_takeT (i := 0) (v := ?va0) (by kernel_rfl) (by kernel_rfl) rfl (by kernel_rfl) (by kernel_rfl) (by kernel_rfl) (fun _ _ _ h => by cases h.1) (by rfl) (by assumption) ?hya0 ?resta0
     case hya0 => (intro W hSW; (try dsimp only at hSW); go_simp; try with_reducible rfl)
     (try simp only [Act.put, List.getElem_toArray, List.getElem_cons_zero, List.getElem_cons_succ, List.setIfInBounds_toArray, List.set_cons_zero, List.set_cons_succ])
     refine wpAnyS_takeT (i := 1) (v := ?va1) (by kernel_rfl) (by kernel_rfl) rfl (by kernel_rfl) (by kernel_rfl) (by kernel_rfl) (fun _ _ _ h => by cases h.1) (by rfl) (by assumption) ?hya1 ?resta1
     case hya1 => (intro W hSW; (try dsimp only at hSW); go_simp; try with_reducible rfl)
     (try simp only [Act.put, List.getElem_toArray, List.getElem_cons_zero, List.getElem_cons_succ, List.setIfInBounds_toArray, List.set_cons_zero, List.set_cons_succ])
     refine wpAnyS_takeT (i := 2) (v := ?va2) (by kernel_rfl) (by kernel_rfl) rfl (by kernel_rfl) (by kernel_rfl) (by kernel_rfl) (fun _ _ _ h => by cases h.1) (by rfl) (by assumption) ?hya2 ?resta2
     case hya2 => (intro W hSW; (try dsimp only at hSW); go_simp; try with_reducible rfl)
     (try simp only [Act.put, List.getElem_toArray, List.getElem_cons_zero, List.getElem_cons_succ, List.setIfInBounds_toArray, List.set_cons_zero, List.set_cons_succ])
     refine wpAnyS_takeT (i := 3) (v := ?va3) (by kernel_rfl) (by kernel_rfl) rfl (by kernel_rfl) (by kernel_rfl) (by kernel_rfl) (fun _ _ _ h => by cases h.1) (by rfl) (by assumption) ?hya3 ?resta3
     case hya3 => (intro W hSW; (try dsimp only at hSW); go_simp; try with_reducible rfl)
     (try simp only [Act.put, List.getElem_toArray, List.getElem_cons_zero, List.getElem_cons_succ, List.setIfInBounds_toArray, List.set_cons_zero, List.set_cons_succ])
     refine wpAnyS_takeT (i := 4) (v := ?va4) (by kernel_rfl) (by kernel_rfl) rfl (by kernel_rfl) (by kernel_rfl) (by kernel_rfl) (fun _ _ _ h => by cases h.1) (by rfl) (by assumption) ?hya4 ?resta4
     case hya4 => (intro W hSW; (try dsimp only at hSW); go_simp; try with_reducible rfl)
     (try simp only [Act.put, List.getElem_toArray, List.getElem_cons_zero, List.getElem_cons_succ, List.setIfInBounds_toArray, List.set_cons_zero, List.set_cons_succ])
     refine wpAnyS_takeT (i := 5) (v := ?va5) (by kernel_rfl) (by kernel_rfl) rfl (by kernel_rfl) (by kernel_rfl) (by kernel_rfl) (fun _ _ _ h => by cases h.1) (by rfl) (by assumption) ?hya5 ?resta5
     case hya5 => (intro W hSW; (try dsimp only at hSW); go_simp; try with_reducible rfl)
     (try simp only [Act.put, List.getElem_toArray, List.getElem_cons_zero, List.getElem_cons_succ, List.setIfInBounds_toArray, List.set_cons_zero, List.set_cons_succ])
     refine wpAnyS_takeT (i := 6) (v := ?va6) (by kernel_rfl) (by kernel_rfl) rfl (by kernel_rfl) (by kernel_rfl) (by kernel_rfl) (fun _ _ _ h => by cases h.1) (by rfl) (by assumption) ?hya6 ?resta6
     case hya6 => (intro W hSW; (try dsimp only at hSW); go_simp; try with_reducible rfl)
     (try simp only [Act.put, List.getElem_toArray, List.getElem_cons_zero, List.getElem_cons_succ, List.setIfInBounds_toArray, List.set_cons_zero, List.set_cons_succ])
     refine wpAnyS_takeT (i := 7) (v := ?va7) (by kernel_rfl) (by kernel_rfl) rfl (by kernel_rfl) (by kernel_rfl) (by kernel_rfl) (fun _ _ _ h => by cases h.1) (by rfl) (by assumption) ?hya7 ?resta7
     case hya7 => (intro W hSW; (try dsimp only at hSW); go_simp; try with_reducible rfl)
     (try simp only [Act.put, List.getElem_toArray, List.getElem_cons_zero, List.getElem_cons_succ, List.setIfInBounds_toArray, List.set_cons_zero, List.set_cons_succ])
     refine wpAnyS_takeT (i := 9) (v := ?va9) (by kernel_rfl) (by kernel_rfl) rfl (by kernel_rfl) (by kernel_rfl) (by kernel_rfl) (fun _ _ _ h => by cases h.1) (by rfl) (by assumption) ?hya9 ?resta9
     case hya9 => (intro W hSW; (try dsimp only at hSW); go_simp; try with_reducible rfl)
     (try simp only [Act.put, List.getElem_toArray, List.getElem_cons_zero, List.getElem_cons_succ, List.setIfInBounds_toArray, List.set_cons_zero, List.set_cons_succ])
     refine wpAnyS_takeT (i := 10) (v := ?va10) (by kernel_rfl) (by kernel_rfl) rfl (by kernel_rfl) (by kernel_rfl) (by kernel_rfl) (fun _ _ _ h => by cases h.1) (by rfl) (by assumption) ?hya10 ?resta10
     case hya10 => (intro W hSW; (try dsimp only at hSW); go_simp; try with_reducible rfl)
     (try simp only [Act.put, List.getElem_toArray, List.getElem_cons_zero, List.getElem_cons_succ, List.setIfInBounds_toArray, List.set_cons_zero, List.set_cons_succ])
     refine wpAnyS_takeT (i := 11) (v := ?va11) (by kernel_rfl) (by kernel_rfl) rfl (by kernel_rfl) (by kernel_rfl) (by kernel_rfl) (fun _ _ _ h => by cases h.1) (by rfl) (by assumption) ?hya11 ?resta11
     case hya11 => (intro W hSW; (try dsimp only at hSW); go_simp; try with_reducible rfl)
     (try simp only [Act.put, List.getElem_toArray, List.getElem_cons_zero, List.getElem_cons_succ, List.setIfInBounds_toArray, List.set_cons_zero, List.set_cons_succ])
     refine wpAnyS_takeT (i := 12) (v := ?va12) (by kernel_rfl) (by kernel_rfl) rfl (by kernel_rfl) (by kernel_rfl) (by kernel_rfl) (fun _ _ _ h => by cases h.1) (by rfl) (by assumption) ?hya12 ?resta12
     case hya12 => (intro W hSW; (try dsimp only at hSW); go_simp; try with_reducible rfl)
     (try simp only [Act.put, List.getElem_toArray, List.getElem_cons_zero, List.getElem_cons_succ, List.setIfInBounds_toArray, List.set_cons_zero, List.set_cons_succ])
     refine wpAnyS_only (i := 8) rfl (by kernel_rfl) (fun K hK => ?_)
     go_simp
     go_at_call 44
     refine (HAt.out).mono ?_
     rintro e w3' ⟨rfl, hw3'⟩
     cases hw3'
     refine hK.out _ _ hHeld (fun hHeld => ?_)
     clear hK K
     (try simp only [Act.put, List.getElem_toArray, List.getElem_cons_zero, List.getElem_cons_succ, List.setIfInBounds_toArray, List.set_cons_zero, List.set_cons_succ])
     obtain ⟨us, hus⟩ : ∃ us, us = (p7 + 7) / 8 := ⟨_, rfl⟩
     rw [← hus] at HU ⊢
     clear hus
     obtain ⟨c2, c3, c4, c5, f2, f3, f4, f5⟩ := H3.out.cells
     refine wpAnyS_only (i := 13) rfl (by kernel_rfl) (fun K hK => ?_)
     go_simp
     have H4 := Lib.hid (H3.out.s2 (.slice Ao ol co))
     have Hb4 := Lib.hid (Hb3.out.setCell (p := ⟨g2, 0, none⟩) H3.out.le2 (.slice Ao ol co))
     have HX4 := Lib.hid (HX3.out.set_ H3.out.b2 hlt2 (by omega) (.slice Ao ol co))
     clear hHeld c2 c3 c4 c5 f2 f3 f4 f5
     refine hK.out _ _ HX4.out.held (fun hHeld => ?_)
     clear hK K H3 Hb3 HX3
     (try simp only [Act.put, List.getElem_toArray, List.getElem_cons_zero, List.getElem_cons_succ, List.setIfInBounds_toArray, List.set_cons_zero, List.set_cons_succ])
     generalize w3.setCell ⟨g2, 0, none⟩ (.slice Ao ol co) = w4 at *
     obtain ⟨c2, c3, c4, c5, f2, f3, f4, f5⟩ := H4.out.cells
     refine wpAnyS_only (i := 14) rfl (by kernel_rfl) (fun K hK => ?_)
     go_simp
     have H5 := Lib.hid (H4.out.s3 (.int .i64 (us : Int)))
     have Hb5 := Lib.hid (Hb4.out.setCell (p := ⟨g3, 0, none⟩) H4.out.le3 (.int .i64 (us : Int)))
     have HX5 := Lib.hid (HX4.out.set_ H4.out.b3 hlt3 (by omega) (.int .i64 (us : Int)))
     clear hHeld c2 c3 c4 c5 f2 f3 f4 f5
     refine hK.out _ _ HX5.out.held (fun hHeld => ?_)
     clear hK K H4 Hb4 HX4
     (try simp only [Act.put, List.getElem_toArray, List.getElem_cons_zero, List.getElem_cons_succ, List.setIfInBounds_toArray, List.set_cons_zero, List.set_cons_succ])
     generalize w4.setCell ⟨g3, 0, none⟩ (.int .i64 (us : Int)) = w5 at *
     obtain ⟨c2, c3, c4, c5, f2, f3, f4, f5⟩ := H5.out.cells
     refine wpAnyS_only (i := 15) rfl (by kernel_rfl) (fun K hK => ?_)
     go_simp
     have H6 := Lib.hid (H5.out.s4 (.slice Ak kl ck))
     have Hb6 := Lib.hid (Hb5.out.setCell (p := ⟨g4, 0, none⟩) H5.out.le4 (.slice Ak kl ck))
     have HX6 := Lib.hid (HX5.out.set_ H5.out.b4 hlt4 (by omega) (.slice Ak kl ck))
     clear hHeld c2 c3 c4 c5 f2 f3 f4 f5
     refine hK.out _ _ HX6.out.held (fun hHeld => ?_)
     clear hK K H5 Hb5 HX5
     (try simp only [Act.put, List.getElem_toArray, List.getElem_cons_zero, List.getElem_cons_succ, List.setIfInBounds_toArray, List.set_cons_zero, List.set_cons_succ])
     generalize w5.setCell ⟨g4, 0, none⟩ (.slice Ak kl ck) = w6 at *
     obtain ⟨c2, c3, c4, c5, f2, f3, f4, f5⟩ := H6.out.cells
     refine wpAnyS_last rfl (by kernel_rfl) (by kernel_rfl) (fun K hK => ?_)
     go_simp
     have H7 := Lib.hid (H6.out.s5 (.int .i64 0))
     have Hb7 := Lib.hid (Hb6.out.setCell (p := ⟨g5, 0, none⟩) H6.out.le5 (.int .i64 0))
     have HX7 := Lib.hid (HX6.out.set_ H6.out.b5 hlt5 (by omega) (.int .i64 0))
     clear hHeld c2 c3 c4 c5 f2 f3 f4 f5
     refine hK.out _ _ ⟨rfl, ?_⟩
     clear hK K
     go_wp2_with fail
     refine leaves_cons (f := 41) (args := #[.pointer (some ⟨g2, 0, none⟩), .pointer (some ⟨g3, 0, none⟩), .pointer (some ⟨g4, 0, none⟩), .pointer (some ⟨g5, 0, none⟩)]) (by simp) (by simp [go_sem]) ?_
     refine (catch_idle g2 g3 g4 g5 _).mono ?_
     rintro e u' w8 ⟨rfl, rfl, rfl⟩
     refine ⟨_, results_out H7.out.cells _ rfl rfl rfl rfl, ?_, ?_⟩
     ·unfold UPost
      rw [← HRd.out, HU.out]
      dsimp only
      have h1 := HX7.out.out
      have h2 := HX7.out.kinds
      rw [Hol.out] at h1
      rw [Hekl.out] at h2
      refine ⟨hfew, Ao, co, Ak, ck, ?_, own_base h1 (by rw [Hg2.out]; exact hBB), own_base h2 (by rw [Hg2.out]; exact hBB)⟩
      rw [Hol.out, Hekl.out]
     ·rw [Hg2.out]
      exact Hb7.out
end Go.Proofs.YthpdcnjaodjjmaaGreat.Inf

/- package inflate: what is wrong is never 0; the plain law. No program in sight. -/
namespace Go.Proofs.YthpdcnjaodjjmaaGreat.Inf
open Go.Proofs.YthpdcnjaodjjmaaGreat.Bits Go.Proofs.YthpdcnjaodjjmaaGreat.Code
set_option linter.unusedVariables false

def Nz {α : Type} (r : Rd α) : Prop := ∀ z, r = .bad z → z ≠ 0
theorem nz_ok {α : Type} {a : α} : Nz (.ok a) := fun z h => by cases h
theorem nz_bad {α : Type} {z : Int} (h : z ≠ 0) : Nz (.bad z : Rd α) := fun y e => by injection e with e; subst e; exact h
theorem nz_then {α β : Type} {r : Rd α} {f : α → Rd β} (h : Nz r) (hf : ∀ a, Nz (f a)) : Nz (r.then_ f) := by
 cases r with
 | bad e => exact fun z hz => h z (by injection hz with hz; rw [hz])
 | ok a => exact hf a
theorem nz_ite {α : Type} {c : Prop} [Decidable c] {r s : Rd α} (h : Nz r) (k : Nz s) : Nz (if c then r else s) := by split <;> assumption
theorem nz_get (row : List Bool) (p n : Nat) : Nz (getR row p n) := nz_ite nz_ok (nz_bad (by decide))
theorem nz_sym (row : List Bool) (ls : List Nat) (p : Nat) : Nz (symR row ls p) := by
 unfold symR
 split
 ·exact nz_ok
 ·rename_i h; exact nz_bad h
theorem nz_push (out : List UInt8) (x : UInt8) : Nz (pushR out x) := nz_ite (nz_bad (by decide)) nz_ok
theorem nz_raw (row : List Bool) : ∀ (n p : Nat) (out : List UInt8), Nz (rawR row n p out)
 | 0, _, _ => nz_ok
 | n + 1, p, out => nz_then (nz_get _ _ _) fun x => nz_then (nz_push _ _) fun o => nz_raw row n _ _
theorem nz_table (zs : List Int) : Nz (tableR zs) := nz_ite nz_ok (nz_bad (by decide))
theorem nz_again (n : Nat) (l : List Nat) (v k : Nat) : Nz (againR n l v k) := nz_ite (nz_bad (by decide)) nz_ok
theorem nz_lenStep (row : List Bool) (ls : List Nat) (n p : Nat) (l : List Nat) : Nz (lenStep row ls n p l) := by
 have key : ∀ (q nb v add : Nat), Nz ((getR row q nb).then_ fun x => (againR n l v (add + x.1)).then_ fun m => Rd.ok (x.2, m)) := fun q nb v add => nz_then (nz_get _ _ _) fun x => nz_then (nz_again _ _ _ _) fun m => nz_ok
 exact nz_then (nz_sym _ _ _) fun k => nz_ite (nz_ite (nz_bad (by decide)) (key _ _ _ _)) (nz_ite (key _ _ _ _) (nz_ite (key _ _ _ _) (nz_then (nz_again _ _ _ _) fun m => nz_ok)))
theorem nz_len (row : List Bool) (ls : List Nat) (n : Nat) : ∀ (f p : Nat) (l : List Nat), Nz (lenR row ls n f p l)
 | 0, _, _ => nz_ok
 | f + 1, p, l => nz_ite nz_ok (nz_then (nz_lenStep _ _ _ _ _) fun x => nz_len row ls n f _ _)
theorem nz_sizes (row : List Bool) : ∀ (ks : List Nat) (p : Nat) (s : List Nat), Nz (sizesR row ks p s)
 | [], _, _ => nz_ok
 | k :: ks, p, s => nz_then (nz_get _ _ _) fun x => nz_sizes row ks _ _
theorem nz_head (row : List Bool) (p : Nat) : Nz (headR row p) :=
 nz_then (nz_get _ _ _) fun a => nz_then (nz_get _ _ _) fun b => nz_then (nz_get _ _ _) fun c => nz_ite (nz_bad (by decide)) (nz_then (nz_sizes _ _ _ _) fun s => nz_then (nz_table _) fun t =>
  nz_then (nz_len _ _ _ _ _ _) fun l => nz_ite (nz_bad (by decide)) (nz_then (nz_table _) fun x => nz_then (nz_table _) fun y => nz_ok))
theorem nz_copy (d : Nat) : ∀ (n : Nat) (out : List UInt8), Nz (copyR d n out)
 | 0, _ => nz_ok
 | n + 1, out => nz_then (nz_push _ _) fun o => nz_copy d n o
theorem nz_bodyStep (row : List Bool) (lit far : List Nat) (p : Nat) (out : List UInt8) : Nz (bodyStep row lit far p out) :=
 nz_then (nz_sym _ _ _) fun k => nz_ite (nz_then (nz_push _ _) fun o => nz_ok) (nz_ite nz_ok (nz_ite (nz_bad (by decide)) (nz_then (nz_get _ _ _) fun x => nz_then (nz_sym _ _ _) fun f =>
  nz_ite (nz_bad (by decide)) (nz_then (nz_get _ _ _) fun y => nz_ite (nz_bad (by decide)) (nz_then (nz_copy _ _ _) fun o => nz_ok)))))
theorem nz_body (row : List Bool) (lit far : List Nat) : ∀ (f p : Nat) (out : List UInt8), Nz (bodyR row lit far f p out)
 | 0, _, _ => nz_bad (by decide)
 | f + 1, p, out => nz_then (nz_bodyStep _ _ _ _ _) fun x => nz_ite nz_ok (nz_body row lit far f _ _)
theorem nz_stored (row : List Bool) (p : Nat) (out : List UInt8) : Nz (storedR row p out) :=
 nz_then (nz_get _ _ _) fun x => nz_then (nz_get _ _ _) fun y => nz_ite (nz_bad (by decide)) (nz_raw _ _ _ _)
theorem nz_block (row : List Bool) (p : Nat) (out : List UInt8) : Nz (blockR row p out) :=
 nz_then (nz_get _ _ _) fun l => nz_then (nz_get _ _ _) fun k => nz_ite (nz_then (nz_stored _ _ _) fun x => nz_ok) (nz_ite (nz_then (nz_body _ _ _ _ _ _) fun x => nz_ok)
  (nz_ite (nz_then (nz_head _ _) fun h => nz_then (nz_body _ _ _ _ _ _) fun x => nz_ok) (nz_bad (by decide))))
theorem nz_blocks (row : List Bool) : ∀ (f p : Nat) (out : List UInt8) (ks : List Nat), Nz (blocksR row f p out ks)
 | 0, _, _, _ => nz_bad (by decide)
 | f + 1, p, out, ks => nz_then (nz_block _ _ _) fun x => nz_ite nz_ok (nz_blocks row f _ _ _)
theorem nz_unpack (b : List UInt8) : Nz (unpackR b) := nz_ite (nz_bad (by decide)) (nz_then (nz_blocks _ _ _ _ _) fun x => nz_ok)
end Go.Proofs.YthpdcnjaodjjmaaGreat.Inf
