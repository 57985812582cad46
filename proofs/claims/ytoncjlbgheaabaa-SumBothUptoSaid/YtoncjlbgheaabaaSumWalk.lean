/- sums: the walks of sum.CRC, sum.Adler, the reference's CRCOf and AdlerOf. -/
import Derived.Test.YtoncjlbgheaabaaSumPure
import Derived.Test.YtoncjlbgheaabaaProg
import Derived.WalkSpells
import Derived.Lib.SlBytesConst
namespace Go.Proofs.Ytoncjlbgheaabaa.Sum
open Go Go.RowKit Go.Proofs.Ytoncjlbgheaabaa

def bitN (x : UInt8) (j : Nat) : Int := ((x.toNat.testBit j).toNat : Int)
theorem u8_and_bit (x : UInt8) (j : Nat) : bits .and .u8 (n8 x / 2 ^ j) 1 = bitN x j := by
  have hx := x.toNat_lt
  have hlt : x.toNat / 2 ^ j < 256 := Nat.lt_of_le_of_lt (Nat.div_le_self _ _) hx
  have h2 : n8 x / 2 ^ j = ((x.toNat / 2 ^ j : Nat) : Int) := by unfold n8; simp
  rw [h2, show (1 : Int) = ((1 : Nat) : Int) from rfl, u8_and_nat _ _ hlt (by omega), nat_mask1]
  unfold bitN; rw [Nat.toNat_testBit]
theorem u32_bit (x : UInt8) (j : Nat) : IntKind.u32.wrap (bitN x j) = n32 (b32 (x.toNat.testBit j)) := by
  unfold bitN; cases x.toNat.testBit j <;> rfl
theorem u32_bit' (x : UInt8) (j : Nat) : bitN x j % 4294967296 = n32 (b32 (x.toNat.testBit j)) := by
  unfold bitN; cases x.toNat.testBit j <;> rfl
attribute [local go_sem] u8_and_bit u32_bit u32_bit'

theorem beq_one (c : W32) : (n32 c == 1) = decide (c = 1#32) := n32_beq c 1#32
theorem bits_take (x : UInt8) (j : Nat) (h : j < 8) : (bitsOf x).take (j + 1) = (bitsOf x).take j ++ [x.toNat.testBit j] := by
  rw [take_snoc _ _ (by simp [bitsOf_length]; exact h)]
  simp [bitsOf]
theorem refStep_yes (d : W32) (b : Bool) (h : (d &&& 1#32) ^^^ b32 b = 1#32) : (d >>> 1) ^^^ 3988292384#32 = crcBit d b := by
  rw [← refBit_eq]; unfold refBit; rw [if_pos h]; rfl
theorem refStep_no (d : W32) (b : Bool) (h : ¬ (d &&& 1#32) ^^^ b32 b = 1#32) : (d >>> 1) = crcBit d b := by
  rw [← refBit_eq]; unfold refBit; rw [if_neg h]; simp
theorem crcBits_snoc (c : W32) (l : List Bool) (b : Bool) : crcBits c (l ++ [b]) = crcBit (crcBits c l) b := by simp [crcBits]

set_option maxRecDepth 100000 in
set_option maxHeartbeats 400000 in
theorem crcof_any (c : W32) (A : Option Addr) (n cap : Nat) (xs : List UInt8) (w : World) (hn : xs.length = n) (hm : n ≤ maxLen) (hc : ByAt w A xs) :
    Calls Try.prog 19 #[.int .u32 (n32 c), .slice A n cap] w fun e w' => e = .returned (.int .u32 (n32 (crc c xs))) ∧ w = w' := by
  unfold maxLen at hm
  have Hn := Lib.hid hn
  have Hc := Lib.hid hc
  clear hn hc
  go_enter Try.func19, Try.ntmps19
  go_wp2
  go_loop [5, 14] (fun cc i => ∃ k : Nat, k ≤ n ∧ i = .int .i64 k ∧ cc = .int .u32 (n32 (crcL (~~~c) (xs.take k)))) (fun _ i => n - (intOf i).toNat)
  case atStart => exact ⟨0, Nat.zero_le _, rfl, rfl⟩
  case round =>
    obtain ⟨k, hk, rfl, rfl⟩ := hrel
    by_cases hlt : k < n
    · have hkx : k < xs.length := by rw [Hn.out]; exact hlt
      obtain ⟨b, o, rfl, hcell⟩ := Hc.out.get hkx
      have Hs : Hid (crcL (~~~c) (xs.take (k + 1)) = crcBits (crcL (~~~c) (xs.take k)) (bitsOf xs[k])) := Lib.hid (by rw [take_snoc _ _ hkx, crcL_snoc, crcB_bits])
      clear Hc
      generalize hd0 : crcL (~~~c) (xs.take k) = d0 at *
      have Hd0 := Lib.hid hd0
      clear hd0
      generalize hx0 : xs[k] = x at *
      clear hx0
      go_wp2
      go_loop [5, 18] (fun cc i => ∃ j : Nat, j ≤ 8 ∧ i = .int .i64 j ∧ cc = .int .u32 (n32 (crcBits d0 ((bitsOf x).take j)))) (fun _ i => 8 - (intOf i).toNat)
      case atStart => exact ⟨0, Nat.zero_le _, rfl, rfl⟩
      case round =>
        obtain ⟨j, hj, rfl, rfl⟩ := hrel
        by_cases hj8 : j < 8
        · have Hb : Hid (crcBits d0 ((bitsOf x).take (j + 1)) = crcBit (crcBits d0 ((bitsOf x).take j)) (x.toNat.testBit j)) := Lib.hid (by rw [bits_take _ _ hj8, crcBits_snoc])
          generalize crcBits d0 ((bitsOf x).take j) = d at *
          by_cases hlow : (d &&& 1#32) ^^^ b32 (x.toNat.testBit j) = 1#32
          · have hq : ((n32 ((d &&& 1#32) ^^^ b32 (x.toNat.testBit j))) == 1) = true := by rw [beq_one]; simpa using hlow
            have Hy := Lib.hid (refStep_yes d _ hlow)
            clear hlow
            go_wp2
            go_round
            case rel => exact ⟨j + 1, by omega, by go_num, by rw [Hb.out, ← Hy.out]⟩
            case measure => simp [intOf]; omega
          · have hq : ((n32 ((d &&& 1#32) ^^^ b32 (x.toNat.testBit j))) == 1) = false := by rw [beq_one]; simpa using hlow
            have Hy := Lib.hid (refStep_no d _ hlow)
            clear hlow
            go_wp2
            go_round
            case rel => exact ⟨j + 1, by omega, by go_num, by rw [Hb.out, ← Hy.out]⟩
            case measure => simp [intOf]; omega
        · obtain rfl : j = 8 := by omega
          have Hb : Hid ((bitsOf x).take 8 = bitsOf x) := Lib.hid (List.take_of_length_le (by simp [bitsOf_length]))
          go_wp2
          go_round
          case rel => exact ⟨k + 1, by omega, by go_num, by rw [Hs.out, Hb.out]⟩
          case measure => simp [intOf]; omega
    · have Hk : Hid (xs.take k = xs) := Lib.hid (List.take_of_length_le (by rw [Hn.out]; omega))
      go_wp2
      go_ret
      exact ⟨by rw [Hk.out]; rfl, rfl⟩

theorem tab_lt (k : Nat) (_h : k < 256) : IntKind.u32.wrap (k : Int) = n32 (stepN 0 (BitVec.ofNat 32 k)) := by
  rw [IntKind.wrap_u32']; unfold n32 stepN; simp
theorem tab_lt' (k : Nat) (h : k < 256) : (k : Int) = n32 (stepN 0 (BitVec.ofNat 32 k)) := by
  unfold n32 stepN; simp; omega
/-- the table's cells: the first so many made -/
def tabCs (k : Nat) : Array Value := ((List.range 256).map fun i => if i < k then Value.int .u32 (n32 (tab i)) else .int .u32 0).toArray
def tabV : Array Value := tabCs 256
theorem tabCs_size (k : Nat) : (tabCs k).size = 256 := by simp [tabCs]
theorem tabCs_zero : tabCs 0 = Try.zeroCells83 := by kernel_rfl
theorem tabCs_succ (k : Nat) (_h : k < 256) : (tabCs k).setIfInBounds k (.int .u32 (n32 (tab k))) = tabCs (k + 1) := by
  apply Array.ext
  · simp [tabCs]
  · intro i h1 h2
    simp [tabCs]
    by_cases e : k = i
    · subst e; simp
    · simp [e]; by_cases h3 : i < k
      · rw [if_pos h3, if_pos (by omega)]
      · rw [if_neg h3, if_neg (by omega)]
theorem tabV_get (k : Nat) (h : k < 256) : tabV[k]? = some (.int .u32 (n32 (tab k))) := by
  simp [tabV, tabCs, h]
theorem tabV_one : tabV.all (·.oneCell') = true := by
  simp [tabV, tabCs]; intro i hi; rw [if_pos hi]; rfl
attribute [local irreducible] tabCs
set_option maxRecDepth 100000 in
set_option maxHeartbeats 400000 in
theorem table_any (w : World) : Calls Try.prog 47 #[] w fun e w' => e = .returned (.agg tabV) ∧ Below w.heap.size w w' := by
  go_enter Try.func47, Try.ntmps47
  go_wp2
  go_loopw [4] (fun i wr => ∃ k : Nat, k ≤ 256 ∧ i = .int .i64 k ∧ Blk wr w.heap.size 83 (tabCs 0) ∧ Blk wr (w.heap.size + 1) 83 (tabCs k) ∧ Below w.heap.size w wr) (fun i _ => 256 - (intOf i).toNat)
  case atStart =>
    refine ⟨0, by omega, rfl, ?_, ?_, ?_⟩
    · rw [tabCs_zero]; exact (Blk.new w _ _).alloc _
    · rw [tabCs_zero]; have := Blk.new (w.alloc (.cells Try.zeroCells83 83)) 83 Try.zeroCells83; simpa using this
    · exact ((Below.refl _ _).alloc (Nat.le_refl _) _).alloc (by simp) _
  case round =>
    obtain ⟨k, hk, rfl, hb0, hb1, hbl⟩ := hrel
    by_cases hlt : k < 256
    · have hfz := hb1.frozen k
      obtain ⟨old, hold⟩ : ∃ old, (tabCs k)[k]? = some old := ⟨_, Array.getElem?_eq_getElem (by rw [tabCs_size]; exact hlt)⟩
      have hcell : wr.cell? ⟨w.heap.size + 1, k, none⟩ = some old := by rw [hb1.cell, hold]
      clear hold
      have Hst := Lib.hid (hb1.set_ k (.int .u32 (n32 (tab k))))
      have Hb0 := Lib.hid hb0
      have Hbl := Lib.hid hbl
      have H0 := Lib.hid (tab_lt' k hlt)
      have hbk := Lib.hid hb1.lt
      clear hb0 hb1 hbl
      go_wp2
      go_loop [3, 9] (fun c j => ∃ m : Nat, m ≤ 8 ∧ j = .int .i64 m ∧ c = .int .u32 (n32 (stepN m (BitVec.ofNat 32 k)))) (fun _ j => 8 - (intOf j).toNat)
      case atStart => exact ⟨0, by omega, rfl, int_eq H0.out⟩
      case round =>
        obtain ⟨m, hm, rfl, rfl⟩ := hrel
        by_cases hm8 : m < 8
        · have Hs : Hid (stepN (m + 1) (BitVec.ofNat 32 k) = (stepN m (BitVec.ofNat 32 k)) >>> 1 ^^^ (3988292384#32 * (stepN m (BitVec.ofNat 32 k) &&& 1#32))) := Lib.hid rfl
          generalize stepN m (BitVec.ofNat 32 k) = c at *
          go_wp2
          go_round
          case rel => exact ⟨m + 1, by omega, by go_num, by rw [Hs.out]⟩
          case measure => simp [intOf]; omega
        · obtain rfl : m = 8 := by omega
          have Ht : Hid (stepN 8 (BitVec.ofNat 32 k) = tab k) := Lib.hid rfl
          generalize stepN 8 (BitVec.ofNat 32 k) = c at *
          go_wp2
          go_roundw
          case rel =>
            refine ⟨k + 1, by omega, by go_num, ?_, ?_, ?_⟩
            · exact Hb0.out.far (by simp) _
            · rw [← tabCs_succ k hlt, Ht.out]; exact Hst.out
            · exact Hbl.out.setCell (by simp) _
          case measure => simp [intOf]; omega
    · obtain rfl : k = 256 := by omega
      have hi : (Try.prog.info? 83).map (·.size) = some (tabCs 256).size := by rw [tabCs_size]; kernel_rfl
      have hh1 : wr.heap[w.heap.size + 1]? = some (.cells (tabCs 256) 83 (0, 0)) := hb1
      have hh0 : wr.heap[w.heap.size]? = some (.cells (tabCs 0) 83 (0, 0)) := hb0
      have Hh0 := Lib.hid hh0
      have Hh1 := Lib.hid hh1
      have Hi := Lib.hid hi
      have Hbl := Lib.hid hbl
      clear hi hh1 hh0 hb0 hb1 hbl
      have Ho := Lib.hid (show (tabCs 0).size = (tabCs 256).size by rw [tabCs_size, tabCs_size])
      go_wp2_with (first | (refine wpList_load_row rfl 83 (.tmp 1) rfl (w.heap.size + 1) rfl 83 _ (0, 0) _ Hh1.out Try.underlying83 rfl Hi.out ?_) | (refine wpList_store_row rfl 83 (.tmp 0) (.tmp 22) rfl w.heap.size (tabCs 256) rfl rfl 83 (tabCs 0) Hh0.out Hi.out Ho.out tabV_one ?_))
      refine bodyPost_ret (v := .agg (tabCs 256)) (results_cell_row rfl _ _ w.heap.size 83 (tabCs 256) (0, 0) _ rfl (setRow_heap _ _ _ _ _ _ Hh0.out) Try.underlying83 rfl Hi.out) rfl ⟨rfl, ?_⟩
      exact Hbl.out.trans ⟨rfl, rfl, rfl, by simp, fun k hk => setRow_other _ _ _ _ (by omega)⟩

theorem crcB_eq (c : W32) (x : UInt8) : n32 (c >>> 8 ^^^ tab ((UInt8.ofBitVec (BitVec.setWidth 8 c)) ^^^ x).toNat) = n32 (crcB c x) := rfl
set_option maxRecDepth 100000 in
set_option maxHeartbeats 400000 in
theorem crc_any (c : W32) (ci : Int) (hci : ci = n32 c) (A : Option Addr) (n cap : Nat) (xs : List UInt8) (w : World) (hn : xs.length = n) (hm : n ≤ 12000) (hc : ByAt w A xs) :
    Calls Try.prog 16 #[.int .u32 ci, .slice A n cap] w fun e w' => e = .returned (.tuple #[.int .u32 (n32 (crc c xs)), .int .i64 0]) ∧ Below w.heap.size w w' := by
  subst hci
  have Hn := Lib.hid hn
  have Hc := Lib.hid hc
  clear hn hc
  have h12 : ¬ (12000 < (n : Int)) := by omega
  have hi : (Try.prog.info? 83).map (·.size) = some tabV.size := by rw [show tabV.size = 256 from tabCs_size 256]; kernel_rfl
  have Hi := Lib.hid hi
  clear hi
  go_enter Try.func16, Try.ntmps16
  go_wp2_with (first | (go_at_call 47; refine (table_any _).mono ?_; rintro e w1 ⟨rfl, hb1⟩; have Hb1 := Lib.hid hb1; clear hb1) | (refine wpList_store_row rfl 83 (.tmp 6) (.tmp 13) rfl w1.heap.size tabV rfl rfl 83 _ (Blk.new w1 _ _) Hi.out (show _ = tabV.size from (tabCs_size 256).symm) tabV_one ?_))
  have hbW : Below w.heap.size w ((w1.alloc (.cells Try.zeroCells83 83)).setRow w1.heap.size tabV) :=
    (Hb1.out.alloc Hb1.out.size _).trans ⟨rfl, rfl, rfl, by simp, fun k hk => setRow_other _ _ _ _ (by have := Hb1.out.size; omega)⟩
  have hT : Blk ((w1.alloc (.cells Try.zeroCells83 83)).setRow w1.heap.size tabV) w1.heap.size 83 tabV := (Blk.new w1 _ _).setRow _
  generalize (w1.alloc (.cells Try.zeroCells83 83)).setRow w1.heap.size tabV = W at *
  have HT := Lib.hid hT
  have HW := Lib.hid hbW
  clear hT hbW
  generalize w1.heap.size = g at *
  go_loop [7, 18] (fun cc i => ∃ k : Nat, k ≤ n ∧ i = .int .i64 k ∧ cc = .int .u32 (n32 (crcL (~~~c) (xs.take k)))) (fun _ i => n - (intOf i).toNat)
  case atStart => exact ⟨0, Nat.zero_le _, rfl, rfl⟩
  case round =>
    obtain ⟨k, hk, rfl, rfl⟩ := hrel
    by_cases hlt : k < n
    · have hkx : k < xs.length := by rw [Hn.out]; exact hlt
      obtain ⟨b, o, rfl, hcell⟩ := (Hc.out.below HW.out).get hkx
      have Hs : Hid (n32 (crcL (~~~c) (xs.take (k + 1))) = n32 ((crcL (~~~c) (xs.take k)) >>> 8 ^^^ tab ((UInt8.ofBitVec (BitVec.setWidth 8 (crcL (~~~c) (xs.take k)))) ^^^ xs[k]).toNat)) := Lib.hid (by rw [take_snoc _ _ hkx, crcL_snoc, crcB_eq])
      generalize crcL (~~~c) (xs.take k) = d at *
      generalize xs[k] = x at *
      generalize hy0 : UInt8.ofBitVec (BitVec.setWidth 8 d) ^^^ x = y at *
      have hyb := n8_bd y
      have hc2 : W.cell? ⟨g, (n8 y).toNat, none⟩ = some (.int .u32 (n32 (tab y.toNat))) := by
        rw [HT.out.cell]; exact tabV_get _ y.toNat_lt
      go_wp2
      go_round
      case rel => exact ⟨k + 1, by omega, by go_num, int_eq (by rw [Hs.out])⟩
      case measure => simp [intOf]; omega
    · have Hk : Hid (xs.take k = xs) := Lib.hid (List.take_of_length_le (by rw [Hn.out]; omega))
      go_wp2
      go_ret2
      exact ⟨by rw [Hk.out]; rfl, HW.out⟩

/-- Adler's sum, closed to simp -/
def adlI (l : List UInt8) : Int := (((adlL l).2 * 65536 + (adlL l).1 : Nat) : Int)
theorem adlerof_fin (l : List UInt8) : IntKind.u32.wrap ((rawL l).2 % 65521 * 65536 + (rawL l).1 % 65521 : Int) = adlI l := by
  unfold adlI; rw [adl_raw, IntKind.wrap_u32']; simp only; omega
set_option maxRecDepth 100000 in
set_option maxHeartbeats 400000 in
theorem adlerof_any (A : Option Addr) (n cap : Nat) (xs : List UInt8) (w : World) (hn : xs.length = n) (hm : n ≤ 12000) (hc : ByAt w A xs) :
    Calls Try.prog 20 #[.slice A n cap] w fun e w' => e = .returned (.int .u32 (adlI xs)) ∧ w = w' := by
  have Hn := Lib.hid hn
  have Hc := Lib.hid hc
  clear hn hc
  go_enter Try.func20, Try.ntmps20
  go_wp2
  go_loop [3, 4, 9] (fun x y i => ∃ k : Nat, k ≤ n ∧ i = .int .i64 k ∧ x = .int .i64 (rawL (xs.take k)).1 ∧ y = .int .i64 (rawL (xs.take k)).2) (fun _ _ i => n - (intOf i).toNat)
  case atStart => exact ⟨0, Nat.zero_le _, rfl, rfl, rfl⟩
  case round =>
    obtain ⟨k, hk, rfl, rfl, rfl⟩ := hrel
    have hr := rawL_lt (xs.take k)
    have hl : (xs.take k).length ≤ k := List.length_take_le _ _
    have hmul : (xs.take k).length * (1 + 255 * (xs.take k).length) ≤ 12000 * (1 + 255 * 12000) := Nat.mul_le_mul (by omega) (by omega)
    by_cases hlt : k < n
    · have hkx : k < xs.length := by rw [Hn.out]; exact hlt
      obtain ⟨b, o, rfl, hcell⟩ := Hc.out.get hkx
      have Hs : Hid (rawL (xs.take (k + 1)) = raw (rawL (xs.take k)) xs[k]) := Lib.hid (by rw [take_snoc _ _ hkx, rawL_snoc])
      clear Hc
      have hx := n8_bd xs[k]
      have Hx : Hid (n8 xs[k] = (xs[k].toNat : Int)) := Lib.hid rfl
      generalize rawL (xs.take k) = r at *
      obtain ⟨r1, r2⟩ := r
      simp only at hr
      have h1 : (r1 : Int) ≤ 3060001 := by omega
      have h2 : (r2 : Int) ≤ 36720012000 := by omega
      clear hr hl hmul
      go_wp2
      go_round
      case rel =>
        refine ⟨k + 1, by omega, by go_num, ?_, ?_⟩
        · rw [Hs.out, Hx.out]; unfold raw; go_num
        · rw [Hs.out, Hx.out]; unfold raw; go_num
      case measure => simp [intOf]; omega
    · have hk2 : k = n := by omega
      have Hk : xs.take k = xs := List.take_of_length_le (by rw [Hn.out]; omega)
      have Hf := Lib.hid (adlerof_fin xs)
      rw [Hk] at hr hl hmul
      rw [Hk]
      clear hk2 Hk
      generalize hr1 : (rawL xs).1 = r1 at *
      generalize hr2 : (rawL xs).2 = r2 at *
      have h1 : (r1 : Int) ≤ 3060001 := by omega
      have h2 : (r2 : Int) ≤ 36720012000 := by omega
      clear hr hl hmul hr1 hr2
      go_wp2
      go_ret
      exact ⟨ret_int (by rw [← Hf.out, IntKind.wrap_u32']; omega), rfl⟩

set_option maxRecDepth 100000 in
set_option maxHeartbeats 400000 in
theorem adler_any (A : Option Addr) (n cap : Nat) (xs : List UInt8) (w : World) (hn : xs.length = n) (hm : n ≤ 12000) (hc : ByAt w A xs) :
    Calls Try.prog 17 #[.slice A n cap] w fun e w' => e = .returned (.tuple #[.int .u32 (adlI xs), .int .i64 0]) ∧ w = w' := by
  have Hn := Lib.hid hn
  have Hc := Lib.hid hc
  clear hn hc
  have h12 : ¬ (12000 < (n : Int)) := by omega
  go_enter Try.func17, Try.ntmps17
  go_wp2
  go_loop [4, 5, 13] (fun x y i => ∃ k : Nat, k ≤ n ∧ i = .int .i64 k ∧ x = .int .u32 (adlL (xs.take k)).1 ∧ y = .int .u32 (adlL (xs.take k)).2) (fun _ _ i => n - (intOf i).toNat)
  case atStart => exact ⟨0, Nat.zero_le _, rfl, rfl, rfl⟩
  case round =>
    obtain ⟨k, hk, rfl, rfl, rfl⟩ := hrel
    have hr := adlL_lt (xs.take k)
    by_cases hlt : k < n
    · have hkx : k < xs.length := by rw [Hn.out]; exact hlt
      obtain ⟨b, o, rfl, hcell⟩ := Hc.out.get hkx
      have Hs : Hid (adlL (xs.take (k + 1)) = adl (adlL (xs.take k)) xs[k]) := Lib.hid (by rw [take_snoc _ _ hkx, adlL_snoc])
      clear Hc
      have hx := xs[k].toNat_lt
      have Hx : Hid (n8 xs[k] = (xs[k].toNat : Int)) := Lib.hid rfl
      rw [Hx.out] at hcell
      clear Hx
      generalize xs[k] = x at *
      have Hs1 : Hid ((adl (adlL (xs.take k)) x).1 = ((adlL (xs.take k)).1 + x.toNat) % 65521) := Lib.hid rfl
      have Hs2 : Hid ((adl (adlL (xs.take k)) x).2 = ((adlL (xs.take k)).2 + ((adlL (xs.take k)).1 + x.toNat) % 65521) % 65521) := Lib.hid rfl
      go_wp2
      go_round
      case rel => exact ⟨k + 1, by omega, by go_num, int_eq (by rw [Hs.out, Hs1.out]; omega), int_eq (by rw [Hs.out, Hs2.out]; omega)⟩
      case measure => simp [intOf]; omega
    · have Hk : xs.take k = xs := List.take_of_length_le (by rw [Hn.out]; omega)
      rw [Hk] at hr
      rw [Hk]
      have hsh : Op.shift .shl .u32 ((adlL xs).2 : Int) .u64 16 = pure (.int .u32 ((adlL xs).2 * 65536 : Int)) := by
        rw [shift_shl_any _ _ _ _ (by omega), IntKind.wrap_u32']
        have : min (16 : Int).toNat IntKind.u32.bits = 16 := by decide
        rw [this]; congr 2; omega
      have hor : bits .or .u32 ((adlL xs).2 * 65536 : Int) ((adlL xs).1 : Int) = adlI xs := by
        unfold adlI
        rw [show ((adlL xs).2 * 65536 : Int) = (((adlL xs).2 * 65536 : Nat) : Int) by omega, u32_or_nat _ _ (by omega) (by omega), nat_join 16 _ _ (by simp) (by omega)]
      clear Hk
      go_wp2
      go_ret2
      exact ⟨rfl, rfl⟩

theorem crc_big (ci : Int) (A : Option Addr) (n cap : Nat) (w : World) (hm : 12000 < n) (hx : n ≤ maxLen) :
    Calls Try.prog 16 #[.int .u32 ci, .slice A n cap] w fun e w' => e = .returned (.tuple #[.int .u32 0, .int .i64 2]) ∧ w = w' := by
  unfold maxLen at hx
  have h12 : (12000 < (n : Int)) := by omega
  go_enter Try.func16, Try.ntmps16
  go_wp2
  go_ret2
  exact ⟨rfl, rfl⟩
theorem adler_big (A : Option Addr) (n cap : Nat) (w : World) (hm : 12000 < n) (hx : n ≤ maxLen) :
    Calls Try.prog 17 #[.slice A n cap] w fun e w' => e = .returned (.tuple #[.int .u32 0, .int .i64 2]) ∧ w = w' := by
  unfold maxLen at hx
  have h12 : (12000 < (n : Int)) := by omega
  go_enter Try.func17, Try.ntmps17
  go_wp2
  go_ret2
  exact ⟨rfl, rfl⟩

def nine : List UInt8 := [49, 50, 51, 52, 53, 54, 55, 56, 57]
def wiki : List UInt8 := [87, 105, 107, 105, 112, 101, 100, 105, 97]
theorem crc_nine : (n32 (crc 0#32 nine) == 3421780262) = true := by decide +kernel
theorem adl_wiki : (adlI wiki == 300286872) = true := by decide +kernel
set_option maxRecDepth 100000 in
set_option maxHeartbeats 400000 in
theorem summed_any (w : World) : Calls Try.prog 18 #[] w fun e w' => e = .returned (.bool true) ∧ Below w.heap.size w w' := by
  have h1 := crc_nine
  have h2 := adl_wiki
  have kc := fun (w : World) (C : Array Value) (n c : Nat) => Lib.run_convert_bytes_const (P := Try.prog) w 28 5 C n c Try.underlying28 Try.underlying5
  go_enter Try.func18, Try.ntmps18
  go_wp2_with (first | (go_at_call 16; refine (crc_any 0#32 0 rfl _ 9 _ nine _ rfl (by omega) (ByAt.of_new _ _ _ _ rfl)).mono ?_; rintro e w1 ⟨rfl, hb1⟩) | (go_at_call 17; refine (adler_any _ 9 _ wiki _ rfl (by omega) (ByAt.of_new _ _ _ _ rfl)).mono ?_; rintro e w2 ⟨rfl, rfl⟩))
  go_ret
  refine ⟨rfl, ?_⟩
  exact ((((Below.refl _ _).alloc (Nat.le_refl _) _).trans (hb1.mono (by simp))).alloc (by have := hb1.size; simp at this; omega) _)
end Go.Proofs.Ytoncjlbgheaabaa.Sum
