/- reliquarylaw.SumXor: the walk. -/
import Derived.Test.YtoncjlbgheaabaaSumWalk
import Derived.Test.YtoncjlbgheaabaaSumXorPure
import Derived.Test.YtoncjlbgheaabaaOpen
namespace Go.Proofs.Ytoncjlbgheaabaa.SumXor
open Go Go.RowKit Go.Proofs.Ytoncjlbgheaabaa Go.Proofs.Ytoncjlbgheaabaa.Sum

theorem info8 : (Try.prog.info? 5).map (fun i => (i.zero, i.size, i.bytes)) = some (some (.int .u8 0), 1, 1) := by kernel_rfl

def cs (z : List UInt8) (n k : Nat) : Array Value := ((z.take k).map u8v ++ List.replicate (n - k) (Value.int .u8 0)).toArray
theorem cs_zero (z : List UInt8) (n : Nat) : madeCells #[.int .u8 0] n = cs z n 0 := by
  unfold madeCells cs
  apply Array.ext'
  simp
  apply List.ext_getElem
  · simp
  · intro i h1 h2
    simp [Nat.mod_one]
theorem cs_get (z : List UInt8) (n k : Nat) (_h : k < n) (hz : k ≤ z.length) : (cs z n k)[k]? = some (.int .u8 0) := by
  unfold cs
  rw [List.getElem?_toArray, List.getElem?_append_right (by simp; omega)]
  rw [List.getElem?_replicate, if_pos (by simp; omega)]
theorem cs_succ (z : List UInt8) (n k : Nat) (x : UInt8) (h : k < n) (hx : z[k]? = some x) : (cs z n k).setIfInBounds k (.int .u8 (n8 x)) = cs z n (k + 1) := by
  unfold cs
  have hk : k < z.length := by
    rcases Nat.lt_or_ge k z.length with h | h
    · exact h
    · rw [List.getElem?_eq_none h] at hx; cases hx
  have ex : z[k] = x := by rw [List.getElem?_eq_getElem hk] at hx; injection hx
  rw [take_snoc _ _ hk, ex, show n - k = (n - (k + 1)) + 1 by omega, List.replicate_succ]
  simp [u8v, List.set_append]
  rw [Nat.min_eq_left (by omega)]; simp
set_option maxRecDepth 100000 in
set_option maxHeartbeats 800000 in
theorem walk0 (A B C : Option Addr) (na nb nc ca cb cc : Nat) (xa xb xc : List UInt8) (w : World) (ha : xa.length = na) (hb : xb.length = nb) (hc : xc.length = nc)
    (la : na ≤ ca) (lb : nb ≤ cb) (lc : nc ≤ cc) (ma : ca ≤ maxLen) (mb : cb ≤ maxLen) (mc : cc ≤ maxLen)
    (hA : ByAt w A xa) (hB : ByAt w B xb) (hC : ByAt w C xc) :
    Calls Try.prog 6 #[.slice A na ca, .slice B nb cb, .slice C nc cc] w fun e w' => e = .returned (.bool true) ∧ Below w.heap.size w w' := by
  unfold maxLen at ma mb mc
  obtain ⟨i0, hi, hz0, hz1, hz2⟩ := info_parts info8
  generalize hn : min (min (min na nb) nc) 12000 = n
  have hmin : ∀ u : World, (Builtin.min_ #[3, 3, 3, 3] 3 #[.int .i64 (na : Int), .int .i64 (nb : Int), .int .i64 (nc : Int), .int .i64 12000]).run Try.prog u = .ok (.int .i64 (n : Int)) u := fun u => by
    rw [← hn]; exact run_min4 _ _ na nb nc 12000 u
  have hmk : ∀ u : World, (Instr.makeSlice 28 (.int .i64 (n : Int)) (.int .i64 (n : Int))).run Try.prog u =
      .ok (.slice (some ⟨u.heap.size, 0, none⟩) n n) (u.alloc (.cells (madeCells #[.int .u8 0] n) 5)) := fun u => by
    have h := run_make (P := Try.prog) u 28 5 i0 (.int .u8 0) Try.underlying28 hi hz0 .i64 .i64 (n : Int) (n : Int) (by omega) (Int.le_refl _) (by rw [hz2]; omega) (by omega)
    simpa [hz1, Value.cells] using h
  have qa : n ≤ ca := by omega
  have qb : n ≤ cb := by omega
  have qc : n ≤ cc := by omega
  have q12 : n ≤ 12000 := by omega
  have Hn := Lib.hid hn
  have HA := Lib.hid hA
  have HB' := Lib.hid hB
  have HC := Lib.hid hC
  have Ha := Lib.hid ha
  have Hb := Lib.hid hb
  have Hc := Lib.hid hc
  clear hn hA hB hC ha hb hc hi hz0 hz1 hz2
  go_enter Try.func6, Try.ntmps6
  go_wp2_with fail
  have hE : (w.alloc (.cells (madeCells #[.int .u8 0] n) 5)) = (w.alloc (.cells (cs (xor3 xa xb xc) n 0) 5)) := by
    rw [cs_zero]
  go_loopw [28] (fun i wr => ∃ k : Nat, k ≤ n ∧ i = .int .i64 k ∧ Blk wr w.heap.size 5 (cs (xor3 xa xb xc) n k) ∧ Below w.heap.size w wr) (fun i _ => n - (intOf i).toNat)
  case atStart => exact ⟨0, Nat.zero_le _, rfl, by rw [hE]; exact Blk.new _ _ _, (Below.refl _ _).alloc (Nat.le_refl _) _⟩
  case round =>
    obtain ⟨k, hk, rfl, hblk, hbel⟩ := hrel
    clear hE
    have Hbl := Lib.hid hbel
    have HB := Lib.hid hblk
    by_cases hlt : k < n
    · have hna : k < na := by have := Hn.out; omega
      have hnb : k < nb := by have := Hn.out; omega
      have hnc : k < nc := by have := Hn.out; omega
      obtain ⟨b1, o1, rfl, h1⟩ := (HA.out.below hbel).get (k := k) (by rw [Ha.out]; exact hna)
      obtain ⟨b2, o2, rfl, h2⟩ := (HB'.out.below hbel).get (k := k) (by rw [Hb.out]; exact hnb)
      obtain ⟨b3, o3, rfl, h3⟩ := (HC.out.below hbel).get (k := k) (by rw [Hc.out]; exact hnc)
      have hst := Lib.hid (cs_succ (xor3 xa xb xc) n k _ hlt (xor3_get xa xb xc k (by rw [Ha.out]; exact hna) (by rw [Hb.out]; exact hnb) (by rw [Hc.out]; exact hnc)))
      generalize xa[k]'(by rw [Ha.out]; exact hna) = x1 at *
      generalize xb[k]'(by rw [Hb.out]; exact hnb) = x2 at *
      generalize xc[k]'(by rw [Hc.out]; exact hnc) = x3 at *
      have h4 : wr.cell? ⟨w.heap.size, k, none⟩ = some (.int .u8 0) := by rw [hblk.cell]; exact cs_get _ _ _ hlt (by rw [xor3_length, Ha.out, Hb.out, Hc.out]; omega)
      have h5 : wr.frozen? ⟨w.heap.size, k, none⟩ = false := hblk.frozen k
      clear hblk hbel
      go_wp2_with fail
      go_region
      all_goals (go_wp2_with fail)
      go_roundw
      case rel =>
        refine ⟨k + 1, by omega, by go_num, ?_, ?_⟩
        · rw [← hst.out]; exact HB.out.set_ k _
        · exact (Hbl.out.setCell (p := ⟨w.heap.size, k, none⟩) (Nat.le_refl _) _).drew
      case measure => simp [intOf]; omega
    · obtain rfl : k = n := by omega
      clear hblk hbel
      have hza : (xa.take k).length = k := by rw [List.length_take, Ha.out]; have := Hn.out; omega
      have hzb : (xb.take k).length = k := by rw [List.length_take, Hb.out]; have := Hn.out; omega
      have hzc : (xc.take k).length = k := by rw [List.length_take, Hc.out]; have := Hn.out; omega
      have hX : xor3 (xa.take k) (xb.take k) (xc.take k) = (xor3 xa xb xc).take k := by unfold xor3; rw [List.take_zipWith, List.take_zipWith]
      have hZ : ByAt wr (some ⟨w.heap.size, 0, none⟩) (xor3 (xa.take k) (xb.take k) (xc.take k)) := by
        refine ByAt.of_blk HB.out ?_
        rw [hX]; simp [cs]
      have hcrc := crc_xor3 (xa.take k) (xb.take k) (xc.take k) (by rw [hza, hzb]) (by rw [hza, hzc])
      have hxl : (xor3 (xa.take k) (xb.take k) (xc.take k)).length = k := by rw [xor3_length, hza, hzb, hzc]; simp
      have hA1 := (HA.out.below Hbl.out).take k
      have hB1 := (HB'.out.below Hbl.out).take k
      have hC1 := (HC.out.below Hbl.out).take k
      generalize xor3 (xa.take k) (xb.take k) (xc.take k) = z at *
      generalize xa.take k = ya at *
      generalize xb.take k = yb at *
      generalize xc.take k = yc at *
      have Hza := Lib.hid hza
      have Hzb := Lib.hid hzb
      have Hzc := Lib.hid hzc
      have Hxl := Lib.hid hxl
      have HZ := Lib.hid hZ
      have HA1 := Lib.hid hA1
      have HB1 := Lib.hid hB1
      have HC1 := Lib.hid hC1
      have Hcrc := Lib.hid hcrc
      clear hza hzb hzc hxl hZ hA1 hB1 hC1 hcrc hX hmin hmk
      go_wp2_with fail
      refine (crc_any 0#32 0 rfl A k ca ya _ Hza.out q12 HA1.out).mono ?_
      rintro e w1 ⟨rfl, hb1⟩
      have Hb1 := Lib.hid hb1
      clear hb1
      go_wp2_with fail
      refine (crc_any 0#32 0 rfl B k cb yb _ Hzb.out q12 (HB1.out.below Hb1.out)).mono ?_
      rintro e w2 ⟨rfl, hb2⟩
      have Hb2 := Lib.hid (Hb1.out.trans (hb2.mono Hb1.out.size))
      clear hb2
      go_wp2_with fail
      refine (crc_any 0#32 0 rfl C k cc yc _ Hzc.out q12 (HC1.out.below Hb2.out)).mono ?_
      rintro e w3 ⟨rfl, hb3⟩
      have Hb3 := Lib.hid (Hb2.out.trans (hb3.mono Hb2.out.size))
      clear hb3
      go_wp2_with fail
      refine (crc_any 0#32 0 rfl _ k k z _ Hxl.out q12 (HZ.out.below Hb3.out)).mono ?_
      rintro e w4 ⟨rfl, hb4⟩
      have Hb4 := Lib.hid (Hb3.out.trans (hb4.mono Hb3.out.size))
      clear hb4
      go_wp2_with fail
      refine (summed_any _).mono ?_
      rintro e w5 ⟨rfl, hb5⟩
      have Hb5 := Lib.hid (Hb4.out.trans (hb5.mono Hb4.out.size))
      clear hb5
      go_wp2_with fail
      go_ret
      refine ⟨ret_bool ?_, Hbl.out.trans (Hb5.out.mono Hbl.out.size)⟩
      rw [Hcrc.out]; simp
theorem walk (w : World) (v0 : Value) (x0 : List UInt8) (h0 : IsBytes w v0 x0) (v1 : Value) (x1 : List UInt8) (h1 : IsBytes w v1 x1) (v2 : Value) (x2 : List UInt8) (h2 : IsBytes w v2 x2) :
    Calls Try.prog 6 #[v0, v1, v2] w fun e w' => e = .returned (.bool true) ∧ Below w.heap.size w w' := by
  obtain ⟨A, ca, rfl, la, ma, ha⟩ := h0
  obtain ⟨B, cb, rfl, lb, mb, hb⟩ := h1
  obtain ⟨C, cc, rfl, lc, mc, hc⟩ := h2
  exact walk0 A B C _ _ _ ca cb cc x0 x1 x2 w rfl rfl rfl la lb lc ma mb mc ha hb hc
end Go.Proofs.Ytoncjlbgheaabaa.SumXor
