/- reliquarylaw.SumBurst: the walk. -/
import Derived.Test.YtoncjlbgheaabaaSumWalk
import Derived.Test.YtoncjlbgheaabaaSumBurstPure
import Derived.Test.YtoncjlbgheaabaaOpen
import Derived.Test.YtoncjlbgheaabaaAt2
namespace Go.Proofs.Ytoncjlbgheaabaa.SumBurst
open Go Go.RowKit Go.Proofs.Ytoncjlbgheaabaa Go.Proofs.Ytoncjlbgheaabaa.Sum

theorem ty8 : SliceTy Try.prog 28 5 (.int .u8 0) 1 1 := ⟨Try.underlying28, by kernel_rfl, rfl, by omega⟩

theorem shl_one (r : Nat) (hr : r < 8) : (2 : Int) ^ r % 256 = n8 (bitU8 r) := by
  have h : ∀ a : Fin 8, (2 : Int) ^ a.val % 256 = n8 (bitU8 a.val) := by decide
  exact h ⟨r, hr⟩
theorem and_bit32 (t : W32) (k : Nat) (_hk : k < 32) : (bits .and .u32 (n32 t / 2 ^ k) 1 == 1) = t.getLsbD k := by
  have ht := t.isLt
  have hlt : t.toNat / 2 ^ k < 4294967296 := Nat.lt_of_le_of_lt (Nat.div_le_self _ _) ht
  have h2 : n32 t / 2 ^ k = ((t.toNat / 2 ^ k : Nat) : Int) := by unfold n32; simp
  rw [h2, show (1 : Int) = ((1 : Nat) : Int) from rfl, u32_and_nat _ _ hlt (by omega), nat_mask1, ← Nat.toNat_testBit]
  show _ = t.toNat.testBit k
  cases t.toNat.testBit k <;> rfl
set_option maxRecDepth 100000 in
set_option maxHeartbeats 800000 in
theorem walk_few (A : Option Addr) (n cap : Nat) (xs : List UInt8) (p0 : Int) (t : W32) (w : World) (hn : xs.length = n) (hm : n ≤ 12000) (hm5 : 5 ≤ n) (hc : ByAt w A xs) (ht : t ≠ 0#32)
    (h0 : -9223372036854775808 ≤ p0) (h1 : p0 ≤ 9223372036854775807) :
    Calls Try.prog 5 #[.slice A n cap, .int .i64 p0, .int .u32 (n32 t)] w fun e w' => e = .returned (.bool true) ∧ Below w.heap.size w w' := by
  have htt : (n32 t == 0) = false := by
    have := n32_beq t 0#32
    rw [show n32 0#32 = 0 from rfl] at this
    rw [this]; simpa using ht
  have h5 : ¬ ((n : Int) < 5) := by omega
  have hA : A = none → n = 0 := fun h => by
    obtain ⟨b, o, e, _⟩ := hc (by simp; omega)
    rw [h] at e; cases e
  have Hn := Lib.hid hn
  have Hc := Lib.hid hc
  have HA := Lib.hid hA
  clear hn hc hA
  go_enter Try.func5, Try.ntmps5
  go_wp2_with fail
  refine (crc_any 0#32 0 rfl A n cap xs _ Hn.out hm Hc.out).mono ?_
  rintro e w1 ⟨rfl, hb1⟩
  have Hb1 := Lib.hid hb1
  clear hb1
  go_wp2_with fail
  refine (summed_any _).mono ?_
  rintro e w2 ⟨rfl, hb2⟩
  have Hb2 := Lib.hid (Hb1.out.trans (hb2.mono Hb1.out.size))
  clear hb2
  go_wp2_with fail
  refine (at2_any p0 _ _ h0 h1 (by omega) (by omega)).mono ?_
  rintro e w3 ⟨rfl, rfl⟩
  have hp : 0 ≤ p0 % (8 * (n : Int) - 31) := Int.emod_nonneg _ (by omega)
  have hp2 : p0 % (8 * (n : Int) - 31) < 8 * (n : Int) - 31 := Int.emod_lt_of_pos _ (by omega)
  generalize p0 % (8 * (n : Int) - 31) = p1 at *
  obtain ⟨p, rfl⟩ := Int.eq_ofNat_of_zero_le hp
  have hpn : p + 32 ≤ 8 * n := by omega
  clear hp h0 h1
  have Hlit := Lib.hid (World.ownsRow_lit (base := w.heap.size) (size := 1) (e := 5) w2 #[] 0 Hb2.out.size (by unfold maxLen; omega) rfl)
  have Hlen : Hid ((xs.map u8v).length = n * 1) := Lib.hid (by simp; exact Hn.out)
  have Hsl : Hid (SlAt (w2.alloc (.cells #[] 5)) A (xs.map u8v)) := Lib.hid (SlAt.below (SlAt.below Hc.out Hb2.out) ((Below.refl _ _).alloc (Nat.le_refl _) _))
  have Hb2' := Lib.hid (Hb2.out.alloc Hb2.out.size (.cells #[] 5))
  go_wp2_with (at_builtin; refine wpList_appb rfl (.tmp 39) (.tmp 40) _ rfl 5 _ 1 1 ty8 (.slice (some ⟨w2.heap.size, 0, none⟩) 0 0) 0 [] rfl Hlit.out Hb2'.out A n cap (xs.map u8v) rfl Hlen.out Hsl.out (u8s_one xs) HA.out (by unfold maxLen; omega) (by omega) ?_; intro v3 w3 hown3 hb3 _ _)
  simp only [Nat.zero_add, List.nil_append] at hown3
  obtain ⟨g, cap3, hv, hgb, hgl⟩ := hown3.form (by omega)
  subst hv
  have Ho := Lib.hid hown3
  have Hb3 := Lib.hid hb3
  clear hown3 hb3 Hlit Hsl Hb2' Hlen
  go_loopw [42] (fun i wr => ∃ k : Nat, k ≤ 32 ∧ i = .int .i64 k ∧ wr.ownsRow w.heap.size 5 1 (.slice (some ⟨g, 0, none⟩) n cap3) n ((turnK t p k xs).map u8v) ∧ Below w.heap.size w wr) (fun i _ => 32 - (intOf i).toNat)
  case atStart => exact ⟨0, by omega, rfl, Ho.out, Hb3.out⟩
  case round =>
    obtain ⟨k, hk, rfl, hown, hbr⟩ := hrel
    have Hw := Lib.hid hown
    have Hbr := Lib.hid hbr
    by_cases hk32 : k < 32
    · obtain ⟨q, hq⟩ : ∃ q, q = (p + k) / 8 := ⟨_, rfl⟩
      obtain ⟨r, hr⟩ : ∃ r, r = (p + k) % 8 := ⟨_, rfl⟩
      have hqn : q < n := by omega
      have hr8 : r < 8 := by omega
      have Hlen2 : Hid ((turnK t p k xs).length = n) := Lib.hid (by rw [turnK_length]; exact Hn.out)
      have hcell : wr.cell? ⟨g, q, none⟩ = some (.int .u8 (n8 ((turnK t p k xs).getD q 0))) := by
        rw [hown.cellAt q (by omega), List.getElem?_map, List.getElem?_eq_getElem (by rw [Hlen2.out]; exact hqn)]
        simp [u8v, List.getD, List.getElem?_eq_getElem (show q < (turnK t p k xs).length by rw [Hlen2.out]; exact hqn)]
      have hfz := hown.frozenAt q
      have Hst := Lib.hid (hown.stored q (.int .u8 (n8 ((turnK t p k xs).getD q 0 ^^^ bitU8 r))))
      have Hs1 : Hid (t.getLsbD k = true → (turnK t p k xs).set q ((turnK t p k xs).getD q 0 ^^^ bitU8 r) = turnK t p (k + 1) xs) := Lib.hid (fun h => by
        show _ = if t.getLsbD k then _ else _
        rw [if_pos h, turn1, ← hq, ← hr])
      have Hs2 : Hid (t.getLsbD k = false → turnK t p k xs = turnK t p (k + 1) xs) := Lib.hid (fun h => by
        show _ = if t.getLsbD k then _ else _
        rw [if_neg (by simp [h])])
      have Hq := Lib.hid hq
      have Hr := Lib.hid hr
      have hdiv : ((p : Int) + (k : Int)) / 8 = (q : Int) := by omega
      have hmod : ((p : Int) + (k : Int)) % 8 = (r : Int) := by omega
      generalize turnK t p k xs = l at *
      generalize l.getD q 0 = y at *
      clear hown hbr hq hr
      have hsh := shl_one r hr8
      by_cases hbk : t.getLsbD k = true
      · have hbit : (bits .and .u32 (n32 t / 2 ^ k) 1 == 1) = true := by rw [and_bit32 _ _ hk32]; exact hbk
        have Hs := Lib.hid (Hs1.out hbk)
        clear hbk
        go_wp2_with fail
        go_region
        go_wp2_with fail
        go_roundw
        case rel => exact ⟨k + 1, by omega, by go_num, by rw [← Hs.out, List.map_set]; exact Hst.out.1, (Hbr.out.setCell (p := ⟨g, q, none⟩) hgb _).drew⟩
        case measure => simp [intOf]; omega
      · have hbk' : t.getLsbD k = false := by simpa using hbk
        have hbit : (bits .and .u32 (n32 t / 2 ^ k) 1 == 1) = false := by rw [and_bit32 _ _ hk32]; exact hbk'
        have Hs := Lib.hid (Hs2.out hbk')
        clear hbk hbk'
        go_wp2_with fail
        go_roundw
        case rel => exact ⟨k + 1, by omega, by go_num, by rw [← Hs.out]; exact Hw.out, Hbr.out⟩
        case measure => simp [intOf]; omega
    · obtain rfl : k = 32 := by omega
      have Hl : Hid ((turnK t p 32 xs).length = n) := Lib.hid (by rw [turnK_length]; exact Hn.out)
      obtain ⟨A4, c4, hv4, hl4, hm4, hB4⟩ := own_bytes hown
      have HB4 := Lib.hid hB4
      injection hv4 with e1 e2 e3
      rw [← e1] at HB4
      have Hne : Hid (crc 0#32 xs ≠ crc 0#32 (turnK t p 32 xs)) := Lib.hid (burst t ht p xs (by rw [Hn.out]; exact hpn))
      clear hown hbr hB4 e1 e2 e3 hl4 hm4 A4 c4
      generalize turnK t p 32 xs = l at *
      go_wp2_with fail
      refine (crc_any 0#32 0 rfl _ n cap3 l _ Hl.out hm HB4.out).mono ?_
      rintro e w5 ⟨rfl, hb5⟩
      have Hb5 := Lib.hid (Hbr.out.trans (hb5.mono Hbr.out.size))
      clear hb5
      have hne : (n32 (crc 0#32 xs) == n32 (crc 0#32 l)) = false := by rw [n32_beq]; simpa using Hne.out
      have hne2 : (n32 (crc 0#32 xs) != n32 (crc 0#32 l)) = true := by simp only [bne, hne]; rfl
      go_wp2_with fail
      go_ret
      exact ⟨ret_bool (by simp), Hb5.out⟩

set_option maxRecDepth 100000 in
set_option maxHeartbeats 800000 in
/-- nothing is asked: the bytes are too many, too few, or nothing is turned -/
theorem walk_none (A : Option Addr) (n cap : Nat) (xs : List UInt8) (p0 : Int) (t : W32) (w : World) (hn : xs.length = n) (hm : n ≤ 12000) (hm5 : n < 5 ∨ t = 0#32) (hc : ByAt w A xs) :
    Calls Try.prog 5 #[.slice A n cap, .int .i64 p0, .int .u32 (n32 t)] w fun e w' => e = .returned (.bool true) ∧ Below w.heap.size w w' := by
  have Hn := Lib.hid hn
  have Hc := Lib.hid hc
  clear hn hc
  by_cases h5 : (n : Int) < 5
  · clear hm5
    go_enter Try.func5, Try.ntmps5
    go_wp2_with fail
    refine (crc_any 0#32 0 rfl A n cap xs _ Hn.out hm Hc.out).mono ?_
    rintro e w1 ⟨rfl, hb1⟩
    have Hb1 := Lib.hid hb1
    clear hb1
    go_wp2_with fail
    refine (summed_any _).mono ?_
    rintro e w2 ⟨rfl, hb2⟩
    have Hb2 := Lib.hid (Hb1.out.trans (hb2.mono Hb1.out.size))
    clear hb2
    go_wp2_with fail
    refine (summed_any _).mono ?_
    rintro e w3 ⟨rfl, hb3⟩
    have Hb3 := Lib.hid (Hb2.out.trans (hb3.mono Hb2.out.size))
    clear hb3
    go_wp2_with fail
    go_ret
    exact ⟨rfl, Hb3.out⟩
  · have ht : t = 0#32 := by rcases hm5 with h | h; omega; exact h
    have htt : (n32 t == 0) = true := by rw [ht]; rfl
    clear hm5
    have Ht := Lib.hid ht
    clear ht
    go_enter Try.func5, Try.ntmps5
    go_wp2_with fail
    refine (crc_any 0#32 0 rfl A n cap xs _ Hn.out hm Hc.out).mono ?_
    rintro e w1 ⟨rfl, hb1⟩
    have Hb1 := Lib.hid hb1
    clear hb1
    go_wp2_with fail
    refine (summed_any _).mono ?_
    rintro e w2 ⟨rfl, hb2⟩
    have Hb2 := Lib.hid (Hb1.out.trans (hb2.mono Hb1.out.size))
    clear hb2
    go_wp2_with fail
    refine (summed_any _).mono ?_
    rintro e w3 ⟨rfl, hb3⟩
    have Hb3 := Lib.hid (Hb2.out.trans (hb3.mono Hb2.out.size))
    clear hb3
    go_wp2_with fail
    go_ret
    exact ⟨rfl, Hb3.out⟩

set_option maxRecDepth 100000 in
set_option maxHeartbeats 800000 in
theorem walk_many (A : Option Addr) (n cap : Nat) (p0 ti : Int) (w : World) (hm : 12000 < n) (hx : n ≤ maxLen) :
    Calls Try.prog 5 #[.slice A n cap, .int .i64 p0, .int .u32 ti] w fun e w' => e = .returned (.bool true) ∧ Below w.heap.size w w' := by
  have Hx := Lib.hid hx
  clear hx
  go_enter Try.func5, Try.ntmps5
  go_wp2_with fail
  refine (crc_big 0 A n cap _ hm Hx.out).mono ?_
  rintro e w1 ⟨rfl, rfl⟩
  go_wp2_with fail
  refine (summed_any _).mono ?_
  rintro e w2 ⟨rfl, hb2⟩
  have Hb2 := Lib.hid hb2
  clear hb2
  go_wp2_with fail
  refine (summed_any _).mono ?_
  rintro e w3 ⟨rfl, hb3⟩
  have Hb3 := Lib.hid (Hb2.out.trans (hb3.mono Hb2.out.size))
  clear hb3
  go_wp2_with fail
  go_ret
  exact ⟨rfl, Hb3.out⟩

theorem walk (w : World) (v0 : Value) (x0 : List UInt8) (h0 : IsBytes w v0 x0) (p0 : Int) (hp : (Lit.int .i64 p0).wf = true) (ti : Int) (ht : (Lit.int .u32 ti).wf = true) :
    Calls Try.prog 5 #[v0, .int .i64 p0, .int .u32 ti] w fun e w' => e = .returned (.bool true) ∧ Below w.heap.size w w' := by
  obtain ⟨A, ca, rfl, la, ma, ha⟩ := h0
  obtain ⟨t, rfl⟩ := wf_u32 ht
  by_cases hm : x0.length ≤ 12000
  · by_cases h5 : x0.length < 5 ∨ t = 0#32
    · exact walk_none A _ ca x0 p0 t w rfl hm h5 ha
    · have h2 := wf_i64 hp
      exact walk_few A _ ca x0 p0 t w rfl hm (by omega) ha (fun h => h5 (.inr h)) h2.1 h2.2
  · exact walk_many A _ ca p0 _ w (by omega) (by omega)
end Go.Proofs.Ytoncjlbgheaabaa.SumBurst
