/- texts joined: Row CodeCodes0 CodeRow BlkLens MatchSame BlkRunsW RtHead InfFail InfStored InfTable InfFixed ShelfMul InfRepeat RegS. -/
import Derived.Test.YthpdcnjaodjjmaaGreatGzUnpackQ3
import Derived.Test.YthpdcnjaodjjmaaGreatGzUnpackQ1
import Derived.Test.YthpdcnjaodjjmaaGreatProg
import Derived.WalkSpells
import Derived.Test.YthpdcnjaodjjmaaGreatGzUnpackQ2
import Derived.WalkSmall
import Derived.Shelf.Bits.Mul64
import Derived.Laws.CopyOwn
import Derived.StillTailTactics
import Derived.Deep.RegionHeld3
import Derived.Deep.RegionLaw
/- package bits: a row that is written. -/
namespace Go.Proofs.YthpdcnjaodjjmaaGreat.Bits
open Go Go.RowKit Go.Proofs.YthpdcnjaodjjmaaGreat
set_option linter.unusedVariables false

def rowT : List TypeId := [5, 42]
def RowAt (w : World) (base p : Nat) (l : List Bool) : Prop :=
 base ≤ p ∧ ∃ v, Blk w p 42 #[v, .int .i64 ((l.length % 8 : Nat) : Int)] ∧ w.ownsRow base 5 1 v (pack l).length ((pack l).map u8v)

theorem RowAt.below {w w' : World} {base p : Nat} {l : List Bool} (h : RowAt w base p l) (hb : Below w.heap.size w w') : RowAt w' base p l := by
 obtain ⟨h1, v, h2, h3⟩ := h
 exact ⟨h1, v, h2.below hb h2.lt, own_keep h3 hb⟩
theorem RowAt.lt {w : World} {base p : Nat} {l : List Bool} (h : RowAt w base p l) : p < w.heap.size := by
 obtain ⟨h1, v, h2, h3⟩ := h
 exact h2.lt
theorem RowAt.new (w : World) {base : Nat} (hb : base ≤ w.heap.size) : RowAt (w.alloc (.cells #[.slice none 0 0, .int .i64 0] 42)) base w.heap.size [] :=
 ⟨hb, .slice none 0 0, Blk.new w _ _, World.ownsRow_nil _ _ _ _⟩
theorem or_bit (y : UInt8) (b : Bool) (h : Nat) (hh : h < 8) : bits .or .u8 (n8 y) (bitI b % 256 * 2 ^ h % 256) = n8 (y ||| UInt8.ofNat (b.toNat * 2 ^ h)) := by
 have hy := y.toNat_lt
 have hb : b.toNat ≤ 1 := by cases b <;> simp
 have h2 : 2 ^ h ≤ 2 ^ 7 := Nat.pow_le_pow_right (by omega) (by omega)
 have hbb : b.toNat * 2 ^ h ≤ 1 * 2 ^ h := Nat.mul_le_mul_right _ hb
 have e : bitI b % 256 * 2 ^ h % 256 = ((b.toNat * 2 ^ h : Nat) : Int) := by
  unfold bitI
  rw [show (b.toNat : Int) % 256 = (b.toNat : Int) by omega]
  have : ((b.toNat : Int) * 2 ^ h) = ((b.toNat * 2 ^ h : Nat) : Int) := by simp
  rw [this, Int.emod_eq_of_lt (by omega) (by omega)]
 rw [e]
 unfold n8
 rw [u8_or_nat _ _ hy (by omega), UInt8.toNat_or, UInt8.toNat_ofNat', Nat.mod_eq_of_lt (by omega)]
theorem set_last (ys : List UInt8) (N : Nat) (x : UInt8) (h : ys.length = N) : (ys.map u8v ++ [Value.int .u8 0]).set N (.int .u8 (n8 x)) = (ys ++ [x]).map u8v := by
 subst h; simp [u8v]
theorem byte_one (b : Bool) (h : Nat) (hh : h = 0) (y : UInt8) (hy : y = 0) : y ||| UInt8.ofNat (b.toNat * 2 ^ h) = byteOf [b] := by
 subst hh hy; cases b <;> decide
theorem rowAt_mk {w : World} {base p g M cap h : Nat} {zs : List UInt8} {m : List Bool} (hbp : base ≤ p) (hB : Blk w p 42 #[.slice (some ⟨g, 0, none⟩) (M + 1) cap, .int .i64 (h : Int)]) (hh : h = m.length % 8)
  (hO : w.ownsRow base 5 1 (.slice (some ⟨g, 0, none⟩) (M + 1) cap) (M + 1) (zs.map u8v)) (hz : pack m = zs) : RowAt w base p m := by
 have hl : M + 1 = (pack m).length := by have := hO.1; simp at this; rw [hz]; omega
 rw [hl] at hB hO
 subst hh
 refine ⟨hbp, _, hB, ?_⟩
 rw [hz] at hO ⊢
 exact hO
set_option maxRecDepth 100000 in
set_option maxHeartbeats 800000 in
theorem put_any (base p n size : Nat) (l : List Bool) (w : World) (h : RowAt w base p l) (hn : n < 9223372036854775808) (hs : size ≤ 62) (hl : l.length + size ≤ 1099511627776) :
  Calls Tryz.prog 24 #[.pointer (some ⟨p, 0, none⟩), .int .i64 (n : Int), .int .i64 (size : Int)] w fun e w' => e = .returned (.tuple #[]) ∧ RowAt w' base p (l ++ numBits n size) ∧ Keeps base rowT w w' := by
 have H := Lib.hid h
 clear h
 go_enter Tryz.func24, Tryz.ntmps24
 go_wp2_with fail
 go_loopw [8] (fun i wr => ∃ k : Nat, k ≤ size ∧ i = .int .i64 k ∧ RowAt wr base p (l ++ numBits n k) ∧ Keeps base rowT w wr) (fun i _ => size - (intOf i).toNat)
 case atStart => exact ⟨0, Nat.zero_le _, rfl, by simpa [numBits] using H.out, Keeps.refl _ _ _⟩
 case round =>
  obtain ⟨k, hk, rfl, ⟨hbp, v, hblk, hown⟩, hkeep⟩ := hrel
  by_cases hlt : k < size
  ·have Hs := Lib.hid (numBits_succ n k)
   have Hb := Lib.hid (and_bitI n k hn)
   have hlen : (l ++ numBits n k).length ≤ 1099511627776 := by simp [numBits_length]; omega
   generalize hm0 : l ++ numBits n k = m at *
   have Hm0 := Lib.hid hm0
   clear hm0
   have Hblk := Lib.hid hblk
   have hown' := hown
   have Hk := Lib.hid hkeep
   have hand := Hb.out
   generalize n.testBit k = b at *
   have hc0 : wr.cell? ⟨p, 0, none⟩ = some v := by rw [hblk.cell]; rfl
   have hc1 : wr.cell? ⟨p, 1, none⟩ = some (.int .i64 ((m.length % 8 : Nat) : Int)) := by rw [hblk.cell]; rfl
   have hz0 : wr.frozen? ⟨p, 0, none⟩ = false := hblk.frozen 0
   have hz1 : wr.frozen? ⟨p, 1, none⟩ = false := hblk.frozen 1
   clear hblk hown hkeep
   by_cases h8 : m.length % 8 = 0
   ·have Hm := Lib.hid (pack_new m b h8)
    have Hp1 := Lib.hid hown'
    obtain ⟨h, hh⟩ : ∃ h, h = m.length % 8 := ⟨_, rfl⟩
    obtain ⟨y, hy0'⟩ : ∃ y : UInt8, y = 0 := ⟨_, rfl⟩
    have HY0 : Hid (Value.int .u8 0 = .int .u8 (n8 y)) := Lib.hid (by rw [hy0']; rfl)
    have hh8 : h < 8 := by omega
    have heq : (((h : Nat) : Int) == 0) = true := by simp; omega
    have Hb1 := Lib.hid (byte_one b h (by omega) y hy0')
    rw [← hh] at hc1 Hblk
    have Hh := Lib.hid hh
    clear hy0' hh
    have hpl : (pack m).length ≤ 1099511627776 := by rw [pack_length]; omega
    clear h8 hown'
    generalize pack m = ys at *
    generalize hN : ys.length = N at *
    have HN := Lib.hid hN
    clear hN
    have Hown2 := Lib.hid (Hp1.out.alloc (.cells #[.int .u8 0] 5))
    have Hsl := Lib.hid (slat_one wr 5 (.int .u8 0))
    have Hk2 := Lib.hid (Hk.out.alloc (Nat.le_trans hbp (Nat.le_of_lt Hblk.out.lt)) (.cells #[.int .u8 0] 5))
    have Hblk2 := Lib.hid (Hblk.out.alloc (.cells #[.int .u8 0] 5))
    have Hbs := Lib.hid (Nat.le_trans hbp (Nat.le_of_lt Hblk2.out.lt))
    go_wp2_with (at_builtin; refine wpList_app _ rfl (.tmp 20) (.tmp 21) _ rfl base 5 _ 1 1 ty8 v N (ys.map u8v) rfl Hown2.out (some ⟨wr.heap.size, 0, none⟩) 1 1 [.int .u8 0] rfl rfl Hsl.out (by simp [Value.oneCell']) (by simp) (by unfold maxLen; omega) (by omega) Hbs.out ?_; intro v2 w2 hown2 hg2 _; obtain ⟨g, cap, hv, hgb, hgl⟩ := hown2.form (by omega); subst hv; have Ho3 := Lib.hid hown2; have Hb3 := Lib.hid (Hblk2.out.grown hg2 (own_ne Hown2.out Hblk2.out (by decide))); have Hk3 := Lib.hid (Hk2.out.grown Hown2.out hg2 (by simp [rowT]) Hbs.out); clear hown2 hg2; have hd0 := Hb3.out.c0; have hd1 := Hb3.out.c1; have hy0 := Hb3.out.frozen 0)
    have HB := Lib.hid (Hb3.out.s0 (.slice (some ⟨g, 0, none⟩) (N + 1) cap))
    have HO := Lib.hid (ownsRow_setCell_other Ho3.out (a := ⟨p, 0, none⟩) (by have := own_ne Ho3.out Hb3.out (by decide); exact this) (.slice (some ⟨g, 0, none⟩) (N + 1) cap))
    have HK := Lib.hid (Hk3.out.setBlk Hb3.out (by simp [rowT]) hbp 0 (.slice (some ⟨g, 0, none⟩) (N + 1) cap))
    generalize w2.setCell ⟨p, 0, none⟩ (.slice (some ⟨g, 0, none⟩) (N + 1) cap) = W at *
    clear hd0 hd1 hy0 hc0 hc1 hz0 hz1
    have hcb : W.cell? ⟨g, N, none⟩ = some (.int .u8 (n8 y)) := by rw [HO.out.cellAt N (by omega), List.getElem?_append_right (by simp; have := HN.out; omega)]; simp [HN.out]; have := HY0.out; injection this
    have hzb : W.frozen? ⟨g, N, none⟩ = false := HO.out.frozenAt N
    have hor := or_bit y b h hh8
    have e0 := HB.out.c0
    have e1 := HB.out.c1
    generalize hx : y ||| UInt8.ofNat (b.toNat * 2 ^ h) = x at *
    have Hx := Lib.hid hx
    clear hx
    skip
    go_region
    have hpg : p ≠ g := by
     have := own_ne HO.out HB.out (by decide)
     intro hpg; subst hpg; exact this rfl
    have HB2 := Lib.hid ((HB.out.far (p := ⟨g, N, none⟩) hpg (.int .u8 (n8 x))).drew)
    have HO2 := Lib.hid (own_drew (HO.out.stored N (.int .u8 (n8 x))).1)
    have HK2 := Lib.hid ((HK.out.stored HO.out (by simp [rowT]) N (.int .u8 (n8 x))).drew)
    generalize (W.setCell ⟨g, N, none⟩ (.int .u8 (n8 x))).drew = W2 at *
    have f1 := HB2.out.c1
    have z1 := HB2.out.frozen 1
    clear hcb hzb hor e0 e1 hpg
    go_wp2_with fail
    go_roundw
    case rel =>
     refine ⟨k + 1, by omega, by go_num, ?_, HK2.out.setBlk HB2.out (by simp [rowT]) hbp 1 _⟩
     rw [Hs.out, ← List.append_assoc, Hm0.out]
     exact rowAt_mk (h := (h + 1) % 8) hbp (HB2.out.s1 _) (by have := Hh.out; simp; omega) (ownsRow_setCell_other (by have := HO2.out; rw [set_last ys N x HN.out] at this; exact this) (own_ne HO2.out HB2.out (by decide)) _) (zs := ys ++ [x]) (by rw [Hm.out, Hb1.out])
    case measure => simp [intOf]; omega
   ·obtain ⟨h, hh⟩ : ∃ h, h = m.length % 8 := ⟨_, rfl⟩
    have hh0 : 0 < h := by omega
    have hh8 : h < 8 := by omega
    have hML : (pack m).length = m.length / 8 + 1 := by rw [pack_length]; omega
    have Hm := Lib.hid (pack_more m b h8)
    rw [← hh] at Hm hc1 Hblk
    have Hh := Lib.hid hh
    clear h8 hh
    obtain ⟨g, cap, hv, hgb, hgl⟩ := hown'.form (by omega)
    obtain ⟨M, hM⟩ : ∃ M, M = m.length / 8 := ⟨_, rfl⟩
    rw [← hM] at Hm hML
    have hy : ∃ y, (pack m).getD M 0 = y ∧ ((pack m).map u8v)[M]? = some (.int .u8 (n8 y)) := ⟨_, rfl, by
     rw [List.getElem?_map, List.getElem?_eq_getElem (by omega), List.getD_eq_getElem?_getD, List.getElem?_eq_getElem (by omega)]; rfl⟩
    obtain ⟨y, hy1, hy2⟩ := hy
    rw [hML] at hown' hv
    rw [hy1] at Hm
    have Hy2 := Lib.hid hy2
    have HML := Lib.hid hML
    generalize pack m = ys at *
    subst hv
    have HO := Lib.hid hown'
    have HB := Hblk
    have HK := Hk
    have hne : (((h : Nat) : Int) == 0) = false := by simp; omega
    have hMb : M ≤ 1099511627776 := by omega
    clear hown' hy1 hy2 hML hM hc0 hc1
    have hcb : wr.cell? ⟨g, M, none⟩ = some (.int .u8 (n8 y)) := by rw [HO.out.cellAt M (by omega)]; exact Hy2.out
    have hzb : wr.frozen? ⟨g, M, none⟩ = false := HO.out.frozenAt M
    have hor := or_bit y b h hh8
    have e0 := HB.out.c0
    have e1 := HB.out.c1
    generalize hx : y ||| UInt8.ofNat (b.toNat * 2 ^ h) = x at *
    have Hx := Lib.hid hx
    clear hx
    go_wp2_with fail
    go_region
    have hpg : p ≠ g := by
     have := own_ne HO.out HB.out (by decide)
     intro hpg; subst hpg; exact this rfl
    have HB2 := Lib.hid ((HB.out.far (p := ⟨g, M, none⟩) hpg (.int .u8 (n8 x))).drew)
    have HO2 := Lib.hid (own_drew (HO.out.stored M (.int .u8 (n8 x))).1)
    have HK2 := Lib.hid ((HK.out.stored HO.out (by simp [rowT]) M (.int .u8 (n8 x))).drew)
    generalize (wr.setCell ⟨g, M, none⟩ (.int .u8 (n8 x))).drew = W2 at *
    have f1 := HB2.out.c1
    have z1 := HB2.out.frozen 1
    clear hcb hzb hor e0 e1 hpg
    go_wp2_with fail
    go_roundw
    case rel =>
     refine ⟨k + 1, by omega, by go_num, ?_, HK2.out.setBlk HB2.out (by simp [rowT]) hbp 1 _⟩
     rw [Hs.out, ← List.append_assoc, Hm0.out]
     exact rowAt_mk (h := (h + 1) % 8) hbp (HB2.out.s1 _) (by have := Hh.out; simp; omega) (ownsRow_setCell_other (by rw [List.map_set]; exact HO2.out) (own_ne HO2.out HB2.out (by decide)) _) (zs := ys.set M x) Hm.out
    case measure => simp [intOf]; omega
  ·obtain rfl : k = size := by omega
   have Hr := Lib.hid (show RowAt wr base p (l ++ numBits n k) from ⟨hbp, v, hblk, hown⟩)
   have Hk := Lib.hid hkeep
   clear hblk hown hkeep
   go_wp2_with fail
   go_end0
   exact ⟨rfl, Hr.out, Hk.out⟩
theorem bytes_any (p : Nat) (v x : Value) (w : World) (h : Blk w p 42 #[v, x]) :
  Calls Tryz.prog 15 #[.pointer (some ⟨p, 0, none⟩)] w fun e w' => e = .returned v ∧ w = w' := by
 have hv0 := h.c0
 have H := Lib.hid h
 clear h
 go_enter Tryz.func15, Tryz.ntmps15
 go_wp2
 go_ret
 exact ⟨rfl, rfl⟩
end Go.Proofs.YthpdcnjaodjjmaaGreat.Bits

/- package code: codes, Codes, Full. -/
namespace Go.Proofs.YthpdcnjaodjjmaaGreat.Code
open Go Go.RowKit Go.Proofs.YthpdcnjaodjjmaaGreat
set_option linter.unusedVariables false

set_option maxRecDepth 100000 in
set_option maxHeartbeats 1600000 in
theorem codes_any (A : Option Addr) (n c : Nat) (zs : List Int) (w : World) (hn : zs.length = n) (hA : InAt w A zs) (hc : chkL zs = 0) :
  Calls Tryz.prog 82 #[.slice A n c] w fun e w' => (∃ g, e = .returned (.slice (some ⟨g, 0, none⟩) n n) ∧ w.heap.size ≤ g ∧ Blk w' g 3 (nats (codesL (lsOf zs)))) ∧ Below w.heap.size w w' := by
 obtain ⟨f1, f2, f3, f4, f5⟩ := chk_fine zs hc
 have hx : n ≤ 288 := by omega
 have Hl := Lib.hid (lsOf_len zs)
 rw [hn] at Hl
 have Hacc : Hid (∀ s, s ≤ 15 → first (lsOf zs) s + cnt (lsOf zs) s ≤ 32768) := Lib.hid (fun s hs => by
  have h1 := acc_le (lsOf zs) s hs f4 f3
  have h2 : (2 : Nat) ^ s ≤ 2 ^ 15 := Nat.pow_le_pow_right (by omega) hs
  omega)
 have Hend := Lib.hid (cst_end (lsOf zs) f4)
 have H5 := Lib.hid f5
 have Hn := Lib.hid hn
 have HA := Lib.hid hA
 have hmk := make_ints n (by omega)
 have Hz := Lib.hid (nats_zero n)
 have Hcz := Lib.hid (cst_zero (lsOf zs))
 clear hn hA hc f1 f2 f3 f4 f5
 go_enter Tryz.func82, Tryz.ntmps82
 go_wp2_with fail
 clear hmk
 rw [Hz.out]
 generalize hg : w.heap.size = g at *
 have Hg := Lib.hid hg
 clear hg
 go_loopw [4, 5] (fun v s wr => ∃ t : Nat, t ≤ 15 ∧ s = .int .i64 ((t : Int) + 1) ∧ v = .int .i64 ((first (lsOf zs) t + cnt (lsOf zs) t : Nat) : Int) ∧ Blk wr g 3 (nats (cst (lsOf zs) (t + 1) 0)) ∧ Below w.heap.size w wr) (fun _ s _ => 17 - (intOf s).toNat)
 case atStart => exact ⟨0, Nat.zero_le _, rfl, rfl, by rw [Hcz.out, Hl.out]; have := Blk.new w 3 (nats (List.replicate n 0)); rw [Hg.out] at this; exact this, (Below.refl _ _).alloc (Nat.le_refl _) _⟩
 case round =>
  obtain ⟨t, ht, rfl, rfl, hblk, hb⟩ := hrel
  have Hblk := Lib.hid hblk
  have Hb := Lib.hid hb
  clear hblk hb
  by_cases hlt : t < 15
  ·have hacc := Hacc.out t ht
   have Hf : Hid (first (lsOf zs) (t + 1) = 2 * (first (lsOf zs) t + cnt (lsOf zs) t)) := Lib.hid rfl
   generalize first (lsOf zs) t + cnt (lsOf zs) t = a at *
   go_wp2_with fail
   go_loopw [4, 19] (fun v i wx => ∃ k : Nat, k ≤ n ∧ i = .int .i64 (k : Int) ∧ v = .int .i64 ((first (lsOf zs) (t + 1) + (ordN ((lsOf zs).take k) (t + 1)).length : Nat) : Int) ∧ Blk wx g 3 (nats (cst (lsOf zs) (t + 1) k)) ∧ Below w.heap.size w wx) (fun _ i _ => n - (intOf i).toNat)
   case atStart => exact ⟨0, Nat.zero_le _, rfl, by rw [Hf.out]; simp [ordN]; omega, Hblk.out, Hb.out⟩
   case round =>
    obtain ⟨k, hk, rfl, rfl, hblk, hbx⟩ := hrel
    have Hbk := Lib.hid hblk
    have Hbx := Lib.hid hbx
    clear hblk hbx
    have hol : (ordN ((lsOf zs).take k) (t + 1)).length ≤ 288 := by
     have h1 := ordN_len_le ((lsOf zs).take k) (t + 1)
     have h2 : ((lsOf zs).take k).length ≤ k := by simp; omega
     omega
    by_cases hkn : k < n
    ·have hkl : k < zs.length := by rw [Hn.out]; exact hkn
     have hkl2 : k < (lsOf zs).length := by rw [Hl.out]; exact hkn
     obtain ⟨b, o, rfl, hcell⟩ := (HA.out.below Hbx.out).get hkl
     have hz := H5.out zs[k] (List.getElem_mem hkl)
     have Hd := Lib.hid (getD_of zs k hkl)
     have Ht := Lib.hid (ordN_take (lsOf zs) k (t + 1) hkl2)
     have Hhit := Lib.hid (cst_hit (lsOf zs) (t + 1) k hkl2)
     have Hmiss := Lib.hid (cst_miss (lsOf zs) (t + 1) k)
     rw [Hd.out] at Ht Hhit Hmiss
     generalize zs[k] = z at *
     obtain ⟨x, rfl⟩ := Int.eq_ofNat_of_zero_le hz.1
     rw [Int.toNat_natCast] at Ht Hhit Hmiss
     have hclen : k < (cst (lsOf zs) (t + 1) k).length := by rw [cst_length]; exact hkl2
     have Hclen := Lib.hid (cst_length (lsOf zs) (t + 1) k)
     generalize first (lsOf zs) (t + 1) = ff at *
     generalize hol2 : (ordN ((lsOf zs).take k) (t + 1)).length = q at *
     have Hq := Lib.hid hol2
     clear hol2
     by_cases hxt : x = t + 1
     ·have e1 : ((x : Int) == (t : Int) + 1) = true := by simp; omega
      have Hs := Lib.hid (Hhit.out hxt (by omega))
      have Hr : Hid ((ordN ((lsOf zs).take (k + 1)) (t + 1)).length = q + 1) := Lib.hid (by rw [Ht.out, if_pos hxt, List.length_append, Hq.out]; rfl)
      clear Hhit Hmiss Ht hxt
      have hfz := Hbk.out.frozen k
      have hff : ff + q ≤ 1000000 := by have := Hf.out; omega
      have hce : wr.cell? ⟨g, k, none⟩ = some (.int .i64 (((cst (lsOf zs) (t + 1) k)[k]'hclen : Nat) : Int)) := by rw [Hbk.out.cell, nats_get _ _ hclen]
      go_wp2_with fail
      go_roundw
      case rel =>
       refine ⟨k + 1, by omega, by go_num, by rw [Hr.out]; go_num, ?_, ?_⟩
       ·rw [Hs.out, ← nats_set]; exact Hbk.out.set_ k _
       ·exact Hbx.out.setCell (by show w.heap.size ≤ g; rw [Hg.out]; exact Nat.le_refl _) _
      case measure => simp [intOf]; omega
     ·have e1 : ((x : Int) == (t : Int) + 1) = false := by simp; omega
      have Hs := Lib.hid (Hmiss.out hxt)
      have Hr : Hid ((ordN ((lsOf zs).take (k + 1)) (t + 1)).length = q) := Lib.hid (by rw [Ht.out, if_neg hxt, List.append_nil, Hq.out])
      clear Hhit Hmiss Ht hxt
      go_wp2_with fail
      go_roundw
      case rel => exact ⟨k + 1, by omega, by go_num, by rw [Hr.out], by rw [Hs.out]; exact Hbk.out, Hbx.out⟩
      case measure => simp [intOf]; omega
    ·obtain rfl : k = n := by omega
     have Hall : Hid ((lsOf zs).take k = lsOf zs) := Lib.hid (List.take_of_length_le (by rw [Hl.out]; omega))
     have Hcn := Lib.hid (cst_next (lsOf zs) (t + 1))
     have Hcnt : Hid (cnt (lsOf zs) (t + 1) = (ordN (lsOf zs) (t + 1)).length) := Lib.hid (by unfold cnt; rw [if_neg (by omega)])
     rw [Hall.out, ← Hcnt.out]
     rw [Hl.out] at Hcn
     go_wp2_with fail
     go_roundw
     case rel => exact ⟨t + 1, by omega, by go_num, rfl, by rw [← Hcn.out]; exact Hbk.out, Hbx.out⟩
     case measure => simp [intOf]; omega
  ·obtain rfl : t = 15 := by omega
   go_wp2_with fail
   go_ret
   exact ⟨⟨g, rfl, by rw [Hg.out]; exact Nat.le_refl _, by rw [← Hend.out]; exact Hblk.out⟩, Hb.out⟩
end Go.Proofs.YthpdcnjaodjjmaaGreat.Code

/- package bits: Row.Code; package code: Codes, Full. -/
namespace Go.Proofs.YthpdcnjaodjjmaaGreat.Code
open Go Go.RowKit Go.Proofs.YthpdcnjaodjjmaaGreat Go.Proofs.YthpdcnjaodjjmaaGreat.Bits
set_option linter.unusedVariables false

theorem hi_get (s n j : Nat) (h : j < s) : (hi s n)[j]'(by rw [hi_length]; exact h) = n.testBit (s - 1 - j) := by
 unfold hi numBits
 simp
theorem hi_step (s n m : Nat) (h : m + 1 ≤ s) : (hi s n).take (s - m) = (hi s n).take (s - (m + 1)) ++ numBits (n / 2 ^ m) 1 := by
 have e : s - m = (s - (m + 1)) + 1 := by omega
 rw [e, take_snoc _ _ (by rw [hi_length]; omega), hi_get _ _ _ (by omega)]
 congr 1
 simp [numBits]
 rw [show s - 1 - (s - (m + 1)) = m by omega, Nat.testBit]
 have h3 : n / 2 ^ m % 2 < 2 := Nat.mod_lt _ (by omega)
 rw [Nat.shiftRight_eq_div_pow]
 by_cases h1 : n / 2 ^ m % 2 = 1
 ·simp [h1]
 ·have : n / 2 ^ m % 2 = 0 := by omega
  simp [this]
set_option maxRecDepth 100000 in
set_option maxHeartbeats 800000 in
theorem code_any (base p n size : Nat) (l : List Bool) (w : World) (h : RowAt w base p l) (hn : n < 9223372036854775808) (hs : size ≤ 62) (hl : l.length + size ≤ 1099511627776) :
  Calls Tryz.prog 54 #[.pointer (some ⟨p, 0, none⟩), .int .i64 (n : Int), .int .i64 (size : Int)] w fun e w' => e = .returned (.tuple #[]) ∧ RowAt w' base p (l ++ hi size n) ∧ Keeps base rowT w w' := by
 have H := Lib.hid h
 clear h
 go_enter Tryz.func54, Tryz.ntmps54
 go_wp2_with fail
 go_loopw [6] (fun i wr => ∃ (m : Nat) (x : Int), m ≤ size ∧ x = (m : Int) - 1 ∧ i = .int .i64 x ∧ RowAt wr base p (l ++ (hi size n).take (size - m)) ∧ Keeps base rowT w wr) (fun i _ => (intOf i + 1).toNat)
 case atStart => exact ⟨size, _, Nat.le_refl _, rfl, rfl, by simpa using H.out, Keeps.refl _ _ _⟩
 case round =>
  obtain ⟨m, x, hm, hx, rfl, hrow, hk⟩ := hrel
  have Hrow := Lib.hid hrow
  have Hk := Lib.hid hk
  clear hrow hk
  rcases m with _ | m
  ·have hx0 : x < 0 := by omega
   clear hx
   have Hf : Hid ((hi size n).take (size - 0) = hi size n) := Lib.hid (List.take_of_length_le (by rw [hi_length]; omega))
   rw [Hf.out] at Hrow
   go_wp2_with fail
   go_end0
   exact ⟨rfl, Hrow.out, Hk.out⟩
  ·obtain rfl : x = (m : Int) := by omega
   clear hx
   have hnd : n / 2 ^ m < 9223372036854775808 := Nat.lt_of_le_of_lt (Nat.div_le_self _ _) hn
   have hput := put_any base p (n / 2 ^ m) 1 _ wr Hrow.out hnd (by omega) (by rw [List.length_append, List.length_take, hi_length]; omega)
   have Hst := Lib.hid (hi_step size n m hm)
   rw [List.append_assoc, ← Hst.out] at hput
   have hdd : (n : Int) / 2 ^ m = ((n / 2 ^ m : Nat) : Int) := by simp
   have Hput := Lib.hid hput
   clear hput
   generalize n / 2 ^ m = d at *
   go_wp2_with fail
   refine (Hput.out).mono ?_
   rintro e w1 ⟨rfl, hr1, hk1⟩
   have Hr1 := Lib.hid hr1
   have Hk1 := Lib.hid (Hk.out.trans hk1)
   clear hr1 hk1
   go_wp2_with fail
   go_roundw
   case rel => exact ⟨m, _, by omega, rfl, rfl, Hr1.out, Hk1.out⟩
   case measure => simp [intOf]
theorem bcodes_any (A : Option Addr) (n c : Nat) (zs : List Int) (w : World) (hn : zs.length = n) (hx : n ≤ maxLen) (hA : InAt w A zs) :
  Calls Tryz.prog 53 #[.slice A n c] w fun e w' => (chkL zs ≠ 0 ∧ e = .returned (.tuple #[.slice none 0 0, .int .i64 (chkL zs)]) ∨
   chkL zs = 0 ∧ ∃ g, e = .returned (.tuple #[.slice (some ⟨g, 0, none⟩) n n, .int .i64 0]) ∧ w.heap.size ≤ g ∧ Blk w' g 3 (nats (codesL (lsOf zs)))) ∧ Below w.heap.size w w' := by
 have Hc := Lib.hid (check_any A n c zs w hn hx hA)
 have Hd : Hid (chkL zs = 0 → _) := Lib.hid (codes_any A n c zs w hn hA)
 clear hn hx hA
 go_enter Tryz.func53, Tryz.ntmps53
 go_wp2_with fail
 refine (Hc.out).mono ?_
 rintro e w1 ⟨rfl, rfl⟩
 by_cases h0 : chkL zs = 0
 ·have Hdd := Lib.hid (Hd.out h0)
  rw [h0]
  have H0 := Lib.hid h0
  clear h0
  go_wp2_with fail
  refine (Hdd.out).mono ?_
  rintro e w2 ⟨⟨g, rfl, hg, hb⟩, hbw⟩
  have Hb := Lib.hid hb
  have Hbw := Lib.hid hbw
  clear hb hbw
  go_wp2_with fail
  go_ret2
  exact ⟨.inr ⟨H0.out, g, rfl, hg, Hb.out⟩, Hbw.out⟩
 ·have H0 := Lib.hid h0
  generalize hz : chkL zs = z at *
  have Hz := Lib.hid hz
  clear hz
  have h1 : (z == 0) = false := by simpa using h0
  go_wp2_with fail
  go_ret2
  exact ⟨.inl ⟨by rw [Hz.out]; exact h0, by rw [Hz.out]; rfl⟩, Below.refl _ _⟩
end Go.Proofs.YthpdcnjaodjjmaaGreat.Code

/- package block: lengths; weigh.Lengths and code.Codes of right numbers. -/
namespace Go.Proofs.YthpdcnjaodjjmaaGreat.Blk
open Go Go.RowKit Go.Proofs.YthpdcnjaodjjmaaGreat Go.Proofs.YthpdcnjaodjjmaaGreat.Bits Go.Proofs.YthpdcnjaodjjmaaGreat.Code Go.Proofs.YthpdcnjaodjjmaaGreat.Inf Go.Proofs.YthpdcnjaodjjmaaGreat.Match Go.Proofs.YthpdcnjaodjjmaaGreat.SP Go.Proofs.YthpdcnjaodjjmaaGreat.Rt
set_option linter.unusedVariables false

theorem natV_iv (ls : List Nat) : (zsOf ls).map iv = ls.map natV := by unfold zsOf; rw [List.map_map]; rfl
theorem natsOf_zs (ls : List Nat) : Weigh.natsOf (zsOf ls) = ls := lsOf_zsOf ls
theorem zs_len (ls : List Nat) : (zsOf ls).length = ls.length := by unfold zsOf; rw [List.length_map]
theorem wlen_any (A : Option Addr) (n c : Nat) (ls : List Nat) (L : Nat) (w : World) (hn : ls.length = n) (hx : n ≤ 288) (hA : SlAt w A (ls.map natV)) (hb : ∀ x ∈ ls, x ≤ 1000000) (hL : 1 ≤ L) (hL2 : L ≤ 15) (ho : (ones ls).length ≤ 2 ^ L) :
  Calls Tryz.prog 49 #[.slice A n c, .int .i64 (L : Int)] w fun e w' => (∃ v, e = .returned (.tuple #[v, .int .i64 0]) ∧ w'.ownsRow w.heap.size 3 1 v n ((lengthsP ls L).map natV)) ∧ Below w.heap.size w w' := by
 have hc : Weigh.chkW (zsOf ls) (L : Int) = 0 := by
  unfold Weigh.chkW
  rw [if_neg (by rw [zs_len]; omega), if_neg, if_neg (by omega), if_neg]
  ·rw [Weigh.used_ones, natsOf_zs, Int.toNat_natCast]; omega
  ·rw [Bool.not_eq_true, List.any_eq_false]
   intro x hx
   obtain ⟨y, hy, rfl⟩ := List.mem_map.1 hx
   have := hb y hy
   have e : Int.ofNat y = (y : Int) := rfl
   rw [e]
   simp [Weigh.badWant]; omega
 refine (Weigh.lengths_any A n c (zsOf ls) (L : Int) w (by rw [zs_len]; exact hn) (by unfold maxLen; omega) (by unfold InAt; rw [natV_iv]; exact hA)).mono ?_
 rintro e w' ⟨h, hb'⟩
 rcases h with ⟨h1, _⟩ | ⟨_, v, rfl, ho'⟩
 ·exact absurd hc h1
 ·refine ⟨⟨v, rfl, ?_⟩, hb'⟩
  rw [zs_len, natsOf_zs, Int.toNat_natCast, hn] at ho'
  exact ho'
theorem ccodes_any (A : Option Addr) (n c : Nat) (ls : List Nat) (w : World) (hn : ls.length = n) (hx : n ≤ 288) (hA : SlAt w A (ls.map natV)) (hc : Cd ls) :
  Calls Tryz.prog 53 #[.slice A n c] w fun e w' => (∃ g, e = .returned (.tuple #[.slice (some ⟨g, 0, none⟩) n n, .int .i64 0]) ∧ w.heap.size ≤ g ∧ Blk w' g 3 (nats (codesL ls))) ∧ Below w.heap.size w w' := by
 have h0 : chkL (zsOf ls) = 0 := by
  have := table_ok ls hc (by omega)
  unfold tableR at this
  split at this
  ·assumption
  ·cases this
 refine (bcodes_any A n c (zsOf ls) w (by rw [zs_len]; exact hn) (by unfold maxLen; omega) (by unfold InAt; rw [natV_iv]; exact hA)).mono ?_
 rintro e w' ⟨h, hb'⟩
 rcases h with ⟨h1, _⟩ | ⟨_, g, rfl, hg, hB⟩
 ·exact absurd h0 h1
 ·rw [lsOf_zsOf] at hB
  exact ⟨⟨g, rfl, hg, hB⟩, hb'⟩
theorem nats_kat {w : World} {g : Nat} {l : List Nat} (h : Blk w g 3 (nats l)) : KAt w 3 (some ⟨g, 0, none⟩) (l.map natV) := by
 have := h.kat
 unfold nats at this
 rw [List.toList_toArray] at this
 exact this
set_option maxRecDepth 100000 in
set_option maxHeartbeats 1600000 in
theorem blens_any (A : Option Addr) (m c : Nat) (l : List Tok) (w : World) (hm : l.length = m) (hx : m ≤ 3000) (hA : SlAt w A (l.flatMap tokD)) (hf : ∀ t ∈ l, TokFine t) :
  Calls Tryz.prog 28 #[.slice A m c] w fun e w' => (∃ v1 v2, e = .returned (.tuple #[v1, v2]) ∧ w'.ownsRow w.heap.size 3 1 v1 286 ((lensP l).1.map natV) ∧ w'.ownsRow w.heap.size 3 1 v2 30 ((lensP l).2.map natV)) ∧ Below w.heap.size w w' := by
 obtain ⟨c1, c2⟩ := counts_len l
 obtain ⟨s1, s2⟩ := counts_small l
 have HC := Lib.hid (counts_any A m c l w hm hx hA hf)
 have HW1 := Lib.hid (fun g w' h => wlen_any (some ⟨g, 0, none⟩) 286 286 (countsP l).1 15 w' c1 (by omega) h (fun x hx => by have := s1 x hx; omega) (by omega) (by omega) (by have := Weigh.ones_le (countsP l).1; have p15 : (2 : Nat) ^ 15 = 32768 := rfl; omega))
 have HW2 := Lib.hid (fun g w' h => wlen_any (some ⟨g, 0, none⟩) 30 30 (countsP l).2 15 w' c2 (by omega) h (fun x hx => by have := s2 x hx; omega) (by omega) (by omega) (by have := Weigh.ones_le (countsP l).2; have p15 : (2 : Nat) ^ 15 = 32768 := rfl; omega))
 clear hm hA hf c1 c2 s1 s2
 go_enter Tryz.func28, Tryz.ntmps28
 go_wp2_with fail
 refine (HC.out).mono ?_
 rintro e w1 ⟨⟨g1, g2, rfl, hg1, hg2, hB1, hB2⟩, hb1⟩
 have H1 := Lib.hid hB1
 have H2 := Lib.hid hB2
 have Hb := Lib.hid hb1
 clear hB1 hB2 hb1 hg1 hg2 HC
 go_wp2_with fail
 refine (HW1.out g1 w1 (nats_kat H1.out).slat).mono ?_
 rintro e w2 ⟨⟨v1, rfl, ho1⟩, hb2⟩
 have H22 := Lib.hid (H2.out.below hb2 H2.out.lt)
 have Hb2 := Lib.hid (Hb.out.trans (hb2.mono Hb.out.size))
 have Ho1 := Lib.hid (own_base ho1 Hb.out.size)
 clear hb2 ho1 H1 H2 HW1
 go_wp2_with fail
 refine (HW2.out g2 w2 (nats_kat H22.out).slat).mono ?_
 rintro e w3 ⟨⟨v2, rfl, ho2⟩, hb3⟩
 have Ho1' := Lib.hid (own_keep Ho1.out hb3)
 have Hb3 := Lib.hid (Hb2.out.trans (hb3.mono Hb2.out.size))
 have Ho2 := Lib.hid (own_base ho2 Hb2.out.size)
 clear hb3 ho2 H22 HW2 Ho1
 go_wp2_with fail
 go_ret2
 exact ⟨⟨v1, v2, rfl, Ho1'.out, Ho2.out⟩, Hb3.out⟩
end Go.Proofs.YthpdcnjaodjjmaaGreat.Blk

/- package match: same, longest, Longest. -/
namespace Go.Proofs.YthpdcnjaodjjmaaGreat.Match
open Go Go.RowKit Go.Proofs.YthpdcnjaodjjmaaGreat
set_option linter.unusedVariables false

theorem drew2 (w : World) (a b : Nat) : ∃ d, (w.drewN a).drewN b = w.drewN d := ⟨_, World.drewN_drewN _ _ _⟩
theorem lay_sum (a b : Nat) (h : a + b ≤ 1000000000) : IntKind.i64.wrap ((a : Int) + (b : Int)) = (a : Int) + (b : Int) := IntWalk.i64_in _ (by omega)
set_option maxRecDepth 100000 in
set_option maxHeartbeats 800000 in
theorem same_any (A : Option Addr) (n c i k : Nat) (xs : List UInt8) (w : World) (hn : xs.length = n) (hx : n ≤ 1000000) (hA : ByAt w A xs) (hik : i ≤ k) (hk : k ≤ n) :
  Calls Tryz.prog 73 #[.slice A n c, .int .i64 (i : Int), .int .i64 (k : Int)] w fun e w' => e = .returned (.int .i64 ((sameN xs i k : Nat) : Int)) ∧ ∃ d, w' = w.drewN d := by
 have Hn := Lib.hid hn
 have HA := Lib.hid hA
 clear hn hA
 go_enter Tryz.func73, Tryz.ntmps73
 go_wp2_with fail
 go_loopw [7] (fun v wr => ∃ m : Nat, m ≤ sameN xs i k ∧ m ≤ 258 ∧ k + m ≤ n ∧ v = .int .i64 m ∧ ∃ d, wr = w.drewN d) (fun v _ => 258 - (intOf v).toNat)
 case atStart => exact ⟨0, Nat.zero_le _, by omega, by omega, rfl, 0, rfl⟩
 case round =>
  obtain ⟨m, hm, hm2, hkm, rfl, d, rfl⟩ := hrel
  have HS : Hid (∀ _ : True, True → (¬ (m < 258) ∨ ¬ (k + m < xs.length) ∨ ∃ (h : k + m < xs.length), xs[i + m]'(by omega) ≠ xs[k + m]) → sameN xs i k = m) := Lib.hid (fun _ _ h => same_stop xs i k m hik hm h)
  have HT : Hid (∀ (_ : True) (h1 : m < 258) (h2 : k + m < xs.length), xs[i + m]'(by omega) = xs[k + m] → m + 1 ≤ sameN xs i k) := Lib.hid (fun _ h1 h2 h3 => same_step xs i k m hik hm h1 h2 h3)
  have Hm := Lib.hid hm
  clear hm
  by_cases h1 : m < 258
  ·have g1 : decide ((m : Int) < 258) = true := by simp; omega
   by_cases h2 : k + m < n
   ·have g2 : decide ((k : Int) + (m : Int) < (n : Int)) = true := by simp; omega
    have h2' : k + m < xs.length := by rw [Hn.out]; exact h2
    have h3' : i + m < xs.length := by omega
    obtain ⟨b, o, rfl, hc1⟩ := HA.out.get h2'
    obtain ⟨b', o', hb, hc2⟩ := HA.out.get h3'
    injection hb with hb; injection hb with e1 e2 e3; subst e1 e2
    have s1 := lay_sum k m (by omega)
    have s2 := lay_sum i m (by omega)
    have p1 : (0 : Int) ≤ (k : Int) + (m : Int) := by omega
    have p2 : (0 : Int) ≤ (i : Int) + (m : Int) := by omega
    have q1 : ((k : Int) + (m : Int)).toNat = k + m := by omega
    have q2 : ((i : Int) + (m : Int)).toNat = i + m := by omega
    have r1 : (k : Int) + (m : Int) < (n : Int) := by omega
    have r2 : (i : Int) + (m : Int) < (n : Int) := by omega
    by_cases he : xs[i + m] = xs[k + m]
    ·have Hst := Lib.hid (HT.out trivial h1 h2' he)
     have g3 : (n8 xs[i + m] == n8 xs[k + m]) = true := by rw [he]; simp
     have He := Lib.hid he
     clear he HS HT
     generalize xs[k + m] = x at *
     generalize xs[i + m] = y at *
     go_wp2_with fail
     go_quiet (fail)
     go_wp2_with fail
     go_roundw
     case rel => exact ⟨m + 1, Hst.out, by omega, by omega, by go_num, _, rfl⟩
     case measure => simp [intOf]; omega
    ·have Hst := Lib.hid (HS.out trivial trivial (Or.inr (Or.inr ⟨h2', he⟩)))
     have g3 : (n8 xs[i + m] == n8 xs[k + m]) = false := by rw [n8_beq]; simpa using he
     have He := Lib.hid he
     clear he HS HT
     generalize xs[k + m] = x at *
     generalize xs[i + m] = y at *
     go_wp2_with fail
     go_quiet (fail)
     go_wp2_with fail
     go_ret
     exact ⟨ret_int (by rw [Hst.out]), drew2 w d _⟩
   ·have g2 : decide ((k : Int) + (m : Int) < (n : Int)) = false := by simp; omega
    have s1 := lay_sum k m (by omega)
    have Hst := Lib.hid (HS.out trivial trivial (Or.inr (Or.inl (by rw [Hn.out]; exact h2))))
    clear HS HT
    go_wp2_with fail
    go_quiet (fail)
    go_wp2_with fail
    go_ret
    exact ⟨ret_int (by rw [Hst.out]), drew2 w d _⟩
  ·have g1 : decide ((m : Int) < 258) = false := by simp; omega
   have Hst := Lib.hid (HS.out trivial trivial (Or.inl h1))
   clear HS HT
   go_wp2_with fail
   go_quiet (fail)
   go_wp2_with fail
   go_ret
   exact ⟨ret_int (by rw [Hst.out]), drew2 w d _⟩
end Go.Proofs.YthpdcnjaodjjmaaGreat.Match

/- package block: runs: the walk. -/
namespace Go.Proofs.YthpdcnjaodjjmaaGreat.Blk
open Go Go.RowKit Go.Proofs.YthpdcnjaodjjmaaGreat Go.Proofs.YthpdcnjaodjjmaaGreat.Bits Go.Proofs.YthpdcnjaodjjmaaGreat.Code Go.Proofs.YthpdcnjaodjjmaaGreat.Inf Go.Proofs.YthpdcnjaodjjmaaGreat.Match
set_option linter.unusedVariables false

theorem fillR_len (v : Nat) : ∀ f n : Nat, (fillR v f n).length ≤ n
 | 0, n => by simp [fillR]
 | f + 1, n => by
  unfold fillR
  by_cases h0 : n = 0
  ·rw [if_pos h0]; simp
  ·rw [if_neg h0]
   by_cases h1 : v = 0 ∧ 11 ≤ n
   ·rw [if_pos h1, List.length_cons]; have := fillR_len v f (n - min n 138); omega
   ·rw [if_neg h1]
    by_cases h2 : v = 0 ∧ 3 ≤ n
    ·rw [if_pos h2, List.length_cons]; have := fillR_len v f (n - min n 10); omega
    ·rw [if_neg h2]
     by_cases h3 : v ≠ 0 ∧ 3 ≤ n
     ·rw [if_pos h3, List.length_cons]; have := fillR_len v f (n - min n 6); omega
     ·rw [if_neg h3, List.length_cons]; have := fillR_len v f (n - 1); omega
theorem runsF_len (l : List Nat) : ∀ f i : Nat, (runsF l f i).length ≤ l.length - i
 | 0, i => by simp [runsF]
 | f + 1, i => by
  unfold runsF
  by_cases h0 : l.length ≤ i
  ·rw [if_pos h0]; simp
  ·have hr := runN_le l i (by omega)
   have h1 := runsF_len l f (i + Blk.runN l i)
   have h2 : (oneRun (l.getD i 0) (Blk.runN l i)).length ≤ Blk.runN l i := by
    unfold oneRun
    by_cases hv : l.getD i 0 = 0
    ·rw [if_pos hv]; exact fillR_len _ _ _
    ·rw [if_neg hv, List.length_cons]; have := fillR_len (l.getD i 0) (Blk.runN l i - 1) (Blk.runN l i - 1); omega
   rw [if_neg h0, List.length_append]; omega
theorem runsP_len (l : List Nat) : (runsP l).length ≤ l.length := by have := runsF_len l l.length 0; unfold runsP; omega
theorem runN_more (l : List Nat) (i c : Nat) (h1 : 1 ≤ c) (h2 : c ≤ Blk.runN l i) (h3 : i + c < l.length) (h4 : l[i + c] = l[i]'(by omega)) : c + 1 ≤ Blk.runN l i := by
 unfold Blk.runN at h2 ⊢
 have e : l.getD i 0 = l[i]'(by omega) := by rw [List.getD_eq_getElem?_getD, List.getElem?_eq_getElem (by omega)]; rfl
 have hd : (l.drop (i + 1))[c - 1]'(by rw [List.length_drop]; omega) = l[i + c] := by
  rw [List.getElem_drop]; congr 1; omega
 have := Match.tw_step (fun x => x == l.getD i 0) (l.drop (i + 1)) (c - 1) (by omega) (by rw [List.length_drop]; omega) (by rw [hd, h4, e]; simp)
 omega
theorem runN_stop (l : List Nat) (i c : Nat) (h1 : 1 ≤ c) (h2 : c ≤ Blk.runN l i) (hi : i < l.length) (h : i + c = l.length ∨ ∃ h3 : i + c < l.length, l[i + c] ≠ l[i]) : Blk.runN l i = c := by
 have hle := (runN_le l i hi).2
 rcases Nat.lt_or_ge c (Blk.runN l i) with hlt | hge
 ·rcases h with h | ⟨h3, h4⟩
  ·omega
  ·unfold Blk.runN at hlt
   have e : l.getD i 0 = l[i] := by rw [List.getD_eq_getElem?_getD, List.getElem?_eq_getElem hi]; rfl
   obtain ⟨hn, hp⟩ := Match.tw_get (fun x => x == l.getD i 0) (l.drop (i + 1)) (c - 1) (by omega)
   have hd : (l.drop (i + 1))[c - 1]'hn = l[i + c] := by
    rw [List.getElem_drop]; congr 1; omega
   rw [hd, e] at hp
   exact absurd (by simpa using hp) h4
 ·omega
theorem runN_get (l : List Nat) (i j : Nat) (hi : i < l.length) (h : j < Blk.runN l i) : ∃ h2 : i + j < l.length, l[i + j] = l[i] := by
 have hle := (runN_le l i hi).2
 have hij : i + j < l.length := by omega
 refine ⟨hij, ?_⟩
 rcases Nat.eq_zero_or_pos j with h0 | h0
 ·subst h0; rfl
 ·unfold Blk.runN at h
  have e : l.getD i 0 = l[i] := by rw [List.getD_eq_getElem?_getD, List.getElem?_eq_getElem hi]; rfl
  have h' : j - 1 < ((l.drop (i + 1)).takeWhile fun x => x == l.getD i 0).length := Nat.sub_lt_left_of_lt_add (by omega) h
  obtain ⟨hn, hp⟩ := Match.tw_get _ _ _ h'
  have hd : (l.drop (i + 1))[j - 1]'hn = l[i + j]'(by omega) := by
   rw [List.getElem_drop]; congr 1; omega
  rw [hd, e] at hp
  simpa using hp
def runC (x : Nat × Nat × Nat) : List Value := [.int .i64 (x.1 : Int), .int .i64 (x.2.1 : Int), .int .i64 (x.2.2 : Int)]
theorem tyRun : SliceTy Tryz.prog 100 103 (.agg #[.int .i64 0, .int .i64 0, .int .i64 0]) 3 24 := ⟨Tryz.underlying100, by kernel_rfl, rfl, by omega⟩
theorem snocC (ac : List (Nat × Nat × Nat)) (x : Nat × Nat × Nat) : (ac ++ [x]).flatMap runC = ac.flatMap runC ++ runC x := by rw [List.flatMap_append]; simp
theorem run_min2 {P : Program} (ts : Array TypeId) (t : TypeId) (a b : Int) (w : World) :
  (Builtin.min_ ts t #[.int .i64 a, .int .i64 b]).run P w = .ok (.int .i64 (min a b)) w := by
 simp [Builtin.min_, Builtin.min2]
 (repeat' split) <;> omega
set_option maxRecDepth 100000 in
set_option maxHeartbeats 4000000 in
theorem runs_any (A : Option Addr) (n c : Nat) (l : List Nat) (w : World) (hm : l.length = n) (hx : n ≤ 1000) (hA : SlAt w A (l.map natV)) (hv : ∀ x ∈ l, x ≤ 1000) :
  Calls Tryz.prog 51 #[.slice A n c] w fun e w' => (∃ v, e = .returned v ∧ w'.ownsRow w.heap.size 103 3 v (runsP l).length ((runsP l).flatMap runC)) ∧ Below w.heap.size w w' := by
 have HM := Lib.hid hm
 have HA := Lib.hid hA
 have HV := Lib.hid hv
 have HL := Lib.hid (runsP_len l)
 clear hm hA hv
 go_enter Tryz.func51, Tryz.ntmps51
 go_wp2_with fail
 go_loopw [3, 4] (fun vo vi wr => ∃ (i : Nat) (ac : List (Nat × Nat × Nat)), i ≤ n ∧ vi = .int .i64 (i : Int) ∧ ac ++ runsI l i = runsP l ∧ wr.ownsRow w.heap.size 103 3 vo ac.length (ac.flatMap runC) ∧ Below w.heap.size w wr) (fun _ vi _ => n - (intOf vi).toNat)
 case atStart => exact ⟨0, [], Nat.zero_le _, rfl, rfl, World.ownsRow_nil .., Below.refl _ _⟩
 case round =>
  obtain ⟨i, ac, hi, rfl, hac, ho, hb⟩ := hrel
  have Hac := Lib.hid hac
  have HO := Lib.hid ho
  have Hb := Lib.hid hb
  clear hac ho hb
  by_cases hlt : i < n
  ·have hil : i < l.length := by rw [HM.out]; exact hlt
   obtain ⟨bA, oA, rfl, hc0'⟩ := (HA.out.below Hb.out).get (k := i) (by simpa using hil)
   have HC0 := Lib.hid hc0'
   obtain ⟨v, hv⟩ : ∃ v, v = l[i] := ⟨_, rfl⟩
   have Hv := Lib.hid hv
   have hvd : Hid (l.getD i 0 = v) := Lib.hid (by rw [List.getD_eq_getElem?_getD, List.getElem?_eq_getElem hil, hv]; rfl)
   have hv1 : v ≤ 1000 := by rw [hv]; exact HV.out _ (List.getElem_mem hil)
   clear hc0' hv
   obtain ⟨wo, hwo⟩ : ∃ wo, wo = wr := ⟨_, rfl⟩
   rw [← hwo] at HC0 HO Hb ⊢
   clear hwo wr
   go_wp2_with fail
   go_loopw [5] (fun vn wr => ∃ q : Nat, 1 ≤ q ∧ q ≤ Blk.runN l i ∧ i + q ≤ n ∧ vn = .int .i64 (q : Int) ∧ ∃ d, wr = wo.drewN d) (fun vn _ => n - (intOf vn).toNat)
   case atStart => exact ⟨1, Nat.le_refl _, (runN_le l i hil).1, by omega, rfl, 0, rfl⟩
   case round =>
    obtain ⟨q, hq1, hq2, hq3, rfl, d, rfl⟩ := hrel
    have HS : Hid (_ → Blk.runN l i = q) := Lib.hid (runN_stop l i q hq1 hq2 hil)
    have HT : Hid (∀ (h3 : i + q < l.length), l[i + q] = l[i] → q + 1 ≤ Blk.runN l i) := Lib.hid (fun h3 h4 => runN_more l i q hq1 hq2 h3 h4)
    have Hq2 := Lib.hid hq2
    clear hq2
    have s1 := lay_sum i q (by omega)
    by_cases h2 : i + q < n
    ·have h3' : i + q < l.length := by rw [HM.out]; exact h2
     obtain ⟨b', o', hbb, hc1⟩ := (HA.out.below Hb.out).get (k := i + q) (by simpa using h3')
     injection hbb with hbb; injection hbb with e1 e2 e3; subst e1 e2
     have hc0 := HC0.out
     simp only [List.getElem_map, natV] at hc0 hc1
     rw [← Hv.out] at hc0
     have g2 : decide ((i : Int) + (q : Int) < (n : Int)) = true := by simp; omega
     have p1 : (0 : Int) ≤ (i : Int) + (q : Int) := by omega
     have q1 : ((i : Int) + (q : Int)).toNat = i + q := by omega
     have r1 : (i : Int) + (q : Int) < (n : Int) := by omega
     by_cases he : l[i + q] = v
     ·have Hst := Lib.hid (HT.out h3' (he.trans Hv.out))
      rw [he] at hc1
      have g3 : ((v : Int) == (v : Int)) = true := by simp
      clear he HS HT
      go_wp2_with fail
      go_quiet (fail)
      go_wp2_with fail
      go_roundw
      case rel => exact ⟨q + 1, by omega, Hst.out, by omega, by go_num, _, rfl⟩
      case measure => simp [intOf]; omega
     ·have Hst := Lib.hid (HS.out (Or.inr ⟨h3', fun h => he (h.trans Hv.out.symm)⟩))
      have g3 : ((l[i + q] : Int) == (v : Int)) = false := by rw [beq_eq_false_iff_ne]; omega
      generalize l[i + q] = x at *
      clear he HS HT
      go_wp2_with fail
      go_quiet (fail)
      have HO1 : Hid (((wo.drewN d).drewN nq).ownsRow w.heap.size 103 3 _ ac.length (ac.flatMap runC)) := HO
      have Hb1 := Lib.hid (below_drewN' (below_drewN' Hb.out d) nq)
      obtain ⟨k, hk⟩ : ∃ k, i + q = k + 1 := ⟨i + q - 1, by omega⟩
      obtain ⟨hk2, hk3⟩ := runN_get l i (q - 1) hil (by have := Hst.out; omega)
      have Hrun : Hid (runsI l i = (if v = 0 then fillN 0 q ++ runsI l (k + 1) else (v, 0, 0) :: (fillN v (q - 1) ++ runsI l (k + 1)))) := Lib.hid (by
       rw [runsI_step l i hil, Hst.out, oneRun_eq, hvd.out, hk]
       split <;> rfl)
      obtain ⟨b', o', hbb, hck⟩ := (HA.out.below Hb1.out).get (k := k) (by rw [List.length_map]; omega)
      injection hbb with hbb; injection hbb with e1 e2 e3; subst e1 e2
      have hkv : ∀ h : k < l.length, l[k] = v := fun h => by
       rw [Hv.out, ← hk3]; congr 1; omega
      simp only [List.getElem_map, natV] at hck
      rw [hkv (by omega)] at hck
      have hsk : IntKind.i64.wrap ((i : Int) + (q : Int)) = (k : Int) + 1 := by rw [show (i : Int) + (q : Int) = (k : Int) + 1 by omega]; exact IntWalk.i64_in _ (by omega)
      have hsk2 : IntKind.i64.wrap ((k : Int) + 1 - 1) = (k : Int) := by rw [show (k : Int) + 1 - 1 = (k : Int) by omega]; exact IntWalk.i64_in _ (by omega)
      have hkn : k < n := by omega
      have hik : i ≤ k := by omega
      generalize (wo.drewN d).drewN nq = w1 at *
      clear s1 hk hk2 hk3 hkv HC0 g2 HO Hb
      clear g3 hc0 hc1 p1 q1 r1
      by_cases hv0 : v = 0
      ·have hz : ((v : Int) == 0) = true := by simp; omega
       have Hv0 := Lib.hid hv0
       clear hv0
       go_wp2_with fail
       go_loopw [3, 5] (fun vo vn wr => ∃ (q : Nat) (ac : List (Nat × Nat × Nat)), q ≤ n ∧ vn = .int .i64 (q : Int) ∧ ac ++ (fillN v q ++ runsI l (k + 1)) = runsP l ∧ wr.ownsRow w.heap.size 103 3 vo ac.length (ac.flatMap runC) ∧ Below w.heap.size w wr) (fun _ vn _ => (intOf vn).toNat)
       case atStart => exact ⟨q, ac, by omega, rfl, by have := Hac.out; rw [Hrun.out, if_pos Hv0.out] at this; rw [Hv0.out]; exact this, HO1.out, Hb1.out⟩
       case round =>
        clear HO1 Hb1
        have Hac1 := Hac
        clear Hac
        clear Hst hq1 hq3
        obtain ⟨q, ac, hq, rfl, hac, ho, hb⟩ := hrel
        have Hac := Lib.hid hac
        have HO := Lib.hid ho
        have Hb := Lib.hid hb
        have hacl : ac.length ≤ 1000 := by have h1 := congrArg List.length hac; rw [List.length_append] at h1; have h2 := HL.out; have h3 := HM.out; omega
        clear hac ho hb
        by_cases hq0 : 0 < q
        ·have hq0' : (0 : Int) < (q : Int) := by omega
         by_cases h11 : 11 ≤ q
         ·have h11' : (11 : Int) ≤ (q : Int) := by omega
          obtain ⟨x, hx2⟩ : ∃ x, x = min q 138 - 11 := ⟨_, rfl⟩
          obtain ⟨r, hr2⟩ : ∃ r, r = q - min q 138 := ⟨_, rfl⟩
          have Hf : Hid (fillN v q = (18, x, 7) :: fillN v r) := Lib.hid (by rw [hx2, hr2]; rw [Hv0.out]; exact fillN_18 q h11)
          have hmin : ∀ (ts : Array TypeId) (ty : TypeId) (W : World), (Builtin.min_ ts ty #[.int .i64 (q : Int), .int .i64 138]).run Tryz.prog W = .ok (.int .i64 ((x : Int) + 11)) W := fun ts ty W => by rw [run_min2, show min (q : Int) 138 = (x : Int) + 11 by omega]
          have hs1 : IntKind.i64.wrap ((x : Int) + 11 - 11) = (x : Int) := by rw [show (x : Int) + 11 - 11 = (x : Int) by omega]; exact IntWalk.i64_in _ (by omega)
          have hs2 : IntKind.i64.wrap ((q : Int) - ((x : Int) + 11)) = (r : Int) := by rw [show (q : Int) - ((x : Int) + 11) = (r : Int) by omega]; exact IntWalk.i64_in _ (by omega)
          have hrq : r < q := by omega
          have hx3 : x ≤ 1000 := by omega
          clear hx2 hr2
          have hba : Below wr.heap.size wr (wr.alloc (.cells #[.int .i64 18, .int .i64 (x : Int), .int .i64 7] 103)) := (Below.refl _ _).alloc (Nat.le_refl _) _
          have HO2 := Lib.hid (own_keep HO.out hba)
          have Hb2 := Lib.hid (Hb.out.trans (hba.mono Hb.out.size))
          have HZ : Hid (SlAt (wr.alloc (.cells #[.int .i64 18, .int .i64 (x : Int), .int .i64 7] 103)) (some ⟨wr.heap.size, 0, none⟩) [.int .i64 18, .int .i64 (x : Int), .int .i64 7]) := Lib.hid (SlAt.of_heap (heap_alloc_new _ _) rfl)
          clear hba
          go_wp2_with (at_builtin; refine wpList_app _ rfl (.tmp 70) (.tmp 74) _ rfl w.heap.size 103 _ 3 24 tyRun _ ac.length (ac.flatMap runC) rfl HO2.out (some ⟨wr.heap.size, 0, none⟩) 1 1 [.int .i64 18, .int .i64 (x : Int), .int .i64 7] rfl rfl HZ.out (by simp [Value.oneCell']) (by simp) (by unfold maxLen; omega) (by omega) Hb2.out.size ?_; intro v8 w8 hown8 hg8 _; have Hb8 := Lib.hid (own_below HO2.out hg8 Hb2.out Hb2.out.size); have Ho8 := Lib.hid hown8; clear hown8 hg8)
          go_roundw
          case rel => exact ⟨r, ac ++ [(18, x, 7)], by omega, by go_num, by rw [← Hac.out, Hf.out]; simp, by rw [snocC, List.length_append]; exact Ho8.out, Hb8.out⟩
          case measure => simp [intOf]; omega
         ·have h11' : ¬ (11 : Int) ≤ (q : Int) := by omega
          by_cases h3 : 3 ≤ q
          ·have h3' : (3 : Int) ≤ (q : Int) := by omega
           obtain ⟨x, hx2⟩ : ∃ x, x = min q 10 - 3 := ⟨_, rfl⟩
           obtain ⟨r, hr2⟩ : ∃ r, r = q - min q 10 := ⟨_, rfl⟩
           have Hf : Hid (fillN v q = (17, x, 3) :: fillN v r) := Lib.hid (by rw [hx2, hr2]; rw [Hv0.out]; exact fillN_17 q h3 (by omega))
           have hmin : ∀ (ts : Array TypeId) (ty : TypeId) (W : World), (Builtin.min_ ts ty #[.int .i64 (q : Int), .int .i64 10]).run Tryz.prog W = .ok (.int .i64 ((x : Int) + 3)) W := fun ts ty W => by rw [run_min2, show min (q : Int) 10 = (x : Int) + 3 by omega]
           have hs1 : IntKind.i64.wrap ((x : Int) + 3 - 3) = (x : Int) := by rw [show (x : Int) + 3 - 3 = (x : Int) by omega]; exact IntWalk.i64_in _ (by omega)
           have hs2 : IntKind.i64.wrap ((q : Int) - ((x : Int) + 3)) = (r : Int) := by rw [show (q : Int) - ((x : Int) + 3) = (r : Int) by omega]; exact IntWalk.i64_in _ (by omega)
           have hrq : r < q := by omega
           have hx3 : x ≤ 1000 := by omega
           clear hx2 hr2
           have hba : Below wr.heap.size wr (wr.alloc (.cells #[.int .i64 17, .int .i64 (x : Int), .int .i64 3] 103)) := (Below.refl _ _).alloc (Nat.le_refl _) _
           have HO2 := Lib.hid (own_keep HO.out hba)
           have Hb2 := Lib.hid (Hb.out.trans (hba.mono Hb.out.size))
           have HZ : Hid (SlAt (wr.alloc (.cells #[.int .i64 17, .int .i64 (x : Int), .int .i64 3] 103)) (some ⟨wr.heap.size, 0, none⟩) [.int .i64 17, .int .i64 (x : Int), .int .i64 3]) := Lib.hid (SlAt.of_heap (heap_alloc_new _ _) rfl)
           clear hba
           go_wp2_with (at_builtin; refine wpList_app _ rfl (.tmp 88) (.tmp 92) _ rfl w.heap.size 103 _ 3 24 tyRun _ ac.length (ac.flatMap runC) rfl HO2.out (some ⟨wr.heap.size, 0, none⟩) 1 1 [.int .i64 17, .int .i64 (x : Int), .int .i64 3] rfl rfl HZ.out (by simp [Value.oneCell']) (by simp) (by unfold maxLen; omega) (by omega) Hb2.out.size ?_; intro v8 w8 hown8 hg8 _; have Hb8 := Lib.hid (own_below HO2.out hg8 Hb2.out Hb2.out.size); have Ho8 := Lib.hid hown8; clear hown8 hg8)
           go_roundw
           case rel => exact ⟨r, ac ++ [(17, x, 3)], by omega, by go_num, by rw [← Hac.out, Hf.out]; simp, by rw [snocC, List.length_append]; exact Ho8.out, Hb8.out⟩
           case measure => simp [intOf]; omega
          ·have h3' : ¬ (3 : Int) ≤ (q : Int) := by omega
           obtain ⟨r, hr2⟩ : ∃ r, r = q - 1 := ⟨_, rfl⟩
           have Hf : Hid (fillN v q = (v, 0, 0) :: fillN v r) := Lib.hid (by rw [hr2]; exact fillN_one v q (by omega) (by omega))
           have hs2 : IntKind.i64.wrap ((q : Int) - 1) = (r : Int) := by rw [show (q : Int) - 1 = (r : Int) by omega]; exact IntWalk.i64_in _ (by omega)
           have hrq : r < q := by omega
           clear hr2
           have hba : Below wr.heap.size wr (wr.alloc (.cells #[.int .i64 (v : Int), .int .i64 0, .int .i64 0] 103)) := (Below.refl _ _).alloc (Nat.le_refl _) _
           have HO2 := Lib.hid (own_keep HO.out hba)
           have Hb2 := Lib.hid (Hb.out.trans (hba.mono Hb.out.size))
           have HZ : Hid (SlAt (wr.alloc (.cells #[.int .i64 (v : Int), .int .i64 0, .int .i64 0] 103)) (some ⟨wr.heap.size, 0, none⟩) [.int .i64 (v : Int), .int .i64 0, .int .i64 0]) := Lib.hid (SlAt.of_heap (heap_alloc_new _ _) rfl)
           clear hba
           go_wp2_with (at_builtin; refine wpList_app _ rfl (.tmp 54) (.tmp 57) _ rfl w.heap.size 103 _ 3 24 tyRun _ ac.length (ac.flatMap runC) rfl HO2.out (some ⟨wr.heap.size, 0, none⟩) 1 1 [.int .i64 (v : Int), .int .i64 0, .int .i64 0] rfl rfl HZ.out (by simp [Value.oneCell']) (by simp) (by unfold maxLen; omega) (by omega) Hb2.out.size ?_; intro v8 w8 hown8 hg8 _; have Hb8 := Lib.hid (own_below HO2.out hg8 Hb2.out Hb2.out.size); have Ho8 := Lib.hid hown8; clear hown8 hg8)
           go_roundw
           case rel => exact ⟨r, ac ++ [(v, 0, 0)], by omega, by go_num, by rw [← Hac.out, Hf.out]; simp, by rw [snocC, List.length_append]; exact Ho8.out, Hb8.out⟩
           case measure => simp [intOf]; omega
        ·obtain rfl : q = 0 := by omega
         have Hac2 : Hid (ac ++ runsI l (k + 1) = runsP l) := Hac
         go_wp2_with fail
         go_roundw
         case rel => exact ⟨k + 1, ac, by omega, by go_num, Hac2.out, HO.out, Hb.out⟩
         case measure => simp [intOf]; omega
      ·have hz : ((v : Int) == 0) = false := by rw [beq_eq_false_iff_ne]; omega
       have Hv0 := Lib.hid hv0
       obtain ⟨r0, hr0⟩ : ∃ r, r = q - 1 := ⟨_, rfl⟩
       have hs0 : IntKind.i64.wrap ((q : Int) - 1) = (r0 : Int) := by rw [show (q : Int) - 1 = (r0 : Int) by omega]; exact IntWalk.i64_in _ (by omega)
       have hacl : ac.length ≤ 1000 := by have h1 := congrArg List.length Hac.out; rw [List.length_append] at h1; have h2 := HL.out; have h3 := HM.out; omega
       have hba : Below w1.heap.size w1 (w1.alloc (.cells #[.int .i64 (v : Int), .int .i64 0, .int .i64 0] 103)) := (Below.refl _ _).alloc (Nat.le_refl _) _
       have HO2 := Lib.hid (own_keep HO1.out hba)
       have Hb2 := Lib.hid (Hb1.out.trans (hba.mono Hb1.out.size))
       have HZ : Hid (SlAt (w1.alloc (.cells #[.int .i64 (v : Int), .int .i64 0, .int .i64 0] 103)) (some ⟨w1.heap.size, 0, none⟩) [.int .i64 (v : Int), .int .i64 0, .int .i64 0]) := Lib.hid (SlAt.of_heap (heap_alloc_new _ _) rfl)
       clear hba hv0
       go_wp2_with (at_builtin; refine wpList_app _ rfl (.tmp 45) (.tmp 48) _ rfl w.heap.size 103 _ 3 24 tyRun _ ac.length (ac.flatMap runC) rfl HO2.out (some ⟨w1.heap.size, 0, none⟩) 1 1 [.int .i64 (v : Int), .int .i64 0, .int .i64 0] rfl rfl HZ.out (by simp [Value.oneCell']) (by simp) (by unfold maxLen; omega) (by omega) Hb2.out.size ?_; intro v8 w8 hown8 hg8 _; have Hb8 := Lib.hid (own_below HO2.out hg8 Hb2.out Hb2.out.size); have Ho8 := Lib.hid hown8; clear hown8 hg8)
       go_loopw [3, 5] (fun vo vn wr => ∃ (q : Nat) (ac : List (Nat × Nat × Nat)), q ≤ n ∧ vn = .int .i64 (q : Int) ∧ ac ++ (fillN v q ++ runsI l (k + 1)) = runsP l ∧ wr.ownsRow w.heap.size 103 3 vo ac.length (ac.flatMap runC) ∧ Below w.heap.size w wr) (fun _ vn _ => (intOf vn).toNat)
       case atStart => exact ⟨q - 1, ac ++ [(v, 0, 0)], by omega, by rw [show ((q - 1 : Nat) : Int) = (r0 : Int) by omega], by have := Hac.out; rw [Hrun.out, if_neg Hv0.out] at this; rw [← this]; simp, by rw [snocC, List.length_append]; exact Ho8.out, Hb8.out⟩
       case round =>
        clear HO1 Hb1
        have Hac1 := Hac
        clear Hac
        clear Hst hq1 hq3
        obtain ⟨q, ac, hq, rfl, hac, ho, hb⟩ := hrel
        have Hac := Lib.hid hac
        have HO := Lib.hid ho
        have Hb := Lib.hid hb
        have hacl : ac.length ≤ 1000 := by have h1 := congrArg List.length hac; rw [List.length_append] at h1; have h2 := HL.out; have h3 := HM.out; omega
        clear hac ho hb
        by_cases hq0 : 0 < q
        ·have hq0' : (0 : Int) < (q : Int) := by omega
         by_cases h3 : 3 ≤ q
         ·have h3' : (3 : Int) ≤ (q : Int) := by omega
          obtain ⟨x, hx2⟩ : ∃ x, x = min q 6 - 3 := ⟨_, rfl⟩
          obtain ⟨r, hr2⟩ : ∃ r, r = q - min q 6 := ⟨_, rfl⟩
          have Hf : Hid (fillN v q = (16, x, 2) :: fillN v r) := Lib.hid (by rw [hx2, hr2]; exact fillN_16 v q Hv0.out h3)
          have hmin : ∀ (ts : Array TypeId) (ty : TypeId) (W : World), (Builtin.min_ ts ty #[.int .i64 (q : Int), .int .i64 6]).run Tryz.prog W = .ok (.int .i64 ((x : Int) + 3)) W := fun ts ty W => by rw [run_min2, show min (q : Int) 6 = (x : Int) + 3 by omega]
          have hs1 : IntKind.i64.wrap ((x : Int) + 3 - 3) = (x : Int) := by rw [show (x : Int) + 3 - 3 = (x : Int) by omega]; exact IntWalk.i64_in _ (by omega)
          have hs2 : IntKind.i64.wrap ((q : Int) - ((x : Int) + 3)) = (r : Int) := by rw [show (q : Int) - ((x : Int) + 3) = (r : Int) by omega]; exact IntWalk.i64_in _ (by omega)
          have hrq : r < q := by omega
          have hx3 : x ≤ 1000 := by omega
          clear hx2 hr2
          have hba : Below wr.heap.size wr (wr.alloc (.cells #[.int .i64 16, .int .i64 (x : Int), .int .i64 2] 103)) := (Below.refl _ _).alloc (Nat.le_refl _) _
          have HO2 := Lib.hid (own_keep HO.out hba)
          have Hb2 := Lib.hid (Hb.out.trans (hba.mono Hb.out.size))
          have HZ : Hid (SlAt (wr.alloc (.cells #[.int .i64 16, .int .i64 (x : Int), .int .i64 2] 103)) (some ⟨wr.heap.size, 0, none⟩) [.int .i64 16, .int .i64 (x : Int), .int .i64 2]) := Lib.hid (SlAt.of_heap (heap_alloc_new _ _) rfl)
          clear hba
          go_wp2_with (at_builtin; refine wpList_app _ rfl (.tmp 106) (.tmp 110) _ rfl w.heap.size 103 _ 3 24 tyRun _ ac.length (ac.flatMap runC) rfl HO2.out (some ⟨wr.heap.size, 0, none⟩) 1 1 [.int .i64 16, .int .i64 (x : Int), .int .i64 2] rfl rfl HZ.out (by simp [Value.oneCell']) (by simp) (by unfold maxLen; omega) (by omega) Hb2.out.size ?_; intro v8 w8 hown8 hg8 _; have Hb8 := Lib.hid (own_below HO2.out hg8 Hb2.out Hb2.out.size); have Ho8 := Lib.hid hown8; clear hown8 hg8)
          go_roundw
          case rel => exact ⟨r, ac ++ [(16, x, 2)], by omega, by go_num, by rw [← Hac.out, Hf.out]; simp, by rw [snocC, List.length_append]; exact Ho8.out, Hb8.out⟩
          case measure => simp [intOf]; omega
         ·have h3' : ¬ (3 : Int) ≤ (q : Int) := by omega
          obtain ⟨r, hr2⟩ : ∃ r, r = q - 1 := ⟨_, rfl⟩
          have Hf : Hid (fillN v q = (v, 0, 0) :: fillN v r) := Lib.hid (by rw [hr2]; exact fillN_one v q (by omega) (by omega))
          have hs2 : IntKind.i64.wrap ((q : Int) - 1) = (r : Int) := by rw [show (q : Int) - 1 = (r : Int) by omega]; exact IntWalk.i64_in _ (by omega)
          have hrq : r < q := by omega
          clear hr2
          have hba : Below wr.heap.size wr (wr.alloc (.cells #[.int .i64 (v : Int), .int .i64 0, .int .i64 0] 103)) := (Below.refl _ _).alloc (Nat.le_refl _) _
          have HO2 := Lib.hid (own_keep HO.out hba)
          have Hb2 := Lib.hid (Hb.out.trans (hba.mono Hb.out.size))
          have HZ : Hid (SlAt (wr.alloc (.cells #[.int .i64 (v : Int), .int .i64 0, .int .i64 0] 103)) (some ⟨wr.heap.size, 0, none⟩) [.int .i64 (v : Int), .int .i64 0, .int .i64 0]) := Lib.hid (SlAt.of_heap (heap_alloc_new _ _) rfl)
          clear hba
          go_wp2_with (at_builtin; refine wpList_app _ rfl (.tmp 54) (.tmp 57) _ rfl w.heap.size 103 _ 3 24 tyRun _ ac.length (ac.flatMap runC) rfl HO2.out (some ⟨wr.heap.size, 0, none⟩) 1 1 [.int .i64 (v : Int), .int .i64 0, .int .i64 0] rfl rfl HZ.out (by simp [Value.oneCell']) (by simp) (by unfold maxLen; omega) (by omega) Hb2.out.size ?_; intro v8 w8 hown8 hg8 _; have Hb8 := Lib.hid (own_below HO2.out hg8 Hb2.out Hb2.out.size); have Ho8 := Lib.hid hown8; clear hown8 hg8)
          go_roundw
          case rel => exact ⟨r, ac ++ [(v, 0, 0)], by omega, by go_num, by rw [← Hac.out, Hf.out]; simp, by rw [snocC, List.length_append]; exact Ho8.out, Hb8.out⟩
          case measure => simp [intOf]; omega
        ·obtain rfl : q = 0 := by omega
         have Hac2 : Hid (ac ++ runsI l (k + 1) = runsP l) := Hac
         go_wp2_with fail
         go_roundw
         case rel => exact ⟨k + 1, ac, by omega, by go_num, Hac2.out, HO.out, Hb.out⟩
         case measure => simp [intOf]; omega
    ·have g2 : decide ((i : Int) + (q : Int) < (n : Int)) = false := by simp; omega
     have Hst := Lib.hid (HS.out (Or.inl (by rw [HM.out]; omega)))
     clear HS HT
     go_wp2_with fail
     go_quiet (fail)
     have HO1 : Hid (((wo.drewN d).drewN nq).ownsRow w.heap.size 103 3 _ ac.length (ac.flatMap runC)) := HO
     have Hb1 := Lib.hid (below_drewN' (below_drewN' Hb.out d) nq)
     obtain ⟨k, hk⟩ : ∃ k, i + q = k + 1 := ⟨i + q - 1, by omega⟩
     obtain ⟨hk2, hk3⟩ := runN_get l i (q - 1) hil (by have := Hst.out; omega)
     have Hrun : Hid (runsI l i = (if v = 0 then fillN 0 q ++ runsI l (k + 1) else (v, 0, 0) :: (fillN v (q - 1) ++ runsI l (k + 1)))) := Lib.hid (by
      rw [runsI_step l i hil, Hst.out, oneRun_eq, hvd.out, hk]
      split <;> rfl)
     obtain ⟨b', o', hbb, hck⟩ := (HA.out.below Hb1.out).get (k := k) (by rw [List.length_map]; omega)
     injection hbb with hbb; injection hbb with e1 e2 e3; subst e1 e2
     have hkv : ∀ h : k < l.length, l[k] = v := fun h => by
      rw [Hv.out, ← hk3]; congr 1; omega
     simp only [List.getElem_map, natV] at hck
     rw [hkv (by omega)] at hck
     have hsk : IntKind.i64.wrap ((i : Int) + (q : Int)) = (k : Int) + 1 := by rw [show (i : Int) + (q : Int) = (k : Int) + 1 by omega]; exact IntWalk.i64_in _ (by omega)
     have hsk2 : IntKind.i64.wrap ((k : Int) + 1 - 1) = (k : Int) := by rw [show (k : Int) + 1 - 1 = (k : Int) by omega]; exact IntWalk.i64_in _ (by omega)
     have hkn : k < n := by omega
     have hik : i ≤ k := by omega
     generalize (wo.drewN d).drewN nq = w1 at *
     clear s1 hk hk2 hk3 hkv HC0 g2 HO Hb
     skip
     by_cases hv0 : v = 0
     ·have hz : ((v : Int) == 0) = true := by simp; omega
      have Hv0 := Lib.hid hv0
      clear hv0
      go_wp2_with fail
      go_loopw [3, 5] (fun vo vn wr => ∃ (q : Nat) (ac : List (Nat × Nat × Nat)), q ≤ n ∧ vn = .int .i64 (q : Int) ∧ ac ++ (fillN v q ++ runsI l (k + 1)) = runsP l ∧ wr.ownsRow w.heap.size 103 3 vo ac.length (ac.flatMap runC) ∧ Below w.heap.size w wr) (fun _ vn _ => (intOf vn).toNat)
      case atStart => exact ⟨q, ac, by omega, rfl, by have := Hac.out; rw [Hrun.out, if_pos Hv0.out] at this; rw [Hv0.out]; exact this, HO1.out, Hb1.out⟩
      case round =>
       clear HO1 Hb1
       have Hac1 := Hac
       clear Hac
       clear Hst hq1 hq3
       obtain ⟨q, ac, hq, rfl, hac, ho, hb⟩ := hrel
       have Hac := Lib.hid hac
       have HO := Lib.hid ho
       have Hb := Lib.hid hb
       have hacl : ac.length ≤ 1000 := by have h1 := congrArg List.length hac; rw [List.length_append] at h1; have h2 := HL.out; have h3 := HM.out; omega
       clear hac ho hb
       by_cases hq0 : 0 < q
       ·have hq0' : (0 : Int) < (q : Int) := by omega
        by_cases h11 : 11 ≤ q
        ·have h11' : (11 : Int) ≤ (q : Int) := by omega
         obtain ⟨x, hx2⟩ : ∃ x, x = min q 138 - 11 := ⟨_, rfl⟩
         obtain ⟨r, hr2⟩ : ∃ r, r = q - min q 138 := ⟨_, rfl⟩
         have Hf : Hid (fillN v q = (18, x, 7) :: fillN v r) := Lib.hid (by rw [hx2, hr2]; rw [Hv0.out]; exact fillN_18 q h11)
         have hmin : ∀ (ts : Array TypeId) (ty : TypeId) (W : World), (Builtin.min_ ts ty #[.int .i64 (q : Int), .int .i64 138]).run Tryz.prog W = .ok (.int .i64 ((x : Int) + 11)) W := fun ts ty W => by rw [run_min2, show min (q : Int) 138 = (x : Int) + 11 by omega]
         have hs1 : IntKind.i64.wrap ((x : Int) + 11 - 11) = (x : Int) := by rw [show (x : Int) + 11 - 11 = (x : Int) by omega]; exact IntWalk.i64_in _ (by omega)
         have hs2 : IntKind.i64.wrap ((q : Int) - ((x : Int) + 11)) = (r : Int) := by rw [show (q : Int) - ((x : Int) + 11) = (r : Int) by omega]; exact IntWalk.i64_in _ (by omega)
         have hrq : r < q := by omega
         have hx3 : x ≤ 1000 := by omega
         clear hx2 hr2
         have hba : Below wr.heap.size wr (wr.alloc (.cells #[.int .i64 18, .int .i64 (x : Int), .int .i64 7] 103)) := (Below.refl _ _).alloc (Nat.le_refl _) _
         have HO2 := Lib.hid (own_keep HO.out hba)
         have Hb2 := Lib.hid (Hb.out.trans (hba.mono Hb.out.size))
         have HZ : Hid (SlAt (wr.alloc (.cells #[.int .i64 18, .int .i64 (x : Int), .int .i64 7] 103)) (some ⟨wr.heap.size, 0, none⟩) [.int .i64 18, .int .i64 (x : Int), .int .i64 7]) := Lib.hid (SlAt.of_heap (heap_alloc_new _ _) rfl)
         clear hba
         go_wp2_with (at_builtin; refine wpList_app _ rfl (.tmp 70) (.tmp 74) _ rfl w.heap.size 103 _ 3 24 tyRun _ ac.length (ac.flatMap runC) rfl HO2.out (some ⟨wr.heap.size, 0, none⟩) 1 1 [.int .i64 18, .int .i64 (x : Int), .int .i64 7] rfl rfl HZ.out (by simp [Value.oneCell']) (by simp) (by unfold maxLen; omega) (by omega) Hb2.out.size ?_; intro v8 w8 hown8 hg8 _; have Hb8 := Lib.hid (own_below HO2.out hg8 Hb2.out Hb2.out.size); have Ho8 := Lib.hid hown8; clear hown8 hg8)
         go_roundw
         case rel => exact ⟨r, ac ++ [(18, x, 7)], by omega, by go_num, by rw [← Hac.out, Hf.out]; simp, by rw [snocC, List.length_append]; exact Ho8.out, Hb8.out⟩
         case measure => simp [intOf]; omega
        ·have h11' : ¬ (11 : Int) ≤ (q : Int) := by omega
         by_cases h3 : 3 ≤ q
         ·have h3' : (3 : Int) ≤ (q : Int) := by omega
          obtain ⟨x, hx2⟩ : ∃ x, x = min q 10 - 3 := ⟨_, rfl⟩
          obtain ⟨r, hr2⟩ : ∃ r, r = q - min q 10 := ⟨_, rfl⟩
          have Hf : Hid (fillN v q = (17, x, 3) :: fillN v r) := Lib.hid (by rw [hx2, hr2]; rw [Hv0.out]; exact fillN_17 q h3 (by omega))
          have hmin : ∀ (ts : Array TypeId) (ty : TypeId) (W : World), (Builtin.min_ ts ty #[.int .i64 (q : Int), .int .i64 10]).run Tryz.prog W = .ok (.int .i64 ((x : Int) + 3)) W := fun ts ty W => by rw [run_min2, show min (q : Int) 10 = (x : Int) + 3 by omega]
          have hs1 : IntKind.i64.wrap ((x : Int) + 3 - 3) = (x : Int) := by rw [show (x : Int) + 3 - 3 = (x : Int) by omega]; exact IntWalk.i64_in _ (by omega)
          have hs2 : IntKind.i64.wrap ((q : Int) - ((x : Int) + 3)) = (r : Int) := by rw [show (q : Int) - ((x : Int) + 3) = (r : Int) by omega]; exact IntWalk.i64_in _ (by omega)
          have hrq : r < q := by omega
          have hx3 : x ≤ 1000 := by omega
          clear hx2 hr2
          have hba : Below wr.heap.size wr (wr.alloc (.cells #[.int .i64 17, .int .i64 (x : Int), .int .i64 3] 103)) := (Below.refl _ _).alloc (Nat.le_refl _) _
          have HO2 := Lib.hid (own_keep HO.out hba)
          have Hb2 := Lib.hid (Hb.out.trans (hba.mono Hb.out.size))
          have HZ : Hid (SlAt (wr.alloc (.cells #[.int .i64 17, .int .i64 (x : Int), .int .i64 3] 103)) (some ⟨wr.heap.size, 0, none⟩) [.int .i64 17, .int .i64 (x : Int), .int .i64 3]) := Lib.hid (SlAt.of_heap (heap_alloc_new _ _) rfl)
          clear hba
          go_wp2_with (at_builtin; refine wpList_app _ rfl (.tmp 88) (.tmp 92) _ rfl w.heap.size 103 _ 3 24 tyRun _ ac.length (ac.flatMap runC) rfl HO2.out (some ⟨wr.heap.size, 0, none⟩) 1 1 [.int .i64 17, .int .i64 (x : Int), .int .i64 3] rfl rfl HZ.out (by simp [Value.oneCell']) (by simp) (by unfold maxLen; omega) (by omega) Hb2.out.size ?_; intro v8 w8 hown8 hg8 _; have Hb8 := Lib.hid (own_below HO2.out hg8 Hb2.out Hb2.out.size); have Ho8 := Lib.hid hown8; clear hown8 hg8)
          go_roundw
          case rel => exact ⟨r, ac ++ [(17, x, 3)], by omega, by go_num, by rw [← Hac.out, Hf.out]; simp, by rw [snocC, List.length_append]; exact Ho8.out, Hb8.out⟩
          case measure => simp [intOf]; omega
         ·have h3' : ¬ (3 : Int) ≤ (q : Int) := by omega
          obtain ⟨r, hr2⟩ : ∃ r, r = q - 1 := ⟨_, rfl⟩
          have Hf : Hid (fillN v q = (v, 0, 0) :: fillN v r) := Lib.hid (by rw [hr2]; exact fillN_one v q (by omega) (by omega))
          have hs2 : IntKind.i64.wrap ((q : Int) - 1) = (r : Int) := by rw [show (q : Int) - 1 = (r : Int) by omega]; exact IntWalk.i64_in _ (by omega)
          have hrq : r < q := by omega
          clear hr2
          have hba : Below wr.heap.size wr (wr.alloc (.cells #[.int .i64 (v : Int), .int .i64 0, .int .i64 0] 103)) := (Below.refl _ _).alloc (Nat.le_refl _) _
          have HO2 := Lib.hid (own_keep HO.out hba)
          have Hb2 := Lib.hid (Hb.out.trans (hba.mono Hb.out.size))
          have HZ : Hid (SlAt (wr.alloc (.cells #[.int .i64 (v : Int), .int .i64 0, .int .i64 0] 103)) (some ⟨wr.heap.size, 0, none⟩) [.int .i64 (v : Int), .int .i64 0, .int .i64 0]) := Lib.hid (SlAt.of_heap (heap_alloc_new _ _) rfl)
          clear hba
          go_wp2_with (at_builtin; refine wpList_app _ rfl (.tmp 54) (.tmp 57) _ rfl w.heap.size 103 _ 3 24 tyRun _ ac.length (ac.flatMap runC) rfl HO2.out (some ⟨wr.heap.size, 0, none⟩) 1 1 [.int .i64 (v : Int), .int .i64 0, .int .i64 0] rfl rfl HZ.out (by simp [Value.oneCell']) (by simp) (by unfold maxLen; omega) (by omega) Hb2.out.size ?_; intro v8 w8 hown8 hg8 _; have Hb8 := Lib.hid (own_below HO2.out hg8 Hb2.out Hb2.out.size); have Ho8 := Lib.hid hown8; clear hown8 hg8)
          go_roundw
          case rel => exact ⟨r, ac ++ [(v, 0, 0)], by omega, by go_num, by rw [← Hac.out, Hf.out]; simp, by rw [snocC, List.length_append]; exact Ho8.out, Hb8.out⟩
          case measure => simp [intOf]; omega
       ·obtain rfl : q = 0 := by omega
        have Hac2 : Hid (ac ++ runsI l (k + 1) = runsP l) := Hac
        go_wp2_with fail
        go_roundw
        case rel => exact ⟨k + 1, ac, by omega, by go_num, Hac2.out, HO.out, Hb.out⟩
        case measure => simp [intOf]; omega
     ·have hz : ((v : Int) == 0) = false := by rw [beq_eq_false_iff_ne]; omega
      have Hv0 := Lib.hid hv0
      obtain ⟨r0, hr0⟩ : ∃ r, r = q - 1 := ⟨_, rfl⟩
      have hs0 : IntKind.i64.wrap ((q : Int) - 1) = (r0 : Int) := by rw [show (q : Int) - 1 = (r0 : Int) by omega]; exact IntWalk.i64_in _ (by omega)
      have hacl : ac.length ≤ 1000 := by have h1 := congrArg List.length Hac.out; rw [List.length_append] at h1; have h2 := HL.out; have h3 := HM.out; omega
      have hba : Below w1.heap.size w1 (w1.alloc (.cells #[.int .i64 (v : Int), .int .i64 0, .int .i64 0] 103)) := (Below.refl _ _).alloc (Nat.le_refl _) _
      have HO2 := Lib.hid (own_keep HO1.out hba)
      have Hb2 := Lib.hid (Hb1.out.trans (hba.mono Hb1.out.size))
      have HZ : Hid (SlAt (w1.alloc (.cells #[.int .i64 (v : Int), .int .i64 0, .int .i64 0] 103)) (some ⟨w1.heap.size, 0, none⟩) [.int .i64 (v : Int), .int .i64 0, .int .i64 0]) := Lib.hid (SlAt.of_heap (heap_alloc_new _ _) rfl)
      clear hba hv0
      go_wp2_with (at_builtin; refine wpList_app _ rfl (.tmp 45) (.tmp 48) _ rfl w.heap.size 103 _ 3 24 tyRun _ ac.length (ac.flatMap runC) rfl HO2.out (some ⟨w1.heap.size, 0, none⟩) 1 1 [.int .i64 (v : Int), .int .i64 0, .int .i64 0] rfl rfl HZ.out (by simp [Value.oneCell']) (by simp) (by unfold maxLen; omega) (by omega) Hb2.out.size ?_; intro v8 w8 hown8 hg8 _; have Hb8 := Lib.hid (own_below HO2.out hg8 Hb2.out Hb2.out.size); have Ho8 := Lib.hid hown8; clear hown8 hg8)
      go_loopw [3, 5] (fun vo vn wr => ∃ (q : Nat) (ac : List (Nat × Nat × Nat)), q ≤ n ∧ vn = .int .i64 (q : Int) ∧ ac ++ (fillN v q ++ runsI l (k + 1)) = runsP l ∧ wr.ownsRow w.heap.size 103 3 vo ac.length (ac.flatMap runC) ∧ Below w.heap.size w wr) (fun _ vn _ => (intOf vn).toNat)
      case atStart => exact ⟨q - 1, ac ++ [(v, 0, 0)], by omega, by rw [show ((q - 1 : Nat) : Int) = (r0 : Int) by omega], by have := Hac.out; rw [Hrun.out, if_neg Hv0.out] at this; rw [← this]; simp, by rw [snocC, List.length_append]; exact Ho8.out, Hb8.out⟩
      case round =>
       clear HO1 Hb1
       have Hac1 := Hac
       clear Hac
       clear Hst hq1 hq3
       obtain ⟨q, ac, hq, rfl, hac, ho, hb⟩ := hrel
       have Hac := Lib.hid hac
       have HO := Lib.hid ho
       have Hb := Lib.hid hb
       have hacl : ac.length ≤ 1000 := by have h1 := congrArg List.length hac; rw [List.length_append] at h1; have h2 := HL.out; have h3 := HM.out; omega
       clear hac ho hb
       by_cases hq0 : 0 < q
       ·have hq0' : (0 : Int) < (q : Int) := by omega
        by_cases h3 : 3 ≤ q
        ·have h3' : (3 : Int) ≤ (q : Int) := by omega
         obtain ⟨x, hx2⟩ : ∃ x, x = min q 6 - 3 := ⟨_, rfl⟩
         obtain ⟨r, hr2⟩ : ∃ r, r = q - min q 6 := ⟨_, rfl⟩
         have Hf : Hid (fillN v q = (16, x, 2) :: fillN v r) := Lib.hid (by rw [hx2, hr2]; exact fillN_16 v q Hv0.out h3)
         have hmin : ∀ (ts : Array TypeId) (ty : TypeId) (W : World), (Builtin.min_ ts ty #[.int .i64 (q : Int), .int .i64 6]).run Tryz.prog W = .ok (.int .i64 ((x : Int) + 3)) W := fun ts ty W => by rw [run_min2, show min (q : Int) 6 = (x : Int) + 3 by omega]
         have hs1 : IntKind.i64.wrap ((x : Int) + 3 - 3) = (x : Int) := by rw [show (x : Int) + 3 - 3 = (x : Int) by omega]; exact IntWalk.i64_in _ (by omega)
         have hs2 : IntKind.i64.wrap ((q : Int) - ((x : Int) + 3)) = (r : Int) := by rw [show (q : Int) - ((x : Int) + 3) = (r : Int) by omega]; exact IntWalk.i64_in _ (by omega)
         have hrq : r < q := by omega
         have hx3 : x ≤ 1000 := by omega
         clear hx2 hr2
         have hba : Below wr.heap.size wr (wr.alloc (.cells #[.int .i64 16, .int .i64 (x : Int), .int .i64 2] 103)) := (Below.refl _ _).alloc (Nat.le_refl _) _
         have HO2 := Lib.hid (own_keep HO.out hba)
         have Hb2 := Lib.hid (Hb.out.trans (hba.mono Hb.out.size))
         have HZ : Hid (SlAt (wr.alloc (.cells #[.int .i64 16, .int .i64 (x : Int), .int .i64 2] 103)) (some ⟨wr.heap.size, 0, none⟩) [.int .i64 16, .int .i64 (x : Int), .int .i64 2]) := Lib.hid (SlAt.of_heap (heap_alloc_new _ _) rfl)
         clear hba
         go_wp2_with (at_builtin; refine wpList_app _ rfl (.tmp 106) (.tmp 110) _ rfl w.heap.size 103 _ 3 24 tyRun _ ac.length (ac.flatMap runC) rfl HO2.out (some ⟨wr.heap.size, 0, none⟩) 1 1 [.int .i64 16, .int .i64 (x : Int), .int .i64 2] rfl rfl HZ.out (by simp [Value.oneCell']) (by simp) (by unfold maxLen; omega) (by omega) Hb2.out.size ?_; intro v8 w8 hown8 hg8 _; have Hb8 := Lib.hid (own_below HO2.out hg8 Hb2.out Hb2.out.size); have Ho8 := Lib.hid hown8; clear hown8 hg8)
         go_roundw
         case rel => exact ⟨r, ac ++ [(16, x, 2)], by omega, by go_num, by rw [← Hac.out, Hf.out]; simp, by rw [snocC, List.length_append]; exact Ho8.out, Hb8.out⟩
         case measure => simp [intOf]; omega
        ·have h3' : ¬ (3 : Int) ≤ (q : Int) := by omega
         obtain ⟨r, hr2⟩ : ∃ r, r = q - 1 := ⟨_, rfl⟩
         have Hf : Hid (fillN v q = (v, 0, 0) :: fillN v r) := Lib.hid (by rw [hr2]; exact fillN_one v q (by omega) (by omega))
         have hs2 : IntKind.i64.wrap ((q : Int) - 1) = (r : Int) := by rw [show (q : Int) - 1 = (r : Int) by omega]; exact IntWalk.i64_in _ (by omega)
         have hrq : r < q := by omega
         clear hr2
         have hba : Below wr.heap.size wr (wr.alloc (.cells #[.int .i64 (v : Int), .int .i64 0, .int .i64 0] 103)) := (Below.refl _ _).alloc (Nat.le_refl _) _
         have HO2 := Lib.hid (own_keep HO.out hba)
         have Hb2 := Lib.hid (Hb.out.trans (hba.mono Hb.out.size))
         have HZ : Hid (SlAt (wr.alloc (.cells #[.int .i64 (v : Int), .int .i64 0, .int .i64 0] 103)) (some ⟨wr.heap.size, 0, none⟩) [.int .i64 (v : Int), .int .i64 0, .int .i64 0]) := Lib.hid (SlAt.of_heap (heap_alloc_new _ _) rfl)
         clear hba
         go_wp2_with (at_builtin; refine wpList_app _ rfl (.tmp 54) (.tmp 57) _ rfl w.heap.size 103 _ 3 24 tyRun _ ac.length (ac.flatMap runC) rfl HO2.out (some ⟨wr.heap.size, 0, none⟩) 1 1 [.int .i64 (v : Int), .int .i64 0, .int .i64 0] rfl rfl HZ.out (by simp [Value.oneCell']) (by simp) (by unfold maxLen; omega) (by omega) Hb2.out.size ?_; intro v8 w8 hown8 hg8 _; have Hb8 := Lib.hid (own_below HO2.out hg8 Hb2.out Hb2.out.size); have Ho8 := Lib.hid hown8; clear hown8 hg8)
         go_roundw
         case rel => exact ⟨r, ac ++ [(v, 0, 0)], by omega, by go_num, by rw [← Hac.out, Hf.out]; simp, by rw [snocC, List.length_append]; exact Ho8.out, Hb8.out⟩
         case measure => simp [intOf]; omega
       ·obtain rfl : q = 0 := by omega
        have Hac2 : Hid (ac ++ runsI l (k + 1) = runsP l) := Hac
        go_wp2_with fail
        go_roundw
        case rel => exact ⟨k + 1, ac, by omega, by go_num, Hac2.out, HO.out, Hb.out⟩
        case measure => simp [intOf]; omega
  ·obtain rfl : i = n := by omega
   have Hend : Hid (ac = runsP l) := Lib.hid (by have := Hac.out; rw [runsI_end l i (by rw [HM.out]; exact Nat.le_refl _), List.append_nil] at this; exact this)
   go_wp2_with fail
   go_ret
   exact ⟨⟨_, rfl, by rw [← Hend.out]; exact HO.out⟩, Hb.out⟩
end Go.Proofs.YthpdcnjaodjjmaaGreat.Blk

/- the head of a block whose codes are told is read; the plain law. No program in sight. -/
namespace Go.Proofs.YthpdcnjaodjjmaaGreat.Rt
open Go.Proofs.YthpdcnjaodjjmaaGreat.Bits Go.Proofs.YthpdcnjaodjjmaaGreat.Code Go.Proofs.YthpdcnjaodjjmaaGreat.Match Go.Proofs.YthpdcnjaodjjmaaGreat.SP Go.Proofs.YthpdcnjaodjjmaaGreat.Inf Go.Proofs.YthpdcnjaodjjmaaGreat.Blk
set_option linter.unusedVariables false

def runStep (l : List Nat) (x : Nat × Nat × Nat) : List Nat :=
 if x.1 = 16 then l ++ List.replicate (3 + x.2.1) (l.getLastD 0) else if x.1 = 17 then l ++ List.replicate (3 + x.2.1) 0 else if x.1 = 18 then l ++ List.replicate (11 + x.2.1) 0 else l ++ [x.1]
def RunFit (x : Nat × Nat × Nat) : Prop := (x.1 = 16 ∧ x.2.2 = 2 ∧ x.2.1 < 4) ∨ (x.1 = 17 ∧ x.2.2 = 3 ∧ x.2.1 < 8) ∨ (x.1 = 18 ∧ x.2.2 = 7 ∧ x.2.1 < 128) ∨ (x.1 ≤ 15 ∧ x.2.1 = 0 ∧ x.2.2 = 0)
theorem runStep_gt (l : List Nat) (x : Nat × Nat × Nat) : l.length < (runStep l x).length := by
 unfold runStep
 (repeat' split) <;> simp <;> omega
theorem runs_ge : ∀ (xs : List (Nat × Nat × Nat)) (l : List Nat), l.length ≤ (xs.foldl runStep l).length
 | [], l => Nat.le_refl _
 | x :: xs, l => Nat.le_trans (Nat.le_of_lt (runStep_gt l x)) (runs_ge xs _)
theorem again_ok (n : Nat) (l : List Nat) (v k : Nat) (h : l.length + k ≤ n) : againR n l v k = .ok (l ++ List.replicate k v) := by
 unfold againR; rw [if_neg (by omega)]
def runB (sz : List Nat) (x : Nat × Nat × Nat) : List Bool := codeB sz x.1 ++ numBits x.2.1 x.2.2
theorem step_has {row : List Bool} {sz l : List Nat} {p n : Nat} {x : Nat × Nat × Nat} (hc : Cd sz) (h : Has row p (runB sz x)) (h0 : sz.getD x.1 0 ≠ 0) (hx : RunFit x) (hl : l = [] → x.1 ≠ 16) (hn : (runStep l x).length ≤ n) :
  lenStep row sz n p l = .ok (p + (runB sz x).length, runStep l x) := by
 obtain ⟨a, b, c⟩ := x
 unfold runB at h ⊢
 unfold RunFit at hx
 unfold runStep at hn ⊢
 dsimp only at *
 have h1 := h.left
 have h2 := h.right
 rw [codeB_length] at h2
 rw [List.length_append, codeB_length, numBits_length]
 unfold lenStep
 rw [sym_has hc h1 h0, thn]
 dsimp only
 rcases hx with ⟨rfl, rfl, h3⟩ | ⟨rfl, rfl, h3⟩ | ⟨rfl, rfl, h3⟩ | ⟨h3, rfl, rfl⟩
 ·rw [if_pos rfl] at hn ⊢
  rw [if_pos rfl, if_neg (fun e => hl e rfl), get_has h2 h3, thn]
  dsimp only
  rw [List.length_append, List.length_replicate] at hn
  rw [again_ok n l _ _ (by omega), thn, Nat.add_assoc]
 ·rw [if_neg (by omega), if_pos rfl] at hn ⊢
  rw [if_neg (by omega), if_pos rfl, get_has h2 h3, thn]
  dsimp only
  rw [List.length_append, List.length_replicate] at hn
  rw [again_ok n l _ _ (by omega), thn, Nat.add_assoc]
 ·rw [if_neg (by omega), if_neg (by omega), if_pos rfl] at hn ⊢
  rw [if_neg (by omega), if_neg (by omega), if_pos rfl, get_has h2 h3, thn]
  dsimp only
  rw [List.length_append, List.length_replicate] at hn
  rw [again_ok n l _ _ (by omega), thn, Nat.add_assoc]
 ·rw [if_neg (by omega), if_neg (by omega), if_neg (by omega)] at hn ⊢
  rw [if_neg (by omega), if_neg (by omega), if_neg (by omega)]
  rw [List.length_append, List.length_singleton] at hn
  rw [again_ok n l _ _ (by omega), thn, Nat.add_zero]
  rfl
theorem lens_has {row : List Bool} {sz : List Nat} {n : Nat} (hc : Cd sz) : ∀ (xs : List (Nat × Nat × Nat)) (p : Nat) (l : List Nat) (fuel : Nat), Has row p (xs.flatMap (runB sz)) → (∀ x ∈ xs, sz.getD x.1 0 ≠ 0 ∧ RunFit x) → (l = [] → ∀ x, xs.head? = some x → x.1 ≠ 16) →
  (xs.foldl runStep l).length = n → n ≤ fuel + l.length → lenR row sz n fuel p l = .ok (p + (xs.flatMap (runB sz)).length, xs.foldl runStep l)
 | [], p, l, 0, h, hx, hh, hn, hf => by simp [lenR]
 | [], p, l, f + 1, h, hx, hh, hn, hf => by
  have : l.length = n := hn
  unfold lenR
  rw [if_pos (by omega)]
  simp
 | x :: xs, p, l, 0, h, hx, hh, hn, hf => by
  rw [List.foldl_cons] at hn
  have h1 := runStep_gt l x
  have h2 := runs_ge xs (runStep l x)
  omega
 | x :: xs, p, l, f + 1, h, hx, hh, hn, hf => by
  rw [List.foldl_cons] at hn ⊢
  rw [List.flatMap_cons] at h ⊢
  have h1 := runStep_gt l x
  have h2 := runs_ge xs (runStep l x)
  obtain ⟨h3, h4⟩ := hx x List.mem_cons_self
  unfold lenR
  rw [if_neg (by omega), step_has hc h.left h3 h4 (fun e => hh e x rfl) (by omega), thn]
  dsimp only
  rw [lens_has hc xs _ _ f h.right (fun y hy => hx y (List.mem_cons_of_mem _ hy)) (fun e => by rw [e] at h1; simp at h1) hn (by omega), List.length_append, Nat.add_assoc]
theorem getLastD_rep (l : List Nat) (v k : Nat) (h : 0 < k) : (l ++ List.replicate k v).getLastD 0 = v := by
 obtain ⟨j, rfl⟩ : ∃ j, k = j + 1 := ⟨k - 1, by omega⟩
 rw [List.replicate_succ', ← List.append_assoc]
 simp
theorem fill_said (v : Nat) (hv : v ≤ 15) : ∀ (f n : Nat) (l : List Nat), n ≤ f → (v ≠ 0 → l.getLastD 0 = v) → (fillR v f n).foldl runStep l = l ++ List.replicate n v
 | 0, n, l, h, _ => by
  obtain rfl : n = 0 := by omega
  simp [fillR]
 | f + 1, n, l, h, hl => by
  unfold fillR
  by_cases h0 : n = 0
  ·rw [if_pos h0, h0]; simp
  ·rw [if_neg h0]
   by_cases h1 : v = 0 ∧ 11 ≤ n
   ·rw [if_pos h1, List.foldl_cons]
    obtain ⟨rfl, h1⟩ := h1
    have e : runStep l (18, min n 138 - 11, 7) = l ++ List.replicate (min n 138) 0 := by
     unfold runStep
     rw [if_neg (by dsimp only; omega), if_neg (by dsimp only; omega), if_pos rfl]
     dsimp only
     rw [show 11 + (min n 138 - 11) = min n 138 by omega]
    rw [e, fill_said 0 (by omega) f _ _ (by omega) (fun h => absurd rfl h), List.append_assoc, List.replicate_append_replicate]
    congr 2; omega
   ·rw [if_neg h1]
    by_cases h2 : v = 0 ∧ 3 ≤ n
    ·rw [if_pos h2, List.foldl_cons]
     obtain ⟨rfl, h2⟩ := h2
     have e : runStep l (17, min n 10 - 3, 3) = l ++ List.replicate (min n 10) 0 := by
      unfold runStep
      rw [if_neg (by dsimp only; omega), if_pos rfl]
      dsimp only
      rw [show 3 + (min n 10 - 3) = min n 10 by omega]
     rw [e, fill_said 0 (by omega) f _ _ (by omega) (fun h => absurd rfl h), List.append_assoc, List.replicate_append_replicate]
     congr 2; omega
    ·rw [if_neg h2]
     by_cases h3 : v ≠ 0 ∧ 3 ≤ n
     ·rw [if_pos h3, List.foldl_cons]
      have e : runStep l (16, min n 6 - 3, 2) = l ++ List.replicate (min n 6) v := by
       unfold runStep
       rw [if_pos rfl]
       dsimp only
       rw [show 3 + (min n 6 - 3) = min n 6 by omega, hl h3.1]
      rw [e, fill_said v hv f _ _ (by omega) (fun _ => getLastD_rep l v _ (by omega)), List.append_assoc, List.replicate_append_replicate]
      congr 2; omega
     ·rw [if_neg h3, List.foldl_cons]
      have e : runStep l (v, 0, 0) = l ++ List.replicate 1 v := by
       unfold runStep
       dsimp only
       rw [if_neg (by omega), if_neg (by omega), if_neg (by omega)]; rfl
      rw [e, fill_said v hv f _ _ (by omega) (fun _ => getLastD_rep l v 1 (by omega)), List.append_assoc, List.replicate_append_replicate]
      congr 2; omega
theorem one_said (v n : Nat) (hv : v ≤ 15) (hn : 1 ≤ n) (l : List Nat) : (oneRun v n).foldl runStep l = l ++ List.replicate n v := by
 unfold oneRun
 by_cases h : v = 0
 ·subst h
  rw [if_pos rfl, fill_said 0 (by omega) n n l (Nat.le_refl _) (fun h => absurd rfl h)]
 ·rw [if_neg h, List.foldl_cons]
  have e : runStep l (v, 0, 0) = l ++ List.replicate 1 v := by
   unfold runStep
   dsimp only
   rw [if_neg (by omega), if_neg (by omega), if_neg (by omega)]; rfl
  rw [e, fill_said v hv _ _ _ (Nat.le_refl _) (fun _ => getLastD_rep l v 1 (by omega)), List.append_assoc, List.replicate_append_replicate]
  congr 2; omega
theorem tw_rep (l : List Nat) (v : Nat) : l.takeWhile (fun x => x == v) = List.replicate (l.takeWhile (fun x => x == v)).length v := by
 refine List.eq_replicate_iff.2 ⟨rfl, fun x hx => ?_⟩
 have := List.all_takeWhile (p := fun x => x == v) (l := l)
 rw [List.all_eq_true] at this
 simpa using this x hx
theorem take_run (l : List Nat) (i : Nat) (h : i < l.length) : l.take (i + Blk.runN l i) = l.take i ++ List.replicate (Blk.runN l i) (l.getD i 0) := by
 have e : l.getD i 0 = l[i] := by rw [List.getD_eq_getElem?_getD, List.getElem?_eq_getElem h]; rfl
 unfold Blk.runN
 rw [e, List.take_add, List.drop_eq_getElem_cons h, Nat.add_comm 1, List.take_succ_cons, List.replicate_succ]
 congr 2
 have hp := List.takeWhile_prefix (l := l.drop (i + 1)) fun x => x == l[i]
 rw [← List.prefix_iff_eq_take.1 hp]
 exact tw_rep _ _
theorem runs_said (l : List Nat) (hl : ∀ y ∈ l, y ≤ 15) : ∀ (f i : Nat), l.length ≤ f + i → i ≤ l.length → (runsF l f i).foldl runStep (l.take i) = l
 | 0, i, h, h2 => by
  obtain rfl : i = l.length := by omega
  simp [runsF]
 | f + 1, i, h, h2 => by
  unfold runsF
  by_cases h0 : l.length ≤ i
  ·rw [if_pos h0]
   obtain rfl : i = l.length := by omega
   simp
  ·have hr := runN_le l i (by omega)
   have hv : l.getD i 0 ≤ 15 := by
    rw [List.getD_eq_getElem?_getD, List.getElem?_eq_getElem (by omega : i < l.length)]
    exact hl _ (List.getElem_mem _)
   rw [if_neg h0, List.foldl_append, one_said _ _ hv hr.1, ← take_run l i (by omega), runs_said l hl f _ (by omega) hr.2]
theorem runs_all (l : List Nat) (hl : ∀ y ∈ l, y ≤ 15) : (runsP l).foldl runStep [] = l := by
 have := runs_said l hl l.length 0 (by omega) (by omega)
 rw [List.take_zero] at this
 exact this
theorem fillR_fit (v : Nat) (hv : v ≤ 15) : ∀ (f n : Nat), ∀ x ∈ fillR v f n, RunFit x
 | 0, n, x, h => by simp [fillR] at h
 | f + 1, n, x, h => by
  unfold fillR at h
  by_cases h0 : n = 0
  ·rw [if_pos h0] at h; cases h
  ·rw [if_neg h0] at h
   by_cases h1 : v = 0 ∧ 11 ≤ n
   ·rw [if_pos h1] at h
    rcases List.mem_cons.1 h with rfl | h
    ·(unfold RunFit; dsimp only; omega)
    ·exact fillR_fit v hv f _ x h
   ·rw [if_neg h1] at h
    by_cases h2 : v = 0 ∧ 3 ≤ n
    ·rw [if_pos h2] at h
     rcases List.mem_cons.1 h with rfl | h
     ·(unfold RunFit; dsimp only; omega)
     ·exact fillR_fit v hv f _ x h
    ·rw [if_neg h2] at h
     by_cases h3 : v ≠ 0 ∧ 3 ≤ n
     ·rw [if_pos h3] at h
      rcases List.mem_cons.1 h with rfl | h
      ·(unfold RunFit; dsimp only; omega)
      ·exact fillR_fit v hv f _ x h
     ·rw [if_neg h3] at h
      rcases List.mem_cons.1 h with rfl | h
      ·(unfold RunFit; dsimp only; omega)
      ·exact fillR_fit v hv f _ x h
theorem runsF_fit (l : List Nat) (hl : ∀ y ∈ l, y ≤ 15) : ∀ (f i : Nat), ∀ x ∈ runsF l f i, RunFit x
 | 0, i, x, h => by simp [runsF] at h
 | f + 1, i, x, h => by
  unfold runsF at h
  by_cases h0 : l.length ≤ i
  ·rw [if_pos h0] at h; cases h
  ·rw [if_neg h0] at h
   have hv : l.getD i 0 ≤ 15 := by
    rw [List.getD_eq_getElem?_getD, List.getElem?_eq_getElem (by omega : i < l.length)]
    exact hl _ (List.getElem_mem _)
   rcases List.mem_append.1 h with h | h
   ·unfold oneRun at h
    by_cases h1 : l.getD i 0 = 0
    ·rw [if_pos h1] at h; exact fillR_fit 0 (by omega) _ _ x h
    ·rw [if_neg h1] at h
     rcases List.mem_cons.1 h with rfl | h
     ·(unfold RunFit; dsimp only; omega)
     ·exact fillR_fit _ hv _ _ x h
   ·exact runsF_fit l hl f _ x h
theorem run_head (v n : Nat) (hv : v ≤ 15) (hn : 1 ≤ n) (r : List (Nat × Nat × Nat)) : ∀ x, (oneRun v n ++ r).head? = some x → x.1 ≠ 16 := by
 intro x hx
 unfold oneRun at hx
 by_cases h : v = 0
 ·subst h
  rw [if_pos rfl] at hx
  obtain ⟨m, rfl⟩ : ∃ m, n = m + 1 := ⟨n - 1, by omega⟩
  unfold fillR at hx
  rw [if_neg (by omega)] at hx
  by_cases h1 : (0 : Nat) = 0 ∧ 11 ≤ m + 1
  ·rw [if_pos h1, List.cons_append, List.head?_cons] at hx
   injection hx with hx
   rw [← hx]; dsimp only; omega
  ·rw [if_neg h1] at hx
   by_cases h2 : (0 : Nat) = 0 ∧ 3 ≤ m + 1
   ·rw [if_pos h2, List.cons_append, List.head?_cons] at hx
    injection hx with hx
    rw [← hx]; dsimp only; omega
   ·rw [if_neg h2, if_neg (by omega), List.cons_append, List.head?_cons] at hx
    injection hx with hx
    rw [← hx]; dsimp only; omega
 ·rw [if_neg h, List.cons_append, List.head?_cons] at hx
  injection hx with hx
  rw [← hx]; dsimp only; omega
theorem runs_head (l : List Nat) (hl : ∀ y ∈ l, y ≤ 15) : ∀ x, (runsP l).head? = some x → x.1 ≠ 16 := by
 intro x hx
 rw [runsI_all] at hx
 rcases Nat.eq_zero_or_pos l.length with h | h
 ·rw [runsI_end l 0 (by omega)] at hx; cases hx
 ·rw [runsI_step l 0 h] at hx
  refine run_head _ _ ?_ (runN_le l 0 h).1 _ x hx
  rw [List.getD_eq_getElem?_getD, List.getElem?_eq_getElem h]
  exact hl _ (List.getElem_mem _)
theorem bump_get (l : List Nat) (i j : Nat) : (bump l i).getD j 0 = l.getD j 0 + if i = j ∧ j < l.length then 1 else 0 := by
 unfold bump
 simp only [List.getD_eq_getElem?_getD, List.getElem?_set]
 by_cases h : i = j
 ·subst h
  by_cases hl : i < l.length
  ·rw [if_pos rfl, if_pos hl, if_pos ⟨rfl, hl⟩]; rfl
  ·rw [if_pos rfl, if_neg hl, if_neg (fun h => hl h.2), List.getElem?_eq_none (by omega)]; rfl
 ·rw [if_neg h, if_neg (fun hh => h hh.1)]; rfl
theorem many_fold : ∀ (rs : List (Nat × Nat × Nat)) (m : List Nat) (j : Nat), m.length = 19 → (rs.foldl (fun m x => bump m x.1) m).length = 19 ∧ m.getD j 0 ≤ (rs.foldl (fun m x => bump m x.1) m).getD j 0 ∧ ((∃ x ∈ rs, x.1 = j) → j < 19 → 0 < (rs.foldl (fun m x => bump m x.1) m).getD j 0)
 | [], m, j, h => ⟨h, Nat.le_refl _, fun ⟨x, hx, _⟩ => by cases hx⟩
 | x :: rs, m, j, h => by
  obtain ⟨h1, h2, h3⟩ := many_fold rs (bump m x.1) j (by rw [bump_len]; exact h)
  rw [bump_get] at h2
  refine ⟨h1, ?_, ?_⟩
  ·rw [List.foldl_cons]; omega
  ·rintro ⟨y, hy, hj⟩ hlt
   rw [List.foldl_cons]
   rcases List.mem_cons.1 hy with rfl | hy
   ·rw [if_pos ⟨hj, by omega⟩] at h2; omega
   ·exact h3 ⟨y, hy, hj⟩ hlt
theorem many_len (rs : List (Nat × Nat × Nat)) : (manyP rs).length = 19 := (many_fold rs _ 0 List.length_replicate).1
theorem many_pos (rs : List (Nat × Nat × Nat)) (x : Nat × Nat × Nat) (h : x ∈ rs) (h19 : x.1 < 19) : (manyP rs).getD x.1 0 ≠ 0 := by
 have := (many_fold rs (List.replicate 19 0) x.1 List.length_replicate).2.2 ⟨x, h, rfl⟩ h19
 unfold manyP; omega
def sizesP (rs : List (Nat × Nat × Nat)) : List Nat := lengthsP (manyP rs) 7
theorem sizes_fine (rs : List (Nat × Nat × Nat)) : (sizesP rs).length = 19 ∧ Cd (sizesP rs) ∧ (∀ x ∈ sizesP rs, x ≤ 7) ∧ ∀ i, (sizesP rs).getD i 0 = 0 ↔ (manyP rs).getD i 0 = 0 := by
 have h := Weigh.ones_le (manyP rs)
 rw [many_len] at h
 obtain ⟨h1, h2, h3, h4⟩ := lens_fine (manyP rs) 7 (by omega) (by omega) (by have : (2 : Nat) ^ 7 = 128 := rfl; omega)
 exact ⟨h1.trans (many_len rs), h2, h3, h4⟩
theorem sizes_has {row : List Bool} {v : Nat → Nat} (hv : ∀ k, v k < 8) : ∀ (ks : List Nat) (p : Nat) (s : List Nat), Has row p ((ks.map v).flatMap fun n => numBits n 3) → sizesR row ks p s = .ok (p + 3 * ks.length, ks.foldl (fun s k => s.set k (v k)) s)
 | [], p, s, h => rfl
 | k :: ks, p, s, h => by
  rw [List.map_cons, List.flatMap_cons] at h
  have h2 := h.right
  rw [numBits_length] at h2
  show (getR row p 3).then_ _ = _
  rw [get_has h.left (hv k), thn]
  dsimp only
  rw [sizes_has hv ks _ _ h2, List.foldl_cons, List.length_cons]
  congr 2; omega
theorem set_get (l : List Nat) (i j x : Nat) (h : i < l.length) : (l.set i x).getD j 0 = if i = j then x else l.getD j 0 := by
 simp only [List.getD_eq_getElem?_getD, List.getElem?_set]
 by_cases e : i = j
 ·subst e; rw [if_pos rfl, if_pos h, if_pos rfl]; rfl
 ·rw [if_neg e, if_neg e]
theorem fold_set (v : Nat → Nat) : ∀ (ks s : List Nat) (j : Nat), (∀ k ∈ ks, k < s.length) → (ks.foldl (fun s k => s.set k (v k)) s).length = s.length ∧ (ks.foldl (fun s k => s.set k (v k)) s).getD j 0 = if j ∈ ks then v j else s.getD j 0
 | [], s, j, _ => ⟨rfl, by rw [if_neg (by simp)]; rfl⟩
 | k :: ks, s, j, h => by
  obtain ⟨h1, h2⟩ := fold_set v ks (s.set k (v k)) j (fun x hx => by rw [List.length_set]; exact h x (List.mem_cons_of_mem _ hx))
  rw [List.foldl_cons]
  refine ⟨by rw [h1, List.length_set], ?_⟩
  rw [h2, set_get _ _ _ _ (h k List.mem_cons_self)]
  by_cases e : k = j
  ·subst e
   rw [if_pos rfl, if_pos (List.mem_cons_self)]
   split <;> rfl
  ·rw [if_neg e]
   by_cases hj : j ∈ ks
   ·rw [if_pos hj, if_pos (List.mem_cons_of_mem _ hj)]
   ·rw [if_neg hj, if_neg (fun hm => by rcases List.mem_cons.1 hm with rfl | hm; exact e rfl; exact hj hm)]
theorem ext_getD (a b : List Nat) (h : a.length = b.length) (hg : ∀ j, a.getD j 0 = b.getD j 0) : a = b := by
 apply List.ext_getElem h
 intro i h1 h2
 have := hg i
 rw [List.getD_eq_getElem?_getD, List.getD_eq_getElem?_getD, List.getElem?_eq_getElem h1, List.getElem?_eq_getElem h2] at this
 exact this
theorem order_all : ∀ j < 19, ∃ q < 19, orderL.getD q 0 = j := by decide
theorem order_lt : ∀ k ∈ orderL, k < 19 := by decide
theorem told_all (S : List Nat) (h : S.length = 19) : (orderL.take (trimP (orderL.map fun k => S.getD k 0) 4).length).foldl (fun s k => s.set k (S.getD k 0)) (List.replicate 19 0) = S := by
 have hlen : (trimP (orderL.map fun k => S.getD k 0) 4).length = trimN (orderL.map fun k => S.getD k 0) 4 19 := by
  unfold trimP
  rw [List.length_take]
  have := trimN_le (orderL.map fun k => S.getD k 0) 4 19
  have e : (orderL.map fun k => S.getD k 0).length = 19 := by rw [List.length_map]; rfl
  rw [e]; omega
 have hz := trimN_zero (orderL.map fun k => S.getD k 0) 4 19
 rw [hlen]
 generalize trimN (orderL.map fun k => S.getD k 0) 4 19 = m at *
 have hf := fun j => fold_set (fun k => S.getD k 0) (orderL.take m) (List.replicate 19 0) j (fun k hk => by rw [List.length_replicate]; exact order_lt k (List.mem_of_mem_take hk))
 refine ext_getD _ _ ?_ (fun j => ?_)
 ·rw [(hf 0).1, List.length_replicate, h]
 ·rw [(hf j).2]
  by_cases hj : j ∈ orderL.take m
  ·rw [if_pos hj]
  ·rw [if_neg hj, rep_getD]
   by_cases h19 : j < 19
   ·obtain ⟨q, hq, hqj⟩ := order_all j h19
    have hqm : m ≤ q := by
     rcases Nat.lt_or_ge q m with h1 | h1
     ·exfalso
      apply hj
      rw [← hqj, List.getD_eq_getElem?_getD, List.getElem?_eq_getElem (show q < orderL.length from hq)]
      exact List.mem_take_iff_getElem.2 ⟨q, by show q < min m 19; omega, rfl⟩
     ·exact h1
    have := hz q hqm hq
    rw [List.getD_eq_getElem?_getD, List.getElem?_map, List.getElem?_eq_getElem (show q < orderL.length from hq)] at this
    rw [List.getD_eq_getElem?_getD, List.getElem?_eq_getElem (show q < orderL.length from hq)] at hqj
    have e : orderL[q]'(show q < orderL.length from hq) = j := hqj
    rw [e] at this
    exact this.symm
   ·rw [List.getD_eq_getElem?_getD, List.getElem?_eq_none (by omega)]; rfl
theorem headB_eq (lit far : List Nat) : headB lit far = numBits ((trimP lit 257).length - 257) 5 ++ numBits ((trimP far 1).length - 1) 5 ++
 numBits ((trimP (orderL.map fun k => (sizesP (runsP (trimP lit 257 ++ trimP far 1))).getD k 0) 4).length - 4) 4 ++
 (trimP (orderL.map fun k => (sizesP (runsP (trimP lit 257 ++ trimP far 1))).getD k 0) 4).flatMap (fun n => numBits n 3) ++
 (runsP (trimP lit 257 ++ trimP far 1)).flatMap (runB (sizesP (runsP (trimP lit 257 ++ trimP far 1)))) := rfl
theorem head_has {row : List Bool} {p : Nat} {lit far : List Nat} (hlit : Cd lit) (hfar : Cd far) (l1 : lit.length = 286) (l2 : far.length = 30) (he : lit.getD 256 0 ≠ 0) (h : Has row p (headB lit far)) :
  headR row p = .ok (p + (headB lit far).length, trimP lit 257, trimP far 1) := by
 rw [headB_eq] at h ⊢
 have tA := trim_len lit 257 (by omega)
 have tB := trim_len far 1 (by omega)
 have cA := trim_cd lit 257 hlit
 have cB := trim_cd far 1 hfar
 have eA := trim_getD lit 257 256
 rw [l1] at tA
 rw [l2] at tB
 generalize trimP lit 257 = A at *
 generalize trimP far 1 = B at *
 have h15 : ∀ y ∈ A ++ B, y ≤ 15 := fun y hy => by
  rcases List.mem_append.1 hy with hy | hy
  ·exact cA.le y hy
  ·exact cB.le y hy
 have hall := runs_all (A ++ B) h15
 have hhead := runs_head (A ++ B) h15
 have hfit : ∀ x ∈ runsP (A ++ B), RunFit x := runsF_fit (A ++ B) h15 _ _
 have hok := runs_ok (A ++ B) h15
 generalize runsP (A ++ B) = R at *
 obtain ⟨s1, s2, s3, s4⟩ := sizes_fine R
 have hmany := fun x hx => many_pos R x hx (hok x hx).1
 generalize sizesP R = S at *
 have hv : ∀ k, S.getD k 0 < 8 := fun k => by
  rw [List.getD_eq_getElem?_getD]
  rcases Nat.lt_or_ge k S.length with h1 | h1
  ·rw [List.getElem?_eq_getElem h1]; have := s3 _ (List.getElem_mem h1); show S[k] < 8; omega
  ·rw [List.getElem?_eq_none h1]; show 0 < 8; omega
 have htold := told_all S s1
 have hTle : 4 ≤ (trimP (orderL.map fun k => S.getD k 0) 4).length ∧ (trimP (orderL.map fun k => S.getD k 0) 4).length ≤ 19 := by
  have := trim_len (orderL.map fun k => S.getD k 0) 4 (by rw [List.length_map]; decide)
  rw [List.length_map] at this
  exact this
 have hT : trimP (orderL.map fun k => S.getD k 0) 4 = (orderL.take (trimP (orderL.map fun k => S.getD k 0) 4).length).map fun k => S.getD k 0 := by
  rw [List.map_take]
  conv => lhs; unfold trimP
  congr 1
  unfold trimP
  rw [List.length_take]
  have := trimN_le (orderL.map fun k => S.getD k 0) 4 (orderL.map fun k => S.getD k 0).length
  omega
 have a1 := h.left.left.left.left
 have a2 := h.left.left.left.right
 have a3 := h.left.left.right
 have a4 := h.left.right
 have a5 := h.right
 rw [hT] at a4
 simp only [List.length_append, numBits_length] at a2 a3 a4 a5 ⊢
 have hfl : ((trimP (orderL.map fun k => S.getD k 0) 4).flatMap fun n => numBits n 3).length = 3 * (trimP (orderL.map fun k => S.getD k 0) 4).length := by
  generalize trimP (orderL.map fun k => S.getD k 0) 4 = T
  induction T with
  | nil => rfl
  | cons a T ih => rw [List.flatMap_cons, List.length_append, ih, numBits_length, List.length_cons]; omega
 rw [hfl] at a5 ⊢
 generalize (trimP (orderL.map fun k => S.getD k 0) 4).length = m at *
 have p5 : (2 : Nat) ^ 5 = 32 := rfl
 have p4 : (2 : Nat) ^ 4 = 16 := rfl
 unfold headR
 rw [get_has a1 (by omega), thn]
 dsimp only
 rw [get_has a2 (by omega), thn]
 dsimp only
 rw [get_has (by rw [Nat.add_assoc]; exact a3) (by omega), thn]
 dsimp only
 rw [if_neg (by omega), show A.length - 257 + 257 = A.length by omega, show B.length - 1 + 1 = B.length by omega, show m - 4 + 4 = m by omega]
 have hor : (orderL.take m).length = m := by rw [List.length_take]; show min m 19 = m; omega
 rw [sizes_has hv (orderL.take m) _ _ (by rw [Nat.add_assoc, Nat.add_assoc]; rw [Nat.add_assoc] at a4; exact a4), thn]
 dsimp only
 rw [htold, table_ok S s2 (by omega), thn]
 have hlen : (R.foldl runStep []).length = A.length + B.length := by rw [hall, List.length_append]
 rw [lens_has s2 R _ [] (A.length + B.length) (by rw [hor]; simp only [Nat.add_assoc] at a5 ⊢; exact a5) (fun x hx => ⟨fun h0 => hmany x hx ((s4 x.1).1 h0), hfit x hx⟩) (fun _ => hhead) hlen (by simp), thn, hall]
 dsimp only
 have e256 : (A ++ B).getD 256 0 = A.getD 256 0 := by
  rw [List.getD_eq_getElem?_getD, List.getD_eq_getElem?_getD, List.getElem?_append_left (by omega)]
 rw [e256, eA, if_neg he, List.take_left, List.drop_left, table_ok A cA (by omega), thn, table_ok B cB (by omega), thn]
 rw [hor]
 simp only [Nat.add_assoc]
end Go.Proofs.YthpdcnjaodjjmaaGreat.Rt

/- package inflate: what reading ends with; the reader; a number of bits, a symbol, a byte behind what is unpacked, a table. -/
namespace Go.Proofs.YthpdcnjaodjjmaaGreat.Inf
open Go Go.RowKit Go.Proofs.YthpdcnjaodjjmaaGreat Go.Proofs.YthpdcnjaodjjmaaGreat.Bits Go.Proofs.YthpdcnjaodjjmaaGreat.Code
set_option linter.unusedVariables false

def stopE (x : Int) : Ending := .panicked [{ v := .iface 80 (.agg #[.int .i64 x]), recovered := false }]
set_option maxRecDepth 100000 in
theorem fail_any (x : Int) (w : World) : Calls Tryz.prog 71 #[.int .i64 x] w fun e w' => e = stopE x ∧ w' = w := by
 go_enter Tryz.func71, Tryz.ntmps71
 go_wp2_with fail
 exact ⟨rfl, rfl, rfl⟩
def infT : List TypeId := [86, 122, 5]
structure InAt_ (w : World) (base : Nat) (A : Option Addr) (n : Nat) (xs : List UInt8) : Prop where
 len : xs.length = n
 few : n ≤ 1099511627776
 at_ : ByAt w A xs
 low : ∀ b o, A = some ⟨b, o, none⟩ → 0 < n → b < base
theorem InAt_.keeps {w w' : World} {base : Nat} {T : List TypeId} {A : Option Addr} {n : Nat} {xs : List UInt8} (h : InAt_ w base A n xs) (hk : Keeps base T w w') : InAt_ w' base A n xs :=
 ⟨h.len, h.few, SlAt.keepsB h.at_ hk (fun b o e hp => h.low b o e (by rw [← h.len]; simpa using hp)), h.low⟩
structure RdAt (w : World) (base g q : Nat) (A : Option Addr) (n c pos : Nat) (out : List UInt8) (ks : List Nat) : Prop where
 gle : base ≤ g
 qle : base ≤ q
 ple : pos ≤ 8 * n
 few : out.length ≤ 3000
 blk : ∃ vo vk, Blk w g 86 #[.pointer (some ⟨q, 0, none⟩), vo, vk] ∧ w.ownsRow base 5 1 vo out.length (out.map u8v) ∧ w.ownsRow base 3 1 vk ks.length (ks.map natV)
 src : SrcAt w q A n c pos
theorem RdAt.below {w w' : World} {base g q : Nat} {A : Option Addr} {n c pos : Nat} {out : List UInt8} {ks : List Nat} (h : RdAt w base g q A n c pos out ks) (hb : Below w.heap.size w w') : RdAt w' base g q A n c pos out ks := by
 obtain ⟨h1, h2, h3, h8, ⟨vo, vk, h4, h5, h6⟩, h7⟩ := h
 exact ⟨h1, h2, h3, h8, ⟨vo, vk, h4.below hb h4.lt, own_keep h5 hb, own_keep h6 hb⟩, Blk.below h7 hb h7.lt⟩
def RPost {α : Type} (r : Rd α) (ok : α → Ending → World → Prop) (e : Ending) (w' : World) : Prop := match r with | .bad x => e = stopE x | .ok a => ok a e w'
theorem kT {base q : Nat} {w w' : World} (hk : Keeps q srcT w w') (hq : base ≤ q) : Keeps base infT w w' :=
 hk.mono hq (fun t ht => by simp only [srcT, List.mem_singleton] at ht; subst ht; simp [infT])
set_option maxRecDepth 100000 in
set_option maxHeartbeats 1600000 in
theorem get_r (base g q : Nat) (A : Option Addr) (n c pos size : Nat) (xs : List UInt8) (out : List UInt8) (ks : List Nat) (w : World) (h : RdAt w base g q A n c pos out ks) (hi : InAt_ w base A n xs) (hs : size ≤ 61) :
  Calls Tryz.prog 66 #[.pointer (some ⟨g, 0, none⟩), .int .i64 (size : Int)] w fun e w' =>
   RPost (getR (bitsL xs) pos size) (fun a e w' => e = .returned (.int .i64 (a.1 : Int)) ∧ RdAt w' base g q A n c a.2 out ks) e w' ∧ Keeps base infT w w' := by
 have HI := Lib.hid hi
 have Hrow : Hid ((bitsL xs).length = 8 * n) := Lib.hid (by rw [bitsL_length, hi.len])
 have HG := Lib.hid (get_any q A n c pos size xs w h.src hi.len hi.at_ hs h.ple hi.few (fun b o e hp => by have := hi.low b o e hp; have := h.qle; omega))
 have HR := Lib.hid h
 obtain ⟨hg, hq, hp, hfew, ⟨vo, vk, hb, ho, hk⟩, hsrc⟩ := h
 have b0 : w.cell? ⟨g, 0, none⟩ = some (.pointer (some ⟨q, 0, none⟩)) := by rw [hb.cell]; rfl
 have HB := Lib.hid hb
 have HO := Lib.hid ho
 have HK := Lib.hid hk
 clear hi hb ho hk hsrc
 go_enter Tryz.func66, Tryz.ntmps66
 go_wp2_with fail
 refine (HG.out).mono ?_
 rintro e w2 ⟨hcase, hk2⟩
 have HK2 := Lib.hid hk2
 clear hk2 b0 HG
 rcases hcase with ⟨h1, rfl, hs2⟩ | ⟨h1, rfl, _⟩
 ·have HS2 := Lib.hid hs2
  clear hs2
  go_wp2_with fail
  go_ret
  refine ⟨?_, kT HK2.out hq⟩
  unfold RPost getR
  rw [Hrow.out, if_pos h1]
  exact ⟨rfl, hg, hq, h1, hfew, ⟨vo, vk, HK2.out.blk HB.out (by decide), HK2.out.own HO.out (by decide), HK2.out.own HK.out (by decide)⟩, HS2.out⟩
 ·go_wp2_with fail
  refine (fail_any 7 _).mono ?_
  rintro e w3 ⟨rfl, rfl⟩
  unfold stopE
  go_wp2_with fail
  refine ⟨rfl, ?_, kT HK2.out hq⟩
  unfold RPost getR
  rw [Hrow.out, if_neg (by omega)]
  rfl
set_option maxRecDepth 100000 in
set_option maxHeartbeats 1600000 in
theorem sym_r (base g q tp : Nat) (A : Option Addr) (n c pos : Nat) (xs : List UInt8) (out : List UInt8) (ks ls : List Nat) (w : World) (h : RdAt w base g q A n c pos out ks) (hi : InAt_ w base A n xs)
  (hT : TabAt w base tp ls) (hl : ∀ x ∈ ls, x ≤ 15) (hr : room ls ≤ 32768) (hlen : ls.length ≤ 288) :
  Calls Tryz.prog 94 #[.pointer (some ⟨g, 0, none⟩), .pointer (some ⟨tp, 0, none⟩)] w fun e w' =>
   RPost (symR (bitsL xs) ls pos) (fun a e w' => e = .returned (.int .i64 (a.1 : Int)) ∧ RdAt w' base g q A n c a.2 out ks) e w' ∧ Keeps base infT w w' := by
 have HG := Lib.hid (tread_any base tp q A n c pos xs ls w hT h.src hi.len hi.at_ h.ple hi.few (fun b o e hp => by have := hi.low b o e hp; have := h.qle; omega) hl hr hlen)
 obtain ⟨hg, hq, hp, hfew, ⟨vo, vk, hb, ho, hk⟩, hsrc⟩ := h
 have b0 : w.cell? ⟨g, 0, none⟩ = some (.pointer (some ⟨q, 0, none⟩)) := by rw [hb.cell]; rfl
 have HB := Lib.hid hb
 have HO := Lib.hid ho
 have HK := Lib.hid hk
 clear hi hb ho hk hsrc hT hl hr hlen
 go_enter Tryz.func94, Tryz.ntmps94
 go_wp2_with fail
 refine (HG.out).mono ?_
 rintro e w2 ⟨⟨k, m, z, hn, rfl, hz⟩, hk2⟩
 have HK2 := Lib.hid hk2
 have HZ := Lib.hid hz
 have HN := Lib.hid hn
 clear hk2 hz hn b0 HG
 by_cases h0 : z = 0
 ·subst h0
  go_wp2_with fail
  go_ret
  refine ⟨?_, kT HK2.out hq⟩
  unfold RPost symR
  rw [HN.out]
  exact ⟨rfl, hg, hq, (HZ.out (by simp)).2, hfew, ⟨vo, vk, HK2.out.blk HB.out (by decide), HK2.out.own HO.out (by decide), HK2.out.own HK.out (by decide)⟩, (HZ.out (by simp)).1⟩
 ·have hz1 : (z != 0) = true := by simpa using h0
  go_wp2_with fail
  refine (fail_any z _).mono ?_
  rintro e w3 ⟨rfl, rfl⟩
  unfold stopE
  go_wp2_with fail
  refine ⟨rfl, ?_, kT HK2.out hq⟩
  unfold RPost symR
  rw [HN.out, if_neg (show ¬ (k, m, z).2.2 = 0 from h0)]
  rfl
theorem ty8' : SliceTy Tryz.prog 24 5 (.int .u8 0) 1 1 := ⟨Tryz.underlying24, by kernel_rfl, rfl, by omega⟩
set_option maxRecDepth 100000 in
set_option maxHeartbeats 1600000 in
theorem put_r (base g q : Nat) (A : Option Addr) (n c pos : Nat) (x : UInt8) (out : List UInt8) (ks : List Nat) (w : World) (h : RdAt w base g q A n c pos out ks) :
  Calls Tryz.prog 93 #[.pointer (some ⟨g, 0, none⟩), u8v x] w fun e w' =>
   RPost (pushR out x) (fun o e w' => e = .returned (.tuple #[]) ∧ RdAt w' base g q A n c pos o ks) e w' ∧ Keeps base infT w w' := by
 obtain ⟨hg, hq, hp, hfew, ⟨vo, vk, hb, ho, hk⟩, hsrc⟩ := h
 obtain ⟨Ao, co, rfl, _⟩ := own_slat ho
 obtain ⟨ol, hol⟩ : ∃ ol, ol = out.length := ⟨_, rfl⟩
 have hout := hfew
 rw [← hol] at hb ho hout
 have hbw : base ≤ w.heap.size := by have := hb.lt; omega
 have Hol := Lib.hid hol
 have b1 : w.cell? ⟨g, 1, none⟩ = some (.slice Ao ol co) := by rw [hb.cell]; rfl
 have f1 := hb.frozen 1
 have hlt := hb.lt
 have HB := Lib.hid hb
 have HO := Lib.hid ho
 have HK := Lib.hid hk
 have HS := Lib.hid hsrc
 clear hb ho hk hsrc hol
 unfold u8v
 by_cases h3 : ol = 3000
 ·have h3' : (ol : Int) = 3000 := by omega
  have h3b : ((ol : Int) == 3000) = true := by simpa using h3'
  go_enter Tryz.func93, Tryz.ntmps93
  go_wp2_with fail
  refine (fail_any 2 _).mono ?_
  rintro e w3 ⟨rfl, rfl⟩
  unfold stopE
  go_wp2_with fail
  refine ⟨rfl, ?_, Keeps.refl _ _ _⟩
  unfold RPost pushR
  rw [if_pos (by rw [← Hol.out]; exact h3)]
  rfl
 ·have h3' : ¬ (ol : Int) = 3000 := by omega
  have h3b : ((ol : Int) == 3000) = false := by simpa using h3'
  go_enter Tryz.func93, Tryz.ntmps93
  have hbA : Below w.heap.size w (w.alloc (.cells #[.int .u8 (n8 x)] 5)) := (Below.refl _ _).alloc (Nat.le_refl _) _
  have HO2 := Lib.hid (own_keep HO.out hbA)
  have HB2 := Lib.hid (HB.out.below hbA HB.out.lt)
  have HKA : Hid (Keeps base infT w (w.alloc (.cells #[.int .u8 (n8 x)] 5))) := Lib.hid (Keeps.of_below hbA hbw)
  have hbw2 : base ≤ (w.alloc (.cells #[.int .u8 (n8 x)] 5)).heap.size := Nat.le_trans hbw hbA.size
  have HZ : Hid (SlAt (w.alloc (.cells #[.int .u8 (n8 x)] 5)) (some ⟨w.heap.size, 0, none⟩) [.int .u8 (n8 x)]) := Lib.hid (SlAt.of_heap (heap_alloc_new _ _) rfl)
  clear hbA
  go_wp2_with (at_builtin; refine wpList_app _ rfl (.tmp 15) (.tmp 17) _ rfl base 5 _ 1 1 ty8' _ ol (out.map u8v) rfl HO2.out (some ⟨w.heap.size, 0, none⟩) 1 1 [.int .u8 (n8 x)] rfl rfl HZ.out (by simp [Value.oneCell']) (by simp) (by unfold maxLen; omega) (by omega) hbw2 ?_; intro v8 w8 hown8 hg8 _; obtain ⟨A8, d8, rfl, _⟩ := own_slat hown8; have hkp : Keeps base [5] (w.alloc (.cells #[.int .u8 (n8 x)] 5)) w8 := (Keeps.refl _ _ _).grown HO2.out hg8 (by simp) hbw2; have HB8 := Lib.hid (hkp.blk HB2.out (by decide)); have HK8 := Lib.hid hkp; have Ho8 := Lib.hid hown8; have c8 : w8.cell? ⟨g, 1, none⟩ = some (.slice Ao ol co) := (HB8.out.cell 1).trans rfl; have f8 := HB8.out.frozen 1; clear hown8 hg8 hkp)
  go_end0
  have k8 : Keeps base infT w w8 := HKA.out.trans (HK8.out.mono (Nat.le_refl _) (fun t ht => by rw [List.mem_singleton] at ht; subst ht; simp [infT]))
  refine ⟨?_, k8.setBlk HB8.out (by simp [infT]) hg 1 _⟩
  unfold RPost pushR
  rw [if_neg (by rw [← Hol.out]; exact h3)]
  have hw9 : Keeps base [86] w8 (w8.setCell ⟨g, 1, none⟩ (.slice A8 (ol + 1) d8)) := (Keeps.refl _ _ _).setBlk HB8.out (by simp) hg 1 _
  have hkk : Keeps base [5, 86] w (w8.setCell ⟨g, 1, none⟩ (.slice A8 (ol + 1) d8)) := ((Keeps.of_below ((Below.refl _ _).alloc (Nat.le_refl _) _) hbw).trans (HK8.out.mono (Nat.le_refl _) (by simp))).trans (hw9.mono (Nat.le_refl _) (by simp))
  refine ⟨rfl, hg, hq, hp, by rw [List.length_append, ← Hol.out]; simp; omega, ⟨_, vk, HB8.out.set_ 1 _, ?_, hkk.own HK.out (by decide)⟩, hkk.blk HS.out (by decide)⟩
  have h9 := hw9.own Ho8.out (by decide)
  rw [List.length_append, ← Hol.out, List.map_append]
  exact h9
end Go.Proofs.YthpdcnjaodjjmaaGreat.Inf

/- package inflate: a block of bytes as they stand. -/
namespace Go.Proofs.YthpdcnjaodjjmaaGreat.Inf
open Go Go.RowKit Go.Proofs.YthpdcnjaodjjmaaGreat Go.Proofs.YthpdcnjaodjjmaaGreat.Bits Go.Proofs.YthpdcnjaodjjmaaGreat.Code
set_option linter.unusedVariables false

theorem RdAt.bw {w : World} {base g q : Nat} {A : Option Addr} {n c pos : Nat} {out : List UInt8} {ks : List Nat} (h : RdAt w base g q A n c pos out ks) : base ≤ w.heap.size := by
 obtain ⟨h1, _, _, _, ⟨vo, vk, h4, _, _⟩, _⟩ := h
 have := h4.lt
 omega
theorem RdAt.src0 {w : World} {base g q : Nat} {A : Option Addr} {n c pos : Nat} {out : List UInt8} {ks : List Nat} (h : RdAt w base g q A n c pos out ks) : w.cell? ⟨g, 0, none⟩ = some (.pointer (some ⟨q, 0, none⟩)) := by
 obtain ⟨_, _, _, _, ⟨vo, vk, h4, _, _⟩, _⟩ := h
 rw [h4.cell]; rfl
theorem xor16 (n : Nat) (h : n < 65536) : Go.bits .xor .i64 (n : Int) 65535 = ((65535 - n : Nat) : Int) := by
 have hx : n ^^^ 65535 = 65535 - n := by
  apply Nat.eq_of_testBit_eq
  intro i
  have e1 : (65535 - n).testBit i = (decide (i < 16) && !n.testBit i) := by
   rw [show 65535 - n = 2 ^ 16 - (n + 1) by omega]
   exact Nat.testBit_two_pow_sub_succ (by omega) i
  have e2 : (65535 : Nat).testBit i = decide (i < 16) := by
   rw [show (65535 : Nat) = 2 ^ 16 - 1 by decide, Nat.testBit_two_pow_sub_one]
  rw [Nat.testBit_xor, e1, e2]
  by_cases hi : i < 16
  ·simp [hi]
  ·have : n.testBit i = false := Nat.testBit_lt_two_pow (Nat.lt_of_lt_of_le h (show 65536 ≤ 2 ^ i from by rw [show (65536 : Nat) = 2 ^ 16 by decide]; exact Nat.pow_le_pow_right (by omega) (by omega)))
   simp [hi, this]
 show IntKind.i64.wrap ((BitVec.ofInt 64 (n : Int) ^^^ BitVec.ofInt 64 (65535 : Int)).toNat : Int) = _
 have h1 : (BitVec.ofInt 64 (n : Int) ^^^ BitVec.ofInt 64 (65535 : Int)).toNat = 65535 - n := by
  rw [BitVec.toNat_xor, BitVec.ofInt_natCast, BitVec.toNat_ofNat, Nat.mod_eq_of_lt (by omega), show (BitVec.ofInt 64 (65535 : Int)).toNat = 65535 from rfl, hx]
 rw [h1]
 exact IntWalk.i64_in _ (by omega)
set_option maxRecDepth 100000 in
set_option maxHeartbeats 1600000 in
theorem fill_any (q : Nat) (A : Option Addr) (n c pos : Nat) (w : World) (h : SrcAt w q A n c pos) (hp : pos ≤ 8 * n) (hn : n ≤ 1099511627776) :
  Calls Tryz.prog 92 #[.pointer (some ⟨q, 0, none⟩)] w fun e w' => e = .returned (.tuple #[]) ∧ SrcAt w' q A n c (fillP pos) ∧ Keeps q srcT w w' := by
 have c1 : w.cell? ⟨q, 1, none⟩ = some (.int .i64 (pos : Int)) := by rw [h.cell]; rfl
 have f1 := Blk.frozen h 1
 have HS := Lib.hid h
 have h1 : IntKind.i64.wrap ((pos : Int) + 7) = (pos : Int) + 7 := IntWalk.i64_in _ (by omega)
 have h2 : IntKind.i64.wrap (((pos : Int) + 7) / 8) = ((pos : Int) + 7) / 8 := IntWalk.i64_in _ (by omega)
 have h3 : IntKind.i64.wrap (((pos : Int) + 7) / 8 * 8) = ((fillP pos : Nat) : Int) := by
  rw [show ((pos : Int) + 7) / 8 * 8 = ((fillP pos : Nat) : Int) by unfold fillP; omega]
  exact IntWalk.i64_in _ (by unfold fillP; omega)
 have h4 : ((pos : Int) + 7).tdiv 8 = ((pos : Int) + 7) / 8 := Int.tdiv_eq_ediv_of_nonneg (by omega)
 have hq := Blk.lt h
 clear h
 go_enter Tryz.func92, Tryz.ntmps92
 go_wp2_with fail
 go_end0
 exact ⟨rfl, HS.out.set_ 1 _, (Keeps.refl _ _ _).setBlk HS.out (by simp [srcT]) (Nat.le_refl _) 1 _⟩
theorem rpost_bad {α : Type} {r : Rd α} {ok : α → Ending → World → Prop} {e : Ending} {w : World} {x : Int} (h : RPost r ok e w) (hr : r = .bad x) : e = stopE x := by rw [hr] at h; exact h
theorem rpost_ok {α : Type} {r : Rd α} {ok : α → Ending → World → Prop} {e : Ending} {w : World} {a : α} (h : RPost r ok e w) (hr : r = .ok a) : ok a e w := by rw [hr] at h; exact h
theorem bad_rpost {α : Type} {r : Rd α} {ok : α → Ending → World → Prop} {w : World} {x : Int} (hr : r = .bad x) : RPost r ok (stopE x) w := by rw [hr]; rfl
theorem ok_rpost {α : Type} {r : Rd α} {ok : α → Ending → World → Prop} {e : Ending} {w : World} {a : α} (hr : r = .ok a) (h : ok a e w) : RPost r ok e w := by rw [hr]; exact h
theorem RdAt.filled {w w' : World} {base g q : Nat} {A : Option Addr} {n c pos pos' : Nat} {out : List UInt8} {ks : List Nat} (h : RdAt w base g q A n c pos out ks) (hk : Keeps q srcT w w') (hs : SrcAt w' q A n c pos') (hp : pos' ≤ 8 * n) : RdAt w' base g q A n c pos' out ks := by
 obtain ⟨hg, hq, _, hfew, ⟨vo, vk, hb, ho, hk'⟩, _⟩ := h
 exact ⟨hg, hq, hp, hfew, ⟨vo, vk, hk.blk hb (by decide), hk.own ho (by decide), hk.own hk' (by decide)⟩, hs⟩
theorem getR_lt {row : List Bool} {p n : Nat} {a : Nat × Nat} (h : getR row p n = .ok a) : a.1 < 2 ^ n := by
 unfold getR at h
 split at h
 ·injection h with h
  subst h
  exact Nat.lt_of_lt_of_le (num_lt _) (Nat.pow_le_pow_right (by omega) (by rw [List.length_take]; omega))
 ·cases h
set_option maxRecDepth 100000 in
set_option maxHeartbeats 4000000 in
theorem stored_r (base g q : Nat) (A : Option Addr) (n c pos : Nat) (xs : List UInt8) (out : List UInt8) (ks : List Nat) (w : World) (h : RdAt w base g q A n c pos out ks) (hi : InAt_ w base A n xs) :
  Calls Tryz.prog 67 #[.pointer (some ⟨g, 0, none⟩)] w fun e w' =>
   RPost (storedR (bitsL xs) pos out) (fun a e w' => e = .returned (.tuple #[]) ∧ RdAt w' base g q A n c a.1 a.2 ks) e w' ∧ Keeps base infT w w' := by
 obtain ⟨R, hR⟩ : ∃ R, R = storedR (bitsL xs) pos out := ⟨_, rfl⟩
 have HU := Lib.hid (show R = (getR (bitsL xs) (fillP pos) 16).then_ fun x => (getR (bitsL xs) x.2 16).then_ fun y => if x.1 + y.1 ≠ 65535 then .bad 4 else rawR (bitsL xs) x.1 y.2 out from hR)
 rw [← hR]
 clear hR
 have HI := Lib.hid hi
 have H := Lib.hid h
 have hle : fillP pos ≤ 8 * n := by have := h.ple; unfold fillP; omega
 have HF := Lib.hid (fill_any q A n c pos w h.src h.ple hi.few)
 have b0 := h.src0
 have hq := h.qle
 clear h hi
 go_enter Tryz.func67, Tryz.ntmps67
 go_wp2_with fail
 refine (HF.out).mono ?_
 rintro e w2 ⟨rfl, hs2, hk2⟩
 have HK2 := Lib.hid (kT hk2 hq)
 have H2 := Lib.hid (H.out.filled hk2 hs2 hle)
 have HI2 := Lib.hid (HI.out.keeps HK2.out)
 have HG := Lib.hid (get_r base g q A n c (fillP pos) 16 xs out ks w2 H2.out HI2.out (by omega))
 clear hs2 hk2 b0 HF
 go_wp2_with fail
 refine (HG.out).mono ?_
 rintro e w3 ⟨hr3, hk3⟩
 have HK3 := Lib.hid (HK2.out.trans hk3)
 have HI3 := Lib.hid (HI2.out.keeps hk3)
 cases hg3 : getR (bitsL xs) (fillP pos) 16 with
 | bad z =>
  have he := rpost_bad hr3 hg3
  subst he
  have HU := Lib.hid (show R = .bad z by rw [HU.out, hg3]; rfl)
  clear hr3 hk3 hg3
  unfold stopE
  go_wp2_with fail
  exact ⟨rfl, bad_rpost HU.out, HK3.out⟩
 | ok x =>
  obtain ⟨he, hrd3⟩ := rpost_ok hr3 hg3
  subst he
  have hx := getR_lt hg3
  have HU := Lib.hid (show R = (getR (bitsL xs) x.2 16).then_ fun y => if x.1 + y.1 ≠ 65535 then .bad 4 else rawR (bitsL xs) x.1 y.2 out by rw [HU.out, hg3]; rfl)
  have H3 := Lib.hid hrd3
  have HG := Lib.hid (get_r base g q A n c x.2 16 xs out ks w3 H3.out HI3.out (by omega))
  obtain ⟨nb, p3⟩ := x
  dsimp only at hx HU H3 HG ⊢
  clear hr3 hk3 hg3 hrd3
  go_wp2_with fail
  refine (HG.out).mono ?_
  rintro e w4 ⟨hr4, hk4⟩
  have HK4 := Lib.hid (HK3.out.trans hk4)
  have HI4 := Lib.hid (HI3.out.keeps hk4)
  cases hg4 : getR (bitsL xs) p3 16 with
  | bad z =>
   have he := rpost_bad hr4 hg4
   subst he
   have HU := Lib.hid (show R = .bad z by rw [HU.out, hg4]; rfl)
   clear hr4 hk4 hg4
   unfold stopE
   go_wp2_with fail
   exact ⟨rfl, bad_rpost HU.out, HK4.out⟩
  | ok y =>
   obtain ⟨he, hrd4⟩ := rpost_ok hr4 hg4
   subst he
   have hy := getR_lt hg4
   have HU := Lib.hid (show R = if nb + y.1 ≠ 65535 then .bad 4 else rawR (bitsL xs) nb y.2 out by rw [HU.out, hg4]; rfl)
   have H4 := Lib.hid hrd4
   obtain ⟨mb, p4⟩ := y
   dsimp only at hy HU H4 ⊢
   have hxr := xor16 nb (by omega)
   clear hr4 hk4 hg4 hrd4 HG
   by_cases hne : nb + mb = 65535
   ·have HU := Lib.hid (show R = rawR (bitsL xs) nb p4 out by rw [HU.out, if_neg (by omega)])
    have hq1 : (((65535 - nb : Nat) : Int) != (mb : Int)) = false := by
     have : ((65535 - nb : Nat) : Int) = (mb : Int) := by omega
     rw [this]; simp
    have hn65 : nb ≤ 65535 := by omega
    clear hne
    go_wp2_with fail
    go_loopw [19] (fun vi wr => ∃ (j p : Nat) (o : List UInt8), j ≤ nb ∧ vi = .int .i64 (j : Int) ∧ rawR (bitsL xs) nb p4 out = rawR (bitsL xs) (nb - j) p o ∧ RdAt wr base g q A n c p o ks ∧ Keeps base infT w wr ∧ InAt_ wr base A n xs) (fun vi _ => nb - (intOf vi).toNat)
    case atStart => exact ⟨0, p4, out, Nat.zero_le _, rfl, rfl, H4.out, HK4.out, HI4.out⟩
    case round =>
     obtain ⟨j, p, o, hj, rfl, hraw, hrd, hk, hin⟩ := hrel
     have HRaw := Lib.hid hraw
     have HR := Lib.hid hrd
     have HK := Lib.hid hk
     have HIn := Lib.hid hin
     clear hraw hrd hk hin
     by_cases hlt : j < nb
     ·have HU := Lib.hid (show R = (getR (bitsL xs) p 8).then_ fun x => (pushR o (UInt8.ofNat x.1)).then_ fun o => rawR (bitsL xs) (nb - (j + 1)) x.2 o by
       rw [HU.out, HRaw.out, show nb - j = (nb - (j + 1)) + 1 by omega]; rfl)
      have HG := Lib.hid (get_r base g q A n c p 8 xs o ks wr HR.out HIn.out (by omega))
      have HRaw := Lib.hid (show rawR (bitsL xs) nb p4 out = (getR (bitsL xs) p 8).then_ fun x => (pushR o (UInt8.ofNat x.1)).then_ fun o => rawR (bitsL xs) (nb - (j + 1)) x.2 o by
       rw [HRaw.out, show nb - j = (nb - (j + 1)) + 1 by omega]; rfl)
      go_wp2_with fail
      refine (HG.out).mono ?_
      rintro e w5 ⟨hr5, hk5⟩
      have HK5 := Lib.hid (HK.out.trans hk5)
      have HI5 := Lib.hid (HIn.out.keeps hk5)
      cases hg5 : getR (bitsL xs) p 8 with
      | bad z =>
       have he := rpost_bad hr5 hg5
       subst he
       have HU := Lib.hid (show R = .bad z by rw [HU.out, hg5]; rfl)
       clear hr5 hk5 hg5
       unfold stopE
       go_wp2_with fail
       exact ⟨rfl, bad_rpost HU.out, HK5.out⟩
      | ok x =>
       obtain ⟨he, hrd5⟩ := rpost_ok hr5 hg5
       subst he
       have hx5 := getR_lt hg5
       have HU := Lib.hid (show R = (pushR o (UInt8.ofNat x.1)).then_ fun o => rawR (bitsL xs) (nb - (j + 1)) x.2 o by rw [HU.out, hg5]; rfl)
       have HRaw := Lib.hid (show rawR (bitsL xs) nb p4 out = (pushR o (UInt8.ofNat x.1)).then_ fun o => rawR (bitsL xs) (nb - (j + 1)) x.2 o by rw [HRaw.out, hg5]; rfl)
       have H5 := Lib.hid hrd5
       obtain ⟨bx, p5⟩ := x
       dsimp only at hx5 HU HRaw H5 ⊢
       have HP := Lib.hid (put_r base g q A n c p5 (UInt8.ofNat bx) o ks w5 H5.out)
       have hcv : u8v (UInt8.ofNat bx) = .int .u8 (bx : Int) := by
        unfold u8v n8
        have : (UInt8.ofNat bx).toNat = bx := by show bx % 2 ^ 8 = bx; omega
        rw [this]
       rw [hcv] at HP
       clear hr5 hk5 hg5 hrd5 HG
       go_wp2_with fail
       refine (HP.out).mono ?_
       rintro e w6 ⟨hr6, hk6⟩
       have HK6 := Lib.hid (HK5.out.trans hk6)
       have HI6 := Lib.hid (HI5.out.keeps hk6)
       cases hg6 : pushR o (UInt8.ofNat bx) with
       | bad z =>
        have he := rpost_bad hr6 hg6
        subst he
        have HU := Lib.hid (show R = .bad z by rw [HU.out, hg6]; rfl)
        clear hr6 hk6 hg6
        unfold stopE
        go_wp2_with fail
        exact ⟨rfl, bad_rpost HU.out, HK6.out⟩
       | ok o2 =>
        obtain ⟨he, hrd6⟩ := rpost_ok hr6 hg6
        subst he
        have HRaw := Lib.hid (show rawR (bitsL xs) nb p4 out = rawR (bitsL xs) (nb - (j + 1)) p5 o2 by rw [HRaw.out, hg6]; rfl)
        have H6 := Lib.hid hrd6
        clear hr6 hk6 hg6 hrd6 hx5 hcv HP
        go_wp2_with fail
        go_roundw
        case rel => exact ⟨j + 1, p5, o2, by omega, by go_num, HRaw.out, H6.out, HK6.out, HI6.out⟩
        case measure => simp [intOf]; omega
     ·obtain rfl : j = nb := by omega
      have HU := Lib.hid (show R = .ok (p, o) by rw [HU.out, HRaw.out, Nat.sub_self]; rfl)
      go_wp2_with fail
      go_end0
      exact ⟨ok_rpost HU.out ⟨rfl, HR.out⟩, HK.out⟩
   ·have HU := Lib.hid (show R = .bad 4 by rw [HU.out, if_pos hne])
    have hq1 : (((65535 - nb : Nat) : Int) != (mb : Int)) = true := by
     simp only [bne_iff_ne, ne_eq]
     omega
    clear hne
    go_wp2_with fail
    refine (fail_any 4 _).mono ?_
    rintro e w5 ⟨rfl, rfl⟩
    unfold stopE
    go_wp2_with fail
    exact ⟨rfl, bad_rpost HU.out, HK4.out⟩
end Go.Proofs.YthpdcnjaodjjmaaGreat.Inf

/- package inflate: a table of lengths, if they make a code. -/
namespace Go.Proofs.YthpdcnjaodjjmaaGreat.Inf
open Go Go.RowKit Go.Proofs.YthpdcnjaodjjmaaGreat Go.Proofs.YthpdcnjaodjjmaaGreat.Bits Go.Proofs.YthpdcnjaodjjmaaGreat.Code
set_option linter.unusedVariables false

set_option maxRecDepth 100000 in
set_option maxHeartbeats 1600000 in
theorem table_r (A : Option Addr) (n c : Nat) (zs : List Int) (w : World) (hn : zs.length = n) (hx : n ≤ maxLen) (hA : InAt w A zs) :
  Calls Tryz.prog 96 #[.slice A n c] w fun e w' =>
   RPost (tableR zs) (fun ls e w' => chkL zs = 0 ∧ ∃ p, e = .returned (.pointer (some ⟨p, 0, none⟩)) ∧ TabAt w' w.heap.size p ls) e w' ∧ Below w.heap.size w w' := by
 have HCk := Lib.hid (check_any A n c zs w hn hx hA)
 have HA := Lib.hid hA
 have Hn := Lib.hid hn
 clear hA hn
 go_enter Tryz.func96, Tryz.ntmps96
 go_wp2_with fail
 refine (HCk.out).mono ?_
 rintro e w2 ⟨rfl, hw2⟩
 have hb2 : Below w.heap.size w w2 := by
  first
   | exact hw2
   | (obtain ⟨d, rfl⟩ := hw2; exact (Below.refl _ _).drewN' d)
   | (rw [hw2]; exact Below.refl _ _)
 have Hb2 := Lib.hid hb2
 clear hw2 hb2 HCk
 obtain ⟨z, hz⟩ : ∃ z, z = chkL zs := ⟨_, rfl⟩
 rw [← hz]
 by_cases h0 : z = 0
 ·subst h0
  have HM := Lib.hid (make_any A n c zs w2 Hn.out (SlAt.below HA.out Hb2.out) hz.symm)
  have Hz := Lib.hid hz.symm
  clear hz
  go_wp2_with fail
  refine (HM.out).mono ?_
  rintro e w3 ⟨⟨p, rfl, ht⟩, hb3⟩
  have HT := Lib.hid ht
  have Hb3 := Lib.hid hb3
  clear ht hb3 HM
  go_wp2_with fail
  go_ret
  refine ⟨ok_rpost (a := lsOf zs) (by unfold tableR; rw [if_pos Hz.out]) ⟨Hz.out, p, rfl, ?_⟩, Hb2.out.trans (Hb3.out.mono Hb2.out.size)⟩
  obtain ⟨h1, v, h2, h3⟩ := HT.out
  exact ⟨Nat.le_trans Hb2.out.size h1, v, h2, own_base h3 Hb2.out.size⟩
 ·have hz1 : (z != 0) = true := by simpa using h0
  have Hz := Lib.hid (show chkL zs ≠ 0 by rw [← hz]; exact h0)
  clear hz
  go_wp2_with fail
  refine (fail_any 8 _).mono ?_
  rintro e w3 ⟨rfl, rfl⟩
  unfold stopE
  go_wp2_with fail
  exact ⟨rfl, bad_rpost (by unfold tableR; rw [if_neg Hz.out]), Hb2.out⟩
end Go.Proofs.YthpdcnjaodjjmaaGreat.Inf

/- package block: what symbols say; the code that is told to nobody: see BlkFixed. -/

/-
 DERIVED: THE SHELF's CONTRACTS AT THIS DUMP, IN PLAIN WORDS (tools/lay-plain.mjs out of 'YthpdcnjaodjjmaaGreatShelfMul.lean', which tools/lay-shelf.mjs wrote): THE SAME DECLARATIONS UNDER THE SAME NAMES: 'import', 'namespace', 'open', 'def', 'theorem' AND NOTHING ELSE: no command of the shelf's: FOR A HAND-IN. Each laying: the table of numbers ('.._ren') and one theorem, a field a fact of the dump's own or the kernel's comparison; each contract: ONE APPLICATION.
-/
namespace Go.Proofs
open Go.Shelf
def YthpdcnjaodjjmaaGreat.lays212_ren : Go.Shelf.Ren := ⟨fun | 212 => 85 | 263 => 100 | 264 => 101 | n => n, fun | 46 => 39 | 51 => 37 | 146 => 165 | 53 => 167 | 148 => 168 | n => n, fun | n => n⟩
theorem YthpdcnjaodjjmaaGreat.lays212 : Go.Proofs.Lays.n212 Tryz.prog YthpdcnjaodjjmaaGreat.lays212_ren := {
 mixed := by kernel_rfl
 f212 := Tryz.func85.trans (congrArg some (by kernel_rfl))
 f263 := Tryz.func100.trans (congrArg some (by kernel_rfl))
 f264 := Tryz.func101.trans (congrArg some (by kernel_rfl))
 t46 := Tryz.underlying39
 a46 := Tryz.isAgg39
 z46 := Tryz.sizeOf39
 v46 := Tryz.zeroValue39
 t51 := Tryz.underlying37
 a51 := Tryz.isAgg37
 z51 := Tryz.sizeOf37
 v51 := Tryz.zeroValue37
 t53 := Tryz.underlying167
 a53 := Tryz.isAgg167
 z53 := Tryz.sizeOf167
 v53 := Tryz.zeroValue167
 t146 := Tryz.underlying165
 a146 := Tryz.isAgg165
 z146 := Tryz.sizeOf165
 v146 := Tryz.zeroValue165
 t148 := Tryz.underlying168
 a148 := Tryz.isAgg168
 z148 := Tryz.sizeOf168
 v148 := Tryz.zeroValue168 }
end Go.Proofs

/- slices.Repeat of one number. -/
namespace Go.Proofs.YthpdcnjaodjjmaaGreat.Inf
open Go Go.RowKit Go.Proofs.YthpdcnjaodjjmaaGreat Go.Proofs.YthpdcnjaodjjmaaGreat.Code
set_option linter.unusedVariables false
set_option linter.unusedSimpArgs false

def repRow (v : Int) (k n : Nat) : List Value := List.replicate n (.int .i64 v) ++ List.replicate (k - n) (.int .i64 0)
theorem repRow_len (v : Int) (k n : Nat) (h : n ≤ k) : (repRow v k n).length = k := by simp [repRow]; omega
theorem repRow_end (v : Int) (k : Nat) : repRow v k k = List.replicate k (.int .i64 v) := by simp [repRow]
theorem repRow_zero (v : Int) (k : Nat) : madeCells #[.int .i64 0] k = (repRow v k 0).toArray := by
 rw [nats_zero]
 unfold nats repRow natV
 simp
theorem repRow_more (v : Int) (k n m : Nat) (h : n + m ≤ k) : splice (repRow v k n) n (List.replicate m (.int .i64 v)) = repRow v k (n + m) := by
 unfold splice repRow
 rw [List.length_replicate, List.take_append_of_le_length (by simp), List.take_of_length_le (by simp), List.drop_append, List.drop_of_length_le (by simp)]
 simp only [List.length_replicate, List.nil_append, List.drop_replicate]
 rw [← List.append_assoc, List.replicate_append_replicate]
 congr 2
 omega
theorem repRow_get (v : Int) (k n j : Nat) (h : j < n) : (repRow v k n)[j]? = some (.int .i64 v) := by
 unfold repRow
 rw [List.getElem?_append_left (by simp; omega), List.getElem?_replicate, if_pos h]
theorem src_of {w : World} {A : Option Addr} {X : List Value} (h : SlAt w A X) : 0 < X.length → ∃ ad, A = some ad ∧ ∀ j v, X[j]? = some v → w.cell? (ad.add j) = some v := fun hp => by
 obtain ⟨b, o, e, hc⟩ := h hp
 exact ⟨_, e, fun j v hj => by
  have := hc j v hj
  by_cases hj0 : j = 0
  ·subst hj0; simpa [Addr.add] using this
  ·simpa [Addr.add, hj0] using this⟩
theorem sizeI : (Tryz.prog.info? 3).map (·.size) = some 1 := by kernel_rfl
set_option maxRecDepth 100000 in
set_option maxHeartbeats 1600000 in
theorem repeat1_any (A : Option Addr) (c k : Nat) (v : Int) (w : World) (hA : SlAt w A [.int .i64 v]) (h1 : 1 ≤ k) (hk : k ≤ 1000) :
    Calls Tryz.prog 62 #[.slice A 1 c, .int .i64 (k : Int)] w fun e w' => (∃ A', e = .returned (.slice A' k k) ∧ SlAt w' A' (List.replicate k (.int .i64 v))) ∧ Below w.heap.size w w' := by
  have hv1 : k < 18446744073709551616 := by omega
  have HM : Hid (∀ W, Calls Tryz.prog 85 #[.int .u64 1, .int .u64 (k : Int)] W fun e w' => e = .returned (.tuple #[.int .u64 0, .int .u64 (k : Int)]) ∧ w' = W) := Lib.hid (fun W => by
    have h := Any.bits_Mul YthpdcnjaodjjmaaGreat.lays212 1 k (by omega) hv1 W
    rw [Nat.one_mul, Nat.div_eq_of_lt hv1, Nat.mod_eq_of_lt hv1] at h
    exact h)
  have hmk := make_ints k (by omega)
  have HA := Lib.hid hA
  have Hz := Lib.hid (repRow_zero v k)
  clear hA hv1
  go_enter Tryz.func62, Tryz.ntmps62
  go_wp2_with fail
  refine (HM.out _).mono ?_
  rintro e w2 ⟨rfl, rfl⟩
  obtain ⟨g, hg⟩ : ∃ g, g = w2.heap.size := ⟨_, rfl⟩
  have Hg := Lib.hid hg
  obtain ⟨X, hX⟩ : ∃ X, X = [Value.int .i64 v] := ⟨_, rfl⟩
  have HX := Lib.hid hX
  rw [← hX] at HA
  obtain ⟨r0, hr0⟩ : ∃ r, r = repRow v k 0 := ⟨_, rfl⟩
  rw [← hr0] at Hz
  have HR0 := Lib.hid hr0
  have hk1 : X.length = Nat.min 1 k := by rw [hX]; exact (Nat.min_eq_left h1).symm
  have hX1 : X.length = 1 := by rw [hX]; rfl
  have Hr0 : Hid (r0.length = k) := Lib.hid (by rw [hr0]; exact repRow_len v k 0 (by omega))
  have Hone : Hid (∀ u ∈ X, u.oneCell' = true) := Lib.hid (by rw [hX]; simp [Value.oneCell'])
  have HMk : Hid (∀ (u : World), (Instr.makeSlice 23 (.int .i64 (k : Int)) (.int .i64 (k : Int))).run Tryz.prog u = .ok (.slice (some ⟨u.heap.size, 0, none⟩) k k) (u.alloc (.cells r0.toArray 3))) := Lib.hid (fun u => by rw [hmk u, Hz.out])
  replace hmk := HMk.out w2
  rw [← hg] at hmk
  have Hnew : Hid ((w2.alloc (.cells r0.toArray 3)).heap[g]? = some (.cells r0.toArray 3 (0, 0))) := Lib.hid (by rw [hg]; exact heap_alloc_new _ _)
  have Hb1 : Hid (Below w2.heap.size w2 (w2.alloc (.cells r0.toArray 3))) := Lib.hid ((Below.refl _ _).alloc (Nat.le_refl _) _)
  have HA1 := Lib.hid (src_of (HA.out.below Hb1.out))
  clear HM HMk hg hX hr0 Hz
  generalize w2.alloc (.cells r0.toArray 3) = w3 at *
  go_wp2_with (with_reducible refine wpList_copy_splice (o := ⟨some 33, _, _, _, _, _⟩) ?hgd (.tmp 31) (.tmp 32) 23 23 ?ho 3 ?hu ?hsz (some ⟨g, 0, none⟩) A k k 1 c ?hd ?hs g 0 r0 3 ?hg X ?hn ?hpos ?hfit ?h1 w2.heap.size w2 ?hb ?hBg ?h; (case hgd => (rfl)); (case ho => (rfl)); (case hu => (exact Tryz.underlying23)); (case hsz => (exact sizeI)); (case hd => (simp [Act.eval])); (case hs => (simp [Act.eval])); (case hg => (exact Hnew.out)); (case hn => (exact hk1)); (case hpos => (exact (fun hp => ⟨rfl, HA1.out hp⟩))); (case hfit => (rw [hX1, Hr0.out]; omega)); (case h1 => (exact Hone.out)); (case hb => (exact Hb1.out)); (case hBg => (rw [Hg.out]; exact Nat.le_refl _)); intro w4 HG4 hB4; rw [hX1]; have HB4 := Lib.hid hB4; clear hB4)
  have HG4 : Hid (w4.heap[g]? = some (.cells (repRow v k 1).toArray 3 (0, 0))) := Lib.hid (by
    rw [HG4.out, HR0.out, HX.out]
    exact congrArg (fun l => some (Obj.cells (List.toArray l) 3 (0, 0))) (repRow_more v k 0 1 (by omega)))
  clear Hb1 HA1 Hnew HA Hr0 hk1 hX1 Hone HX HR0 hmk
  go_loopw [8] (fun vn wr => ∃ n : Nat, 1 ≤ n ∧ n ≤ k ∧ vn = .int .i64 (n : Int) ∧ wr.heap[g]? = some (.cells (repRow v k n).toArray 3 (0, 0)) ∧ Below w2.heap.size w2 wr) (fun vn _ => k - (intOf vn).toNat)
  case atStart => exact ⟨1, by omega, h1, rfl, HG4.out, HB4.out⟩
  case round =>
    obtain ⟨n, hn1, hnk, rfl, hg, hb⟩ := hrel
    have HG := Lib.hid hg
    have HB := Lib.hid hb
    clear hg hb HG4 HB4
    by_cases hlt : n < k
    · obtain ⟨m, hm⟩ : ∃ m, m = Nat.min n (k - n) := ⟨_, rfl⟩
      have hm1 : 1 ≤ m ∧ n + m ≤ k := by rw [hm]; show 1 ≤ min n (k - n) ∧ n + min n (k - n) ≤ k; omega
      obtain ⟨X, hX⟩ : ∃ X, X = List.replicate m (Value.int .i64 v) := ⟨_, rfl⟩
      have hXl : X.length = m := by rw [hX]; simp
      have Hone : Hid (∀ u ∈ X, u.oneCell' = true) := Lib.hid (by rw [hX]; intro u hu; rw [List.eq_of_mem_replicate hu]; rfl)
      obtain ⟨r0, hr0⟩ : ∃ r, r = repRow v k n := ⟨_, rfl⟩
      have Hrl : Hid (r0.length = k) := Lib.hid (by rw [hr0]; exact repRow_len v k n hnk)
      have HS : Hid (splice r0 n X = repRow v k (n + m)) := Lib.hid (by rw [hr0, hX]; exact repRow_more v k n m hm1.2)
      have HA : Hid (SlAt wr (some ⟨g, 0, none⟩) X) := Lib.hid (fun _ => ⟨g, 0, rfl, fun j u hj => by
        rw [cell_of_row wr g _ _ _ _ HG.out]
        have hjm : j < m := by
          rcases Nat.lt_or_ge j m with h | h
          · exact h
          · rw [hX, List.getElem?_eq_none (by simp; omega)] at hj; cases hj
        rw [hX, List.getElem?_replicate, if_pos hjm] at hj
        rw [← hj, Nat.zero_add, List.getElem?_toArray]
        exact repRow_get v k n j (by have : m ≤ n := by rw [hm]; exact Nat.min_le_left _ _; 
                                     omega)⟩)
      rw [← hr0] at HG
      have hwn : IntKind.i64.wrap ((n : Int) + (m : Int)) = ((n + m : Nat) : Int) := by rw [show (n : Int) + (m : Int) = ((n + m : Nat) : Int) by omega]; exact IntWalk.i64_in _ (by omega)
      have hlt' : (n : Int) < (k : Int) := by omega
      have hkn : ¬ k = n := by omega
      have Hm := Lib.hid hm
      clear hm hX hr0
      go_wp2_with fail
      have hbd : Below wr.heap.size wr wr.drew := (Below.refl _ _).drew
      have HGd := Lib.hid (show wr.drew.heap[g]? = some (.cells r0.toArray 3 (0, 0)) from HG.out)
      have HAd := Lib.hid (src_of (HA.out.below hbd))
      have HBd := Lib.hid (show Below w2.heap.size w2 wr.drew from HB.out.drew)
      have Hmn : Hid (X.length = Nat.min n (k - n)) := Lib.hid (by rw [hXl]; exact Hm.out)
      clear hbd HG HA HB Hm
      go_region_law ((first
        | (refine step_copy_splice rfl (.tmp 41) (.tmp 44) 23 23 rfl 3 Tryz.underlying23 sizeI (some ⟨g, n, none⟩) (some ⟨g, 0, none⟩) (k - n) (k - n) n k (by simp [Act.eval, Act.put, hkn]) (by simp [Act.eval, Act.put, hkn]) g n r0 3 HGd.out X Hmn.out (fun hp => ⟨rfl, HAd.out hp⟩) (by rw [hXl, Hrl.out]; exact hm1.2) Hone.out w2.heap.size w2 HBd.out (by rw [Hg.out]; exact Nat.le_refl _) ?_
           intro w4 HG4 hB4
           rw [hXl]
           have HB4 := Lib.hid hB4
           clear hB4)))
      rw [HS.out] at HG4
      simp only [Act.put, List.getElem_toArray, List.getElem_cons_zero, List.getElem_cons_succ, List.setIfInBounds_toArray, List.set_cons_zero, List.set_cons_succ]
      go_roundw
      case rel =>
        first
        | exact ⟨_, _, _, _, _, _, _, _, ⟨n + m, by omega, by omega, rfl, HG4.out, HB4.out⟩, rfl⟩
        | exact ⟨_, _, _, _, _, _, _, _, _, ⟨n + m, by omega, by omega, rfl, HG4.out, HB4.out⟩, rfl⟩
        | exact ⟨_, _, _, _, _, _, _, _, _, _, ⟨n + m, by omega, by omega, rfl, HG4.out, HB4.out⟩, rfl⟩
        | exact ⟨_, _, _, _, _, _, _, _, _, _, _, ⟨n + m, by omega, by omega, rfl, HG4.out, HB4.out⟩, rfl⟩
        | exact ⟨_, _, _, _, _, _, _, _, _, _, _, _, ⟨n + m, by omega, by omega, rfl, HG4.out, HB4.out⟩, rfl⟩
        | exact ⟨_, _, _, _, _, _, _, _, _, _, _, _, _, ⟨n + m, by omega, by omega, rfl, HG4.out, HB4.out⟩, rfl⟩
        | exact ⟨_, _, _, _, _, _, _, _, _, _, _, _, _, _, ⟨n + m, by omega, by omega, rfl, HG4.out, HB4.out⟩, rfl⟩
      case measure => simp [intOf]; omega
    · obtain rfl : n = k := by omega
      have hlt' : ¬ (n : Int) < (n : Int) := by omega
      go_wp2_with fail
      go_ret
      exact ⟨⟨_, rfl, SlAt.of_heap HG.out (by rw [repRow_end])⟩, HB.out⟩
end Go.Proofs.YthpdcnjaodjjmaaGreat.Inf

/- a region that draws its order and ends in one operation that waits for all others: a condition on the world is kept till then. No program in sight. -/
namespace Go.Proofs.YthpdcnjaodjjmaaGreat
open Go
set_option linter.unusedVariables false

section
variable {P : Program} {ops : Array Oper} {Q : Exit → Act → World → Prop} {md : Region.Mode} {S : World → Prop} {n : Nat}
def lastB (md : Region.Mode) (ops : Array Oper) (n i : Nat) : Bool :=
 match ops[n]? with
 | none => false
 | some o => o.after.any fun e => Region.binds md e && e.on == i
def wpAnyS (P : Program) (md : Region.Mode) (ops : Array Oper) (Q : Exit → Act → World → Prop) (S : World → Prop) (n : Nat) : Nat → Array Bool → Act → World → Prop
 | 0, listed, a, w => Region.ready md ops listed = [] ∧ Q .normal a w
 | fuel + 1, listed, a, w =>
  (Region.ready md ops listed = [] → Q .normal a w) ∧
  ∀ i ∈ Region.ready md ops listed, wpOp P ops Q i (fun a' w' => (i ≠ n → S w') ∧ wpAnyS P md ops Q S n fuel (listed.setIfInBounds i true) a' w') a w
theorem wpAny_of_S : ∀ (fuel : Nat) (listed : Array Bool) (a : Act) (w : World), wpAnyS P md ops Q S n fuel listed a w → wpAny P md ops Q fuel listed a w
 | 0, _, _, _, h => h
 | fuel + 1, _, _, _, h => ⟨h.1, fun i hi => wpOp_mono (fun a' w' h' => wpAny_of_S fuel _ a' w' h'.2) (h.2 i hi)⟩
theorem wpAnyS_first {i : Nat} {oi : Oper} {v : Value} (hl : lastB md ops n i = true) (hi : ops[i]? = some oi) (hsel : ∀ (j : Nat) (o : Oper) cs b, ops[j]? = some o → o.op ≠ .select cs b)
  (hQ : ∀ c a w, Q (.panic c) (a.put oi.dst v) w → Q (.panic c) a w) :
  ∀ (fuel : Nat) (listed : Array Bool) (a : Act) (w : World),
   (∀ j oj, ops[j]? = some oj → j ≠ i → listed.getD j true = false → (∀ e ∈ oj.after, Region.binds md e = true → e.on ≠ i) → oi.apart ops oj = true) →
   i ∈ Region.ready md ops listed → YieldsIf P ops S oi v a → S w →
   wpAnyS P md ops Q S n fuel (listed.setIfInBounds i true) (a.put oi.dst v) w → wpAnyS P md ops Q S n (fuel + 1) listed a w := by
 intro fuel
 induction fuel with
 | zero =>
  intro listed a w _ hr hy hS H
  refine ⟨fun h => (by rw [h] at hr; cases hr), fun j hj => ?_⟩
  by_cases hji : j = i
  ·subst hji; exact hy.wpOp hi hS ⟨fun _ => hS, H⟩
  ·have := ready_mono hj hji
   rw [H.1] at this
   cases this
 | succ fuel ih =>
  intro listed a w hfree hr hy hS H
  refine ⟨fun h => (by rw [h] at hr; cases hr), fun j hj => ?_⟩
  by_cases hji : j = i
  ·subst hji; exact hy.wpOp hi hS ⟨fun _ => hS, H⟩
  ·have h1 := H.2 j (ready_mono hj hji)
   obtain ⟨hjun, oj, hoj, hall⟩ := mem_ready.1 hj
   have hnot : ∀ e ∈ oj.after, Region.binds md e = true → e.on ≠ i := fun e he hb heq => by
    have h1 := hall e he hb
    have h0 := (mem_ready.1 hr).1
    rw [heq] at h1
    rcases Nat.lt_or_ge i listed.size with h' | h'
    ·simp [h'] at h0 h1; rw [h0] at h1; cases h1
    ·simp [Array.getElem?_eq_none h'] at h1
   have hjn : j ≠ n := fun e => by
    subst e
    unfold lastB at hl
    rw [hoj] at hl
    simp only at hl
    rw [Array.any_eq_true] at hl
    obtain ⟨m, hm, he⟩ := hl
    simp only [Bool.and_eq_true, beq_iff_eq] at he
    exact hnot _ (Array.getElem_mem hm) he.1 he.2
   have h2 := wpOp_putIf hoj (hfree j oj hoj hji hjun hnot) (fun cs b => hsel i oi cs b hi) (fun cs b => hsel j oj cs b hoj) hQ hy h1
   have hfree' : ∀ k ok, ops[k]? = some ok → k ≠ i → (listed.setIfInBounds j true).getD k true = false →
     (∀ e ∈ ok.after, Region.binds md e = true → e.on ≠ i) → oi.apart ops ok = true := fun k ok hk hki hun hno => by
    refine hfree k ok hk hki ?_ hno
    by_cases hjk : j = k
    ·subst hjk; exact hjun
    ·rw [getD_set_ne true hjk] at hun; exact hun
   refine wpOp_mono (fun a' w' h3 => ⟨h3.2.1, ih (listed.setIfInBounds j true) a' w' hfree' (ready_mono hr (Ne.symm hji)) h3.1 (h3.2.1 hjn) ?_⟩) h2
   rw [Array.setIfInBounds_comm _ _ hji]
   exact h3.2.2
theorem wpAnyS_take {i : Nat} {oi : Oper} {v : Value} {fuel : Nat} {listed : Array Bool} {a : Act} {w : World} (hl : lastB md ops n i = true) (hi : ops[i]? = some oi)
  (hs : Region.noSelect ops = true) (hf : Region.free md ops listed i = true) (hr : (Region.ready md ops listed).contains i = true)
  (hQ : ∀ c a w, Q (.panic c) (a.put oi.dst v) w → Q (.panic c) a w) (hw : Region.wanted oi (yielded ops a.tmps) = true) (hS : S w) (hy : ∀ w, S w → (execOp a.eval oi).run P w = .ok (.value v) w)
  (h : wpAnyS P md ops Q S n fuel (listed.setIfInBounds i true) (a.put oi.dst v) w) : wpAnyS P md ops Q S n (fuel + 1) listed a w :=
 wpAnyS_first hl hi (Region.noSelect_spec hs) hQ fuel listed a w (Region.free_spec hi hf) (by simpa using hr) (.inl ⟨hw, hy⟩) hS h
theorem wpAnyS_only {i : Nat} {o : Oper} {fuel : Nat} {listed : Array Bool} {a : Act} {w : World} (hi : ops[i]? = some o) (hr : Region.ready md ops listed = [i])
  (h : ∀ K' : Act → World → Prop, Shut (∀ a w, S w → (S w → wpAnyS P md ops Q S n fuel (listed.setIfInBounds i true) a w) → K' a w) → if Region.wanted o (yielded ops a.tmps) = true then Oper.wp P o a w K' Q else K' (a.put o.dst undef) w) :
  wpAnyS P md ops Q S n (fuel + 1) listed a w := by
 refine ⟨fun h0 => (by rw [hr] at h0; cases h0), fun j hj => ?_⟩
 rw [hr, List.mem_singleton] at hj
 subst hj
 exact wpOp_step hi (fun K' hK => h K' (fun a w hS hW => hK a w ⟨fun _ => hS, hW hS⟩))
theorem wpAnyS_last {o : Oper} {fuel : Nat} {listed : Array Bool} {a : Act} {w : World} (hi : ops[n]? = some o) (hr : Region.ready md ops listed = [n]) (hd : Region.ready md ops (listed.setIfInBounds n true) = [])
  (h : ∀ K' : Act → World → Prop, Shut (∀ a w, Q .normal a w → K' a w) → if Region.wanted o (yielded ops a.tmps) = true then Oper.wp P o a w K' Q else K' (a.put o.dst undef) w) :
  wpAnyS P md ops Q S n (fuel + 1) listed a w := by
 refine ⟨fun h0 => (by rw [hr] at h0; cases h0), fun j hj => ?_⟩
 rw [hr, List.mem_singleton] at hj
 subst hj
 refine wpOp_step hi (fun K' hK => h K' (fun a w hq => hK a w ⟨fun hh => absurd rfl hh, ?_⟩))
 cases fuel with
 | zero => exact ⟨hd, hq⟩
 | succ f => exact ⟨fun _ => hq, by rw [hd]; simp⟩
theorem wp_region_S (S : World → Prop) (n : Nat) {id : Nat} {a : Act} {w : World} (hm : P.follows .mixedOrders = true)
  (h : wpAnyS P .any ops Q S n ops.size (Array.replicate ops.size false) a w.drew) : (Code.region id ops true).wp P Q a w :=
 wp_region_any hm (wpAny_of_S _ _ _ _ h)
end
end Go.Proofs.YthpdcnjaodjjmaaGreat
