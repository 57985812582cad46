/- package bits: a row that is written. -/
import Derived.Test.YtfgkfakhlcbdbaaRow0
import Derived.Test.YtfgkfakhlcbdbaaKeep
import Derived.Test.YtfgkfakhlcbdbaaBitsPure
import Derived.Test.YtfgkfakhlcbdbaaProg
import Derived.WalkSpells
namespace Go.Proofs.Ytfgkfakhlcbdbaa.Bits
open Go Go.RowKit Go.Proofs.Ytfgkfakhlcbdbaa
set_option linter.unusedVariables false

/-- the types that a row's writing touches -/
def rowT : List TypeId := [5, 62]
/-- a row of bits at p, its memory from 'base' on -/
def RowAt (w : World) (base p : Nat) (l : List Bool) : Prop :=
  base ≤ p ∧ ∃ v, Blk w p 62 #[v, .int .i64 ((l.length % 8 : Nat) : Int)] ∧ w.ownsRow base 5 1 v (pack l).length ((pack l).map u8v)

theorem RowAt.below {w w' : World} {base p : Nat} {l : List Bool} (h : RowAt w base p l) (hb : Below w.heap.size w w') : RowAt w' base p l := by
  obtain ⟨h1, v, h2, h3⟩ := h
  exact ⟨h1, v, h2.below hb h2.lt, own_keep h3 hb⟩
theorem RowAt.lt {w : World} {base p : Nat} {l : List Bool} (h : RowAt w base p l) : p < w.heap.size := by
  obtain ⟨h1, v, h2, h3⟩ := h
  exact h2.lt
theorem RowAt.new (w : World) {base : Nat} (hb : base ≤ w.heap.size) : RowAt (w.alloc (.cells #[.slice none 0 0, .int .i64 0] 62)) base w.heap.size [] :=
  ⟨hb, .slice none 0 0, Blk.new w _ _, World.ownsRow_nil _ _ _ _⟩
theorem or_bit (y : UInt8) (b : Bool) (h : Nat) (hh : h < 8) : bits .or .u8 (n8 y) (bitI b % 256 * 2 ^ h % 256) = n8 (y ||| UInt8.ofNat (b.toNat * 2 ^ h)) := by
  have hy := y.toNat_lt
  have hb : b.toNat ≤ 1 := by cases b <;> simp
  have h2 : 2 ^ h ≤ 2 ^ 7 := Nat.pow_le_pow_right (by omega) (by omega)
  have hbb : b.toNat * 2 ^ h ≤ 1 * 2 ^ h := Nat.mul_le_mul_right _ hb
  have e : bitI b % 256 * 2 ^ h % 256 = ((b.toNat * 2 ^ h : Nat) : Int) := by
    unfold bitI
    rw [show (b.toNat : Int) % 256 = (b.toNat : Int) by omega]
    have : ((b.toNat : Int) * 2 ^ h) = ((b.toNat * 2 ^ h : Nat) : Int) := by simp
    rw [this, Int.emod_eq_of_lt (by omega) (by omega)]
  rw [e]
  unfold n8
  rw [u8_or_nat _ _ hy (by omega), UInt8.toNat_or, UInt8.toNat_ofNat', Nat.mod_eq_of_lt (by omega)]
theorem set_last (ys : List UInt8) (N : Nat) (x : UInt8) (h : ys.length = N) : (ys.map u8v ++ [Value.int .u8 0]).set N (.int .u8 (n8 x)) = (ys ++ [x]).map u8v := by
  subst h; simp [u8v]
theorem byte_one (b : Bool) (h : Nat) (hh : h = 0) (y : UInt8) (hy : y = 0) : y ||| UInt8.ofNat (b.toNat * 2 ^ h) = byteOf [b] := by
  subst hh hy; cases b <;> decide
theorem rowAt_mk {w : World} {base p g M cap h : Nat} {zs : List UInt8} {m : List Bool} (hbp : base ≤ p) (hB : Blk w p 62 #[.slice (some ⟨g, 0, none⟩) (M + 1) cap, .int .i64 (h : Int)]) (hh : h = m.length % 8)
    (hO : w.ownsRow base 5 1 (.slice (some ⟨g, 0, none⟩) (M + 1) cap) (M + 1) (zs.map u8v)) (hz : pack m = zs) : RowAt w base p m := by
  have hl : M + 1 = (pack m).length := by have := hO.1; simp at this; rw [hz]; omega
  rw [hl] at hB hO
  subst hh
  refine ⟨hbp, _, hB, ?_⟩
  rw [hz] at hO ⊢
  exact hO
set_option maxRecDepth 100000 in
set_option maxHeartbeats 800000 in
theorem put_any (base p n size : Nat) (l : List Bool) (w : World) (h : RowAt w base p l) (hn : n < 9223372036854775808) (hs : size ≤ 62) (hl : l.length + size ≤ 1099511627776) :
    Calls Try.prog 44 #[.pointer (some ⟨p, 0, none⟩), .int .i64 (n : Int), .int .i64 (size : Int)] w fun e w' => e = .returned (.tuple #[]) ∧ RowAt w' base p (l ++ numBits n size) ∧ Keeps base rowT w w' := by
  have H := Lib.hid h
  clear h
  go_enter Try.func44, Try.ntmps44
  go_wp2_with fail
  go_loopw [8] (fun i wr => ∃ k : Nat, k ≤ size ∧ i = .int .i64 k ∧ RowAt wr base p (l ++ numBits n k) ∧ Keeps base rowT w wr) (fun i _ => size - (intOf i).toNat)
  case atStart => exact ⟨0, Nat.zero_le _, rfl, by simpa [numBits] using H.out, Keeps.refl _ _ _⟩
  case round =>
    obtain ⟨k, hk, rfl, ⟨hbp, v, hblk, hown⟩, hkeep⟩ := hrel
    by_cases hlt : k < size
    · have Hs := Lib.hid (numBits_succ n k)
      have Hb := Lib.hid (and_bitI n k hn)
      have hlen : (l ++ numBits n k).length ≤ 1099511627776 := by simp [numBits_length]; omega
      generalize hm0 : l ++ numBits n k = m at *
      have Hm0 := Lib.hid hm0
      clear hm0
      have Hblk := Lib.hid hblk
      have hown' := hown
      have Hk := Lib.hid hkeep
      have hand := Hb.out
      generalize n.testBit k = b at *
      have hc0 : wr.cell? ⟨p, 0, none⟩ = some v := by rw [hblk.cell]; rfl
      have hc1 : wr.cell? ⟨p, 1, none⟩ = some (.int .i64 ((m.length % 8 : Nat) : Int)) := by rw [hblk.cell]; rfl
      have hz0 : wr.frozen? ⟨p, 0, none⟩ = false := hblk.frozen 0
      have hz1 : wr.frozen? ⟨p, 1, none⟩ = false := hblk.frozen 1
      clear hblk hown hkeep
      by_cases h8 : m.length % 8 = 0
      · have Hm := Lib.hid (pack_new m b h8)
        have Hp1 := Lib.hid hown'
        obtain ⟨h, hh⟩ : ∃ h, h = m.length % 8 := ⟨_, rfl⟩
        obtain ⟨y, hy0'⟩ : ∃ y : UInt8, y = 0 := ⟨_, rfl⟩
        have HY0 : Hid (Value.int .u8 0 = .int .u8 (n8 y)) := Lib.hid (by rw [hy0']; rfl)
        have hh8 : h < 8 := by omega
        have heq : (((h : Nat) : Int) == 0) = true := by simp; omega
        have Hb1 := Lib.hid (byte_one b h (by omega) y hy0')
        rw [← hh] at hc1 Hblk
        have Hh := Lib.hid hh
        clear hy0' hh
        have hpl : (pack m).length ≤ 1099511627776 := by rw [pack_length]; omega
        clear h8 hown'
        generalize pack m = ys at *
        generalize hN : ys.length = N at *
        have HN := Lib.hid hN
        clear hN
        have Hown2 := Lib.hid (Hp1.out.alloc (.cells #[.int .u8 0] 5))
        have Hsl := Lib.hid (slat_one wr 5 (.int .u8 0))
        have Hk2 := Lib.hid (Hk.out.alloc (Nat.le_trans hbp (Nat.le_of_lt Hblk.out.lt)) (.cells #[.int .u8 0] 5))
        have Hblk2 := Lib.hid (Hblk.out.alloc (.cells #[.int .u8 0] 5))
        have Hbs := Lib.hid (Nat.le_trans hbp (Nat.le_of_lt Hblk2.out.lt))
        go_wp2_with (at_builtin; refine wpList_app _ rfl (.tmp 20) (.tmp 21) _ rfl base 5 _ 1 1 ty8 v N (ys.map u8v) rfl Hown2.out (some ⟨wr.heap.size, 0, none⟩) 1 1 [.int .u8 0] rfl rfl Hsl.out (by simp [Value.oneCell']) (by simp) (by unfold maxLen; omega) (by omega) Hbs.out ?_; intro v2 w2 hown2 hg2 _; obtain ⟨g, cap, hv, hgb, hgl⟩ := hown2.form (by omega); subst hv; have Ho3 := Lib.hid hown2; have Hb3 := Lib.hid (Hblk2.out.grown hg2 (own_ne Hown2.out Hblk2.out (by decide))); have Hk3 := Lib.hid (Hk2.out.grown Hown2.out hg2 (by simp [rowT]) Hbs.out); clear hown2 hg2; have hd0 := Hb3.out.c0; have hd1 := Hb3.out.c1; have hy0 := Hb3.out.frozen 0)
        have HB := Lib.hid (Hb3.out.s0 (.slice (some ⟨g, 0, none⟩) (N + 1) cap))
        have HO := Lib.hid (ownsRow_setCell_other Ho3.out (a := ⟨p, 0, none⟩) (by have := own_ne Ho3.out Hb3.out (by decide); exact this) (.slice (some ⟨g, 0, none⟩) (N + 1) cap))
        have HK := Lib.hid (Hk3.out.setBlk Hb3.out (by simp [rowT]) hbp 0 (.slice (some ⟨g, 0, none⟩) (N + 1) cap))
        generalize w2.setCell ⟨p, 0, none⟩ (.slice (some ⟨g, 0, none⟩) (N + 1) cap) = W at *
        clear hd0 hd1 hy0 hc0 hc1 hz0 hz1
        have hcb : W.cell? ⟨g, N, none⟩ = some (.int .u8 (n8 y)) := by rw [HO.out.cellAt N (by omega), List.getElem?_append_right (by simp; have := HN.out; omega)]; simp [HN.out]; have := HY0.out; injection this
        have hzb : W.frozen? ⟨g, N, none⟩ = false := HO.out.frozenAt N
        have hor := or_bit y b h hh8
        have e0 := HB.out.c0
        have e1 := HB.out.c1
        generalize hx : y ||| UInt8.ofNat (b.toNat * 2 ^ h) = x at *
        have Hx := Lib.hid hx
        clear hx
        skip
        go_region
        have hpg : p ≠ g := by
          have := own_ne HO.out HB.out (by decide)
          intro hpg; subst hpg; exact this rfl
        have HB2 := Lib.hid ((HB.out.far (p := ⟨g, N, none⟩) hpg (.int .u8 (n8 x))).drew)
        have HO2 := Lib.hid (own_drew (HO.out.stored N (.int .u8 (n8 x))).1)
        have HK2 := Lib.hid ((HK.out.stored HO.out (by simp [rowT]) N (.int .u8 (n8 x))).drew)
        generalize (W.setCell ⟨g, N, none⟩ (.int .u8 (n8 x))).drew = W2 at *
        have f1 := HB2.out.c1
        have z1 := HB2.out.frozen 1
        clear hcb hzb hor e0 e1 hpg
        go_wp2_with fail
        go_roundw
        case rel =>
          refine ⟨k + 1, by omega, by go_num, ?_, HK2.out.setBlk HB2.out (by simp [rowT]) hbp 1 _⟩
          rw [Hs.out, ← List.append_assoc, Hm0.out]
          exact rowAt_mk (h := (h + 1) % 8) hbp (HB2.out.s1 _) (by have := Hh.out; simp; omega) (ownsRow_setCell_other (by have := HO2.out; rw [set_last ys N x HN.out] at this; exact this) (own_ne HO2.out HB2.out (by decide)) _) (zs := ys ++ [x]) (by rw [Hm.out, Hb1.out])
        case measure => simp [intOf]; omega
      · obtain ⟨h, hh⟩ : ∃ h, h = m.length % 8 := ⟨_, rfl⟩
        have hh0 : 0 < h := by omega
        have hh8 : h < 8 := by omega
        have hML : (pack m).length = m.length / 8 + 1 := by rw [pack_length]; omega
        have Hm := Lib.hid (pack_more m b h8)
        rw [← hh] at Hm hc1 Hblk
        have Hh := Lib.hid hh
        clear h8 hh
        obtain ⟨g, cap, hv, hgb, hgl⟩ := hown'.form (by omega)
        obtain ⟨M, hM⟩ : ∃ M, M = m.length / 8 := ⟨_, rfl⟩
        rw [← hM] at Hm hML
        have hy : ∃ y, (pack m).getD M 0 = y ∧ ((pack m).map u8v)[M]? = some (.int .u8 (n8 y)) := ⟨_, rfl, by
          rw [List.getElem?_map, List.getElem?_eq_getElem (by omega), List.getD_eq_getElem?_getD, List.getElem?_eq_getElem (by omega)]; rfl⟩
        obtain ⟨y, hy1, hy2⟩ := hy
        rw [hML] at hown' hv
        rw [hy1] at Hm
        have Hy2 := Lib.hid hy2
        have HML := Lib.hid hML
        generalize pack m = ys at *
        subst hv
        have HO := Lib.hid hown'
        have HB := Hblk
        have HK := Hk
        have hne : (((h : Nat) : Int) == 0) = false := by simp; omega
        have hMb : M ≤ 1099511627776 := by omega
        clear hown' hy1 hy2 hML hM hc0 hc1
        have hcb : wr.cell? ⟨g, M, none⟩ = some (.int .u8 (n8 y)) := by rw [HO.out.cellAt M (by omega)]; exact Hy2.out
        have hzb : wr.frozen? ⟨g, M, none⟩ = false := HO.out.frozenAt M
        have hor := or_bit y b h hh8
        have e0 := HB.out.c0
        have e1 := HB.out.c1
        generalize hx : y ||| UInt8.ofNat (b.toNat * 2 ^ h) = x at *
        have Hx := Lib.hid hx
        clear hx
        go_wp2_with fail
        go_region
        have hpg : p ≠ g := by
          have := own_ne HO.out HB.out (by decide)
          intro hpg; subst hpg; exact this rfl
        have HB2 := Lib.hid ((HB.out.far (p := ⟨g, M, none⟩) hpg (.int .u8 (n8 x))).drew)
        have HO2 := Lib.hid (own_drew (HO.out.stored M (.int .u8 (n8 x))).1)
        have HK2 := Lib.hid ((HK.out.stored HO.out (by simp [rowT]) M (.int .u8 (n8 x))).drew)
        generalize (wr.setCell ⟨g, M, none⟩ (.int .u8 (n8 x))).drew = W2 at *
        have f1 := HB2.out.c1
        have z1 := HB2.out.frozen 1
        clear hcb hzb hor e0 e1 hpg
        go_wp2_with fail
        go_roundw
        case rel =>
          refine ⟨k + 1, by omega, by go_num, ?_, HK2.out.setBlk HB2.out (by simp [rowT]) hbp 1 _⟩
          rw [Hs.out, ← List.append_assoc, Hm0.out]
          exact rowAt_mk (h := (h + 1) % 8) hbp (HB2.out.s1 _) (by have := Hh.out; simp; omega) (ownsRow_setCell_other (by rw [List.map_set]; exact HO2.out) (own_ne HO2.out HB2.out (by decide)) _) (zs := ys.set M x) Hm.out
        case measure => simp [intOf]; omega
    · obtain rfl : k = size := by omega
      have Hr := Lib.hid (show RowAt wr base p (l ++ numBits n k) from ⟨hbp, v, hblk, hown⟩)
      have Hk := Lib.hid hkeep
      clear hblk hown hkeep
      go_wp2_with fail
      go_end0
      exact ⟨rfl, Hr.out, Hk.out⟩
theorem bytes_any (p : Nat) (v x : Value) (w : World) (h : Blk w p 62 #[v, x]) :
    Calls Try.prog 31 #[.pointer (some ⟨p, 0, none⟩)] w fun e w' => e = .returned v ∧ w = w' := by
  have hv0 := h.c0
  have H := Lib.hid h
  clear h
  go_enter Try.func31, Try.ntmps31
  go_wp2
  go_ret
  exact ⟨rfl, rfl⟩
end Go.Proofs.Ytfgkfakhlcbdbaa.Bits
