/- package code: Read. -/
import Derived.Test.YtfgkfakhlcbdbaaCodeWrite0
namespace Go.Proofs.Ytfgkfakhlcbdbaa.Code
open Go Go.RowKit Go.Proofs.Ytfgkfakhlcbdbaa Go.Proofs.Ytfgkfakhlcbdbaa.Bits
set_option linter.unusedVariables false

/-- what Read says -/
def rdE (zs : List Int) (xs : List UInt8) (many : Int) : Int := if chkL zs ≠ 0 then chkL zs else if 6000 < xs.length ∨ many < 0 ∨ 3000 < many then 2 else (riter (lsOf zs) (bitsL xs) many.toNat).2.2
/-- what Read hands back -/
def ReadPost (zs : List Int) (xs : List UInt8) (many : Int) (w : World) (e : Ending) (w' : World) : Prop :=
  (rdE zs xs many ≠ 0 ∧ e = .returned (.tuple #[.slice none 0 0, .int .i64 (rdE zs xs many)]) ∨
   rdE zs xs many = 0 ∧ ∃ v, e = .returned (.tuple #[v, .int .i64 0]) ∧ w'.ownsRow w.heap.size 3 1 v (riter (lsOf zs) (bitsL xs) many.toNat).1.length ((riter (lsOf zs) (bitsL xs) many.toNat).1.map natV)) ∧ Below w.heap.size w w'
theorem TabAt.below {w w' : World} {base p : Nat} {ls : List Nat} (h : TabAt w base p ls) (hb : Below w.heap.size w w') : TabAt w' base p ls := by
  obtain ⟨h1, v, h2, h3⟩ := h
  exact ⟨h1, v, h2.below hb h2.lt, own_keep h3 hb⟩
theorem slat_lt {w : World} {b o : Nat} {cs : List Value} (h : SlAt w (some ⟨b, o, none⟩) cs) (hp : 0 < cs.length) : b < w.heap.size := by
  obtain ⟨b', o', e, hc⟩ := h hp
  injection e with e
  injection e with e1 e2
  subst e1
  exact block_lt_of_cell (hc 0 _ (List.getElem?_eq_getElem hp))
set_option maxRecDepth 100000 in
set_option maxHeartbeats 1600000 in
theorem read_go (A B : Option Addr) (n m ca cb : Nat) (zs : List Int) (xs : List UInt8) (k0 : Nat) (w : World) (hn : zs.length = n) (hm : xs.length = m) (hx : n ≤ maxLen) (hA : InAt w A zs) (hB : ByAt w B xs)
    (h0 : chkL zs = 0) (h6 : m ≤ 6000) (h3 : k0 ≤ 3000) :
    Calls Try.prog 16 #[.slice A n ca, .slice B m cb, .int .i64 (k0 : Int)] w (ReadPost zs xs k0 w) := by
  have Hn := Lib.hid hn
  have Hm := Lib.hid hm
  have HA := Lib.hid hA
  have HB := Lib.hid hB
  have Hc := check_any A n ca zs w Hn.out hx HA.out
  rw [h0] at Hc
  have HC := Lib.hid Hc
  have HM := Lib.hid (make_any A n ca zs w Hn.out HA.out h0)
  have HE : Hid (rdE zs xs k0 = (riter (lsOf zs) (bitsL xs) k0).2.2) := Lib.hid (by unfold rdE; rw [if_neg (by rw [h0]; simp), if_neg (by rw [hm]; omega), Int.toNat_natCast])
  obtain ⟨f1, f2, f3, f4, f5⟩ := chk_fine zs h0
  have F3 := Lib.hid f3
  have F4 := Lib.hid f4
  have Hll : Hid ((lsOf zs).length ≤ 288) := Lib.hid (by rw [lsOf_len]; exact f1)
  clear hn hm hA hB Hc h0 f1 f2 f3 f4 f5
  go_enter Try.func16, Try.ntmps16
  go_wp2_with fail
  refine (HC.out).mono ?_
  rintro e wx ⟨rfl, hw⟩
  have hw := hw.symm
  subst hw
  go_wp2_with fail
  refine (HM.out).mono ?_
  rintro e w1 ⟨⟨p, rfl, htab⟩, hb1⟩
  have Htab := Lib.hid htab
  have Hb1 := Lib.hid hb1
  clear htab hb1
  go_wp2_with fail
  refine (of_any B m cb w1).mono ?_
  rintro e w2 ⟨rfl, hsrc, hb2⟩
  have Hsrc := Lib.hid hsrc
  have Hb2 := Lib.hid hb2
  clear hsrc hb2
  generalize hq : w1.heap.size = q at *
  have Hq := Lib.hid hq
  clear hq
  have Hlt : Hid (∀ b o, B = some ⟨b, o, none⟩ → 0 < m → b < q) := Lib.hid (fun b o e h => by
    subst e
    have := slat_lt HB.out (by rw [List.length_map, Hm.out]; exact h)
    have h2 := Hb1.out.size
    rw [Hq.out] at h2
    omega)
  go_wp2_with fail
  go_loopw [11, 35] (fun v i wr => ∃ k : Nat, k ≤ k0 ∧ i = .int .i64 (k : Int) ∧ (∃ pos o, riter (lsOf zs) (bitsL xs) k = (o, (bitsL xs).drop pos, 0) ∧ pos ≤ 8 * m ∧ SrcAt wr q B m cb pos ∧ wr.ownsRow q 3 1 v o.length (o.map natV)) ∧ Below q w1 wr) (fun _ i _ => k0 - (intOf i).toNat)
  case atStart => exact ⟨0, Nat.zero_le _, rfl, ⟨0, [], rfl, Nat.zero_le _, Hsrc.out, World.ownsRow_nil _ _ _ _⟩, Hb2.out⟩
  case round =>
    obtain ⟨k, hk, rfl, ⟨pos, o, hit, hpos, hsrc, hown⟩, hbr⟩ := hrel
    by_cases hlt : k < k0
    · have Hit := Lib.hid hit
      have Hown := Lib.hid hown
      have Hbr := Lib.hid hbr
      have hbq : Below w1.heap.size w1 wr := by rw [Hq.out]; exact hbr
      have Hrd := Lib.hid (tread_any w.heap.size p q B m cb pos xs (lsOf zs) wr (Htab.out.below hbq) hsrc Hm.out (HB.out.below (Hb1.out.trans (hbq.mono Hb1.out.size))) hpos (by omega) Hlt.out F4.out F3.out Hll.out)
      have Hok : Hid (∀ k1 n1, next (lsOf zs) ((bitsL xs).drop pos) = (k1, n1, 0) → riter (lsOf zs) (bitsL xs) (k + 1) = (o ++ [k1], (bitsL xs).drop (pos + n1), 0)) := Lib.hid (fun k1 n1 h => by
        have := riter_ok (lsOf zs) (bitsL xs) _ k k1 n1 o Hit.out h
        rw [List.drop_drop] at this; exact this)
      have Hbad : Hid (∀ k1 n1 e1, next (lsOf zs) ((bitsL xs).drop pos) = (k1, n1, e1) → e1 ≠ 0 → rdE zs xs k0 = e1) := Lib.hid (fun k1 n1 e1 h he => by
        have h1 := riter_bad (lsOf zs) (bitsL xs) _ k k1 n1 e1 o Hit.out h he
        have h2 := riter_stays (lsOf zs) (bitsL xs) (k + 1) (k0 - (k + 1)) (by rw [h1]; exact he)
        rw [show k + 1 + (k0 - (k + 1)) = k0 by omega] at h2
        rw [HE.out, h2, h1])
      have hol : o.length ≤ 3000 := by
        have := riter_len (lsOf zs) (bitsL xs) k (by rw [Hit.out])
        rw [Hit.out] at this
        have h2 : o.length = k := this
        omega
      clear hit hpos hsrc hown hbr hbq
      go_wp2_with fail
      refine (Hrd.out).mono ?_
      rintro e w3 ⟨⟨k1, n1, e1, hnx, rfl, hs3⟩, hk3⟩
      have Hb3 := Lib.hid (Hbr.out.trans hk3.below)
      have Hown3 := Lib.hid (hk3.own Hown.out (by simp [srcT]))
      clear hk3
      by_cases he : e1 = 0
      · subst he
        have Hst := Lib.hid (Hok.out k1 n1 hnx)
        have Hs3 := Lib.hid (hs3 rfl).1
        have hps := (hs3 rfl).2
        clear hs3 hnx
        have Hown4 := Lib.hid (Hown3.out.alloc (.cells #[.int .i64 (k1 : Int)] 3))
        have Hsl := Lib.hid (slat_one w3 3 (.int .i64 (k1 : Int)))
        have Hs4 : Hid (SrcAt (w3.alloc (.cells #[.int .i64 (k1 : Int)] 3)) q B m cb (pos + n1)) := Lib.hid (Hs3.out.alloc _)
        have hqs : q ≤ w3.heap.size := Nat.le_of_lt Hs3.out.lt
        have Hb4 := Lib.hid (Hb3.out.alloc hqs (.cells #[.int .i64 (k1 : Int)] 3))
        have Hbs : Hid (q ≤ (w3.alloc (.cells #[.int .i64 (k1 : Int)] 3)).heap.size) := Lib.hid (Nat.le_of_lt Hs4.out.lt)
        go_wp2_with (at_builtin; refine wpList_app _ rfl (.tmp 46) (.tmp 48) _ rfl q 3 _ 1 8 tyI u11 o.length (o.map natV) rfl Hown4.out (some ⟨w3.heap.size, 0, none⟩) 1 1 [.int .i64 (k1 : Int)] rfl rfl Hsl.out (by simp [Value.oneCell']) (by simp) (by unfold maxLen; omega) (by omega) Hbs.out ?_; intro v5 w5 hown5 hg5 _; have Ho5 := Lib.hid hown5; have Hs5 := Lib.hid (Blk.grown Hs4.out hg5 (own_ne Hown4.out Hs4.out (by decide))); have Hb5 := Lib.hid (own_below Hown4.out hg5 Hb4.out Hbs.out); clear hown5 hg5)
        go_roundw
        case rel => exact ⟨k + 1, by omega, by go_num, ⟨pos + n1, o ++ [k1], Hst.out, hps, Hs5.out, by simpa [natV] using Ho5.out⟩, Hb5.out⟩
        case measure => simp [intOf]; omega
      · have Hf := Lib.hid (Hbad.out k1 n1 e1 hnx he)
        have h1 : (e1 == 0) = false := by simpa using he
        clear hs3 hnx
        go_wp2_with fail
        go_ret2
        refine ⟨.inl ⟨by rw [Hf.out]; exact he, by rw [Hf.out]; rfl⟩, ?_⟩
        exact Hb1.out.trans (Hb3.out.mono (by rw [← Hq.out]; exact Hb1.out.size))
    · obtain rfl : k = k0 := by omega
      have Hit := Lib.hid hit
      have Hown := Lib.hid hown
      have Hbr := Lib.hid hbr
      clear hit hpos hsrc hown hbr
      go_wp2_with fail
      go_ret2
      refine ⟨.inr ⟨by rw [HE.out, Hit.out], _, rfl, ?_⟩, Hb1.out.trans (Hbr.out.mono (by rw [← Hq.out]; exact Hb1.out.size))⟩
      rw [Int.toNat_natCast, Hit.out]
      exact own_base Hown.out (by rw [← Hq.out]; exact Hb1.out.size)
theorem read_no (A B : Option Addr) (n m ca cb : Nat) (zs : List Int) (xs : List UInt8) (k : Int) (w : World) (hn : zs.length = n) (hm : xs.length = m) (hx : n ≤ maxLen) (hy : m ≤ maxLen) (hA : InAt w A zs)
    (hno : chkL zs ≠ 0 ∨ 6000 < m ∨ k < 0 ∨ 3000 < k) :
    Calls Try.prog 16 #[.slice A n ca, .slice B m cb, .int .i64 k] w (ReadPost zs xs k w) := by
  have HC := Lib.hid (check_any A n ca zs w hn hx hA)
  unfold maxLen at hx hy
  by_cases h0 : chkL zs = 0
  · have Hf : Hid (rdE zs xs k = 2) := Lib.hid (by unfold rdE; rw [if_neg (by rw [h0]; simp), if_pos (by rw [hm]; rcases hno with h | h; exact absurd h0 h; exact h)])
    rw [h0] at HC
    have hno : 6000 < m ∨ k < 0 ∨ 3000 < k := by rcases hno with h | h; exact absurd h0 h; exact h
    clear hn hm hA h0
    by_cases h6 : 6000 < (m : Int)
    · clear hno
      go_enter Try.func16, Try.ntmps16
      go_wp2_with fail
      refine (HC.out).mono ?_
      rintro e w1 ⟨rfl, rfl⟩
      go_wp2_with fail
      go_ret2
      exact ⟨.inl ⟨by rw [Hf.out]; decide, by rw [Hf.out]; rfl⟩, Below.refl _ _⟩
    · have d6 : decide (6000 < (m : Int)) = false := by simp; omega
      by_cases h7 : k < 0
      · clear hno
        go_enter Try.func16, Try.ntmps16
        go_wp2_with fail
        refine (HC.out).mono ?_
        rintro e w1 ⟨rfl, rfl⟩
        go_wp2_with fail
        go_ret2
        exact ⟨.inl ⟨by rw [Hf.out]; decide, by rw [Hf.out]; rfl⟩, Below.refl _ _⟩
      · have h8 : 3000 < k := by omega
        have d7 : decide (k < 0) = false := by simp; omega
        clear hno
        go_enter Try.func16, Try.ntmps16
        go_wp2_with fail
        refine (HC.out).mono ?_
        rintro e w1 ⟨rfl, rfl⟩
        go_wp2_with fail
        go_ret2
        exact ⟨.inl ⟨by rw [Hf.out]; decide, by rw [Hf.out]; rfl⟩, Below.refl _ _⟩
  · have Hf : Hid (rdE zs xs k = chkL zs) := Lib.hid (by unfold rdE; rw [if_pos h0])
    clear hn hm hA hno
    generalize chkL zs = z at *
    have h1 : (z == 0) = false := by simpa using h0
    go_enter Try.func16, Try.ntmps16
    go_wp2_with fail
    refine (HC.out).mono ?_
    rintro e w1 ⟨rfl, rfl⟩
    go_wp2_with fail
    go_ret2
    exact ⟨.inl ⟨by rw [Hf.out]; exact h0, by rw [Hf.out]; rfl⟩, Below.refl _ _⟩
theorem read_any (A B : Option Addr) (n m ca cb : Nat) (zs : List Int) (xs : List UInt8) (k : Int) (w : World) (hn : zs.length = n) (hm : xs.length = m) (hx : n ≤ maxLen) (hy : m ≤ maxLen) (hA : InAt w A zs) (hB : ByAt w B xs) :
    Calls Try.prog 16 #[.slice A n ca, .slice B m cb, .int .i64 k] w (ReadPost zs xs k w) := by
  by_cases hno : chkL zs ≠ 0 ∨ 6000 < m ∨ k < 0 ∨ 3000 < k
  · exact read_no A B n m ca cb zs xs k w hn hm hx hy hA hno
  · have h0 : chkL zs = 0 := by
      rcases Int.decEq (chkL zs) 0 with h | h
      · exact absurd (.inl h) hno
      · exact h
    obtain ⟨k0, rfl⟩ := Int.eq_ofNat_of_zero_le (by omega : 0 ≤ k)
    exact read_go A B n m ca cb zs xs k0 w hn hm hx hA hB h0 (by omega) (by omega)
end Go.Proofs.Ytfgkfakhlcbdbaa.Code
