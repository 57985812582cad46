/- package code: Write. -/
import Derived.Test.YtfgkfakhlcbdbaaCodeRow
import Derived.Test.YtfgkfakhlcbdbaaFuncI
import Derived.StillTailTactics
namespace Go.Proofs.Ytfgkfakhlcbdbaa.Code
open Go Go.RowKit Go.Proofs.Ytfgkfakhlcbdbaa Go.Proofs.Ytfgkfakhlcbdbaa.Bits
set_option linter.unusedVariables false

/-- a place that no code is of -/
def badPl (zs : List Int) (k : Int) : Bool := decide (k < 0) || decide ((zs.length : Int) ≤ k) || decide (zs.getD k.toNat 0 = 0)
/-- what Write says -/
def wrE (zs ps : List Int) : Int := if chkL zs ≠ 0 then chkL zs else if 3000 < ps.length then 2 else if ps.any (badPl zs) = true then 5 else 0
set_option maxHeartbeats 800000 in
theorem badPl_any (g0 : Nat) (A : Option Addr) (n c : Nat) (zs : List Int) (x : Int) (w : World) (hn : zs.length = n) (hg : Blk w g0 22 #[.slice A n c]) (hA : InAt w A zs) :
    Calls Try.prog 28 #[.int .i64 x, .pointer (some ⟨g0, 0, none⟩)] w fun e w' => e = .returned (.bool (badPl zs x)) ∧ Below w.heap.size w w' := by
  have hc0 : w.cell? ⟨g0, 0, none⟩ = some (.slice A n c) := by rw [hg.cell]; rfl
  by_cases h1 : x < 0
  · have Hb : Hid (badPl zs x = true) := Lib.hid (by simp [badPl, h1])
    clear hg hA
    go_enter Try.func28, Try.ntmps28
    go_wp2
    go_ret
    exact ⟨ret_bool Hb.out.symm, Below.refl _ _⟩
  · have hb1 : decide (x < 0) = false := by simp; omega
    by_cases h2 : (n : Int) ≤ x
    · have Hb : Hid (badPl zs x = true) := Lib.hid (by simp [badPl, hn, h2])
      clear hg hA
      go_enter Try.func28, Try.ntmps28
      go_wp2
      go_ret
      exact ⟨ret_bool Hb.out.symm, Below.refl _ _⟩
    · have hb2 : decide ((n : Int) ≤ x) = false := by simp; omega
      obtain ⟨k, rfl⟩ := Int.eq_ofNat_of_zero_le (by omega : 0 ≤ x)
      have hk : k < zs.length := by omega
      obtain ⟨b, o, rfl, hcell⟩ := hA.get hk
      have Hb : Hid (badPl zs k = (zs[k] == 0)) := Lib.hid (by
        have h3 : ¬ ((zs.length : Int) ≤ (k : Int)) := by omega
        have h4 : ¬ ((k : Int) < 0) := by omega
        have e : zs.getD (k : Int).toNat 0 = zs[k] := by simp [List.getD_eq_getElem?_getD, hk]
        unfold badPl
        rw [e, decide_eq_false h4, decide_eq_false h3]
        by_cases h5 : zs[k] = 0 <;> simp [h5])
      clear hg hn
      generalize zs[k] = z at *
      by_cases h0 : z = 0
      · subst h0
        have hz : ((0 : Int) == 0) = true := rfl
        go_enter Try.func28, Try.ntmps28
        go_wp2
        go_ret
        exact ⟨ret_bool Hb.out.symm, Below.refl _ _⟩
      · have hz : (z == 0) = false := by simpa using h0
        rw [hz] at Hb
        go_enter Try.func28, Try.ntmps28
        go_wp2
        go_ret
        exact ⟨ret_bool Hb.out.symm, Below.refl _ _⟩
theorem good_pl (zs : List Int) (x : Int) (h : badPl zs x = false) : ∃ k : Nat, x = (k : Int) ∧ ∃ hk : k < zs.length, zs[k] ≠ 0 := by
  simp [badPl] at h
  obtain ⟨⟨h1, h2⟩, h3⟩ := h
  obtain ⟨k, rfl⟩ := Int.eq_ofNat_of_zero_le h1
  have hk : k < zs.length := by omega
  refine ⟨k, rfl, hk, ?_⟩
  simpa [List.getD_eq_getElem?_getD, hk] using h3
/-- what Write hands back -/
def WritePost (zs ps : List Int) (w : World) (e : Ending) (w' : World) : Prop :=
  (wrE zs ps ≠ 0 ∧ e = .returned (.tuple #[.slice none 0 0, .int .i64 (wrE zs ps)]) ∨
   wrE zs ps = 0 ∧ ∃ v, e = .returned (.tuple #[v, .int .i64 0]) ∧ w'.ownsRow w.heap.size 5 1 v (pack (wbits (lsOf zs) (lsOf ps))).length ((pack (wbits (lsOf zs) (lsOf ps))).map u8v)) ∧ Below w.heap.size w w'
theorem wbits_snoc (ls ps : List Nat) (k : Nat) : wbits ls (ps ++ [k]) = wbits ls ps ++ hi (ls.getD k 0) (codeOf ls k) := by simp [wbits]
theorem wbits_len (ls ps : List Nat) (hl : ∀ x ∈ ls, x ≤ 15) : (wbits ls ps).length ≤ 15 * ps.length := by
  induction ps with
  | nil => simp [wbits]
  | cons a ps ih =>
    unfold wbits at ih ⊢
    rw [List.flatMap_cons, List.length_append, hi_length, List.length_cons]
    have : ls.getD a 0 ≤ 15 := by
      rw [List.getD_eq_getElem?_getD]
      by_cases h : a < ls.length
      · rw [List.getElem?_eq_getElem h]; exact hl _ (List.getElem_mem h)
      · rw [List.getElem?_eq_none (by omega)]; simp
    omega
theorem codesL_get (ls : List Nat) (k : Nat) (h : k < ls.length) : (codesL ls)[k]'(by simp [codesL]; exact h) = codeOf ls k := by simp [codesL]
set_option maxRecDepth 100000 in
set_option maxHeartbeats 1600000 in
theorem write_any (A B : Option Addr) (n m ca cb : Nat) (zs ps : List Int) (w : World) (hn : zs.length = n) (hm : ps.length = m) (hx : n ≤ maxLen) (hy : m ≤ maxLen) (hA : InAt w A zs) (hB : InAt w B ps) :
    Calls Try.prog 6 #[.slice A n ca, .slice B m cb] w (WritePost zs ps w) := by
  have Hn := Lib.hid hn
  have Hm := Lib.hid hm
  have HA := Lib.hid hA
  have HB := Lib.hid hB
  clear hn hm hA hB
  have Hb0 := Lib.hid ((Below.refl w.heap.size w).alloc (Nat.le_refl _) (.cells #[.slice A n ca] 22))
  have Hg0 := Lib.hid (Blk.new w 22 #[.slice A n ca])
  have Hc := Lib.hid (check_any A n ca zs (w.alloc (.cells #[.slice A n ca] 22)) Hn.out hx (HA.out.below Hb0.out))
  go_enter Try.func6, Try.ntmps6
  go_wp2_with fail
  refine (Hc.out).mono ?_
  rintro e w1 ⟨rfl, rfl⟩
  generalize hw0 : w.alloc (.cells #[.slice A n ca] 22) = w0 at *
  generalize hg0 : w.heap.size = g0 at *
  have Hgg := Lib.hid hg0
  clear hw0 hg0
  by_cases h0 : chkL zs = 0
  · have H0 := Lib.hid h0
    rw [h0]
    clear h0
    unfold maxLen at hy hx
    by_cases h3 : 3000 < (m : Int)
    · have Hf : Hid (wrE zs ps = 2) := Lib.hid (by unfold wrE; rw [if_neg (by rw [H0.out]; simp), if_pos (by rw [Hm.out]; omega)])
      go_wp2_with fail
      go_ret2
      exact ⟨.inl ⟨by rw [Hf.out]; decide, by rw [Hf.out]; rfl⟩, by rw [Hgg.out]; exact Hb0.out⟩
    · have hcb : w0.cell? ⟨g0, 0, none⟩ = some (.slice A n ca) := by rw [Hg0.out.cell]; rfl
      go_wp2_with fail
      refine (containsFunc_ints B m cb ps 28 #[.pointer (some ⟨g0, 0, none⟩)] (badPl zs) _ Hm.out (by unfold maxLen; omega) (HB.out.below (by rw [Hgg.out]; exact Hb0.out)) (fun _ _ => by kernel_rfl) (fun x _ w' hb' => ?_)).mono ?_
      · exact badPl_any g0 A n ca zs x w' Hn.out (Hg0.out.below hb' Hg0.out.lt) ((HA.out.below (by rw [Hgg.out]; exact Hb0.out)).below hb')
      rintro e w1 ⟨rfl, hb1⟩
      have Hb1 := Lib.hid (Hb0.out.trans (hb1.mono (by rw [← Hgg.out]; exact Hb0.out.size)))
      have Hg1 := Lib.hid (Hg0.out.below hb1 Hg0.out.lt)
      clear hb1
      cases hany : ps.any (badPl zs) with
      | true =>
        have Hf : Hid (wrE zs ps = 5) := Lib.hid (by unfold wrE; rw [if_neg (by rw [H0.out]; simp), if_neg (by rw [Hm.out]; omega), if_pos hany])
        clear hany
        go_wp2_with fail
        go_ret2
        exact ⟨.inl ⟨by rw [Hf.out]; decide, by rw [Hf.out]; rfl⟩, by rw [Hgg.out]; exact Hb1.out⟩
      | false =>
        have Hf : Hid (wrE zs ps = 0) := Lib.hid (by unfold wrE; rw [if_neg (by rw [H0.out]; simp), if_neg (by rw [Hm.out]; omega), if_neg (by rw [hany]; simp)])
        have Hgood : Hid (∀ x ∈ ps, badPl zs x = false) := Lib.hid (fun x hx => by
          have := List.any_eq_false.1 hany x hx
          simpa using this)
        have hcb1 : w1.cell? ⟨g0, 0, none⟩ = some (.slice A n ca) := by rw [Hg1.out.cell]; rfl
        have Hcodes := Lib.hid (codes_any A n ca zs w1 Hn.out (HA.out.below (by rw [Hgg.out]; exact Hb1.out)) H0.out)
        obtain ⟨f1, f2, f3, f4, f5⟩ := chk_fine zs H0.out
        have F4 := Lib.hid f4
        have F5 := Lib.hid f5
        have Hacc := Lib.hid (fun i hi h0 => codeOf_lt (lsOf zs) i hi h0 f4 f3)
        clear hany hcb f1 f2 f3 f4 f5
        go_wp2_with fail
        refine (Hcodes.out).mono ?_
        rintro e w2 ⟨⟨g2, rfl, hg2, hbl2⟩, hb2⟩
        have Hb2 := Lib.hid (Hb1.out.trans (hb2.mono (by rw [← Hgg.out]; exact Hb1.out.size)))
        have Hg2 := Lib.hid (Hg1.out.below hb2 Hg1.out.lt)
        have Hbl2 := Lib.hid hbl2
        have Hrow0 := Lib.hid (RowAt.new w2 (base := w2.heap.size) (Nat.le_refl _))
        clear hb2 hbl2 hcb1 hg2
        go_wp2_with fail
        have Hb3 := Lib.hid (Hb2.out.alloc (by rw [← Hgg.out]; exact Hb2.out.size) (.cells #[.slice none 0 0, .int .i64 0] 62))
        have Hg3 := Lib.hid (Hg2.out.alloc (.cells #[.slice none 0 0, .int .i64 0] 62))
        have Hbl3 := Lib.hid (Hbl2.out.alloc (.cells #[.slice none 0 0, .int .i64 0] 62))
        have Hl0 := Lib.hid Hg2.out.lt
        have Hl2 := Lib.hid Hbl2.out.lt
        clear Hb2 Hg2 Hbl2
        generalize w2.alloc (.cells #[.slice none 0 0, .int .i64 0] 62) = w3 at *
        generalize w2.heap.size = p0 at *
        go_loopw [26] (fun i wr => ∃ k : Nat, k ≤ m ∧ i = .int .i64 (k : Int) ∧ RowAt wr p0 p0 (wbits (lsOf zs) (lsOf (ps.take k))) ∧ Keeps p0 rowT w3 wr) (fun i _ => m - (intOf i).toNat)
        case atStart => exact ⟨0, Nat.zero_le _, rfl, Hrow0.out, Keeps.refl _ _ _⟩
        case round =>
          obtain ⟨k, hk, rfl, hrow, hkp⟩ := hrel
          have Hrow := Lib.hid hrow
          have Hkp := Lib.hid hkp
          have Hbr := Lib.hid (Hb3.out.trans (hkp.below.mono (by have := Hl0.out; omega)))
          clear hrow hkp
          by_cases hkm : k < m
          · have hkl : k < ps.length := by rw [Hm.out]; exact hkm
            obtain ⟨b, o, rfl, hcell⟩ := (HB.out.below (by rw [Hgg.out]; exact Hbr.out)).get hkl
            obtain ⟨j, hj1, hj2, hj3⟩ := good_pl zs _ (Hgood.out _ (List.getElem_mem hkl))
            have Htk := Lib.hid (lsOf_take ps k hkl)
            rw [hj1, Int.toNat_natCast] at Htk
            rw [hj1] at hcell
            clear hj1 hkl
            obtain ⟨b2, o2, rfl, hcz⟩ := (HA.out.below (by rw [Hgg.out]; exact Hbr.out)).get hj2
            have hz := F5.out zs[j] (List.getElem_mem hj2)
            have Hd := Lib.hid (getD_of zs j hj2)
            have hjl : j < (lsOf zs).length := by rw [lsOf_len]; exact hj2
            have hjc : j < (codesL (lsOf zs)).length := by simp [codesL]; exact hjl
            have hcc : wr.cell? ⟨g2, j, none⟩ = some (.int .i64 (codeOf (lsOf zs) j : Int)) := by
              rw [(show Blk wr g2 3 _ from (Hkp.out.block g2 Hl2.out).trans Hbl3.out).cell, nats_get _ _ hjc, codesL_get _ _ hjl]
            have hcb : wr.cell? ⟨g0, 0, none⟩ = some (.slice (some ⟨b2, o2, none⟩) n ca) := by
              rw [(show Blk wr g0 22 _ from (Hkp.out.block g0 Hl0.out).trans Hg3.out).cell]; rfl
            have Ha := Hacc.out j hjl
            rw [Hd.out] at Ha
            have hjn : j < n := by rw [← Hn.out]; exact hj2
            have Hwl := Lib.hid (wbits_len (lsOf zs) (lsOf (ps.take k)) F4.out)
            have Hsn := Lib.hid (wbits_snoc (lsOf zs) (lsOf (ps.take k)) j)
            rw [Hd.out, ← Htk.out] at Hsn
            have hll : (lsOf (ps.take k)).length ≤ k := by rw [lsOf_len]; simp; omega
            generalize zs[j] = z at *
            obtain ⟨x, rfl⟩ := Int.eq_ofNat_of_zero_le hz.1
            rw [Int.toNat_natCast] at Ha Hsn
            have hcl : codeOf (lsOf zs) j < 2 ^ x := Ha (by omega)
            have h215 : (2 : Nat) ^ x ≤ 2 ^ 15 := Nat.pow_le_pow_right (by omega) (by omega)
            have Hwb : Hid ((wbits (lsOf zs) (lsOf (ps.take k))).length + x ≤ 1099511627776) := Lib.hid (by have := Hwl.out; omega)
            clear Hwl hll Ha hjl hjc
            generalize codeOf (lsOf zs) j = cd at *
            have hcd : cd < 9223372036854775808 := by omega
            clear hcl h215
            go_wp2_with fail
            go_still_tail 8, (by kernel_rfl)
            change wpList _ _ _ _ _ wr.drew
            have Hrw : Hid (RowAt wr.drew p0 p0 (wbits (lsOf zs) (lsOf (ps.take k)))) := Hrow
            have Hkd := Lib.hid (Hkp.out.drew)
            clear Hrow Hkp hcc hcb hcz hcell
            generalize wr.drew = wd at *
            have Hcall := Lib.hid (code_any p0 p0 cd x _ wd Hrw.out hcd (by omega) Hwb.out)
            rw [← Hsn.out] at Hcall
            go_wp2_with fail
            refine (Hcall.out).mono ?_
            rintro e w5 ⟨rfl, hr5, hk5⟩
            have Hr5 := Lib.hid hr5
            have Hk5 := Lib.hid (Hkd.out.trans hk5)
            clear hr5 hk5
            go_wp2_with fail
            go_roundw
            case rel => exact ⟨k + 1, by omega, by go_num, Hr5.out, Hk5.out⟩
            case measure => simp [intOf]; omega
          · obtain rfl : k = m := by omega
            have Hal : Hid (ps.take k = ps) := Lib.hid (List.take_of_length_le (by rw [Hm.out]; exact Nat.le_refl _))
            rw [Hal.out] at Hrow
            obtain ⟨hpp, v, hv1, hv2⟩ := Hrow.out
            have hby := Lib.hid (bytes_any p0 v _ wr hv1)
            have Hv2 := Lib.hid hv2
            clear hv1 hv2
            go_wp2_with fail
            refine (hby.out).mono ?_
            rintro e w5 ⟨rfl, rfl⟩
            go_wp2_with fail
            go_ret2
            exact ⟨.inr ⟨Hf.out, v, rfl, own_base Hv2.out (by rw [Hgg.out]; have := Hl0.out; omega)⟩, by rw [Hgg.out]; exact Hbr.out⟩
  · have Hw : Hid (wrE zs ps = chkL zs) := Lib.hid (by unfold wrE; rw [if_pos h0])
    generalize chkL zs = z at *
    have h1 : (z == 0) = false := by simpa using h0
    go_wp2_with fail
    go_ret2
    exact ⟨.inl ⟨by rw [Hw.out]; exact h0, by rw [Hw.out]; rfl⟩, by rw [Hgg.out]; exact Hb0.out⟩
end Go.Proofs.Ytfgkfakhlcbdbaa.Code
