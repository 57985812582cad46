/- texts joined: BlkBody MatchIndex MatchFind MatchTok BlkOne BlkPack EqualB BlkBest SumPure. -/
import Derived.Test.YthpdcnjaodjjmaaGreatGzUnpackQ5
import Derived.Test.YthpdcnjaodjjmaaGreatGzUnpackQ1
import Derived.DeepKeys4
import Derived.WideKeyEntry
import Derived.Test.YthpdcnjaodjjmaaGreatGzUnpackQ4
import Derived.Test.YthpdcnjaodjjmaaGreatProg
import Derived.Laws.BytesArg
import Derived.Shelf.Bytes.SlSmallAll
/- package block: body: the walk. -/
namespace Go.Proofs.YthpdcnjaodjjmaaGreat.Blk
open Go Go.RowKit Go.Proofs.YthpdcnjaodjjmaaGreat Go.Proofs.YthpdcnjaodjjmaaGreat.Bits Go.Proofs.YthpdcnjaodjjmaaGreat.Code Go.Proofs.YthpdcnjaodjjmaaGreat.Inf Go.Proofs.YthpdcnjaodjjmaaGreat.Match Go.Proofs.YthpdcnjaodjjmaaGreat.SP Go.Proofs.YthpdcnjaodjjmaaGreat.Rt
set_option linter.unusedVariables false

set_option maxRecDepth 100000 in
set_option maxHeartbeats 1600000 in
theorem put1_any (base p g4 g8 g6 n c8 c6 k : Nat) (A8 A6 : Option Addr) (lit : List Nat) (r : List Bool) (w : World) (hr : RowAt w base p r) (h4 : w.cell? ⟨g4, 0, none⟩ = some (.pointer (some ⟨p, 0, none⟩))) (h8 : w.cell? ⟨g8, 0, none⟩ = some (.slice A8 n c8)) (h6 : w.cell? ⟨g6, 0, none⟩ = some (.slice A6 n c6))
  (hC : KAt w 3 A8 ((codesL lit).map natV)) (hL : KAt w 3 A6 (lit.map natV)) (hn : lit.length = n) (hn2 : n ≤ 288) (hk : k < n) (hc : Cd lit) (hrl : r.length ≤ 1000000000) :
  Calls Tryz.prog 57 #[.int .i64 (k : Int), .pointer (some ⟨g4, 0, none⟩), .pointer (some ⟨g8, 0, none⟩), .pointer (some ⟨g6, 0, none⟩)] w fun e w' => e = .returned (.tuple #[]) ∧ RowAt w' base p (r ++ codeB lit k) ∧ Keeps base rowT w w' := by
 obtain ⟨b8, o8, rfl, hc8⟩ := kat_cell hC (i := k) (by unfold codesL; rw [List.length_map, List.length_range, hn]; exact hk)
 obtain ⟨b6, o6, rfl, hc6⟩ := kat_cell hL (i := k) (by rw [hn]; exact hk)
 rw [codesL_getD lit k (by rw [hn]; exact hk)] at hc8
 have hcd := codeOf_small lit k hc
 have hsz := hc.bits (i := k)
 have Hcb : Hid (codeB lit k = hi (lit.getD k 0) (codeOf lit k)) := Lib.hid rfl
 have HR := Lib.hid hr
 have hk' : (k : Int) < (n : Int) := by omega
 have hbs := Lib.hid hr.1
 generalize codeOf lit k = cd at *
 generalize lit.getD k 0 = sz at *
 clear hr hC hL hn hc
 go_enter Tryz.func57, Tryz.ntmps57
 go_wp2_with fail
 go_still_tail 9, (by kernel_rfl)
 change wpList _ _ _ _ _ w.drew
 have HRow : Hid (RowAt w.drew base p r) := HR
 have HKd := Lib.hid ((Keeps.refl base rowT w).drew)
 clear h4 h8 h6 hc8 hc6 HR
 have HP := Lib.hid (code_any base p cd sz r w.drew HRow.out (by omega) (by omega) (by omega))
 rw [← Hcb.out] at HP
 generalize w.drew = wd at *
 go_wp2_with fail
 refine (HP.out).mono ?_
 rintro e w2 ⟨rfl, hrow, hkp⟩
 have HRow2 := Lib.hid hrow
 have HK2 := Lib.hid (HKd.out.trans hkp)
 clear hrow hkp HP HRow HKd
 go_wp2_with fail
 go_end0
 exact ⟨rfl, HRow2.out, HK2.out⟩
theorem ex_cell {w : World} {A : Option Addr} {l : List (Nat × Nat)} (h : KAt w 112 A (l.flatMap exC)) {i : Nat} (hi : i < l.length) :
  ∃ b o, A = some ⟨b, o, none⟩ ∧ w.cell? ⟨b, o + i * 2, none⟩ = some (.int .i64 ((l.getD i (0, 0)).1 : Int)) ∧ w.cell? ⟨b, o + i * 2 + 1, none⟩ = some (.int .i64 ((l.getD i (0, 0)).2 : Int)) := by
 obtain ⟨b, o, e, hc⟩ := slat_elem (size := 2) (fun _ => rfl) (by omega) h.slat hi
 have h0 := hc 0 _ rfl
 have h1 := hc 1 _ rfl
 have eg : l.getD i (0, 0) = l[i] := by rw [List.getD_eq_getElem?_getD, List.getElem?_eq_getElem hi]; rfl
 rw [eg]
 exact ⟨b, o, e, h0, h1⟩
def TokS (t : Tok) : Prop := t.2.1 = 0 ∨ ∃ s f : Nat, t.2.1 = (s : Int) ∧ t.2.2 = (f : Int) ∧ 3 ≤ s ∧ s ≤ 258 ∧ 1 ≤ f ∧ f ≤ 3000
theorem tokB_len (lit far : List Nat) (t : Tok) (hc : Cd lit) (hd : Cd far) : (tokB lit far t).length ≤ 48 := by
 unfold tokB
 split
 ·rw [codeB_length]; have := hc.bits (i := t.1.toNat); omega
 ·simp only [List.length_append, codeB_length, numBits_length]
  have h1 := hc.bits (i := 257 + symS sameL t.2.1.toNat)
  have h2 := hd.bits (i := symS farL t.2.2.toNat)
  have h3 : ∀ k, (sameL.getD k (0, 0)).2 ≤ 5 := fun k => by
   rcases Nat.lt_or_ge k 29 with h | h
   ·exact (by decide : ∀ k < 29, (sameL.getD k (0, 0)).2 ≤ 5) k h
   ·rw [List.getD_eq_getElem?_getD, List.getElem?_eq_none (show sameL.length ≤ k from h)]; exact Nat.zero_le _
  have h4 : ∀ k, (farL.getD k (0, 0)).2 ≤ 13 := fun k => by
   rcases Nat.lt_or_ge k 30 with h | h
   ·exact (by decide : ∀ k < 30, (farL.getD k (0, 0)).2 ≤ 13) k h
   ·rw [List.getD_eq_getElem?_getD, List.getElem?_eq_none (show farL.length ≤ k from h)]; exact Nat.zero_le _
  have := h3 (symS sameL t.2.1.toNat)
  have := h4 (symS farL t.2.2.toNat)
  omega
set_option maxRecDepth 100000 in
set_option maxHeartbeats 8000000 in
theorem body_any (base p : Nat) (r : List Bool) (At : Option Addr) (mt ct : Nat) (l : List Tok) (A : Option Addr) (n ca : Nat) (lit : List Nat) (B : Option Addr) (m cb : Nat) (far : List Nat) (w : World) (hr : RowAt w base p r)
  (hT : KAt w 96 At (l.flatMap tokD)) (hA : KAt w 3 A (lit.map natV)) (hB : KAt w 3 B (far.map natV))
  (lt : l.length = mt) (hmt : mt ≤ 3000) (l1 : lit.length = n) (l2 : far.length = m) (hn : n ≤ 288) (hn0 : 286 ≤ n) (hm : m ≤ 32) (hm0 : 30 ≤ m) (c1 : Cd lit) (c2 : Cd far) (hts : ∀ t ∈ l, TokS t) (hrl : r.length ≤ 100000000) :
  Calls Tryz.prog 30 #[.pointer (some ⟨p, 0, none⟩), .slice At mt ct, .slice A n ca, .slice B m cb] w fun e w' => e = .returned (.tuple #[]) ∧ RowAt w' base p (r ++ bodyB l lit far) ∧ Keeps base rowT w w' := by
 have HR := Lib.hid hr
 have HT := Lib.hid hT
 have HA := Lib.hid hA
 have HB := Lib.hid hB
 have LT := Lib.hid lt
 have L1 := Lib.hid l1
 have L2 := Lib.hid l2
 have C1 := Lib.hid c1
 have C2 := Lib.hid c2
 have HTS := Lib.hid hts
 have hbw : base ≤ w.heap.size := Nat.le_trans hr.1 (Nat.le_of_lt hr.lt)
 clear hr hT hA hB lt l1 l2 c1 c2 hts
 -- the boxes
 have Hb1 := Lib.hid (((Below.refl w.heap.size w).alloc (Nat.le_refl _) (.cells #[.pointer (some ⟨p, 0, none⟩)] 44)).alloc (by simp) (.cells #[.slice A n ca] 23))
 have Hg4 : Hid (Blk ((w.alloc (.cells #[.pointer (some ⟨p, 0, none⟩)] 44)).alloc (.cells #[.slice A n ca] 23)) w.heap.size 44 #[.pointer (some ⟨p, 0, none⟩)]) := Lib.hid ((Blk.new w _ _).alloc _)
 have Hg6 : Hid (Blk ((w.alloc (.cells #[.pointer (some ⟨p, 0, none⟩)] 44)).alloc (.cells #[.slice A n ca] 23)) (w.heap.size + 1) 23 #[.slice A n ca]) := Lib.hid (by
  have := Blk.new (w.alloc (.cells #[.pointer (some ⟨p, 0, none⟩)] 44)) 23 #[.slice A n ca]
  rw [World.size_alloc] at this; exact this)
 have HC1 := Lib.hid (ccodes_any A n ca lit ((w.alloc (.cells #[.pointer (some ⟨p, 0, none⟩)] 44)).alloc (.cells #[.slice A n ca] 23)) L1.out hn (HA.out.below Hb1.out).slat C1.out)
 go_enter Tryz.func30, Tryz.ntmps30
 go_wp2_with fail
 refine (HC1.out).mono ?_
 rintro e w1 ⟨⟨gl, rfl, hgl, hBl⟩, hb1⟩
 have Hg4' := Lib.hid (Hg4.out.below hb1 Hg4.out.lt)
 have Hg6' := Lib.hid (Hg6.out.below hb1 Hg6.out.lt)
 have Hb2 := Lib.hid (Hb1.out.trans (hb1.mono Hb1.out.size))
 have HGl := Lib.hid (nats_kat hBl)
 clear HC1 hBl hb1 Hg4 Hg6 Hb1 hgl
 -- the box of the codes
 have hba : Below w1.heap.size w1 (w1.alloc (.cells #[.slice (some ⟨gl, 0, none⟩) n n] 23)) := (Below.refl _ _).alloc (Nat.le_refl _) _
 have Hg8 : Hid (Blk (w1.alloc (.cells #[.slice (some ⟨gl, 0, none⟩) n n] 23)) w1.heap.size 23 #[.slice (some ⟨gl, 0, none⟩) n n]) := Lib.hid (Blk.new _ _ _)
 have Hg4 := Lib.hid (Hg4'.out.below hba Hg4'.out.lt)
 have Hg6 := Lib.hid (Hg6'.out.below hba Hg6'.out.lt)
 have Hb3 := Lib.hid (Hb2.out.trans (hba.mono Hb2.out.size))
 have HGl2 := Lib.hid (HGl.out.below hba)
 have HC2 := Lib.hid (ccodes_any B m cb far (w1.alloc (.cells #[.slice (some ⟨gl, 0, none⟩) n n] 23)) L2.out (by omega) (HB.out.below Hb3.out).slat C2.out)
 clear hba Hb2 Hg4' Hg6' HGl
 go_wp2_with fail
 refine (HC2.out).mono ?_
 rintro e w2 ⟨⟨gf, rfl, hgf, hBf⟩, hb2⟩
 have Hg4' := Lib.hid (Hg4.out.below hb2 Hg4.out.lt)
 have Hg6' := Lib.hid (Hg6.out.below hb2 Hg6.out.lt)
 have Hg8' := Lib.hid (Hg8.out.below hb2 Hg8.out.lt)
 have HGl := Lib.hid (HGl2.out.below hb2)
 have HGf := Lib.hid (nats_kat hBf)
 have Hb4 := Lib.hid (Hb3.out.trans (hb2.mono Hb3.out.size))
 clear HC2 hBf hb2 Hg4 Hg6 Hg8 Hb3 HGl2 hgf
 go_wp2_with fail
 refine (sames_any _).mono ?_
 rintro e w3 ⟨A3, c3, rfl, ho3, hb3⟩
 have Hg4 := Lib.hid (Hg4'.out.below hb3 Hg4'.out.lt)
 have Hg6 := Lib.hid (Hg6'.out.below hb3 Hg6'.out.lt)
 have Hg8 := Lib.hid (Hg8'.out.below hb3 Hg8'.out.lt)
 have HGl2 := Lib.hid (HGl.out.below hb3)
 have HGf2 := Lib.hid (HGf.out.below hb3)
 have Hb5 := Lib.hid (Hb4.out.trans (hb3.mono Hb4.out.size))
 have HS3 : Hid (KAt w3 112 A3 (sameL.flatMap exC)) := Lib.hid (by obtain ⟨A, c, e, _, _, h, _⟩ := own_kat ho3; injection e with e; subst e; exact h)
 clear hb3 ho3 Hg4' Hg6' Hg8' Hb4 HGl HGf
 go_wp2_with fail
 refine (fars_any _).mono ?_
 rintro e w4 ⟨A4, c4, rfl, ho4, hb4⟩
 have Hg4' := Lib.hid (Hg4.out.below hb4 Hg4.out.lt)
 have Hg6' := Lib.hid (Hg6.out.below hb4 Hg6.out.lt)
 have Hg8' := Lib.hid (Hg8.out.below hb4 Hg8.out.lt)
 have HGl := Lib.hid (HGl2.out.below hb4)
 have HGf := Lib.hid (HGf2.out.below hb4)
 have Hb6 := Lib.hid (Hb5.out.trans (hb4.mono Hb5.out.size))
 have HSa := Lib.hid (HS3.out.below hb4)
 have HFa : Hid (KAt w4 112 A4 (farL.flatMap exC)) := Lib.hid (by obtain ⟨A, c, e, _, _, h, _⟩ := own_kat ho4; injection e with e; subst e; exact h)
 have HRow0 := Lib.hid (HR.out.below Hb6.out)
 have HT4 := Lib.hid (HT.out.below Hb6.out)
 have HA4 := Lib.hid (HA.out.below Hb6.out)
 have HB4 := Lib.hid (HB.out.below Hb6.out)
 have HK4 := Lib.hid (Keeps.of_below (T := rowT) Hb6.out hbw)
 clear hb4 ho4 Hg4 Hg6 Hg8 HGl2 HGf2 Hb5 Hb6 HS3 HR HT HA HB
 generalize hq4 : w.heap.size = g4 at *
 generalize hq6 : g4 + 1 = g6 at *
 generalize w1.heap.size = g8 at *
 clear hq4 hq6
 go_wp2_with fail
 go_loopw [34] (fun i wr => ∃ k : Nat, k ≤ mt ∧ i = .int .i64 (k : Int) ∧ RowAt wr base p (r ++ (l.take k).flatMap (tokB lit far)) ∧ Keeps base rowT w4 wr) (fun i _ => mt - (intOf i).toNat)
 case atStart => exact ⟨0, Nat.zero_le _, rfl, by rw [List.take_zero, List.flatMap_nil, List.append_nil]; exact HRow0.out, Keeps.refl _ _ _⟩
 case round =>
  clear HRow0
  obtain ⟨k, hk, rfl, hrow, hkp⟩ := hrel
  have HRow := Lib.hid hrow
  have HKp := Lib.hid hkp
  have Hg4 := Lib.hid (hkp.blk Hg4'.out (by decide))
  have Hg6 := Lib.hid (hkp.blk Hg6'.out (by decide))
  have Hg8 := Lib.hid (hkp.blk Hg8'.out (by decide))
  have hfl := flat_le (tokB lit far) 48 (l.take k) (fun x hx => tokB_len lit far x C1.out C2.out)
  have htl : (l.take k).length ≤ k := by simp; omega
  have hrl2 : (r ++ (l.take k).flatMap (tokB lit far)).length ≤ 100200000 := by rw [List.length_append]; omega
  clear hrow hkp hfl htl
  by_cases hlt : k < mt
  ·have hkl : k < l.length := by rw [LT.out]; exact hlt
   have HTk := Lib.hid (HT4.out.keeps HKp.out (by decide))
   obtain ⟨bt, ot, rfl, hc⟩ := slat_elem (size := 3) (fun _ => rfl) (by omega) HTk.out.slat hkl
   have hc0 := hc 0 _ rfl
   have hc1 := hc 1 _ rfl
   have hc2 := hc 2 _ rfl
   simp only [Nat.add_zero] at hc0
   have hts := HTS.out _ (List.getElem_mem hkl)
   have Htk : Hid ((l.take (k + 1)).flatMap (tokB lit far) = (l.take k).flatMap (tokB lit far) ++ tokB lit far l[k]) := Lib.hid (by
    rw [take_snoc l k hkl, List.flatMap_append]; simp)
   clear hc HTk
   generalize l[k] = t at *
   obtain ⟨x, s, f⟩ := t
   have hx8 := n8_bd x
   unfold TokS at hts
   dsimp only at hc0 hc1 hc2 hts
   simp only [u8v, iv] at hc0 hc1 hc2
   obtain ⟨q, hq⟩ : ∃ q : Nat, (q : Int) = n8 x := ⟨x.toNat, rfl⟩
   have Hq : Hid (x.toNat = q) := Lib.hid (by unfold n8 at hq; omega)
   rw [← hq] at hc0 hx8
   clear hq
   generalize hr0 : r ++ (l.take k).flatMap (tokB lit far) = rr at *
   have Hr0 := Lib.hid hr0
   clear hr0
   have hbr : base ≤ wr.heap.size := Nat.le_trans HRow.out.1 (Nat.le_of_lt HRow.out.lt)
   by_cases hs : s = 0
   ·subst hs
    have Htb : Hid (tokB lit far (x, 0, f) = codeB lit q) := Lib.hid (by unfold tokB; rw [if_pos rfl, Hq.out])
    rw [Htb.out] at Htk
    have hba : Below wr.heap.size wr (wr.alloc (.cells #[.int .u8 (q : Int), .int .i64 0, .int .i64 f] 96)) := (Below.refl _ _).alloc (Nat.le_refl _) _
    have HKpA := Lib.hid (HKp.out.trans (Keeps.of_below hba hbr))
    have hconv : IntKind.i64.wrap (q : Int) = (q : Int) := IntWalk.i64_in _ (by omega)
    have HP := Lib.hid (put1_any base p g4 g8 g6 n n ca q _ _ lit rr (wr.alloc (.cells #[.int .u8 (q : Int), .int .i64 0, .int .i64 f] 96)) (HRow.out.below hba) (by rw [(Hg4.out.below hba Hg4.out.lt).cell]; rfl) (by rw [(Hg8.out.below hba Hg8.out.lt).cell]; rfl) (by rw [(Hg6.out.below hba Hg6.out.lt).cell]; rfl)
     (HGl.out.keeps HKpA.out (by decide)) (HA4.out.keeps HKpA.out (by decide)) L1.out hn (by omega) C1.out (by omega))
    clear hts hba
    go_wp2_with fail
    refine (HP.out).mono ?_
    rintro e w6 ⟨rfl, hrow, hkp⟩
    have HRow6 := Lib.hid hrow
    have HK6 := Lib.hid (HKpA.out.trans hkp)
    clear hrow hkp HP HRow HKp HKpA
    go_wp2_with fail
    go_roundw
    case rel => exact ⟨k + 1, by omega, by go_num, by rw [Htk.out, ← List.append_assoc, Hr0.out]; exact HRow6.out, HK6.out⟩
    case measure => simp [intOf]; omega
   ·obtain ⟨s', f', rfl, rfl, hs3, hs258, hf1, hf3⟩ := hts.resolve_left hs
    have hs1 : ((s' : Int) == 0) = false := by rw [beq_eq_false_iff_ne]; omega
    obtain ⟨j1, hj1⟩ : ∃ j, j = symS sameL s' := ⟨_, rfl⟩
    obtain ⟨j2, hj2⟩ : ∃ j, j = symS farL f' := ⟨_, rfl⟩
    have hl1 : j1 < 29 := by rw [hj1]; exact symS_lt sameL _ (by decide)
    have hl2 : j2 < 30 := by rw [hj2]; exact symS_lt farL _ (by decide)
    have hge1 : (sameL.getD j1 (0, 0)).1 ≤ s' := by rw [hj1]; exact symS_le sameL s' (by decide) hs3
    have hge2 : (farL.getD j2 (0, 0)).1 ≤ f' := by rw [hj2]; exact symS_le farL f' (by decide) hf1
    have hb5 : (sameL.getD j1 (0, 0)).2 ≤ 5 := (by decide : ∀ k < 29, (sameL.getD k (0, 0)).2 ≤ 5) j1 hl1
    have hb13 : (farL.getD j2 (0, 0)).2 ≤ 13 := (by decide : ∀ k < 30, (farL.getD k (0, 0)).2 ≤ 13) j2 hl2
    have Htb : Hid (rr ++ tokB lit far (x, (s' : Int), (f' : Int)) = rr ++ codeB lit (257 + j1) ++ numBits (s' - (sameL.getD j1 (0, 0)).1) (sameL.getD j1 (0, 0)).2 ++ codeB far j2 ++ numBits (f' - (farL.getD j2 (0, 0)).1) (farL.getD j2 (0, 0)).2) := Lib.hid (by
     unfold tokB
     rw [if_neg (by dsimp only; omega)]
     dsimp only
     rw [Int.toNat_natCast, Int.toNat_natCast, ← hj1, ← hj2]
     simp only [List.append_assoc])
    have hba : Below wr.heap.size wr (wr.alloc (.cells #[.int .u8 (q : Int), .int .i64 (s' : Int), .int .i64 (f' : Int)] 96)) := (Below.refl _ _).alloc (Nat.le_refl _) _
    have HKpA := Lib.hid (HKp.out.trans (Keeps.of_below hba hbr))
    have Hn := Lib.hid (Blk.new wr 96 #[.int .u8 (q : Int), .int .i64 (s' : Int), .int .i64 (f' : Int)])
    have Hr4 := Lib.hid (HRow.out.below hba)
    have Hs1 := Lib.hid (symbol_any A3 29 c3 sameL s' (wr.alloc (.cells #[.int .u8 (q : Int), .int .i64 (s' : Int), .int .i64 (f' : Int)] 96)) rfl (by omega) (HSa.out.keeps HKpA.out (by decide)).slat)
    rw [← hj1] at Hs1
    have Hj2 := Lib.hid hj2
    clear hts hba hj1 hj2 hs HRow HKp Hg4 Hg6 Hg8
    go_wp2_with fail
    refine (Hs1.out).mono ?_
    rintro e w5 ⟨rfl, hb⟩
    have Hr5 := Lib.hid (Hr4.out.below hb)
    have HK5 := Lib.hid (HKpA.out.trans (Keeps.of_below hb (Nat.le_trans hbr (by simp))))
    have Hn5 := Lib.hid (Hn.out.below hb Hn.out.lt)
    clear hb Hs1 Hr4 HKpA Hn hc0 hc1 hc2
    generalize wr.heap.size = gt at *
    have hsum : IntKind.i64.wrap (257 + (j1 : Int)) = ((257 + j1 : Nat) : Int) := IntWalk.i64_in _ (by omega)
    have HP := Lib.hid (put1_any base p g4 g8 g6 n n ca (257 + j1) _ _ lit rr w5 Hr5.out (by rw [(HK5.out.blk Hg4'.out (by decide)).cell]; rfl) (by rw [(HK5.out.blk Hg8'.out (by decide)).cell]; rfl) (by rw [(HK5.out.blk Hg6'.out (by decide)).cell]; rfl)
     (HGl.out.keeps HK5.out (by decide)) (HA4.out.keeps HK5.out (by decide)) L1.out hn (by omega) C1.out (by omega))
    have hcl : (codeB lit (257 + j1)).length ≤ 15 := by rw [codeB_length]; exact C1.out.bits
    have hcf : (codeB far j2).length ≤ 15 := by rw [codeB_length]; exact C2.out.bits
    obtain ⟨rr1, hrr1⟩ : ∃ z, z = rr ++ codeB lit (257 + j1) := ⟨_, rfl⟩
    have hl1' : rr1.length ≤ 100200100 := by rw [hrr1, List.length_append]; omega
    rw [← hrr1] at HP Htb
    generalize hrx : 257 + j1 = rx at *
    clear hrx hrr1 hcl
    go_wp2_with fail
    refine (HP.out).mono ?_
    rintro e w6 ⟨rfl, hrow, hkp⟩
    have Hr6 := Lib.hid hrow
    have HK6 := Lib.hid (HK5.out.trans hkp)
    have Hn6 := Lib.hid (hkp.blk Hn5.out (by decide))
    clear hrow hkp HP Hr5 HK5 Hn5 hsum
    -- how many more
    obtain ⟨b3, o3, rfl, hd0, hd1⟩ := ex_cell (HSa.out.keeps HK6.out (by decide)) (i := j1) (show j1 < 29 from hl1)
    have h4 : w6.cell? ⟨g4, 0, none⟩ = some (.pointer (some ⟨p, 0, none⟩)) := by rw [(HK6.out.blk Hg4'.out (by decide)).cell]; rfl
    have hn1 : w6.cell? ⟨gt, 1, none⟩ = some (.int .i64 (s' : Int)) := by rw [Hn6.out.cell]; rfl
    generalize (sameL.getD j1 (0, 0)).1 = fr1 at *
    generalize (sameL.getD j1 (0, 0)).2 = bi1 at *
    obtain ⟨d1, hd1e⟩ : ∃ d, d = s' - fr1 := ⟨_, rfl⟩
    have hsub1 : IntKind.i64.wrap ((s' : Int) - (fr1 : Int)) = (d1 : Int) := by rw [show (s' : Int) - (fr1 : Int) = (d1 : Int) by omega]; exact IntWalk.i64_in _ (by omega)
    have hd1s : d1 ≤ 258 := by omega
    rw [← hd1e] at Htb
    have hl1i : (j1 : Int) < 29 := by omega
    clear hd1e hge1
    go_wp2_with fail
    go_still_tail 14, (by kernel_rfl)
    change wpList _ _ _ _ _ w6.drew
    have Hr7 : Hid (RowAt w6.drew base p rr1) := Hr6
    have HK7 := Lib.hid (HK6.out.drew)
    have Hn7 : Hid (Blk w6.drew gt 96 #[.int .u8 (q : Int), .int .i64 (s' : Int), .int .i64 (f' : Int)]) := Hn6
    clear Hr6 HK6 Hn6 hd0 hd1 h4 hn1
    generalize w6.drew = w7 at *
    have HP := Lib.hid (put_any base p d1 bi1 rr1 w7 Hr7.out (by omega) (by omega) (by omega))
    obtain ⟨rr2, hrr2⟩ : ∃ z, z = rr1 ++ numBits d1 bi1 := ⟨_, rfl⟩
    have hl2' : rr2.length ≤ 100200200 := by rw [hrr2, List.length_append, numBits_length]; omega
    rw [← hrr2] at HP Htb
    clear hrr2
    go_wp2_with fail
    refine (HP.out).mono ?_
    rintro e w8 ⟨rfl, hrow, hkp⟩
    have Hr8 := Lib.hid hrow
    have HK8 := Lib.hid (HK7.out.trans hkp)
    have Hn8 := Lib.hid (hkp.blk Hn7.out (by decide))
    clear hrow hkp HP Hr7 HK7 Hn7 hsub1
    -- which of how far
    have hn2 : w8.cell? ⟨gt, 2, none⟩ = some (.int .i64 (f' : Int)) := by rw [Hn8.out.cell]; rfl
    have Hs2 := Lib.hid (symbol_any A4 30 c4 farL f' w8 rfl (by omega) (HFa.out.keeps HK8.out (by decide)).slat)
    rw [← Hj2.out] at Hs2
    go_wp2_with fail
    refine (Hs2.out).mono ?_
    rintro e w9 ⟨rfl, hb⟩
    have Hr9 := Lib.hid (Hr8.out.below hb)
    have HK9 := Lib.hid (HK8.out.trans (Keeps.of_below hb (Nat.le_trans Hr8.out.1 (Nat.le_of_lt Hr8.out.lt))))
    have Hn9 := Lib.hid (Hn8.out.below hb Hn8.out.lt)
    clear hb Hs2 Hr8 HK8 Hn8 hn2
    obtain ⟨bF, oF, rfl, hcF⟩ := kat_cell (HB4.out.keeps HK9.out (by decide)) (i := j2) (by rw [L2.out]; omega)
    obtain ⟨bG, oG, hAG, hcG⟩ := kat_cell (HGf.out.keeps HK9.out (by decide)) (i := j2) (by unfold codesL; rw [List.length_map, List.length_range, L2.out]; omega)
    injection hAG with hAG; injection hAG with e1 e2 e3; subst e1 e2
    rw [codesL_getD far j2 (by rw [L2.out]; omega)] at hcG
    have hcd := codeOf_small far j2 C2.out
    have hsz := C2.out.bits (i := j2)
    have Hcb : Hid (codeB far j2 = hi (far.getD j2 0) (codeOf far j2)) := Lib.hid rfl
    have h4 : w9.cell? ⟨g4, 0, none⟩ = some (.pointer (some ⟨p, 0, none⟩)) := by rw [(HK9.out.blk Hg4'.out (by decide)).cell]; rfl
    generalize codeOf far j2 = cd at *
    generalize far.getD j2 0 = sz at *
    simp only [Nat.zero_add] at hcG
    have hl2m : j2 < m := by omega
    have hl2i : (j2 : Int) < (m : Int) := by omega
    go_wp2_with fail
    go_still_tail 9, (by kernel_rfl)
    change wpList _ _ _ _ _ w9.drew
    have Hr10 : Hid (RowAt w9.drew base p rr2) := Hr9
    have HK10 := Lib.hid (HK9.out.drew)
    have Hn10 : Hid (Blk w9.drew gt 96 #[.int .u8 (q : Int), .int .i64 (s' : Int), .int .i64 (f' : Int)]) := Hn9
    clear Hr9 HK9 Hn9 hcF hcG h4
    generalize w9.drew = w10 at *
    have HP := Lib.hid (code_any base p cd sz rr2 w10 Hr10.out (by omega) (by omega) (by omega))
    rw [← Hcb.out] at HP
    obtain ⟨rr3, hrr3⟩ : ∃ z, z = rr2 ++ codeB far j2 := ⟨_, rfl⟩
    have hl3' : rr3.length ≤ 100200300 := by rw [hrr3, List.length_append]; omega
    rw [← hrr3] at HP Htb
    clear hrr3 Hcb hcf
    go_wp2_with fail
    refine (HP.out).mono ?_
    rintro e w11 ⟨rfl, hrow, hkp⟩
    have Hr11 := Lib.hid hrow
    have HK11 := Lib.hid (HK10.out.trans hkp)
    have Hn11 := Lib.hid (hkp.blk Hn10.out (by decide))
    clear hrow hkp HP Hr10 HK10 Hn10
    -- how far more
    obtain ⟨b5, o5, rfl, hd0, hd1⟩ := ex_cell (HFa.out.keeps HK11.out (by decide)) (i := j2) (show j2 < 30 from hl2)
    have h4 : w11.cell? ⟨g4, 0, none⟩ = some (.pointer (some ⟨p, 0, none⟩)) := by rw [(HK11.out.blk Hg4'.out (by decide)).cell]; rfl
    have hn2 : w11.cell? ⟨gt, 2, none⟩ = some (.int .i64 (f' : Int)) := by rw [Hn11.out.cell]; rfl
    generalize (farL.getD j2 (0, 0)).1 = fr2 at *
    generalize (farL.getD j2 (0, 0)).2 = bi2 at *
    obtain ⟨d2, hd2e⟩ : ∃ d, d = f' - fr2 := ⟨_, rfl⟩
    have hsub2 : IntKind.i64.wrap ((f' : Int) - (fr2 : Int)) = (d2 : Int) := by rw [show (f' : Int) - (fr2 : Int) = (d2 : Int) by omega]; exact IntWalk.i64_in _ (by omega)
    have hd2s : d2 ≤ 3000 := by omega
    rw [← hd2e] at Htb
    have hl2j : (j2 : Int) < 30 := by omega
    clear hd2e hge2
    go_wp2_with fail
    go_still_tail 14, (by kernel_rfl)
    change wpList _ _ _ _ _ w11.drew
    have Hr12 : Hid (RowAt w11.drew base p rr3) := Hr11
    have HK12 := Lib.hid (HK11.out.drew)
    clear Hr11 HK11 Hn11 hd0 hd1 h4 hn2
    generalize w11.drew = w12 at *
    have HP := Lib.hid (put_any base p d2 bi2 rr3 w12 Hr12.out (by omega) (by omega) (by omega))
    rw [← Htb.out] at HP
    go_wp2_with fail
    refine (HP.out).mono ?_
    rintro e w13 ⟨rfl, hrow, hkp⟩
    have Hr13 := Lib.hid hrow
    have HK13 := Lib.hid (HK12.out.trans hkp)
    clear hrow hkp HP Hr12 HK12 hsub2
    go_wp2_with fail
    go_roundw
    case rel => exact ⟨k + 1, by omega, by go_num, by rw [Htk.out, ← List.append_assoc, Hr0.out]; exact Hr13.out, HK13.out⟩
    case measure => simp [intOf]; omega
  ·obtain rfl : mt = k := by omega
   have Hal : Hid (l.take mt = l) := Lib.hid (List.take_of_length_le (by rw [LT.out]; exact Nat.le_refl _))
   rw [Hal.out] at HRow hrl2
   have HP := Lib.hid (put1_any base p g4 g8 g6 n n ca 256 _ _ lit _ wr HRow.out (by rw [Hg4.out.cell]; rfl) (by rw [Hg8.out.cell]; rfl) (by rw [Hg6.out.cell]; rfl)
     (HGl.out.keeps HKp.out (by decide)) (HA4.out.keeps HKp.out (by decide)) L1.out hn (by omega) C1.out (by omega))
   go_wp2_with fail
   refine (HP.out).mono ?_
   rintro e w6 ⟨rfl, hrow, hkp⟩
   have HRow6 := Lib.hid hrow
   have HK6 := Lib.hid (HK4.out.trans (HKp.out.trans hkp))
   clear hrow hkp HP HRow HKp
   go_wp2_with fail
   go_end0
   exact ⟨rfl, by have := HRow6.out; rw [List.append_assoc] at this; exact this, HK6.out⟩
end Go.Proofs.YthpdcnjaodjjmaaGreat.Blk

/- package match: the index: a map from three bytes to the places where they stood. -/
namespace Go.Proofs.YthpdcnjaodjjmaaGreat.Match
open Go Go.RowKit Go.Proofs.YthpdcnjaodjjmaaGreat Go.MapKept
open Go.ChangeMaps (setBlock heap_setBlock_same heap_setBlock_other)
open Go.WideMaps (KeyLaw)
set_option linter.unusedVariables false

abbrev Tri := UInt8 × UInt8 × UInt8
def kv (t : Tri) : Value := .agg #[u8v t.1, u8v t.2.1, u8v t.2.2]
theorem kv_inj {s t : Tri} (h : kv s = kv t) : s = t := by
 obtain ⟨a, b, c⟩ := s
 obtain ⟨a', b', c'⟩ := t
 simp only [kv, u8v, Value.agg.injEq, Array.mk.injEq, List.cons.injEq, Value.int.injEq, true_and, and_true] at h
 obtain ⟨h1, h2, h3⟩ := h
 rw [n8_inj h1, n8_inj h2, n8_inj h3]
theorem lawK : KeyLaw Tryz.prog 130 := deep_law_laid (m := 2) (by kernel_rfl) (by omega) (of_decide_eq_true (by kernel_rfl)) (by kernel_rfl) (by kernel_rfl)
theorem kv_cells (t : Tri) : (kv t).cells.toList = [u8v t.1, u8v t.2.1, u8v t.2.2] := by simp [kv, Value.cells]
theorem u8_lit (x : UInt8) (d : Nat) : Tryz.prog.keyLits (d + 1) 5 [u8v x] = some [.int .u8 (n8 x)] := by
 have hx := n8_bd x
 have hw : (Lit.int .u8 (n8 x)).wf = true := by simp [Lit.wf, IntKind.min, IntKind.max, IntKind.signed, IntKind.bits]; omega
 simp [Program.keyLits, Tryz.underlying5, u8v, hw]
theorem tri_lits (t : Tri) (d : Nat) : Tryz.prog.keyLits (d + 2) 130 [u8v t.1, u8v t.2.1, u8v t.2.2] = some [.int .u8 (n8 t.1), .int .u8 (n8 t.2.1), .int .u8 (n8 t.2.2)] := by
 have e1 : Tryz.prog.cellsOf 130 = 3 := by kernel_rfl
 have e2 : Tryz.prog.cellsOf 5 = 1 := by kernel_rfl
 rw [Program.keyLits.eq_def]
 simp only [Tryz.underlying130, e1, e2]
 rw [show List.range 3 = [0, 1, 2] from rfl]
 simp [u8_lit]
theorem tri_types : ∃ d, Tryz.prog.types.size + 1 = d + 2 := by
 have : 1 ≤ Tryz.prog.types.size := of_decide_eq_true (by kernel_rfl)
 exact ⟨Tryz.prog.types.size - 1, by omega⟩
theorem kv_key (t : Tri) : ∃ kl, keyOf Tryz.prog 130 (kv t) = some kl := by
 have h1 : Tryz.prog.keyType 130 = true := by kernel_rfl
 have h2 : (kv t).formed Tryz.prog 130 = true := by
  have : Tryz.prog.cellsOf 130 = 3 := by kernel_rfl
  simp [kv, Value.formed, Tryz.underlying130, this]
 obtain ⟨d, hd⟩ := tri_types
 have h3 := tri_lits t d
 rw [← hd, ← kv_cells] at h3
 refine ⟨.string (keyBytes [.int .u8 (n8 t.1), .int .u8 (n8 t.2.1), .int .u8 (n8 t.2.2)]), ?_⟩
 rw [keyOf, Tryz.underlying130]
 show (if (Tryz.prog.keyType 130 && (kv t).formed Tryz.prog 130) = true then _ else _) = _
 rw [h1, h2, h3]
 rfl
theorem zeroI (w : World) : (zeroValue 23).run Tryz.prog w = .ok (.slice none 0 0) w := by rw [Tryz.zeroValue23]
def natV (n : Nat) : Value := .int .i64 (n : Int)
theorem tyI : SliceTy Tryz.prog 23 3 (.int .i64 0) 1 8 := ⟨Tryz.underlying23, by kernel_rfl, rfl, by omega⟩

def GAt (w : World) (base b : Nat) (F : Tri → List Nat) : Prop :=
 base ≤ b ∧ ∃ es clock, w.heap[b]? = some (.map es clock) ∧ Stamped es clock ∧ (∀ x ∈ es.toList, ∃ t, x.key = kv t ∧ w.ownsRow base 3 1 x.val (F t).length ((F t).map natV)) ∧
  (∀ t, (∀ x ∈ es.toList, x.key ≠ kv t) → F t = []) ∧ (∀ x ∈ es.toList, ∀ y ∈ es.toList, x.key ≠ y.key → x.val.ownBlock = none ∨ x.val.ownBlock ≠ y.val.ownBlock)
theorem GAt.lt {w : World} {base b : Nat} {F : Tri → List Nat} (h : GAt w base b F) : b < w.heap.size := by
 obtain ⟨_, es, clock, hb, _⟩ := h
 exact (Array.getElem?_eq_some_iff.1 hb).1
theorem GAt.made (w : World) {base : Nat} (hb : base ≤ w.heap.size) : GAt (w.alloc (.map #[] 0)) base w.heap.size (fun _ => []) :=
 ⟨hb, #[], 0, heap_alloc_new w _, ⟨by simp, by simp, by simp⟩, by simp, fun _ _ => rfl, by simp⟩
theorem GAt.keep {w w' : World} {base b : Nat} {F : Tri → List Nat} (h : GAt w base b F) (hk : ∀ (k : Nat) (o : Obj), w.heap[k]? = some o → (∀ cs t fr, o = Obj.cells cs t fr → t = 3) → w'.heap[k]? = some o) : GAt w' base b F := by
 obtain ⟨h0, es, clock, hb, hs, h1, h2, h3⟩ := h
 refine ⟨h0, es, clock, hk _ _ hb (fun cs t fr e => by cases e), hs, fun x hx => ?_, h2, h3⟩
 obtain ⟨t, ht, hl, ho⟩ := h1 x hx
 refine ⟨t, ht, hl, ?_⟩
 rcases ho with ho | ⟨g, cap, cur, e1, e2, e3, e4⟩
 ·exact Or.inl ho
 ·exact Or.inr ⟨g, cap, cur, e1, e2, hk _ _ e3 (fun cs t fr e => by cases e; rfl), e4⟩
theorem GAt.below {w w' : World} {base b : Nat} {F : Tri → List Nat} (h : GAt w base b F) (hb : Below w.heap.size w w') : GAt w' base b F :=
 h.keep fun k o ho _ => by rw [hb.block k (Array.getElem?_eq_some_iff.1 ho).1]; exact ho
theorem GAt.alloc {w : World} {base b : Nat} {F : Tri → List Nat} (h : GAt w base b F) (o : Obj) : GAt (w.alloc o) base b F := h.below ((Below.refl _ _).alloc (Nat.le_refl _) _)
theorem GAt.keeps {w w' : World} {base base' b : Nat} {T : List TypeId} {F : Tri → List Nat} (h : GAt w base b F) (hk : Keeps base' T w w') (hT : 3 ∉ T) : GAt w' base b F :=
 h.keep fun k o ho ht => hk.other k o ho (fun cs t fr e => by rw [ht cs t fr e]; exact hT)
theorem GAt.look {w : World} {base b : Nat} {F : Tri → List Nat} (h : GAt w base b F) (t : Tri) :
  ∃ v, (Instr.lookup 91 (.map (some b)) (kv t) false).run Tryz.prog w = .ok v w ∧ w.ownsRow base 3 1 v (F t).length ((F t).map natV) := by
 obtain ⟨h0, es, clock, hb, hs, h1, h2, h3⟩ := h
 obtain ⟨kl, hkl⟩ := kv_key t
 have ht : Tryz.prog.underlying 91 = some (.map 130 23) := Tryz.underlying91
 have hkeys : ∀ x ∈ es.toList, ∃ l, keyOf Tryz.prog 130 x.key = some l := fun x hx => by
  obtain ⟨u, hu, _⟩ := h1 x hx
  rw [hu]; exact kv_key u
 rcases lawK.find w hkl es.toList hkeys with ⟨g1, g2⟩ | ⟨j, e0, g1, g2, g3⟩
 ·refine ⟨.slice none 0 0, by simp [Instr.lookup, run_underlying ht, MapKept.run_getObj_map hb, lawK.check w _ hkl, g1, Result.andThen], ?_⟩
  rw [h2 t g2]
  exact World.ownsRow_nil _ _ _ _
 ·refine ⟨e0.val, by simp [Instr.lookup, run_underlying ht, MapKept.run_getObj_map hb, lawK.check w _ hkl, g1, Result.andThen], ?_⟩
  obtain ⟨u, hu, ho⟩ := h1 e0 (List.mem_of_getElem? g2)
  have : t = u := kv_inj (by rw [← g3, hu])
  rw [this]; exact ho
def upd (F : Tri → List Nat) (t : Tri) (l : List Nat) : Tri → List Nat := fun u => if u = t then l else F u
theorem row_not_map {w : World} {base b n : Nat} {v : Value} {xs : List Value} {es : Array MapEntry} {clock : Nat} (h : w.ownsRow base 3 1 v n xs) (hb : w.heap[b]? = some (.map es clock)) : v.ownBlock ≠ some b := by
 rcases h.2 with ⟨rfl, _⟩ | ⟨g, cap, cur, rfl, _, hg, _⟩
 ·simp [Value.ownBlock]
 ·intro e
  simp only [Value.ownBlock, Option.some.injEq] at e
  subst e
  rw [hb] at hg; cases hg
theorem row_lt {w : World} {base n g : Nat} {v : Value} {xs : List Value} (h : w.ownsRow base 3 1 v n xs) (hb : v.ownBlock = some g) : g < w.heap.size := by
 rcases h.2 with ⟨rfl, _⟩ | ⟨g', cap, cur, rfl, _, hg, _⟩
 ·simp [Value.ownBlock] at hb
 ·simp only [Value.ownBlock, Option.some.injEq] at hb
  subst hb
  exact (Array.getElem?_eq_some_iff.1 hg).1
theorem row_stay2 {w w' : World} {base b n : Nat} {v : Value} {xs : List Value} (h : w.ownsRow base 3 1 v n xs) (hk : ∀ (k : Nat), k < w.heap.size → v.ownBlock = some k → k ≠ b → w'.heap[k]? = w.heap[k]?) (hne : v.ownBlock ≠ some b) : w'.ownsRow base 3 1 v n xs := by
 refine ⟨h.1, ?_⟩
 rcases h.2 with h | ⟨g, cap, cur, rfl, h2, h3, h4⟩
 ·exact Or.inl h
 ·refine Or.inr ⟨g, cap, cur, rfl, h2, ?_, h4⟩
  rw [hk g (Array.getElem?_eq_some_iff.1 h3).1 rfl (fun e => hne (by simp [Value.ownBlock, e]))]
  exact h3
theorem row_stay {w w' : World} {base b n : Nat} {v : Value} {xs : List Value} (h : w.ownsRow base 3 1 v n xs) (hk : ∀ (k : Nat), k < w.heap.size → k ≠ b → w'.heap[k]? = w.heap[k]?) (hne : v.ownBlock ≠ some b) : w'.ownsRow base 3 1 v n xs :=
 row_stay2 h (fun k hk1 _ hkb => hk k hk1 hkb) hne
theorem GAt.entry {w : World} {base b : Nat} {F : Tri → List Nat} (h : GAt w base b F) (t : Tri) :
  ∃ v st w1, (Instr.mapEntry 91 (.map (some b)) (kv t)).run Tryz.prog w = .ok (.tuple #[v, goInt st]) w1 ∧ w1.ownsRow base 3 1 v (F t).length ((F t).map natV) ∧ w.grownBy w1 (some b) ∧ w1.heap.size = w.heap.size ∧ v.ownBlock ≠ some b ∧
   ∀ (w2 : World) (v2 : Value) (l : List Nat), w1.grownBy w2 v.ownBlock → w2.ownsRow base 3 1 v2 l.length (l.map natV) → (v2.ownBlock = v.ownBlock ∨ v2.ownBlock = some w.heap.size) →
    ∃ w3, (Instr.entryStore 91 (.map (some b)) (goInt st) v2).run Tryz.prog w2 = .ok () w3 ∧ GAt w3 base b (upd F t l) ∧ w2.grownBy w3 (some b) := by
 obtain ⟨h0, es, clock, hb, ⟨s1, s2, s3⟩, h1, h2, h3⟩ := h
 obtain ⟨kl, hkl⟩ := kv_key t
 have ht : Tryz.prog.underlying 91 = some (.map 130 23) := Tryz.underlying91
 have hkeys : ∀ x ∈ es.toList, ∃ l, keyOf Tryz.prog 130 x.key = some l := fun x hx => by
  obtain ⟨u, hu, _⟩ := h1 x hx
  rw [hu]; exact kv_key u
 have hblt : b < w.heap.size := (Array.getElem?_eq_some_iff.1 hb).1
 have grow : ∀ (u : World) (o : Obj) (es' : Array MapEntry) (c' : Nat), u.heap[b]? = some (.map es' c') → u.grownBy (setBlock u b o) (some b) := fun u o es' c' hu =>
  ⟨rfl, rfl, rfl, by simp [setBlock], fun i _ hi => heap_setBlock_other hu _ (fun e1 => hi (by rw [e1]))⟩
 rcases lawK.find w hkl es.toList hkeys with ⟨g1, g2⟩ | ⟨j, e0, g1, g2, g3⟩
 ·have hF := h2 t g2
  have hb1 : (setBlock w b (.map (es.push ⟨kv t, .slice none 0 0, clock⟩) (clock + 1))).heap[b]? = some (.map (es.push ⟨kv t, .slice none 0 0, clock⟩) (clock + 1)) := heap_setBlock_same hb _
  refine ⟨.slice none 0 0, clock, setBlock w b (.map (es.push ⟨kv t, .slice none 0 0, clock⟩) (clock + 1)), ?_, ?_, grow _ _ _ _ hb, by simp [setBlock], by simp [Value.ownBlock], ?_⟩
  ·simp [Instr.mapEntry, run_underlying ht, MapKept.run_getObj_map hb, lawK.check w false hkl, g1, MapKept.run_setObj_map _ hb, Result.andThen, setBlock]
  ·rw [hF]; exact World.ownsRow_nil _ _ _ _
  ·intro w2 v2 l hg ho hv
   have hw2 : w2.heap[b]? = some (.map (es.push ⟨kv t, .slice none 0 0, clock⟩) (clock + 1)) := (hg.block b (by simpa [setBlock] using hblt) (by simp [Value.ownBlock])).trans hb1
   have hidx : (es.push ⟨kv t, .slice none 0 0, clock⟩).findIdx? (fun e => ((e.born : Nat) : Int) == ((clock : Nat) : Int)) = some es.size := by
    rw [WideElems.findIdx_arr]
    have := WideElems.findIdx_born (l := (es.push ⟨kv t, .slice none 0 0, clock⟩).toList) (j := es.size) (e0 := ⟨kv t, .slice none 0 0, clock⟩) (by
     simp only [Array.toList_push, List.map_append, List.map_cons, List.map_nil]
     refine List.nodup_append.2 ⟨s2, by simp, fun a ha c hc e1 => ?_⟩
     simp only [List.mem_singleton] at hc
     obtain ⟨x, hx, rfl⟩ := List.mem_map.1 ha
     have := s1 x hx
     omega) (by simp)
    exact this
   have hmod : (es.push ⟨kv t, .slice none 0 0, clock⟩).modify es.size (fun e => { e with val := v2 }) = es.push ⟨kv t, v2, clock⟩ := by
    apply Array.ext'
    rw [Array.toList_modify, Array.toList_push, Array.toList_push, ← Array.length_toList, WideElems.modify_last]
   refine ⟨setBlock w2 b (.map (es.push ⟨kv t, v2, clock⟩) (clock + 1)), by simp [Instr.entryStore, MapKept.run_getObj_map hw2, asInt, asIntOf, goInt, hidx, hmod, MapKept.run_setObj_map _ hw2, Result.andThen, setBlock], ?_, grow _ _ _ _ hw2⟩
   have hkeep : ∀ (k : Nat), k < w.heap.size → k ≠ b → w2.heap[k]? = w.heap[k]? := fun k hk hkb => by
    rw [hg.block k (by simpa [setBlock] using hk) (by simp [Value.ownBlock]), heap_setBlock_other hb _ hkb]
   refine ⟨h0, es.push ⟨kv t, v2, clock⟩, clock + 1, heap_setBlock_same hw2 _, ⟨?_, ?_, ?_⟩, ?_, ?_, ?_⟩
   ·intro x hx
    simp at hx
    rcases hx with hx | rfl
    ·have := s1 x (by simpa using hx); omega
    ·exact Nat.lt_succ_self _
   ·simp only [Array.toList_push, List.map_append, List.map_cons, List.map_nil]
    refine List.nodup_append.2 ⟨s2, by simp, fun a ha c hc e1 => ?_⟩
    simp only [List.mem_singleton] at hc
    obtain ⟨x, hx, rfl⟩ := List.mem_map.1 ha
    have := s1 x hx
    omega
   ·simp only [Array.toList_push, List.map_append, List.map_cons, List.map_nil]
    refine List.nodup_append.2 ⟨s3, by simp, fun a ha c hc e1 => ?_⟩
    simp only [List.mem_singleton] at hc
    obtain ⟨x, hx, rfl⟩ := List.mem_map.1 ha
    exact g2 x hx (e1.trans hc)
   ·intro x hx
    simp at hx
    rcases hx with hx | rfl
    ·obtain ⟨u, hu, ho1⟩ := h1 x (by simpa using hx)
     have hne : u ≠ t := fun e => g2 x (by simpa using hx) (by rw [hu, e])
     refine ⟨u, hu, ?_⟩
     unfold upd; rw [if_neg hne]
     exact row_stay ho1 (fun k hk hkb => by rw [heap_setBlock_other hw2 _ hkb, hkeep k hk hkb]) (row_not_map ho1 hb)
    ·refine ⟨t, rfl, ?_⟩
     unfold upd; rw [if_pos rfl]
     exact row_stay ho (fun k hk hkb => heap_setBlock_other hw2 _ hkb) (row_not_map ho hw2)
   ·intro u hu
    have hne : u ≠ t := fun e => hu ⟨kv t, v2, clock⟩ (by simp) (by rw [e])
    unfold upd; rw [if_neg hne]
    exact h2 u (fun x hx => hu x (by simp; exact Or.inl (by simpa using hx)))
   ·have far : ∀ x ∈ es.toList, x.val.ownBlock = none ∨ x.val.ownBlock ≠ v2.ownBlock := fun x hx => by
     rcases hv with e | e
     ·rcases hq : x.val.ownBlock with _ | g
      ·exact Or.inl rfl
      ·right; rw [e]; simp [Value.ownBlock]
     ·obtain ⟨u, hu, ho1⟩ := h1 x hx
      rcases hq : x.val.ownBlock with _ | g
      ·exact Or.inl rfl
      ·right; rw [e]; have := row_lt ho1 hq; simp; omega
    intro x hx y hy hxy
    simp at hx hy
    rcases hx with hx | rfl <;> rcases hy with hy | rfl
    ·exact h3 x (by simpa using hx) y (by simpa using hy) hxy
    ·exact far x (by simpa using hx)
    ·rcases far y (by simpa using hy) with e | e
     ·rcases hq : v2.ownBlock with _ | g
      ·exact Or.inl rfl
      ·right; rw [e]; simp
     ·exact Or.inr (fun e1 => e e1.symm)
    ·exact absurd rfl hxy
 ·have hj : es[j]? = some e0 := by simpa using g2
  have he0 : e0 ∈ es.toList := List.mem_of_getElem? g2
  have hsame : es.modify j (fun e => { e with key := kv t }) = es := by
   apply Array.ext'
   rw [Array.toList_modify, ChangeMaps.modify_eq_set _ _ _ _ g2]
   have : ({ e0 with key := kv t } : MapEntry) = e0 := by rw [← g3]
   rw [this]
   exact WideElems.set_self _ _ _ g2
  obtain ⟨u0, hu0, ho0⟩ := h1 e0 he0
  have hut : t = u0 := kv_inj (by rw [← g3, hu0])
  subst hut
  have hbs : setBlock w b (.map es clock) = w := by
   unfold setBlock
   have : w.heap.setIfInBounds b (.map es clock) = w.heap := by
    apply Array.ext_getElem?
    intro i
    rw [Array.getElem?_setIfInBounds]
    split
    ·rename_i e; subst e; exact hb.symm
    ·rfl
   rw [this]
  refine ⟨e0.val, e0.born, w, ?_, ho0, ⟨rfl, rfl, rfl, Nat.le_refl _, fun _ _ _ => rfl⟩, rfl, row_not_map ho0 hb, ?_⟩
  ·have hr : (Instr.mapEntry 91 (.map (some b)) (kv t)).run Tryz.prog w = .ok (.tuple #[e0.val, goInt e0.born]) (setBlock w b (.map es clock)) := by
    simp [Instr.mapEntry, run_underlying ht, MapKept.run_getObj_map hb, lawK.check w false hkl, g1, hj, g3, lawK.stays w hkl, hsame, MapKept.run_setObj_map _ hb, Result.andThen, setBlock]
   rw [hr, hbs]
  ·intro w2 v2 l hg ho hv
   have hw2 : w2.heap[b]? = some (.map es clock) := (hg.block b hblt (fun e => row_not_map ho0 hb e.symm)).trans hb
   have hidx : es.findIdx? (fun e => ((e.born : Nat) : Int) == ((e0.born : Nat) : Int)) = some j := by
    rw [WideElems.findIdx_arr]
    exact WideElems.findIdx_born s2 g2
   refine ⟨setBlock w2 b (.map (es.modify j (fun e => { e with val := v2 })) clock), by simp [Instr.entryStore, MapKept.run_getObj_map hw2, asInt, asIntOf, goInt, hidx, MapKept.run_setObj_map _ hw2, Result.andThen, setBlock], ?_, grow _ _ _ _ hw2⟩
   have hl : (es.modify j (fun e => { e with val := v2 })).toList = es.toList.set j { e0 with val := v2 } := by
    rw [Array.toList_modify, ChangeMaps.modify_eq_set _ _ _ _ g2]
   have hjl : j < es.toList.length := by
    rcases Nat.lt_or_ge j es.toList.length with h | h
    ·exact h
    ·rw [List.getElem?_eq_none h] at g2; cases g2
   have hmem : ∀ x, x ∈ es.toList.set j { e0 with val := v2 } → x = { e0 with val := v2 } ∨ (x ∈ es.toList ∧ x.key ≠ kv t) := fun x hx => by
    obtain ⟨i, hi, rfl⟩ := List.mem_iff_getElem.1 hx
    by_cases hij : i = j
    ·subst hij; left; simp
    ·right
     have hil : i < es.toList.length := by simpa using hi
     rw [List.getElem_set_ne (fun e => hij e.symm)]
     refine ⟨List.getElem_mem hil, fun e => hij ?_⟩
     refine (List.getElem?_inj (l := es.toList.map (·.key)) (by simpa using hil) s3).1 ?_
     rw [List.getElem?_map, List.getElem?_map, g2, List.getElem?_eq_getElem hil]
     simp only [Option.map_some]
     rw [e, g3]
   have hmaps : ∀ {β : Type} (f : MapEntry → β), (f { e0 with val := v2 } = f e0) → (es.toList.set j { e0 with val := v2 }).map f = es.toList.map f := fun {β} f hf => by
    rw [List.map_set, hf]
    have := WideElems.set_self (es.toList.map f) j (f e0) (by rw [List.getElem?_map, g2]; rfl)
    exact this
   have hkeep : ∀ (k : Nat), k < w.heap.size → some k ≠ e0.val.ownBlock → w2.heap[k]? = w.heap[k]? := fun k hk hkb => hg.block k hk hkb
   have hsame2 : ∀ (u : Tri), kv u = kv t → u = t := fun u e => kv_inj e
   refine ⟨h0, es.modify j (fun e => { e with val := v2 }), clock, heap_setBlock_same hw2 _, ⟨?_, ?_, ?_⟩, ?_, ?_, ?_⟩
   ·rw [hl]; intro x hx
    rcases hmem x hx with rfl | ⟨hx, _⟩
    ·exact s1 e0 he0
    ·exact s1 x hx
   ·rw [hl, hmaps _ (by rfl)]; exact s2
   ·rw [hl, hmaps _ (by rfl)]; exact s3
   ·rw [hl]; intro x hx
    rcases hmem x hx with rfl | ⟨hx, hne⟩
    ·refine ⟨t, g3, ?_⟩
     unfold upd; rw [if_pos rfl]
     exact row_stay ho (fun k hk hkb => heap_setBlock_other hw2 _ hkb) (row_not_map ho hw2)
    ·obtain ⟨u, hu, ho1⟩ := h1 x hx
     have hut : u ≠ t := fun e => hne (by rw [hu, e])
     refine ⟨u, hu, ?_⟩
     unfold upd; rw [if_neg hut]
     have hap : x.val.ownBlock = none ∨ x.val.ownBlock ≠ e0.val.ownBlock := h3 x hx e0 he0 (by rw [g3]; exact hne)
     refine row_stay2 ho1 (fun k hk hkx hkb => ?_) (row_not_map ho1 hb)
     rw [heap_setBlock_other hw2 _ hkb]
     refine hkeep k hk (fun e => ?_)
     rcases hap with e1 | e1
     ·rw [e1] at hkx; cases hkx
     ·exact e1 (hkx.trans e)
   ·rw [hl]; intro u hu
    have hut : u ≠ t := fun e => hu { e0 with val := v2 } (List.mem_iff_getElem.2 ⟨j, by simpa using hjl, by simp⟩) (by rw [e]; exact g3)
    unfold upd; rw [if_neg hut]
    refine h2 u (fun x hx e => ?_)
    obtain ⟨i, hi, rfl⟩ := List.mem_iff_getElem.1 hx
    have hij : j ≠ i := fun e1 => by
     subst e1
     rw [List.getElem?_eq_getElem hi] at g2
     injection g2 with g2
     rw [g2, g3] at e
     exact hut (kv_inj e).symm
    exact hu es.toList[i] (List.mem_iff_getElem.2 ⟨i, by simpa using hi, by rw [List.getElem_set_ne hij]⟩) e
   ·have far : ∀ x ∈ es.toList, x.key ≠ kv t → x.val.ownBlock = none ∨ x.val.ownBlock ≠ v2.ownBlock := fun x hx hne => by
     rcases hv with e | e
     ·rw [e]; exact h3 x hx e0 he0 (by rw [g3]; exact hne)
     ·obtain ⟨u, hu, ho1⟩ := h1 x hx
      rcases hq : x.val.ownBlock with _ | g
      ·exact Or.inl rfl
      ·right; rw [e]; have := row_lt ho1 hq; simp; omega
    rw [hl]; intro x hx y hy hxy
    rcases hmem x hx with rfl | ⟨hx, hnx⟩ <;> rcases hmem y hy with rfl | ⟨hy, hny⟩
    ·exact absurd rfl hxy
    ·rcases far y hy hny with e | e
     ·rcases hq : v2.ownBlock with _ | g
      ·exact Or.inl rfl
      ·right; rw [e]; simp
     ·exact Or.inr (fun e1 => e e1.symm)
    ·exact far x hx hnx
    ·exact h3 x hx y hy hxy
end Go.Proofs.YthpdcnjaodjjmaaGreat.Match

/- package match: put and find of the index. -/
namespace Go.Proofs.YthpdcnjaodjjmaaGreat.Match
open Go Go.RowKit Go.Proofs.YthpdcnjaodjjmaaGreat
set_option linter.unusedVariables false

def tl (t : Tri) : List UInt8 := [t.1, t.2.1, t.2.2]
theorem tl_inj {s t : Tri} (h : tl s = tl t) : s = t := by
 obtain ⟨a, b, c⟩ := s
 obtain ⟨a', b', c'⟩ := t
 simp [tl] at h
 obtain ⟨rfl, rfl, rfl⟩ := h
 rfl
def IdxAt (w : World) (base b : Nat) (xs : List UInt8) (K : Nat) : Prop := GAt w base b (fun t => occ xs (tl t) K)
theorem tri_eq (xs : List UInt8) (k : Nat) (h : k + 3 ≤ xs.length) : tri xs k = tl (xs[k], xs[k + 1], xs[k + 2]) := by
 unfold tri tl
 rw [List.drop_eq_getElem_cons (by omega), List.drop_eq_getElem_cons (by omega), List.drop_eq_getElem_cons (by omega), List.take_succ_cons, List.take_succ_cons, List.take_succ_cons, List.take_zero]
theorem idx_next {w : World} {base b : Nat} {xs : List UInt8} {K : Nat} (hK : K + 3 ≤ xs.length) (t : Tri) (ht : tri xs K = tl t) (h : GAt w base b (upd (fun t => occ xs (tl t) K) t (occ xs (tl t) K ++ [K]))) : IdxAt w base b xs (K + 1) := by
 unfold IdxAt
 have e : (fun t => occ xs (tl t) (K + 1)) = upd (fun t => occ xs (tl t) K) t (occ xs (tl t) K ++ [K]) := by
  funext u
  unfold upd
  rw [occ_succ]
  by_cases hu : u = t
  ·subst hu; rw [if_pos ⟨hK, ht⟩, if_pos rfl]
  ·rw [if_neg hu, if_neg (fun h => hu (tl_inj (h.2.symm.trans ht)))]; simp
 rw [e]; exact h
theorem idx_stay {w : World} {base b : Nat} {xs : List UInt8} {K : Nat} (hK : ¬ K + 3 ≤ xs.length) (h : IdxAt w base b xs K) : IdxAt w base b xs (K + 1) := by
 unfold IdxAt at h ⊢
 have e : (fun t => occ xs (tl t) (K + 1)) = (fun t => occ xs (tl t) K) := by
  funext u; rw [occ_succ, if_neg (fun h => hK h.1)]; simp
 rw [e]; exact h
structure KeepsM (base b : Nat) (w w' : World) : Prop where
 below : Below base w w'
 other : ∀ (k : Nat) (o : Obj), w.heap[k]? = some o → k ≠ b → (∀ cs t fr, o = Obj.cells cs t fr → t ≠ 3) → w'.heap[k]? = some o

section
variable {base b : Nat} {w w' w'' : World}
theorem KeepsM.refl (base b : Nat) (w : World) : KeepsM base b w w := ⟨Below.refl _ _, fun _ _ h _ _ => h⟩
theorem KeepsM.alloc (h : KeepsM base b w w') (hb : base ≤ w'.heap.size) (o : Obj) : KeepsM base b w (w'.alloc o) :=
 ⟨h.below.alloc hb o, fun k u hu hkb ht => by
  have := h.other k u hu hkb ht
  rw [Below.heap_alloc w' o k (Array.getElem?_eq_some_iff.1 this).1]; exact this⟩
theorem KeepsM.map (h : KeepsM base b w w') (hbb : base ≤ b) (hb : base ≤ w'.heap.size) (hg : w'.grownBy w'' (some b)) : KeepsM base b w w'' :=
 ⟨h.below.trans ⟨hg.os, hg.tape, hg.output, hg.size, fun k hk => hg.block k (by omega) (by simp; omega)⟩, fun k u hu hkb ht => by
  have := h.other k u hu hkb ht
  rw [hg.block k (Array.getElem?_eq_some_iff.1 this).1 (by simpa using hkb)]; exact this⟩
theorem KeepsM.row (h : KeepsM base b w w') (hb : base ≤ w'.heap.size) {v : Value} {n : Nat} {xs : List Value} (ho : w'.ownsRow base 3 1 v n xs) (hg : w'.grownBy w'' v.ownBlock) : KeepsM base b w w'' := by
 have key : ∀ (k : Nat), v.ownBlock = some k → base ≤ k ∧ ∃ cs fr, w'.heap[k]? = some (.cells cs 3 fr) := fun k hk => by
  rcases ho.2 with ⟨rfl, _⟩ | ⟨g, cap, cur, rfl, h1, h2, _⟩
  ·simp [Value.ownBlock] at hk
  ·simp only [Value.ownBlock, Option.some.injEq] at hk
   subst hk; exact ⟨h1, _, _, h2⟩
 refine ⟨h.below.trans ⟨hg.os, hg.tape, hg.output, hg.size, fun k hk => hg.block k (by omega) (fun e => ?_)⟩, fun k u hu hkb ht => ?_⟩
 ·have := (key k e.symm).1; omega
 ·have := h.other k u hu hkb ht
  rw [hg.block k (Array.getElem?_eq_some_iff.1 this).1 (fun e => ?_)]
  ·exact this
  ·obtain ⟨_, cs, fr, hc⟩ := key k e.symm
   rw [this] at hc; injection hc with hc; subst hc
   exact ht _ _ _ rfl rfl
end
theorem run_arrayAt (w : World) (a : Option Addr) (m : Nat) : (Instr.arrayAt 130 (.slice a 3 m)).run Tryz.prog w = .ok (.pointer a) w := by
 simp [Instr.arrayAt, run_underlying Tryz.underlying130]
set_option maxRecDepth 100000 in
set_option maxHeartbeats 1600000 in
theorem put_yes (A : Option Addr) (n c K base b : Nat) (xs : List UInt8) (w : World) (hn : xs.length = n) (hnc : n ≤ c) (hx : n ≤ 1000000) (hA : ByAt w A xs) (hk : K + 3 ≤ n) (hI : IdxAt w base b xs K) :
  Calls Tryz.prog 47 #[.map (some b), .slice A n c, .int .i64 (K : Int)] w fun e w' => e = .returned (.tuple #[]) ∧ IdxAt w' base b xs (K + 1) ∧ KeepsM base b w w' := by
 have HI := Lib.hid hI
 have Hn := Lib.hid hn
 have hk' : K + 3 ≤ xs.length := by omega
 obtain ⟨bb, o, rfl, hc0⟩ := hA.get (k := K) (by omega)
 obtain ⟨b', o', hb, hc1⟩ := hA.get (k := K + 1) (by omega)
 injection hb with hb; injection hb with e1 e2 e3; subst e1 e2
 obtain ⟨b', o', hb, hc2⟩ := hA.get (k := K + 2) (by omega)
 injection hb with hb; injection hb with e1 e2 e3; subst e1 e2
 have Ht := Lib.hid (tri_eq xs K hk')
 clear hI hA
 generalize xs[K] = x0 at *
 generalize xs[K + 1] = x1 at *
 generalize xs[K + 2] = x2 at *
 clear hn
 rw [← Nat.add_assoc] at hc1 hc2
 have g1 : (K : Int) + 3 ≤ (c : Int) := by omega
 have g2 : (0 : Int) ≤ (K : Int) + 3 := by omega
 have g3 : ¬ c = K := by omega
 have ka := run_arrayAt
 go_enter Tryz.func47, Tryz.ntmps47
 go_wp2_with fail
 have hblt := HI.out.lt
 have hbb := HI.out.1
 obtain ⟨v, st, w1, hrun, hown, hg1, hsz1, hvb, hback⟩ := GAt.entry ((HI.out.alloc (.cells #[.int .u8 (n8 x0), .int .u8 (n8 x1), .int .u8 (n8 x2)] 130)).alloc (.cells #[.int .i64 (K : Int)] 3)) (x0, x1, x2)
 have hr : (Instr.mapEntry 91 (.map (some b)) (.agg #[.int .u8 (n8 x0), .int .u8 (n8 x1), .int .u8 (n8 x2)])).run Tryz.prog ((w.alloc (.cells #[.int .u8 (n8 x0), .int .u8 (n8 x1), .int .u8 (n8 x2)] 130)).alloc (.cells #[.int .i64 (K : Int)] 3)) = .ok (.tuple #[v, goInt st]) w1 := hrun
 have Hback := Lib.hid hback
 have Hown := Lib.hid hown
 have Hg1 := Lib.hid hg1
 have Hvb := Lib.hid hvb
 have Hsz1 := Lib.hid hsz1
 have Hr := Lib.hid hr
 have Hol := Lib.hid (occ_len xs (tl (x0, x1, x2)) K)
 have HSl : Hid (SlAt w1 (some ⟨w.heap.size + 1, 0, none⟩) [.int .i64 (K : Int)]) := Lib.hid (by
  have := slat_one (w.alloc (.cells #[.int .u8 (n8 x0), .int .u8 (n8 x1), .int .u8 (n8 x2)] 130)) 3 (.int .i64 (K : Int))
  intro hp
  obtain ⟨q, r, e, hq⟩ := this hp
  refine ⟨q, r, by simpa using e, fun j u hj => ?_⟩
  have h1 := hq j u hj
  have eq : w.heap.size + 1 = q := by simp at e; omega
  have a1 : q < ((w.alloc (.cells #[.int .u8 (n8 x0), .int .u8 (n8 x1), .int .u8 (n8 x2)] 130)).alloc (.cells #[.int .i64 (K : Int)] 3)).heap.size := by simp; omega
  have a2 : some q ≠ some b := by simp only [Option.some.injEq, ne_eq]; omega
  rw [World.cell?_of_block (hg1.block q a1 a2)]
  exact h1)
 clear hback hown hg1 hvb hsz1 hr hrun
 generalize hls0 : occ xs (tl (x0, x1, x2)) K = ls at *
 have Hls := Lib.hid hls0
 clear hls0
 have hls : ls.length ≤ 1000000 := by have := Hol.out; omega
 rw [Hr.out]
 go_wp2_with (at_builtin; refine wpList_app _ rfl (.tmp 21) (.tmp 23) _ rfl base 3 _ 1 8 tyI v ls.length (ls.map natV) rfl Hown.out (some ⟨w.heap.size + 1, 0, none⟩) 1 1 [.int .i64 (K : Int)] rfl rfl HSl.out (by simp [Value.oneCell']) (by simp) (by unfold maxLen; omega) (by omega) (by have := Hsz1.out; simp at this; omega) ?_; intro v2 w2 hown2 hg2 hl2)
 obtain ⟨w3, hr3, hG, hg3⟩ := Hback.out w2 v2 (ls ++ [K]) hg2 (by rw [List.length_append, List.map_append]; exact hown2) (by rw [← Hsz1.out]; exact hl2)
 have HK := Lib.hid ((((((KeepsM.refl base b w).alloc (by omega) (.cells #[.int .u8 (n8 x0), .int .u8 (n8 x1), .int .u8 (n8 x2)] 130)).alloc (by simp; omega) (.cells #[.int .i64 (K : Int)] 3)).map hbb (by simp; omega) Hg1.out).row (by have := Hsz1.out; simp at this; omega) Hown.out hg2).map hbb (by have := Hsz1.out; have := hg2.size; simp at *; omega) hg3)
 have HG := Lib.hid hG
 have Hr3 : Hid ((Instr.entryStore 91 (.map (some b)) (.int .i64 st) v2).run Tryz.prog w2 = .ok () w3) := Lib.hid hr3
 clear hG hg3 hr3 hown2 hg2 hl2
 rw [Hr3.out]
 go_wp2_with fail
 go_end0
 exact ⟨rfl, idx_next (by rw [Hn.out]; exact hk) _ Ht.out (by rw [Hls.out]; exact HG.out), HK.out⟩

set_option maxHeartbeats 400000 in
theorem put_no (A : Option Addr) (n c K b : Nat) (w : World) (hx : n ≤ 1000000) (hk : n < K + 3) (hK : K ≤ n) :
  Calls Tryz.prog 47 #[.map (some b), .slice A n c, .int .i64 (K : Int)] w fun e w' => e = .returned (.tuple #[]) ∧ w' = w := by
 have hI : ¬ ((K : Int) + 3 ≤ (n : Int)) := by omega
 go_enter Tryz.func47, Tryz.ntmps47
 go_wp2_with fail
 go_end0
 exact ⟨rfl, rfl⟩
theorem put_any (A : Option Addr) (n c K base b : Nat) (xs : List UInt8) (w : World) (hn : xs.length = n) (hnc : n ≤ c) (hx : n ≤ 1000000) (hA : ByAt w A xs) (hK : K ≤ n) (hI : IdxAt w base b xs K) :
  Calls Tryz.prog 47 #[.map (some b), .slice A n c, .int .i64 (K : Int)] w fun e w' => e = .returned (.tuple #[]) ∧ IdxAt w' base b xs (K + 1) ∧ KeepsM base b w w' := by
 by_cases h : K + 3 ≤ n
 ·exact put_yes A n c K base b xs w hn hnc hx hA h hI
 ·refine (put_no A n c K b w hx (by omega) hK).mono ?_
  rintro e w' ⟨rfl, rfl⟩
  exact ⟨rfl, idx_stay (by omega) hI, KeepsM.refl _ _ _⟩
def FindPost (xs : List UInt8) (k : Nat) (w : World) (e : Ending) (w' : World) : Prop := e = .returned (.tuple #[.int .i64 (((longest xs k).1 : Nat) : Int), .int .i64 (((longest xs k).2 : Nat) : Int)]) ∧ ∃ d, w' = w.drewN d
theorem tryAll_le (xs : List UInt8) (k : Nat) (l : List Nat) (h : ∀ p ∈ l, p ≤ k) : (tryAll xs k l).1 ≤ 258 ∧ (tryAll xs k l).2 ≤ k := by
 have key : ∀ (l : List Nat) (s : Nat × Nat), (∀ p ∈ l, p ≤ k) → s.1 ≤ 258 ∧ s.2 ≤ k → (l.foldl (tryAt xs k) s).1 ≤ 258 ∧ (l.foldl (tryAt xs k) s).2 ≤ k := by
  intro l
  induction l with
  | nil => intro s _ h; exact h
  | cons a l ih =>
   intro s hl hs
   refine ih _ (fun p hp => hl p (by simp [hp])) ?_
   have := same_le xs a k (hl a (by simp))
   unfold tryAt
   split
   ·exact ⟨this.1, Nat.sub_le _ _⟩
   ·exact hs
 exact key l (0, 0) h ⟨by simp, by simp⟩
set_option maxRecDepth 100000 in
set_option maxHeartbeats 1600000 in
theorem find_yes (A : Option Addr) (n c k base b : Nat) (xs : List UInt8) (w : World) (hn : xs.length = n) (hnc : n ≤ c) (hx : n ≤ 1000000) (hA : ByAt w A xs) (hk : k + 3 ≤ n) (hI : IdxAt w base b xs k) :
  Calls Tryz.prog 46 #[.map (some b), .slice A n c, .int .i64 (k : Int)] w (FindPost xs k w) := by
 have Hn := Lib.hid hn
 have HA := Lib.hid hA
 have hk' : k + 3 ≤ xs.length := by omega
 obtain ⟨bb, o, rfl, hc0⟩ := hA.get (k := k) (by omega)
 obtain ⟨b', o', hb, hc1⟩ := hA.get (k := k + 1) (by omega)
 injection hb with hb; injection hb with e1 e2 e3; subst e1 e2
 obtain ⟨b', o', hb, hc2⟩ := hA.get (k := k + 2) (by omega)
 injection hb with hb; injection hb with e1 e2 e3; subst e1 e2
 have Hl := Lib.hid (find_eq xs k hk')
 have Ht := tri_eq xs k hk'
 rw [Ht] at Hl
 have Hlt : Hid (∀ p ∈ occ xs (tl (xs[k], xs[k + 1], xs[k + 2])) k, p < k) := Lib.hid (fun p hp => (occ_lt xs _ k p hp).1)
 have Hol := Lib.hid (occ_len xs (tl (xs[k], xs[k + 1], xs[k + 2])) k)
 obtain ⟨v, hr, hown⟩ := hI.look (xs[k], xs[k + 1], xs[k + 2])
 simp only [kv, u8v] at hr
 obtain ⟨B, cap, rfl, hv1, hv2, hsl, hv0⟩ := own_slat hown
 have Hsl := Lib.hid hsl
 clear hI hA hown Ht hsl hv0
 generalize occ xs (tl (xs[k], xs[k + 1], xs[k + 2])) k = ls at *
 generalize xs[k] = x0 at *
 generalize xs[k + 1] = x1 at *
 generalize xs[k + 2] = x2 at *
 clear hn
 rw [← Nat.add_assoc] at hc1 hc2
 have g1 : (k : Int) + 3 ≤ (c : Int) := by omega
 have g2 : (0 : Int) ≤ (k : Int) + 3 := by omega
 have g3 : ¬ c = k := by omega
 have ka := run_arrayAt
 have hls : ls.length ≤ 1000000 := by have := Hol.out; omega
 generalize hN : ls.length = N at *
 have HN := Lib.hid hN
 clear hN
 go_enter Tryz.func46, Tryz.ntmps46
 go_wp2_with fail
 clear hr hc0 hc1 hc2 ka
 go_loopw [6, 7, 9] (fun a f j wr => ∃ d : Nat, d ≤ N ∧ j = .int .i64 ((N : Int) - 1 - (d : Int)) ∧ a = .int .i64 (((tryAll xs k (ls.reverse.take d)).1 : Nat) : Int) ∧ f = .int .i64 (((tryAll xs k (ls.reverse.take d)).2 : Nat) : Int) ∧ ∃ d, wr = w.drewN d) (fun _ _ i _ => (intOf i + 1).toNat)
 case atStart => exact ⟨0, Nat.zero_le _, by simp, rfl, rfl, 0, rfl⟩
 case round =>
  obtain ⟨d, hd, rfl, rfl, rfl, q, rfl⟩ := hrel
  have hl := tryAll_le xs k (ls.reverse.take d) (fun p hp => Nat.le_of_lt (Hlt.out p (by have := List.mem_of_mem_take hp; simpa using this)))
  have hl1 := hl.1
  have hl2 := hl.2
  clear hl
  by_cases hlt : d < N
  ·have hdr : d < ls.reverse.length := by simp; have := HN.out; omega
   have hge : (0 : Int) ≤ (N : Int) - 1 - (d : Int) := by omega
   have hi : ((N : Int) - 1 - (d : Int)) = ((N - 1 - d : Nat) : Int) := by omega
   have hdl : N - 1 - d < ls.length := by have := HN.out; omega
   have Hs := Lib.hid (show tryAll xs k (ls.reverse.take (d + 1)) = tryAt xs k (tryAll xs k (ls.reverse.take d)) ls.reverse[d] by rw [take_snoc _ _ hdr, tryAll_snoc])
   have Hg : Hid (ls.reverse[d] = ls[N - 1 - d]) := Lib.hid (by rw [List.getElem_reverse]; congr 1; have := HN.out; omega)
   obtain ⟨bi, oi, rfl, hci⟩ := Hsl.out.get (k := N - 1 - d) (by simpa using hdl)
   simp only [List.getElem_map, natV] at hci
   have hpk := Hlt.out ls[N - 1 - d] (List.getElem_mem hdl)
   rw [Hg.out] at Hs
   rw [hi] at hge ⊢
   have Hd : Hid (d + 1 + (N - 1 - d) = N) := Lib.hid (by omega)
   clear hi hdr Hg
   generalize tryAll xs k (ls.reverse.take d) = s at *
   obtain ⟨a, f⟩ := s
   generalize ls[N - 1 - d] = i at *
   clear hdl
   generalize N - 1 - d = z at *
   dsimp only at hl1 hl2 ⊢
   have hzN : z < N := by have := Hd.out; omega
   have hzN' : (z : Int) < (N : Int) := by omega
   have hki : IntKind.i64.wrap ((k : Int) - (i : Int)) = (k : Int) - (i : Int) := IntWalk.i64_in _ (by omega)
   go_wp2_with fail
   refine (same_any _ n c i k xs _ Hn.out hx (by exact HA.out) (by omega) (by omega)).mono ?_
   rintro e w1 ⟨rfl, q2, rfl⟩
   have htry1 : Hid (a < sameN xs i k → tryAt xs k (a, f) i = (sameN xs i k, k - i)) := Lib.hid (fun h => if_pos h)
   have htry2 : Hid (¬ a < sameN xs i k → tryAt xs k (a, f) i = (a, f)) := Lib.hid (fun h => if_neg h)
   generalize sameN xs i k = m at *
   by_cases hz : a < m
   ·have Hs2 : Hid (tryAll xs k (ls.reverse.take (d + 1)) = (m, k - i)) := Lib.hid (by rw [Hs.out]; exact htry1.out hz)
    go_wp2_with fail
    go_quiet (fail)
    go_wp2_with fail
    go_roundw
    case rel => exact ⟨d + 1, by omega, int_eq (by have := Hd.out; omega), by rw [Hs2.out], by rw [Hs2.out]; exact int_eq (by dsimp only; omega), _, rfl⟩
    case measure => simp [intOf]
   ·have Hs2 : Hid (tryAll xs k (ls.reverse.take (d + 1)) = (a, f)) := Lib.hid (by rw [Hs.out]; exact htry2.out hz)
    go_wp2_with fail
    go_roundw
    case rel => exact ⟨d + 1, by omega, int_eq (by have := Hd.out; omega), by rw [Hs2.out], by rw [Hs2.out], _, rfl⟩
    case measure => simp [intOf]
  ·obtain rfl : d = N := by omega
   have Hall : Hid (tryAll xs k (ls.reverse.take d) = longest xs k) := Lib.hid (by
    rw [List.take_of_length_le (by simp; have := HN.out; omega)]; exact Hl.out)
   rw [Hall.out] at hl1 hl2 ⊢
   go_wp2_with fail
   go_ret2
   exact ⟨rfl, _, rfl⟩
theorem find_no (A : Option Addr) (n c k b : Nat) (xs : List UInt8) (w : World) (hn : xs.length = n) (hx : n ≤ 1000000) (hk : n < k + 3) (hK : k ≤ n) :
  Calls Tryz.prog 46 #[.map (some b), .slice A n c, .int .i64 (k : Int)] w (FindPost xs k w) := by
 have Hl := Lib.hid (longest_end xs k (by omega))
 have hI : ¬ ((k : Int) + 3 ≤ (n : Int)) := by omega
 clear hn
 go_enter Tryz.func46, Tryz.ntmps46
 go_wp2_with fail
 go_ret2
 exact ⟨by rw [Hl.out]; rfl, 0, rfl⟩
theorem find_any (A : Option Addr) (n c k base b : Nat) (xs : List UInt8) (w : World) (hn : xs.length = n) (hnc : n ≤ c) (hx : n ≤ 1000000) (hA : ByAt w A xs) (hk : k ≤ n) (hI : IdxAt w base b xs k) :
  Calls Tryz.prog 46 #[.map (some b), .slice A n c, .int .i64 (k : Int)] w (FindPost xs k w) := by
 by_cases h : k + 3 ≤ n
 ·exact find_yes A n c k base b xs w hn hnc hx hA h hI
 ·exact find_no A n c k b xs w hn hx (by omega) hk
end Go.Proofs.YthpdcnjaodjjmaaGreat.Match

/- package match: Tokens. -/
namespace Go.Proofs.YthpdcnjaodjjmaaGreat.Match
open Go Go.RowKit Go.Proofs.YthpdcnjaodjjmaaGreat
set_option linter.unusedVariables false

theorem tyT : SliceTy Tryz.prog 54 96 (.agg #[.int .u8 0, .int .i64 0, .int .i64 0]) 3 24 := ⟨Tryz.underlying54, by kernel_rfl, rfl, by omega⟩
def tokC (t : Tok) : List Value := [u8v t.1, iv t.2.1, iv t.2.2]
theorem KeepsM.own {base b : Nat} {w w' : World} (h : KeepsM base b w w') {F : Tri → List Nat} {B : Nat} (hI : GAt w B b F) {base' : Nat} {e : TypeId} {size n : Nat} {v : Value} {xs : List Value} (ho : w.ownsRow base' e size v n xs) (he : e ≠ 3) : w'.ownsRow base' e size v n xs := by
 refine ⟨ho.1, ?_⟩
 rcases ho.2 with h0 | ⟨g, cap, cur, rfl, h1, h2, h3⟩
 ·exact Or.inl h0
 ·refine Or.inr ⟨g, cap, cur, rfl, h1, ?_, h3⟩
  refine h.other g _ h2 (fun eb => ?_) (fun cs t fr ec => by injection ec with e1 e2 e3; rw [← e2]; exact he)
  obtain ⟨_, es, clock, hb, _⟩ := hI
  rw [eb, hb] at h2; cases h2
theorem GAt.grown {w w' : World} {base b : Nat} {F : Tri → List Nat} (h : GAt w base b F) {base' : Nat} {e : TypeId} {size n : Nat} {v : Value} {xs : List Value} (ho : w.ownsRow base' e size v n xs) (hg : w.grownBy w' v.ownBlock) (he : e ≠ 3) : GAt w' base b F :=
 h.keep fun k o hk ht => by
  rw [hg.block k (Array.getElem?_eq_some_iff.1 hk).1 (fun eq => ?_)]
  ·exact hk
  ·rcases ho.2 with ⟨rfl, _⟩ | ⟨g, cap, cur, rfl, h1, h2, h3⟩
   ·simp [Value.ownBlock] at eq
   ·simp only [Value.ownBlock, Option.some.injEq] at eq
    subst eq
    rw [h2] at hk; injection hk with hk
    exact he (ht _ _ _ hk.symm)
def TokYes (xs : List UInt8) (w : World) (e : Ending) (w' : World) : Prop :=
 (∃ v, e = .returned (.tuple #[v, .int .i64 0]) ∧ w'.ownsRow w.heap.size 96 3 v (toks xs).length ((toks xs).flatMap tokC)) ∧ Below w.heap.size w w'
theorem tstep_lit {b : List UInt8} {k a m : Nat} {l : List Tok} (hk : k < b.length) (h : (longest b k).1 = 0 ∨ (k + 1 < b.length ∧ (longest b k).1 < (longest b (k + 1)).1)) : tstep b (k, l) = (k + 1, l ++ [(b[k], 0, 0)]) := by
 unfold tstep
 rw [if_pos hk, if_pos h]
 simp only [List.getD_eq_getElem?_getD, List.getElem?_eq_getElem hk]; rfl
theorem tstep_cpy {b : List UInt8} {k : Nat} {l : List Tok} (hk : k < b.length) (h : ¬ ((longest b k).1 = 0 ∨ (k + 1 < b.length ∧ (longest b k).1 < (longest b (k + 1)).1))) : tstep b (k, l) = (k + (longest b k).1, l ++ [(0, ((longest b k).1 : Int), ((longest b k).2 : Int))]) := by
 unfold tstep
 rw [if_pos hk, if_neg h]

set_option maxRecDepth 100000 in
set_option maxHeartbeats 4000000 in
theorem tokens_yes (A : Option Addr) (n c : Nat) (xs : List UInt8) (w : World) (hn : xs.length = n) (hnc : n ≤ c) (hx : n ≤ 3000) (hA : ByAt w A xs) :
  Calls Tryz.prog 26 #[.slice A n c] w (TokYes xs w) := by
 have Hn := Lib.hid hn
 have HA := Lib.hid hA
 clear hn hA
 have hnm : ¬ (3000 < (n : Int)) := by omega
 have hmm := @run_makeMap Tryz.prog
 go_enter Tryz.func26, Tryz.ntmps26
 go_wp2_with fail
 clear hmm
 go_loopw [5, 6] (fun v i wr => ∃ V : Value, V = v ∧ ∃ m k : Nat, ∃ l : List Tok, titer xs m = (k, l) ∧ k ≤ n ∧ l.length ≤ k ∧ i = .int .i64 (k : Int) ∧ wr.ownsRow w.heap.size 96 3 V l.length (l.flatMap tokC) ∧ IdxAt wr w.heap.size w.heap.size xs k ∧ Below w.heap.size w wr) (fun _ i _ => n - (intOf i).toNat)
 case atStart => exact ⟨_, rfl, 0, 0, [], rfl, Nat.zero_le _, Nat.le_refl _, rfl, World.ownsRow_nil _ _ _ _, GAt.made w (Nat.le_refl _), (Below.refl _ w).alloc (Nat.le_refl _) _⟩
 case round =>
  obtain ⟨v, rfl, m, k, l, hm, hk, hl, rfl, ho, hI, hb⟩ := hrel
  have Hm := Lib.hid hm
  have Ho := Lib.hid ho
  have HI := Lib.hid hI
  have Hb := Lib.hid hb
  clear hm ho hI hb
  by_cases hlt : k < n
  ·have hkl : k < xs.length := by rw [Hn.out]; exact hlt
   have HA1 := Lib.hid (HA.out.below Hb.out)
   go_wp2_with fail
   refine (find_any A n c k _ _ xs _ Hn.out hnc (by omega) HA1.out hk HI.out).mono ?_
   rintro e w1 ⟨rfl, hd⟩
   have hle := longest_le xs k
   have h258 := hle.1
   have hsum := hle.2.1
   have hfar := hle.2.2.1
   clear hle
   have HI1 : Hid (IdxAt w1 w.heap.size w.heap.size xs k) := Lib.hid (by obtain ⟨q, rfl⟩ := hd; exact HI.out)
   have Ho1 : Hid (w1.ownsRow w.heap.size 96 3 v l.length (l.flatMap tokC)) := Lib.hid (by obtain ⟨q, rfl⟩ := hd; exact Ho.out)
   have HA2 : Hid (ByAt w1 A xs) := Lib.hid (by obtain ⟨q, rfl⟩ := hd; exact HA1.out)
   have Hb1 : Hid (Below w.heap.size w w1) := Lib.hid (by obtain ⟨q, rfl⟩ := hd; exact below_drewN' Hb.out q)
   clear hd HI Ho HA1 Hb
   have Hlit : Hid ((longest xs k).1 = 0 ∨ (k + 1 < xs.length ∧ (longest xs k).1 < (longest xs (k + 1)).1) → titer xs (m + 1) = (k + 1, l ++ [(xs[k], 0, 0)])) := Lib.hid (fun h => by
    show tstep xs (titer xs m) = _
    rw [Hm.out]; exact tstep_lit (a := 0) (m := 0) hkl h)
   have Hcpy : Hid (¬ ((longest xs k).1 = 0 ∨ (k + 1 < xs.length ∧ (longest xs k).1 < (longest xs (k + 1)).1)) → titer xs (m + 1) = (k + (longest xs k).1, l ++ [(0, ((longest xs k).1 : Int), ((longest xs k).2 : Int))])) := Lib.hid (fun h => by
    show tstep xs (titer xs m) = _
    rw [Hm.out]; exact tstep_cpy hkl h)
   rw [Hn.out] at hsum Hlit Hcpy
   generalize longest xs k = s at *
   obtain ⟨a, f⟩ := s
   dsimp only at h258 hsum hfar Hlit Hcpy ⊢
   go_wp2_with fail
   refine (put_any A n c k _ _ xs _ Hn.out hnc (by omega) HA2.out hk HI1.out).mono ?_
   rintro e w2 ⟨rfl, hI2, hK2⟩
   have HI2 := Lib.hid hI2
   have Ho2 := Lib.hid (hK2.own HI1.out Ho1.out (by decide))
   have Hb2 := Lib.hid (Hb1.out.trans hK2.below)
   clear hI2 hK2 HI1 Ho1 HA2 Hb1
   have hkx : k < xs.length := hkl
   have hll : l.length ≤ 3000 := by omega
   by_cases ha : a = 0
   ·have Hnew := Lib.hid (Hlit.out (Or.inl ha))
    subst ha
    obtain ⟨w3, hw3⟩ : ∃ w3, w3 = w2 := ⟨_, rfl⟩
    subst hw3
    clear Hlit Hcpy
    obtain ⟨bb, oo, rfl, hcell⟩ := (HA.out.below Hb2.out).get hkx
    generalize xs[k] = x at *
    have HI3 := Lib.hid (GAt.alloc HI2.out (.cells #[.int .u8 (n8 x), .int .i64 0, .int .i64 0] 96))
    have Ho3 := Lib.hid (own_keep Ho2.out ((Below.refl w3.heap.size w3).alloc (Nat.le_refl _) (.cells #[.int .u8 (n8 x), .int .i64 0, .int .i64 0] 96)))
    have Hb3 := Lib.hid (Hb2.out.alloc Hb2.out.size (.cells #[.int .u8 (n8 x), .int .i64 0, .int .i64 0] 96))
    have Hsl : Hid (SlAt (w3.alloc (.cells #[.int .u8 (n8 x), .int .i64 0, .int .i64 0] 96)) (some ⟨w3.heap.size, 0, none⟩) [.int .u8 (n8 x), .int .i64 0, .int .i64 0]) := Lib.hid (SlAt.of_heap (heap_alloc_new _ _) rfl)
    go_wp2_with (at_builtin; refine wpList_app _ rfl (.tmp 53) (.tmp 59) _ rfl w.heap.size 96 _ 3 24 tyT v l.length (l.flatMap tokC) rfl Ho3.out (some ⟨w3.heap.size, 0, none⟩) 1 1 [.int .u8 (n8 x), .int .i64 0, .int .i64 0] rfl rfl Hsl.out (by simp [Value.oneCell']) (by simp) (by unfold maxLen; omega) (by omega) Hb3.out.size ?_; intro v4 w4 hown4 hg4 _; have Ho4 := Lib.hid hown4; have HI4 := Lib.hid (GAt.grown HI3.out Ho3.out hg4 (by decide)); have Hb4 := Lib.hid (own_below Ho3.out hg4 Hb3.out Hb3.out.size); clear hown4 hg4)
    go_roundw
    case rel => exact ⟨v4, rfl, m + 1, k + 1, _, Hnew.out, by omega, by simp; omega, by go_num, by rw [List.length_append, List.flatMap_append]; exact Ho4.out, HI4.out, Hb4.out⟩
    case measure => simp [intOf]; omega
   ·have ha0 : 0 < a := by omega
    by_cases hk1 : k + 1 < n
    ·have hk1' : (k : Int) + 1 < (n : Int) := by omega
     go_wp2_with fail
     have hk1i : ((k : Int) + 1) = ((k + 1 : Nat) : Int) := by omega
     rw [hk1i]
     refine (find_any A n c (k + 1) _ _ xs _ Hn.out hnc (by omega) (HA.out.below Hb2.out) (by omega) HI2.out).mono ?_
     rintro e w3 ⟨rfl, hd⟩
     clear hk1i
     have h258' := (longest_le xs (k + 1)).1
     have HI2 : Hid (IdxAt w3 w.heap.size w.heap.size xs (k + 1)) := Lib.hid (by obtain ⟨q, rfl⟩ := hd; exact HI2.out)
     have Ho2 : Hid (w3.ownsRow w.heap.size 96 3 v l.length (l.flatMap tokC)) := Lib.hid (by obtain ⟨q, rfl⟩ := hd; exact Ho2.out)
     have Hb2 : Hid (Below w.heap.size w w3) := Lib.hid (by obtain ⟨q, rfl⟩ := hd; exact below_drewN' Hb2.out q)
     clear hd
     generalize longest xs (k + 1) = s2 at *
     obtain ⟨a2, f2⟩ := s2
     dsimp only at h258' Hlit Hcpy ⊢
     by_cases hm2 : a < a2
     ·have Hnew := Lib.hid (Hlit.out (Or.inr ⟨hk1, hm2⟩))
      clear Hlit Hcpy
      obtain ⟨bb, oo, rfl, hcell⟩ := (HA.out.below Hb2.out).get hkx
      generalize xs[k] = x at *
      have HI3 := Lib.hid (GAt.alloc HI2.out (.cells #[.int .u8 (n8 x), .int .i64 0, .int .i64 0] 96))
      have Ho3 := Lib.hid (own_keep Ho2.out ((Below.refl w3.heap.size w3).alloc (Nat.le_refl _) (.cells #[.int .u8 (n8 x), .int .i64 0, .int .i64 0] 96)))
      have Hb3 := Lib.hid (Hb2.out.alloc Hb2.out.size (.cells #[.int .u8 (n8 x), .int .i64 0, .int .i64 0] 96))
      have Hsl : Hid (SlAt (w3.alloc (.cells #[.int .u8 (n8 x), .int .i64 0, .int .i64 0] 96)) (some ⟨w3.heap.size, 0, none⟩) [.int .u8 (n8 x), .int .i64 0, .int .i64 0]) := Lib.hid (SlAt.of_heap (heap_alloc_new _ _) rfl)
      go_wp2_with (at_builtin; refine wpList_app _ rfl (.tmp 53) (.tmp 59) _ rfl w.heap.size 96 _ 3 24 tyT v l.length (l.flatMap tokC) rfl Ho3.out (some ⟨w3.heap.size, 0, none⟩) 1 1 [.int .u8 (n8 x), .int .i64 0, .int .i64 0] rfl rfl Hsl.out (by simp [Value.oneCell']) (by simp) (by unfold maxLen; omega) (by omega) Hb3.out.size ?_; intro v4 w4 hown4 hg4 _; have Ho4 := Lib.hid hown4; have HI4 := Lib.hid (GAt.grown HI3.out Ho3.out hg4 (by decide)); have Hb4 := Lib.hid (own_below Ho3.out hg4 Hb3.out Hb3.out.size); clear hown4 hg4)
      go_roundw
      case rel => exact ⟨v4, rfl, m + 1, k + 1, _, Hnew.out, by omega, by simp; omega, by go_num, by rw [List.length_append, List.flatMap_append]; exact Ho4.out, HI4.out, Hb4.out⟩
      case measure => simp [intOf]; omega
     ·have Hnew := Lib.hid (Hcpy.out (by omega))
      clear Hlit Hcpy
      have HI3 := Lib.hid (GAt.alloc HI2.out (.cells #[.int .u8 0, .int .i64 (a : Int), .int .i64 (f : Int)] 96))
      have Ho3 := Lib.hid (own_keep Ho2.out ((Below.refl w3.heap.size w3).alloc (Nat.le_refl _) (.cells #[.int .u8 0, .int .i64 (a : Int), .int .i64 (f : Int)] 96)))
      have Hb3 := Lib.hid (Hb2.out.alloc Hb2.out.size (.cells #[.int .u8 0, .int .i64 (a : Int), .int .i64 (f : Int)] 96))
      have Hsl : Hid (SlAt (w3.alloc (.cells #[.int .u8 0, .int .i64 (a : Int), .int .i64 (f : Int)] 96)) (some ⟨w3.heap.size, 0, none⟩) [.int .u8 0, .int .i64 (a : Int), .int .i64 (f : Int)]) := Lib.hid (SlAt.of_heap (heap_alloc_new _ _) rfl)
      have heq0 : ((a : Int) == 0) = false := by simp; omega
      go_wp2_with (at_builtin; refine wpList_app _ rfl (.tmp 63) (.tmp 67) _ rfl w.heap.size 96 _ 3 24 tyT v l.length (l.flatMap tokC) rfl Ho3.out (some ⟨w3.heap.size, 0, none⟩) 1 1 [.int .u8 0, .int .i64 (a : Int), .int .i64 (f : Int)] rfl rfl Hsl.out (by simp [Value.oneCell']) (by simp) (by unfold maxLen; omega) (by omega) Hb3.out.size ?_; intro v4 w4 hown4 hg4 _; have Ho4 := Lib.hid hown4; have HI4 := Lib.hid (GAt.grown HI3.out Ho3.out hg4 (by decide)); have Hb4 := Lib.hid (own_below Ho3.out hg4 Hb3.out Hb3.out.size); clear hown4 hg4)
      go_loopw [11] (fun t wx => ∃ j : Nat, 1 ≤ j ∧ j ≤ a ∧ t = .int .i64 (j : Int) ∧ IdxAt wx w.heap.size w.heap.size xs (k + j) ∧ wx.ownsRow w.heap.size 96 3 v4 (l.length + 1) (l.flatMap tokC ++ [.int .u8 0, .int .i64 (a : Int), .int .i64 (f : Int)]) ∧ Below w.heap.size w wx) (fun t _ => a - (intOf t).toNat)
      case atStart => exact ⟨1, Nat.le_refl _, by omega, rfl, HI4.out, Ho4.out, Hb4.out⟩
      case round =>
       obtain ⟨j, hj1, hj, rfl, hIj, hoj, hbj⟩ := hrel
       have HIj := Lib.hid hIj
       have Hoj := Lib.hid hoj
       have Hbj := Lib.hid hbj
       clear hIj hoj hbj
       by_cases hja : j < a
       ·have HAj := Lib.hid (HA.out.below Hbj.out)
        go_wp2_with fail
        have hkj : ((k : Int) + (j : Int)) = ((k + j : Nat) : Int) := by omega
        rw [hkj]
        refine (put_any A n c (k + j) _ _ xs _ Hn.out hnc (by omega) HAj.out (by omega) HIj.out).mono ?_
        rintro e w5 ⟨rfl, hI5, hK5⟩
        have HI5 := Lib.hid hI5
        have Ho5 := Lib.hid (hK5.own HIj.out Hoj.out (by decide))
        have Hb5 := Lib.hid (Hbj.out.trans hK5.below)
        clear hI5 hK5 hkj
        go_wp2_with fail
        go_roundw
        case rel => exact ⟨j + 1, by omega, by omega, by go_num, HI5.out, Ho5.out, Hb5.out⟩
        case measure => simp [intOf]; omega
       ·obtain rfl : j = a := by omega
        go_wp2_with fail
        go_roundw
        case rel => exact ⟨v4, rfl, m + 1, k + j, _, Hnew.out, by omega, by simp; omega, by go_num, by rw [List.length_append, List.flatMap_append]; exact Hoj.out, HIj.out, Hbj.out⟩
        case measure => simp [intOf]; omega
    ·have hk1' : ¬ ((k : Int) + 1 < (n : Int)) := by omega
     have Hnew := Lib.hid (Hcpy.out (by omega))
     obtain ⟨w3, hw3⟩ : ∃ w3, w3 = w2 := ⟨_, rfl⟩
     subst hw3
     clear Hlit Hcpy
     have HI3 := Lib.hid (GAt.alloc HI2.out (.cells #[.int .u8 0, .int .i64 (a : Int), .int .i64 (f : Int)] 96))
     have Ho3 := Lib.hid (own_keep Ho2.out ((Below.refl w3.heap.size w3).alloc (Nat.le_refl _) (.cells #[.int .u8 0, .int .i64 (a : Int), .int .i64 (f : Int)] 96)))
     have Hb3 := Lib.hid (Hb2.out.alloc Hb2.out.size (.cells #[.int .u8 0, .int .i64 (a : Int), .int .i64 (f : Int)] 96))
     have Hsl : Hid (SlAt (w3.alloc (.cells #[.int .u8 0, .int .i64 (a : Int), .int .i64 (f : Int)] 96)) (some ⟨w3.heap.size, 0, none⟩) [.int .u8 0, .int .i64 (a : Int), .int .i64 (f : Int)]) := Lib.hid (SlAt.of_heap (heap_alloc_new _ _) rfl)
     have heq0 : ((a : Int) == 0) = false := by simp; omega
     go_wp2_with (at_builtin; refine wpList_app _ rfl (.tmp 63) (.tmp 67) _ rfl w.heap.size 96 _ 3 24 tyT v l.length (l.flatMap tokC) rfl Ho3.out (some ⟨w3.heap.size, 0, none⟩) 1 1 [.int .u8 0, .int .i64 (a : Int), .int .i64 (f : Int)] rfl rfl Hsl.out (by simp [Value.oneCell']) (by simp) (by unfold maxLen; omega) (by omega) Hb3.out.size ?_; intro v4 w4 hown4 hg4 _; have Ho4 := Lib.hid hown4; have HI4 := Lib.hid (GAt.grown HI3.out Ho3.out hg4 (by decide)); have Hb4 := Lib.hid (own_below Ho3.out hg4 Hb3.out Hb3.out.size); clear hown4 hg4)
     go_loopw [11] (fun t wx => ∃ j : Nat, 1 ≤ j ∧ j ≤ a ∧ t = .int .i64 (j : Int) ∧ IdxAt wx w.heap.size w.heap.size xs (k + j) ∧ wx.ownsRow w.heap.size 96 3 v4 (l.length + 1) (l.flatMap tokC ++ [.int .u8 0, .int .i64 (a : Int), .int .i64 (f : Int)]) ∧ Below w.heap.size w wx) (fun t _ => a - (intOf t).toNat)
     case atStart => exact ⟨1, Nat.le_refl _, by omega, rfl, HI4.out, Ho4.out, Hb4.out⟩
     case round =>
      obtain ⟨j, hj1, hj, rfl, hIj, hoj, hbj⟩ := hrel
      have HIj := Lib.hid hIj
      have Hoj := Lib.hid hoj
      have Hbj := Lib.hid hbj
      clear hIj hoj hbj
      by_cases hja : j < a
      ·have HAj := Lib.hid (HA.out.below Hbj.out)
       go_wp2_with fail
       have hkj : ((k : Int) + (j : Int)) = ((k + j : Nat) : Int) := by omega
       rw [hkj]
       refine (put_any A n c (k + j) _ _ xs _ Hn.out hnc (by omega) HAj.out (by omega) HIj.out).mono ?_
       rintro e w5 ⟨rfl, hI5, hK5⟩
       have HI5 := Lib.hid hI5
       have Ho5 := Lib.hid (hK5.own HIj.out Hoj.out (by decide))
       have Hb5 := Lib.hid (Hbj.out.trans hK5.below)
       clear hI5 hK5 hkj
       go_wp2_with fail
       go_roundw
       case rel => exact ⟨j + 1, by omega, by omega, by go_num, HI5.out, Ho5.out, Hb5.out⟩
       case measure => simp [intOf]; omega
      ·obtain rfl : j = a := by omega
       go_wp2_with fail
       go_roundw
       case rel => exact ⟨v4, rfl, m + 1, k + j, _, Hnew.out, by omega, by simp; omega, by go_num, by rw [List.length_append, List.flatMap_append]; exact Hoj.out, HIj.out, Hbj.out⟩
       case measure => simp [intOf]; omega
  ·obtain rfl : k = n := by omega
   have Hd := Lib.hid (titer_done xs m (by rw [Hm.out, Hn.out]; exact Nat.le_refl _))
   rw [Hm.out] at Hd
   go_wp2_with fail
   go_ret2
   exact ⟨⟨_, rfl, by rw [← Hd.out]; exact Ho.out⟩, Hb.out⟩
end Go.Proofs.YthpdcnjaodjjmaaGreat.Match

/- package block: one block: the walk. -/
namespace Go.Proofs.YthpdcnjaodjjmaaGreat.Blk
open Go Go.RowKit Go.Proofs.YthpdcnjaodjjmaaGreat Go.Proofs.YthpdcnjaodjjmaaGreat.Bits Go.Proofs.YthpdcnjaodjjmaaGreat.Code Go.Proofs.YthpdcnjaodjjmaaGreat.Inf Go.Proofs.YthpdcnjaodjjmaaGreat.Match Go.Proofs.YthpdcnjaodjjmaaGreat.SP Go.Proofs.YthpdcnjaodjjmaaGreat.Rt
set_option linter.unusedVariables false

theorem chk_far : ∀ (ts : List Tok) (n : Int), 0 ≤ n → (chkAll ts n).1 = 0 → n ≤ (chkAll ts n).2 ∧ ∀ t ∈ ts, t.2.1 = 0 ∨ t.2.2 ≤ (chkAll ts n).2
 | [], n, _, _ => ⟨Int.le_refl _, fun t h => by cases h⟩
 | x :: ts, n, hn, hk => by
  simp only [chkAll] at hk ⊢
  have hx : (chkTok n x).1 = 0 := by
   by_cases h1 : (chkTok n x).1 = 0
   ·exact h1
   ·rw [if_neg h1] at hk; exact hk
  rw [if_pos hx] at hk ⊢
  have key : n ≤ (chkTok n x).2 ∧ (x.2.1 = 0 ∨ x.2.2 ≤ n) := by
   unfold chkTok at hx ⊢
   by_cases h1 : x.2.1 = 0
   ·rw [if_pos h1] at hx ⊢
    by_cases h2 : x.2.2 ≠ 0
    ·rw [if_pos h2] at hx; simp at hx
    ·rw [if_neg h2]; dsimp only; omega
   ·rw [if_neg h1] at hx ⊢
    by_cases h2 : x.1 ≠ 0
    ·rw [if_pos h2] at hx; simp at hx
    ·rw [if_neg h2] at hx ⊢
     by_cases h3 : x.2.1 < 3 ∨ 258 < x.2.1 ∨ x.2.2 < 1
     ·rw [if_pos h3] at hx; simp at hx
     ·rw [if_neg h3] at hx ⊢
      by_cases h4 : n < x.2.2
      ·rw [if_pos h4] at hx; simp at hx
      ·rw [if_neg h4]; dsimp only; omega
  obtain ⟨h1, h2⟩ := chk_far ts (chkTok n x).2 (by omega) hk
  refine ⟨by omega, fun t ht => ?_⟩
  rcases List.mem_cons.1 ht with rfl | ht
  ·rcases key.2 with h | h
   ·exact .inl h
   ·exact .inr (by omega)
  ·exact h2 t ht
theorem toks_S (b : List UInt8) (hb : b.length ≤ 3000) : ∀ t ∈ toks b, TokS t := by
 intro t ht
 have h0 := toks_chk b
 have h1 := chk_tokR (toks b) 0 h0 t ht
 have h2 := (chk_far (toks b) 0 (Int.le_refl _) h0).2 t ht
 have h3 : (chkAll (toks b) 0).2 = (b.length : Int) := by unfold toks; rw [chkAll_titer, titer_end]
 rw [h3] at h2
 unfold TokS
 rcases h1 with h | ⟨a1, a2, a3⟩
 ·exact .inl h
 ·rcases h2 with h | h
  ·exact .inl h
  ·exact .inr ⟨t.2.1.toNat, t.2.2.toNat, by omega, by omega, by omega, by omega, by omega, by omega⟩
theorem tokS_fine {t : Tok} (h : TokS t) : TokFine t := by
 rcases h with h | ⟨s, f, h1, h2, h3, _⟩
 ·exact .inl h
 ·exact .inr ⟨s, f, h1, h2, by omega⟩
def LowBy (w : World) (base : Nat) (B : Option Addr) (xs : List UInt8) : Prop := ∀ w' : World, (∀ k, k < base → w'.heap[k]? = w.heap[k]?) → ByAt w' B xs
theorem LowBy.of {w : World} {B : Option Addr} {xs : List UInt8} {base : Nat} (h : ByAt w B xs) (hb : w.heap.size ≤ base) : LowBy w base B xs := fun w' hw hp => by
 obtain ⟨b, o, e, hc⟩ := h hp
 refine ⟨b, o, e, fun j v hj => ?_⟩
 have h1 := hc j v hj
 have hlt := block_lt_of_cell h1
 have h2 := hw b (by simpa using Nat.lt_of_lt_of_le hlt hb)
 rw [← h1]
 simp only [World.cell?, h2]
theorem LowBy.at {w w' : World} {base : Nat} {B : Option Addr} {xs : List UInt8} (h : LowBy w base B xs) (hw : ∀ k, k < base → w'.heap[k]? = w.heap[k]?) : ByAt w' B xs := h w' hw
theorem LowBy.trans {w w' : World} {base : Nat} {B : Option Addr} {xs : List UInt8} (h : LowBy w base B xs) (hw : ∀ k, k < base → w'.heap[k]? = w.heap[k]?) : LowBy w' base B xs := fun w2 h2 => h w2 fun k hk => (h2 k hk).trans (hw k hk)
theorem headB_len (lit far : List Nat) (l1 : lit.length = 286) (l2 : far.length = 30) (c1 : Cd lit) (c2 : Cd far) : (headB lit far).length ≤ 5000 := by
 rw [headB_eq]
 have tA := trim_len lit 257 (by omega)
 have tB := trim_len far 1 (by omega)
 have cA := trim_cd lit 257 c1
 have cB := trim_cd far 1 c2
 generalize trimP lit 257 = A at *
 generalize trimP far 1 = B at *
 have h15 : ∀ y ∈ A ++ B, y ≤ 15 := fun y hy => by
  rcases List.mem_append.1 hy with hy | hy
  ·exact cA.le y hy
  ·exact cB.le y hy
 have hR := runsP_len (A ++ B)
 have hok := runs_ok (A ++ B) h15
 generalize runsP (A ++ B) = R at *
 obtain ⟨s1, s2, s3, s4⟩ := sizes_fine R
 have h1 := flat_le (runB (sizesP R)) 14 R (fun x hx => runB_len _ x (fun i => getD_le _ 7 i s3) (hok x hx))
 have h2 := flat_le (fun n => numBits n 3) 3 (trimP (orderL.map fun k => (sizesP R).getD k 0) 4) (fun x _ => by rw [numBits_length]; exact Nat.le_refl _)
 have h3 := trim_len (orderL.map fun k => (sizesP R).getD k 0) 4 (by rw [List.length_map]; decide)
 have h4 : (orderL.map fun k => (sizesP R).getD k 0).length = 19 := by rw [List.length_map]; rfl
 rw [List.length_append] at hR
 simp only [List.length_append, numBits_length]
 omega
theorem bodyB_len (l : List Tok) (lit far : List Nat) (c1 : Cd lit) (c2 : Cd far) : (bodyB l lit far).length ≤ 48 * l.length + 15 := by
 unfold bodyB
 have h1 := flat_le (tokB lit far) 48 l (fun x _ => tokB_len lit far x c1 c2)
 have h2 := c1.bits (i := 256)
 rw [List.length_append, codeB_length]; omega
theorem oneB_len (r : List Bool) (b : List UInt8) (kind : Nat) (last : Bool) (hb : b.length ≤ 3000) : (oneB r b kind last).length ≤ r.length + 200000 := by
 rw [oneB_eq, List.length_append]
 unfold oneS
 by_cases h0 : kind = 0
 ·rw [if_pos h0]
  simp only [List.length_append, numBits_length, List.length_singleton, List.length_replicate, bitsL_length]
  omega
 ·rw [if_neg h0]
  have ht := toks_len b
  by_cases h1 : kind = 1
  ·rw [if_pos h1]
   have := bodyB_len (toks b) fixedA fixedB fixA_cd fixB_cd
   simp only [List.length_append, numBits_length, List.length_singleton]
   omega
  ·rw [if_neg h1]
   obtain ⟨l1, l2, l3, l4, _, _⟩ := lens_all (toks b)
   have h2 := bodyB_len (toks b) _ _ l3 l4
   have h3 := headB_len _ _ l1 l2 l3 l4
   simp only [List.length_append, numBits_length, List.length_singleton]
   omega
set_option maxRecDepth 100000 in
theorem fill_any (base p : Nat) (r : List Bool) (w : World) (hr : RowAt w base p r) :
  Calls Tryz.prog 25 #[.pointer (some ⟨p, 0, none⟩)] w fun e w' => e = .returned (.tuple #[]) ∧ RowAt w' base p (pad r) ∧ Keeps base rowT w w' := by
 obtain ⟨hbp, v, hB, hO⟩ := hr
 have hc1 := hB.c1
 have hf1 := hB.frozen 1
 have HB := Lib.hid hB
 have HO := Lib.hid hO
 have HRes : Hid (RowAt (w.setCell ⟨p, 1, none⟩ (.int .i64 0)) base p (pad r)) := Lib.hid (by
  refine ⟨hbp, v, ?_, ?_⟩
  ·have e : (pad r).length % 8 = 0 := by rw [pad_length]; omega
   rw [e]; exact hB.s1 _
  ·rw [pack_pad]; exact ownsRow_setCell_other hO (own_ne hO hB (by decide)) _)
 have HK := Lib.hid ((Keeps.refl base rowT w).setBlk hB (by simp [rowT]) hbp 1 (.int .i64 0))
 clear hB hO
 go_enter Tryz.func25, Tryz.ntmps25
 go_wp2_with fail
 go_end0
 exact ⟨rfl, HRes.out, HK.out⟩
set_option maxRecDepth 100000 in
set_option maxHeartbeats 8000000 in
theorem one_any (base p : Nat) (r : List Bool) (B : Option Addr) (nb cb : Nat) (xs : List UInt8) (kind : Nat) (last : Bool) (w : World) (hr : RowAt w base p r) (hB : LowBy w base B xs) (hn : xs.length = nb) (hnc : nb ≤ cb) (hx : nb ≤ 3000) (hk : kind ≤ 2) (hrl : r.length ≤ 50000000) :
  Calls Tryz.prog 14 #[.pointer (some ⟨p, 0, none⟩), .slice B nb cb, .int .i64 (kind : Int), .bool last] w fun e w' => e = .returned (.tuple #[]) ∧ RowAt w' base p (oneB r xs kind last) ∧ Keeps base rowT w w' := by
 have HR := Lib.hid hr
 have HB := Lib.hid hB
 have Hn := Lib.hid hn
 clear hr hB hn
 cases last
 ·go_enter Tryz.func14, Tryz.ntmps14
  have HP := Lib.hid (put_any base p 0 1 r w HR.out (by omega) (by omega) (by omega))
  rw [show numBits 0 1 = [false] from rfl, show (((0 : Nat) : Int)) = 0 from rfl] at HP
  go_wp2_with fail
  refine (HP.out).mono ?_
  rintro e w1 ⟨rfl, hrow, hkp⟩
  have HR1 := Lib.hid hrow
  have HK1 := Lib.hid hkp
  clear hrow hkp HP HR
  have hl1 : (r ++ [false]).length ≤ 50000001 := by rw [List.length_append, List.length_singleton]; omega
  have HP := Lib.hid (put_any base p kind 2 _ w1 HR1.out (by omega) (by omega) (by omega))
  go_wp2_with fail
  refine (HP.out).mono ?_
  rintro e w2 ⟨rfl, hrow, hkp⟩
  have HR2 := Lib.hid hrow
  have HK2 := Lib.hid (HK1.out.trans hkp)
  clear hrow hkp HP HR1 HK1
  have hl2 : (r ++ [false] ++ numBits kind 2).length ≤ 50000003 := by rw [List.length_append, numBits_length]; omega
  by_cases hk0 : kind = 0
  ·have hk0' : ((kind : Int) == 0) = true := by simp; omega
   have Hone : Hid (oneB r xs kind false = pad (r ++ [false] ++ numBits kind 2) ++ numBits nb 16 ++ numBits (65535 - nb) 16 ++ bitsL xs) := Lib.hid (by unfold oneB; rw [if_pos hk0, Hn.out, hk0])
   generalize r ++ [false] ++ numBits kind 2 = r2 at *
   have HP := Lib.hid (fill_any base p r2 w2 HR2.out)
   have hl3 : (pad r2).length ≤ 50000020 := by rw [pad_length]; omega
   clear hl1 hl2 hk0 HR2
   go_wp2_with fail
   refine (HP.out).mono ?_
   rintro e w3 ⟨rfl, hrow, hkp⟩
   have HR3 := Lib.hid hrow
   have HK3 := Lib.hid (HK2.out.trans hkp)
   clear hrow hkp HP HK2
   have HP := Lib.hid (put_any base p nb 16 _ w3 HR3.out (by omega) (by omega) (by omega))
   go_wp2_with fail
   refine (HP.out).mono ?_
   rintro e w4 ⟨rfl, hrow, hkp⟩
   have HR4 := Lib.hid hrow
   have HK4 := Lib.hid (HK3.out.trans hkp)
   clear hrow hkp HP HK3 HR3
   have hl4 : (pad r2 ++ numBits nb 16).length ≤ 50000040 := by rw [List.length_append, numBits_length]; omega
   have hxor := xor16 nb (by omega)
   have HP := Lib.hid (put_any base p (65535 - nb) 16 _ w4 HR4.out (by omega) (by omega) (by omega))
   go_wp2_with fail
   refine (HP.out).mono ?_
   rintro e w5 ⟨rfl, hrow, hkp⟩
   have HR5 := Lib.hid hrow
   have HK5 := Lib.hid (HK4.out.trans hkp)
   clear hrow hkp HP HK4 HR4 hxor
   have hl5 : (pad r2 ++ numBits nb 16 ++ numBits (65535 - nb) 16).length ≤ 50000060 := by rw [List.length_append, numBits_length]; omega
   generalize pad r2 ++ numBits nb 16 ++ numBits (65535 - nb) 16 = r5 at *
   go_wp2_with fail
   go_loopw [37] (fun i wr => ∃ k : Nat, k ≤ nb ∧ i = .int .i64 (k : Int) ∧ RowAt wr base p (r5 ++ bitsL (xs.take k)) ∧ Keeps base rowT w wr) (fun i _ => nb - (intOf i).toNat)
   case atStart => exact ⟨0, Nat.zero_le _, rfl, by rw [List.take_zero]; show RowAt w5 base p (r5 ++ []); rw [List.append_nil]; exact HR5.out, HK5.out⟩
   case round =>
    clear HR5 HK5
    obtain ⟨k, hk, rfl, hrow, hkp⟩ := hrel
    have HRk := Lib.hid hrow
    have HKk := Lib.hid hkp
    clear hrow hkp
    by_cases hlt : k < nb
    ·have hkl : k < xs.length := by rw [Hn.out]; exact hlt
     obtain ⟨b, o, rfl, hc⟩ := (HB.out.at HKk.out.block).get hkl
     have Htk : Hid (bitsL (xs.take (k + 1)) = bitsL (xs.take k) ++ bitsOf xs[k]) := Lib.hid (by rw [take_snoc xs k hkl, bitsL_append]; simp [bitsL])
     have hbl : (bitsL (xs.take k)).length ≤ 24000 := by rw [bitsL_length, List.length_take]; omega
     generalize xs[k] = x at *
     obtain ⟨q, hq⟩ : ∃ q : Nat, (q : Int) = n8 x := ⟨x.toNat, rfl⟩
     have hx8 := n8_bd x
     have Hq : Hid (bitsOf x = numBits q 8) := Lib.hid (by unfold bitsOf; rw [show x.toNat = q by unfold n8 at hq; omega])
     rw [← hq] at hc hx8
     clear hq
     have hconv : IntKind.i64.wrap (q : Int) = (q : Int) := IntWalk.i64_in _ (by omega)
     have HP := Lib.hid (put_any base p q 8 _ wr HRk.out (by omega) (by omega) (by rw [List.length_append]; omega))
     rw [List.append_assoc, ← Hq.out, ← Htk.out] at HP
     clear HRk hbl
     go_wp2_with fail
     refine (HP.out).mono ?_
     rintro e w6 ⟨rfl, hrow, hkp⟩
     have HR6 := Lib.hid hrow
     have HK6 := Lib.hid (HKk.out.trans hkp)
     clear hrow hkp HP HKk hc
     go_wp2_with fail
     go_roundw
     case rel => exact ⟨k + 1, by omega, by go_num, HR6.out, HK6.out⟩
     case measure => simp [intOf]; omega
    ·obtain rfl : nb = k := by omega
     have Hal : Hid (xs.take nb = xs) := Lib.hid (List.take_of_length_le (by rw [Hn.out]; exact Nat.le_refl _))
     rw [Hal.out, ← Hone.out] at HRk
     go_wp2_with fail
     refine bodyPost_ret (results_none rfl _ _ _) rfl ?_
     exact ⟨rfl, HRk.out, HKk.out⟩
  ·have hk0' : ((kind : Int) == 0) = false := by rw [beq_eq_false_iff_ne]; omega
   have HTk := Lib.hid (tokens_yes B nb cb xs w2 Hn.out hnc hx (HB.out.at HK2.out.block))
   go_wp2_with fail
   refine (HTk.out).mono ?_
   rintro e w3 ⟨⟨v3, rfl, ho3⟩, hb3⟩
   obtain ⟨A3, c3, rfl, hc3, _, hk3, _⟩ := own_kat ho3
   have HR3 := Lib.hid (HR2.out.below hb3)
   have HK3 := Lib.hid (HK2.out.trans (Keeps.of_below hb3 (Nat.le_trans HR2.out.1 (Nat.le_of_lt HR2.out.lt))))
   have HT3 : Hid (KAt w3 96 A3 ((toks xs).flatMap tokD)) := Lib.hid hk3
   have HTS := Lib.hid (toks_S xs (by rw [Hn.out]; exact hx))
   have htl := toks_len xs
   rw [Hn.out] at htl
   have Hlen := Lib.hid (lens_all (toks xs))
   have Hone1 : Hid (kind = 1 → oneB r xs kind false = r ++ [false] ++ numBits kind 2 ++ bodyB (toks xs) fixedA fixedB) := Lib.hid (fun h => by subst h; unfold oneB; rw [if_neg (by omega), if_pos rfl])
   have Hone2 : Hid (kind = 2 → oneB r xs kind false = r ++ [false] ++ numBits kind 2 ++ headB (lensP (toks xs)).1 (lensP (toks xs)).2 ++ bodyB (toks xs) (lensP (toks xs)).1 (lensP (toks xs)).2) := Lib.hid (fun h => by subst h; unfold oneB; rw [if_neg (by omega), if_neg (by omega)])
   clear HTk ho3 hb3 hk3 HR2 HK2
   generalize r ++ [false] ++ numBits kind 2 = r2 at *
   generalize toks xs = tx at *
   have Hm := Lib.hid (show tx.length = tx.length from rfl)
   generalize hmt : tx.length = mt at *
   have Hmt := Lib.hid hmt
   clear hmt Hm hk0
   go_wp2_with fail
   refine (fixed_any _).mono ?_
   rintro e w4 ⟨A4, c4, B4, d4, rfl, hoA, hoB, hb4⟩
   have HR4 := Lib.hid (HR3.out.below hb4)
   have HK4 := Lib.hid (HK3.out.trans (Keeps.of_below hb4 (Nat.le_trans HR3.out.1 (Nat.le_of_lt HR3.out.lt))))
   have HT4 := Lib.hid (HT3.out.below hb4)
   have HFA : Hid (KAt w4 3 A4 (fixedA.map Code.natV)) := Lib.hid (by obtain ⟨A, c, e, _, _, h, _⟩ := own_kat hoA; injection e with e; subst e; exact h)
   have HFB : Hid (KAt w4 3 B4 (fixedB.map Code.natV)) := Lib.hid (by obtain ⟨A, c, e, _, _, h, _⟩ := own_kat hoB; injection e with e; subst e; exact h)
   clear hoA hoB hb4 HR3 HK3 HT3
   by_cases hk2 : kind = 2
   ·have hk2' : ((kind : Int) == 2) = true := by simp; omega
    have Ho := Lib.hid (Hone2.out hk2)
    have HL := Lib.hid (blens_any A3 mt c3 tx w4 Hmt.out (by omega) HT4.out.slat (fun t ht => tokS_fine (HTS.out t ht)))
    clear Hone1 Hone2 HFA HFB hk2
    go_wp2_with fail
    refine (HL.out).mono ?_
    rintro e w5 ⟨⟨v1, v2, rfl, ho1, ho2⟩, hb5⟩
    obtain ⟨l1, l2, l3, l4, l5, l6⟩ := Hlen.out
    obtain ⟨A5, a5, rfl, ha5, _, hk5, _⟩ := own_kat ho1
    obtain ⟨B5, b5, rfl, hb5', _, hk6, _⟩ := own_kat ho2
    obtain ⟨bA, oA, _, rfl, _, _⟩ := hk5 (by rw [List.length_map, l1]; omega)
    obtain ⟨bB, oB, _, rfl, _, _⟩ := hk6 (by rw [List.length_map, l2]; omega)
    have HR5 := Lib.hid (HR4.out.below hb5)
    have HK5 := Lib.hid (HK4.out.trans (Keeps.of_below hb5 (Nat.le_trans HR4.out.1 (Nat.le_of_lt HR4.out.lt))))
    have HT5 := Lib.hid (HT4.out.below hb5)
    have HL5 := Lib.hid hk5
    have HL6 := Lib.hid hk6
    have HH := Lib.hid (head_any base p r2 bA oA a5 bB oB b5 (lensP tx).1 (lensP tx).2 w5 HR5.out HL5.out HL6.out l1 l2 ha5 hb5' l3 l4 (by omega))
    have hhl := headB_len (lensP tx).1 (lensP tx).2 l1 l2 l3 l4
    have L1 := Lib.hid l1
    have L2 := Lib.hid l2
    have L3 := Lib.hid l3
    have L4 := Lib.hid l4
    clear HL ho1 ho2 hb5 hk5 hk6 HR4 HK4 HT4 l1 l2 l3 l4 l5 l6 Hlen
    generalize (lensP tx).1 = LA at *
    generalize (lensP tx).2 = LB at *
    go_wp2_with fail
    refine (HH.out).mono ?_
    rintro e w6 ⟨rfl, hrow, hkp⟩
    have HR6 := Lib.hid hrow
    have HK6 := Lib.hid (HK5.out.trans hkp)
    have HB := Lib.hid (body_any base p _ A3 mt c3 tx (some ⟨bA, oA, none⟩) 286 a5 LA (some ⟨bB, oB, none⟩) 30 b5 LB w6 HR6.out (HT5.out.keeps hkp (by decide)) (HL5.out.keeps hkp (by decide)) (HL6.out.keeps hkp (by decide))
     Hmt.out (by omega) L1.out L2.out (by omega) (by omega) (by omega) (by omega) L3.out L4.out HTS.out (by rw [List.length_append]; omega))
    rw [← Ho.out] at HB
    clear hrow hkp HH
    go_wp2_with fail
    refine (HB.out).mono ?_
    rintro e w7 ⟨rfl, hrow, hkp⟩
    have HR7 := Lib.hid hrow
    have HK7 := Lib.hid (HK6.out.trans hkp)
    clear hrow hkp
    go_wp2_with fail
    go_end0
    exact ⟨rfl, HR7.out, HK7.out⟩
   ·have hk2' : ((kind : Int) == 2) = false := by rw [beq_eq_false_iff_ne]; omega
    have Ho := Lib.hid (Hone1.out (by rw [beq_eq_false_iff_ne] at hk0'; omega))
    have HB := Lib.hid (body_any base p r2 A3 mt c3 tx A4 288 c4 fixedA B4 32 d4 fixedB w4 HR4.out HT4.out HFA.out HFB.out
     Hmt.out (by omega) (by simp [fixedA]) (by simp [fixedB]) (by omega) (by omega) (by omega) (by omega) fixA_cd fixB_cd HTS.out (by omega))
    rw [← Ho.out] at HB
    clear Hone1 Hone2 hk2
    go_wp2_with fail
    refine (HB.out).mono ?_
    rintro e w7 ⟨rfl, hrow, hkp⟩
    have HR7 := Lib.hid hrow
    have HK7 := Lib.hid (HK4.out.trans hkp)
    clear hrow hkp
    go_wp2_with fail
    go_end0
    exact ⟨rfl, HR7.out, HK7.out⟩
 ·go_enter Tryz.func14, Tryz.ntmps14
  have HP := Lib.hid (put_any base p 1 1 r w HR.out (by omega) (by omega) (by omega))
  rw [show numBits 1 1 = [true] from rfl, show (((1 : Nat) : Int)) = 1 from rfl] at HP
  go_wp2_with fail
  refine (HP.out).mono ?_
  rintro e w1 ⟨rfl, hrow, hkp⟩
  have HR1 := Lib.hid hrow
  have HK1 := Lib.hid hkp
  clear hrow hkp HP HR
  have hl1 : (r ++ [true]).length ≤ 50000001 := by rw [List.length_append, List.length_singleton]; omega
  have HP := Lib.hid (put_any base p kind 2 _ w1 HR1.out (by omega) (by omega) (by omega))
  go_wp2_with fail
  refine (HP.out).mono ?_
  rintro e w2 ⟨rfl, hrow, hkp⟩
  have HR2 := Lib.hid hrow
  have HK2 := Lib.hid (HK1.out.trans hkp)
  clear hrow hkp HP HR1 HK1
  have hl2 : (r ++ [true] ++ numBits kind 2).length ≤ 50000003 := by rw [List.length_append, numBits_length]; omega
  by_cases hk0 : kind = 0
  ·have hk0' : ((kind : Int) == 0) = true := by simp; omega
   have Hone : Hid (oneB r xs kind true = pad (r ++ [true] ++ numBits kind 2) ++ numBits nb 16 ++ numBits (65535 - nb) 16 ++ bitsL xs) := Lib.hid (by unfold oneB; rw [if_pos hk0, Hn.out, hk0])
   generalize r ++ [true] ++ numBits kind 2 = r2 at *
   have HP := Lib.hid (fill_any base p r2 w2 HR2.out)
   have hl3 : (pad r2).length ≤ 50000020 := by rw [pad_length]; omega
   clear hl1 hl2 hk0 HR2
   go_wp2_with fail
   refine (HP.out).mono ?_
   rintro e w3 ⟨rfl, hrow, hkp⟩
   have HR3 := Lib.hid hrow
   have HK3 := Lib.hid (HK2.out.trans hkp)
   clear hrow hkp HP HK2
   have HP := Lib.hid (put_any base p nb 16 _ w3 HR3.out (by omega) (by omega) (by omega))
   go_wp2_with fail
   refine (HP.out).mono ?_
   rintro e w4 ⟨rfl, hrow, hkp⟩
   have HR4 := Lib.hid hrow
   have HK4 := Lib.hid (HK3.out.trans hkp)
   clear hrow hkp HP HK3 HR3
   have hl4 : (pad r2 ++ numBits nb 16).length ≤ 50000040 := by rw [List.length_append, numBits_length]; omega
   have hxor := xor16 nb (by omega)
   have HP := Lib.hid (put_any base p (65535 - nb) 16 _ w4 HR4.out (by omega) (by omega) (by omega))
   go_wp2_with fail
   refine (HP.out).mono ?_
   rintro e w5 ⟨rfl, hrow, hkp⟩
   have HR5 := Lib.hid hrow
   have HK5 := Lib.hid (HK4.out.trans hkp)
   clear hrow hkp HP HK4 HR4 hxor
   have hl5 : (pad r2 ++ numBits nb 16 ++ numBits (65535 - nb) 16).length ≤ 50000060 := by rw [List.length_append, numBits_length]; omega
   generalize pad r2 ++ numBits nb 16 ++ numBits (65535 - nb) 16 = r5 at *
   go_wp2_with fail
   go_loopw [37] (fun i wr => ∃ k : Nat, k ≤ nb ∧ i = .int .i64 (k : Int) ∧ RowAt wr base p (r5 ++ bitsL (xs.take k)) ∧ Keeps base rowT w wr) (fun i _ => nb - (intOf i).toNat)
   case atStart => exact ⟨0, Nat.zero_le _, rfl, by rw [List.take_zero]; show RowAt w5 base p (r5 ++ []); rw [List.append_nil]; exact HR5.out, HK5.out⟩
   case round =>
    clear HR5 HK5
    obtain ⟨k, hk, rfl, hrow, hkp⟩ := hrel
    have HRk := Lib.hid hrow
    have HKk := Lib.hid hkp
    clear hrow hkp
    by_cases hlt : k < nb
    ·have hkl : k < xs.length := by rw [Hn.out]; exact hlt
     obtain ⟨b, o, rfl, hc⟩ := (HB.out.at HKk.out.block).get hkl
     have Htk : Hid (bitsL (xs.take (k + 1)) = bitsL (xs.take k) ++ bitsOf xs[k]) := Lib.hid (by rw [take_snoc xs k hkl, bitsL_append]; simp [bitsL])
     have hbl : (bitsL (xs.take k)).length ≤ 24000 := by rw [bitsL_length, List.length_take]; omega
     generalize xs[k] = x at *
     obtain ⟨q, hq⟩ : ∃ q : Nat, (q : Int) = n8 x := ⟨x.toNat, rfl⟩
     have hx8 := n8_bd x
     have Hq : Hid (bitsOf x = numBits q 8) := Lib.hid (by unfold bitsOf; rw [show x.toNat = q by unfold n8 at hq; omega])
     rw [← hq] at hc hx8
     clear hq
     have hconv : IntKind.i64.wrap (q : Int) = (q : Int) := IntWalk.i64_in _ (by omega)
     have HP := Lib.hid (put_any base p q 8 _ wr HRk.out (by omega) (by omega) (by rw [List.length_append]; omega))
     rw [List.append_assoc, ← Hq.out, ← Htk.out] at HP
     clear HRk hbl
     go_wp2_with fail
     refine (HP.out).mono ?_
     rintro e w6 ⟨rfl, hrow, hkp⟩
     have HR6 := Lib.hid hrow
     have HK6 := Lib.hid (HKk.out.trans hkp)
     clear hrow hkp HP HKk hc
     go_wp2_with fail
     go_roundw
     case rel => exact ⟨k + 1, by omega, by go_num, HR6.out, HK6.out⟩
     case measure => simp [intOf]; omega
    ·obtain rfl : nb = k := by omega
     have Hal : Hid (xs.take nb = xs) := Lib.hid (List.take_of_length_le (by rw [Hn.out]; exact Nat.le_refl _))
     rw [Hal.out, ← Hone.out] at HRk
     go_wp2_with fail
     refine bodyPost_ret (results_none rfl _ _ _) rfl ?_
     exact ⟨rfl, HRk.out, HKk.out⟩
  ·have hk0' : ((kind : Int) == 0) = false := by rw [beq_eq_false_iff_ne]; omega
   have HTk := Lib.hid (tokens_yes B nb cb xs w2 Hn.out hnc hx (HB.out.at HK2.out.block))
   go_wp2_with fail
   refine (HTk.out).mono ?_
   rintro e w3 ⟨⟨v3, rfl, ho3⟩, hb3⟩
   obtain ⟨A3, c3, rfl, hc3, _, hk3, _⟩ := own_kat ho3
   have HR3 := Lib.hid (HR2.out.below hb3)
   have HK3 := Lib.hid (HK2.out.trans (Keeps.of_below hb3 (Nat.le_trans HR2.out.1 (Nat.le_of_lt HR2.out.lt))))
   have HT3 : Hid (KAt w3 96 A3 ((toks xs).flatMap tokD)) := Lib.hid hk3
   have HTS := Lib.hid (toks_S xs (by rw [Hn.out]; exact hx))
   have htl := toks_len xs
   rw [Hn.out] at htl
   have Hlen := Lib.hid (lens_all (toks xs))
   have Hone1 : Hid (kind = 1 → oneB r xs kind true = r ++ [true] ++ numBits kind 2 ++ bodyB (toks xs) fixedA fixedB) := Lib.hid (fun h => by subst h; unfold oneB; rw [if_neg (by omega), if_pos rfl])
   have Hone2 : Hid (kind = 2 → oneB r xs kind true = r ++ [true] ++ numBits kind 2 ++ headB (lensP (toks xs)).1 (lensP (toks xs)).2 ++ bodyB (toks xs) (lensP (toks xs)).1 (lensP (toks xs)).2) := Lib.hid (fun h => by subst h; unfold oneB; rw [if_neg (by omega), if_neg (by omega)])
   clear HTk ho3 hb3 hk3 HR2 HK2
   generalize r ++ [true] ++ numBits kind 2 = r2 at *
   generalize toks xs = tx at *
   have Hm := Lib.hid (show tx.length = tx.length from rfl)
   generalize hmt : tx.length = mt at *
   have Hmt := Lib.hid hmt
   clear hmt Hm hk0
   go_wp2_with fail
   refine (fixed_any _).mono ?_
   rintro e w4 ⟨A4, c4, B4, d4, rfl, hoA, hoB, hb4⟩
   have HR4 := Lib.hid (HR3.out.below hb4)
   have HK4 := Lib.hid (HK3.out.trans (Keeps.of_below hb4 (Nat.le_trans HR3.out.1 (Nat.le_of_lt HR3.out.lt))))
   have HT4 := Lib.hid (HT3.out.below hb4)
   have HFA : Hid (KAt w4 3 A4 (fixedA.map Code.natV)) := Lib.hid (by obtain ⟨A, c, e, _, _, h, _⟩ := own_kat hoA; injection e with e; subst e; exact h)
   have HFB : Hid (KAt w4 3 B4 (fixedB.map Code.natV)) := Lib.hid (by obtain ⟨A, c, e, _, _, h, _⟩ := own_kat hoB; injection e with e; subst e; exact h)
   clear hoA hoB hb4 HR3 HK3 HT3
   by_cases hk2 : kind = 2
   ·have hk2' : ((kind : Int) == 2) = true := by simp; omega
    have Ho := Lib.hid (Hone2.out hk2)
    have HL := Lib.hid (blens_any A3 mt c3 tx w4 Hmt.out (by omega) HT4.out.slat (fun t ht => tokS_fine (HTS.out t ht)))
    clear Hone1 Hone2 HFA HFB hk2
    go_wp2_with fail
    refine (HL.out).mono ?_
    rintro e w5 ⟨⟨v1, v2, rfl, ho1, ho2⟩, hb5⟩
    obtain ⟨l1, l2, l3, l4, l5, l6⟩ := Hlen.out
    obtain ⟨A5, a5, rfl, ha5, _, hk5, _⟩ := own_kat ho1
    obtain ⟨B5, b5, rfl, hb5', _, hk6, _⟩ := own_kat ho2
    obtain ⟨bA, oA, _, rfl, _, _⟩ := hk5 (by rw [List.length_map, l1]; omega)
    obtain ⟨bB, oB, _, rfl, _, _⟩ := hk6 (by rw [List.length_map, l2]; omega)
    have HR5 := Lib.hid (HR4.out.below hb5)
    have HK5 := Lib.hid (HK4.out.trans (Keeps.of_below hb5 (Nat.le_trans HR4.out.1 (Nat.le_of_lt HR4.out.lt))))
    have HT5 := Lib.hid (HT4.out.below hb5)
    have HL5 := Lib.hid hk5
    have HL6 := Lib.hid hk6
    have HH := Lib.hid (head_any base p r2 bA oA a5 bB oB b5 (lensP tx).1 (lensP tx).2 w5 HR5.out HL5.out HL6.out l1 l2 ha5 hb5' l3 l4 (by omega))
    have hhl := headB_len (lensP tx).1 (lensP tx).2 l1 l2 l3 l4
    have L1 := Lib.hid l1
    have L2 := Lib.hid l2
    have L3 := Lib.hid l3
    have L4 := Lib.hid l4
    clear HL ho1 ho2 hb5 hk5 hk6 HR4 HK4 HT4 l1 l2 l3 l4 l5 l6 Hlen
    generalize (lensP tx).1 = LA at *
    generalize (lensP tx).2 = LB at *
    go_wp2_with fail
    refine (HH.out).mono ?_
    rintro e w6 ⟨rfl, hrow, hkp⟩
    have HR6 := Lib.hid hrow
    have HK6 := Lib.hid (HK5.out.trans hkp)
    have HB := Lib.hid (body_any base p _ A3 mt c3 tx (some ⟨bA, oA, none⟩) 286 a5 LA (some ⟨bB, oB, none⟩) 30 b5 LB w6 HR6.out (HT5.out.keeps hkp (by decide)) (HL5.out.keeps hkp (by decide)) (HL6.out.keeps hkp (by decide))
     Hmt.out (by omega) L1.out L2.out (by omega) (by omega) (by omega) (by omega) L3.out L4.out HTS.out (by rw [List.length_append]; omega))
    rw [← Ho.out] at HB
    clear hrow hkp HH
    go_wp2_with fail
    refine (HB.out).mono ?_
    rintro e w7 ⟨rfl, hrow, hkp⟩
    have HR7 := Lib.hid hrow
    have HK7 := Lib.hid (HK6.out.trans hkp)
    clear hrow hkp
    go_wp2_with fail
    go_end0
    exact ⟨rfl, HR7.out, HK7.out⟩
   ·have hk2' : ((kind : Int) == 2) = false := by rw [beq_eq_false_iff_ne]; omega
    have Ho := Lib.hid (Hone1.out (by rw [beq_eq_false_iff_ne] at hk0'; omega))
    have HB := Lib.hid (body_any base p r2 A3 mt c3 tx A4 288 c4 fixedA B4 32 d4 fixedB w4 HR4.out HT4.out HFA.out HFB.out
     Hmt.out (by omega) (by simp [fixedA]) (by simp [fixedB]) (by omega) (by omega) (by omega) (by omega) fixA_cd fixB_cd HTS.out (by omega))
    rw [← Ho.out] at HB
    clear Hone1 Hone2 hk2
    go_wp2_with fail
    refine (HB.out).mono ?_
    rintro e w7 ⟨rfl, hrow, hkp⟩
    have HR7 := Lib.hid hrow
    have HK7 := Lib.hid (HK4.out.trans hkp)
    clear hrow hkp
    go_wp2_with fail
    go_end0
    exact ⟨rfl, HR7.out, HK7.out⟩
end Go.Proofs.YthpdcnjaodjjmaaGreat.Blk

/- package block: Pack: the walk. -/
namespace Go.Proofs.YthpdcnjaodjjmaaGreat.Blk
open Go Go.RowKit Go.Proofs.YthpdcnjaodjjmaaGreat Go.Proofs.YthpdcnjaodjjmaaGreat.Bits Go.Proofs.YthpdcnjaodjjmaaGreat.Code Go.Proofs.YthpdcnjaodjjmaaGreat.Inf Go.Proofs.YthpdcnjaodjjmaaGreat.SP Go.Proofs.YthpdcnjaodjjmaaGreat.Rt
set_option linter.unusedVariables false

theorem slat_low {w w' : World} {A : Option Addr} {cs : List Value} {base : Nat} (h : SlAt w A cs) (hb : w.heap.size = base) (hw : ∀ k, k < base → w'.heap[k]? = w.heap[k]?) : SlAt w' A cs := fun hp => by
 obtain ⟨b, o, e, hc⟩ := h hp
 refine ⟨b, o, e, fun j v hj => ?_⟩
 have h1 := hc j v hj
 have hlt := block_lt_of_cell h1
 have h2 := hw b (by rw [← hb]; exact hlt)
 rw [← h1]
 simp only [World.cell?, h2]
theorem packE_zero (parts : List (List UInt8)) (ks : List Int) : ∀ f i n : Nat, packE parts ks f i n = 0 → (∀ j, i ≤ j → j < i + f → 0 ≤ ks.getD j 0 ∧ ks.getD j 0 ≤ 2 ∧ j < 40) ∧ (f ≠ 0 → n ≤ 3000) ∧ n + ((parts.drop i).take f).flatten.length ≤ max n 3000
 | 0, i, n, _ => ⟨fun j h1 h2 => by omega, fun h => absurd rfl h, by simp; omega⟩
 | f + 1, i, n, h => by
  unfold packE at h
  by_cases h1 : 3000 < n + (parts.getD i []).length ∨ 40 ≤ i
  ·rw [if_pos h1] at h; simp at h
  ·rw [if_neg h1] at h
   by_cases h2 : ks.getD i 0 < 0 ∨ 2 < ks.getD i 0
   ·rw [if_pos h2] at h; simp at h
   ·rw [if_neg h2] at h
    obtain ⟨a1, a2, a3⟩ := packE_zero parts ks f (i + 1) (n + (parts.getD i []).length) h
    refine ⟨fun j h3 h4 => ?_, fun _ => by omega, ?_⟩
    ·by_cases hj : j = i
     ·subst hj; omega
     ·exact a1 j (by omega) (by omega)
    ·rcases Nat.lt_or_ge i parts.length with hi | hi
     ·rw [List.drop_eq_getElem_cons hi, List.take_succ_cons, List.flatten_cons, List.length_append]
      rw [List.getD_eq_getElem?_getD, List.getElem?_eq_getElem hi] at a3 h1
      simp only [Option.getD_some] at a3 h1
      omega
     ·rw [List.drop_of_length_le hi]; simp; omega
theorem packE_all (parts : List (List UInt8)) (ks : List Int) (h : packE parts ks parts.length 0 0 = 0) (hl : ks.length = parts.length) : (∀ k ∈ ks, 0 ≤ k ∧ k ≤ 2) ∧ parts.length ≤ 40 ∧ parts.flatten.length ≤ 3000 := by
 obtain ⟨a1, a2, a3⟩ := packE_zero parts ks parts.length 0 0 h
 rw [List.drop_zero, List.take_length] at a3
 refine ⟨fun k hk => ?_, ?_, by omega⟩
 ·obtain ⟨i, hi, rfl⟩ := List.mem_iff_getElem.1 hk
  have := a1 i (by omega) (by omega)
  rw [List.getD_eq_getElem?_getD, List.getElem?_eq_getElem hi] at this
  exact ⟨this.1, this.2.1⟩
 ·rcases Nat.eq_zero_or_pos parts.length with h0 | h0
  ·omega
  ·have := (a1 (parts.length - 1) (by omega) (by omega)).2.2
   omega
theorem part_len (parts : List (List UInt8)) (i : Nat) : (parts.getD i []).length ≤ parts.flatten.length := by
 rcases Nat.lt_or_ge i parts.length with hi | hi
 ·have := flat_take parts i hi
  have h2 := flat_len parts (i + 1)
  rw [this, List.length_append] at h2
  omega
 ·rw [List.getD_eq_getElem?_getD, List.getElem?_eq_none hi]; simp
theorem packK_len (parts : List (List UInt8)) (kinds : List Nat) (h : parts.flatten.length ≤ 3000) : ∀ i, (packK parts kinds i).length ≤ 200000 * i
 | 0 => by show 0 ≤ _; omega
 | i + 1 => by
  have h1 := packK_len parts kinds h i
  have h2 := oneB_len (packK parts kinds i) (parts.getD i []) (kinds.getD i 0) (decide (i + 1 = parts.length)) (by have := part_len parts i; omega)
  show (oneB _ _ _ _).length ≤ _
  omega
def packErr (parts : List (List UInt8)) (ks : List Int) : Int := if parts.length = 0 ∨ parts.length ≠ ks.length then 4 else packE parts ks parts.length 0 0
def PackPost (parts : List (List UInt8)) (ks : List Int) (w : World) (e : Ending) (w' : World) : Prop :=
  (packErr parts ks ≠ 0 ∧ e = .returned (.tuple #[.slice none 0 0, .int .i64 (packErr parts ks)]) ∨
   packErr parts ks = 0 ∧ ∃ v, e = .returned (.tuple #[v, .int .i64 0]) ∧ w'.ownsRow w.heap.size 5 1 v (packB parts (lsOf ks)).length ((packB parts (lsOf ks)).map u8v)) ∧ Below w.heap.size w w'
set_option maxRecDepth 100000 in
set_option maxHeartbeats 4000000 in
theorem bpack_any (PA KA : Option Addr) (n cn m cm : Nat) (ps : List (Value × List UInt8)) (ks : List Int) (w : World) (hn : ps.length = n) (hm : ks.length = m) (hnx : n ≤ maxLen) (hmx : m ≤ maxLen) (hP : SlAt w PA (ps.map (·.1))) (hd : ∀ q ∈ ps, IsBytes w q.1 q.2) (hq : ∀ q ∈ ps, q.2.length ≤ 140737488351232) (hK : InAt w KA ks) :
  Calls Tryz.prog 5 #[.slice PA n cn, .slice KA m cm] w (PackPost (ps.map (·.2)) ks w) := by
 have HN := Lib.hid hn
 have HM := Lib.hid hm
 have HP := Lib.hid hP
 have HD := Lib.hid hd
 have HQ := Lib.hid hq
 have HK := Lib.hid hK
 have lp : (ps.map (·.2)).length = n := by rw [List.length_map, hn]
 have Hp : Hid (∀ k (h : k < ps.length), (ps.map (·.2)).getD k [] = ps[k].2) := Lib.hid (fun k h => by rw [List.getD_eq_getElem?_getD, List.getElem?_map, List.getElem?_eq_getElem h]; rfl)
 unfold maxLen at hnx hmx
 generalize ps.map (·.2) = parts at *
 have LP := Lib.hid lp
 clear hn hm hP hd hq hK lp
 go_enter Tryz.func5, Tryz.ntmps5
 by_cases h0 : n = 0
 ·have hz : ((n : Int) == 0) = true := by simp; omega
  have He : Hid (packErr parts ks = 4) := Lib.hid (by unfold packErr; rw [if_pos (by rw [LP.out]; exact .inl h0)])
  clear h0
  go_wp2_with fail
  go_ret2
  exact ⟨.inl ⟨by rw [He.out]; decide, by rw [He.out]; rfl⟩, Below.refl _ _⟩
 ·have hz : ((n : Int) == 0) = false := by rw [beq_eq_false_iff_ne]; omega
  by_cases hnm : n = m
  ·subst hnm
   have He : Hid (packErr parts ks = packE parts ks n 0 0) := Lib.hid (by unfold packErr; rw [if_neg (by rw [LP.out, HM.out]; omega), LP.out])
   have hne : ((n : Int) == (n : Int)) = true := by simp
   clear h0
   go_wp2_with fail
   go_loop [6, 24] (fun vs i => ∃ k s : Nat, k ≤ n ∧ i = .int .i64 (k : Int) ∧ vs = .int .i64 (s : Int) ∧ s ≤ 3000 ∧ packE parts ks n 0 0 = packE parts ks (n - k) k s) (fun _ i => n - (intOf i).toNat)
   case atStart => exact ⟨0, 0, Nat.zero_le _, rfl, rfl, by omega, rfl⟩
   case round =>
    obtain ⟨k, s, hk, rfl, rfl, hs, hpk⟩ := hrel
    have Hpk := Lib.hid hpk
    clear hpk
    by_cases hlt : k < n
    ·have hkl : k < ps.length := by rw [HN.out]; exact hlt
     obtain ⟨bP, oP, rfl, hcP⟩ := HP.out.get (k := k) (by rw [List.length_map]; exact hkl)
     rw [List.getElem_map] at hcP
     obtain ⟨A, c, hv, hlc, hcm, hby⟩ := HD.out _ (List.getElem_mem hkl)
     rw [hv] at hcP
     have Hp2 := Lib.hid (Hp.out k hkl)
     have hlq := HQ.out _ (List.getElem_mem hkl)
     generalize hxs : ps[k].2 = xs at *
     clear hv hxs hby
     unfold maxLen at hcm
     generalize hlx : xs.length = lx at *
     have Hlx := Lib.hid hlx
     have hkm : k < ks.length := by rw [HM.out]; exact hlt
     obtain ⟨bK, oK, rfl, hcK⟩ := HK.out.get hkm
     have Hks : Hid (ks.getD k 0 = ks[k]) := Lib.hid (by rw [List.getD_eq_getElem?_getD, List.getElem?_eq_getElem hkm]; rfl)
     generalize ks[k] = z at *
     obtain ⟨f, hf⟩ : ∃ f, n - k = f + 1 := ⟨n - k - 1, by omega⟩
     have Hst : Hid (packE parts ks n 0 0 = if 3000 < s + lx ∨ 40 ≤ k then 2 else if z < 0 ∨ 2 < z then 3 else packE parts ks (n - (k + 1)) (k + 1) (s + lx)) := Lib.hid (by
      rw [Hpk.out, hf]
      conv => lhs; unfold packE
      rw [Hp2.out, Hlx.out, Hks.out, show n - (k + 1) = f by omega])
     have hsum : IntKind.i64.wrap ((s : Int) + (lx : Int)) = ((s + lx : Nat) : Int) := by rw [show ((s : Int) + (lx : Int)) = ((s + lx : Nat) : Int) by omega]; exact IntWalk.i64_in _ (by omega)
     obtain ⟨t, ht⟩ : ∃ t, t = s + lx := ⟨_, rfl⟩
     rw [← ht] at hsum Hst
     clear hlx hf ht
     by_cases h3 : 3000 < t
     ·have h3' : (3000 : Int) < (t : Int) := by omega
      have Hr : Hid (packErr parts ks = 2) := Lib.hid (by rw [He.out, Hst.out, if_pos (.inl h3)])
      clear h3
      go_wp2_with fail
      go_ret2
      exact ⟨.inl ⟨by rw [Hr.out]; decide, by rw [Hr.out]; rfl⟩, Below.refl _ _⟩
     ·have h3' : ¬ (3000 : Int) < (t : Int) := by omega
      by_cases h4 : 40 ≤ k
      ·have h4' : (40 : Int) ≤ (k : Int) := by omega
       have Hr : Hid (packErr parts ks = 2) := Lib.hid (by rw [He.out, Hst.out, if_pos (.inr h4)])
       clear h3 h4
       go_wp2_with fail
       go_ret2
       exact ⟨.inl ⟨by rw [Hr.out]; decide, by rw [Hr.out]; rfl⟩, Below.refl _ _⟩
      ·have h4' : ¬ (40 : Int) ≤ (k : Int) := by omega
       by_cases h5 : z < 0
       ·have Hr : Hid (packErr parts ks = 3) := Lib.hid (by rw [He.out, Hst.out, if_neg (by omega), if_pos (.inl h5)])
        clear h3 h4
        go_wp2_with fail
        go_ret2
        exact ⟨.inl ⟨by rw [Hr.out]; decide, by rw [Hr.out]; rfl⟩, Below.refl _ _⟩
       ·by_cases h6 : 2 < z
        ·have Hr : Hid (packErr parts ks = 3) := Lib.hid (by rw [He.out, Hst.out, if_neg (by omega), if_pos (.inr h6)])
         clear h3 h4
         go_wp2_with fail
         go_ret2
         exact ⟨.inl ⟨by rw [Hr.out]; decide, by rw [Hr.out]; rfl⟩, Below.refl _ _⟩
        ·have Hr : Hid (packE parts ks n 0 0 = packE parts ks (n - (k + 1)) (k + 1) t) := Lib.hid (by rw [Hst.out, if_neg (by omega), if_neg (by omega)])
         clear h4
         go_wp2_with fail
         go_round
         case rel => exact ⟨k + 1, t, by omega, by go_num, rfl, by omega, Hr.out⟩
         case measure => simp [intOf]; omega
    ·obtain rfl : n = k := by omega
     have Hz : Hid (packE parts ks n 0 0 = 0) := Lib.hid (by rw [Hpk.out, Nat.sub_self]; rfl)
     have He0 : Hid (packErr parts ks = 0) := Lib.hid (by rw [He.out, Hz.out])
     obtain ⟨q1, q2, q3⟩ := packE_all parts ks (by rw [LP.out]; exact Hz.out) (by rw [HM.out, LP.out])
     have Q1 := Lib.hid q1
     have Q3 := Lib.hid q3
     rw [LP.out] at q2
     have HRow0 := Lib.hid (RowAt.new w (base := w.heap.size) (Nat.le_refl _))
     have Hb0 := Lib.hid ((Below.refl w.heap.size w).alloc (Nat.le_refl _) (.cells #[.slice none 0 0, .int .i64 0] 42))
     clear q1 q3 Hpk
     go_wp2_with fail
     have HPb := Lib.hid (HP.out.below Hb0.out)
     have HKb := Lib.hid (HK.out.below Hb0.out)
     have HLw : Hid (∀ q ∈ ps, ∃ A cap, q.1 = .slice A q.2.length cap ∧ q.2.length ≤ cap ∧ LowBy (w.alloc (.cells #[.slice none 0 0, .int .i64 0] 42)) w.heap.size A q.2) := Lib.hid (fun q hq => by
      obtain ⟨A, c, h1, h2, h3, h4⟩ := HD.out q hq
      exact ⟨A, c, h1, h2, (LowBy.of h4 (Nat.le_refl _)).trans (fun k hk => Hb0.out.block k hk)⟩)
     obtain ⟨n1, hn1⟩ : ∃ n1, n = n1 + 1 := ⟨n - 1, by rw [beq_eq_false_iff_ne] at hz; omega⟩
     have hs1 : IntKind.i64.wrap ((n : Int) - 1) = (n1 : Int) := by rw [show (n : Int) - 1 = (n1 : Int) by omega]; exact IntWalk.i64_in _ (by omega)
     have Hn1 := Lib.hid hn1
     clear hn1 hlt hs hk
     generalize hw3 : w.alloc (.cells #[.slice none 0 0, .int .i64 0] 42) = w3 at *
     generalize hp0 : w.heap.size = p0 at *
     have Hp0 := Lib.hid hp0
     clear hw3 hp0
     go_loopw [54] (fun i wr => ∃ k : Nat, k ≤ n ∧ i = .int .i64 (k : Int) ∧ RowAt wr p0 p0 (packK parts (lsOf ks) k) ∧ Keeps p0 rowT w3 wr) (fun i _ => n - (intOf i).toNat)
     case atStart => exact ⟨0, Nat.zero_le _, rfl, HRow0.out, Keeps.refl _ _ _⟩
     case round =>
      clear HRow0
      obtain ⟨k, hk, rfl, hrow, hkp⟩ := hrel
      have HRow := Lib.hid hrow
      have HKp := Lib.hid hkp
      have hrl := packK_len parts (lsOf ks) Q3.out k
      clear hrow hkp
      by_cases hlt : k < n
      ·have hkl : k < ps.length := by rw [HN.out]; exact hlt
       have Hag : Hid (∀ j, j < p0 → wr.heap[j]? = w.heap[j]?) := Lib.hid (fun j hj => (HKp.out.block j hj).trans (Hb0.out.block j hj))
       obtain ⟨bP, oP, rfl, hcP⟩ := (slat_low HP.out Hp0.out Hag.out).get (k := k) (by rw [List.length_map]; exact hkl)
       rw [List.getElem_map] at hcP
       obtain ⟨A, c, hv, hlc, hlow⟩ := HLw.out _ (List.getElem_mem hkl)
       rw [hv] at hcP
       have Hp2 := Lib.hid (Hp.out k hkl)
       have hx3 : ps[k].2.length ≤ 3000 := by rw [← Hp2.out]; exact Nat.le_trans (part_len parts k) Q3.out
       generalize hxs : ps[k].2 = xs at *
       have Hlow := Lib.hid hlow
       have hkm : k < ks.length := by rw [HM.out]; exact hlt
       obtain ⟨bK, oK, rfl, hcK⟩ := InAt.get (slat_low HK.out Hp0.out Hag.out) hkm
       have hz2 := Q1.out _ (List.getElem_mem hkm)
       have hgk : (lsOf ks).getD k 0 = ks[k].toNat := getD_of ks k hkm
       generalize ks[k] = z at *
       obtain ⟨zk, rfl⟩ := Int.eq_ofNat_of_zero_le hz2.1
       rw [Int.toNat_natCast] at hgk
       obtain ⟨lb, hlb⟩ : ∃ b : Bool, b = ((k : Int) == (n1 : Int)) := ⟨_, rfl⟩
       have Hst : Hid (packK parts (lsOf ks) (k + 1) = oneB (packK parts (lsOf ks) k) xs zk lb) := Lib.hid (by
        show oneB _ _ _ _ = _
        rw [Hp2.out, hgk]
        congr 1
        rw [hlb, LP.out, Hn1.out, Bool.eq_iff_iff]
        simp
        omega)
       have HO := Lib.hid (one_any p0 p0 (packK parts (lsOf ks) k) A xs.length c xs zk lb wr HRow.out (Hlow.out.trans HKp.out.block) rfl hlc hx3 (by omega) (by omega))
       rw [← Hst.out] at HO
       rw [hlb] at HO
       have hlx := hx3
       generalize xs.length = lx at *
       clear hv hlow hxs hgk hlb hrl HRow hlc hx3 hz2
       go_wp2_with fail
       refine (HO.out).mono ?_
       rintro e w5 ⟨rfl, hrow, hkp⟩
       have HR5 := Lib.hid hrow
       have HK5 := Lib.hid (HKp.out.trans hkp)
       clear hrow hkp HO HKp
       go_wp2_with fail
       go_roundw
       case rel => exact ⟨k + 1, by omega, by go_num, HR5.out, HK5.out⟩
       case measure => simp [intOf]; omega
      ·obtain rfl : n = k := by omega
       have Hbk : Hid (Below p0 w wr) := Lib.hid (Hb0.out.trans HKp.out.below)
       have HPk : Hid (packB parts (lsOf ks) = pack (packK parts (lsOf ks) n)) := Lib.hid (by unfold packB; rw [LP.out])
       obtain ⟨hpp, v, hv1, hv2⟩ := HRow.out
       have hby := Lib.hid (bytes_any p0 v _ wr hv1)
       have Hv2 := Lib.hid hv2
       clear hv1 hv2 hrl
       go_wp2_with fail
       refine (hby.out).mono ?_
       rintro e w5 ⟨rfl, rfl⟩
       go_wp2_with fail
       go_ret2
       exact ⟨.inr ⟨He0.out, v, rfl, by rw [HPk.out, Hp0.out]; exact Hv2.out⟩, by rw [Hp0.out]; exact Hbk.out⟩
  ·have hne : ((n : Int) == (m : Int)) = false := by rw [beq_eq_false_iff_ne]; omega
   have He : Hid (packErr parts ks = 4) := Lib.hid (by unfold packErr; rw [if_pos (by rw [LP.out, HM.out]; exact .inr hnm)])
   clear h0 hnm
   go_wp2_with fail
   go_ret2
   exact ⟨.inl ⟨by rw [He.out]; decide, by rw [He.out]; rfl⟩, Below.refl _ _⟩
end Go.Proofs.YthpdcnjaodjjmaaGreat.Blk

/- bytes.Equal, and []byte to string. -/
namespace Go.Proofs.YthpdcnjaodjjmaaGreat
open Go Go.RowKit
set_option linter.unusedVariables false

def strB (xs : List UInt8) : ByteArray := ⟨xs.toArray⟩
theorem strB_inj (xs ys : List UInt8) : ((strB xs).toList == (strB ys).toList) = decide (xs = ys) := by
 rw [ByteArray.toList_eq, ByteArray.toList_eq, Bool.eq_iff_iff]; simp [strB]
theorem strB_nums (xs : List UInt8) : strOfNums (xs.map n8) = strB xs := by
 unfold strOfNums strB
 rw [List.map_map]
 have : ((fun n => UInt8.ofNat n.toNat) ∘ n8) = id := by
  funext x; simp [n8]
 rw [this, List.map_id]
theorem conv_bytes (A : Option Addr) (n c : Nat) (xs : List UInt8) (w : World) (hn : xs.length = n) (h : ByAt w A xs) :
  (convert 24 9 (.slice A n c)).run Tryz.prog w = .ok (.string (strB xs)) w := by
 rw [← strB_nums]
 cases n with
 | zero =>
  have : xs = [] := List.eq_nil_of_length_eq_zero hn
  subst this
  exact run_convert_bytes_zero w _ _ Tryz.underlying24 Tryz.underlying5 A c _ Tryz.underlying9
 | succ n =>
  obtain ⟨b, o, rfl, _⟩ := SlAt.get h (k := 0) (by simp; omega)
  refine run_convert_bytes_arg w _ _ Tryz.underlying24 Tryz.underlying5 b o _ c _ (by simpa using hn) (fun i hi => ?_) _ Tryz.underlying9
  obtain ⟨b', o', hb, hc⟩ := SlAt.get h (k := i) (by simp; omega)
  injection hb with hb; injection hb with h1 h2 h3
  subst h1 h2
  rw [hc]
  have : i < xs.length := by omega
  simp [List.getD, u8v, this]

set_option maxHeartbeats 400000 in
theorem equal_bytes (A B : Option Addr) (n m ca cb : Nat) (xs ys : List UInt8) (w : World) (hn : xs.length = n) (hm : ys.length = m) (ha : ByAt w A xs) (hb : ByAt w B ys) :
  Calls Tryz.prog 8 #[.slice A n ca, .slice B m cb] w fun e w' => e = .returned (.bool (decide (xs = ys))) ∧ w' = w := by
 have k1 := conv_bytes A n ca xs w hn ha
 have k2 := conv_bytes B m cb ys w hm hb
 have K := Lib.hid (strB_inj xs ys)
 clear hn hm ha hb
 go_enter Tryz.func8, Tryz.ntmps8
 go_wp2_with fail
 go_ret
 exact ⟨ret_bool K.out, rfl⟩
end Go.Proofs.YthpdcnjaodjjmaaGreat

/- package block: Best: the walk; packed, a closed fact. -/
namespace Go.Proofs.YthpdcnjaodjjmaaGreat.Blk
open Go Go.RowKit Go.Proofs.YthpdcnjaodjjmaaGreat Go.Proofs.YthpdcnjaodjjmaaGreat.Bits Go.Proofs.YthpdcnjaodjjmaaGreat.Inf Go.Proofs.YthpdcnjaodjjmaaGreat.SP Go.Proofs.YthpdcnjaodjjmaaGreat.Rt
open Go.Proofs.YthpdcnjaodjjmaaGreat.Code (lsOf natV nats)
set_option linter.unusedVariables false

theorem packErr_one (xs : List UInt8) (k : Nat) (hx : xs.length ≤ 3000) (hk : k ≤ 2) : packErr [xs] [(k : Int)] = 0 := by
 unfold packErr
 rw [if_neg (by simp)]
 show packE [xs] [(k : Int)] 1 0 0 = 0
 unfold packE
 rw [if_neg (by simp; omega), if_neg (by simp; omega)]
 rfl
theorem lsOf_one (k : Nat) : lsOf [(k : Int)] = [k] := by simp [lsOf]
theorem pack1_any (A : Option Addr) (n c k : Nat) (xs : List UInt8) (w : World) (hn : xs.length = n) (hnc : n ≤ c) (hcm : c ≤ maxLen) (hx : n ≤ 3000) (hk : k ≤ 2) (hA : ByAt w A xs) :
  Calls Tryz.prog 5 #[.slice (some ⟨w.heap.size, 0, none⟩) 1 1, .slice (some ⟨w.heap.size + 1, 0, none⟩) 1 1] ((w.alloc (.cells #[.slice A n c] 24)).alloc (.cells #[.int .i64 (k : Int)] 3)) fun e w' =>
   (∃ v, e = .returned (.tuple #[v, .int .i64 0]) ∧ w'.ownsRow w.heap.size 5 1 v (packB [xs] [k]).length ((packB [xs] [k]).map u8v)) ∧ Below w.heap.size w w' := by
 have hb : Below w.heap.size w ((w.alloc (.cells #[.slice A n c] 24)).alloc (.cells #[.int .i64 (k : Int)] 3)) := ((Below.refl _ _).alloc (Nat.le_refl _) _).alloc (by simp) _
 have h1 : Blk ((w.alloc (.cells #[.slice A n c] 24)).alloc (.cells #[.int .i64 (k : Int)] 3)) w.heap.size 24 #[.slice A n c] := (Blk.new w _ _).alloc _
 have h2 : Blk ((w.alloc (.cells #[.slice A n c] 24)).alloc (.cells #[.int .i64 (k : Int)] 3)) (w.heap.size + 1) 3 #[.int .i64 (k : Int)] := by
  have := Blk.new (w.alloc (.cells #[.slice A n c] 24)) 3 #[.int .i64 (k : Int)]
  rw [World.size_alloc] at this; exact this
 have he := packErr_one xs k (by omega) hk
 refine (bpack_any (some ⟨w.heap.size, 0, none⟩) (some ⟨w.heap.size + 1, 0, none⟩) 1 1 1 1 [(.slice A n c, xs)] [(k : Int)] _ rfl rfl (by unfold maxLen; omega) (by unfold maxLen; omega) h1.kat.slat ?_ ?_ ?_).mono ?_
 ·intro q hq
  rw [List.mem_singleton] at hq
  subst hq
  exact ⟨A, c, by rw [hn], by rw [hn]; exact hnc, hcm, hA.below hb⟩
 ·intro q hq
  rw [List.mem_singleton] at hq
  subst hq
  dsimp only
  omega
 ·exact h2.kat.slat
 ·rintro e w' ⟨h, hb'⟩
  have hb2 : Below w.heap.size w w' := hb.trans (hb'.mono hb.size)
  refine ⟨?_, hb2⟩
  rcases h with ⟨h3, _⟩ | ⟨_, v, rfl, ho⟩
  ·exact absurd he h3
  ·rw [lsOf_one] at ho
   exact ⟨v, rfl, own_base ho (by simp; omega)⟩
def bestK (xs : List UInt8) : Nat → List UInt8 × Nat
 | 0 => ([], 0)
 | k + 1 => if k = 0 ∨ (packB [xs] [k]).length < (bestK xs k).1.length then (packB [xs] [k], k) else bestK xs k
theorem bestK_yes (xs : List UInt8) (k : Nat) (h : k = 0 ∨ (packB [xs] [k]).length < (bestK xs k).1.length) : bestK xs (k + 1) = (packB [xs] [k], k) := by
 conv => lhs; unfold bestK
 rw [if_pos h]
theorem bestK_no (xs : List UInt8) (k : Nat) (h : ¬ (k = 0 ∨ (packB [xs] [k]).length < (bestK xs k).1.length)) : bestK xs (k + 1) = bestK xs k := by
 conv => lhs; unfold bestK
 rw [if_neg h]
def BestPost (n : Nat) (xs : List UInt8) (w : World) (e : Ending) (w' : World) : Prop :=
  (3000 < n ∧ e = .returned (.tuple #[.slice none 0 0, .int .i64 0, .int .i64 2]) ∨
   n ≤ 3000 ∧ ∃ v, e = .returned (.tuple #[v, .int .i64 ((bestK xs 3).2 : Int), .int .i64 0]) ∧ w'.ownsRow w.heap.size 5 1 v (bestK xs 3).1.length ((bestK xs 3).1.map u8v)) ∧ Below w.heap.size w w'
set_option maxRecDepth 100000 in
set_option maxHeartbeats 1600000 in
theorem best_any (A : Option Addr) (n c : Nat) (xs : List UInt8) (w : World) (hn : xs.length = n) (hnc : n ≤ c) (hcm : c ≤ maxLen) (hA : ByAt w A xs) :
  Calls Tryz.prog 16 #[.slice A n c] w (BestPost n xs w) := by
 have Hn := Lib.hid hn
 have HA := Lib.hid hA
 have Hcm := Lib.hid hcm
 unfold maxLen at hcm
 clear hn hA
 go_enter Tryz.func16, Tryz.ntmps16
 by_cases h3 : 3000 < n
 ·have h3' : (3000 : Int) < (n : Int) := by omega
  go_wp2_with fail
  go_ret3
  exact ⟨.inl ⟨h3, rfl⟩, Below.refl _ _⟩
 ·have h3' : ¬ (3000 : Int) < (n : Int) := by omega
  have hle : n ≤ 3000 := by omega
  clear h3
  go_wp2_with fail
  go_loopw [2, 3, 5] (fun vo vb vk wr => ∃ k : Nat, k ≤ 3 ∧ vk = .int .i64 (k : Int) ∧ vb = .int .i64 ((bestK xs k).2 : Int) ∧ wr.ownsRow w.heap.size 5 1 vo (bestK xs k).1.length ((bestK xs k).1.map u8v) ∧ Below w.heap.size w wr) (fun _ _ vk _ => 3 - (intOf vk).toNat)
  case atStart => exact ⟨0, by omega, rfl, rfl, World.ownsRow_nil .., Below.refl _ _⟩
  case round =>
   obtain ⟨k, hk, rfl, rfl, ho, hb⟩ := hrel
   have HO := Lib.hid ho
   have Hb := Lib.hid hb
   clear ho hb
   by_cases hlt : k < 3
   ·have hk2 : (k : Int) ≤ 2 := by omega
    have HP := Lib.hid (pack1_any A n c k xs wr Hn.out hnc Hcm.out hle (by omega) (HA.out.below Hb.out))
    have Hy := Lib.hid (bestK_yes xs k)
    have Hno := Lib.hid (bestK_no xs k)
    go_wp2_with fail
    refine (HP.out).mono ?_
    rintro e w2 ⟨⟨v2, rfl, ho2⟩, hb2⟩
    have HO2 := Lib.hid (own_keep HO.out hb2)
    have Hb2 := Lib.hid (Hb.out.trans (hb2.mono Hb.out.size))
    have HN2 := Lib.hid (own_base ho2 Hb.out.size)
    obtain ⟨A2, c2, rfl, _⟩ := own_slat ho2
    obtain ⟨A1, c1, rfl, _⟩ := own_slat HO.out
    clear ho2 hb2 HP HO Hb
    generalize packB [xs] [k] = p at *
    generalize bestK xs k = s at *
    obtain ⟨s1, s2⟩ := s
    dsimp only at HO2 Hy Hno
    by_cases hc : k = 0 ∨ p.length < s1.length
    ·have He := Lib.hid (Hy.out hc)
     by_cases hk0 : k = 0
     ·have hz : ((k : Int) == 0) = true := by simp; omega
      clear hc hk0 Hy Hno
      go_wp2_with fail
      go_roundw
      case rel => exact ⟨k + 1, by omega, by go_num, by rw [He.out], by rw [He.out]; exact HN2.out, Hb2.out⟩
      case measure => simp [intOf]; omega
     ·have hz : ((k : Int) == 0) = false := by rw [beq_eq_false_iff_ne]; omega
      have hl : (p.length : Int) < (s1.length : Int) := by omega
      clear hc hk0 Hy Hno
      go_wp2_with fail
      go_roundw
      case rel => exact ⟨k + 1, by omega, by go_num, by rw [He.out], by rw [He.out]; exact HN2.out, Hb2.out⟩
      case measure => simp [intOf]; omega
    ·have He := Lib.hid (Hno.out hc)
     have hz : ((k : Int) == 0) = false := by rw [beq_eq_false_iff_ne]; omega
     have hl : ¬ (p.length : Int) < (s1.length : Int) := by omega
     clear hc Hy Hno
     go_wp2_with fail
     go_roundw
     case rel => exact ⟨k + 1, by omega, by go_num, by rw [He.out], by rw [He.out]; exact HO2.out, Hb2.out⟩
     case measure => simp [intOf]; omega
   ·obtain rfl : k = 3 := by omega
    have hk2 : ¬ ((3 : Nat) : Int) ≤ 2 := by omega
    go_wp2_with fail
    go_ret3
    exact ⟨.inr ⟨hle, _, rfl, HO.out⟩, Hb.out⟩
end Go.Proofs.YthpdcnjaodjjmaaGreat.Blk

/- sums: the plain law of CRC-32, bit by bit, byte by byte, and of two rows. No program in sight. -/
namespace Go.Proofs.YthpdcnjaodjjmaaGreat.Sum
open Go Go.RowKit Go.Proofs.YthpdcnjaodjjmaaGreat

abbrev W32 := BitVec 32
def poly : W32 := 3988292384#32
def one : W32 := 2147483648#32
def stepC (c : W32) : W32 := (c >>> 1) ^^^ (3988292384#32 * (c &&& 1#32))
def stepN : Nat → W32 → W32
 | 0, c => c
 | n + 1, c => stepC (stepN n c)
def tab (k : Nat) : W32 := stepN 8 (BitVec.ofNat 32 k)
def low8 (c : W32) : UInt8 := UInt8.ofBitVec (c.setWidth 8)
def crcB (c : W32) (x : UInt8) : W32 := (c >>> 8) ^^^ tab (low8 c ^^^ x).toNat
def crcL (c : W32) (l : List UInt8) : W32 := l.foldl crcB c
def crc (before : W32) (l : List UInt8) : W32 := ~~~ crcL (~~~before) l

theorem mul_bit (c : W32) : 3988292384#32 * (c &&& 1#32) = if c.getLsbD 0 then poly else 0#32 := by
 have h : c &&& 1#32 = if c.getLsbD 0 then 1#32 else 0#32 := by
  apply BitVec.eq_of_getLsbD_eq
  intro i hi
  by_cases h0 : i = 0
  ·subst h0; rw [BitVec.getLsbD_and]; cases h : c.getLsbD 0 <;> rfl
  ·have h1 : (1#32).getLsbD i = false := by
    rw [BitVec.getLsbD_one]; simp; omega
   cases h : c.getLsbD 0 <;> simp [h1]
 rw [h]
 cases c.getLsbD 0 <;> simp [poly]
theorem stepC_if (c : W32) : stepC c = (c >>> 1) ^^^ (if c.getLsbD 0 then poly else 0#32) := by
 unfold stepC; rw [mul_bit]
theorem stepC_xor (a b : W32) : stepC (a ^^^ b) = stepC a ^^^ stepC b := by
 simp only [stepC_if, BitVec.ushiftRight_xor_distrib, BitVec.getLsbD_xor]
 cases a.getLsbD 0 <;> cases b.getLsbD 0 <;> simp <;> ac_nf
 ·rw [← BitVec.xor_assoc, ← BitVec.xor_assoc]; simp
theorem stepN_xor (n : Nat) (a b : W32) : stepN n (a ^^^ b) = stepN n a ^^^ stepN n b := by
 induction n with
 | zero => rfl
 | succ n ih => simp only [stepN, ih, stepC_xor]
theorem stepN_add (m n : Nat) (c : W32) : stepN (m + n) c = stepN m (stepN n c) := by
 induction m with
 | zero => simp [stepN]
 | succ m ih => rw [show m + 1 + n = (m + n) + 1 by omega]; simp only [stepN, ih]
theorem stepN_comm1 (n : Nat) (c : W32) : stepN n (stepC c) = stepC (stepN n c) := by
 have h1 : stepN (n + 1) c = stepC (stepN n c) := rfl
 have h2 := stepN_add n 1 c
 rw [← h1, h2]; rfl

def bitsOf (x : UInt8) : List Bool := (List.range 8).map fun k => x.toNat.testBit k
def bitsL (l : List UInt8) : List Bool := l.flatMap bitsOf
def b32 (b : Bool) : W32 := if b then 1#32 else 0#32
def crcBit (c : W32) (b : Bool) : W32 := stepC (c ^^^ b32 b)
def crcBits (c : W32) (l : List Bool) : W32 := l.foldl crcBit c

theorem crcBits_cons (c : W32) (b : Bool) (l : List Bool) : crcBits c (b :: l) = crcBits (crcBit c b) l := rfl
def word : List Bool → W32
 | [] => 0#32
 | b :: l => b32 b ^^^ (word l <<< 1)
theorem shl_step (c : W32) (h : c.getLsbD 31 = false) : stepC (c <<< 1) = c := by
 have h0 : (c <<< 1).getLsbD 0 = false := by rw [BitVec.getLsbD_shiftLeft]; simp
 rw [stepC_if, h0]
 apply BitVec.eq_of_getLsbD_eq
 intro i hi
 simp only [Bool.false_eq_true, if_false, BitVec.xor_zero, BitVec.getLsbD_ushiftRight, BitVec.getLsbD_shiftLeft]
 by_cases h31 : i = 31
 ·subst h31; rw [h]; rfl
 ·rw [show 1 + i - 1 = i by omega]
  have h1 : decide (1 + i < 32) = true := by simp; omega
  have h2 : decide (1 + i < 1) = false := by simp
  rw [h1, h2]; simp
theorem word_top (l : List Bool) (n : Nat) (h : l.length ≤ n) : (word l).getLsbD n = false := by
 induction l generalizing n with
 | nil => simp [word]
 | cons b l ih =>
  have hn : 0 < n := by simp at h; omega
  have h1 := ih (n - 1) (by simp at h; omega)
  unfold word b32
  have hb : (if b then 1#32 else 0#32 : W32).getLsbD n = false := by
   cases b
   ·simp
   ·simp only [if_true]; rw [BitVec.getLsbD_one]; simp; omega
  rw [BitVec.getLsbD_xor, hb, BitVec.getLsbD_shiftLeft]
  simp [h1]
theorem crcBits_word (l : List Bool) (h : l.length ≤ 32) (c : W32) : crcBits c l = stepN l.length (c ^^^ word l) := by
 induction l generalizing c with
 | nil => simp [crcBits, word, stepN]
 | cons b l ih =>
  rw [crcBits_cons, ih (by simp at h; omega)]
  have ht : (word l).getLsbD 31 = false := word_top l 31 (by simp at h; omega)
  have e : crcBit c b ^^^ word l = stepC (c ^^^ word (b :: l)) := by
   show stepC (c ^^^ b32 b) ^^^ word l = stepC (c ^^^ (b32 b ^^^ (word l <<< 1)))
   rw [← BitVec.xor_assoc, stepC_xor (c ^^^ b32 b), shl_step _ ht]
  rw [e, stepN_comm1]
  simp [stepN]
theorem b32_xor (b e : Bool) : b32 (xor b e) = b32 b ^^^ b32 e := by cases b <;> cases e <;> decide

theorem bitsOf_length (x : UInt8) : (bitsOf x).length = 8 := by simp [bitsOf]
theorem bitsL_length (l : List UInt8) : (bitsL l).length = 8 * l.length := by
 induction l with
 | nil => rfl
 | cons x l ih => simp only [bitsL, List.flatMap_cons, List.length_append, bitsOf_length, List.length_cons] at *; omega
theorem word_bitsOf : ∀ x : UInt8, word (bitsOf x) = x.toBitVec.setWidth 32 := by
 intro x
 have h : ∀ n : Fin 256, word (bitsOf (UInt8.ofNat n.val)) = (UInt8.ofNat n.val).toBitVec.setWidth 32 := by decide +kernel
 have := h ⟨x.toNat, x.toNat_lt⟩
 simpa using this
theorem shr8_step (c : W32) (n : Nat) (h : ∀ i, i < n → c.getLsbD i = false) : stepN n c = c >>> n := by
 induction n generalizing c with
 | zero => simp [stepN]
 | succ n ih =>
  have e : stepN (n + 1) c = stepN n (stepC c) := by rw [stepN_comm1]; rfl
  rw [e, stepC_if, h 0 (by omega)]
  simp
  rw [ih _ (fun i hi => by simp; exact h (1 + i) (by omega))]
  rw [← BitVec.shiftRight_add, Nat.add_comm]
theorem m255 (j : Nat) : (255#32).getLsbD j = decide (j < 8) := by
 by_cases h : j < 32
 ·have : ∀ k : Fin 32, (255#32).getLsbD k.val = decide (k.val < 8) := by decide
  exact this ⟨j, h⟩
 ·rw [BitVec.getLsbD_of_ge _ _ (by omega)]; simp; omega
theorem crcB_bits (c : W32) (x : UInt8) : crcB c x = crcBits c (bitsOf x) := by
 rw [crcBits_word _ (by simp [bitsOf_length]), bitsOf_length, word_bitsOf]
 unfold crcB tab
 have h1 : BitVec.ofNat 32 (low8 c ^^^ x).toNat = (c ^^^ x.toBitVec.setWidth 32) &&& 255#32 := by
  apply BitVec.eq_of_toNat_eq
  rw [BitVec.toNat_ofNat, UInt8.toNat_xor, BitVec.toNat_and, BitVec.toNat_xor]
  have hx := x.toNat_lt
  have e1 : (low8 c).toNat = c.toNat % 256 := by simp [low8, ← UInt8.toNat_toBitVec]
  have e2 : (x.toBitVec.setWidth 32).toNat = x.toNat := by simp
  have hk : ∀ y : Nat, y &&& 255 = y % 256 := fun y => Nat.and_two_pow_sub_one_eq_mod y 8
  rw [e1, e2, show (255#32).toNat = 255 from rfl, hk]
  have hm : (c.toNat ^^^ x.toNat) % 256 = (c.toNat % 256) ^^^ (x.toNat % 256) := Nat.xor_mod_two_pow (n := 8)
  have hlt : (c.toNat % 256) ^^^ x.toNat < 256 := Nat.xor_lt_two_pow (n := 8) (by omega) (by omega)
  have hxx : x.toNat % 256 = x.toNat := by omega
  rw [hxx] at hm
  rw [hm]; omega
 generalize hz : c ^^^ x.toBitVec.setWidth 32 = z at *
 have h2 : c >>> 8 = stepN 8 (z ^^^ (z &&& 255#32)) := by
  rw [shr8_step]
  ·apply BitVec.eq_of_getLsbD_eq
   intro i hi
   subst hz
   have hx : x.toBitVec.getLsbD (8 + i) = false := BitVec.getLsbD_of_ge _ _ (by omega)
   simp only [BitVec.getLsbD_ushiftRight, BitVec.getLsbD_xor, BitVec.getLsbD_and, m255, BitVec.getLsbD_setWidth, hx]
   have : decide (8 + i < 8) = false := by simp
   rw [this]; simp
  ·intro i hi
   simp only [BitVec.getLsbD_xor, BitVec.getLsbD_and, m255]
   have : decide (i < 8) = true := by simpa using hi
   rw [this]; simp
 rw [h1, h2, ← stepN_xor, BitVec.xor_assoc, BitVec.xor_self, BitVec.xor_zero]
theorem crcL_snoc (c : W32) (l : List UInt8) (x : UInt8) : crcL c (l ++ [x]) = crcB (crcL c l) x := by simp [crcL]

def refBit (c : W32) (b : Bool) : W32 := (c >>> 1) ^^^ (if ((c &&& 1#32) ^^^ b32 b) = 1#32 then poly else 0#32)
theorem refBit_eq (c : W32) (b : Bool) : refBit c b = crcBit c b := by
 unfold refBit crcBit
 rw [stepC_if, BitVec.ushiftRight_xor_distrib]
 have h1 : (b32 b) >>> 1 = 0#32 := by cases b <;> decide
 have h2 : (c &&& 1#32) = b32 (c.getLsbD 0) := by
  have : c &&& 1#32 = if c.getLsbD 0 then 1#32 else 0#32 := by
   apply BitVec.eq_of_getLsbD_eq
   intro i hi
   by_cases h0 : i = 0
   ·subst h0; rw [BitVec.getLsbD_and]; cases h : c.getLsbD 0 <;> rfl
   ·have h1 : (1#32).getLsbD i = false := by
     rw [BitVec.getLsbD_one]; simp; omega
    cases h : c.getLsbD 0 <;> simp [h1]
  exact this
 rw [h1, h2, BitVec.xor_zero, ← b32_xor, BitVec.getLsbD_xor]
 have h3 : (b32 b).getLsbD 0 = b := by cases b <;> decide
 rw [h3]
 cases xor (c.getLsbD 0) b <;> rfl

end Go.Proofs.YthpdcnjaodjjmaaGreat.Sum
