/- texts joined: BlkOne BlkPack EqualB BlkBest BlkFact RtSize InfNz InfMono UnpPure CdsPure NumP0. -/
import Derived.Test.YthpdcnjaodjjmaaGreatBlockPackQ5
import Derived.Test.YthpdcnjaodjjmaaGreatBlockPackQ4
import Derived.Test.YthpdcnjaodjjmaaGreatBlockPackQ1
import Derived.Test.YthpdcnjaodjjmaaGreatProg
import Derived.Laws.BytesArg
import Derived.Shelf.Bytes.SlSmallAll
import Derived.Lib.SlBytesConst
import Derived.Test.YthpdcnjaodjjmaaGreatSortPure
import Derived.Test.YthpdcnjaodjjmaaGreatBlockPackQ3
/- package block: one block: the walk. -/
namespace Go.Proofs.YthpdcnjaodjjmaaGreat.Blk
open Go Go.RowKit Go.Proofs.YthpdcnjaodjjmaaGreat Go.Proofs.YthpdcnjaodjjmaaGreat.Bits Go.Proofs.YthpdcnjaodjjmaaGreat.Code Go.Proofs.YthpdcnjaodjjmaaGreat.Inf Go.Proofs.YthpdcnjaodjjmaaGreat.Match Go.Proofs.YthpdcnjaodjjmaaGreat.SP Go.Proofs.YthpdcnjaodjjmaaGreat.Rt
set_option linter.unusedVariables false

theorem chk_far : ∀ (ts : List Tok) (n : Int), 0 ≤ n → (chkAll ts n).1 = 0 → n ≤ (chkAll ts n).2 ∧ ∀ t ∈ ts, t.2.1 = 0 ∨ t.2.2 ≤ (chkAll ts n).2
  | [], n, _, _ => ⟨Int.le_refl _, fun t h => by cases h⟩
  | x :: ts, n, hn, hk => by
    simp only [chkAll] at hk ⊢
    have hx : (chkTok n x).1 = 0 := by
      by_cases h1 : (chkTok n x).1 = 0
      · exact h1
      · rw [if_neg h1] at hk; exact hk
    rw [if_pos hx] at hk ⊢
    have key : n ≤ (chkTok n x).2 ∧ (x.2.1 = 0 ∨ x.2.2 ≤ n) := by
      unfold chkTok at hx ⊢
      by_cases h1 : x.2.1 = 0
      · rw [if_pos h1] at hx ⊢
        by_cases h2 : x.2.2 ≠ 0
        · rw [if_pos h2] at hx; simp at hx
        · rw [if_neg h2]; dsimp only; omega
      · rw [if_neg h1] at hx ⊢
        by_cases h2 : x.1 ≠ 0
        · rw [if_pos h2] at hx; simp at hx
        · rw [if_neg h2] at hx ⊢
          by_cases h3 : x.2.1 < 3 ∨ 258 < x.2.1 ∨ x.2.2 < 1
          · rw [if_pos h3] at hx; simp at hx
          · rw [if_neg h3] at hx ⊢
            by_cases h4 : n < x.2.2
            · rw [if_pos h4] at hx; simp at hx
            · rw [if_neg h4]; dsimp only; omega
    obtain ⟨h1, h2⟩ := chk_far ts (chkTok n x).2 (by omega) hk
    refine ⟨by omega, fun t ht => ?_⟩
    rcases List.mem_cons.1 ht with rfl | ht
    · rcases key.2 with h | h
      · exact .inl h
      · exact .inr (by omega)
    · exact h2 t ht
theorem toks_S (b : List UInt8) (hb : b.length ≤ 3000) : ∀ t ∈ toks b, TokS t := by
  intro t ht
  have h0 := toks_chk b
  have h1 := chk_tokR (toks b) 0 h0 t ht
  have h2 := (chk_far (toks b) 0 (Int.le_refl _) h0).2 t ht
  have h3 : (chkAll (toks b) 0).2 = (b.length : Int) := by unfold toks; rw [chkAll_titer, titer_end]
  rw [h3] at h2
  unfold TokS
  rcases h1 with h | ⟨a1, a2, a3⟩
  · exact .inl h
  · rcases h2 with h | h
    · exact .inl h
    · exact .inr ⟨t.2.1.toNat, t.2.2.toNat, by omega, by omega, by omega, by omega, by omega, by omega⟩
theorem tokS_fine {t : Tok} (h : TokS t) : TokFine t := by
  rcases h with h | ⟨s, f, h1, h2, h3, _⟩
  · exact .inl h
  · exact .inr ⟨s, f, h1, h2, by omega⟩
/-- bytes that are read, while nothing below 'base' turns -/
def LowBy (w : World) (base : Nat) (B : Option Addr) (xs : List UInt8) : Prop := ∀ w' : World, (∀ k, k < base → w'.heap[k]? = w.heap[k]?) → ByAt w' B xs
theorem LowBy.of {w : World} {B : Option Addr} {xs : List UInt8} {base : Nat} (h : ByAt w B xs) (hb : w.heap.size ≤ base) : LowBy w base B xs := fun w' hw hp => by
  obtain ⟨b, o, e, hc⟩ := h hp
  refine ⟨b, o, e, fun j v hj => ?_⟩
  have h1 := hc j v hj
  have hlt := block_lt_of_cell h1
  have h2 := hw b (by simpa using Nat.lt_of_lt_of_le hlt hb)
  rw [← h1]
  simp only [World.cell?, h2]
theorem LowBy.at {w w' : World} {base : Nat} {B : Option Addr} {xs : List UInt8} (h : LowBy w base B xs) (hw : ∀ k, k < base → w'.heap[k]? = w.heap[k]?) : ByAt w' B xs := h w' hw
theorem LowBy.trans {w w' : World} {base : Nat} {B : Option Addr} {xs : List UInt8} (h : LowBy w base B xs) (hw : ∀ k, k < base → w'.heap[k]? = w.heap[k]?) : LowBy w' base B xs := fun w2 h2 => h w2 fun k hk => (h2 k hk).trans (hw k hk)
theorem headB_len (lit far : List Nat) (l1 : lit.length = 286) (l2 : far.length = 30) (c1 : Cd lit) (c2 : Cd far) : (headB lit far).length ≤ 5000 := by
  rw [headB_eq]
  have tA := trim_len lit 257 (by omega)
  have tB := trim_len far 1 (by omega)
  have cA := trim_cd lit 257 c1
  have cB := trim_cd far 1 c2
  generalize trimP lit 257 = A at *
  generalize trimP far 1 = B at *
  have h15 : ∀ y ∈ A ++ B, y ≤ 15 := fun y hy => by
    rcases List.mem_append.1 hy with hy | hy
    · exact cA.le y hy
    · exact cB.le y hy
  have hR := runsP_len (A ++ B)
  have hok := runs_ok (A ++ B) h15
  generalize runsP (A ++ B) = R at *
  obtain ⟨s1, s2, s3, s4⟩ := sizes_fine R
  have h1 := flat_le (runB (sizesP R)) 14 R (fun x hx => runB_len _ x (fun i => getD_le _ 7 i s3) (hok x hx))
  have h2 := flat_le (fun n => numBits n 3) 3 (trimP (orderL.map fun k => (sizesP R).getD k 0) 4) (fun x _ => by rw [numBits_length]; exact Nat.le_refl _)
  have h3 := trim_len (orderL.map fun k => (sizesP R).getD k 0) 4 (by rw [List.length_map]; decide)
  have h4 : (orderL.map fun k => (sizesP R).getD k 0).length = 19 := by rw [List.length_map]; rfl
  rw [List.length_append] at hR
  simp only [List.length_append, numBits_length]
  omega
theorem bodyB_len (l : List Tok) (lit far : List Nat) (c1 : Cd lit) (c2 : Cd far) : (bodyB l lit far).length ≤ 48 * l.length + 15 := by
  unfold bodyB
  have h1 := flat_le (tokB lit far) 48 l (fun x _ => tokB_len lit far x c1 c2)
  have h2 := c1.bits (i := 256)
  rw [List.length_append, codeB_length]; omega
theorem oneB_len (r : List Bool) (b : List UInt8) (kind : Nat) (last : Bool) (hb : b.length ≤ 3000) : (oneB r b kind last).length ≤ r.length + 200000 := by
  rw [oneB_eq, List.length_append]
  unfold oneS
  by_cases h0 : kind = 0
  · rw [if_pos h0]
    simp only [List.length_append, numBits_length, List.length_singleton, List.length_replicate, bitsL_length]
    omega
  · rw [if_neg h0]
    have ht := toks_len b
    by_cases h1 : kind = 1
    · rw [if_pos h1]
      have := bodyB_len (toks b) fixedA fixedB fixA_cd fixB_cd
      simp only [List.length_append, numBits_length, List.length_singleton]
      omega
    · rw [if_neg h1]
      obtain ⟨l1, l2, l3, l4, _, _⟩ := lens_all (toks b)
      have h2 := bodyB_len (toks b) _ _ l3 l4
      have h3 := headB_len _ _ l1 l2 l3 l4
      simp only [List.length_append, numBits_length, List.length_singleton]
      omega
set_option maxRecDepth 100000 in
theorem fill_any (base p : Nat) (r : List Bool) (w : World) (hr : RowAt w base p r) :
    Calls Tryz.prog 25 #[.pointer (some ⟨p, 0, none⟩)] w fun e w' => e = .returned (.tuple #[]) ∧ RowAt w' base p (pad r) ∧ Keeps base rowT w w' := by
  obtain ⟨hbp, v, hB, hO⟩ := hr
  have hc1 := hB.c1
  have hf1 := hB.frozen 1
  have HB := Lib.hid hB
  have HO := Lib.hid hO
  have HRes : Hid (RowAt (w.setCell ⟨p, 1, none⟩ (.int .i64 0)) base p (pad r)) := Lib.hid (by
    refine ⟨hbp, v, ?_, ?_⟩
    · have e : (pad r).length % 8 = 0 := by rw [pad_length]; omega
      rw [e]; exact hB.s1 _
    · rw [pack_pad]; exact ownsRow_setCell_other hO (own_ne hO hB (by decide)) _)
  have HK := Lib.hid ((Keeps.refl base rowT w).setBlk hB (by simp [rowT]) hbp 1 (.int .i64 0))
  clear hB hO
  go_enter Tryz.func25, Tryz.ntmps25
  go_wp2_with fail
  go_end0
  exact ⟨rfl, HRes.out, HK.out⟩
set_option maxRecDepth 100000 in
set_option maxHeartbeats 8000000 in
theorem one_any (base p : Nat) (r : List Bool) (B : Option Addr) (nb cb : Nat) (xs : List UInt8) (kind : Nat) (last : Bool) (w : World) (hr : RowAt w base p r) (hB : LowBy w base B xs) (hn : xs.length = nb) (hnc : nb ≤ cb) (hx : nb ≤ 3000) (hk : kind ≤ 2) (hrl : r.length ≤ 50000000) :
    Calls Tryz.prog 14 #[.pointer (some ⟨p, 0, none⟩), .slice B nb cb, .int .i64 (kind : Int), .bool last] w fun e w' => e = .returned (.tuple #[]) ∧ RowAt w' base p (oneB r xs kind last) ∧ Keeps base rowT w w' := by
  have HR := Lib.hid hr
  have HB := Lib.hid hB
  have Hn := Lib.hid hn
  clear hr hB hn
  cases last
  · go_enter Tryz.func14, Tryz.ntmps14
    have HP := Lib.hid (put_any base p 0 1 r w HR.out (by omega) (by omega) (by omega))
    rw [show numBits 0 1 = [false] from rfl, show (((0 : Nat) : Int)) = 0 from rfl] at HP
    go_wp2_with fail
    refine (HP.out).mono ?_
    rintro e w1 ⟨rfl, hrow, hkp⟩
    have HR1 := Lib.hid hrow
    have HK1 := Lib.hid hkp
    clear hrow hkp HP HR
    have hl1 : (r ++ [false]).length ≤ 50000001 := by rw [List.length_append, List.length_singleton]; omega
    have HP := Lib.hid (put_any base p kind 2 _ w1 HR1.out (by omega) (by omega) (by omega))
    go_wp2_with fail
    refine (HP.out).mono ?_
    rintro e w2 ⟨rfl, hrow, hkp⟩
    have HR2 := Lib.hid hrow
    have HK2 := Lib.hid (HK1.out.trans hkp)
    clear hrow hkp HP HR1 HK1
    have hl2 : (r ++ [false] ++ numBits kind 2).length ≤ 50000003 := by rw [List.length_append, numBits_length]; omega
    by_cases hk0 : kind = 0
    · have hk0' : ((kind : Int) == 0) = true := by simp; omega
      have Hone : Hid (oneB r xs kind false = pad (r ++ [false] ++ numBits kind 2) ++ numBits nb 16 ++ numBits (65535 - nb) 16 ++ bitsL xs) := Lib.hid (by unfold oneB; rw [if_pos hk0, Hn.out, hk0])
      generalize r ++ [false] ++ numBits kind 2 = r2 at *
      have HP := Lib.hid (fill_any base p r2 w2 HR2.out)
      have hl3 : (pad r2).length ≤ 50000020 := by rw [pad_length]; omega
      clear hl1 hl2 hk0 HR2
      go_wp2_with fail
      refine (HP.out).mono ?_
      rintro e w3 ⟨rfl, hrow, hkp⟩
      have HR3 := Lib.hid hrow
      have HK3 := Lib.hid (HK2.out.trans hkp)
      clear hrow hkp HP HK2
      have HP := Lib.hid (put_any base p nb 16 _ w3 HR3.out (by omega) (by omega) (by omega))
      go_wp2_with fail
      refine (HP.out).mono ?_
      rintro e w4 ⟨rfl, hrow, hkp⟩
      have HR4 := Lib.hid hrow
      have HK4 := Lib.hid (HK3.out.trans hkp)
      clear hrow hkp HP HK3 HR3
      have hl4 : (pad r2 ++ numBits nb 16).length ≤ 50000040 := by rw [List.length_append, numBits_length]; omega
      have hxor := xor16 nb (by omega)
      have HP := Lib.hid (put_any base p (65535 - nb) 16 _ w4 HR4.out (by omega) (by omega) (by omega))
      go_wp2_with fail
      refine (HP.out).mono ?_
      rintro e w5 ⟨rfl, hrow, hkp⟩
      have HR5 := Lib.hid hrow
      have HK5 := Lib.hid (HK4.out.trans hkp)
      clear hrow hkp HP HK4 HR4 hxor
      have hl5 : (pad r2 ++ numBits nb 16 ++ numBits (65535 - nb) 16).length ≤ 50000060 := by rw [List.length_append, numBits_length]; omega
      generalize pad r2 ++ numBits nb 16 ++ numBits (65535 - nb) 16 = r5 at *
      go_wp2_with fail
      go_loopw [37] (fun i wr => ∃ k : Nat, k ≤ nb ∧ i = .int .i64 (k : Int) ∧ RowAt wr base p (r5 ++ bitsL (xs.take k)) ∧ Keeps base rowT w wr) (fun i _ => nb - (intOf i).toNat)
      case atStart => exact ⟨0, Nat.zero_le _, rfl, by rw [List.take_zero]; show RowAt w5 base p (r5 ++ []); rw [List.append_nil]; exact HR5.out, HK5.out⟩
      case round =>
        clear HR5 HK5
        obtain ⟨k, hk, rfl, hrow, hkp⟩ := hrel
        have HRk := Lib.hid hrow
        have HKk := Lib.hid hkp
        clear hrow hkp
        by_cases hlt : k < nb
        · have hkl : k < xs.length := by rw [Hn.out]; exact hlt
          obtain ⟨b, o, rfl, hc⟩ := (HB.out.at HKk.out.block).get hkl
          have Htk : Hid (bitsL (xs.take (k + 1)) = bitsL (xs.take k) ++ bitsOf xs[k]) := Lib.hid (by rw [take_snoc xs k hkl, bitsL_append]; simp [bitsL])
          have hbl : (bitsL (xs.take k)).length ≤ 24000 := by rw [bitsL_length, List.length_take]; omega
          generalize xs[k] = x at *
          obtain ⟨q, hq⟩ : ∃ q : Nat, (q : Int) = n8 x := ⟨x.toNat, rfl⟩
          have hx8 := n8_bd x
          have Hq : Hid (bitsOf x = numBits q 8) := Lib.hid (by unfold bitsOf; rw [show x.toNat = q by unfold n8 at hq; omega])
          rw [← hq] at hc hx8
          clear hq
          have hconv : IntKind.i64.wrap (q : Int) = (q : Int) := IntWalk.i64_in _ (by omega)
          have HP := Lib.hid (put_any base p q 8 _ wr HRk.out (by omega) (by omega) (by rw [List.length_append]; omega))
          rw [List.append_assoc, ← Hq.out, ← Htk.out] at HP
          clear HRk hbl
          go_wp2_with fail
          refine (HP.out).mono ?_
          rintro e w6 ⟨rfl, hrow, hkp⟩
          have HR6 := Lib.hid hrow
          have HK6 := Lib.hid (HKk.out.trans hkp)
          clear hrow hkp HP HKk hc
          go_wp2_with fail
          go_roundw
          case rel => exact ⟨k + 1, by omega, by go_num, HR6.out, HK6.out⟩
          case measure => simp [intOf]; omega
        · obtain rfl : nb = k := by omega
          have Hal : Hid (xs.take nb = xs) := Lib.hid (List.take_of_length_le (by rw [Hn.out]; exact Nat.le_refl _))
          rw [Hal.out, ← Hone.out] at HRk
          go_wp2_with fail
          refine bodyPost_ret (results_none rfl _ _ _) rfl ?_
          exact ⟨rfl, HRk.out, HKk.out⟩
    · have hk0' : ((kind : Int) == 0) = false := by rw [beq_eq_false_iff_ne]; omega
      have HTk := Lib.hid (tokens_yes B nb cb xs w2 Hn.out hnc hx (HB.out.at HK2.out.block))
      go_wp2_with fail
      refine (HTk.out).mono ?_
      rintro e w3 ⟨⟨v3, rfl, ho3⟩, hb3⟩
      obtain ⟨A3, c3, rfl, hc3, _, hk3, _⟩ := own_kat ho3
      have HR3 := Lib.hid (HR2.out.below hb3)
      have HK3 := Lib.hid (HK2.out.trans (Keeps.of_below hb3 (Nat.le_trans HR2.out.1 (Nat.le_of_lt HR2.out.lt))))
      have HT3 : Hid (KAt w3 96 A3 ((toks xs).flatMap tokD)) := Lib.hid hk3
      have HTS := Lib.hid (toks_S xs (by rw [Hn.out]; exact hx))
      have htl := toks_len xs
      rw [Hn.out] at htl
      have Hlen := Lib.hid (lens_all (toks xs))
      have Hone1 : Hid (kind = 1 → oneB r xs kind false = r ++ [false] ++ numBits kind 2 ++ bodyB (toks xs) fixedA fixedB) := Lib.hid (fun h => by subst h; unfold oneB; rw [if_neg (by omega), if_pos rfl])
      have Hone2 : Hid (kind = 2 → oneB r xs kind false = r ++ [false] ++ numBits kind 2 ++ headB (lensP (toks xs)).1 (lensP (toks xs)).2 ++ bodyB (toks xs) (lensP (toks xs)).1 (lensP (toks xs)).2) := Lib.hid (fun h => by subst h; unfold oneB; rw [if_neg (by omega), if_neg (by omega)])
      clear HTk ho3 hb3 hk3 HR2 HK2
      generalize r ++ [false] ++ numBits kind 2 = r2 at *
      generalize toks xs = tx at *
      have Hm := Lib.hid (show tx.length = tx.length from rfl)
      generalize hmt : tx.length = mt at *
      have Hmt := Lib.hid hmt
      clear hmt Hm hk0
      go_wp2_with fail
      refine (fixed_any _).mono ?_
      rintro e w4 ⟨A4, c4, B4, d4, rfl, hoA, hoB, hb4⟩
      have HR4 := Lib.hid (HR3.out.below hb4)
      have HK4 := Lib.hid (HK3.out.trans (Keeps.of_below hb4 (Nat.le_trans HR3.out.1 (Nat.le_of_lt HR3.out.lt))))
      have HT4 := Lib.hid (HT3.out.below hb4)
      have HFA : Hid (KAt w4 3 A4 (fixedA.map Code.natV)) := Lib.hid (by obtain ⟨A, c, e, _, _, h, _⟩ := own_kat hoA; injection e with e; subst e; exact h)
      have HFB : Hid (KAt w4 3 B4 (fixedB.map Code.natV)) := Lib.hid (by obtain ⟨A, c, e, _, _, h, _⟩ := own_kat hoB; injection e with e; subst e; exact h)
      clear hoA hoB hb4 HR3 HK3 HT3
      by_cases hk2 : kind = 2
      · have hk2' : ((kind : Int) == 2) = true := by simp; omega
        have Ho := Lib.hid (Hone2.out hk2)
        have HL := Lib.hid (blens_any A3 mt c3 tx w4 Hmt.out (by omega) HT4.out.slat (fun t ht => tokS_fine (HTS.out t ht)))
        clear Hone1 Hone2 HFA HFB hk2
        go_wp2_with fail
        refine (HL.out).mono ?_
        rintro e w5 ⟨⟨v1, v2, rfl, ho1, ho2⟩, hb5⟩
        obtain ⟨l1, l2, l3, l4, l5, l6⟩ := Hlen.out
        obtain ⟨A5, a5, rfl, ha5, _, hk5, _⟩ := own_kat ho1
        obtain ⟨B5, b5, rfl, hb5', _, hk6, _⟩ := own_kat ho2
        obtain ⟨bA, oA, _, rfl, _, _⟩ := hk5 (by rw [List.length_map, l1]; omega)
        obtain ⟨bB, oB, _, rfl, _, _⟩ := hk6 (by rw [List.length_map, l2]; omega)
        have HR5 := Lib.hid (HR4.out.below hb5)
        have HK5 := Lib.hid (HK4.out.trans (Keeps.of_below hb5 (Nat.le_trans HR4.out.1 (Nat.le_of_lt HR4.out.lt))))
        have HT5 := Lib.hid (HT4.out.below hb5)
        have HL5 := Lib.hid hk5
        have HL6 := Lib.hid hk6
        have HH := Lib.hid (head_any base p r2 bA oA a5 bB oB b5 (lensP tx).1 (lensP tx).2 w5 HR5.out HL5.out HL6.out l1 l2 ha5 hb5' l3 l4 (by omega))
        have hhl := headB_len (lensP tx).1 (lensP tx).2 l1 l2 l3 l4
        have L1 := Lib.hid l1
        have L2 := Lib.hid l2
        have L3 := Lib.hid l3
        have L4 := Lib.hid l4
        clear HL ho1 ho2 hb5 hk5 hk6 HR4 HK4 HT4 l1 l2 l3 l4 l5 l6 Hlen
        generalize (lensP tx).1 = LA at *
        generalize (lensP tx).2 = LB at *
        go_wp2_with fail
        refine (HH.out).mono ?_
        rintro e w6 ⟨rfl, hrow, hkp⟩
        have HR6 := Lib.hid hrow
        have HK6 := Lib.hid (HK5.out.trans hkp)
        have HB := Lib.hid (body_any base p _ A3 mt c3 tx (some ⟨bA, oA, none⟩) 286 a5 LA (some ⟨bB, oB, none⟩) 30 b5 LB w6 HR6.out (HT5.out.keeps hkp (by decide)) (HL5.out.keeps hkp (by decide)) (HL6.out.keeps hkp (by decide))
          Hmt.out (by omega) L1.out L2.out (by omega) (by omega) (by omega) (by omega) L3.out L4.out HTS.out (by rw [List.length_append]; omega))
        rw [← Ho.out] at HB
        clear hrow hkp HH
        go_wp2_with fail
        refine (HB.out).mono ?_
        rintro e w7 ⟨rfl, hrow, hkp⟩
        have HR7 := Lib.hid hrow
        have HK7 := Lib.hid (HK6.out.trans hkp)
        clear hrow hkp
        go_wp2_with fail
        go_end0
        exact ⟨rfl, HR7.out, HK7.out⟩
      · have hk2' : ((kind : Int) == 2) = false := by rw [beq_eq_false_iff_ne]; omega
        have Ho := Lib.hid (Hone1.out (by rw [beq_eq_false_iff_ne] at hk0'; omega))
        have HB := Lib.hid (body_any base p r2 A3 mt c3 tx A4 288 c4 fixedA B4 32 d4 fixedB w4 HR4.out HT4.out HFA.out HFB.out
          Hmt.out (by omega) (by simp [fixedA]) (by simp [fixedB]) (by omega) (by omega) (by omega) (by omega) fixA_cd fixB_cd HTS.out (by omega))
        rw [← Ho.out] at HB
        clear Hone1 Hone2 hk2
        go_wp2_with fail
        refine (HB.out).mono ?_
        rintro e w7 ⟨rfl, hrow, hkp⟩
        have HR7 := Lib.hid hrow
        have HK7 := Lib.hid (HK4.out.trans hkp)
        clear hrow hkp
        go_wp2_with fail
        go_end0
        exact ⟨rfl, HR7.out, HK7.out⟩
  · go_enter Tryz.func14, Tryz.ntmps14
    have HP := Lib.hid (put_any base p 1 1 r w HR.out (by omega) (by omega) (by omega))
    rw [show numBits 1 1 = [true] from rfl, show (((1 : Nat) : Int)) = 1 from rfl] at HP
    go_wp2_with fail
    refine (HP.out).mono ?_
    rintro e w1 ⟨rfl, hrow, hkp⟩
    have HR1 := Lib.hid hrow
    have HK1 := Lib.hid hkp
    clear hrow hkp HP HR
    have hl1 : (r ++ [true]).length ≤ 50000001 := by rw [List.length_append, List.length_singleton]; omega
    have HP := Lib.hid (put_any base p kind 2 _ w1 HR1.out (by omega) (by omega) (by omega))
    go_wp2_with fail
    refine (HP.out).mono ?_
    rintro e w2 ⟨rfl, hrow, hkp⟩
    have HR2 := Lib.hid hrow
    have HK2 := Lib.hid (HK1.out.trans hkp)
    clear hrow hkp HP HR1 HK1
    have hl2 : (r ++ [true] ++ numBits kind 2).length ≤ 50000003 := by rw [List.length_append, numBits_length]; omega
    by_cases hk0 : kind = 0
    · have hk0' : ((kind : Int) == 0) = true := by simp; omega
      have Hone : Hid (oneB r xs kind true = pad (r ++ [true] ++ numBits kind 2) ++ numBits nb 16 ++ numBits (65535 - nb) 16 ++ bitsL xs) := Lib.hid (by unfold oneB; rw [if_pos hk0, Hn.out, hk0])
      generalize r ++ [true] ++ numBits kind 2 = r2 at *
      have HP := Lib.hid (fill_any base p r2 w2 HR2.out)
      have hl3 : (pad r2).length ≤ 50000020 := by rw [pad_length]; omega
      clear hl1 hl2 hk0 HR2
      go_wp2_with fail
      refine (HP.out).mono ?_
      rintro e w3 ⟨rfl, hrow, hkp⟩
      have HR3 := Lib.hid hrow
      have HK3 := Lib.hid (HK2.out.trans hkp)
      clear hrow hkp HP HK2
      have HP := Lib.hid (put_any base p nb 16 _ w3 HR3.out (by omega) (by omega) (by omega))
      go_wp2_with fail
      refine (HP.out).mono ?_
      rintro e w4 ⟨rfl, hrow, hkp⟩
      have HR4 := Lib.hid hrow
      have HK4 := Lib.hid (HK3.out.trans hkp)
      clear hrow hkp HP HK3 HR3
      have hl4 : (pad r2 ++ numBits nb 16).length ≤ 50000040 := by rw [List.length_append, numBits_length]; omega
      have hxor := xor16 nb (by omega)
      have HP := Lib.hid (put_any base p (65535 - nb) 16 _ w4 HR4.out (by omega) (by omega) (by omega))
      go_wp2_with fail
      refine (HP.out).mono ?_
      rintro e w5 ⟨rfl, hrow, hkp⟩
      have HR5 := Lib.hid hrow
      have HK5 := Lib.hid (HK4.out.trans hkp)
      clear hrow hkp HP HK4 HR4 hxor
      have hl5 : (pad r2 ++ numBits nb 16 ++ numBits (65535 - nb) 16).length ≤ 50000060 := by rw [List.length_append, numBits_length]; omega
      generalize pad r2 ++ numBits nb 16 ++ numBits (65535 - nb) 16 = r5 at *
      go_wp2_with fail
      go_loopw [37] (fun i wr => ∃ k : Nat, k ≤ nb ∧ i = .int .i64 (k : Int) ∧ RowAt wr base p (r5 ++ bitsL (xs.take k)) ∧ Keeps base rowT w wr) (fun i _ => nb - (intOf i).toNat)
      case atStart => exact ⟨0, Nat.zero_le _, rfl, by rw [List.take_zero]; show RowAt w5 base p (r5 ++ []); rw [List.append_nil]; exact HR5.out, HK5.out⟩
      case round =>
        clear HR5 HK5
        obtain ⟨k, hk, rfl, hrow, hkp⟩ := hrel
        have HRk := Lib.hid hrow
        have HKk := Lib.hid hkp
        clear hrow hkp
        by_cases hlt : k < nb
        · have hkl : k < xs.length := by rw [Hn.out]; exact hlt
          obtain ⟨b, o, rfl, hc⟩ := (HB.out.at HKk.out.block).get hkl
          have Htk : Hid (bitsL (xs.take (k + 1)) = bitsL (xs.take k) ++ bitsOf xs[k]) := Lib.hid (by rw [take_snoc xs k hkl, bitsL_append]; simp [bitsL])
          have hbl : (bitsL (xs.take k)).length ≤ 24000 := by rw [bitsL_length, List.length_take]; omega
          generalize xs[k] = x at *
          obtain ⟨q, hq⟩ : ∃ q : Nat, (q : Int) = n8 x := ⟨x.toNat, rfl⟩
          have hx8 := n8_bd x
          have Hq : Hid (bitsOf x = numBits q 8) := Lib.hid (by unfold bitsOf; rw [show x.toNat = q by unfold n8 at hq; omega])
          rw [← hq] at hc hx8
          clear hq
          have hconv : IntKind.i64.wrap (q : Int) = (q : Int) := IntWalk.i64_in _ (by omega)
          have HP := Lib.hid (put_any base p q 8 _ wr HRk.out (by omega) (by omega) (by rw [List.length_append]; omega))
          rw [List.append_assoc, ← Hq.out, ← Htk.out] at HP
          clear HRk hbl
          go_wp2_with fail
          refine (HP.out).mono ?_
          rintro e w6 ⟨rfl, hrow, hkp⟩
          have HR6 := Lib.hid hrow
          have HK6 := Lib.hid (HKk.out.trans hkp)
          clear hrow hkp HP HKk hc
          go_wp2_with fail
          go_roundw
          case rel => exact ⟨k + 1, by omega, by go_num, HR6.out, HK6.out⟩
          case measure => simp [intOf]; omega
        · obtain rfl : nb = k := by omega
          have Hal : Hid (xs.take nb = xs) := Lib.hid (List.take_of_length_le (by rw [Hn.out]; exact Nat.le_refl _))
          rw [Hal.out, ← Hone.out] at HRk
          go_wp2_with fail
          refine bodyPost_ret (results_none rfl _ _ _) rfl ?_
          exact ⟨rfl, HRk.out, HKk.out⟩
    · have hk0' : ((kind : Int) == 0) = false := by rw [beq_eq_false_iff_ne]; omega
      have HTk := Lib.hid (tokens_yes B nb cb xs w2 Hn.out hnc hx (HB.out.at HK2.out.block))
      go_wp2_with fail
      refine (HTk.out).mono ?_
      rintro e w3 ⟨⟨v3, rfl, ho3⟩, hb3⟩
      obtain ⟨A3, c3, rfl, hc3, _, hk3, _⟩ := own_kat ho3
      have HR3 := Lib.hid (HR2.out.below hb3)
      have HK3 := Lib.hid (HK2.out.trans (Keeps.of_below hb3 (Nat.le_trans HR2.out.1 (Nat.le_of_lt HR2.out.lt))))
      have HT3 : Hid (KAt w3 96 A3 ((toks xs).flatMap tokD)) := Lib.hid hk3
      have HTS := Lib.hid (toks_S xs (by rw [Hn.out]; exact hx))
      have htl := toks_len xs
      rw [Hn.out] at htl
      have Hlen := Lib.hid (lens_all (toks xs))
      have Hone1 : Hid (kind = 1 → oneB r xs kind true = r ++ [true] ++ numBits kind 2 ++ bodyB (toks xs) fixedA fixedB) := Lib.hid (fun h => by subst h; unfold oneB; rw [if_neg (by omega), if_pos rfl])
      have Hone2 : Hid (kind = 2 → oneB r xs kind true = r ++ [true] ++ numBits kind 2 ++ headB (lensP (toks xs)).1 (lensP (toks xs)).2 ++ bodyB (toks xs) (lensP (toks xs)).1 (lensP (toks xs)).2) := Lib.hid (fun h => by subst h; unfold oneB; rw [if_neg (by omega), if_neg (by omega)])
      clear HTk ho3 hb3 hk3 HR2 HK2
      generalize r ++ [true] ++ numBits kind 2 = r2 at *
      generalize toks xs = tx at *
      have Hm := Lib.hid (show tx.length = tx.length from rfl)
      generalize hmt : tx.length = mt at *
      have Hmt := Lib.hid hmt
      clear hmt Hm hk0
      go_wp2_with fail
      refine (fixed_any _).mono ?_
      rintro e w4 ⟨A4, c4, B4, d4, rfl, hoA, hoB, hb4⟩
      have HR4 := Lib.hid (HR3.out.below hb4)
      have HK4 := Lib.hid (HK3.out.trans (Keeps.of_below hb4 (Nat.le_trans HR3.out.1 (Nat.le_of_lt HR3.out.lt))))
      have HT4 := Lib.hid (HT3.out.below hb4)
      have HFA : Hid (KAt w4 3 A4 (fixedA.map Code.natV)) := Lib.hid (by obtain ⟨A, c, e, _, _, h, _⟩ := own_kat hoA; injection e with e; subst e; exact h)
      have HFB : Hid (KAt w4 3 B4 (fixedB.map Code.natV)) := Lib.hid (by obtain ⟨A, c, e, _, _, h, _⟩ := own_kat hoB; injection e with e; subst e; exact h)
      clear hoA hoB hb4 HR3 HK3 HT3
      by_cases hk2 : kind = 2
      · have hk2' : ((kind : Int) == 2) = true := by simp; omega
        have Ho := Lib.hid (Hone2.out hk2)
        have HL := Lib.hid (blens_any A3 mt c3 tx w4 Hmt.out (by omega) HT4.out.slat (fun t ht => tokS_fine (HTS.out t ht)))
        clear Hone1 Hone2 HFA HFB hk2
        go_wp2_with fail
        refine (HL.out).mono ?_
        rintro e w5 ⟨⟨v1, v2, rfl, ho1, ho2⟩, hb5⟩
        obtain ⟨l1, l2, l3, l4, l5, l6⟩ := Hlen.out
        obtain ⟨A5, a5, rfl, ha5, _, hk5, _⟩ := own_kat ho1
        obtain ⟨B5, b5, rfl, hb5', _, hk6, _⟩ := own_kat ho2
        obtain ⟨bA, oA, _, rfl, _, _⟩ := hk5 (by rw [List.length_map, l1]; omega)
        obtain ⟨bB, oB, _, rfl, _, _⟩ := hk6 (by rw [List.length_map, l2]; omega)
        have HR5 := Lib.hid (HR4.out.below hb5)
        have HK5 := Lib.hid (HK4.out.trans (Keeps.of_below hb5 (Nat.le_trans HR4.out.1 (Nat.le_of_lt HR4.out.lt))))
        have HT5 := Lib.hid (HT4.out.below hb5)
        have HL5 := Lib.hid hk5
        have HL6 := Lib.hid hk6
        have HH := Lib.hid (head_any base p r2 bA oA a5 bB oB b5 (lensP tx).1 (lensP tx).2 w5 HR5.out HL5.out HL6.out l1 l2 ha5 hb5' l3 l4 (by omega))
        have hhl := headB_len (lensP tx).1 (lensP tx).2 l1 l2 l3 l4
        have L1 := Lib.hid l1
        have L2 := Lib.hid l2
        have L3 := Lib.hid l3
        have L4 := Lib.hid l4
        clear HL ho1 ho2 hb5 hk5 hk6 HR4 HK4 HT4 l1 l2 l3 l4 l5 l6 Hlen
        generalize (lensP tx).1 = LA at *
        generalize (lensP tx).2 = LB at *
        go_wp2_with fail
        refine (HH.out).mono ?_
        rintro e w6 ⟨rfl, hrow, hkp⟩
        have HR6 := Lib.hid hrow
        have HK6 := Lib.hid (HK5.out.trans hkp)
        have HB := Lib.hid (body_any base p _ A3 mt c3 tx (some ⟨bA, oA, none⟩) 286 a5 LA (some ⟨bB, oB, none⟩) 30 b5 LB w6 HR6.out (HT5.out.keeps hkp (by decide)) (HL5.out.keeps hkp (by decide)) (HL6.out.keeps hkp (by decide))
          Hmt.out (by omega) L1.out L2.out (by omega) (by omega) (by omega) (by omega) L3.out L4.out HTS.out (by rw [List.length_append]; omega))
        rw [← Ho.out] at HB
        clear hrow hkp HH
        go_wp2_with fail
        refine (HB.out).mono ?_
        rintro e w7 ⟨rfl, hrow, hkp⟩
        have HR7 := Lib.hid hrow
        have HK7 := Lib.hid (HK6.out.trans hkp)
        clear hrow hkp
        go_wp2_with fail
        go_end0
        exact ⟨rfl, HR7.out, HK7.out⟩
      · have hk2' : ((kind : Int) == 2) = false := by rw [beq_eq_false_iff_ne]; omega
        have Ho := Lib.hid (Hone1.out (by rw [beq_eq_false_iff_ne] at hk0'; omega))
        have HB := Lib.hid (body_any base p r2 A3 mt c3 tx A4 288 c4 fixedA B4 32 d4 fixedB w4 HR4.out HT4.out HFA.out HFB.out
          Hmt.out (by omega) (by simp [fixedA]) (by simp [fixedB]) (by omega) (by omega) (by omega) (by omega) fixA_cd fixB_cd HTS.out (by omega))
        rw [← Ho.out] at HB
        clear Hone1 Hone2 hk2
        go_wp2_with fail
        refine (HB.out).mono ?_
        rintro e w7 ⟨rfl, hrow, hkp⟩
        have HR7 := Lib.hid hrow
        have HK7 := Lib.hid (HK4.out.trans hkp)
        clear hrow hkp
        go_wp2_with fail
        go_end0
        exact ⟨rfl, HR7.out, HK7.out⟩
end Go.Proofs.YthpdcnjaodjjmaaGreat.Blk

/- package block: Pack: the walk. -/
namespace Go.Proofs.YthpdcnjaodjjmaaGreat.Blk
open Go Go.RowKit Go.Proofs.YthpdcnjaodjjmaaGreat Go.Proofs.YthpdcnjaodjjmaaGreat.Bits Go.Proofs.YthpdcnjaodjjmaaGreat.Code Go.Proofs.YthpdcnjaodjjmaaGreat.Inf Go.Proofs.YthpdcnjaodjjmaaGreat.SP Go.Proofs.YthpdcnjaodjjmaaGreat.Rt
set_option linter.unusedVariables false

theorem slat_low {w w' : World} {A : Option Addr} {cs : List Value} {base : Nat} (h : SlAt w A cs) (hb : w.heap.size = base) (hw : ∀ k, k < base → w'.heap[k]? = w.heap[k]?) : SlAt w' A cs := fun hp => by
  obtain ⟨b, o, e, hc⟩ := h hp
  refine ⟨b, o, e, fun j v hj => ?_⟩
  have h1 := hc j v hj
  have hlt := block_lt_of_cell h1
  have h2 := hw b (by rw [← hb]; exact hlt)
  rw [← h1]
  simp only [World.cell?, h2]
theorem packE_zero (parts : List (List UInt8)) (ks : List Int) : ∀ f i n : Nat, packE parts ks f i n = 0 → (∀ j, i ≤ j → j < i + f → 0 ≤ ks.getD j 0 ∧ ks.getD j 0 ≤ 2 ∧ j < 40) ∧ (f ≠ 0 → n ≤ 3000) ∧ n + ((parts.drop i).take f).flatten.length ≤ max n 3000
  | 0, i, n, _ => ⟨fun j h1 h2 => by omega, fun h => absurd rfl h, by simp; omega⟩
  | f + 1, i, n, h => by
    unfold packE at h
    by_cases h1 : 3000 < n + (parts.getD i []).length ∨ 40 ≤ i
    · rw [if_pos h1] at h; simp at h
    · rw [if_neg h1] at h
      by_cases h2 : ks.getD i 0 < 0 ∨ 2 < ks.getD i 0
      · rw [if_pos h2] at h; simp at h
      · rw [if_neg h2] at h
        obtain ⟨a1, a2, a3⟩ := packE_zero parts ks f (i + 1) (n + (parts.getD i []).length) h
        refine ⟨fun j h3 h4 => ?_, fun _ => by omega, ?_⟩
        · by_cases hj : j = i
          · subst hj; omega
          · exact a1 j (by omega) (by omega)
        · rcases Nat.lt_or_ge i parts.length with hi | hi
          · rw [List.drop_eq_getElem_cons hi, List.take_succ_cons, List.flatten_cons, List.length_append]
            rw [List.getD_eq_getElem?_getD, List.getElem?_eq_getElem hi] at a3 h1
            simp only [Option.getD_some] at a3 h1
            omega
          · rw [List.drop_of_length_le hi]; simp; omega
theorem packE_all (parts : List (List UInt8)) (ks : List Int) (h : packE parts ks parts.length 0 0 = 0) (hl : ks.length = parts.length) : (∀ k ∈ ks, 0 ≤ k ∧ k ≤ 2) ∧ parts.length ≤ 40 ∧ parts.flatten.length ≤ 3000 := by
  obtain ⟨a1, a2, a3⟩ := packE_zero parts ks parts.length 0 0 h
  rw [List.drop_zero, List.take_length] at a3
  refine ⟨fun k hk => ?_, ?_, by omega⟩
  · obtain ⟨i, hi, rfl⟩ := List.mem_iff_getElem.1 hk
    have := a1 i (by omega) (by omega)
    rw [List.getD_eq_getElem?_getD, List.getElem?_eq_getElem hi] at this
    exact ⟨this.1, this.2.1⟩
  · rcases Nat.eq_zero_or_pos parts.length with h0 | h0
    · omega
    · have := (a1 (parts.length - 1) (by omega) (by omega)).2.2
      omega
theorem part_len (parts : List (List UInt8)) (i : Nat) : (parts.getD i []).length ≤ parts.flatten.length := by
  rcases Nat.lt_or_ge i parts.length with hi | hi
  · have := flat_take parts i hi
    have h2 := flat_len parts (i + 1)
    rw [this, List.length_append] at h2
    omega
  · rw [List.getD_eq_getElem?_getD, List.getElem?_eq_none hi]; simp
theorem packK_len (parts : List (List UInt8)) (kinds : List Nat) (h : parts.flatten.length ≤ 3000) : ∀ i, (packK parts kinds i).length ≤ 200000 * i
  | 0 => by show 0 ≤ _; omega
  | i + 1 => by
    have h1 := packK_len parts kinds h i
    have h2 := oneB_len (packK parts kinds i) (parts.getD i []) (kinds.getD i 0) (decide (i + 1 = parts.length)) (by have := part_len parts i; omega)
    show (oneB _ _ _ _).length ≤ _
    omega
/-- what is wrong with parts and kinds -/
def packErr (parts : List (List UInt8)) (ks : List Int) : Int := if parts.length = 0 ∨ parts.length ≠ ks.length then 4 else packE parts ks parts.length 0 0
def PackPost (parts : List (List UInt8)) (ks : List Int) (w : World) (e : Ending) (w' : World) : Prop :=
  (packErr parts ks ≠ 0 ∧ e = .returned (.tuple #[.slice none 0 0, .int .i64 (packErr parts ks)]) ∨
   packErr parts ks = 0 ∧ ∃ v, e = .returned (.tuple #[v, .int .i64 0]) ∧ w'.ownsRow w.heap.size 5 1 v (packB parts (lsOf ks)).length ((packB parts (lsOf ks)).map u8v)) ∧ Below w.heap.size w w'
set_option maxRecDepth 100000 in
set_option maxHeartbeats 4000000 in
theorem bpack_any (PA KA : Option Addr) (n cn m cm : Nat) (ps : List (Value × List UInt8)) (ks : List Int) (w : World) (hn : ps.length = n) (hm : ks.length = m) (hnx : n ≤ maxLen) (hmx : m ≤ maxLen) (hP : SlAt w PA (ps.map (·.1))) (hd : ∀ q ∈ ps, IsBytes w q.1 q.2) (hq : ∀ q ∈ ps, q.2.length ≤ 140737488351232) (hK : InAt w KA ks) :
    Calls Tryz.prog 5 #[.slice PA n cn, .slice KA m cm] w (PackPost (ps.map (·.2)) ks w) := by
  have HN := Lib.hid hn
  have HM := Lib.hid hm
  have HP := Lib.hid hP
  have HD := Lib.hid hd
  have HQ := Lib.hid hq
  have HK := Lib.hid hK
  have lp : (ps.map (·.2)).length = n := by rw [List.length_map, hn]
  have Hp : Hid (∀ k (h : k < ps.length), (ps.map (·.2)).getD k [] = ps[k].2) := Lib.hid (fun k h => by rw [List.getD_eq_getElem?_getD, List.getElem?_map, List.getElem?_eq_getElem h]; rfl)
  unfold maxLen at hnx hmx
  generalize ps.map (·.2) = parts at *
  have LP := Lib.hid lp
  clear hn hm hP hd hq hK lp
  go_enter Tryz.func5, Tryz.ntmps5
  by_cases h0 : n = 0
  · have hz : ((n : Int) == 0) = true := by simp; omega
    have He : Hid (packErr parts ks = 4) := Lib.hid (by unfold packErr; rw [if_pos (by rw [LP.out]; exact .inl h0)])
    clear h0
    go_wp2_with fail
    go_ret2
    exact ⟨.inl ⟨by rw [He.out]; decide, by rw [He.out]; rfl⟩, Below.refl _ _⟩
  · have hz : ((n : Int) == 0) = false := by rw [beq_eq_false_iff_ne]; omega
    by_cases hnm : n = m
    · subst hnm
      have He : Hid (packErr parts ks = packE parts ks n 0 0) := Lib.hid (by unfold packErr; rw [if_neg (by rw [LP.out, HM.out]; omega), LP.out])
      have hne : ((n : Int) == (n : Int)) = true := by simp
      clear h0
      go_wp2_with fail
      go_loop [6, 24] (fun vs i => ∃ k s : Nat, k ≤ n ∧ i = .int .i64 (k : Int) ∧ vs = .int .i64 (s : Int) ∧ s ≤ 3000 ∧ packE parts ks n 0 0 = packE parts ks (n - k) k s) (fun _ i => n - (intOf i).toNat)
      case atStart => exact ⟨0, 0, Nat.zero_le _, rfl, rfl, by omega, rfl⟩
      case round =>
        obtain ⟨k, s, hk, rfl, rfl, hs, hpk⟩ := hrel
        have Hpk := Lib.hid hpk
        clear hpk
        by_cases hlt : k < n
        · have hkl : k < ps.length := by rw [HN.out]; exact hlt
          obtain ⟨bP, oP, rfl, hcP⟩ := HP.out.get (k := k) (by rw [List.length_map]; exact hkl)
          rw [List.getElem_map] at hcP
          obtain ⟨A, c, hv, hlc, hcm, hby⟩ := HD.out _ (List.getElem_mem hkl)
          rw [hv] at hcP
          have Hp2 := Lib.hid (Hp.out k hkl)
          have hlq := HQ.out _ (List.getElem_mem hkl)
          generalize hxs : ps[k].2 = xs at *
          clear hv hxs hby
          unfold maxLen at hcm
          generalize hlx : xs.length = lx at *
          have Hlx := Lib.hid hlx
          have hkm : k < ks.length := by rw [HM.out]; exact hlt
          obtain ⟨bK, oK, rfl, hcK⟩ := HK.out.get hkm
          have Hks : Hid (ks.getD k 0 = ks[k]) := Lib.hid (by rw [List.getD_eq_getElem?_getD, List.getElem?_eq_getElem hkm]; rfl)
          generalize ks[k] = z at *
          obtain ⟨f, hf⟩ : ∃ f, n - k = f + 1 := ⟨n - k - 1, by omega⟩
          have Hst : Hid (packE parts ks n 0 0 = if 3000 < s + lx ∨ 40 ≤ k then 2 else if z < 0 ∨ 2 < z then 3 else packE parts ks (n - (k + 1)) (k + 1) (s + lx)) := Lib.hid (by
            rw [Hpk.out, hf]
            conv => lhs; unfold packE
            rw [Hp2.out, Hlx.out, Hks.out, show n - (k + 1) = f by omega])
          have hsum : IntKind.i64.wrap ((s : Int) + (lx : Int)) = ((s + lx : Nat) : Int) := by rw [show ((s : Int) + (lx : Int)) = ((s + lx : Nat) : Int) by omega]; exact IntWalk.i64_in _ (by omega)
          obtain ⟨t, ht⟩ : ∃ t, t = s + lx := ⟨_, rfl⟩
          rw [← ht] at hsum Hst
          clear hlx hf ht
          by_cases h3 : 3000 < t
          · have h3' : (3000 : Int) < (t : Int) := by omega
            have Hr : Hid (packErr parts ks = 2) := Lib.hid (by rw [He.out, Hst.out, if_pos (.inl h3)])
            clear h3
            go_wp2_with fail
            go_ret2
            exact ⟨.inl ⟨by rw [Hr.out]; decide, by rw [Hr.out]; rfl⟩, Below.refl _ _⟩
          · have h3' : ¬ (3000 : Int) < (t : Int) := by omega
            by_cases h4 : 40 ≤ k
            · have h4' : (40 : Int) ≤ (k : Int) := by omega
              have Hr : Hid (packErr parts ks = 2) := Lib.hid (by rw [He.out, Hst.out, if_pos (.inr h4)])
              clear h3 h4
              go_wp2_with fail
              go_ret2
              exact ⟨.inl ⟨by rw [Hr.out]; decide, by rw [Hr.out]; rfl⟩, Below.refl _ _⟩
            · have h4' : ¬ (40 : Int) ≤ (k : Int) := by omega
              by_cases h5 : z < 0
              · have Hr : Hid (packErr parts ks = 3) := Lib.hid (by rw [He.out, Hst.out, if_neg (by omega), if_pos (.inl h5)])
                clear h3 h4
                go_wp2_with fail
                go_ret2
                exact ⟨.inl ⟨by rw [Hr.out]; decide, by rw [Hr.out]; rfl⟩, Below.refl _ _⟩
              · by_cases h6 : 2 < z
                · have Hr : Hid (packErr parts ks = 3) := Lib.hid (by rw [He.out, Hst.out, if_neg (by omega), if_pos (.inr h6)])
                  clear h3 h4
                  go_wp2_with fail
                  go_ret2
                  exact ⟨.inl ⟨by rw [Hr.out]; decide, by rw [Hr.out]; rfl⟩, Below.refl _ _⟩
                · have Hr : Hid (packE parts ks n 0 0 = packE parts ks (n - (k + 1)) (k + 1) t) := Lib.hid (by rw [Hst.out, if_neg (by omega), if_neg (by omega)])
                  clear h4
                  go_wp2_with fail
                  go_round
                  case rel => exact ⟨k + 1, t, by omega, by go_num, rfl, by omega, Hr.out⟩
                  case measure => simp [intOf]; omega
        · obtain rfl : n = k := by omega
          have Hz : Hid (packE parts ks n 0 0 = 0) := Lib.hid (by rw [Hpk.out, Nat.sub_self]; rfl)
          have He0 : Hid (packErr parts ks = 0) := Lib.hid (by rw [He.out, Hz.out])
          obtain ⟨q1, q2, q3⟩ := packE_all parts ks (by rw [LP.out]; exact Hz.out) (by rw [HM.out, LP.out])
          have Q1 := Lib.hid q1
          have Q3 := Lib.hid q3
          rw [LP.out] at q2
          have HRow0 := Lib.hid (RowAt.new w (base := w.heap.size) (Nat.le_refl _))
          have Hb0 := Lib.hid ((Below.refl w.heap.size w).alloc (Nat.le_refl _) (.cells #[.slice none 0 0, .int .i64 0] 42))
          clear q1 q3 Hpk
          go_wp2_with fail
          have HPb := Lib.hid (HP.out.below Hb0.out)
          have HKb := Lib.hid (HK.out.below Hb0.out)
          have HLw : Hid (∀ q ∈ ps, ∃ A cap, q.1 = .slice A q.2.length cap ∧ q.2.length ≤ cap ∧ LowBy (w.alloc (.cells #[.slice none 0 0, .int .i64 0] 42)) w.heap.size A q.2) := Lib.hid (fun q hq => by
            obtain ⟨A, c, h1, h2, h3, h4⟩ := HD.out q hq
            exact ⟨A, c, h1, h2, (LowBy.of h4 (Nat.le_refl _)).trans (fun k hk => Hb0.out.block k hk)⟩)
          obtain ⟨n1, hn1⟩ : ∃ n1, n = n1 + 1 := ⟨n - 1, by rw [beq_eq_false_iff_ne] at hz; omega⟩
          have hs1 : IntKind.i64.wrap ((n : Int) - 1) = (n1 : Int) := by rw [show (n : Int) - 1 = (n1 : Int) by omega]; exact IntWalk.i64_in _ (by omega)
          have Hn1 := Lib.hid hn1
          clear hn1 hlt hs hk
          generalize hw3 : w.alloc (.cells #[.slice none 0 0, .int .i64 0] 42) = w3 at *
          generalize hp0 : w.heap.size = p0 at *
          have Hp0 := Lib.hid hp0
          clear hw3 hp0
          go_loopw [54] (fun i wr => ∃ k : Nat, k ≤ n ∧ i = .int .i64 (k : Int) ∧ RowAt wr p0 p0 (packK parts (lsOf ks) k) ∧ Keeps p0 rowT w3 wr) (fun i _ => n - (intOf i).toNat)
          case atStart => exact ⟨0, Nat.zero_le _, rfl, HRow0.out, Keeps.refl _ _ _⟩
          case round =>
            clear HRow0
            obtain ⟨k, hk, rfl, hrow, hkp⟩ := hrel
            have HRow := Lib.hid hrow
            have HKp := Lib.hid hkp
            have hrl := packK_len parts (lsOf ks) Q3.out k
            clear hrow hkp
            by_cases hlt : k < n
            · have hkl : k < ps.length := by rw [HN.out]; exact hlt
              have Hag : Hid (∀ j, j < p0 → wr.heap[j]? = w.heap[j]?) := Lib.hid (fun j hj => (HKp.out.block j hj).trans (Hb0.out.block j hj))
              obtain ⟨bP, oP, rfl, hcP⟩ := (slat_low HP.out Hp0.out Hag.out).get (k := k) (by rw [List.length_map]; exact hkl)
              rw [List.getElem_map] at hcP
              obtain ⟨A, c, hv, hlc, hlow⟩ := HLw.out _ (List.getElem_mem hkl)
              rw [hv] at hcP
              have Hp2 := Lib.hid (Hp.out k hkl)
              have hx3 : ps[k].2.length ≤ 3000 := by rw [← Hp2.out]; exact Nat.le_trans (part_len parts k) Q3.out
              generalize hxs : ps[k].2 = xs at *
              have Hlow := Lib.hid hlow
              have hkm : k < ks.length := by rw [HM.out]; exact hlt
              obtain ⟨bK, oK, rfl, hcK⟩ := InAt.get (slat_low HK.out Hp0.out Hag.out) hkm
              have hz2 := Q1.out _ (List.getElem_mem hkm)
              have hgk : (lsOf ks).getD k 0 = ks[k].toNat := getD_of ks k hkm
              generalize ks[k] = z at *
              obtain ⟨zk, rfl⟩ := Int.eq_ofNat_of_zero_le hz2.1
              rw [Int.toNat_natCast] at hgk
              obtain ⟨lb, hlb⟩ : ∃ b : Bool, b = ((k : Int) == (n1 : Int)) := ⟨_, rfl⟩
              have Hst : Hid (packK parts (lsOf ks) (k + 1) = oneB (packK parts (lsOf ks) k) xs zk lb) := Lib.hid (by
                show oneB _ _ _ _ = _
                rw [Hp2.out, hgk]
                congr 1
                rw [hlb, LP.out, Hn1.out, Bool.eq_iff_iff]
                simp
                omega)
              have HO := Lib.hid (one_any p0 p0 (packK parts (lsOf ks) k) A xs.length c xs zk lb wr HRow.out (Hlow.out.trans HKp.out.block) rfl hlc hx3 (by omega) (by omega))
              rw [← Hst.out] at HO
              rw [hlb] at HO
              have hlx := hx3
              generalize xs.length = lx at *
              clear hv hlow hxs hgk hlb hrl HRow hlc hx3 hz2
              go_wp2_with fail
              refine (HO.out).mono ?_
              rintro e w5 ⟨rfl, hrow, hkp⟩
              have HR5 := Lib.hid hrow
              have HK5 := Lib.hid (HKp.out.trans hkp)
              clear hrow hkp HO HKp
              go_wp2_with fail
              go_roundw
              case rel => exact ⟨k + 1, by omega, by go_num, HR5.out, HK5.out⟩
              case measure => simp [intOf]; omega
            · obtain rfl : n = k := by omega
              have Hbk : Hid (Below p0 w wr) := Lib.hid (Hb0.out.trans HKp.out.below)
              have HPk : Hid (packB parts (lsOf ks) = pack (packK parts (lsOf ks) n)) := Lib.hid (by unfold packB; rw [LP.out])
              obtain ⟨hpp, v, hv1, hv2⟩ := HRow.out
              have hby := Lib.hid (bytes_any p0 v _ wr hv1)
              have Hv2 := Lib.hid hv2
              clear hv1 hv2 hrl
              go_wp2_with fail
              refine (hby.out).mono ?_
              rintro e w5 ⟨rfl, rfl⟩
              go_wp2_with fail
              go_ret2
              exact ⟨.inr ⟨He0.out, v, rfl, by rw [HPk.out, Hp0.out]; exact Hv2.out⟩, by rw [Hp0.out]; exact Hbk.out⟩
    · have hne : ((n : Int) == (m : Int)) = false := by rw [beq_eq_false_iff_ne]; omega
      have He : Hid (packErr parts ks = 4) := Lib.hid (by unfold packErr; rw [if_pos (by rw [LP.out, HM.out]; exact .inr hnm)])
      clear h0 hnm
      go_wp2_with fail
      go_ret2
      exact ⟨.inl ⟨by rw [He.out]; decide, by rw [He.out]; rfl⟩, Below.refl _ _⟩
end Go.Proofs.YthpdcnjaodjjmaaGreat.Blk

/- bytes.Equal, and []byte to string. -/
namespace Go.Proofs.YthpdcnjaodjjmaaGreat
open Go Go.RowKit
set_option linter.unusedVariables false

def strB (xs : List UInt8) : ByteArray := ⟨xs.toArray⟩
theorem strB_inj (xs ys : List UInt8) : ((strB xs).toList == (strB ys).toList) = decide (xs = ys) := by
  rw [ByteArray.toList_eq, ByteArray.toList_eq, Bool.eq_iff_iff]; simp [strB]
theorem strB_nums (xs : List UInt8) : strOfNums (xs.map n8) = strB xs := by
  unfold strOfNums strB
  rw [List.map_map]
  have : ((fun n => UInt8.ofNat n.toNat) ∘ n8) = id := by
    funext x; simp [n8]
  rw [this, List.map_id]
theorem conv_bytes (A : Option Addr) (n c : Nat) (xs : List UInt8) (w : World) (hn : xs.length = n) (h : ByAt w A xs) :
    (convert 24 9 (.slice A n c)).run Tryz.prog w = .ok (.string (strB xs)) w := by
  rw [← strB_nums]
  cases n with
  | zero =>
    have : xs = [] := List.eq_nil_of_length_eq_zero hn
    subst this
    exact run_convert_bytes_zero w _ _ Tryz.underlying24 Tryz.underlying5 A c _ Tryz.underlying9
  | succ n =>
    obtain ⟨b, o, rfl, _⟩ := SlAt.get h (k := 0) (by simp; omega)
    refine run_convert_bytes_arg w _ _ Tryz.underlying24 Tryz.underlying5 b o _ c _ (by simpa using hn) (fun i hi => ?_) _ Tryz.underlying9
    obtain ⟨b', o', hb, hc⟩ := SlAt.get h (k := i) (by simp; omega)
    injection hb with hb; injection hb with h1 h2 h3
    subst h1 h2
    rw [hc]
    have : i < xs.length := by omega
    simp [List.getD, u8v, this]

set_option maxHeartbeats 400000 in
theorem equal_bytes (A B : Option Addr) (n m ca cb : Nat) (xs ys : List UInt8) (w : World) (hn : xs.length = n) (hm : ys.length = m) (ha : ByAt w A xs) (hb : ByAt w B ys) :
    Calls Tryz.prog 8 #[.slice A n ca, .slice B m cb] w fun e w' => e = .returned (.bool (decide (xs = ys))) ∧ w' = w := by
  have k1 := conv_bytes A n ca xs w hn ha
  have k2 := conv_bytes B m cb ys w hm hb
  have K := Lib.hid (strB_inj xs ys)
  clear hn hm ha hb
  go_enter Tryz.func8, Tryz.ntmps8
  go_wp2_with fail
  go_ret
  exact ⟨ret_bool K.out, rfl⟩
end Go.Proofs.YthpdcnjaodjjmaaGreat

/- package block: Best: the walk; packed, a closed fact. -/
namespace Go.Proofs.YthpdcnjaodjjmaaGreat.Blk
open Go Go.RowKit Go.Proofs.YthpdcnjaodjjmaaGreat Go.Proofs.YthpdcnjaodjjmaaGreat.Bits Go.Proofs.YthpdcnjaodjjmaaGreat.Inf Go.Proofs.YthpdcnjaodjjmaaGreat.SP Go.Proofs.YthpdcnjaodjjmaaGreat.Rt
open Go.Proofs.YthpdcnjaodjjmaaGreat.Code (lsOf natV nats)
set_option linter.unusedVariables false

theorem packErr_one (xs : List UInt8) (k : Nat) (hx : xs.length ≤ 3000) (hk : k ≤ 2) : packErr [xs] [(k : Int)] = 0 := by
  unfold packErr
  rw [if_neg (by simp)]
  show packE [xs] [(k : Int)] 1 0 0 = 0
  unfold packE
  rw [if_neg (by simp; omega), if_neg (by simp; omega)]
  rfl
theorem lsOf_one (k : Nat) : lsOf [(k : Int)] = [k] := by simp [lsOf]
/-- Pack of one part -/
theorem pack1_any (A : Option Addr) (n c k : Nat) (xs : List UInt8) (w : World) (hn : xs.length = n) (hnc : n ≤ c) (hcm : c ≤ maxLen) (hx : n ≤ 3000) (hk : k ≤ 2) (hA : ByAt w A xs) :
    Calls Tryz.prog 5 #[.slice (some ⟨w.heap.size, 0, none⟩) 1 1, .slice (some ⟨w.heap.size + 1, 0, none⟩) 1 1] ((w.alloc (.cells #[.slice A n c] 24)).alloc (.cells #[.int .i64 (k : Int)] 3)) fun e w' =>
      (∃ v, e = .returned (.tuple #[v, .int .i64 0]) ∧ w'.ownsRow w.heap.size 5 1 v (packB [xs] [k]).length ((packB [xs] [k]).map u8v)) ∧ Below w.heap.size w w' := by
  have hb : Below w.heap.size w ((w.alloc (.cells #[.slice A n c] 24)).alloc (.cells #[.int .i64 (k : Int)] 3)) := ((Below.refl _ _).alloc (Nat.le_refl _) _).alloc (by simp) _
  have h1 : Blk ((w.alloc (.cells #[.slice A n c] 24)).alloc (.cells #[.int .i64 (k : Int)] 3)) w.heap.size 24 #[.slice A n c] := (Blk.new w _ _).alloc _
  have h2 : Blk ((w.alloc (.cells #[.slice A n c] 24)).alloc (.cells #[.int .i64 (k : Int)] 3)) (w.heap.size + 1) 3 #[.int .i64 (k : Int)] := by
    have := Blk.new (w.alloc (.cells #[.slice A n c] 24)) 3 #[.int .i64 (k : Int)]
    rw [World.size_alloc] at this; exact this
  have he := packErr_one xs k (by omega) hk
  refine (bpack_any (some ⟨w.heap.size, 0, none⟩) (some ⟨w.heap.size + 1, 0, none⟩) 1 1 1 1 [(.slice A n c, xs)] [(k : Int)] _ rfl rfl (by unfold maxLen; omega) (by unfold maxLen; omega) h1.kat.slat ?_ ?_ ?_).mono ?_
  · intro q hq
    rw [List.mem_singleton] at hq
    subst hq
    exact ⟨A, c, by rw [hn], by rw [hn]; exact hnc, hcm, hA.below hb⟩
  · intro q hq
    rw [List.mem_singleton] at hq
    subst hq
    dsimp only
    omega
  · exact h2.kat.slat
  · rintro e w' ⟨h, hb'⟩
    have hb2 : Below w.heap.size w w' := hb.trans (hb'.mono hb.size)
    refine ⟨?_, hb2⟩
    rcases h with ⟨h3, _⟩ | ⟨_, v, rfl, ho⟩
    · exact absurd he h3
    · rw [lsOf_one] at ho
      exact ⟨v, rfl, own_base ho (by simp; omega)⟩
/-- the best of the first k kinds -/
def bestK (xs : List UInt8) : Nat → List UInt8 × Nat
  | 0 => ([], 0)
  | k + 1 => if k = 0 ∨ (packB [xs] [k]).length < (bestK xs k).1.length then (packB [xs] [k], k) else bestK xs k
theorem bestK_yes (xs : List UInt8) (k : Nat) (h : k = 0 ∨ (packB [xs] [k]).length < (bestK xs k).1.length) : bestK xs (k + 1) = (packB [xs] [k], k) := by
  conv => lhs; unfold bestK
  rw [if_pos h]
theorem bestK_no (xs : List UInt8) (k : Nat) (h : ¬ (k = 0 ∨ (packB [xs] [k]).length < (bestK xs k).1.length)) : bestK xs (k + 1) = bestK xs k := by
  conv => lhs; unfold bestK
  rw [if_neg h]
def BestPost (n : Nat) (xs : List UInt8) (w : World) (e : Ending) (w' : World) : Prop :=
  (3000 < n ∧ e = .returned (.tuple #[.slice none 0 0, .int .i64 0, .int .i64 2]) ∨
   n ≤ 3000 ∧ ∃ v, e = .returned (.tuple #[v, .int .i64 ((bestK xs 3).2 : Int), .int .i64 0]) ∧ w'.ownsRow w.heap.size 5 1 v (bestK xs 3).1.length ((bestK xs 3).1.map u8v)) ∧ Below w.heap.size w w'
set_option maxRecDepth 100000 in
set_option maxHeartbeats 1600000 in
theorem best_any (A : Option Addr) (n c : Nat) (xs : List UInt8) (w : World) (hn : xs.length = n) (hnc : n ≤ c) (hcm : c ≤ maxLen) (hA : ByAt w A xs) :
    Calls Tryz.prog 16 #[.slice A n c] w (BestPost n xs w) := by
  have Hn := Lib.hid hn
  have HA := Lib.hid hA
  have Hcm := Lib.hid hcm
  unfold maxLen at hcm
  clear hn hA
  go_enter Tryz.func16, Tryz.ntmps16
  by_cases h3 : 3000 < n
  · have h3' : (3000 : Int) < (n : Int) := by omega
    go_wp2_with fail
    go_ret3
    exact ⟨.inl ⟨h3, rfl⟩, Below.refl _ _⟩
  · have h3' : ¬ (3000 : Int) < (n : Int) := by omega
    have hle : n ≤ 3000 := by omega
    clear h3
    go_wp2_with fail
    go_loopw [2, 3, 5] (fun vo vb vk wr => ∃ k : Nat, k ≤ 3 ∧ vk = .int .i64 (k : Int) ∧ vb = .int .i64 ((bestK xs k).2 : Int) ∧ wr.ownsRow w.heap.size 5 1 vo (bestK xs k).1.length ((bestK xs k).1.map u8v) ∧ Below w.heap.size w wr) (fun _ _ vk _ => 3 - (intOf vk).toNat)
    case atStart => exact ⟨0, by omega, rfl, rfl, World.ownsRow_nil .., Below.refl _ _⟩
    case round =>
      obtain ⟨k, hk, rfl, rfl, ho, hb⟩ := hrel
      have HO := Lib.hid ho
      have Hb := Lib.hid hb
      clear ho hb
      by_cases hlt : k < 3
      · have hk2 : (k : Int) ≤ 2 := by omega
        have HP := Lib.hid (pack1_any A n c k xs wr Hn.out hnc Hcm.out hle (by omega) (HA.out.below Hb.out))
        have Hy := Lib.hid (bestK_yes xs k)
        have Hno := Lib.hid (bestK_no xs k)
        go_wp2_with fail
        refine (HP.out).mono ?_
        rintro e w2 ⟨⟨v2, rfl, ho2⟩, hb2⟩
        have HO2 := Lib.hid (own_keep HO.out hb2)
        have Hb2 := Lib.hid (Hb.out.trans (hb2.mono Hb.out.size))
        have HN2 := Lib.hid (own_base ho2 Hb.out.size)
        obtain ⟨A2, c2, rfl, _⟩ := own_slat ho2
        obtain ⟨A1, c1, rfl, _⟩ := own_slat HO.out
        clear ho2 hb2 HP HO Hb
        generalize packB [xs] [k] = p at *
        generalize bestK xs k = s at *
        obtain ⟨s1, s2⟩ := s
        dsimp only at HO2 Hy Hno
        by_cases hc : k = 0 ∨ p.length < s1.length
        · have He := Lib.hid (Hy.out hc)
          by_cases hk0 : k = 0
          · have hz : ((k : Int) == 0) = true := by simp; omega
            clear hc hk0 Hy Hno
            go_wp2_with fail
            go_roundw
            case rel => exact ⟨k + 1, by omega, by go_num, by rw [He.out], by rw [He.out]; exact HN2.out, Hb2.out⟩
            case measure => simp [intOf]; omega
          · have hz : ((k : Int) == 0) = false := by rw [beq_eq_false_iff_ne]; omega
            have hl : (p.length : Int) < (s1.length : Int) := by omega
            clear hc hk0 Hy Hno
            go_wp2_with fail
            go_roundw
            case rel => exact ⟨k + 1, by omega, by go_num, by rw [He.out], by rw [He.out]; exact HN2.out, Hb2.out⟩
            case measure => simp [intOf]; omega
        · have He := Lib.hid (Hno.out hc)
          have hz : ((k : Int) == 0) = false := by rw [beq_eq_false_iff_ne]; omega
          have hl : ¬ (p.length : Int) < (s1.length : Int) := by omega
          clear hc Hy Hno
          go_wp2_with fail
          go_roundw
          case rel => exact ⟨k + 1, by omega, by go_num, by rw [He.out], by rw [He.out]; exact HO2.out, Hb2.out⟩
          case measure => simp [intOf]; omega
      · obtain rfl : k = 3 := by omega
        have hk2 : ¬ ((3 : Nat) : Int) ≤ 2 := by omega
        go_wp2_with fail
        go_ret3
        exact ⟨.inr ⟨hle, _, rfl, HO.out⟩, Hb.out⟩
theorem fact_aa : packB [[97, 97]] [0] = [1, 2, 0, 253, 255, 97, 97] := by decide +kernel
theorem fact_p0 : packB [[]] [0] = [1, 0, 0, 255, 255] := by decide +kernel
theorem fact_p1 : packB [[]] [1] = [3, 0] := by decide +kernel
theorem fact_p2 : ¬ (packB [[]] [2]).length < 2 := by
  have h1 : packB [[]] [2] = pack (packK [[]] [2] 1) := rfl
  have h2 : packK [[]] [2] 1 = packK [[]] [2] 0 ++ oneS (packK [[]] [2] 0).length [] 2 true := packK_succ _ _ _
  have h3 : 17 ≤ (oneS (packK [[]] [2] 0).length [] 2 true).length := by
    unfold oneS
    rw [if_neg (by omega), if_neg (by omega), headB_eq]
    simp only [List.length_append, numBits_length, List.length_singleton]
    omega
  rw [h1, pack_length, h2, List.length_append]
  omega
theorem fact_best : bestK [] 3 = ([3, 0], 1) := by
  have e1 : bestK [] 1 = ([1, 0, 0, 255, 255], 0) := by rw [bestK_yes [] 0 (.inl rfl), fact_p0]
  have e2 : bestK [] 2 = ([3, 0], 1) := by rw [bestK_yes [] 1 (.inr (by rw [fact_p1, e1]; decide)), fact_p1]
  rw [bestK_no [] 2 (by rw [e2]; intro h; rcases h with h | h; omega; exact fact_p2 h), e2]
end Go.Proofs.YthpdcnjaodjjmaaGreat.Blk

/- reliquarylaw.packed: a closed fact. -/
namespace Go.Proofs.YthpdcnjaodjjmaaGreat.Blk
open Go Go.RowKit Go.Proofs.YthpdcnjaodjjmaaGreat Go.Proofs.YthpdcnjaodjjmaaGreat.Bits Go.Proofs.YthpdcnjaodjjmaaGreat.Inf Go.Proofs.YthpdcnjaodjjmaaGreat.SP Go.Proofs.YthpdcnjaodjjmaaGreat.Rt
open Go.Proofs.YthpdcnjaodjjmaaGreat.Code (lsOf natV nats)
set_option linter.unusedVariables false

set_option maxRecDepth 100000 in
set_option maxHeartbeats 1600000 in
theorem packed_any (w : World) : Calls Tryz.prog 6 #[] w fun e w' => e = .returned (.bool true) ∧ Below w.heap.size w w' := by
  have hb0 : Below w.heap.size w (w.alloc (.cells #[.int .u8 97, .int .u8 97] 5 (2, 3))) := (Below.refl _ _).alloc (Nat.le_refl _) _
  have HP := pack1_any (some ⟨w.heap.size, 0, none⟩) 2 2 0 [97, 97] (w.alloc (.cells #[.int .u8 97, .int .u8 97] 5 (2, 3))) rfl (by omega) (by unfold maxLen; omega) (by omega) (by omega) (ByAt.of_new _ _ _ (2, 3) rfl)
  rw [fact_aa, World.size_alloc, show (((0 : Nat) : Int)) = 0 from rfl] at HP
  have Hb0 := Lib.hid hb0
  have HP := Lib.hid HP
  clear hb0
  have kk := fun (w : World) (C : Array Value) (n c : Nat) => Lib.run_convert_bytes_const (P := Tryz.prog) w 24 5 C n c Tryz.underlying24 Tryz.underlying5
  go_enter Tryz.func6, Tryz.ntmps6
  go_wp2_with fail
  refine (HP.out).mono ?_
  rintro e w1 ⟨⟨v1, rfl, ho1⟩, hb1⟩
  have Hb1 : Hid (Below w.heap.size w w1) := Lib.hid (Hb0.out.trans (hb1.mono (by omega)))
  obtain ⟨A1, c1, rfl, _, _, hs1, _⟩ := own_slat ho1
  have HS1 : Hid (ByAt w1 A1 [1, 2, 0, 253, 255, 97, 97]) := Lib.hid hs1
  clear ho1 hs1 hb1 HP Hb0
  go_wp2_with fail
  refine (best_any none 0 0 [] w1 rfl (by omega) (by unfold maxLen; omega) SlAt.nil).mono ?_
  rintro e w2 ⟨h, hb2⟩
  rcases h with ⟨h, _⟩ | ⟨_, v2, rfl, ho2⟩
  · omega
  rw [fact_best] at ho2 ⊢
  dsimp only at ho2 ⊢
  have Hb2 := Lib.hid (Hb1.out.trans (hb2.mono Hb1.out.size))
  obtain ⟨A2, c2, rfl, _, _, hs2, _⟩ := own_slat ho2
  have HS2 : Hid (ByAt w2 A2 [3, 0]) := Lib.hid hs2
  have HS1' := Lib.hid (HS1.out.below hb2)
  clear ho2 hs2 hb2 Hb1 HS1
  go_wp2_with fail
  have HL1 : Hid (ByAt (w2.alloc (.cells #[.int .u8 1, .int .u8 2, .int .u8 0, .int .u8 253, .int .u8 255, .int .u8 97, .int .u8 97] 5)) (some ⟨w2.heap.size, 0, none⟩) [1, 2, 0, 253, 255, 97, 97]) := Lib.hid (ByAt.of_new _ _ _ (0, 0) rfl)
  have HE1 := Lib.hid (equal_bytes A1 (some ⟨w2.heap.size, 0, none⟩) 7 7 c1 7 [1, 2, 0, 253, 255, 97, 97] [1, 2, 0, 253, 255, 97, 97] _ rfl rfl (HS1'.out.below ((Below.refl _ _).alloc (Nat.le_refl _) _)) HL1.out)
  rw [show decide (([1, 2, 0, 253, 255, 97, 97] : List UInt8) = [1, 2, 0, 253, 255, 97, 97]) = true from by simp] at HE1
  dsimp only [List.length_cons, List.length_nil]
  clear kk
  go_wp2_with fail
  refine (HE1.out).mono ?_
  rintro e w3 ⟨rfl, hw3⟩
  have Hb3 : Hid (Below w.heap.size w w3) := Lib.hid (by rw [hw3]; exact Hb2.out.alloc Hb2.out.size _)
  have HS3 : Hid (ByAt w3 A2 [3, 0]) := Lib.hid (by rw [hw3]; exact HS2.out.below ((Below.refl _ _).alloc (Nat.le_refl _) _))
  have HL2 : Hid (ByAt (w3.alloc (.cells #[.int .u8 3, .int .u8 0] 5)) (some ⟨w3.heap.size, 0, none⟩) [3, 0]) := Lib.hid (ByAt.of_new _ _ _ (0, 0) rfl)
  have HE2 := Lib.hid (equal_bytes A2 (some ⟨w3.heap.size, 0, none⟩) 2 2 c2 2 [3, 0] [3, 0] _ rfl rfl (HS3.out.below ((Below.refl _ _).alloc (Nat.le_refl _) _)) HL2.out)
  rw [show decide (([3, 0] : List UInt8) = [3, 0]) = true from by simp] at HE2
  clear hw3 HE1 HL1 HS1' HS2 Hb2
  go_wp2_with fail
  refine (HE2.out).mono ?_
  rintro e w4 ⟨rfl, hw4⟩
  have Hb4 : Hid (Below w.heap.size w w4) := Lib.hid (by rw [hw4]; exact Hb3.out.alloc Hb3.out.size _)
  clear hw4 HE2 HL2 HS3 Hb3
  go_wp2_with fail
  go_ret
  exact ⟨rfl, Hb4.out⟩
end Go.Proofs.YthpdcnjaodjjmaaGreat.Blk

/- how many bits a block takes, at the most; what is packed is unpacked, however long it is; the plain law. No program in sight. -/
namespace Go.Proofs.YthpdcnjaodjjmaaGreat.Rt
open Go.Proofs.YthpdcnjaodjjmaaGreat.Bits Go.Proofs.YthpdcnjaodjjmaaGreat.Code Go.Proofs.YthpdcnjaodjjmaaGreat.Match Go.Proofs.YthpdcnjaodjjmaaGreat.SP Go.Proofs.YthpdcnjaodjjmaaGreat.Inf Go.Proofs.YthpdcnjaodjjmaaGreat.Blk
set_option linter.unusedVariables false

/-! the head -/
theorem runB_fit (S : List Nat) (hS : ∀ i, S.getD i 0 ≤ 7) (x : Nat × Nat × Nat) (hx : RunFit x) (l : List Nat) : 7 * l.length + (runB S x).length ≤ 7 * (runStep l x).length := by
  unfold runB
  rw [List.length_append, codeB_length, numBits_length]
  have h := hS x.1
  unfold runStep
  rcases hx with ⟨a, b, c⟩ | ⟨a, b, c⟩ | ⟨a, b, c⟩ | ⟨a, b, c⟩
  · rw [if_pos a, List.length_append, List.length_replicate]; omega
  · rw [if_neg (by omega), if_pos a, List.length_append, List.length_replicate]; omega
  · rw [if_neg (by omega), if_neg (by omega), if_pos a, List.length_append, List.length_replicate]; omega
  · rw [if_neg (by omega), if_neg (by omega), if_neg (by omega), List.length_append]
    simp only [List.length_cons, List.length_nil]
    omega
theorem runs_bits (S : List Nat) (hS : ∀ i, S.getD i 0 ≤ 7) : ∀ (xs : List (Nat × Nat × Nat)) (l : List Nat), (∀ x ∈ xs, RunFit x) → 7 * l.length + (xs.flatMap (runB S)).length ≤ 7 * (xs.foldl runStep l).length
  | [], l, _ => by simp
  | x :: xs, l, h => by
    have h1 := runB_fit S hS x (h x List.mem_cons_self) l
    have h2 := runs_bits S hS xs (runStep l x) fun y hy => h y (List.mem_cons_of_mem _ hy)
    rw [List.flatMap_cons, List.length_append, List.foldl_cons]
    omega
theorem three_bits : ∀ l : List Nat, (l.flatMap fun n => numBits n 3).length = 3 * l.length
  | [] => rfl
  | x :: l => by
    rw [List.flatMap_cons, List.length_append, numBits_length, three_bits l, List.length_cons]; omega
theorem trim_mem (l : List Nat) (k : Nat) (h : ∀ y ∈ l, y ≤ 15) : ∀ y ∈ trimP l k, y ≤ 15 := fun y hy => h y (List.mem_of_mem_take hy)
theorem head_bits (lit far : List Nat) (l1 : lit.length = 286) (l2 : far.length = 30) (h1 : ∀ y ∈ lit, y ≤ 15) (h2 : ∀ y ∈ far, y ≤ 15) : (headB lit far).length ≤ 2283 := by
  rw [headB_eq]
  have tA := trim_len lit 257 (by omega)
  have tB := trim_len far 1 (by omega)
  have hl : ∀ y ∈ trimP lit 257 ++ trimP far 1, y ≤ 15 := fun y hy => by
    rcases List.mem_append.1 hy with h | h
    · exact trim_mem lit 257 h1 y h
    · exact trim_mem far 1 h2 y h
  have hlen : (trimP lit 257 ++ trimP far 1).length ≤ 316 := by rw [List.length_append]; omega
  have hr := runs_all _ hl
  have hf := runsF_fit (trimP lit 257 ++ trimP far 1) hl (trimP lit 257 ++ trimP far 1).length 0
  have hS := sizes_fine (runsP (trimP lit 257 ++ trimP far 1))
  have hS7 : ∀ i, (sizesP (runsP (trimP lit 257 ++ trimP far 1))).getD i 0 ≤ 7 := fun i => by
    rw [List.getD_eq_getElem?_getD]
    rcases Nat.lt_or_ge i (sizesP (runsP (trimP lit 257 ++ trimP far 1))).length with h | h
    · rw [List.getElem?_eq_getElem h]; exact hS.2.2.1 _ (List.getElem_mem h)
    · rw [List.getElem?_eq_none h]; exact Nat.zero_le _
  have hb := runs_bits _ hS7 (runsP (trimP lit 257 ++ trimP far 1)) [] hf
  rw [hr] at hb
  have ht := trim_len (orderL.map fun k => (sizesP (runsP (trimP lit 257 ++ trimP far 1))).getD k 0) 4 (by rw [List.length_map]; decide)
  rw [List.length_map] at ht
  have ho : orderL.length = 19 := rfl
  generalize sizesP (runsP (trimP lit 257 ++ trimP far 1)) = S at *
  generalize (runsP (trimP lit 257 ++ trimP far 1)).flatMap (runB S) = R at *
  generalize trimP (orderL.map fun k => S.getD k 0) 4 = T at *
  simp only [List.length_append, numBits_length, three_bits, List.length_nil] at hb hlen ⊢
  omega
/-! the body: what it costs -/
theorem zip_bump : ∀ (ls ms : List Nat) (i : Nat), i < ls.length → i < ms.length → costZ ((bump ls i).zip ms) = costZ (ls.zip ms) + ms.getD i 0
  | [], _, i, h, _ => by simp at h
  | _ :: _, [], i, _, h => by simp at h
  | a :: ls, b :: ms, 0, _, _ => by
    simp only [bump, costZ, List.getD_cons_zero, List.set_cons_zero, List.zip_cons_cons, List.map_cons, List.sum_cons, Nat.add_mul, Nat.one_mul]
    omega
  | a :: ls, b :: ms, i + 1, h, k => by
    have ih := zip_bump ls ms i (by simpa using h) (by simpa using k)
    simp only [bump, costZ, List.getD_cons_succ, List.set_cons_succ, List.zip_cons_cons, List.map_cons, List.sum_cons] at ih ⊢
    omega
theorem zip_zero : ∀ (n : Nat) (ms : List Nat), costZ ((List.replicate n 0).zip ms) = 0
  | 0, ms => by simp [costZ]
  | n + 1, [] => by simp [costZ]
  | n + 1, b :: ms => by
    have := zip_zero n ms
    simp only [costZ, List.replicate_succ, List.zip_cons_cons, List.map_cons, List.sum_cons, Nat.zero_mul, Nat.zero_add] at this ⊢
    exact this
/-- the bits of a token that are no code's -/
def extraT (t : Tok) : Nat := if t.2.1 = 0 then 0 else (sameL.getD (symS sameL t.2.1.toNat) (0, 0)).2 + (farL.getD (symS farL t.2.2.toNat) (0, 0)).2
theorem tok_len (lit far : List Nat) (t : Tok) : (tokB lit far t).length = if t.2.1 = 0 then lit.getD t.1.toNat 0 else lit.getD (257 + symS sameL t.2.1.toNat) 0 + far.getD (symS farL t.2.2.toNat) 0 + extraT t := by
  unfold tokB extraT
  by_cases h : t.2.1 = 0
  · rw [if_pos h, if_pos h, codeB_length]
  · rw [if_neg h, if_neg h, if_neg h]
    simp only [List.length_append, codeB_length, numBits_length]
    omega
theorem same_lt (n : Nat) : symS sameL n < 29 := symS_lt sameL n (by decide)
theorem far_lt (n : Nat) : symS farL n < 30 := symS_lt farL n (by decide)
theorem cstep_cost (lit far : List Nat) (hl : lit.length = 286) (hf : far.length = 30) (s : List Nat × List Nat) (h1 : s.1.length = 286) (h2 : s.2.length = 30) (t : Tok) :
    costZ ((cstep s t).1.zip lit) + costZ ((cstep s t).2.zip far) + extraT t = costZ (s.1.zip lit) + costZ (s.2.zip far) + (tokB lit far t).length := by
  rw [tok_len]
  unfold cstep
  have hb : t.1.toNat < 256 := t.1.toNat_lt
  have k1 := same_lt t.2.1.toNat
  have k2 := far_lt t.2.2.toNat
  by_cases h : t.2.1 = 0
  · rw [if_pos h, if_pos h]
    dsimp only
    rw [zip_bump _ _ _ (by omega) (by omega)]
    unfold extraT
    rw [if_pos h]
    omega
  · rw [if_neg h, if_neg h]
    dsimp only
    rw [zip_bump _ _ _ (by omega) (by omega), zip_bump _ _ _ (by omega) (by omega)]
    omega
theorem fold_cost (lit far : List Nat) (hl : lit.length = 286) (hf : far.length = 30) : ∀ (ts : List Tok) (s : List Nat × List Nat), s.1.length = 286 → s.2.length = 30 →
    costZ ((ts.foldl cstep s).1.zip lit) + costZ ((ts.foldl cstep s).2.zip far) + (ts.map extraT).sum = costZ (s.1.zip lit) + costZ (s.2.zip far) + (ts.flatMap (tokB lit far)).length
  | [], s, _, _ => by simp
  | t :: ts, s, h1, h2 => by
    have k := cstep_len s t
    have a := fold_cost lit far hl hf ts (cstep s t) (k.1.trans h1) (k.2.trans h2)
    have b := cstep_cost lit far hl hf s h1 h2 t
    rw [List.foldl_cons, List.map_cons, List.sum_cons, List.flatMap_cons, List.length_append]
    omega
theorem body_cost (lit far : List Nat) (hl : lit.length = 286) (hf : far.length = 30) (ts : List Tok) :
    (bodyB ts lit far).length = costZ ((countsP ts).1.zip lit) + costZ ((countsP ts).2.zip far) + (ts.map extraT).sum := by
  have h := fold_cost lit far hl hf ts (List.replicate 286 0, List.replicate 30 0) List.length_replicate List.length_replicate
  rw [zip_zero, zip_zero] at h
  unfold bodyB countsP
  rw [List.length_append, codeB_length]
  dsimp only
  have hk : (countsK ts).1.length = 286 := (countsK_len ts).1
  rw [zip_bump _ _ _ (by omega) (by omega)]
  unfold countsK
  omega
theorem zip_part (g : Nat → Nat) : ∀ ls ms : List Nat, ((ls.zip ms).map fun p => if 0 < p.1 then g p.2 else 0).sum ≤ (ms.map g).sum
  | [], ms => by simp
  | _ :: _, [] => by simp
  | a :: ls, b :: ms => by
    have := zip_part g ls ms
    simp only [List.zip_cons_cons, List.map_cons, List.sum_cons]
    split <;> omega
theorem valid_fix (ls ms : List Nat) (h1 : ∀ x ∈ ms, 1 ≤ x ∧ x ≤ 15) (h2 : (ms.map fun x => 2 ^ (15 - x)).sum ≤ 2 ^ 15) : ValidZ (ls.zip ms) 15 := by
  refine ⟨fun p hp _ => h1 _ (List.of_mem_zip hp).2, ?_⟩
  exact Nat.le_trans (zip_part (fun x => 2 ^ (15 - x)) ls ms) h2
def fixA : List Nat := fixedA.take 286
def fixB : List Nat := fixedB.take 30
theorem fixA_ok : (∀ x ∈ fixA, 1 ≤ x ∧ x ≤ 15) ∧ (fixA.map fun x => 2 ^ (15 - x)).sum ≤ 2 ^ 15 := by decide +kernel
theorem fixB_ok : (∀ x ∈ fixB, 1 ≤ x ∧ x ≤ 15) ∧ (fixB.map fun x => 2 ^ (15 - x)).sum ≤ 2 ^ 15 := by decide +kernel
theorem fixA_len : fixA.length = 286 := by decide +kernel
theorem fixB_len : fixB.length = 30 := by decide +kernel
/-- codes of one's own take no more than those that all know -/
theorem body_best (ts : List Tok) : (bodyB ts (lensP ts).1 (lensP ts).2).length ≤ (bodyB ts fixA fixB).length := by
  have hc := counts_len ts
  have o1 := Weigh.ones_le (countsP ts).1
  have o2 := Weigh.ones_le (countsP ts).2
  have e15 : (2 : Nat) ^ 15 = 32768 := rfl
  obtain ⟨a1, _, _, a4⟩ := best (countsP ts).1 15 (by omega) (by omega)
  obtain ⟨b1, _, _, b4⟩ := best (countsP ts).2 15 (by omega) (by omega)
  rw [body_cost _ _ (show (lensP ts).1.length = 286 from a1.trans hc.1) (show (lensP ts).2.length = 30 from b1.trans hc.2), body_cost fixA fixB fixA_len fixB_len]
  have h1 := a4 fixA (by rw [fixA_len, hc.1]) (valid_fix _ _ fixA_ok.1 fixA_ok.2)
  have h2 := b4 fixB (by rw [fixB_len, hc.2]) (valid_fix _ _ fixB_ok.1 fixB_ok.2)
  show costZ ((countsP ts).1.zip (lengthsP (countsP ts).1 15)) + costZ ((countsP ts).2.zip (lengthsP (countsP ts).2 15)) + _ ≤ _
  omega
/-! nine bits a byte -/
def covT (t : Tok) : Nat := if t.2.1 = 0 then 1 else t.2.1.toNat
theorem cov_chk : ∀ (ts : List Tok) (n : Int), (chkAll ts n).1 = 0 → (chkAll ts n).2 = n + (((ts.map covT).sum : Nat) : Int)
  | [], n, _ => by simp [chkAll]
  | t :: ts, n, h => by
    simp only [chkAll] at h ⊢
    by_cases h1 : (chkTok n t).1 = 0
    · rw [if_pos h1] at h ⊢
      rw [cov_chk ts _ h, List.map_cons, List.sum_cons]
      have e : (chkTok n t).2 = n + (covT t : Int) := by
        unfold chkTok at h1 ⊢
        unfold covT
        by_cases g : t.2.1 = 0
        · rw [if_pos g] at h1 ⊢
          rw [if_pos g]
          by_cases g2 : t.2.2 = 0
          · rw [if_neg (by simp [g2])]; simp
          · rw [if_pos g2] at h1; simp at h1
        · rw [if_neg g] at h1 ⊢
          rw [if_neg g]
          by_cases g2 : t.1 ≠ 0
          · rw [if_pos g2] at h1; simp at h1
          · rw [if_neg g2] at h1 ⊢
            by_cases g3 : t.2.1 < 3 ∨ 258 < t.2.1 ∨ t.2.2 < 1
            · rw [if_pos g3] at h1; simp at h1
            · rw [if_neg g3] at h1 ⊢
              by_cases g4 : n < t.2.2
              · rw [if_pos g4] at h1; simp at h1
              · rw [if_neg g4]; dsimp only; omega
      rw [e]; omega
    · rw [if_neg h1] at h; exact absurd h h1
theorem cov_toks (b : List UInt8) : ((toks b).map covT).sum = b.length := by
  have h2 : chkAll (toks b) 0 = (0, (b.length : Int)) := by unfold toks; rw [chkAll_titer, titer_end]
  have h := cov_chk (toks b) 0 (by rw [h2])
  rw [h2] at h
  dsimp only at h
  omega
/-- codes that give nine bits a byte at the most -/
structure Nine (lit far : List Nat) : Prop where
  byte : ∀ i < 256, lit.getD i 0 ≤ 9
  end_ : lit.getD 256 0 ≤ 7
  three : lit.getD 257 0 ≤ 7
  same : ∀ j < 29, lit.getD (257 + j) 0 ≤ 8
  far : ∀ j < 30, far.getD j 0 ≤ 5
theorem nine_fixed : Nine fixedA fixedB := ⟨by decide +kernel, by decide +kernel, by decide +kernel, by decide +kernel, by decide +kernel⟩
theorem nine_fix : Nine fixA fixB := ⟨by decide +kernel, by decide +kernel, by decide +kernel, by decide +kernel, by decide +kernel⟩
theorem same5 : ∀ j < 29, (sameL.getD j (0, 0)).2 ≤ 5 := by decide
theorem far13 : ∀ j < 30, (farL.getD j (0, 0)).2 ≤ 13 := by decide
theorem sym3 : symS sameL 3 = 0 := by decide
theorem same0 : (sameL.getD 0 (0, 0)).2 = 0 := rfl
theorem tok_bits {lit far : List Nat} (h : Nine lit far) (t : Tok) (ht : TokR t) : (tokB lit far t).length ≤ 9 * covT t := by
  rw [tok_len]
  unfold covT
  by_cases h0 : t.2.1 = 0
  · rw [if_pos h0, if_pos h0]
    have := h.byte t.1.toNat t.1.toNat_lt
    omega
  · rw [if_neg h0, if_neg h0]
    have k1 := same_lt t.2.1.toNat
    have k2 := far_lt t.2.2.toNat
    have a := h.same _ k1
    have b := h.far _ k2
    have c := same5 _ k1
    have d := far13 _ k2
    have e : extraT t = (sameL.getD (symS sameL t.2.1.toNat) (0, 0)).2 + (farL.getD (symS farL t.2.2.toNat) (0, 0)).2 := by unfold extraT; rw [if_neg h0]
    rcases ht with h1 | ⟨h1, h2, h3⟩
    · exact absurd h1 h0
    · by_cases h4 : t.2.1 = 3
      · rw [h4] at a c e ⊢
        have e3 : (3 : Int).toNat = 3 := rfl
        rw [e3, sym3] at a c e ⊢
        rw [same0] at e
        have := h.three
        rw [Nat.add_zero]
        omega
      · have : 4 ≤ t.2.1.toNat := by omega
        omega
theorem body_bits {lit far : List Nat} (h : Nine lit far) (b : List UInt8) : (bodyB (toks b) lit far).length ≤ 7 + 9 * b.length := by
  have key : ∀ ts : List Tok, (∀ t ∈ ts, TokR t) → (ts.flatMap (tokB lit far)).length ≤ 9 * (ts.map covT).sum := by
    intro ts
    induction ts with
    | nil => intro _; simp
    | cons t ts ih =>
      intro hh
      have h1 := tok_bits h t (hh t List.mem_cons_self)
      have h2 := ih fun y hy => hh y (List.mem_cons_of_mem _ hy)
      rw [List.flatMap_cons, List.length_append, List.map_cons, List.sum_cons]
      omega
  have k := key (toks b) (chk_tokR _ 0 (toks_chk b))
  rw [cov_toks] at k
  unfold bodyB
  rw [List.length_append, codeB_length]
  have := h.end_
  omega
/-- how many bits a block of a kind may take -/
def mostK (kind n : Nat) : Nat := if kind = 0 then 47 + 8 * n else if kind = 1 then 10 + 9 * n else 3210 + 9 * n
theorem lens_15 (ts : List Tok) : (∀ y ∈ (lensP ts).1, y ≤ 15) ∧ ∀ y ∈ (lensP ts).2, y ≤ 15 := by
  have hc := counts_len ts
  have o1 := Weigh.ones_le (countsP ts).1
  have o2 := Weigh.ones_le (countsP ts).2
  have e15 : (2 : Nat) ^ 15 = 32768 := rfl
  exact ⟨(best (countsP ts).1 15 (by omega) (by omega)).2.2.1, (best (countsP ts).2 15 (by omega) (by omega)).2.2.1⟩
theorem one_bits (n : Nat) (b : List UInt8) (kind : Nat) (last : Bool) : (oneS n b kind last).length ≤ mostK kind b.length := by
  unfold oneS mostK
  by_cases h0 : kind = 0
  · rw [if_pos h0, if_pos h0]
    simp only [List.length_append, List.length_cons, List.length_nil, numBits_length, List.length_replicate, bitsL_length]
    omega
  · rw [if_neg h0, if_neg h0]
    by_cases h1 : kind = 1
    · rw [if_pos h1, if_pos h1]
      have := body_bits nine_fixed b
      simp only [List.length_append, List.length_cons, List.length_nil, numBits_length]
      omega
    · rw [if_neg h1, if_neg h1]
      have a := body_best (toks b)
      have c := body_bits nine_fix b
      have hl := lens_all (toks b)
      have h15 := lens_15 (toks b)
      have d := head_bits (lensP (toks b)).1 (lensP (toks b)).2 hl.1 hl.2.1 h15.1 h15.2
      simp only [List.length_append, List.length_cons, List.length_nil, numBits_length]
      omega
def mostL (parts : List (List UInt8)) (kinds : List Nat) : Nat → Nat
  | 0 => 0
  | i + 1 => mostL parts kinds i + mostK (kinds.getD i 0) (parts.getD i []).length
theorem packK_bits (parts : List (List UInt8)) (kinds : List Nat) : ∀ i, (packK parts kinds i).length ≤ mostL parts kinds i
  | 0 => Nat.le_refl _
  | i + 1 => by
    have h1 := packK_bits parts kinds i
    have h2 := one_bits (packK parts kinds i).length (parts.getD i []) (kinds.getD i 0) (decide (i + 1 = parts.length))
    rw [packK_succ, List.length_append]
    show _ ≤ mostL parts kinds i + _
    omega
theorem packB_bits (parts : List (List UInt8)) (kinds : List Nat) : (packB parts kinds).length ≤ (mostL parts kinds parts.length + 7) / 8 := by
  have h := packK_bits parts kinds parts.length
  have e : (packB parts kinds).length = ((packK parts kinds parts.length).length + 7) / 8 := pack_length _
  omega
/-- what is packed is unpacked, however long it is -/
theorem blocks_pack (parts : List (List UInt8)) (kinds : List Nat) (h0 : parts ≠ []) (hk : kinds.length = parts.length) (hkk : ∀ k ∈ kinds, k ≤ 2) (hl : parts.flatten.length ≤ 3000) :
    ∃ pos, (pos + 7) / 8 = (packB parts kinds).length ∧ blocksR (bitsL (packB parts kinds)) ((bitsL (packB parts kinds)).length + 1) 0 [] [] = .ok (pos, parts.flatten, kinds) := by
  have hpos : 0 < parts.length := List.length_pos_iff.2 h0
  have hlong := packK_long parts kinds parts.length
  have hlen : (packB parts kinds).length = ((packK parts kinds parts.length).length + 7) / 8 := pack_length _
  have hp := has_pack (packK parts kinds parts.length) []
  rw [List.append_nil] at hp
  have hb := blocks_has hp hk hkk hl (parts.length - 1) 0 ((bitsL (packB parts kinds)).length + 1) (by omega) (by rw [bitsL_length]; omega)
  have e0 : (packK parts kinds 0).length = 0 := rfl
  rw [e0, List.take_zero, List.take_zero] at hb
  exact ⟨_, hlen.symm, hb⟩
end Go.Proofs.YthpdcnjaodjjmaaGreat.Rt

/- package inflate: what is wrong is never 0; the plain law. No program in sight. -/
namespace Go.Proofs.YthpdcnjaodjjmaaGreat.Inf
open Go.Proofs.YthpdcnjaodjjmaaGreat.Bits Go.Proofs.YthpdcnjaodjjmaaGreat.Code
set_option linter.unusedVariables false

/-! ### what is wrong is never 0 -/
def Nz {α : Type} (r : Rd α) : Prop := ∀ z, r = .bad z → z ≠ 0
theorem nz_ok {α : Type} {a : α} : Nz (.ok a) := fun z h => by cases h
theorem nz_bad {α : Type} {z : Int} (h : z ≠ 0) : Nz (.bad z : Rd α) := fun y e => by injection e with e; subst e; exact h
theorem nz_then {α β : Type} {r : Rd α} {f : α → Rd β} (h : Nz r) (hf : ∀ a, Nz (f a)) : Nz (r.then_ f) := by
  cases r with
  | bad e => exact fun z hz => h z (by injection hz with hz; rw [hz])
  | ok a => exact hf a
theorem nz_ite {α : Type} {c : Prop} [Decidable c] {r s : Rd α} (h : Nz r) (k : Nz s) : Nz (if c then r else s) := by split <;> assumption
theorem nz_get (row : List Bool) (p n : Nat) : Nz (getR row p n) := nz_ite nz_ok (nz_bad (by decide))
theorem nz_sym (row : List Bool) (ls : List Nat) (p : Nat) : Nz (symR row ls p) := by
  unfold symR
  split
  · exact nz_ok
  · rename_i h; exact nz_bad h
theorem nz_push (out : List UInt8) (x : UInt8) : Nz (pushR out x) := nz_ite (nz_bad (by decide)) nz_ok
theorem nz_raw (row : List Bool) : ∀ (n p : Nat) (out : List UInt8), Nz (rawR row n p out)
  | 0, _, _ => nz_ok
  | n + 1, p, out => nz_then (nz_get _ _ _) fun x => nz_then (nz_push _ _) fun o => nz_raw row n _ _
theorem nz_table (zs : List Int) : Nz (tableR zs) := nz_ite nz_ok (nz_bad (by decide))
theorem nz_again (n : Nat) (l : List Nat) (v k : Nat) : Nz (againR n l v k) := nz_ite (nz_bad (by decide)) nz_ok
theorem nz_lenStep (row : List Bool) (ls : List Nat) (n p : Nat) (l : List Nat) : Nz (lenStep row ls n p l) := by
  have key : ∀ (q nb v add : Nat), Nz ((getR row q nb).then_ fun x => (againR n l v (add + x.1)).then_ fun m => Rd.ok (x.2, m)) := fun q nb v add => nz_then (nz_get _ _ _) fun x => nz_then (nz_again _ _ _ _) fun m => nz_ok
  exact nz_then (nz_sym _ _ _) fun k => nz_ite (nz_ite (nz_bad (by decide)) (key _ _ _ _)) (nz_ite (key _ _ _ _) (nz_ite (key _ _ _ _) (nz_then (nz_again _ _ _ _) fun m => nz_ok)))
theorem nz_len (row : List Bool) (ls : List Nat) (n : Nat) : ∀ (f p : Nat) (l : List Nat), Nz (lenR row ls n f p l)
  | 0, _, _ => nz_ok
  | f + 1, p, l => nz_ite nz_ok (nz_then (nz_lenStep _ _ _ _ _) fun x => nz_len row ls n f _ _)
theorem nz_sizes (row : List Bool) : ∀ (ks : List Nat) (p : Nat) (s : List Nat), Nz (sizesR row ks p s)
  | [], _, _ => nz_ok
  | k :: ks, p, s => nz_then (nz_get _ _ _) fun x => nz_sizes row ks _ _
theorem nz_head (row : List Bool) (p : Nat) : Nz (headR row p) :=
  nz_then (nz_get _ _ _) fun a => nz_then (nz_get _ _ _) fun b => nz_then (nz_get _ _ _) fun c => nz_ite (nz_bad (by decide)) (nz_then (nz_sizes _ _ _ _) fun s => nz_then (nz_table _) fun t =>
    nz_then (nz_len _ _ _ _ _ _) fun l => nz_ite (nz_bad (by decide)) (nz_then (nz_table _) fun x => nz_then (nz_table _) fun y => nz_ok))
theorem nz_copy (d : Nat) : ∀ (n : Nat) (out : List UInt8), Nz (copyR d n out)
  | 0, _ => nz_ok
  | n + 1, out => nz_then (nz_push _ _) fun o => nz_copy d n o
theorem nz_bodyStep (row : List Bool) (lit far : List Nat) (p : Nat) (out : List UInt8) : Nz (bodyStep row lit far p out) :=
  nz_then (nz_sym _ _ _) fun k => nz_ite (nz_then (nz_push _ _) fun o => nz_ok) (nz_ite nz_ok (nz_ite (nz_bad (by decide)) (nz_then (nz_get _ _ _) fun x => nz_then (nz_sym _ _ _) fun f =>
    nz_ite (nz_bad (by decide)) (nz_then (nz_get _ _ _) fun y => nz_ite (nz_bad (by decide)) (nz_then (nz_copy _ _ _) fun o => nz_ok)))))
theorem nz_body (row : List Bool) (lit far : List Nat) : ∀ (f p : Nat) (out : List UInt8), Nz (bodyR row lit far f p out)
  | 0, _, _ => nz_bad (by decide)
  | f + 1, p, out => nz_then (nz_bodyStep _ _ _ _ _) fun x => nz_ite nz_ok (nz_body row lit far f _ _)
theorem nz_stored (row : List Bool) (p : Nat) (out : List UInt8) : Nz (storedR row p out) :=
  nz_then (nz_get _ _ _) fun x => nz_then (nz_get _ _ _) fun y => nz_ite (nz_bad (by decide)) (nz_raw _ _ _ _)
theorem nz_block (row : List Bool) (p : Nat) (out : List UInt8) : Nz (blockR row p out) :=
  nz_then (nz_get _ _ _) fun l => nz_then (nz_get _ _ _) fun k => nz_ite (nz_then (nz_stored _ _ _) fun x => nz_ok) (nz_ite (nz_then (nz_body _ _ _ _ _ _) fun x => nz_ok)
    (nz_ite (nz_then (nz_head _ _) fun h => nz_then (nz_body _ _ _ _ _ _) fun x => nz_ok) (nz_bad (by decide))))
theorem nz_blocks (row : List Bool) : ∀ (f p : Nat) (out : List UInt8) (ks : List Nat), Nz (blocksR row f p out ks)
  | 0, _, _, _ => nz_bad (by decide)
  | f + 1, p, out, ks => nz_then (nz_block _ _ _) fun x => nz_ite nz_ok (nz_blocks row f _ _ _)
end Go.Proofs.YthpdcnjaodjjmaaGreat.Inf

/- package inflate: where reading stands goes on, and never beyond the row. No program in sight. -/
namespace Go.Proofs.YthpdcnjaodjjmaaGreat.Inf
open Go.Proofs.YthpdcnjaodjjmaaGreat.Bits Go.Proofs.YthpdcnjaodjjmaaGreat.Code
set_option linter.unusedVariables false

theorem then_inv {α β : Type} {r : Rd α} {f : α → Rd β} {b : β} (h : r.then_ f = .ok b) : ∃ a, r = .ok a ∧ f a = .ok b := by
  cases r with
  | bad e => cases h
  | ok a => exact ⟨a, rfl, h⟩
theorem fillP_le (p : Nat) : p ≤ fillP p := by unfold fillP; omega
theorem raw_mono {row : List Bool} : ∀ {n p : Nat} {out : List UInt8} {a : Nat × List UInt8}, rawR row n p out = .ok a → p ≤ row.length → p ≤ a.1 ∧ a.1 ≤ row.length
  | 0, p, out, a, h, hp => by injection h with h; subst h; exact ⟨Nat.le_refl _, hp⟩
  | n + 1, p, out, a, h, hp => by
    obtain ⟨x, hx, h⟩ := then_inv h
    obtain ⟨o, ho, h⟩ := then_inv h
    have h1 := getR_pos hx
    have h2 := raw_mono h (by omega)
    omega
theorem stored_mono {row : List Bool} {p : Nat} {out : List UInt8} {a : Nat × List UInt8} (h : storedR row p out = .ok a) : p ≤ a.1 ∧ a.1 ≤ row.length := by
  obtain ⟨x, hx, h⟩ := then_inv h
  obtain ⟨y, hy, h⟩ := then_inv h
  have h1 := getR_pos hx
  have h2 := getR_pos hy
  have h3 := fillP_le p
  split at h
  · cases h
  · have h4 := raw_mono h (by omega)
    omega
theorem lenStep_mono {row : List Bool} {ls l : List Nat} {n p : Nat} {a : Nat × List Nat} (h : lenStep row ls n p l = .ok a) (hp : p ≤ row.length) : p ≤ a.1 ∧ a.1 ≤ row.length := by
  obtain ⟨k, hk, h⟩ := then_inv h
  have h1 := symR_lt hk hp
  have key : ∀ (q nb v add : Nat), ((getR row q nb).then_ fun x => (againR n l v (add + x.1)).then_ fun m => Rd.ok (x.2, m)) = .ok a → q ≤ a.1 ∧ a.1 ≤ row.length := by
    intro q nb v add h
    obtain ⟨x, hx, h⟩ := then_inv h
    obtain ⟨m, _, h⟩ := then_inv h
    have := getR_pos hx
    injection h with h
    subst h
    (try dsimp only)
    omega
  split at h
  · split at h
    · cases h
    · have := key _ _ _ _ h; omega
  · split at h
    · have := key _ _ _ _ h; omega
    · split at h
      · have := key _ _ _ _ h; omega
      · obtain ⟨m, _, h⟩ := then_inv h
        injection h with h
        subst h
        (try dsimp only)
        omega
theorem len_mono {row : List Bool} {ls : List Nat} {n : Nat} : ∀ {f p : Nat} {l : List Nat} {a : Nat × List Nat}, lenR row ls n f p l = .ok a → p ≤ row.length → p ≤ a.1 ∧ a.1 ≤ row.length
  | 0, p, l, a, h, hp => by injection h with h; subst h; exact ⟨Nat.le_refl _, hp⟩
  | f + 1, p, l, a, h, hp => by
    unfold lenR at h
    split at h
    · injection h with h; subst h; exact ⟨Nat.le_refl _, hp⟩
    · obtain ⟨x, hx, h⟩ := then_inv h
      have h1 := lenStep_mono hx hp
      have h2 := len_mono h h1.2
      omega
theorem sizes_mono {row : List Bool} : ∀ {ks : List Nat} {p : Nat} {s : List Nat} {a : Nat × List Nat}, sizesR row ks p s = .ok a → p ≤ row.length → p ≤ a.1 ∧ a.1 ≤ row.length
  | [], p, s, a, h, hp => by injection h with h; subst h; exact ⟨Nat.le_refl _, hp⟩
  | k :: ks, p, s, a, h, hp => by
    obtain ⟨x, hx, h⟩ := then_inv h
    have h1 := getR_pos hx
    have h2 := sizes_mono h (by omega)
    omega
theorem head_mono {row : List Bool} {p : Nat} {a : Nat × List Nat × List Nat} (h : headR row p = .ok a) : p ≤ a.1 ∧ a.1 ≤ row.length := by
  obtain ⟨x, hx, h⟩ := then_inv h
  obtain ⟨y, hy, h⟩ := then_inv h
  obtain ⟨z, hz, h⟩ := then_inv h
  have h1 := getR_pos hx
  have h2 := getR_pos hy
  have h3 := getR_pos hz
  split at h
  · cases h
  · obtain ⟨s, hs, h⟩ := then_inv h
    obtain ⟨t, _, h⟩ := then_inv h
    obtain ⟨l, hl, h⟩ := then_inv h
    have h4 := sizes_mono hs (by omega)
    have h5 := len_mono hl h4.2
    split at h
    · cases h
    · obtain ⟨u, _, h⟩ := then_inv h
      obtain ⟨v, _, h⟩ := then_inv h
      injection h with h
      subst h
      (try dsimp only)
      omega
theorem bodyStep_mono {row : List Bool} {lit far : List Nat} {p : Nat} {out : List UInt8} {a : Bool × Nat × List UInt8} (h : bodyStep row lit far p out = .ok a) (hp : p ≤ row.length) : p < a.2.1 ∧ a.2.1 ≤ row.length := by
  obtain ⟨k, hk, h⟩ := then_inv h
  have h1 := symR_lt hk hp
  split at h
  · obtain ⟨o, _, h⟩ := then_inv h
    injection h with h; subst h; dsimp only; omega
  · split at h
    · injection h with h; subst h; dsimp only; omega
    · split at h
      · cases h
      · obtain ⟨x, hx, h⟩ := then_inv h
        obtain ⟨f, hf, h⟩ := then_inv h
        have h2 := getR_pos hx
        have h3 := symR_lt hf (by omega)
        split at h
        · cases h
        · obtain ⟨y, hy, h⟩ := then_inv h
          have h4 := getR_pos hy
          split at h
          · cases h
          · obtain ⟨o, _, h⟩ := then_inv h
            injection h with h; subst h; dsimp only; omega
theorem body_mono {row : List Bool} {lit far : List Nat} : ∀ {f p : Nat} {out : List UInt8} {a : Nat × List UInt8}, bodyR row lit far f p out = .ok a → p ≤ row.length → p ≤ a.1 ∧ a.1 ≤ row.length
  | 0, p, out, a, h, hp => by cases h
  | f + 1, p, out, a, h, hp => by
    obtain ⟨x, hx, h⟩ := then_inv h
    have h1 := bodyStep_mono hx hp
    split at h
    · injection h with h; subst h; omega
    · have h2 := body_mono h h1.2
      omega
theorem block_mono {row : List Bool} {p : Nat} {out : List UInt8} {a : Bool × Nat × Nat × List UInt8} (h : blockR row p out = .ok a) : p < a.2.2.1 ∧ a.2.2.1 ≤ row.length := by
  obtain ⟨l, hl, h⟩ := then_inv h
  obtain ⟨k, hk, h⟩ := then_inv h
  have h1 := getR_pos hl
  have h2 := getR_pos hk
  split at h
  · obtain ⟨x, hx, h⟩ := then_inv h
    have := stored_mono hx
    injection h with h; subst h; dsimp only; omega
  · split at h
    · obtain ⟨x, hx, h⟩ := then_inv h
      have := body_mono hx (by omega)
      injection h with h; subst h; dsimp only; omega
    · split at h
      · obtain ⟨y, hy, h⟩ := then_inv h
        obtain ⟨x, hx, h⟩ := then_inv h
        have h3 := head_mono hy
        have := body_mono hx h3.2
        injection h with h; subst h; dsimp only; omega
      · cases h
/-! ### a beginning of the row says the same, as far as it goes -/
variable {row : List Bool} {L : Nat}
end Go.Proofs.YthpdcnjaodjjmaaGreat.Inf

/- reliquaryref.Unpacked: what the unpacker of a row does, and that it is what blocks of bits say; the plain law. No program in sight. -/
namespace Go.Proofs.YthpdcnjaodjjmaaGreat.Unp
open Go.Proofs.YthpdcnjaodjjmaaGreat.Bits Go.Proofs.YthpdcnjaodjjmaaGreat.Code
open Go.Proofs.YthpdcnjaodjjmaaGreat.Inf hiding then_ok
set_option linter.unusedVariables false

/-- the unpacker: where it is, what is unpacked, the kinds, what is wrong -/
structure St where
  pos : Nat
  out : List UInt8
  ks : List Nat
  e : Int
def uget (row : List Bool) (s : St) (n : Nat) : Nat × St := if s.e = 0 then (match getR row s.pos n with | .ok a => (a.1, ⟨a.2, s.out, s.ks, 0⟩) | .bad z => (0, ⟨s.pos, s.out, s.ks, z⟩)) else (0, s)
def uplace (row : List Bool) (ls : List Nat) (s : St) : Nat × St := if s.e = 0 then (match symR row ls s.pos with | .ok a => (a.1, ⟨a.2, s.out, s.ks, 0⟩) | .bad z => (0, ⟨s.pos, s.out, s.ks, z⟩)) else (0, s)
def usay (s : St) (b : UInt8) : St := if s.e = 0 then (match pushR s.out b with | .ok o => ⟨s.pos, o, s.ks, 0⟩ | .bad z => ⟨s.pos, s.out, s.ks, z⟩) else s
def uwrong (s : St) (z : Int) : St := if s.e = 0 then ⟨s.pos, s.out, s.ks, z⟩ else s
def ukind (s : St) (k : Nat) : St := ⟨s.pos, s.out, s.ks ++ [k], s.e⟩
def ufill (s : St) : St := ⟨fillP s.pos, s.out, s.ks, s.e⟩
def uraw (row : List Bool) : Nat → St → St
  | 0, s => s
  | n + 1, s => if s.e = 0 then uraw row n (usay (uget row s 8).2 (UInt8.ofNat (uget row s 8).1)) else s
/-- wrong, if so -/
def uif (c : Prop) [Decidable c] (s : St) (z : Int) : St := if s.e = 0 ∧ c then uwrong s z else s
def ustored (row : List Bool) (s : St) : St :=
  uraw row (uget row (ufill s) 16).1 (uif ((uget row (ufill s) 16).1 + (uget row (uget row (ufill s) 16).2 16).1 ≠ 65535) (uget row (uget row (ufill s) 16).2 16).2 4)
def ucopy (d : Nat) : Nat → St → St
  | 0, s => s
  | n + 1, s => if s.e = 0 then ucopy d n (usay s (s.out.getD (s.out.length - d) 0)) else s
def ubody (row : List Bool) (lit far : List Nat) : Nat → St → St
  | 0, s => uwrong s 7
  | f + 1, s => if s.e = 0 then
      if (uplace row lit s).2.e ≠ 0 ∨ (uplace row lit s).1 = 256 then (uplace row lit s).2
      else if (uplace row lit s).1 < 256 then ubody row lit far f (usay (uplace row lit s).2 (UInt8.ofNat (uplace row lit s).1))
      else if 285 < (uplace row lit s).1 then uwrong (uplace row lit s).2 8
      else
        let q := uget row (uplace row lit s).2 (sameL.getD ((uplace row lit s).1 - 257) (0, 0)).2
        let g := uplace row far q.2
        let s4 := uif (29 < g.1) g.2 8
        if s4.e ≠ 0 then s4
        else
          let y := uget row s4 (farL.getD g.1 (0, 0)).2
          ubody row lit far f (ucopy ((farL.getD g.1 (0, 0)).1 + y.1) ((sameL.getD ((uplace row lit s).1 - 257) (0, 0)).1 + q.1) (uif (y.2.out.length < (farL.getD g.1 (0, 0)).1 + y.1) y.2 9))
    else s
def usizes (row : List Bool) : List Nat → List Nat → St → List Nat × St
  | [], sm, s => (sm, s)
  | k :: ks, sm, s => usizes row ks (sm.set k (uget row s 3).1) (uget row s 3).2
/-- what a symbol says, behind so many lengths: which length, how many times -/
def utimes (row : List Bool) (l : List Nat) (k : Nat) (s : St) : Nat × Nat × St :=
  if k = 16 ∧ l = [] then (k, 1, uwrong s 8)
  else if k = 16 then (l.getLastD 0, 3 + (uget row s 2).1, (uget row s 2).2)
  else if k = 17 then (0, 3 + (uget row s 3).1, (uget row s 3).2)
  else if k = 18 then (0, 11 + (uget row s 7).1, (uget row s 7).2)
  else (k, 1, s)
def ulens (row : List Bool) (ls : List Nat) (n : Nat) : Nat → List Nat → St → List Nat × St
  | 0, l, s => (l, s)
  | f + 1, l, s => if l.length < n ∧ s.e = 0 then
      let r := utimes row l (uplace row ls s).1 (uplace row ls s).2
      ulens row ls n f (l ++ List.replicate r.2.1 r.1) (uif (n < l.length + r.2.1) r.2.2 8)
    else (l, s)
def utold (row : List Bool) (s : St) : (List Nat × List Nat) × St :=
  let a := uget row s 5
  let b := uget row a.2 5
  let c := uget row b.2 4
  let s4 := if 286 < a.1 + 257 ∨ 30 < b.1 + 1 then uwrong c.2 8 else c.2
  let z := usizes row (orderL.take (c.1 + 4)) (List.replicate 19 0) s4
  let s6 := uif (chkL (zsOf z.1) ≠ 0) z.2 8
  if s6.e ≠ 0 then (([], []), s6)
  else
    let l := ulens row z.1 (a.1 + 257 + (b.1 + 1)) (a.1 + 257 + (b.1 + 1)) [] s6
    if l.2.e ≠ 0 then (([], []), l.2)
    else if l.1.getD 256 0 = 0 ∨ chkL (zsOf (l.1.take (a.1 + 257))) ≠ 0 ∨ chkL (zsOf (l.1.drop (a.1 + 257))) ≠ 0 then (([], []), uwrong l.2 8)
    else ((l.1.take (a.1 + 257), l.1.drop (a.1 + 257)), l.2)
def ublock (row : List Bool) (s : St) : Bool × St :=
  let l := uget row s 1
  let k := uget row l.2 2
  if k.2.e ≠ 0 then (true, k.2)
  else if k.1 = 0 then (l.1 == 1, ukind (ustored row k.2) k.1)
  else
    let t := if k.1 = 1 then ((fixedA, fixedB), k.2) else if k.1 = 2 then utold row k.2 else (([], []), uwrong k.2 4)
    if t.2.e ≠ 0 then (true, t.2)
    else (l.1 == 1, ukind (ubody row t.1.1 t.1.2 (row.length + 1) t.2) k.1)
def ublocks (row : List Bool) : Nat → St → St
  | 0, s => uwrong s 7
  | f + 1, s => if (ublock row s).1 = false ∧ (ublock row s).2.e = 0 then ublocks row f (ublock row s).2 else (ublock row s).2

/-! an unpacker that something is wrong with stays as it is -/
section
variable {row : List Bool} {s : St}
theorem get_stuck {n : Nat} (h : s.e ≠ 0) : uget row s n = (0, s) := by unfold uget; rw [if_neg h]
theorem place_stuck {ls : List Nat} (h : s.e ≠ 0) : uplace row ls s = (0, s) := by unfold uplace; rw [if_neg h]
theorem say_stuck {b : UInt8} (h : s.e ≠ 0) : usay s b = s := by unfold usay; rw [if_neg h]
theorem wrong_stuck {z : Int} (h : s.e ≠ 0) : uwrong s z = s := by unfold uwrong; rw [if_neg h]
theorem if_stuck {c : Prop} [Decidable c] {z : Int} (h : s.e ≠ 0) : uif c s z = s := by unfold uif; rw [if_neg (fun hh => h hh.1)]
theorem raw_stuck {n : Nat} (h : s.e ≠ 0) : uraw row n s = s := by
  cases n with
  | zero => rfl
  | succ n => unfold uraw; rw [if_neg h]
theorem copy_stuck {d n : Nat} (h : s.e ≠ 0) : ucopy d n s = s := by
  cases n with
  | zero => rfl
  | succ n => unfold ucopy; rw [if_neg h]
theorem body_stuck {lit far : List Nat} {f : Nat} (h : s.e ≠ 0) : ubody row lit far f s = s := by
  cases f with
  | zero => exact wrong_stuck h
  | succ n => unfold ubody; rw [if_neg h]
theorem get_ok {n : Nat} {a : Nat × Nat} (h : s.e = 0) (hg : getR row s.pos n = .ok a) : uget row s n = (a.1, ⟨a.2, s.out, s.ks, 0⟩) := by unfold uget; rw [if_pos h, hg]
theorem get_bad {n : Nat} {z : Int} (h : s.e = 0) (hg : getR row s.pos n = .bad z) : uget row s n = (0, ⟨s.pos, s.out, s.ks, z⟩) := by unfold uget; rw [if_pos h, hg]
theorem place_ok {ls : List Nat} {a : Nat × Nat} (h : s.e = 0) (hg : symR row ls s.pos = .ok a) : uplace row ls s = (a.1, ⟨a.2, s.out, s.ks, 0⟩) := by unfold uplace; rw [if_pos h, hg]
theorem place_bad {ls : List Nat} {z : Int} (h : s.e = 0) (hg : symR row ls s.pos = .bad z) : uplace row ls s = (0, ⟨s.pos, s.out, s.ks, z⟩) := by unfold uplace; rw [if_pos h, hg]
theorem say_ok {b : UInt8} {o : List UInt8} (h : s.e = 0) (hg : pushR s.out b = .ok o) : usay s b = ⟨s.pos, o, s.ks, 0⟩ := by unfold usay; rw [if_pos h, hg]
theorem say_bad {b : UInt8} {z : Int} (h : s.e = 0) (hg : pushR s.out b = .bad z) : usay s b = ⟨s.pos, s.out, s.ks, z⟩ := by unfold usay; rw [if_pos h, hg]
theorem if_yes {c : Prop} [Decidable c] {z : Int} (h : s.e = 0) (hc : c) : uif c s z = ⟨s.pos, s.out, s.ks, z⟩ := by unfold uif uwrong; rw [if_pos ⟨h, hc⟩, if_pos h]
theorem if_no {c : Prop} [Decidable c] {z : Int} (hc : ¬ c) : uif c s z = s := by unfold uif; rw [if_neg (fun hh => hc hh.2)]
end
theorem wrong_yes {s : St} {z : Int} (h : s.e = 0) : uwrong s z = ⟨s.pos, s.out, s.ks, z⟩ := by unfold uwrong; rw [if_pos h]
theorem thn {α β : Type} (a : α) (f : α → Inf.Rd β) : (Inf.Rd.ok a).then_ f = f a := rfl
theorem thb {α β : Type} (z : Int) (f : α → Inf.Rd β) : (Inf.Rd.bad z : Inf.Rd α).then_ f = .bad z := rfl
/-- the unpacker is where reading is, or as wrong -/
def Sim {α : Type} (r : Inf.Rd α) (t : St) (f : α → St) : Prop := match r with
  | .ok a => t = f a
  | .bad z => t.e = z
theorem sim_raw (row : List Bool) : ∀ (n : Nat) (s : St), s.e = 0 → Sim (rawR row n s.pos s.out) (uraw row n s) (fun a => ⟨a.1, a.2, s.ks, 0⟩)
  | 0, s, h => by obtain ⟨p, o, k, e⟩ := s; dsimp only at h; subst h; rfl
  | n + 1, s, h => by
    unfold uraw rawR
    rw [if_pos h]
    cases hg : getR row s.pos 8 with
    | bad z =>
      have hz := nz_get row s.pos 8 z hg
      rw [get_bad h hg, thb]
      dsimp only
      rw [say_stuck (s := ⟨s.pos, s.out, s.ks, z⟩) hz, raw_stuck (s := ⟨s.pos, s.out, s.ks, z⟩) hz]
      exact rfl
    | ok a =>
      rw [get_ok h hg, thn]
      dsimp only
      cases hp : pushR s.out (UInt8.ofNat a.1) with
      | bad z =>
        have hz := nz_push _ _ z hp
        rw [say_bad (s := ⟨a.2, s.out, s.ks, 0⟩) rfl hp, thb, raw_stuck (s := ⟨a.2, s.out, s.ks, z⟩) hz]
        exact rfl
      | ok o =>
        rw [say_ok (s := ⟨a.2, s.out, s.ks, 0⟩) rfl hp, thn]
        exact sim_raw row n ⟨a.2, o, s.ks, 0⟩ rfl
theorem sim_stored (row : List Bool) (s : St) (h : s.e = 0) : Sim (storedR row s.pos s.out) (ustored row s) (fun a => ⟨a.1, a.2, s.ks, 0⟩) := by
  have hf : (ufill s).e = 0 := h
  unfold storedR ustored
  cases hg : getR row (fillP s.pos) 16 with
  | bad z =>
    have hz := nz_get _ _ _ z hg
    rw [get_bad (s := ufill s) hf hg, thb]
    dsimp only
    rw [get_stuck (s := ⟨(ufill s).pos, (ufill s).out, (ufill s).ks, z⟩) hz]
    dsimp only
    rw [if_stuck (s := ⟨(ufill s).pos, (ufill s).out, (ufill s).ks, z⟩) hz, raw_stuck (s := ⟨(ufill s).pos, (ufill s).out, (ufill s).ks, z⟩) hz]
    exact rfl
  | ok a =>
    rw [get_ok (s := ufill s) hf hg, thn]
    dsimp only
    cases hg2 : getR row a.2 16 with
    | bad z =>
      have hz := nz_get _ _ _ z hg2
      rw [get_bad (s := ⟨a.2, (ufill s).out, (ufill s).ks, 0⟩) rfl hg2, thb]
      dsimp only
      rw [if_stuck (s := ⟨a.2, (ufill s).out, (ufill s).ks, z⟩) hz, raw_stuck (s := ⟨a.2, (ufill s).out, (ufill s).ks, z⟩) hz]
      exact rfl
    | ok b =>
      rw [get_ok (s := ⟨a.2, (ufill s).out, (ufill s).ks, 0⟩) rfl hg2, thn]
      dsimp only
      by_cases hc : a.1 + b.1 ≠ 65535
      · rw [if_pos hc, if_yes (s := ⟨b.2, (ufill s).out, (ufill s).ks, 0⟩) rfl hc, raw_stuck (s := ⟨b.2, (ufill s).out, (ufill s).ks, 4⟩) (by dsimp only; decide)]
        exact rfl
      · rw [if_neg hc, if_no hc]
        exact sim_raw row a.1 ⟨b.2, s.out, s.ks, 0⟩ rfl
theorem sim_copy (d : Nat) : ∀ (n : Nat) (s : St), s.e = 0 → Sim (copyR d n s.out) (ucopy d n s) (fun o => ⟨s.pos, o, s.ks, 0⟩)
  | 0, s, h => by obtain ⟨p, o, k, e⟩ := s; dsimp only at h; subst h; rfl
  | n + 1, s, h => by
    unfold ucopy copyR
    rw [if_pos h]
    cases hp : pushR s.out (s.out.getD (s.out.length - d) 0) with
    | bad z =>
      have hz := nz_push _ _ z hp
      rw [say_bad h hp, thb, copy_stuck (s := ⟨s.pos, s.out, s.ks, z⟩) hz]
      exact rfl
    | ok o =>
      rw [say_ok h hp, thn]
      exact sim_copy d n ⟨s.pos, o, s.ks, 0⟩ rfl
set_option maxRecDepth 100000 in
theorem sim_body (row : List Bool) (lit far : List Nat) : ∀ (f : Nat) (s : St), s.e = 0 → Sim (bodyR row lit far f s.pos s.out) (ubody row lit far f s) (fun a => ⟨a.1, a.2, s.ks, 0⟩)
  | 0, s, h => by unfold ubody uwrong; rw [if_pos h]; exact rfl
  | f + 1, s, h => by
    unfold ubody bodyR bodyStep
    rw [if_pos h]
    cases hg : symR row lit s.pos with
    | bad z =>
      have hz := nz_sym _ _ _ z hg
      rw [place_bad h hg, thb, thb]
      dsimp only
      rw [if_pos (.inl hz)]
      exact rfl
    | ok a =>
      rw [place_ok h hg, thn]
      dsimp only
      by_cases h256 : a.1 = 256
      · rw [if_neg (show ¬ a.1 < 256 by omega), if_pos h256, thn, if_pos (show (true, a.2, s.out).1 = true from rfl), if_pos (show ((0 : Int) ≠ 0 ∨ a.1 = 256) from .inr h256)]
        exact rfl
      · rw [if_neg (show ¬ ((0 : Int) ≠ 0 ∨ a.1 = 256) by simp [h256])]
        by_cases hlt : a.1 < 256
        · rw [if_pos hlt, if_pos hlt]
          cases hp : pushR s.out (UInt8.ofNat a.1) with
          | bad z =>
            have hz := nz_push _ _ z hp
            rw [say_bad (s := ⟨a.2, s.out, s.ks, 0⟩) rfl hp, thb, thb, body_stuck (s := ⟨a.2, s.out, s.ks, z⟩) hz]
            exact rfl
          | ok o =>
            rw [say_ok (s := ⟨a.2, s.out, s.ks, 0⟩) rfl hp, thn, thn, if_neg (by simp)]
            exact sim_body row lit far f ⟨a.2, o, s.ks, 0⟩ rfl
        · rw [if_neg hlt, if_neg hlt, if_neg h256]
          by_cases h285 : 285 < a.1
          · rw [if_pos h285, if_pos (show 29 ≤ a.1 - 257 by omega), thb, wrong_yes (s := ⟨a.2, s.out, s.ks, 0⟩) rfl]
            exact rfl
          · rw [if_neg h285, if_neg (show ¬ 29 ≤ a.1 - 257 by omega)]
            cases hx : getR row a.2 (sameL.getD (a.1 - 257) (0, 0)).2 with
            | bad z =>
              have hz := nz_get _ _ _ z hx
              rw [get_bad (s := ⟨a.2, s.out, s.ks, 0⟩) rfl hx, thb, thb]
              dsimp only
              rw [place_stuck (s := ⟨a.2, s.out, s.ks, z⟩) hz]
              dsimp only
              rw [if_stuck (s := ⟨a.2, s.out, s.ks, z⟩) hz, if_pos hz]
              exact rfl
            | ok x =>
              rw [get_ok (s := ⟨a.2, s.out, s.ks, 0⟩) rfl hx, thn]
              dsimp only
              cases hq : symR row far x.2 with
              | bad z =>
                have hz := nz_sym _ _ _ z hq
                rw [place_bad (s := ⟨x.2, s.out, s.ks, 0⟩) rfl hq, thb, thb]
                dsimp only
                rw [if_stuck (s := ⟨x.2, s.out, s.ks, z⟩) hz, if_pos hz]
                exact rfl
              | ok g =>
                rw [place_ok (s := ⟨x.2, s.out, s.ks, 0⟩) rfl hq, thn]
                dsimp only
                by_cases h29 : 29 < g.1
                · rw [if_yes (s := ⟨g.2, s.out, s.ks, 0⟩) rfl h29, if_pos (show (8 : Int) ≠ 0 by decide), if_pos (show 30 ≤ g.1 by omega), thb]
                  exact rfl
                · rw [if_no h29, if_neg (show ¬ ((0 : Int) ≠ 0) by simp), if_neg (show ¬ 30 ≤ g.1 by omega)]
                  cases hy : getR row g.2 (farL.getD g.1 (0, 0)).2 with
                  | bad z =>
                    have hz := nz_get _ _ _ z hy
                    rw [get_bad (s := ⟨g.2, s.out, s.ks, 0⟩) rfl hy, thb, thb]
                    dsimp only
                    rw [if_stuck (s := ⟨g.2, s.out, s.ks, z⟩) hz, copy_stuck (s := ⟨g.2, s.out, s.ks, z⟩) hz, body_stuck (s := ⟨g.2, s.out, s.ks, z⟩) hz]
                    exact rfl
                  | ok y =>
                    rw [get_ok (s := ⟨g.2, s.out, s.ks, 0⟩) rfl hy, thn]
                    dsimp only
                    by_cases hd : s.out.length < (farL.getD g.1 (0, 0)).1 + y.1
                    · rw [if_yes (s := ⟨y.2, s.out, s.ks, 0⟩) rfl hd, if_pos hd, thb, copy_stuck (s := ⟨y.2, s.out, s.ks, 9⟩) (by dsimp only; decide), body_stuck (s := ⟨y.2, s.out, s.ks, 9⟩) (by dsimp only; decide)]
                      exact rfl
                    · rw [if_no hd, if_neg hd]
                      have hcp := sim_copy ((farL.getD g.1 (0, 0)).1 + y.1) ((sameL.getD (a.1 - 257) (0, 0)).1 + x.1) ⟨y.2, s.out, s.ks, 0⟩ rfl
                      dsimp only at hcp
                      cases hc : copyR ((farL.getD g.1 (0, 0)).1 + y.1) ((sameL.getD (a.1 - 257) (0, 0)).1 + x.1) s.out with
                      | bad z =>
                        have hz := nz_copy _ _ _ z hc
                        rw [hc] at hcp
                        have hcp : (ucopy _ _ _).e = z := hcp
                        rw [thb, thb, body_stuck (by rw [hcp]; exact hz)]
                        exact hcp
                      | ok o =>
                        rw [hc] at hcp
                        have hcp : ucopy _ _ _ = _ := hcp
                        rw [thn, thn, if_neg (by simp), hcp]
                        exact sim_body row lit far f ⟨y.2, o, s.ks, 0⟩ rfl
theorem sizes_stuck (row : List Bool) : ∀ (ks sm : List Nat) (s : St), s.e ≠ 0 → (usizes row ks sm s).2 = s
  | [], sm, s, h => rfl
  | k :: ks, sm, s, h => by unfold usizes; rw [get_stuck h]; exact sizes_stuck row ks _ s h
theorem sim_sizes (row : List Bool) : ∀ (ks sm : List Nat) (s : St), s.e = 0 → match sizesR row ks s.pos sm with
    | .ok a => usizes row ks sm s = (a.2, ⟨a.1, s.out, s.ks, 0⟩)
    | .bad z => (usizes row ks sm s).2.e = z
  | [], sm, s, h => by obtain ⟨p, o, k, e⟩ := s; dsimp only at h; subst h; rfl
  | k :: ks, sm, s, h => by
    unfold usizes sizesR
    cases hg : getR row s.pos 3 with
    | bad z =>
      have hz := nz_get _ _ _ z hg
      rw [get_bad h hg, thb]
      dsimp only
      rw [sizes_stuck row ks _ ⟨s.pos, s.out, s.ks, z⟩ hz]
    | ok a =>
      rw [get_ok h hg, thn]
      exact sim_sizes row ks (sm.set k a.1) ⟨a.2, s.out, s.ks, 0⟩ rfl
theorem lens_stuck {row : List Bool} {ls l : List Nat} {n f : Nat} {s : St} (h : s.e ≠ 0) : ulens row ls n f l s = (l, s) := by
  cases f with
  | zero => rfl
  | succ f => unfold ulens; rw [if_neg (fun hh => h hh.2)]
theorem wrong_yes' {s : St} {z : Int} (h : s.e = 0) : (uwrong s z).e = z := by rw [wrong_yes h]
/-- behind a symbol: a number, and the same length so many times -/
theorem lens_get {row : List Bool} {ls l : List Nat} {n f v add bt p : Nat} {s : St} (ih : ∀ (l : List Nat) (s : St), s.e = 0 → match lenR row ls n f s.pos l with
    | .ok a => ulens row ls n f l s = (a.2, ⟨a.1, s.out, s.ks, 0⟩)
    | .bad z => (ulens row ls n f l s).2.e = z) (o : List UInt8) (kk : List Nat) :
    match ((getR row p bt).then_ fun x => (againR n l v (add + x.1)).then_ fun m => Inf.Rd.ok (x.2, m)).then_ fun x => lenR row ls n f x.1 x.2 with
    | .ok a => ulens row ls n f (l ++ List.replicate (add + (uget row ⟨p, o, kk, 0⟩ bt).1) v) (uif (n < l.length + (add + (uget row ⟨p, o, kk, 0⟩ bt).1)) (uget row ⟨p, o, kk, 0⟩ bt).2 8) = (a.2, ⟨a.1, o, kk, 0⟩)
    | .bad z => (ulens row ls n f (l ++ List.replicate (add + (uget row ⟨p, o, kk, 0⟩ bt).1) v) (uif (n < l.length + (add + (uget row ⟨p, o, kk, 0⟩ bt).1)) (uget row ⟨p, o, kk, 0⟩ bt).2 8)).2.e = z := by
  cases hg : getR row p bt with
  | bad z =>
    have hz := nz_get _ _ _ z hg
    rw [get_bad (s := ⟨p, o, kk, 0⟩) rfl hg, thb, thb]
    dsimp only
    rw [if_stuck (s := ⟨p, o, kk, z⟩) hz, lens_stuck (s := ⟨p, o, kk, z⟩) hz]
  | ok a =>
    rw [get_ok (s := ⟨p, o, kk, 0⟩) rfl hg, thn]
    dsimp only
    unfold againR
    by_cases hn : n < l.length + (add + a.1)
    · rw [if_pos hn, if_yes (s := ⟨a.2, o, kk, 0⟩) rfl hn, thb, thb, lens_stuck (s := ⟨a.2, o, kk, 8⟩) (show (8 : Int) ≠ 0 by decide)]
    · rw [if_neg hn, if_no hn, thn, thn]
      exact ih _ ⟨a.2, o, kk, 0⟩ rfl
theorem sim_lens (row : List Bool) (ls : List Nat) (n : Nat) : ∀ (f : Nat) (l : List Nat) (s : St), s.e = 0 → match lenR row ls n f s.pos l with
    | .ok a => ulens row ls n f l s = (a.2, ⟨a.1, s.out, s.ks, 0⟩)
    | .bad z => (ulens row ls n f l s).2.e = z
  | 0, l, s, h => by obtain ⟨p, o, k, e⟩ := s; dsimp only at h; subst h; rfl
  | f + 1, l, s, h => by
    have ih := sim_lens row ls n f
    unfold ulens lenR
    by_cases hn : n ≤ l.length
    · rw [if_pos hn, if_neg (fun hh => by omega)]
      obtain ⟨p, o, k, e⟩ := s; dsimp only at h; subst h; rfl
    · rw [if_neg hn, if_pos ⟨by omega, h⟩]
      unfold lenStep
      cases hg : symR row ls s.pos with
      | bad z =>
        have hz := nz_sym _ _ _ z hg
        rw [place_bad h hg, thb, thb]
        dsimp only
        have hu : utimes row l 0 ⟨s.pos, s.out, s.ks, z⟩ = (0, 1, ⟨s.pos, s.out, s.ks, z⟩) := by
          unfold utimes
          rw [if_neg (fun hh => absurd hh.1 (by decide)), if_neg (by decide), if_neg (by decide), if_neg (by decide)]
        rw [hu]
        dsimp only
        rw [if_stuck (s := ⟨s.pos, s.out, s.ks, z⟩) hz, lens_stuck (s := ⟨s.pos, s.out, s.ks, z⟩) hz]
      | ok a =>
        rw [place_ok h hg, thn]
        dsimp only
        by_cases h16 : a.1 = 16
        · by_cases hl : l = []
          · have hu : utimes row l a.1 ⟨a.2, s.out, s.ks, 0⟩ = (a.1, 1, ⟨a.2, s.out, s.ks, 8⟩) := by
              unfold utimes; rw [if_pos ⟨h16, hl⟩]; rfl
            rw [if_pos h16, if_pos hl, hu, thb]
            dsimp only
            rw [if_stuck (s := ⟨a.2, s.out, s.ks, 8⟩) (show (8 : Int) ≠ 0 by decide), lens_stuck (s := ⟨a.2, s.out, s.ks, 8⟩) (show (8 : Int) ≠ 0 by decide)]
          · have hu : utimes row l a.1 ⟨a.2, s.out, s.ks, 0⟩ = (l.getLastD 0, 3 + (uget row ⟨a.2, s.out, s.ks, 0⟩ 2).1, (uget row ⟨a.2, s.out, s.ks, 0⟩ 2).2) := by
              unfold utimes; rw [if_neg (fun hh => hl hh.2), if_pos h16]
            rw [if_pos h16, if_neg hl, hu]
            exact lens_get (s := s) ih s.out s.ks
        · by_cases h17 : a.1 = 17
          · have hu : utimes row l a.1 ⟨a.2, s.out, s.ks, 0⟩ = (0, 3 + (uget row ⟨a.2, s.out, s.ks, 0⟩ 3).1, (uget row ⟨a.2, s.out, s.ks, 0⟩ 3).2) := by
              unfold utimes; rw [if_neg (fun hh => h16 hh.1), if_neg h16, if_pos h17]
            rw [if_neg h16, if_pos h17, hu]
            exact lens_get (s := s) ih s.out s.ks
          · by_cases h18 : a.1 = 18
            · have hu : utimes row l a.1 ⟨a.2, s.out, s.ks, 0⟩ = (0, 11 + (uget row ⟨a.2, s.out, s.ks, 0⟩ 7).1, (uget row ⟨a.2, s.out, s.ks, 0⟩ 7).2) := by
                unfold utimes; rw [if_neg (fun hh => h16 hh.1), if_neg h16, if_neg h17, if_pos h18]
              rw [if_neg h16, if_neg h17, if_pos h18, hu]
              exact lens_get (s := s) ih s.out s.ks
            · have hu : utimes row l a.1 ⟨a.2, s.out, s.ks, 0⟩ = (a.1, 1, ⟨a.2, s.out, s.ks, 0⟩) := by
                unfold utimes; rw [if_neg (fun hh => h16 hh.1), if_neg h16, if_neg h17, if_neg h18]
              rw [if_neg h16, if_neg h17, if_neg h18, hu]
              dsimp only
              unfold againR
              by_cases hn2 : n < l.length + 1
              · rw [if_pos hn2, if_yes (s := ⟨a.2, s.out, s.ks, 0⟩) rfl hn2, thb, thb, lens_stuck (s := ⟨a.2, s.out, s.ks, 8⟩) (show (8 : Int) ≠ 0 by decide)]
              · rw [if_neg hn2, if_no hn2, thn, thn]
                exact ih _ ⟨a.2, s.out, s.ks, 0⟩ rfl
theorem table_cases (zs : List Int) : (chkL zs = 0 ∧ tableR zs = .ok (lsOf zs)) ∨ (chkL zs ≠ 0 ∧ tableR zs = .bad 8) := by
  unfold tableR
  by_cases h : chkL zs = 0
  · exact .inl ⟨h, by rw [if_pos h]⟩
  · exact .inr ⟨h, by rw [if_neg h]⟩
theorem lsOf_zs (l : List Nat) : lsOf (zsOf l) = l := by
  unfold lsOf zsOf; rw [List.map_map]
  conv => rhs; rw [← List.map_id l]
  apply List.map_congr_left
  intro x _; rfl
set_option maxRecDepth 100000 in
theorem sim_told (row : List Bool) (s : St) (h : s.e = 0) : match headR row s.pos with
    | .ok a => utold row s = ((a.2.1, a.2.2), ⟨a.1, s.out, s.ks, 0⟩)
    | .bad z => (utold row s).2.e = z := by
  -- something is wrong ahead of the sizes
  have key : ∀ (a b c : Nat × St) (z : Int), z ≠ 0 → c.2.e = z → a = uget row s 5 → b = uget row a.2 5 → c = uget row b.2 4 → (utold row s).2.e = z := by
    intro a b c z hz he ha hb hc
    have hs4 : (if 286 < a.1 + 257 ∨ 30 < b.1 + 1 then uwrong c.2 8 else c.2) = c.2 := by
      split
      · exact wrong_stuck (by rw [he]; exact hz)
      · rfl
    unfold utold
    rw [← ha]
    dsimp only
    rw [← hb, ← hc]
    rw [hs4]
    have hst := sizes_stuck row (orderL.take (c.1 + 4)) (List.replicate 19 0) c.2 (by rw [he]; exact hz)
    rw [hst, if_stuck (s := c.2) (by rw [he]; exact hz), if_pos (by rw [he]; exact hz)]
    exact he
  unfold headR
  cases h1 : getR row s.pos 5 with
  | bad z =>
    have hz := nz_get _ _ _ z h1
    rw [thb]
    exact key _ _ _ z hz (by rw [get_bad h h1, get_stuck (s := ⟨s.pos, s.out, s.ks, z⟩) hz, get_stuck (s := ⟨s.pos, s.out, s.ks, z⟩) hz]) rfl rfl rfl
  | ok a =>
    rw [thn]
    cases h2 : getR row a.2 5 with
    | bad z =>
      have hz := nz_get _ _ _ z h2
      rw [thb]
      exact key _ _ _ z hz (by rw [get_ok h h1, get_bad (s := ⟨a.2, s.out, s.ks, 0⟩) rfl h2, get_stuck (s := ⟨a.2, s.out, s.ks, z⟩) hz]) rfl rfl rfl
    | ok b =>
      rw [thn]
      cases h3 : getR row b.2 4 with
      | bad z =>
        have hz := nz_get _ _ _ z h3
        rw [thb]
        exact key _ _ _ z hz (by rw [get_ok h h1, get_ok (s := ⟨a.2, s.out, s.ks, 0⟩) rfl h2, get_bad (s := ⟨b.2, s.out, s.ks, 0⟩) rfl h3]) rfl rfl rfl
      | ok c =>
        rw [thn]
        unfold utold
        rw [get_ok h h1]
        dsimp only
        rw [get_ok (s := ⟨a.2, s.out, s.ks, 0⟩) rfl h2]
        dsimp only
        rw [get_ok (s := ⟨b.2, s.out, s.ks, 0⟩) rfl h3]
        dsimp only
        by_cases hc : 286 < a.1 + 257 ∨ 30 < b.1 + 1
        · rw [if_pos hc, if_pos hc, wrong_yes (s := ⟨c.2, s.out, s.ks, 0⟩) rfl]
          dsimp only
          rw [sizes_stuck row _ _ ⟨c.2, s.out, s.ks, 8⟩ (show (8 : Int) ≠ 0 by decide), if_stuck (s := ⟨c.2, s.out, s.ks, 8⟩) (show (8 : Int) ≠ 0 by decide), if_pos (show (8 : Int) ≠ 0 by decide)]
        · rw [if_neg hc, if_neg hc]
          have hz5 := sim_sizes row (orderL.take (c.1 + 4)) (List.replicate 19 0) ⟨c.2, s.out, s.ks, 0⟩ rfl
          dsimp only at hz5
          cases h5 : sizesR row (orderL.take (c.1 + 4)) c.2 (List.replicate 19 0) with
          | bad z =>
            have hz := nz_sizes _ _ _ _ z h5
            rw [h5] at hz5
            dsimp only at hz5
            rw [thb, if_stuck (by rw [hz5]; exact hz), if_pos (by rw [hz5]; exact hz)]
            exact hz5
          | ok sz =>
            rw [h5] at hz5
            dsimp only at hz5
            rw [hz5, thn]
            dsimp only
            rcases table_cases (zsOf sz.2) with ⟨ht, ht2⟩ | ⟨ht, ht2⟩
            · rw [ht2, thn, lsOf_zs, if_no (show ¬ chkL (zsOf sz.2) ≠ 0 by simpa using ht), if_neg (show ¬ ((0 : Int) ≠ 0) by simp)]
              have hl := sim_lens row sz.2 (a.1 + 257 + (b.1 + 1)) (a.1 + 257 + (b.1 + 1)) [] ⟨sz.1, s.out, s.ks, 0⟩ rfl
              dsimp only at hl
              cases h6 : lenR row sz.2 (a.1 + 257 + (b.1 + 1)) (a.1 + 257 + (b.1 + 1)) sz.1 [] with
              | bad z =>
                have hz := nz_len _ _ _ _ _ _ z h6
                rw [h6] at hl
                dsimp only at hl
                rw [thb, if_pos (by rw [hl]; exact hz)]
                exact hl
              | ok l =>
                rw [h6] at hl
                dsimp only at hl
                rw [hl, thn]
                dsimp only
                rw [if_neg (show ¬ ((0 : Int) ≠ 0) by simp)]
                by_cases h256 : l.2.getD 256 0 = 0
                · rw [if_pos h256, if_pos (.inl h256)]
                  exact wrong_yes' rfl
                · rw [if_neg h256]
                  rcases table_cases (zsOf (l.2.take (a.1 + 257))) with ⟨hx, hx2⟩ | ⟨hx, hx2⟩
                  · rw [hx2, thn, lsOf_zs]
                    rcases table_cases (zsOf (l.2.drop (a.1 + 257))) with ⟨hy, hy2⟩ | ⟨hy, hy2⟩
                    · rw [hy2, thn, lsOf_zs, if_neg (by rintro (g | g | g); exact h256 g; exact g hx; exact g hy)]
                    · rw [hy2, thb, if_pos (.inr (.inr hy))]
                      exact wrong_yes' rfl
                  · rw [hx2, thb, if_pos (.inr (.inl hx))]
                    exact wrong_yes' rfl
            · rw [ht2, thb, if_yes (s := ⟨sz.1, s.out, s.ks, 0⟩) rfl ht, if_pos (show (8 : Int) ≠ 0 by decide)]
set_option maxRecDepth 100000 in
theorem sim_block (row : List Bool) (s : St) (h : s.e = 0) : match blockR row s.pos s.out with
    | .ok a => ublock row s = (a.1, ⟨a.2.2.1, a.2.2.2, s.ks ++ [a.2.1], 0⟩)
    | .bad z => (ublock row s).2.e = z := by
  unfold ublock blockR
  cases h1 : getR row s.pos 1 with
  | bad z =>
    have hz := nz_get _ _ _ z h1
    rw [get_bad h h1, thb]
    dsimp only
    rw [get_stuck (s := ⟨s.pos, s.out, s.ks, z⟩) hz]
    dsimp only
    rw [if_pos hz]
  | ok l =>
    rw [get_ok h h1, thn]
    dsimp only
    cases h2 : getR row l.2 2 with
    | bad z =>
      have hz := nz_get _ _ _ z h2
      rw [get_bad (s := ⟨l.2, s.out, s.ks, 0⟩) rfl h2, thb]
      dsimp only
      rw [if_pos hz]
    | ok k =>
      rw [get_ok (s := ⟨l.2, s.out, s.ks, 0⟩) rfl h2, thn]
      dsimp only
      rw [if_neg (show ¬ ((0 : Int) ≠ 0) by simp)]
      by_cases h0 : k.1 = 0
      · rw [if_pos h0, if_pos h0]
        have hs := sim_stored row ⟨k.2, s.out, s.ks, 0⟩ rfl
        dsimp only at hs
        cases h3 : storedR row k.2 s.out with
        | bad z =>
          rw [h3] at hs
          have hs : (ustored row _).e = z := hs
          rw [thb]
          exact hs
        | ok x =>
          rw [h3] at hs
          have hs : ustored row _ = _ := hs
          rw [hs, thn]
          rfl
      · rw [if_neg h0, if_neg h0]
        have body : ∀ (A B : List Nat) (q : Nat), match (bodyR row A B (row.length + 1) q s.out).then_ fun x => Inf.Rd.ok (l.1 == 1, k.1, x.1, x.2) with
            | .ok a => ((l.1 == 1, ukind (ubody row A B (row.length + 1) ⟨q, s.out, s.ks, 0⟩) k.1) : Bool × St) = (a.1, ⟨a.2.2.1, a.2.2.2, s.ks ++ [a.2.1], 0⟩)
            | .bad z => (ukind (ubody row A B (row.length + 1) ⟨q, s.out, s.ks, 0⟩) k.1).e = z := by
          intro A B q
          have hb := sim_body row A B (row.length + 1) ⟨q, s.out, s.ks, 0⟩ rfl
          dsimp only at hb
          cases h4 : bodyR row A B (row.length + 1) q s.out with
          | bad z =>
            rw [h4] at hb
            have hb : (ubody row A B _ _).e = z := hb
            rw [thb]
            exact hb
          | ok x =>
            rw [h4] at hb
            have hb : ubody row A B _ _ = _ := hb
            rw [hb, thn]
            rfl
        by_cases hk1 : k.1 = 1
        · rw [if_pos hk1, if_pos hk1]
          dsimp only
          rw [if_neg (show ¬ ((0 : Int) ≠ 0) by simp)]
          exact body fixedA fixedB k.2
        · rw [if_neg hk1, if_neg hk1]
          by_cases hk2 : k.1 = 2
          · rw [if_pos hk2, if_pos hk2]
            have ht := sim_told row ⟨k.2, s.out, s.ks, 0⟩ rfl
            dsimp only at ht
            cases h5 : headR row k.2 with
            | bad z =>
              have hz := nz_head _ _ z h5
              rw [h5] at ht
              dsimp only at ht
              rw [thb, if_pos (by rw [ht]; exact hz)]
              exact ht
            | ok x =>
              rw [h5] at ht
              dsimp only at ht
              rw [ht, thn]
              dsimp only
              rw [if_neg (show ¬ ((0 : Int) ≠ 0) by simp)]
              exact body x.2.1 x.2.2 x.1
          · rw [if_neg hk2, if_neg hk2, wrong_yes (s := ⟨k.2, s.out, s.ks, 0⟩) rfl]
            dsimp only
            rw [if_pos (show (4 : Int) ≠ 0 by decide)]
theorem sim_blocks (row : List Bool) : ∀ (f : Nat) (s : St), s.e = 0 → match blocksR row f s.pos s.out s.ks with
    | .ok a => ublocks row f s = ⟨a.1, a.2.1, a.2.2, 0⟩
    | .bad z => (ublocks row f s).e = z
  | 0, s, h => by unfold ublocks; exact wrong_yes' h
  | f + 1, s, h => by
    unfold ublocks blocksR
    have hb := sim_block row s h
    cases h1 : blockR row s.pos s.out with
    | bad z =>
      have hz := nz_block _ _ _ z h1
      rw [h1] at hb
      dsimp only at hb
      rw [thb, if_neg (fun hh => hz (by rw [← hb]; exact hh.2))]
      exact hb
    | ok a =>
      rw [h1] at hb
      dsimp only at hb
      rw [hb, thn]
      dsimp only
      cases ha : a.1 with
      | true => rw [if_pos rfl, if_neg (by simp)]
      | false =>
        rw [if_neg (by simp), if_pos ⟨rfl, rfl⟩]
        exact sim_blocks row f ⟨a.2.2.1, a.2.2.2, s.ks ++ [a.2.1], 0⟩ rfl
end Go.Proofs.YthpdcnjaodjjmaaGreat.Unp

/- package reliquaryref: codes in the order of places; the plain law. No program in sight. -/
namespace Go.Proofs.YthpdcnjaodjjmaaGreat.Cds
open Go.Proofs.YthpdcnjaodjjmaaGreat.Bits Go.Proofs.YthpdcnjaodjjmaaGreat.Code Go.Proofs.YthpdcnjaodjjmaaGreat.SP
set_option linter.unusedVariables false

/-- the places that have a code: their lengths, where they stand -/
def placesL (ls : List Nat) : List (Nat × Nat) := ls.zipIdx.filter fun p => p.1 != 0
def skey (e : Nat × Nat) : Nat := e.1
theorem placesL_take (ls : List Nat) (k : Nat) (h : k < ls.length) : placesL (ls.take (k + 1)) = placesL (ls.take k) ++ if ls[k] = 0 then [] else [(ls[k], k)] := by
  unfold placesL
  rw [List.take_succ_eq_append_getElem h, List.zipIdx_append, List.filter_append, List.length_take, Nat.min_eq_left (by omega)]
  congr 1
  by_cases h0 : ls[k] = 0
  · simp [h0]
  · simp [h0]
theorem placesL_len (ls : List Nat) : (placesL ls).length ≤ ls.length := by
  unfold placesL
  refine Nat.le_trans (List.length_filter_le _ _) ?_
  simp
theorem placesL_mem (ls : List Nat) (p : Nat × Nat) : p ∈ placesL ls ↔ p.2 < ls.length ∧ ls.getD p.2 0 = p.1 ∧ p.1 ≠ 0 := by
  unfold placesL
  rw [List.mem_filter, List.mem_zipIdx_iff_getElem?]
  constructor
  · rintro ⟨h1, h2⟩
    have h3 := (List.getElem?_eq_some_iff.1 h1)
    obtain ⟨h4, h5⟩ := h3
    refine ⟨h4, ?_, by simpa using h2⟩
    rw [List.getD_eq_getElem?_getD, h1]; rfl
  · rintro ⟨h1, h2, h3⟩
    refine ⟨?_, by simpa using h3⟩
    rw [List.getD_eq_getElem?_getD, List.getElem?_eq_getElem h1] at h2
    rw [List.getElem?_eq_getElem h1]
    simpa using h2
/-- by length, then by place -/
def lePl (x y : Nat × Nat) : Prop := x.1 < y.1 ∨ (x.1 = y.1 ∧ x.2 ≤ y.2)
theorem lePl_anti (x y : Nat × Nat) (h : lePl x y) (k : lePl y x) : x = y := by
  obtain ⟨a, b⟩ := x
  obtain ⟨c, d⟩ := y
  unfold lePl at h k
  simp only at h k
  have h1 : a = c := by omega
  have h2 : b = d := by omega
  rw [h1, h2]
theorem placesL_rise (ls : List Nat) : (placesL ls).Pairwise (fun x y => x.2 < y.2) := by
  unfold placesL
  refine List.Pairwise.filter _ ?_
  have := rise_zip ls 0
  exact this
theorem ordN_rise (ls : List Nat) (n : Nat) : (ordN ls n).Pairwise (· < ·) := by
  unfold ordN
  exact List.Pairwise.filter _ List.pairwise_lt_range
theorem stab_le (l : List (Nat × Nat)) (h : l.Pairwise (fun x y => x.2 < y.2)) : (stab skey l).Pairwise lePl := by
  unfold stab
  rw [List.pairwise_map]
  have hs := stabT_sorted skey l
  have hm : ∀ t ∈ stabT skey l, ∃ hh : t.2 < l.length, l[t.2] = t.1 := by
    intro t ht
    have := (stabT_perm skey l).mem_iff.1 ht
    rw [List.mem_zipIdx_iff_getElem?] at this
    obtain ⟨h1, h2⟩ := List.getElem?_eq_some_iff.1 this
    exact ⟨h1, h2⟩
  refine List.Pairwise.imp_of_mem ?_ hs
  intro x y hx hy hxy
  obtain ⟨h1, h2⟩ := hm x hx
  obtain ⟨h3, h4⟩ := hm y hy
  unfold lexP skey at hxy
  unfold lePl
  rcases hxy with h5 | ⟨h5, h6⟩
  · exact .inl h5
  · refine .inr ⟨h5, ?_⟩
    rcases Nat.lt_or_ge x.2 y.2 with h7 | h7
    · have := List.pairwise_iff_getElem.1 h x.2 y.2 h1 h3 h7
      rw [h2, h4] at this
      omega
    · have e : x.2 = y.2 := by omega
      have : x.1 = y.1 := by rw [← h2, ← h4]; simp [e]
      rw [this]
      exact Nat.le_refl _
theorem ordUp_mem (ls : List Nat) (s i : Nat) : i ∈ ordUp ls s ↔ i < ls.length ∧ ls.getD i 0 ≠ 0 ∧ ls.getD i 0 ≤ s := by
  unfold ordUp
  simp only [List.mem_flatMap, List.mem_range, ordN_mem]
  constructor
  · rintro ⟨k, h1, h2, h3⟩
    exact ⟨h2, by omega, by omega⟩
  · rintro ⟨h1, h2, h3⟩
    exact ⟨ls.getD i 0 - 1, by omega, h1, by omega⟩
theorem ordUp_le_pl (ls : List Nat) : ∀ s, ((ordUp ls s).map fun i => (ls.getD i 0, i)).Pairwise lePl
  | 0 => by simp [ordUp]
  | s + 1 => by
    rw [ordUp_succ, List.map_append, List.pairwise_append]
    refine ⟨ordUp_le_pl ls s, ?_, ?_⟩
    · rw [List.pairwise_map]
      refine List.Pairwise.imp_of_mem ?_ (ordN_rise ls (s + 1))
      intro a b ha hb hab
      have h1 := (ordN_mem ls (s + 1) a).1 ha
      have h2 := (ordN_mem ls (s + 1) b).1 hb
      exact .inr ⟨by rw [h1.2, h2.2], Nat.le_of_lt hab⟩
    · intro x hx y hy
      obtain ⟨a, ha, rfl⟩ := List.mem_map.1 hx
      obtain ⟨b, hb, rfl⟩ := List.mem_map.1 hy
      have h1 := (ordUp_mem ls s a).1 ha
      have h2 := (ordN_mem ls (s + 1) b).1 hb
      exact .inl (by show ls.getD a 0 < ls.getD b 0; omega)
theorem nodup_of_le {l : List (Nat × Nat)} (h : l.Pairwise fun x y => x.2 < y.2) : l.Nodup := List.Pairwise.imp (fun hxy e => by rw [e] at hxy; omega) h
theorem ordUp_nodup (ls : List Nat) : ∀ s, (ordUp ls s).Nodup
  | 0 => by simp [ordUp]
  | s + 1 => by
    rw [ordUp_succ, List.nodup_append]
    refine ⟨ordUp_nodup ls s, List.Pairwise.imp (fun h e => by omega) (ordN_rise ls (s + 1)), ?_⟩
    intro a ha b hb e
    subst e
    have h1 := (ordUp_mem ls s a).1 ha
    have h2 := (ordN_mem ls (s + 1) a).1 hb
    omega
/-- sorted, they stand by length, then by place -/
theorem stab_places (ls : List Nat) (hl : ∀ x ∈ ls, x ≤ 15) : stab skey (placesL ls) = (ordUp ls 15).map fun i => (ls.getD i 0, i) := by
  refine sorted_unique (le := lePl) lePl_anti _ _ ?_ (stab_le _ (placesL_rise ls)) (ordUp_le_pl ls 15)
  refine (stab_perm skey (placesL ls)).trans ?_
  refine (List.perm_ext_iff_of_nodup (nodup_of_le (placesL_rise ls)) ?_).2 ?_
  · exact List.Pairwise.map _ (fun a b h e => h (by injection e)) (ordUp_nodup ls 15)
  · intro p
    rw [placesL_mem, List.mem_map]
    constructor
    · rintro ⟨h1, h2, h3⟩
      refine ⟨p.2, (ordUp_mem ls 15 p.2).2 ⟨h1, by rw [h2]; exact h3, ?_⟩, by rw [h2]⟩
      rw [List.getD_eq_getElem?_getD, List.getElem?_eq_getElem h1]
      exact hl _ (List.getElem_mem h1)
    · rintro ⟨i, hi, rfl⟩
      have := (ordUp_mem ls 15 i).1 hi
      exact ⟨this.1, rfl, this.2.1⟩
/-! ### the codes, one behind the other -/
def wt (ls : List Nat) (o : List Nat) : Nat := (o.map fun i => 2 ^ (15 - ls.getD i 0)).sum
theorem wt_append (ls a b : List Nat) : wt ls (a ++ b) = wt ls a + wt ls b := by unfold wt; rw [List.map_append, List.sum_append]
theorem wt_same (ls : List Nat) (n : Nat) : ∀ o : List Nat, (∀ i ∈ o, ls.getD i 0 = n) → wt ls o = o.length * 2 ^ (15 - n)
  | [], _ => by simp [wt]
  | i :: o, h => by
    have h1 := wt_same ls n o (fun j hj => h j (List.mem_cons_of_mem _ hj))
    unfold wt at h1 ⊢
    rw [List.map_cons, List.sum_cons, h1, h i List.mem_cons_self, List.length_cons, Nat.succ_mul]
    omega
theorem twice_pow (A c s : Nat) (hs : s + 1 ≤ 15) : A * 2 ^ (15 - s) + c * 2 ^ (15 - (s + 1)) = (2 * A + c) * 2 ^ (15 - (s + 1)) := by
  rw [show 15 - s = (15 - (s + 1)) + 1 by omega, Nat.pow_succ, Nat.add_mul, Nat.mul_comm 2 A, Nat.mul_assoc A 2, Nat.mul_comm 2 (2 ^ (15 - (s + 1)))]
theorem wt_up (ls : List Nat) : ∀ s, s ≤ 15 → wt ls (ordUp ls s) = (first ls s + cnt ls s) * 2 ^ (15 - s)
  | 0, _ => by simp [wt, ordUp, first, cnt]
  | s + 1, hs => by
    rw [ordUp_succ, wt_append, wt_up ls s (by omega), wt_same ls (s + 1) _ (fun i hi => ((ordN_mem ls (s + 1) i).1 hi).2)]
    have e : first ls (s + 1) = 2 * (first ls s + cnt ls s) := rfl
    have c : cnt ls (s + 1) = (ordN ls (s + 1)).length := rfl
    rw [e, c, twice_pow _ _ _ hs]
theorem nodup_at {l : List Nat} (h : l.Nodup) (i j : Nat) (hi : i < l.length) (hj : j < l.length) (e : l[i] = l[j]) : i = j := by
  have hp := List.pairwise_iff_getElem.1 h
  rcases Nat.lt_trichotomy i j with h1 | h1 | h1
  · exact absurd e (hp i j hi hj h1)
  · exact h1
  · exact absurd e.symm (hp j i hj hi h1)
theorem code_at (ls : List Nat) : ∀ (s : Nat), s ≤ 15 → ∀ (pre post : List Nat) (i : Nat), ordUp ls s = pre ++ i :: post → codeOf ls i * 2 ^ (15 - ls.getD i 0) = wt ls pre
  | 0, _, pre, post, i, h => by simp [ordUp] at h
  | s + 1, hs, pre, post, i, h => by
    rw [ordUp_succ] at h
    rcases List.append_eq_append_iff.1 h with ⟨a, h1, h2⟩ | ⟨a, h1, h2⟩
    · have hn : ls.getD i 0 = s + 1 := ((ordN_mem ls (s + 1) i).1 (by rw [h2]; simp)).2
      have hi : i < ls.length := ((ordN_mem ls (s + 1) i).1 (by rw [h2]; simp)).1
      have hr : rank ls i = a.length := by
        have h3 := ordN_rank ls i hi
        rw [hn, h2] at h3
        have hnd : (a ++ i :: post).Nodup := by rw [← h2]; exact List.Pairwise.imp (fun h e => by omega) (ordN_rise ls (s + 1))
        have h4 : (a ++ i :: post)[a.length]? = some i := by rw [List.getElem?_append_right (Nat.le_refl _), Nat.sub_self]; rfl
        obtain ⟨l1, e1⟩ := List.getElem?_eq_some_iff.1 h3
        obtain ⟨l2, e2⟩ := List.getElem?_eq_some_iff.1 h4
        exact nodup_at hnd _ _ l1 l2 (e1.trans e2.symm)
      have hc : codeOf ls i = first ls (s + 1) + a.length := by
        unfold codeOf
        rw [if_neg (by omega), hn, hr]
      rw [h1, wt_append, wt_up ls s (by omega), wt_same ls (s + 1) a (fun j hj => ((ordN_mem ls (s + 1) j).1 (by rw [h2]; exact List.mem_append_left _ hj)).2), hc, hn]
      have e : first ls (s + 1) = 2 * (first ls s + cnt ls s) := rfl
      rw [e, twice_pow _ _ _ hs]
    · cases a with
      | nil =>
        rw [List.nil_append] at h2
        rw [List.append_nil] at h1
        have hn : ls.getD i 0 = s + 1 := ((ordN_mem ls (s + 1) i).1 (by rw [← h2]; simp)).2
        have hi : i < ls.length := ((ordN_mem ls (s + 1) i).1 (by rw [← h2]; simp)).1
        have hr : rank ls i = 0 := by
          have h3 := ordN_rank ls i hi
          rw [hn, ← h2] at h3
          have hnd : (i :: post).Nodup := by rw [h2]; exact List.Pairwise.imp (fun h e => by omega) (ordN_rise ls (s + 1))
          have h4 : (i :: post)[0]? = some i := rfl
          obtain ⟨l1, e1⟩ := List.getElem?_eq_some_iff.1 h3
          obtain ⟨l2, e2⟩ := List.getElem?_eq_some_iff.1 h4
          exact nodup_at hnd _ _ l1 l2 (e1.trans e2.symm)
        have hc : codeOf ls i = first ls (s + 1) := by
          unfold codeOf
          rw [if_neg (by omega), hn, hr]; rfl
        rw [← h1, wt_up ls s (by omega), hc, hn]
        have e : first ls (s + 1) = 2 * (first ls s + cnt ls s) := rfl
        have := twice_pow (first ls s + cnt ls s) 0 s hs
        rw [Nat.zero_mul, Nat.add_zero, Nat.add_zero] at this
        rw [e, this]
      | cons b a =>
        rw [List.cons_append] at h2
        injection h2 with h3 h4
        subst h3
        exact code_at ls s (by omega) pre a i h1
/-- the code of a place, its highest bit first -/
def codeS (ls : List Nat) (i : Nat) : List Bool := hi (ls.getD i 0) (codeOf ls i)
theorem codeS_none (ls : List Nat) (i : Nat) (h : ls.getD i 0 = 0) : codeS ls i = [] := by unfold codeS; rw [h]; rfl
theorem hi_succ (n c : Nat) : hi (n + 1) c = hi n (c / 2) ++ [decide (c % 2 = 1)] := by
  unfold hi numBits
  rw [List.range_succ_eq_map, List.map_cons, List.reverse_cons, List.map_map]
  congr 1
  · congr 1
    apply List.map_congr_left
    intro k _
    show c.testBit (k + 1) = (c / 2).testBit k
    rw [Nat.testBit_succ]
  · rw [Nat.testBit_zero]
/-- one more: the last '0' turns, and all behind it -/
theorem hi_more : ∀ (n c : Nat), c + 1 < 2 ^ n → ∃ a t, hi n c = a ++ false :: List.replicate t true ∧ hi n (c + 1) = a ++ true :: List.replicate t false
  | 0, c, h => by simp at h
  | n + 1, c, h => by
    rw [Nat.pow_succ] at h
    rcases Nat.mod_two_eq_zero_or_one c with h0 | h0
    · refine ⟨hi n (c / 2), 0, ?_, ?_⟩
      · rw [hi_succ, h0]; rfl
      · rw [hi_succ, show (c + 1) / 2 = c / 2 by omega, show (c + 1) % 2 = 1 by omega]; rfl
    · obtain ⟨a, t, h1, h2⟩ := hi_more n (c / 2) (by omega)
      refine ⟨a, t + 1, ?_, ?_⟩
      · rw [hi_succ, h0, h1, List.replicate_succ']
        simp
      · rw [hi_succ, show (c + 1) / 2 = c / 2 + 1 by omega, show (c + 1) % 2 = 0 by omega, h2, List.replicate_succ']
        simp
theorem hi_far : ∀ (d n c : Nat), hi (n + d) (c * 2 ^ d) = hi n c ++ List.replicate d false
  | 0, n, c => by simp
  | d + 1, n, c => by
    rw [← Nat.add_assoc, hi_succ, Nat.pow_succ, ← Nat.mul_assoc, Nat.mul_div_cancel _ (by decide), hi_far d n c, Nat.mul_mod_left, List.replicate_succ']
    simp
/-- the first code -/
theorem codeS_first (ls : List Nat) (i : Nat) (post : List Nat) (h : ordUp ls 15 = i :: post) : codeS ls i = List.replicate (ls.getD i 0) false := by
  have h1 := code_at ls 15 (Nat.le_refl _) [] post i h
  have h0 : codeOf ls i = 0 := by
    rcases Nat.mul_eq_zero.1 (h1.trans (by rfl)) with h | h
    · exact h
    · exact absurd h (Nat.pos_iff_ne_zero.1 (Nat.two_pow_pos _))
  unfold codeS
  rw [h0]
  have := hi_far (ls.getD i 0) 0 0
  rw [Nat.zero_add, Nat.zero_mul] at this
  rw [this]; rfl
/-- the code behind a code -/
theorem codeS_next (ls : List Nat) (hl : ∀ x ∈ ls, x ≤ 15) (hr : room ls ≤ 32768) (pre post : List Nat) (i j : Nat) (h : ordUp ls 15 = pre ++ i :: j :: post) :
    ls.getD i 0 ≤ ls.getD j 0 ∧ ∃ a t, codeS ls i = a ++ false :: List.replicate t true ∧ codeS ls j = (a ++ true :: List.replicate t false) ++ List.replicate (ls.getD j 0 - ls.getD i 0) false := by
  have hi_ := (ordUp_mem ls 15 i).1 (by rw [h]; simp)
  have hj_ := (ordUp_mem ls 15 j).1 (by rw [h]; simp)
  have hle : ls.getD i 0 ≤ ls.getD j 0 := by
    have hp := ordUp_le_pl ls 15
    rw [h, List.map_append, List.pairwise_append] at hp
    have h2 := hp.2.1
    rw [List.map_cons, List.pairwise_cons] at h2
    have h3 := h2.1 (ls.getD j 0, j) (by simp)
    unfold lePl at h3
    simp only at h3
    omega
  have h1 := code_at ls 15 (Nat.le_refl _) pre (j :: post) i h
  have h2 := code_at ls 15 (Nat.le_refl _) (pre ++ [i]) post j (by rw [h]; simp)
  rw [wt_append, ← h1, show wt ls [i] = 2 ^ (15 - ls.getD i 0) by simp [wt]] at h2
  have hd : codeOf ls j = (codeOf ls i + 1) * 2 ^ (ls.getD j 0 - ls.getD i 0) := by
    have hp : (2 : Nat) ^ (15 - ls.getD i 0) = 2 ^ (ls.getD j 0 - ls.getD i 0) * 2 ^ (15 - ls.getD j 0) := by rw [← Nat.pow_add]; congr 1; omega
    have h3 : codeOf ls j * 2 ^ (15 - ls.getD j 0) = ((codeOf ls i + 1) * 2 ^ (ls.getD j 0 - ls.getD i 0)) * 2 ^ (15 - ls.getD j 0) := by
      rw [h2, hp, Nat.add_mul (codeOf ls i) 1, Nat.add_mul, Nat.one_mul, Nat.mul_assoc]
    exact Nat.eq_of_mul_eq_mul_right (Nat.two_pow_pos _) h3
  have hlt := codeOf_lt ls j hj_.1 hj_.2.1 hl hr
  have hlt2 : codeOf ls i + 1 < 2 ^ ls.getD i 0 := by
    rw [hd] at hlt
    have hp : (2 : Nat) ^ ls.getD j 0 = 2 ^ ls.getD i 0 * 2 ^ (ls.getD j 0 - ls.getD i 0) := by rw [← Nat.pow_add]; congr 1; omega
    rw [hp] at hlt
    exact Nat.lt_of_mul_lt_mul_right hlt
  obtain ⟨a, t, e1, e2⟩ := hi_more (ls.getD i 0) (codeOf ls i) hlt2
  refine ⟨hle, a, t, e1, ?_⟩
  unfold codeS
  rw [hd, ← e2]
  have := hi_far (ls.getD j 0 - ls.getD i 0) (ls.getD i 0) (codeOf ls i + 1)
  rw [show ls.getD i 0 + (ls.getD j 0 - ls.getD i 0) = ls.getD j 0 by omega] at this
  exact this
end Go.Proofs.YthpdcnjaodjjmaaGreat.Cds

/- reliquaryref: rows of '0' and '1': OfNumber, BytesOf. -/
namespace Go.Proofs.YthpdcnjaodjjmaaGreat.Bits
open Go Go.RowKit Go.Proofs.YthpdcnjaodjjmaaGreat
set_option linter.unusedVariables false

def ch (b : Bool) : UInt8 := if b then 49 else 48
def rowS (l : List Bool) : List UInt8 := l.map ch
def rowV (l : List Bool) : Value := .string (strB (rowS l))
theorem strB_size (l : List UInt8) : (strB l).size = l.length := by simp [strB, ByteArray.size]
theorem rowS_length (l : List Bool) : (rowS l).length = l.length := by simp [rowS]
theorem strB_append (a b : List UInt8) : strB a ++ strB b = strB (a ++ b) := by
  apply ByteArray.ext
  simp [strB]
theorem rowS_append (a b : List Bool) : rowS (a ++ b) = rowS a ++ rowS b := by simp [rowS]
theorem num_drop (l : List Bool) (k : Nat) (h : k < l.length) : num (l.drop k) = 2 * num (l.drop (k + 1)) + l[k].toNat := by
  rw [List.drop_eq_getElem_cons h]; simp [num]; omega
theorem num_bound (l : List Bool) (k : Nat) (h : l.length ≤ 60) : num (l.drop k) < 1152921504606846976 := by
  have h1 := num_lt (l.drop k)
  have h2 : 2 ^ (l.drop k).length ≤ 2 ^ 60 := Nat.pow_le_pow_right (by omega) (by simp; omega)
  omega
theorem ch_get (l : List Bool) (j : Nat) (h : j < l.length) {hs : j < (strB (rowS l)).size} : (((strB (rowS l))[j]'hs).toNat : Int) = 48 + (l[j].toNat : Int) := by
  have : (strB (rowS l))[j]'hs = ch l[j] := by
    show (strB (rowS l)).data[j]'hs = _
    simp [strB, rowS]
  rw [this]
  cases l[j] <;> simp [ch]
set_option maxHeartbeats 400000 in
theorem ofNumber_any (l : List Bool) (w : World) (hl : l.length ≤ 60) :
    Calls Tryz.prog 60 #[rowV l] w fun e w' => e = .returned (.int .i64 (num l : Nat)) ∧ w' = w := by
  unfold rowV
  have hsz : (strB (rowS l)).size ≤ 60 := by rw [strB_size, rowS_length]; exact hl
  go_enter Tryz.func60, Tryz.ntmps60
  go_wp2_with fail
  go_loopw [4, 3] (fun i m wr => ∃ k : Nat, k ≤ l.length ∧ i = .int .i64 ((k : Int) - 1) ∧ m = .int .i64 ((num (l.drop k) : Nat) : Int) ∧ wr = w) (fun i _ _ => ((intOf i) + 1).toNat)
  case atStart =>
    refine ⟨l.length, Nat.le_refl _, ?_, ?_, rfl⟩
    · rw [strB_size, rowS_length]
    · simp [num]
  case round =>
    obtain ⟨k, hk, rfl, rfl, rfl⟩ := hrel
    by_cases hlt : 0 < k
    · obtain ⟨j, rfl⟩ : ∃ j, k = j + 1 := ⟨k - 1, by omega⟩
      have Hn := Lib.hid (num_drop l j (by omega))
      have hb := num_bound l (j + 1) hl
      have hjs : j < (strB (rowS l)).size := by rw [strB_size, rowS_length]; omega
      generalize num (l.drop (j + 1)) = m at *
      have e : (((j + 1 : Nat) : Int) - 1) = (j : Int) := by omega
      rw [e]
      clear e
      go_wp2_with fail
      go_roundw
      case rel =>
        refine ⟨j, by omega, rfl, ?_, trivial⟩
        apply int_eq
        rw [Hn.out, ch_get l j (by omega)]
        have : l[j].toNat ≤ 1 := by cases l[j] <;> simp
        omega
      case measure => simp [intOf]
    · obtain rfl : k = 0 := by omega
      go_wp2_with fail
      go_ret
      exact ⟨by simp, rfl⟩
end Go.Proofs.YthpdcnjaodjjmaaGreat.Bits
