/- texts joined: BlkOne BlkPack EqualB BlkBest BlkFact InfCodes InfBlock InfCatch. -/
import Derived.Test.YthpdcnjaodjjmaaBaseQ6
import Derived.Test.YthpdcnjaodjjmaaBaseQ5
import Derived.Test.YthpdcnjaodjjmaaBaseQ2
import Derived.Test.YthpdcnjaodjjmaaBaseQ1
import Derived.Test.YthpdcnjaodjjmaaProg
import Derived.Laws.BytesArg
import Derived.Shelf.Bytes.SlSmallAll
import Derived.Lib.SlBytesConst
import Derived.Tactics
import Derived.Tactics2
import Derived.Defers
import Derived.Recover
/- package block: one block: the walk. -/
namespace Go.Proofs.Ythpdcnjaodjjmaa.Blk
open Go Go.RowKit Go.Proofs.Ythpdcnjaodjjmaa Go.Proofs.Ythpdcnjaodjjmaa.Bits Go.Proofs.Ythpdcnjaodjjmaa.Code Go.Proofs.Ythpdcnjaodjjmaa.Inf Go.Proofs.Ythpdcnjaodjjmaa.Match Go.Proofs.Ythpdcnjaodjjmaa.SP Go.Proofs.Ythpdcnjaodjjmaa.Rt
set_option linter.unusedVariables false

theorem chk_far : ∀ (ts : List Tok) (n : Int), 0 ≤ n → (chkAll ts n).1 = 0 → n ≤ (chkAll ts n).2 ∧ ∀ t ∈ ts, t.2.1 = 0 ∨ t.2.2 ≤ (chkAll ts n).2
  | [], n, _, _ => ⟨Int.le_refl _, fun t h => by cases h⟩
  | x :: ts, n, hn, hk => by
    simp only [chkAll] at hk ⊢
    have hx : (chkTok n x).1 = 0 := by
      by_cases h1 : (chkTok n x).1 = 0
      · exact h1
      · rw [if_neg h1] at hk; exact hk
    rw [if_pos hx] at hk ⊢
    have key : n ≤ (chkTok n x).2 ∧ (x.2.1 = 0 ∨ x.2.2 ≤ n) := by
      unfold chkTok at hx ⊢
      by_cases h1 : x.2.1 = 0
      · rw [if_pos h1] at hx ⊢
        by_cases h2 : x.2.2 ≠ 0
        · rw [if_pos h2] at hx; simp at hx
        · rw [if_neg h2]; dsimp only; omega
      · rw [if_neg h1] at hx ⊢
        by_cases h2 : x.1 ≠ 0
        · rw [if_pos h2] at hx; simp at hx
        · rw [if_neg h2] at hx ⊢
          by_cases h3 : x.2.1 < 3 ∨ 258 < x.2.1 ∨ x.2.2 < 1
          · rw [if_pos h3] at hx; simp at hx
          · rw [if_neg h3] at hx ⊢
            by_cases h4 : n < x.2.2
            · rw [if_pos h4] at hx; simp at hx
            · rw [if_neg h4]; dsimp only; omega
    obtain ⟨h1, h2⟩ := chk_far ts (chkTok n x).2 (by omega) hk
    refine ⟨by omega, fun t ht => ?_⟩
    rcases List.mem_cons.1 ht with rfl | ht
    · rcases key.2 with h | h
      · exact .inl h
      · exact .inr (by omega)
    · exact h2 t ht
theorem toks_S (b : List UInt8) (hb : b.length ≤ 3000) : ∀ t ∈ toks b, TokS t := by
  intro t ht
  have h0 := toks_chk b
  have h1 := chk_tokR (toks b) 0 h0 t ht
  have h2 := (chk_far (toks b) 0 (Int.le_refl _) h0).2 t ht
  have h3 : (chkAll (toks b) 0).2 = (b.length : Int) := by unfold toks; rw [chkAll_titer, titer_end]
  rw [h3] at h2
  unfold TokS
  rcases h1 with h | ⟨a1, a2, a3⟩
  · exact .inl h
  · rcases h2 with h | h
    · exact .inl h
    · exact .inr ⟨t.2.1.toNat, t.2.2.toNat, by omega, by omega, by omega, by omega, by omega, by omega⟩
theorem tokS_fine {t : Tok} (h : TokS t) : TokFine t := by
  rcases h with h | ⟨s, f, h1, h2, h3, _⟩
  · exact .inl h
  · exact .inr ⟨s, f, h1, h2, by omega⟩
/-- bytes that are read, while nothing below 'base' turns -/
def LowBy (w : World) (base : Nat) (B : Option Addr) (xs : List UInt8) : Prop := ∀ w' : World, (∀ k, k < base → w'.heap[k]? = w.heap[k]?) → ByAt w' B xs
theorem LowBy.of {w : World} {B : Option Addr} {xs : List UInt8} {base : Nat} (h : ByAt w B xs) (hb : w.heap.size ≤ base) : LowBy w base B xs := fun w' hw hp => by
  obtain ⟨b, o, e, hc⟩ := h hp
  refine ⟨b, o, e, fun j v hj => ?_⟩
  have h1 := hc j v hj
  have hlt := block_lt_of_cell h1
  have h2 := hw b (by simpa using Nat.lt_of_lt_of_le hlt hb)
  rw [← h1]
  simp only [World.cell?, h2]
theorem LowBy.at {w w' : World} {base : Nat} {B : Option Addr} {xs : List UInt8} (h : LowBy w base B xs) (hw : ∀ k, k < base → w'.heap[k]? = w.heap[k]?) : ByAt w' B xs := h w' hw
theorem LowBy.trans {w w' : World} {base : Nat} {B : Option Addr} {xs : List UInt8} (h : LowBy w base B xs) (hw : ∀ k, k < base → w'.heap[k]? = w.heap[k]?) : LowBy w' base B xs := fun w2 h2 => h w2 fun k hk => (h2 k hk).trans (hw k hk)
theorem headB_len (lit far : List Nat) (l1 : lit.length = 286) (l2 : far.length = 30) (c1 : Cd lit) (c2 : Cd far) : (headB lit far).length ≤ 5000 := by
  rw [headB_eq]
  have tA := trim_len lit 257 (by omega)
  have tB := trim_len far 1 (by omega)
  have cA := trim_cd lit 257 c1
  have cB := trim_cd far 1 c2
  generalize trimP lit 257 = A at *
  generalize trimP far 1 = B at *
  have h15 : ∀ y ∈ A ++ B, y ≤ 15 := fun y hy => by
    rcases List.mem_append.1 hy with hy | hy
    · exact cA.le y hy
    · exact cB.le y hy
  have hR := runsP_len (A ++ B)
  have hok := runs_ok (A ++ B) h15
  generalize runsP (A ++ B) = R at *
  obtain ⟨s1, s2, s3, s4⟩ := sizes_fine R
  have h1 := flat_le (runB (sizesP R)) 14 R (fun x hx => runB_len _ x (fun i => getD_le _ 7 i s3) (hok x hx))
  have h2 := flat_le (fun n => numBits n 3) 3 (trimP (orderL.map fun k => (sizesP R).getD k 0) 4) (fun x _ => by rw [numBits_length]; exact Nat.le_refl _)
  have h3 := trim_len (orderL.map fun k => (sizesP R).getD k 0) 4 (by rw [List.length_map]; decide)
  have h4 : (orderL.map fun k => (sizesP R).getD k 0).length = 19 := by rw [List.length_map]; rfl
  rw [List.length_append] at hR
  simp only [List.length_append, numBits_length]
  omega
theorem bodyB_len (l : List Tok) (lit far : List Nat) (c1 : Cd lit) (c2 : Cd far) : (bodyB l lit far).length ≤ 48 * l.length + 15 := by
  unfold bodyB
  have h1 := flat_le (tokB lit far) 48 l (fun x _ => tokB_len lit far x c1 c2)
  have h2 := c1.bits (i := 256)
  rw [List.length_append, codeB_length]; omega
theorem oneB_len (r : List Bool) (b : List UInt8) (kind : Nat) (last : Bool) (hb : b.length ≤ 3000) : (oneB r b kind last).length ≤ r.length + 200000 := by
  rw [oneB_eq, List.length_append]
  unfold oneS
  by_cases h0 : kind = 0
  · rw [if_pos h0]
    simp only [List.length_append, numBits_length, List.length_singleton, List.length_replicate, bitsL_length]
    omega
  · rw [if_neg h0]
    have ht := toks_len b
    by_cases h1 : kind = 1
    · rw [if_pos h1]
      have := bodyB_len (toks b) fixedA fixedB fixA_cd fixB_cd
      simp only [List.length_append, numBits_length, List.length_singleton]
      omega
    · rw [if_neg h1]
      obtain ⟨l1, l2, l3, l4, _, _⟩ := lens_all (toks b)
      have h2 := bodyB_len (toks b) _ _ l3 l4
      have h3 := headB_len _ _ l1 l2 l3 l4
      simp only [List.length_append, numBits_length, List.length_singleton]
      omega
set_option maxRecDepth 100000 in
theorem fill_any (base p : Nat) (r : List Bool) (w : World) (hr : RowAt w base p r) :
    Calls Try.prog 35 #[.pointer (some ⟨p, 0, none⟩)] w fun e w' => e = .returned (.tuple #[]) ∧ RowAt w' base p (pad r) ∧ Keeps base rowT w w' := by
  obtain ⟨hbp, v, hB, hO⟩ := hr
  have hc1 := hB.c1
  have hf1 := hB.frozen 1
  have HB := Lib.hid hB
  have HO := Lib.hid hO
  have HRes : Hid (RowAt (w.setCell ⟨p, 1, none⟩ (.int .i64 0)) base p (pad r)) := Lib.hid (by
    refine ⟨hbp, v, ?_, ?_⟩
    · have e : (pad r).length % 8 = 0 := by rw [pad_length]; omega
      rw [e]; exact hB.s1 _
    · rw [pack_pad]; exact ownsRow_setCell_other hO (own_ne hO hB (by decide)) _)
  have HK := Lib.hid ((Keeps.refl base rowT w).setBlk hB (by simp [rowT]) hbp 1 (.int .i64 0))
  clear hB hO
  go_enter Try.func35, Try.ntmps35
  go_wp2_with fail
  go_end0
  exact ⟨rfl, HRes.out, HK.out⟩
set_option maxRecDepth 100000 in
set_option maxHeartbeats 8000000 in
theorem one_any (base p : Nat) (r : List Bool) (B : Option Addr) (nb cb : Nat) (xs : List UInt8) (kind : Nat) (last : Bool) (w : World) (hr : RowAt w base p r) (hB : LowBy w base B xs) (hn : xs.length = nb) (hnc : nb ≤ cb) (hx : nb ≤ 3000) (hk : kind ≤ 2) (hrl : r.length ≤ 50000000) :
    Calls Try.prog 22 #[.pointer (some ⟨p, 0, none⟩), .slice B nb cb, .int .i64 (kind : Int), .bool last] w fun e w' => e = .returned (.tuple #[]) ∧ RowAt w' base p (oneB r xs kind last) ∧ Keeps base rowT w w' := by
  have HR := Lib.hid hr
  have HB := Lib.hid hB
  have Hn := Lib.hid hn
  clear hr hB hn
  cases last
  · go_enter Try.func22, Try.ntmps22
    have HP := Lib.hid (put_any base p 0 1 r w HR.out (by omega) (by omega) (by omega))
    rw [show numBits 0 1 = [false] from rfl, show (((0 : Nat) : Int)) = 0 from rfl] at HP
    go_wp2_with fail
    refine (HP.out).mono ?_
    rintro e w1 ⟨rfl, hrow, hkp⟩
    have HR1 := Lib.hid hrow
    have HK1 := Lib.hid hkp
    clear hrow hkp HP HR
    have hl1 : (r ++ [false]).length ≤ 50000001 := by rw [List.length_append, List.length_singleton]; omega
    have HP := Lib.hid (put_any base p kind 2 _ w1 HR1.out (by omega) (by omega) (by omega))
    go_wp2_with fail
    refine (HP.out).mono ?_
    rintro e w2 ⟨rfl, hrow, hkp⟩
    have HR2 := Lib.hid hrow
    have HK2 := Lib.hid (HK1.out.trans hkp)
    clear hrow hkp HP HR1 HK1
    have hl2 : (r ++ [false] ++ numBits kind 2).length ≤ 50000003 := by rw [List.length_append, numBits_length]; omega
    by_cases hk0 : kind = 0
    · have hk0' : ((kind : Int) == 0) = true := by simp; omega
      have Hone : Hid (oneB r xs kind false = pad (r ++ [false] ++ numBits kind 2) ++ numBits nb 16 ++ numBits (65535 - nb) 16 ++ bitsL xs) := Lib.hid (by unfold oneB; rw [if_pos hk0, Hn.out, hk0])
      generalize r ++ [false] ++ numBits kind 2 = r2 at *
      have HP := Lib.hid (fill_any base p r2 w2 HR2.out)
      have hl3 : (pad r2).length ≤ 50000020 := by rw [pad_length]; omega
      clear hl1 hl2 hk0 HR2
      go_wp2_with fail
      refine (HP.out).mono ?_
      rintro e w3 ⟨rfl, hrow, hkp⟩
      have HR3 := Lib.hid hrow
      have HK3 := Lib.hid (HK2.out.trans hkp)
      clear hrow hkp HP HK2
      have HP := Lib.hid (put_any base p nb 16 _ w3 HR3.out (by omega) (by omega) (by omega))
      go_wp2_with fail
      refine (HP.out).mono ?_
      rintro e w4 ⟨rfl, hrow, hkp⟩
      have HR4 := Lib.hid hrow
      have HK4 := Lib.hid (HK3.out.trans hkp)
      clear hrow hkp HP HK3 HR3
      have hl4 : (pad r2 ++ numBits nb 16).length ≤ 50000040 := by rw [List.length_append, numBits_length]; omega
      have hxor := xor16 nb (by omega)
      have HP := Lib.hid (put_any base p (65535 - nb) 16 _ w4 HR4.out (by omega) (by omega) (by omega))
      go_wp2_with fail
      refine (HP.out).mono ?_
      rintro e w5 ⟨rfl, hrow, hkp⟩
      have HR5 := Lib.hid hrow
      have HK5 := Lib.hid (HK4.out.trans hkp)
      clear hrow hkp HP HK4 HR4 hxor
      have hl5 : (pad r2 ++ numBits nb 16 ++ numBits (65535 - nb) 16).length ≤ 50000060 := by rw [List.length_append, numBits_length]; omega
      generalize pad r2 ++ numBits nb 16 ++ numBits (65535 - nb) 16 = r5 at *
      go_wp2_with fail
      go_loopw [37] (fun i wr => ∃ k : Nat, k ≤ nb ∧ i = .int .i64 (k : Int) ∧ RowAt wr base p (r5 ++ bitsL (xs.take k)) ∧ Keeps base rowT w wr) (fun i _ => nb - (intOf i).toNat)
      case atStart => exact ⟨0, Nat.zero_le _, rfl, by rw [List.take_zero]; show RowAt w5 base p (r5 ++ []); rw [List.append_nil]; exact HR5.out, HK5.out⟩
      case round =>
        clear HR5 HK5
        obtain ⟨k, hk, rfl, hrow, hkp⟩ := hrel
        have HRk := Lib.hid hrow
        have HKk := Lib.hid hkp
        clear hrow hkp
        by_cases hlt : k < nb
        · have hkl : k < xs.length := by rw [Hn.out]; exact hlt
          obtain ⟨b, o, rfl, hc⟩ := (HB.out.at HKk.out.block).get hkl
          have Htk : Hid (bitsL (xs.take (k + 1)) = bitsL (xs.take k) ++ bitsOf xs[k]) := Lib.hid (by rw [take_snoc xs k hkl, bitsL_append]; simp [bitsL])
          have hbl : (bitsL (xs.take k)).length ≤ 24000 := by rw [bitsL_length, List.length_take]; omega
          generalize xs[k] = x at *
          obtain ⟨q, hq⟩ : ∃ q : Nat, (q : Int) = n8 x := ⟨x.toNat, rfl⟩
          have hx8 := n8_bd x
          have Hq : Hid (bitsOf x = numBits q 8) := Lib.hid (by unfold bitsOf; rw [show x.toNat = q by unfold n8 at hq; omega])
          rw [← hq] at hc hx8
          clear hq
          have hconv : IntKind.i64.wrap (q : Int) = (q : Int) := IntWalk.i64_in _ (by omega)
          have HP := Lib.hid (put_any base p q 8 _ wr HRk.out (by omega) (by omega) (by rw [List.length_append]; omega))
          rw [List.append_assoc, ← Hq.out, ← Htk.out] at HP
          clear HRk hbl
          go_wp2_with fail
          refine (HP.out).mono ?_
          rintro e w6 ⟨rfl, hrow, hkp⟩
          have HR6 := Lib.hid hrow
          have HK6 := Lib.hid (HKk.out.trans hkp)
          clear hrow hkp HP HKk hc
          go_wp2_with fail
          go_roundw
          case rel => exact ⟨k + 1, by omega, by go_num, HR6.out, HK6.out⟩
          case measure => simp [intOf]; omega
        · obtain rfl : nb = k := by omega
          have Hal : Hid (xs.take nb = xs) := Lib.hid (List.take_of_length_le (by rw [Hn.out]; exact Nat.le_refl _))
          rw [Hal.out, ← Hone.out] at HRk
          go_wp2_with fail
          refine bodyPost_ret (results_none rfl _ _ _) rfl ?_
          exact ⟨rfl, HRk.out, HKk.out⟩
    · have hk0' : ((kind : Int) == 0) = false := by rw [beq_eq_false_iff_ne]; omega
      have HTk := Lib.hid (tokens_yes B nb cb xs w2 Hn.out hnc hx (HB.out.at HK2.out.block))
      go_wp2_with fail
      refine (HTk.out).mono ?_
      rintro e w3 ⟨⟨v3, rfl, ho3⟩, hb3⟩
      obtain ⟨A3, c3, rfl, hc3, _, hk3, _⟩ := own_kat ho3
      have HR3 := Lib.hid (HR2.out.below hb3)
      have HK3 := Lib.hid (HK2.out.trans (Keeps.of_below hb3 (Nat.le_trans HR2.out.1 (Nat.le_of_lt HR2.out.lt))))
      have HT3 : Hid (KAt w3 107 A3 ((toks xs).flatMap tokD)) := Lib.hid hk3
      have HTS := Lib.hid (toks_S xs (by rw [Hn.out]; exact hx))
      have htl := toks_len xs
      rw [Hn.out] at htl
      have Hlen := Lib.hid (lens_all (toks xs))
      have Hone1 : Hid (kind = 1 → oneB r xs kind false = r ++ [false] ++ numBits kind 2 ++ bodyB (toks xs) fixedA fixedB) := Lib.hid (fun h => by subst h; unfold oneB; rw [if_neg (by omega), if_pos rfl])
      have Hone2 : Hid (kind = 2 → oneB r xs kind false = r ++ [false] ++ numBits kind 2 ++ headB (lensP (toks xs)).1 (lensP (toks xs)).2 ++ bodyB (toks xs) (lensP (toks xs)).1 (lensP (toks xs)).2) := Lib.hid (fun h => by subst h; unfold oneB; rw [if_neg (by omega), if_neg (by omega)])
      clear HTk ho3 hb3 hk3 HR2 HK2
      generalize r ++ [false] ++ numBits kind 2 = r2 at *
      generalize toks xs = tx at *
      have Hm := Lib.hid (show tx.length = tx.length from rfl)
      generalize hmt : tx.length = mt at *
      have Hmt := Lib.hid hmt
      clear hmt Hm hk0
      go_wp2_with fail
      refine (fixed_any _).mono ?_
      rintro e w4 ⟨A4, c4, B4, d4, rfl, hoA, hoB, hb4⟩
      have HR4 := Lib.hid (HR3.out.below hb4)
      have HK4 := Lib.hid (HK3.out.trans (Keeps.of_below hb4 (Nat.le_trans HR3.out.1 (Nat.le_of_lt HR3.out.lt))))
      have HT4 := Lib.hid (HT3.out.below hb4)
      have HFA : Hid (KAt w4 3 A4 (fixedA.map Code.natV)) := Lib.hid (by obtain ⟨A, c, e, _, _, h, _⟩ := own_kat hoA; injection e with e; subst e; exact h)
      have HFB : Hid (KAt w4 3 B4 (fixedB.map Code.natV)) := Lib.hid (by obtain ⟨A, c, e, _, _, h, _⟩ := own_kat hoB; injection e with e; subst e; exact h)
      clear hoA hoB hb4 HR3 HK3 HT3
      by_cases hk2 : kind = 2
      · have hk2' : ((kind : Int) == 2) = true := by simp; omega
        have Ho := Lib.hid (Hone2.out hk2)
        have HL := Lib.hid (blens_any A3 mt c3 tx w4 Hmt.out (by omega) HT4.out.slat (fun t ht => tokS_fine (HTS.out t ht)))
        clear Hone1 Hone2 HFA HFB hk2
        go_wp2_with fail
        refine (HL.out).mono ?_
        rintro e w5 ⟨⟨v1, v2, rfl, ho1, ho2⟩, hb5⟩
        obtain ⟨l1, l2, l3, l4, l5, l6⟩ := Hlen.out
        obtain ⟨A5, a5, rfl, ha5, _, hk5, _⟩ := own_kat ho1
        obtain ⟨B5, b5, rfl, hb5', _, hk6, _⟩ := own_kat ho2
        obtain ⟨bA, oA, _, rfl, _, _⟩ := hk5 (by rw [List.length_map, l1]; omega)
        obtain ⟨bB, oB, _, rfl, _, _⟩ := hk6 (by rw [List.length_map, l2]; omega)
        have HR5 := Lib.hid (HR4.out.below hb5)
        have HK5 := Lib.hid (HK4.out.trans (Keeps.of_below hb5 (Nat.le_trans HR4.out.1 (Nat.le_of_lt HR4.out.lt))))
        have HT5 := Lib.hid (HT4.out.below hb5)
        have HL5 := Lib.hid hk5
        have HL6 := Lib.hid hk6
        have HH := Lib.hid (head_any base p r2 bA oA a5 bB oB b5 (lensP tx).1 (lensP tx).2 w5 HR5.out HL5.out HL6.out l1 l2 ha5 hb5' l3 l4 (by omega))
        have hhl := headB_len (lensP tx).1 (lensP tx).2 l1 l2 l3 l4
        have L1 := Lib.hid l1
        have L2 := Lib.hid l2
        have L3 := Lib.hid l3
        have L4 := Lib.hid l4
        clear HL ho1 ho2 hb5 hk5 hk6 HR4 HK4 HT4 l1 l2 l3 l4 l5 l6 Hlen
        generalize (lensP tx).1 = LA at *
        generalize (lensP tx).2 = LB at *
        go_wp2_with fail
        refine (HH.out).mono ?_
        rintro e w6 ⟨rfl, hrow, hkp⟩
        have HR6 := Lib.hid hrow
        have HK6 := Lib.hid (HK5.out.trans hkp)
        have HB := Lib.hid (body_any base p _ A3 mt c3 tx (some ⟨bA, oA, none⟩) 286 a5 LA (some ⟨bB, oB, none⟩) 30 b5 LB w6 HR6.out (HT5.out.keeps hkp (by decide)) (HL5.out.keeps hkp (by decide)) (HL6.out.keeps hkp (by decide))
          Hmt.out (by omega) L1.out L2.out (by omega) (by omega) (by omega) (by omega) L3.out L4.out HTS.out (by rw [List.length_append]; omega))
        rw [← Ho.out] at HB
        clear hrow hkp HH
        go_wp2_with fail
        refine (HB.out).mono ?_
        rintro e w7 ⟨rfl, hrow, hkp⟩
        have HR7 := Lib.hid hrow
        have HK7 := Lib.hid (HK6.out.trans hkp)
        clear hrow hkp
        go_wp2_with fail
        go_end0
        exact ⟨rfl, HR7.out, HK7.out⟩
      · have hk2' : ((kind : Int) == 2) = false := by rw [beq_eq_false_iff_ne]; omega
        have Ho := Lib.hid (Hone1.out (by rw [beq_eq_false_iff_ne] at hk0'; omega))
        have HB := Lib.hid (body_any base p r2 A3 mt c3 tx A4 288 c4 fixedA B4 32 d4 fixedB w4 HR4.out HT4.out HFA.out HFB.out
          Hmt.out (by omega) (by simp [fixedA]) (by simp [fixedB]) (by omega) (by omega) (by omega) (by omega) fixA_cd fixB_cd HTS.out (by omega))
        rw [← Ho.out] at HB
        clear Hone1 Hone2 hk2
        go_wp2_with fail
        refine (HB.out).mono ?_
        rintro e w7 ⟨rfl, hrow, hkp⟩
        have HR7 := Lib.hid hrow
        have HK7 := Lib.hid (HK4.out.trans hkp)
        clear hrow hkp
        go_wp2_with fail
        go_end0
        exact ⟨rfl, HR7.out, HK7.out⟩
  · go_enter Try.func22, Try.ntmps22
    have HP := Lib.hid (put_any base p 1 1 r w HR.out (by omega) (by omega) (by omega))
    rw [show numBits 1 1 = [true] from rfl, show (((1 : Nat) : Int)) = 1 from rfl] at HP
    go_wp2_with fail
    refine (HP.out).mono ?_
    rintro e w1 ⟨rfl, hrow, hkp⟩
    have HR1 := Lib.hid hrow
    have HK1 := Lib.hid hkp
    clear hrow hkp HP HR
    have hl1 : (r ++ [true]).length ≤ 50000001 := by rw [List.length_append, List.length_singleton]; omega
    have HP := Lib.hid (put_any base p kind 2 _ w1 HR1.out (by omega) (by omega) (by omega))
    go_wp2_with fail
    refine (HP.out).mono ?_
    rintro e w2 ⟨rfl, hrow, hkp⟩
    have HR2 := Lib.hid hrow
    have HK2 := Lib.hid (HK1.out.trans hkp)
    clear hrow hkp HP HR1 HK1
    have hl2 : (r ++ [true] ++ numBits kind 2).length ≤ 50000003 := by rw [List.length_append, numBits_length]; omega
    by_cases hk0 : kind = 0
    · have hk0' : ((kind : Int) == 0) = true := by simp; omega
      have Hone : Hid (oneB r xs kind true = pad (r ++ [true] ++ numBits kind 2) ++ numBits nb 16 ++ numBits (65535 - nb) 16 ++ bitsL xs) := Lib.hid (by unfold oneB; rw [if_pos hk0, Hn.out, hk0])
      generalize r ++ [true] ++ numBits kind 2 = r2 at *
      have HP := Lib.hid (fill_any base p r2 w2 HR2.out)
      have hl3 : (pad r2).length ≤ 50000020 := by rw [pad_length]; omega
      clear hl1 hl2 hk0 HR2
      go_wp2_with fail
      refine (HP.out).mono ?_
      rintro e w3 ⟨rfl, hrow, hkp⟩
      have HR3 := Lib.hid hrow
      have HK3 := Lib.hid (HK2.out.trans hkp)
      clear hrow hkp HP HK2
      have HP := Lib.hid (put_any base p nb 16 _ w3 HR3.out (by omega) (by omega) (by omega))
      go_wp2_with fail
      refine (HP.out).mono ?_
      rintro e w4 ⟨rfl, hrow, hkp⟩
      have HR4 := Lib.hid hrow
      have HK4 := Lib.hid (HK3.out.trans hkp)
      clear hrow hkp HP HK3 HR3
      have hl4 : (pad r2 ++ numBits nb 16).length ≤ 50000040 := by rw [List.length_append, numBits_length]; omega
      have hxor := xor16 nb (by omega)
      have HP := Lib.hid (put_any base p (65535 - nb) 16 _ w4 HR4.out (by omega) (by omega) (by omega))
      go_wp2_with fail
      refine (HP.out).mono ?_
      rintro e w5 ⟨rfl, hrow, hkp⟩
      have HR5 := Lib.hid hrow
      have HK5 := Lib.hid (HK4.out.trans hkp)
      clear hrow hkp HP HK4 HR4 hxor
      have hl5 : (pad r2 ++ numBits nb 16 ++ numBits (65535 - nb) 16).length ≤ 50000060 := by rw [List.length_append, numBits_length]; omega
      generalize pad r2 ++ numBits nb 16 ++ numBits (65535 - nb) 16 = r5 at *
      go_wp2_with fail
      go_loopw [37] (fun i wr => ∃ k : Nat, k ≤ nb ∧ i = .int .i64 (k : Int) ∧ RowAt wr base p (r5 ++ bitsL (xs.take k)) ∧ Keeps base rowT w wr) (fun i _ => nb - (intOf i).toNat)
      case atStart => exact ⟨0, Nat.zero_le _, rfl, by rw [List.take_zero]; show RowAt w5 base p (r5 ++ []); rw [List.append_nil]; exact HR5.out, HK5.out⟩
      case round =>
        clear HR5 HK5
        obtain ⟨k, hk, rfl, hrow, hkp⟩ := hrel
        have HRk := Lib.hid hrow
        have HKk := Lib.hid hkp
        clear hrow hkp
        by_cases hlt : k < nb
        · have hkl : k < xs.length := by rw [Hn.out]; exact hlt
          obtain ⟨b, o, rfl, hc⟩ := (HB.out.at HKk.out.block).get hkl
          have Htk : Hid (bitsL (xs.take (k + 1)) = bitsL (xs.take k) ++ bitsOf xs[k]) := Lib.hid (by rw [take_snoc xs k hkl, bitsL_append]; simp [bitsL])
          have hbl : (bitsL (xs.take k)).length ≤ 24000 := by rw [bitsL_length, List.length_take]; omega
          generalize xs[k] = x at *
          obtain ⟨q, hq⟩ : ∃ q : Nat, (q : Int) = n8 x := ⟨x.toNat, rfl⟩
          have hx8 := n8_bd x
          have Hq : Hid (bitsOf x = numBits q 8) := Lib.hid (by unfold bitsOf; rw [show x.toNat = q by unfold n8 at hq; omega])
          rw [← hq] at hc hx8
          clear hq
          have hconv : IntKind.i64.wrap (q : Int) = (q : Int) := IntWalk.i64_in _ (by omega)
          have HP := Lib.hid (put_any base p q 8 _ wr HRk.out (by omega) (by omega) (by rw [List.length_append]; omega))
          rw [List.append_assoc, ← Hq.out, ← Htk.out] at HP
          clear HRk hbl
          go_wp2_with fail
          refine (HP.out).mono ?_
          rintro e w6 ⟨rfl, hrow, hkp⟩
          have HR6 := Lib.hid hrow
          have HK6 := Lib.hid (HKk.out.trans hkp)
          clear hrow hkp HP HKk hc
          go_wp2_with fail
          go_roundw
          case rel => exact ⟨k + 1, by omega, by go_num, HR6.out, HK6.out⟩
          case measure => simp [intOf]; omega
        · obtain rfl : nb = k := by omega
          have Hal : Hid (xs.take nb = xs) := Lib.hid (List.take_of_length_le (by rw [Hn.out]; exact Nat.le_refl _))
          rw [Hal.out, ← Hone.out] at HRk
          go_wp2_with fail
          refine bodyPost_ret (results_none rfl _ _ _) rfl ?_
          exact ⟨rfl, HRk.out, HKk.out⟩
    · have hk0' : ((kind : Int) == 0) = false := by rw [beq_eq_false_iff_ne]; omega
      have HTk := Lib.hid (tokens_yes B nb cb xs w2 Hn.out hnc hx (HB.out.at HK2.out.block))
      go_wp2_with fail
      refine (HTk.out).mono ?_
      rintro e w3 ⟨⟨v3, rfl, ho3⟩, hb3⟩
      obtain ⟨A3, c3, rfl, hc3, _, hk3, _⟩ := own_kat ho3
      have HR3 := Lib.hid (HR2.out.below hb3)
      have HK3 := Lib.hid (HK2.out.trans (Keeps.of_below hb3 (Nat.le_trans HR2.out.1 (Nat.le_of_lt HR2.out.lt))))
      have HT3 : Hid (KAt w3 107 A3 ((toks xs).flatMap tokD)) := Lib.hid hk3
      have HTS := Lib.hid (toks_S xs (by rw [Hn.out]; exact hx))
      have htl := toks_len xs
      rw [Hn.out] at htl
      have Hlen := Lib.hid (lens_all (toks xs))
      have Hone1 : Hid (kind = 1 → oneB r xs kind true = r ++ [true] ++ numBits kind 2 ++ bodyB (toks xs) fixedA fixedB) := Lib.hid (fun h => by subst h; unfold oneB; rw [if_neg (by omega), if_pos rfl])
      have Hone2 : Hid (kind = 2 → oneB r xs kind true = r ++ [true] ++ numBits kind 2 ++ headB (lensP (toks xs)).1 (lensP (toks xs)).2 ++ bodyB (toks xs) (lensP (toks xs)).1 (lensP (toks xs)).2) := Lib.hid (fun h => by subst h; unfold oneB; rw [if_neg (by omega), if_neg (by omega)])
      clear HTk ho3 hb3 hk3 HR2 HK2
      generalize r ++ [true] ++ numBits kind 2 = r2 at *
      generalize toks xs = tx at *
      have Hm := Lib.hid (show tx.length = tx.length from rfl)
      generalize hmt : tx.length = mt at *
      have Hmt := Lib.hid hmt
      clear hmt Hm hk0
      go_wp2_with fail
      refine (fixed_any _).mono ?_
      rintro e w4 ⟨A4, c4, B4, d4, rfl, hoA, hoB, hb4⟩
      have HR4 := Lib.hid (HR3.out.below hb4)
      have HK4 := Lib.hid (HK3.out.trans (Keeps.of_below hb4 (Nat.le_trans HR3.out.1 (Nat.le_of_lt HR3.out.lt))))
      have HT4 := Lib.hid (HT3.out.below hb4)
      have HFA : Hid (KAt w4 3 A4 (fixedA.map Code.natV)) := Lib.hid (by obtain ⟨A, c, e, _, _, h, _⟩ := own_kat hoA; injection e with e; subst e; exact h)
      have HFB : Hid (KAt w4 3 B4 (fixedB.map Code.natV)) := Lib.hid (by obtain ⟨A, c, e, _, _, h, _⟩ := own_kat hoB; injection e with e; subst e; exact h)
      clear hoA hoB hb4 HR3 HK3 HT3
      by_cases hk2 : kind = 2
      · have hk2' : ((kind : Int) == 2) = true := by simp; omega
        have Ho := Lib.hid (Hone2.out hk2)
        have HL := Lib.hid (blens_any A3 mt c3 tx w4 Hmt.out (by omega) HT4.out.slat (fun t ht => tokS_fine (HTS.out t ht)))
        clear Hone1 Hone2 HFA HFB hk2
        go_wp2_with fail
        refine (HL.out).mono ?_
        rintro e w5 ⟨⟨v1, v2, rfl, ho1, ho2⟩, hb5⟩
        obtain ⟨l1, l2, l3, l4, l5, l6⟩ := Hlen.out
        obtain ⟨A5, a5, rfl, ha5, _, hk5, _⟩ := own_kat ho1
        obtain ⟨B5, b5, rfl, hb5', _, hk6, _⟩ := own_kat ho2
        obtain ⟨bA, oA, _, rfl, _, _⟩ := hk5 (by rw [List.length_map, l1]; omega)
        obtain ⟨bB, oB, _, rfl, _, _⟩ := hk6 (by rw [List.length_map, l2]; omega)
        have HR5 := Lib.hid (HR4.out.below hb5)
        have HK5 := Lib.hid (HK4.out.trans (Keeps.of_below hb5 (Nat.le_trans HR4.out.1 (Nat.le_of_lt HR4.out.lt))))
        have HT5 := Lib.hid (HT4.out.below hb5)
        have HL5 := Lib.hid hk5
        have HL6 := Lib.hid hk6
        have HH := Lib.hid (head_any base p r2 bA oA a5 bB oB b5 (lensP tx).1 (lensP tx).2 w5 HR5.out HL5.out HL6.out l1 l2 ha5 hb5' l3 l4 (by omega))
        have hhl := headB_len (lensP tx).1 (lensP tx).2 l1 l2 l3 l4
        have L1 := Lib.hid l1
        have L2 := Lib.hid l2
        have L3 := Lib.hid l3
        have L4 := Lib.hid l4
        clear HL ho1 ho2 hb5 hk5 hk6 HR4 HK4 HT4 l1 l2 l3 l4 l5 l6 Hlen
        generalize (lensP tx).1 = LA at *
        generalize (lensP tx).2 = LB at *
        go_wp2_with fail
        refine (HH.out).mono ?_
        rintro e w6 ⟨rfl, hrow, hkp⟩
        have HR6 := Lib.hid hrow
        have HK6 := Lib.hid (HK5.out.trans hkp)
        have HB := Lib.hid (body_any base p _ A3 mt c3 tx (some ⟨bA, oA, none⟩) 286 a5 LA (some ⟨bB, oB, none⟩) 30 b5 LB w6 HR6.out (HT5.out.keeps hkp (by decide)) (HL5.out.keeps hkp (by decide)) (HL6.out.keeps hkp (by decide))
          Hmt.out (by omega) L1.out L2.out (by omega) (by omega) (by omega) (by omega) L3.out L4.out HTS.out (by rw [List.length_append]; omega))
        rw [← Ho.out] at HB
        clear hrow hkp HH
        go_wp2_with fail
        refine (HB.out).mono ?_
        rintro e w7 ⟨rfl, hrow, hkp⟩
        have HR7 := Lib.hid hrow
        have HK7 := Lib.hid (HK6.out.trans hkp)
        clear hrow hkp
        go_wp2_with fail
        go_end0
        exact ⟨rfl, HR7.out, HK7.out⟩
      · have hk2' : ((kind : Int) == 2) = false := by rw [beq_eq_false_iff_ne]; omega
        have Ho := Lib.hid (Hone1.out (by rw [beq_eq_false_iff_ne] at hk0'; omega))
        have HB := Lib.hid (body_any base p r2 A3 mt c3 tx A4 288 c4 fixedA B4 32 d4 fixedB w4 HR4.out HT4.out HFA.out HFB.out
          Hmt.out (by omega) (by simp [fixedA]) (by simp [fixedB]) (by omega) (by omega) (by omega) (by omega) fixA_cd fixB_cd HTS.out (by omega))
        rw [← Ho.out] at HB
        clear Hone1 Hone2 hk2
        go_wp2_with fail
        refine (HB.out).mono ?_
        rintro e w7 ⟨rfl, hrow, hkp⟩
        have HR7 := Lib.hid hrow
        have HK7 := Lib.hid (HK4.out.trans hkp)
        clear hrow hkp
        go_wp2_with fail
        go_end0
        exact ⟨rfl, HR7.out, HK7.out⟩
end Go.Proofs.Ythpdcnjaodjjmaa.Blk

/- package block: Pack: the walk. -/
namespace Go.Proofs.Ythpdcnjaodjjmaa.Blk
open Go Go.RowKit Go.Proofs.Ythpdcnjaodjjmaa Go.Proofs.Ythpdcnjaodjjmaa.Bits Go.Proofs.Ythpdcnjaodjjmaa.Code Go.Proofs.Ythpdcnjaodjjmaa.Inf Go.Proofs.Ythpdcnjaodjjmaa.SP Go.Proofs.Ythpdcnjaodjjmaa.Rt
set_option linter.unusedVariables false

theorem slat_low {w w' : World} {A : Option Addr} {cs : List Value} {base : Nat} (h : SlAt w A cs) (hb : w.heap.size = base) (hw : ∀ k, k < base → w'.heap[k]? = w.heap[k]?) : SlAt w' A cs := fun hp => by
  obtain ⟨b, o, e, hc⟩ := h hp
  refine ⟨b, o, e, fun j v hj => ?_⟩
  have h1 := hc j v hj
  have hlt := block_lt_of_cell h1
  have h2 := hw b (by rw [← hb]; exact hlt)
  rw [← h1]
  simp only [World.cell?, h2]
theorem packE_zero (parts : List (List UInt8)) (ks : List Int) : ∀ f i n : Nat, packE parts ks f i n = 0 → (∀ j, i ≤ j → j < i + f → 0 ≤ ks.getD j 0 ∧ ks.getD j 0 ≤ 2 ∧ j < 40) ∧ (f ≠ 0 → n ≤ 3000) ∧ n + ((parts.drop i).take f).flatten.length ≤ max n 3000
  | 0, i, n, _ => ⟨fun j h1 h2 => by omega, fun h => absurd rfl h, by simp; omega⟩
  | f + 1, i, n, h => by
    unfold packE at h
    by_cases h1 : 3000 < n + (parts.getD i []).length ∨ 40 ≤ i
    · rw [if_pos h1] at h; simp at h
    · rw [if_neg h1] at h
      by_cases h2 : ks.getD i 0 < 0 ∨ 2 < ks.getD i 0
      · rw [if_pos h2] at h; simp at h
      · rw [if_neg h2] at h
        obtain ⟨a1, a2, a3⟩ := packE_zero parts ks f (i + 1) (n + (parts.getD i []).length) h
        refine ⟨fun j h3 h4 => ?_, fun _ => by omega, ?_⟩
        · by_cases hj : j = i
          · subst hj; omega
          · exact a1 j (by omega) (by omega)
        · rcases Nat.lt_or_ge i parts.length with hi | hi
          · rw [List.drop_eq_getElem_cons hi, List.take_succ_cons, List.flatten_cons, List.length_append]
            rw [List.getD_eq_getElem?_getD, List.getElem?_eq_getElem hi] at a3 h1
            simp only [Option.getD_some] at a3 h1
            omega
          · rw [List.drop_of_length_le hi]; simp; omega
theorem packE_all (parts : List (List UInt8)) (ks : List Int) (h : packE parts ks parts.length 0 0 = 0) (hl : ks.length = parts.length) : (∀ k ∈ ks, 0 ≤ k ∧ k ≤ 2) ∧ parts.length ≤ 40 ∧ parts.flatten.length ≤ 3000 := by
  obtain ⟨a1, a2, a3⟩ := packE_zero parts ks parts.length 0 0 h
  rw [List.drop_zero, List.take_length] at a3
  refine ⟨fun k hk => ?_, ?_, by omega⟩
  · obtain ⟨i, hi, rfl⟩ := List.mem_iff_getElem.1 hk
    have := a1 i (by omega) (by omega)
    rw [List.getD_eq_getElem?_getD, List.getElem?_eq_getElem hi] at this
    exact ⟨this.1, this.2.1⟩
  · rcases Nat.eq_zero_or_pos parts.length with h0 | h0
    · omega
    · have := (a1 (parts.length - 1) (by omega) (by omega)).2.2
      omega
theorem part_len (parts : List (List UInt8)) (i : Nat) : (parts.getD i []).length ≤ parts.flatten.length := by
  rcases Nat.lt_or_ge i parts.length with hi | hi
  · have := flat_take parts i hi
    have h2 := flat_len parts (i + 1)
    rw [this, List.length_append] at h2
    omega
  · rw [List.getD_eq_getElem?_getD, List.getElem?_eq_none hi]; simp
theorem packK_len (parts : List (List UInt8)) (kinds : List Nat) (h : parts.flatten.length ≤ 3000) : ∀ i, (packK parts kinds i).length ≤ 200000 * i
  | 0 => by show 0 ≤ _; omega
  | i + 1 => by
    have h1 := packK_len parts kinds h i
    have h2 := oneB_len (packK parts kinds i) (parts.getD i []) (kinds.getD i 0) (decide (i + 1 = parts.length)) (by have := part_len parts i; omega)
    show (oneB _ _ _ _).length ≤ _
    omega
/-- what is wrong with parts and kinds -/
def packErr (parts : List (List UInt8)) (ks : List Int) : Int := if parts.length = 0 ∨ parts.length ≠ ks.length then 4 else packE parts ks parts.length 0 0
def PackPost (parts : List (List UInt8)) (ks : List Int) (w : World) (e : Ending) (w' : World) : Prop :=
  (packErr parts ks ≠ 0 ∧ e = .returned (.tuple #[.slice none 0 0, .int .i64 (packErr parts ks)]) ∨
   packErr parts ks = 0 ∧ ∃ v, e = .returned (.tuple #[v, .int .i64 0]) ∧ w'.ownsRow w.heap.size 5 1 v (packB parts (lsOf ks)).length ((packB parts (lsOf ks)).map u8v)) ∧ Below w.heap.size w w'
set_option maxRecDepth 100000 in
set_option maxHeartbeats 4000000 in
theorem bpack_any (PA KA : Option Addr) (n cn m cm : Nat) (ps : List (Value × List UInt8)) (ks : List Int) (w : World) (hn : ps.length = n) (hm : ks.length = m) (hnx : n ≤ maxLen) (hmx : m ≤ maxLen) (hP : SlAt w PA (ps.map (·.1))) (hd : ∀ q ∈ ps, IsBytes w q.1 q.2) (hq : ∀ q ∈ ps, q.2.length ≤ 140737488351232) (hK : InAt w KA ks) :
    Calls Try.prog 10 #[.slice PA n cn, .slice KA m cm] w (PackPost (ps.map (·.2)) ks w) := by
  have HN := Lib.hid hn
  have HM := Lib.hid hm
  have HP := Lib.hid hP
  have HD := Lib.hid hd
  have HQ := Lib.hid hq
  have HK := Lib.hid hK
  have lp : (ps.map (·.2)).length = n := by rw [List.length_map, hn]
  have Hp : Hid (∀ k (h : k < ps.length), (ps.map (·.2)).getD k [] = ps[k].2) := Lib.hid (fun k h => by rw [List.getD_eq_getElem?_getD, List.getElem?_map, List.getElem?_eq_getElem h]; rfl)
  unfold maxLen at hnx hmx
  generalize ps.map (·.2) = parts at *
  have LP := Lib.hid lp
  clear hn hm hP hd hq hK lp
  go_enter Try.func10, Try.ntmps10
  by_cases h0 : n = 0
  · have hz : ((n : Int) == 0) = true := by simp; omega
    have He : Hid (packErr parts ks = 4) := Lib.hid (by unfold packErr; rw [if_pos (by rw [LP.out]; exact .inl h0)])
    clear h0
    go_wp2_with fail
    go_ret2
    exact ⟨.inl ⟨by rw [He.out]; decide, by rw [He.out]; rfl⟩, Below.refl _ _⟩
  · have hz : ((n : Int) == 0) = false := by rw [beq_eq_false_iff_ne]; omega
    by_cases hnm : n = m
    · subst hnm
      have He : Hid (packErr parts ks = packE parts ks n 0 0) := Lib.hid (by unfold packErr; rw [if_neg (by rw [LP.out, HM.out]; omega), LP.out])
      have hne : ((n : Int) == (n : Int)) = true := by simp
      clear h0
      go_wp2_with fail
      go_loop [6, 24] (fun vs i => ∃ k s : Nat, k ≤ n ∧ i = .int .i64 (k : Int) ∧ vs = .int .i64 (s : Int) ∧ s ≤ 3000 ∧ packE parts ks n 0 0 = packE parts ks (n - k) k s) (fun _ i => n - (intOf i).toNat)
      case atStart => exact ⟨0, 0, Nat.zero_le _, rfl, rfl, by omega, rfl⟩
      case round =>
        obtain ⟨k, s, hk, rfl, rfl, hs, hpk⟩ := hrel
        have Hpk := Lib.hid hpk
        clear hpk
        by_cases hlt : k < n
        · have hkl : k < ps.length := by rw [HN.out]; exact hlt
          obtain ⟨bP, oP, rfl, hcP⟩ := HP.out.get (k := k) (by rw [List.length_map]; exact hkl)
          rw [List.getElem_map] at hcP
          obtain ⟨A, c, hv, hlc, hcm, hby⟩ := HD.out _ (List.getElem_mem hkl)
          rw [hv] at hcP
          have Hp2 := Lib.hid (Hp.out k hkl)
          have hlq := HQ.out _ (List.getElem_mem hkl)
          generalize hxs : ps[k].2 = xs at *
          clear hv hxs hby
          unfold maxLen at hcm
          generalize hlx : xs.length = lx at *
          have Hlx := Lib.hid hlx
          have hkm : k < ks.length := by rw [HM.out]; exact hlt
          obtain ⟨bK, oK, rfl, hcK⟩ := HK.out.get hkm
          have Hks : Hid (ks.getD k 0 = ks[k]) := Lib.hid (by rw [List.getD_eq_getElem?_getD, List.getElem?_eq_getElem hkm]; rfl)
          generalize ks[k] = z at *
          obtain ⟨f, hf⟩ : ∃ f, n - k = f + 1 := ⟨n - k - 1, by omega⟩
          have Hst : Hid (packE parts ks n 0 0 = if 3000 < s + lx ∨ 40 ≤ k then 2 else if z < 0 ∨ 2 < z then 3 else packE parts ks (n - (k + 1)) (k + 1) (s + lx)) := Lib.hid (by
            rw [Hpk.out, hf]
            conv => lhs; unfold packE
            rw [Hp2.out, Hlx.out, Hks.out, show n - (k + 1) = f by omega])
          have hsum : IntKind.i64.wrap ((s : Int) + (lx : Int)) = ((s + lx : Nat) : Int) := by rw [show ((s : Int) + (lx : Int)) = ((s + lx : Nat) : Int) by omega]; exact IntWalk.i64_in _ (by omega)
          obtain ⟨t, ht⟩ : ∃ t, t = s + lx := ⟨_, rfl⟩
          rw [← ht] at hsum Hst
          clear hlx hf ht
          by_cases h3 : 3000 < t
          · have h3' : (3000 : Int) < (t : Int) := by omega
            have Hr : Hid (packErr parts ks = 2) := Lib.hid (by rw [He.out, Hst.out, if_pos (.inl h3)])
            clear h3
            go_wp2_with fail
            go_ret2
            exact ⟨.inl ⟨by rw [Hr.out]; decide, by rw [Hr.out]; rfl⟩, Below.refl _ _⟩
          · have h3' : ¬ (3000 : Int) < (t : Int) := by omega
            by_cases h4 : 40 ≤ k
            · have h4' : (40 : Int) ≤ (k : Int) := by omega
              have Hr : Hid (packErr parts ks = 2) := Lib.hid (by rw [He.out, Hst.out, if_pos (.inr h4)])
              clear h3 h4
              go_wp2_with fail
              go_ret2
              exact ⟨.inl ⟨by rw [Hr.out]; decide, by rw [Hr.out]; rfl⟩, Below.refl _ _⟩
            · have h4' : ¬ (40 : Int) ≤ (k : Int) := by omega
              by_cases h5 : z < 0
              · have Hr : Hid (packErr parts ks = 3) := Lib.hid (by rw [He.out, Hst.out, if_neg (by omega), if_pos (.inl h5)])
                clear h3 h4
                go_wp2_with fail
                go_ret2
                exact ⟨.inl ⟨by rw [Hr.out]; decide, by rw [Hr.out]; rfl⟩, Below.refl _ _⟩
              · by_cases h6 : 2 < z
                · have Hr : Hid (packErr parts ks = 3) := Lib.hid (by rw [He.out, Hst.out, if_neg (by omega), if_pos (.inr h6)])
                  clear h3 h4
                  go_wp2_with fail
                  go_ret2
                  exact ⟨.inl ⟨by rw [Hr.out]; decide, by rw [Hr.out]; rfl⟩, Below.refl _ _⟩
                · have Hr : Hid (packE parts ks n 0 0 = packE parts ks (n - (k + 1)) (k + 1) t) := Lib.hid (by rw [Hst.out, if_neg (by omega), if_neg (by omega)])
                  clear h4
                  go_wp2_with fail
                  go_round
                  case rel => exact ⟨k + 1, t, by omega, by go_num, rfl, by omega, Hr.out⟩
                  case measure => simp [intOf]; omega
        · obtain rfl : n = k := by omega
          have Hz : Hid (packE parts ks n 0 0 = 0) := Lib.hid (by rw [Hpk.out, Nat.sub_self]; rfl)
          have He0 : Hid (packErr parts ks = 0) := Lib.hid (by rw [He.out, Hz.out])
          obtain ⟨q1, q2, q3⟩ := packE_all parts ks (by rw [LP.out]; exact Hz.out) (by rw [HM.out, LP.out])
          have Q1 := Lib.hid q1
          have Q3 := Lib.hid q3
          rw [LP.out] at q2
          have HRow0 := Lib.hid (RowAt.new w (base := w.heap.size) (Nat.le_refl _))
          have Hb0 := Lib.hid ((Below.refl w.heap.size w).alloc (Nat.le_refl _) (.cells #[.slice none 0 0, .int .i64 0] 45))
          clear q1 q3 Hpk
          go_wp2_with fail
          have HPb := Lib.hid (HP.out.below Hb0.out)
          have HKb := Lib.hid (HK.out.below Hb0.out)
          have HLw : Hid (∀ q ∈ ps, ∃ A cap, q.1 = .slice A q.2.length cap ∧ q.2.length ≤ cap ∧ LowBy (w.alloc (.cells #[.slice none 0 0, .int .i64 0] 45)) w.heap.size A q.2) := Lib.hid (fun q hq => by
            obtain ⟨A, c, h1, h2, h3, h4⟩ := HD.out q hq
            exact ⟨A, c, h1, h2, (LowBy.of h4 (Nat.le_refl _)).trans (fun k hk => Hb0.out.block k hk)⟩)
          obtain ⟨n1, hn1⟩ : ∃ n1, n = n1 + 1 := ⟨n - 1, by rw [beq_eq_false_iff_ne] at hz; omega⟩
          have hs1 : IntKind.i64.wrap ((n : Int) - 1) = (n1 : Int) := by rw [show (n : Int) - 1 = (n1 : Int) by omega]; exact IntWalk.i64_in _ (by omega)
          have Hn1 := Lib.hid hn1
          clear hn1 hlt hs hk
          generalize hw3 : w.alloc (.cells #[.slice none 0 0, .int .i64 0] 45) = w3 at *
          generalize hp0 : w.heap.size = p0 at *
          have Hp0 := Lib.hid hp0
          clear hw3 hp0
          go_loopw [54] (fun i wr => ∃ k : Nat, k ≤ n ∧ i = .int .i64 (k : Int) ∧ RowAt wr p0 p0 (packK parts (lsOf ks) k) ∧ Keeps p0 rowT w3 wr) (fun i _ => n - (intOf i).toNat)
          case atStart => exact ⟨0, Nat.zero_le _, rfl, HRow0.out, Keeps.refl _ _ _⟩
          case round =>
            clear HRow0
            obtain ⟨k, hk, rfl, hrow, hkp⟩ := hrel
            have HRow := Lib.hid hrow
            have HKp := Lib.hid hkp
            have hrl := packK_len parts (lsOf ks) Q3.out k
            clear hrow hkp
            by_cases hlt : k < n
            · have hkl : k < ps.length := by rw [HN.out]; exact hlt
              have Hag : Hid (∀ j, j < p0 → wr.heap[j]? = w.heap[j]?) := Lib.hid (fun j hj => (HKp.out.block j hj).trans (Hb0.out.block j hj))
              obtain ⟨bP, oP, rfl, hcP⟩ := (slat_low HP.out Hp0.out Hag.out).get (k := k) (by rw [List.length_map]; exact hkl)
              rw [List.getElem_map] at hcP
              obtain ⟨A, c, hv, hlc, hlow⟩ := HLw.out _ (List.getElem_mem hkl)
              rw [hv] at hcP
              have Hp2 := Lib.hid (Hp.out k hkl)
              have hx3 : ps[k].2.length ≤ 3000 := by rw [← Hp2.out]; exact Nat.le_trans (part_len parts k) Q3.out
              generalize hxs : ps[k].2 = xs at *
              have Hlow := Lib.hid hlow
              have hkm : k < ks.length := by rw [HM.out]; exact hlt
              obtain ⟨bK, oK, rfl, hcK⟩ := InAt.get (slat_low HK.out Hp0.out Hag.out) hkm
              have hz2 := Q1.out _ (List.getElem_mem hkm)
              have hgk : (lsOf ks).getD k 0 = ks[k].toNat := getD_of ks k hkm
              generalize ks[k] = z at *
              obtain ⟨zk, rfl⟩ := Int.eq_ofNat_of_zero_le hz2.1
              rw [Int.toNat_natCast] at hgk
              obtain ⟨lb, hlb⟩ : ∃ b : Bool, b = ((k : Int) == (n1 : Int)) := ⟨_, rfl⟩
              have Hst : Hid (packK parts (lsOf ks) (k + 1) = oneB (packK parts (lsOf ks) k) xs zk lb) := Lib.hid (by
                show oneB _ _ _ _ = _
                rw [Hp2.out, hgk]
                congr 1
                rw [hlb, LP.out, Hn1.out, Bool.eq_iff_iff]
                simp
                omega)
              have HO := Lib.hid (one_any p0 p0 (packK parts (lsOf ks) k) A xs.length c xs zk lb wr HRow.out (Hlow.out.trans HKp.out.block) rfl hlc hx3 (by omega) (by omega))
              rw [← Hst.out] at HO
              rw [hlb] at HO
              have hlx := hx3
              generalize xs.length = lx at *
              clear hv hlow hxs hgk hlb hrl HRow hlc hx3 hz2
              go_wp2_with fail
              refine (HO.out).mono ?_
              rintro e w5 ⟨rfl, hrow, hkp⟩
              have HR5 := Lib.hid hrow
              have HK5 := Lib.hid (HKp.out.trans hkp)
              clear hrow hkp HO HKp
              go_wp2_with fail
              go_roundw
              case rel => exact ⟨k + 1, by omega, by go_num, HR5.out, HK5.out⟩
              case measure => simp [intOf]; omega
            · obtain rfl : n = k := by omega
              have Hbk : Hid (Below p0 w wr) := Lib.hid (Hb0.out.trans HKp.out.below)
              have HPk : Hid (packB parts (lsOf ks) = pack (packK parts (lsOf ks) n)) := Lib.hid (by unfold packB; rw [LP.out])
              obtain ⟨hpp, v, hv1, hv2⟩ := HRow.out
              have hby := Lib.hid (bytes_any p0 v _ wr hv1)
              have Hv2 := Lib.hid hv2
              clear hv1 hv2 hrl
              go_wp2_with fail
              refine (hby.out).mono ?_
              rintro e w5 ⟨rfl, rfl⟩
              go_wp2_with fail
              go_ret2
              exact ⟨.inr ⟨He0.out, v, rfl, by rw [HPk.out, Hp0.out]; exact Hv2.out⟩, by rw [Hp0.out]; exact Hbk.out⟩
    · have hne : ((n : Int) == (m : Int)) = false := by rw [beq_eq_false_iff_ne]; omega
      have He : Hid (packErr parts ks = 4) := Lib.hid (by unfold packErr; rw [if_pos (by rw [LP.out, HM.out]; exact .inr hnm)])
      clear h0 hnm
      go_wp2_with fail
      go_ret2
      exact ⟨.inl ⟨by rw [He.out]; decide, by rw [He.out]; rfl⟩, Below.refl _ _⟩
end Go.Proofs.Ythpdcnjaodjjmaa.Blk

/- bytes.Equal, and []byte to string. -/
namespace Go.Proofs.Ythpdcnjaodjjmaa
open Go Go.RowKit
set_option linter.unusedVariables false

def strB (xs : List UInt8) : ByteArray := ⟨xs.toArray⟩
theorem strB_inj (xs ys : List UInt8) : ((strB xs).toList == (strB ys).toList) = decide (xs = ys) := by
  rw [ByteArray.toList_eq, ByteArray.toList_eq, Bool.eq_iff_iff]; simp [strB]
theorem strB_nums (xs : List UInt8) : strOfNums (xs.map n8) = strB xs := by
  unfold strOfNums strB
  rw [List.map_map]
  have : ((fun n => UInt8.ofNat n.toNat) ∘ n8) = id := by
    funext x; simp [n8]
  rw [this, List.map_id]
theorem conv_bytes (A : Option Addr) (n c : Nat) (xs : List UInt8) (w : World) (hn : xs.length = n) (h : ByAt w A xs) :
    (convert 22 9 (.slice A n c)).run Try.prog w = .ok (.string (strB xs)) w := by
  rw [← strB_nums]
  cases n with
  | zero =>
    have : xs = [] := List.eq_nil_of_length_eq_zero hn
    subst this
    exact run_convert_bytes_zero w _ _ Try.underlying22 Try.underlying5 A c _ Try.underlying9
  | succ n =>
    obtain ⟨b, o, rfl, _⟩ := SlAt.get h (k := 0) (by simp; omega)
    refine run_convert_bytes_arg w _ _ Try.underlying22 Try.underlying5 b o _ c _ (by simpa using hn) (fun i hi => ?_) _ Try.underlying9
    obtain ⟨b', o', hb, hc⟩ := SlAt.get h (k := i) (by simp; omega)
    injection hb with hb; injection hb with h1 h2 h3
    subst h1 h2
    rw [hc]
    have : i < xs.length := by omega
    simp [List.getD, u8v, this]

set_option maxHeartbeats 400000 in
theorem equal_bytes (A B : Option Addr) (n m ca cb : Nat) (xs ys : List UInt8) (w : World) (hn : xs.length = n) (hm : ys.length = m) (ha : ByAt w A xs) (hb : ByAt w B ys) :
    Calls Try.prog 11 #[.slice A n ca, .slice B m cb] w fun e w' => e = .returned (.bool (decide (xs = ys))) ∧ w' = w := by
  have k1 := conv_bytes A n ca xs w hn ha
  have k2 := conv_bytes B m cb ys w hm hb
  have K := Lib.hid (strB_inj xs ys)
  clear hn hm ha hb
  go_enter Try.func11, Try.ntmps11
  go_wp2_with fail
  go_ret
  exact ⟨ret_bool K.out, rfl⟩
end Go.Proofs.Ythpdcnjaodjjmaa

/- package block: Best: the walk; packed, a closed fact. -/
namespace Go.Proofs.Ythpdcnjaodjjmaa.Blk
open Go Go.RowKit Go.Proofs.Ythpdcnjaodjjmaa Go.Proofs.Ythpdcnjaodjjmaa.Bits Go.Proofs.Ythpdcnjaodjjmaa.Inf Go.Proofs.Ythpdcnjaodjjmaa.SP Go.Proofs.Ythpdcnjaodjjmaa.Rt
open Go.Proofs.Ythpdcnjaodjjmaa.Code (lsOf natV nats)
set_option linter.unusedVariables false

theorem packErr_one (xs : List UInt8) (k : Nat) (hx : xs.length ≤ 3000) (hk : k ≤ 2) : packErr [xs] [(k : Int)] = 0 := by
  unfold packErr
  rw [if_neg (by simp)]
  show packE [xs] [(k : Int)] 1 0 0 = 0
  unfold packE
  rw [if_neg (by simp; omega), if_neg (by simp; omega)]
  rfl
theorem lsOf_one (k : Nat) : lsOf [(k : Int)] = [k] := by simp [lsOf]
/-- Pack of one part -/
theorem pack1_any (A : Option Addr) (n c k : Nat) (xs : List UInt8) (w : World) (hn : xs.length = n) (hnc : n ≤ c) (hcm : c ≤ maxLen) (hx : n ≤ 3000) (hk : k ≤ 2) (hA : ByAt w A xs) :
    Calls Try.prog 10 #[.slice (some ⟨w.heap.size, 0, none⟩) 1 1, .slice (some ⟨w.heap.size + 1, 0, none⟩) 1 1] ((w.alloc (.cells #[.slice A n c] 22)).alloc (.cells #[.int .i64 (k : Int)] 3)) fun e w' =>
      (∃ v, e = .returned (.tuple #[v, .int .i64 0]) ∧ w'.ownsRow w.heap.size 5 1 v (packB [xs] [k]).length ((packB [xs] [k]).map u8v)) ∧ Below w.heap.size w w' := by
  have hb : Below w.heap.size w ((w.alloc (.cells #[.slice A n c] 22)).alloc (.cells #[.int .i64 (k : Int)] 3)) := ((Below.refl _ _).alloc (Nat.le_refl _) _).alloc (by simp) _
  have h1 : Blk ((w.alloc (.cells #[.slice A n c] 22)).alloc (.cells #[.int .i64 (k : Int)] 3)) w.heap.size 22 #[.slice A n c] := (Blk.new w _ _).alloc _
  have h2 : Blk ((w.alloc (.cells #[.slice A n c] 22)).alloc (.cells #[.int .i64 (k : Int)] 3)) (w.heap.size + 1) 3 #[.int .i64 (k : Int)] := by
    have := Blk.new (w.alloc (.cells #[.slice A n c] 22)) 3 #[.int .i64 (k : Int)]
    rw [World.size_alloc] at this; exact this
  have he := packErr_one xs k (by omega) hk
  refine (bpack_any (some ⟨w.heap.size, 0, none⟩) (some ⟨w.heap.size + 1, 0, none⟩) 1 1 1 1 [(.slice A n c, xs)] [(k : Int)] _ rfl rfl (by unfold maxLen; omega) (by unfold maxLen; omega) h1.kat.slat ?_ ?_ ?_).mono ?_
  · intro q hq
    rw [List.mem_singleton] at hq
    subst hq
    exact ⟨A, c, by rw [hn], by rw [hn]; exact hnc, hcm, hA.below hb⟩
  · intro q hq
    rw [List.mem_singleton] at hq
    subst hq
    dsimp only
    omega
  · exact h2.kat.slat
  · rintro e w' ⟨h, hb'⟩
    have hb2 : Below w.heap.size w w' := hb.trans (hb'.mono hb.size)
    refine ⟨?_, hb2⟩
    rcases h with ⟨h3, _⟩ | ⟨_, v, rfl, ho⟩
    · exact absurd he h3
    · rw [lsOf_one] at ho
      exact ⟨v, rfl, own_base ho (by simp; omega)⟩
/-- the best of the first k kinds -/
def bestK (xs : List UInt8) : Nat → List UInt8 × Nat
  | 0 => ([], 0)
  | k + 1 => if k = 0 ∨ (packB [xs] [k]).length < (bestK xs k).1.length then (packB [xs] [k], k) else bestK xs k
theorem bestK_yes (xs : List UInt8) (k : Nat) (h : k = 0 ∨ (packB [xs] [k]).length < (bestK xs k).1.length) : bestK xs (k + 1) = (packB [xs] [k], k) := by
  conv => lhs; unfold bestK
  rw [if_pos h]
theorem bestK_no (xs : List UInt8) (k : Nat) (h : ¬ (k = 0 ∨ (packB [xs] [k]).length < (bestK xs k).1.length)) : bestK xs (k + 1) = bestK xs k := by
  conv => lhs; unfold bestK
  rw [if_neg h]
def BestPost (n : Nat) (xs : List UInt8) (w : World) (e : Ending) (w' : World) : Prop :=
  (3000 < n ∧ e = .returned (.tuple #[.slice none 0 0, .int .i64 0, .int .i64 2]) ∨
   n ≤ 3000 ∧ ∃ v, e = .returned (.tuple #[v, .int .i64 ((bestK xs 3).2 : Int), .int .i64 0]) ∧ w'.ownsRow w.heap.size 5 1 v (bestK xs 3).1.length ((bestK xs 3).1.map u8v)) ∧ Below w.heap.size w w'
set_option maxRecDepth 100000 in
set_option maxHeartbeats 1600000 in
theorem best_any (A : Option Addr) (n c : Nat) (xs : List UInt8) (w : World) (hn : xs.length = n) (hnc : n ≤ c) (hcm : c ≤ maxLen) (hA : ByAt w A xs) :
    Calls Try.prog 8 #[.slice A n c] w (BestPost n xs w) := by
  have Hn := Lib.hid hn
  have HA := Lib.hid hA
  have Hcm := Lib.hid hcm
  unfold maxLen at hcm
  clear hn hA
  go_enter Try.func8, Try.ntmps8
  by_cases h3 : 3000 < n
  · have h3' : (3000 : Int) < (n : Int) := by omega
    go_wp2_with fail
    go_ret3
    exact ⟨.inl ⟨h3, rfl⟩, Below.refl _ _⟩
  · have h3' : ¬ (3000 : Int) < (n : Int) := by omega
    have hle : n ≤ 3000 := by omega
    clear h3
    go_wp2_with fail
    go_loopw [2, 3, 5] (fun vo vb vk wr => ∃ k : Nat, k ≤ 3 ∧ vk = .int .i64 (k : Int) ∧ vb = .int .i64 ((bestK xs k).2 : Int) ∧ wr.ownsRow w.heap.size 5 1 vo (bestK xs k).1.length ((bestK xs k).1.map u8v) ∧ Below w.heap.size w wr) (fun _ _ vk _ => 3 - (intOf vk).toNat)
    case atStart => exact ⟨0, by omega, rfl, rfl, World.ownsRow_nil .., Below.refl _ _⟩
    case round =>
      obtain ⟨k, hk, rfl, rfl, ho, hb⟩ := hrel
      have HO := Lib.hid ho
      have Hb := Lib.hid hb
      clear ho hb
      by_cases hlt : k < 3
      · have hk2 : (k : Int) ≤ 2 := by omega
        have HP := Lib.hid (pack1_any A n c k xs wr Hn.out hnc Hcm.out hle (by omega) (HA.out.below Hb.out))
        have Hy := Lib.hid (bestK_yes xs k)
        have Hno := Lib.hid (bestK_no xs k)
        go_wp2_with fail
        refine (HP.out).mono ?_
        rintro e w2 ⟨⟨v2, rfl, ho2⟩, hb2⟩
        have HO2 := Lib.hid (own_keep HO.out hb2)
        have Hb2 := Lib.hid (Hb.out.trans (hb2.mono Hb.out.size))
        have HN2 := Lib.hid (own_base ho2 Hb.out.size)
        obtain ⟨A2, c2, rfl, _⟩ := own_slat ho2
        obtain ⟨A1, c1, rfl, _⟩ := own_slat HO.out
        clear ho2 hb2 HP HO Hb
        generalize packB [xs] [k] = p at *
        generalize bestK xs k = s at *
        obtain ⟨s1, s2⟩ := s
        dsimp only at HO2 Hy Hno
        by_cases hc : k = 0 ∨ p.length < s1.length
        · have He := Lib.hid (Hy.out hc)
          by_cases hk0 : k = 0
          · have hz : ((k : Int) == 0) = true := by simp; omega
            clear hc hk0 Hy Hno
            go_wp2_with fail
            go_roundw
            case rel => exact ⟨k + 1, by omega, by go_num, by rw [He.out], by rw [He.out]; exact HN2.out, Hb2.out⟩
            case measure => simp [intOf]; omega
          · have hz : ((k : Int) == 0) = false := by rw [beq_eq_false_iff_ne]; omega
            have hl : (p.length : Int) < (s1.length : Int) := by omega
            clear hc hk0 Hy Hno
            go_wp2_with fail
            go_roundw
            case rel => exact ⟨k + 1, by omega, by go_num, by rw [He.out], by rw [He.out]; exact HN2.out, Hb2.out⟩
            case measure => simp [intOf]; omega
        · have He := Lib.hid (Hno.out hc)
          have hz : ((k : Int) == 0) = false := by rw [beq_eq_false_iff_ne]; omega
          have hl : ¬ (p.length : Int) < (s1.length : Int) := by omega
          clear hc Hy Hno
          go_wp2_with fail
          go_roundw
          case rel => exact ⟨k + 1, by omega, by go_num, by rw [He.out], by rw [He.out]; exact HO2.out, Hb2.out⟩
          case measure => simp [intOf]; omega
      · obtain rfl : k = 3 := by omega
        have hk2 : ¬ ((3 : Nat) : Int) ≤ 2 := by omega
        go_wp2_with fail
        go_ret3
        exact ⟨.inr ⟨hle, _, rfl, HO.out⟩, Hb.out⟩
theorem fact_aa : packB [[97, 97]] [0] = [1, 2, 0, 253, 255, 97, 97] := by decide +kernel
theorem fact_p0 : packB [[]] [0] = [1, 0, 0, 255, 255] := by decide +kernel
theorem fact_p1 : packB [[]] [1] = [3, 0] := by decide +kernel
theorem fact_p2 : ¬ (packB [[]] [2]).length < 2 := by
  have h1 : packB [[]] [2] = pack (packK [[]] [2] 1) := rfl
  have h2 : packK [[]] [2] 1 = packK [[]] [2] 0 ++ oneS (packK [[]] [2] 0).length [] 2 true := packK_succ _ _ _
  have h3 : 17 ≤ (oneS (packK [[]] [2] 0).length [] 2 true).length := by
    unfold oneS
    rw [if_neg (by omega), if_neg (by omega), headB_eq]
    simp only [List.length_append, numBits_length, List.length_singleton]
    omega
  rw [h1, pack_length, h2, List.length_append]
  omega
theorem fact_best : bestK [] 3 = ([3, 0], 1) := by
  have e1 : bestK [] 1 = ([1, 0, 0, 255, 255], 0) := by rw [bestK_yes [] 0 (.inl rfl), fact_p0]
  have e2 : bestK [] 2 = ([3, 0], 1) := by rw [bestK_yes [] 1 (.inr (by rw [fact_p1, e1]; decide)), fact_p1]
  rw [bestK_no [] 2 (by rw [e2]; intro h; rcases h with h | h; omega; exact fact_p2 h), e2]
end Go.Proofs.Ythpdcnjaodjjmaa.Blk

/- reliquarylaw.packed: a closed fact. -/
namespace Go.Proofs.Ythpdcnjaodjjmaa.Blk
open Go Go.RowKit Go.Proofs.Ythpdcnjaodjjmaa Go.Proofs.Ythpdcnjaodjjmaa.Bits Go.Proofs.Ythpdcnjaodjjmaa.Inf Go.Proofs.Ythpdcnjaodjjmaa.SP Go.Proofs.Ythpdcnjaodjjmaa.Rt
open Go.Proofs.Ythpdcnjaodjjmaa.Code (lsOf natV nats)
set_option linter.unusedVariables false

set_option maxRecDepth 100000 in
set_option maxHeartbeats 1600000 in
theorem packed_any (w : World) : Calls Try.prog 9 #[] w fun e w' => e = .returned (.bool true) ∧ Below w.heap.size w w' := by
  have hb0 : Below w.heap.size w (w.alloc (.cells #[.int .u8 97, .int .u8 97] 5 (2, 3))) := (Below.refl _ _).alloc (Nat.le_refl _) _
  have HP := pack1_any (some ⟨w.heap.size, 0, none⟩) 2 2 0 [97, 97] (w.alloc (.cells #[.int .u8 97, .int .u8 97] 5 (2, 3))) rfl (by omega) (by unfold maxLen; omega) (by omega) (by omega) (ByAt.of_new _ _ _ (2, 3) rfl)
  rw [fact_aa, World.size_alloc, show (((0 : Nat) : Int)) = 0 from rfl] at HP
  have Hb0 := Lib.hid hb0
  have HP := Lib.hid HP
  clear hb0
  have kk := fun (w : World) (C : Array Value) (n c : Nat) => Lib.run_convert_bytes_const (P := Try.prog) w 22 5 C n c Try.underlying22 Try.underlying5
  go_enter Try.func9, Try.ntmps9
  go_wp2_with fail
  refine (HP.out).mono ?_
  rintro e w1 ⟨⟨v1, rfl, ho1⟩, hb1⟩
  have Hb1 : Hid (Below w.heap.size w w1) := Lib.hid (Hb0.out.trans (hb1.mono (by omega)))
  obtain ⟨A1, c1, rfl, _, _, hs1, _⟩ := own_slat ho1
  have HS1 : Hid (ByAt w1 A1 [1, 2, 0, 253, 255, 97, 97]) := Lib.hid hs1
  clear ho1 hs1 hb1 HP Hb0
  go_wp2_with fail
  refine (best_any none 0 0 [] w1 rfl (by omega) (by unfold maxLen; omega) SlAt.nil).mono ?_
  rintro e w2 ⟨h, hb2⟩
  rcases h with ⟨h, _⟩ | ⟨_, v2, rfl, ho2⟩
  · omega
  rw [fact_best] at ho2 ⊢
  dsimp only at ho2 ⊢
  have Hb2 := Lib.hid (Hb1.out.trans (hb2.mono Hb1.out.size))
  obtain ⟨A2, c2, rfl, _, _, hs2, _⟩ := own_slat ho2
  have HS2 : Hid (ByAt w2 A2 [3, 0]) := Lib.hid hs2
  have HS1' := Lib.hid (HS1.out.below hb2)
  clear ho2 hs2 hb2 Hb1 HS1
  go_wp2_with fail
  have HL1 : Hid (ByAt (w2.alloc (.cells #[.int .u8 1, .int .u8 2, .int .u8 0, .int .u8 253, .int .u8 255, .int .u8 97, .int .u8 97] 5)) (some ⟨w2.heap.size, 0, none⟩) [1, 2, 0, 253, 255, 97, 97]) := Lib.hid (ByAt.of_new _ _ _ (0, 0) rfl)
  have HE1 := Lib.hid (equal_bytes A1 (some ⟨w2.heap.size, 0, none⟩) 7 7 c1 7 [1, 2, 0, 253, 255, 97, 97] [1, 2, 0, 253, 255, 97, 97] _ rfl rfl (HS1'.out.below ((Below.refl _ _).alloc (Nat.le_refl _) _)) HL1.out)
  rw [show decide (([1, 2, 0, 253, 255, 97, 97] : List UInt8) = [1, 2, 0, 253, 255, 97, 97]) = true from by simp] at HE1
  dsimp only [List.length_cons, List.length_nil]
  clear kk
  go_wp2_with fail
  refine (HE1.out).mono ?_
  rintro e w3 ⟨rfl, hw3⟩
  have Hb3 : Hid (Below w.heap.size w w3) := Lib.hid (by rw [hw3]; exact Hb2.out.alloc Hb2.out.size _)
  have HS3 : Hid (ByAt w3 A2 [3, 0]) := Lib.hid (by rw [hw3]; exact HS2.out.below ((Below.refl _ _).alloc (Nat.le_refl _) _))
  have HL2 : Hid (ByAt (w3.alloc (.cells #[.int .u8 3, .int .u8 0] 5)) (some ⟨w3.heap.size, 0, none⟩) [3, 0]) := Lib.hid (ByAt.of_new _ _ _ (0, 0) rfl)
  have HE2 := Lib.hid (equal_bytes A2 (some ⟨w3.heap.size, 0, none⟩) 2 2 c2 2 [3, 0] [3, 0] _ rfl rfl (HS3.out.below ((Below.refl _ _).alloc (Nat.le_refl _) _)) HL2.out)
  rw [show decide (([3, 0] : List UInt8) = [3, 0]) = true from by simp] at HE2
  clear hw3 HE1 HL1 HS1' HS2 Hb2
  go_wp2_with fail
  refine (HE2.out).mono ?_
  rintro e w4 ⟨rfl, hw4⟩
  have Hb4 : Hid (Below w.heap.size w w4) := Lib.hid (by rw [hw4]; exact Hb3.out.alloc Hb3.out.size _)
  clear hw4 HE2 HL2 HS3 Hb3
  go_wp2_with fail
  go_ret
  exact ⟨rfl, Hb4.out⟩
end Go.Proofs.Ythpdcnjaodjjmaa.Blk

/- package inflate: codes that are told. -/
namespace Go.Proofs.Ythpdcnjaodjjmaa.Inf
open Go Go.RowKit Go.Proofs.Ythpdcnjaodjjmaa Go.Proofs.Ythpdcnjaodjjmaa.Bits Go.Proofs.Ythpdcnjaodjjmaa.Code
set_option linter.unusedVariables false
set_option linter.unusedSimpArgs false

theorem tabAt_tb {w : World} {base b p : Nat} {zs : List Int} (h : TabAt w b p (lsOf zs)) (hb : base ≤ b) (hc : chkL zs = 0) : TbAt w base p (lsOf zs) := by
  obtain ⟨h1, v, h2, h3⟩ := h
  obtain ⟨c1, _, c2, c3, _⟩ := chk_fine zs hc
  exact ⟨⟨Nat.le_trans hb h1, v, h2, own_base h3 hb⟩, c3, c2, by unfold lsOf; rw [List.length_map]; exact c1⟩
theorem own_here {w : World} {base size n : Nat} {e : TypeId} {v : Value} {xs : List Value} (h : w.ownsRow base e size v n xs) (h0 : 0 < n) : ∃ g c, v = .slice (some ⟨g, 0, none⟩) n c ∧ base ≤ g ∧ n ≤ c ∧ c ≤ maxLen ∧ SlAt w (some ⟨g, 0, none⟩) xs := by
  obtain ⟨A, c, rfl, h1, h2, h3, _⟩ := own_slat h
  rcases h.2 with ⟨h1', _⟩ | ⟨g, cap', cur, hv, hb, hg, _⟩
  · injection h1' with h1' h2'; omega
  · injection hv with hv; subst hv; exact ⟨g, c, rfl, hb, h1, h2, h3⟩
theorem slat_nth {w : World} {g : Nat} {xs : List Value} (h : SlAt w (some ⟨g, 0, none⟩) xs) {k : Nat} {v : Value} (hk : xs[k]? = some v) : w.cell? ⟨g, k, none⟩ = some v := by
  obtain ⟨b, o, e, hc⟩ := h (by
    rcases Nat.eq_zero_or_pos xs.length with h0 | h0
    · rw [List.eq_nil_of_length_eq_zero h0] at hk; cases hk
    · exact h0)
  injection e with e
  injection e with e1 e2
  subst e1 e2
  have := hc k v hk
  rwa [Nat.zero_add] at this
theorem TbAt.old {w w' : World} {base p B0 : Nat} {ls : List Nat} (h : TbAt w base p ls) (hk : Below w.heap.size w w') : TbAt w' base p ls := by
  obtain ⟨⟨h1, v, h2, h3⟩, h4, h5, h6⟩ := h
  exact ⟨⟨h1, v, h2.below hk h2.lt, own_keep h3 hk⟩, h4, h5, h6⟩
theorem zs_iv (s : List Nat) : (zsOf s).map iv = s.map natV := by
  unfold zsOf
  rw [List.map_map]
  rfl
theorem orderL_lt : ∀ j < 19, orderL.getD j 0 < 19 := by decide
theorem getR_len {row : List Bool} {p k : Nat} {a : Nat × Nat} (h : getR row p k = .ok a) : a.1 < 2 ^ k := getR_lt h
set_option maxRecDepth 100000 in
set_option maxHeartbeats 4000000 in
theorem codes_r (base g q : Nat) (A : Option Addr) (n c pos : Nat) (xs : List UInt8) (vo vk : Value) (w : World) (hq : base ≤ q) (hbw : base ≤ w.heap.size)
    (hb : Blk w g 56 #[.pointer (some ⟨q, 0, none⟩), vo, vk]) (hsrc : SrcAt w q A n c pos) (hp : pos ≤ 8 * n) (hi : InAt_ w base A n xs) :
    Calls Try.prog 45 #[.pointer (some ⟨g, 0, none⟩)] w fun e w' =>
      RPost (headR (bitsL xs) pos) (fun a e w' => ∃ p1 p2, e = .returned (.tuple #[.pointer (some ⟨p1, 0, none⟩), .pointer (some ⟨p2, 0, none⟩)]) ∧ TbAt w' base p1 a.2.1 ∧ TbAt w' base p2 a.2.2 ∧ SrcAt w' q A n c a.1 ∧ a.1 ≤ 8 * n) e w' ∧ OldK base w.heap.size srcT w w' := by
  obtain ⟨R, hR⟩ : ∃ R, R = headR (bitsL xs) pos := ⟨_, rfl⟩
  rw [← hR]
  unfold headR at hR
  have HU := Lib.hid hR
  have HB := Lib.hid hb
  have HS := Lib.hid hsrc
  have HI := Lib.hid hi
  have HO1 : Hid (OldK base w.heap.size srcT w w) := Lib.hid (OldK.refl _ _ _ _)
  have HI1 := HI
  have HB1 := HB
  have HS1 := HS
  have hp1 := hp
  have HG := Lib.hid (get_k base g q A n c pos 5 xs w hq (by rw [hb.cell]; rfl) hsrc hp hi (by omega))
  have hqlt : q < w.heap.size := Blk.lt hsrc
  clear hb hsrc hi hR
  go_enter Try.func45, Try.ntmps45
  go_wp2_with fail
  refine (HG.out).mono ?_
  rintro e w2 ⟨hr2, hk2⟩
  have HO2 := Lib.hid (HO1.out.keeps (hk2.mono hq (fun _ h => h)))
  cases hg2 : getR (bitsL xs) pos 5 with
  | bad z =>
    have he := rpost_bad hr2 hg2
    subst he
    have HU := Lib.hid (show R = .bad z by rw [HU.out, hg2]; rfl)
    clear hr2 hk2 hg2
    unfold stopE
    go_wp2_with fail
    exact ⟨rfl, bad_rpost HU.out, HO2.out⟩
  | ok a =>
    obtain ⟨he, hs2, hp2⟩ := rpost_ok hr2 hg2
    subst he
    have hx2 := getR_lt hg2
    replace HU := Lib.hid (HU.out.trans (by rw [hg2, then_ok]))
    have HB2 := Lib.hid (hk2.blk HB1.out (by decide))
    have HI2 := Lib.hid (HI1.out.keeps (hk2.mono hq (fun _ h => h)))
    have HS2 := Lib.hid hs2
    obtain ⟨x, p2⟩ := a
    dsimp only at hx2 HU HS2 hp2 ⊢
    have hxb : x < 32 := hx2
    have HKx := Lib.hid hk2
    clear hr2 hk2 hg2 hs2 HG hx2
    obtain ⟨m, hm⟩ : ∃ m, m = x + 257 := ⟨_, rfl⟩
    have hwm : IntKind.i64.wrap ((x : Int) + 257) = (m : Int) := by rw [show (x : Int) + 257 = (m : Int) by omega]; exact IntWalk.i64_in _ (by omega)
    rw [← hm] at HU
    have hm1 : 257 ≤ m := by omega

    have hm2 : m < 289 := by omega
    have HG := Lib.hid (get_k base g q A n c p2 5 xs w2 hq (by rw [HB2.out.cell]; rfl) HS2.out hp2 HI2.out (by omega))
    clear hm hxb
    go_wp2_with fail
    refine (HG.out).mono ?_
    rintro e w3 ⟨hr3, hk3⟩
    have HO3 := Lib.hid (HO2.out.keeps (hk3.mono hq (fun _ h => h)))
    cases hg3 : getR (bitsL xs) p2 5 with
    | bad z =>
      have he := rpost_bad hr3 hg3
      subst he
      have HU := Lib.hid (show R = .bad z by rw [HU.out, hg3]; rfl)
      clear hr3 hk3 hg3
      unfold stopE
      go_wp2_with fail
      exact ⟨rfl, bad_rpost HU.out, HO3.out⟩
    | ok a =>
      obtain ⟨he, hs3, hp3⟩ := rpost_ok hr3 hg3
      subst he
      have hx3 := getR_lt hg3
      replace HU := Lib.hid (HU.out.trans (by rw [hg3, then_ok]))
      have HB3 := Lib.hid (hk3.blk HB2.out (by decide))
      have HI3 := Lib.hid (HI2.out.keeps (hk3.mono hq (fun _ h => h)))
      have HS3 := Lib.hid hs3
      obtain ⟨x, p3⟩ := a
      dsimp only at hx3 HU HS3 hp3 ⊢
      have hxb : x < 32 := hx3
      have HKx := Lib.hid hk3
      clear hr3 hk3 hg3 hs3 HG hx3
      obtain ⟨d, hd⟩ : ∃ d, d = x + 1 := ⟨_, rfl⟩
      have hwd : IntKind.i64.wrap ((x : Int) + 1) = (d : Int) := by rw [show (x : Int) + 1 = (d : Int) by omega]; exact IntWalk.i64_in _ (by omega)
      rw [← hd] at HU
      have hd1 : 1 ≤ d := by omega

      have hd2 : d < 33 := by omega
      have HG := Lib.hid (get_k base g q A n c p3 4 xs w3 hq (by rw [HB3.out.cell]; rfl) HS3.out hp3 HI3.out (by omega))
      clear hd hxb
      go_wp2_with fail
      refine (HG.out).mono ?_
      rintro e w4 ⟨hr4, hk4⟩
      have HO4 := Lib.hid (HO3.out.keeps (hk4.mono hq (fun _ h => h)))
      cases hg4 : getR (bitsL xs) p3 4 with
      | bad z =>
        have he := rpost_bad hr4 hg4
        subst he
        have HU := Lib.hid (show R = .bad z by rw [HU.out, hg4]; rfl)
        clear hr4 hk4 hg4
        unfold stopE
        go_wp2_with fail
        exact ⟨rfl, bad_rpost HU.out, HO4.out⟩
      | ok a =>
        obtain ⟨he, hs4, hp4⟩ := rpost_ok hr4 hg4
        subst he
        have hx4 := getR_lt hg4
        replace HU := Lib.hid (HU.out.trans (by rw [hg4, then_ok]))
        have HB4 := Lib.hid (hk4.blk HB3.out (by decide))
        have HI4 := Lib.hid (HI3.out.keeps (hk4.mono hq (fun _ h => h)))
        have HS4 := Lib.hid hs4
        obtain ⟨x, p4⟩ := a
        dsimp only at hx4 HU HS4 hp4 ⊢
        have hxb : x < 16 := hx4
        have HKx := Lib.hid hk4
        clear hr4 hk4 hg4 hs4 HG hx4
        obtain ⟨C, hC⟩ : ∃ C, C = x + 4 := ⟨_, rfl⟩
        have hwC : IntKind.i64.wrap ((x : Int) + 4) = (C : Int) := by rw [show (x : Int) + 4 = (C : Int) by omega]; exact IntWalk.i64_in _ (by omega)
        rw [← hC] at HU
        have hC1 : 4 ≤ C := by omega

        have hC2 : C ≤ 19 := by omega
        clear hC hxb
        by_cases hbad : 286 < m ∨ 30 < d
        · have HU := Lib.hid (show R = .bad 8 by rw [HU.out, if_pos hbad])
          have hcnd : (decide ((m : Int) > 286) || decide ((d : Int) > 30)) = true := by
            rcases hbad with h | h
            · have : (m : Int) > 286 := by omega
              simp [this]
            · have : (d : Int) > 30 := by omega
              simp [this]
          rcases (by omega : 286 < m ∨ (m ≤ 286 ∧ 30 < d)) with h1 | ⟨h1, h2⟩
          · have h1' : (286 : Int) < (m : Int) := by omega
            clear hcnd hbad
            go_wp2_with fail
            refine (fail_any 8 _).mono ?_
            rintro e w5 ⟨rfl, rfl⟩
            unfold stopE
            go_wp2_with fail
            exact ⟨rfl, bad_rpost HU.out, HO4.out⟩
          · have h1' : (m : Int) ≤ 286 := by omega
            have h2' : (30 : Int) < (d : Int) := by omega
            clear hcnd hbad
            go_wp2_with fail
            refine (fail_any 8 _).mono ?_
            rintro e w5 ⟨rfl, rfl⟩
            unfold stopE
            go_wp2_with fail
            exact ⟨rfl, bad_rpost HU.out, HO4.out⟩
        · replace HU := Lib.hid (HU.out.trans (if_neg hbad))
          have hm3 : m ≤ 286 := by omega
          have hd3 : d ≤ 30 := by omega
          have hm' : (m : Int) ≤ 286 := by omega
          have hd' : (d : Int) ≤ 30 := by omega
          clear hbad hm2 hd2
          have hmk : ∀ u : World, (Instr.makeSlice 30 (.int .i64 19) (.int .i64 19)).run Try.prog u = .ok (.slice (some ⟨u.heap.size, 0, none⟩) 19 19) (u.alloc (.cells (nats (List.replicate 19 0)) 3)) := fun u => by rw [← nats_zero]; exact make_ints 19 (by omega) u
          have HOr := Lib.hid (order_any (w4.alloc (.cells (nats (List.replicate 19 0)) 3)))
          go_wp2_with fail
          refine (HOr.out).mono ?_
          rintro e w5 ⟨rfl, hb5⟩
          have hst := store_ord w5
          have hB4 := HO4.out.size
          have HO5 : Hid (OldK base w.heap.size srcT w w5) := Lib.hid ((HO4.out.below ((Below.refl _ _).alloc hB4 _) hbw).below (hb5.mono (by simp; omega)) hbw)
          have HS5 : Hid (SrcAt w5 q A n c p4) := Lib.hid (Blk.below ((HS4.out.below ((Below.refl _ _).alloc (Nat.le_refl _) _) (Blk.lt HS4.out))) hb5 (by have := Blk.lt HS4.out; simp; omega))
          obtain ⟨F, hU, hF⟩ : ∃ F, (R = (sizesR (bitsL xs) (orderL.take C) p4 (List.replicate 19 0)).then_ F) ∧ F = _ := ⟨_, HU.out, rfl⟩
          have HU := Lib.hid hU
          have HF := Lib.hid hF
          clear hU
          have Hsz : Hid (Blk w5 w4.heap.size 3 (nats (List.replicate 19 0))) := Lib.hid ((Blk.new w4 3 (nats (List.replicate 19 0))).below hb5 (by simp))
          have hC' : (C : Int) ≤ 19 := by omega
          have hC0 : (0 : Int) ≤ (C : Int) := by omega
          have hlt5 : w4.heap.size < w5.heap.size := by have := Blk.lt Hsz.out; omega
          have hgs : w.heap.size ≤ w4.heap.size := hB4
          clear hF hb5 HOr hmk
          go_wp2_with fail
          have hb6 : Below w5.heap.size w5 ((w5.alloc (.cells #[.int .i64 0, .int .i64 0, .int .i64 0, .int .i64 0, .int .i64 0, .int .i64 0, .int .i64 0, .int .i64 0, .int .i64 0, .int .i64 0, .int .i64 0, .int .i64 0, .int .i64 0, .int .i64 0, .int .i64 0, .int .i64 0, .int .i64 0, .int .i64 0, .int .i64 0] 115)).setRow w5.heap.size ordA) := below_setRow ((Below.refl _ _).alloc (Nat.le_refl _) _) (Nat.le_refl _) _
          have HO6 := Lib.hid (HO5.out.below (hb6.mono HO5.out.size) hbw)
          have HS6 := Lib.hid (Blk.below HS5.out hb6 (Blk.lt HS5.out))
          have Hsz6 := Lib.hid (Hsz.out.below hb6 hlt5)
          have Hor6 : Hid (Blk ((w5.alloc (.cells #[.int .i64 0, .int .i64 0, .int .i64 0, .int .i64 0, .int .i64 0, .int .i64 0, .int .i64 0, .int .i64 0, .int .i64 0, .int .i64 0, .int .i64 0, .int .i64 0, .int .i64 0, .int .i64 0, .int .i64 0, .int .i64 0, .int .i64 0, .int .i64 0, .int .i64 0] 115)).setRow w5.heap.size ordA) w5.heap.size 115 ordA) := Lib.hid ((Blk.new _ _ _).setRow ordA)
          have hgo : w.heap.size ≤ w5.heap.size := HO5.out.size
          generalize ((w5.alloc (.cells #[.int .i64 0, .int .i64 0, .int .i64 0, .int .i64 0, .int .i64 0, .int .i64 0, .int .i64 0, .int .i64 0, .int .i64 0, .int .i64 0, .int .i64 0, .int .i64 0, .int .i64 0, .int .i64 0, .int .i64 0, .int .i64 0, .int .i64 0, .int .i64 0, .int .i64 0] 115)).setRow w5.heap.size ordA) = w6 at *
          generalize w4.heap.size = gs at *
          generalize w5.heap.size = go at *
          clear hst HS5 Hsz HO5 hb6
          go_loopw [33] (fun vi wr => ∃ (j p : Nat) (s : List Nat), j ≤ C ∧ vi = .int .i64 (j : Int) ∧ s.length = 19 ∧ R = (sizesR (bitsL xs) ((orderL.take C).drop j) p s).then_ F ∧ p ≤ 8 * n ∧ SrcAt wr q A n c p ∧ Blk wr gs 3 (nats s) ∧ Blk wr go 115 ordA ∧ OldK base w.heap.size srcT w wr) (fun vi _ => C - (intOf vi).toNat)
          case atStart => exact ⟨0, p4, List.replicate 19 0, Nat.zero_le _, rfl, rfl, HU.out, hp4, HS6.out, Hsz6.out, Hor6.out, HO6.out⟩
          case round =>
            obtain ⟨j, p, s, hj, rfl, hsl, hR, hple, hsr, hsz, hor, hold⟩ := hrel
            have Hsl := Lib.hid hsl
            clear HU HO6 HS6 Hsz6 Hor6 hsl
            have HI6 := Lib.hid (HI.out.old hold)
            have HB6 := Lib.hid (hold.blk HB.out (by decide))
            have HO6 := Lib.hid hold
            have HS6 := Lib.hid hsr
            have Hsz := Lib.hid hsz
            have Hor := Lib.hid hor
            by_cases hlt : j < C
            · obtain ⟨k, hk⟩ : ∃ k, k = orderL.getD j 0 := ⟨_, rfl⟩
              have hk19 : k < 19 := by rw [hk]; exact orderL_lt j (by omega)
              have hcell : wr.cell? ⟨go, j, none⟩ = some (.int .i64 (k : Int)) := by
                have hj19 : j < orderL.length := by show j < 19; omega
                rw [hor.cell, ordA_eq, List.getElem?_toArray, List.getElem?_map, List.getElem?_eq_getElem hj19, hk, List.getD_eq_getElem?_getD, List.getElem?_eq_getElem hj19]
                rfl
              have hdr : (orderL.take C).drop j = k :: (orderL.take C).drop (j + 1) := by
                have hj19 : j < (orderL.take C).length := by rw [List.length_take]; show j < min C 19; omega
                rw [List.drop_eq_getElem_cons hj19, hk, List.getElem_take, List.getD_eq_getElem?_getD, List.getElem?_eq_getElem (by show j < 19; omega)]
                rfl
              have HU := Lib.hid (show R = ((getR (bitsL xs) p 3).then_ fun x => sizesR (bitsL xs) ((orderL.take C).drop (j + 1)) x.2 (s.set k x.1)).then_ F by rw [hR, hdr]; rfl)
              have HG := Lib.hid (get_k base g q A n c p 3 xs wr hq (by rw [HB6.out.cell]; rfl) hsr hple HI6.out (by omega))
              have hjC : (j : Int) < (C : Int) := by omega
              have hj0 : (0 : Int) ≤ (j : Int) := by omega
              have hk0 : (0 : Int) ≤ (k : Int) := by omega
              have hk19' : (k : Int) < 19 := by omega
              clear hk hdr hR hold hsr hsz hor
              go_wp2_with fail
              refine (HG.out).mono ?_
              rintro e w7 ⟨hr7, hk7⟩
              have HO7 := Lib.hid (HO6.out.keeps (hk7.mono hq (fun _ h => h)))
              cases hg7 : getR (bitsL xs) p 3 with
              | bad z =>
                have he := rpost_bad hr7 hg7
                subst he
                have HU := Lib.hid (show R = .bad z by rw [HU.out, hg7]; rfl)
                clear hr7 hk7 hg7
                unfold stopE
                go_wp2_with fail
                exact ⟨rfl, bad_rpost HU.out, HO7.out⟩
              | ok a =>
                obtain ⟨he, hs7, hp7⟩ := rpost_ok hr7 hg7
                subst he
                have hx7 := getR_lt hg7
                replace HU := Lib.hid (HU.out.trans (by rw [hg7, then_ok]))
                have HB7 := Lib.hid (hk7.blk HB6.out (by decide))
                have HI7 := Lib.hid (HI6.out.keeps (hk7.mono hq (fun _ h => h)))
                have HS7 := Lib.hid hs7
                obtain ⟨x, p7⟩ := a
                dsimp only at hx7 HU HS7 hp7 ⊢
                have hxb : x < 8 := hx7
                have HKx := Lib.hid hk7
                clear hr7 hk7 hg7 hs7 HG hx7
                have Hsz7 := Lib.hid (HKx.out.blk Hsz.out (by decide))
                have Hor7 := Lib.hid (HKx.out.blk Hor.out (by decide))
                have hc7 : w7.cell? ⟨gs, k, none⟩ = some (.int .i64 ((s.getD k 0 : Nat) : Int)) := by
                  rw [Hsz7.out.cell, nats_get _ _ (by rw [Hsl.out]; exact hk19), List.getD_eq_getElem?_getD, List.getElem?_eq_getElem (by rw [Hsl.out]; exact hk19)]
                  rfl
                have hf7 := Hsz7.out.frozen k
                have HU := Lib.hid (show R = (sizesR (bitsL xs) ((orderL.take C).drop (j + 1)) p7 (s.set k x)).then_ F from HU.out)
                generalize s.getD k 0 = ov at hc7
                clear HKx Hsz Hor
                go_wp2_with fail
                go_roundw
                case rel => exact ⟨j + 1, p7, s.set k x, by omega, by go_num, by rw [List.length_set]; exact Hsl.out, HU.out, hp7, Blk.far HS7.out (p := ⟨gs, k, none⟩) (by show q ≠ gs; omega) _, by rw [← nats_set]; exact Hsz7.out.set_ k _, Hor7.out.far (p := ⟨gs, k, none⟩) (by show go ≠ gs; omega) _, HO7.out.below ((Below.refl _ _).setCell (p := ⟨gs, k, none⟩) hgs _) hbw⟩
                case measure => simp [intOf]; omega
            · obtain rfl : j = C := by omega
              have HU := Lib.hid (show R = F (p, s) by rw [hR, List.drop_of_length_le (by rw [List.length_take]; omega)]; rfl)
              rw [HF.out] at HU
              dsimp only at HU
              have HT := Lib.hid (table_r (some ⟨gs, 0, none⟩) 19 19 (zsOf s) wr (by unfold zsOf; rw [List.length_map]; exact Hsl.out) (by decide) (show SlAt _ _ _ by rw [zs_iv]; exact SlAt.of_heap hsz (by simp [nats])))
              have hB6 := hold.size
              obtain ⟨N, hN⟩ : ∃ N, N = m + d := ⟨_, rfl⟩
              have hwN : IntKind.i64.wrap ((m : Int) + (d : Int)) = (N : Int) := by rw [show (m : Int) + (d : Int) = (N : Int) by omega]; exact IntWalk.i64_in _ (by omega)
              have hN1 : m < N := by omega
              have hN2 : N ≤ 316 := by omega
              have hNd : N - m = d := by omega
              rw [← hN] at HU
              have hj19 : ¬ (j : Int) < (j : Int) := by omega
              clear hN hR hold hsr hsz hor HF Hsz Hor
              go_wp2_with fail
              refine (HT.out).mono ?_
              rintro e w8 ⟨hr8, hb8⟩
              have HO8 := Lib.hid (HO6.out.below (hb8.mono hB6) hbw)
              cases ht8 : tableR (zsOf s) with
              | bad z =>
                have he := rpost_bad hr8 ht8
                subst he
                have HU := Lib.hid (show R = .bad z by rw [HU.out, ht8]; rfl)
                clear hr8 hb8 ht8
                unfold stopE
                go_wp2_with fail
                exact ⟨rfl, bad_rpost HU.out, HO8.out⟩
              | ok ls =>
                obtain ⟨hc8, tp, he, ht⟩ := rpost_ok hr8 ht8
                subst he
                have els : lsOf (zsOf s) = ls := by
                  unfold tableR at ht8
                  rw [if_pos hc8] at ht8
                  injection ht8
                rw [← els] at ht
                have HTb := Lib.hid (show TbAt w8 base tp ls by rw [← els]; exact tabAt_tb ht (Nat.le_trans hbw hB6) hc8)
                replace HU := Lib.hid (HU.out.trans (by rw [ht8, then_ok]))
                have HS8 := Lib.hid (Blk.below HS6.out hb8 (Blk.lt HS6.out))
                have HB8 := Lib.hid (HB6.out.below hb8 (Blk.lt HB6.out))
                have HI8 := Lib.hid (HI.out.old HO8.out)
                have hbw8 : base ≤ w8.heap.size := Nat.le_trans hbw HO8.out.size
                have HL := Lib.hid (lengths_r base base g q tp A n c p N xs ls vo vk w8 hq hbw8 HB8.out HS8.out hple HI8.out HTb.out hN2)
                clear hr8 hb8 ht8 els ht hc8 HT
                go_wp2_with fail
                refine (HL.out).mono ?_
                rintro e w9 ⟨hr9, hk9⟩
                have HO9 := Lib.hid (HO8.out.trans (hk9.mono HO8.out.size))
                cases hl9 : lenR (bitsL xs) ls N N p [] with
                | bad z =>
                  have he := rpost_bad hr9 hl9
                  subst he
                  have HU := Lib.hid (show R = .bad z by rw [HU.out, hl9]; rfl)
                  clear hr9 hk9 hl9
                  unfold stopE
                  go_wp2_with fail
                  exact ⟨rfl, bad_rpost HU.out, HO9.out⟩
                | ok a =>
                  obtain ⟨A9, c9, he, hll, hown, hs9, hp9⟩ := rpost_ok hr9 hl9
                  subst he
                  replace HU := Lib.hid (HU.out.trans (by rw [hl9, then_ok]))
                  obtain ⟨p9, l⟩ := a
                  dsimp only at hll hown hs9 hp9 HU ⊢
                  obtain ⟨g9, c9', e9, hg9, hc9, hc9m, hsl9⟩ := own_here hown (by omega)
                  injection e9 with e1 e2 e3
                  subst e1 e3
                  have HOwn := Lib.hid hown
                  have HS9 := Lib.hid hs9
                  obtain ⟨v, hv⟩ : ∃ v, v = l.getD 256 0 := ⟨_, rfl⟩
                  have hl256 : l[256]? = some v := by rw [hv, List.getD_eq_getElem?_getD, List.getElem?_eq_getElem (by omega)]; rfl
                  have hc256 : w9.cell? ⟨g9, 256, none⟩ = some (.int .i64 (v : Int)) := by
                    exact slat_nth hsl9 (by rw [List.getElem?_map, hl256]; rfl)
                  rw [← hv] at HU
                  have hN256 : (256 : Int) < (N : Int) := by omega
                  have Hl := Lib.hid hll
                  clear hr9 hk9 hl9 hown hs9 hv hl256 hll hsl9 HL
                  by_cases hv0 : v = 0
                  · subst hv0
                    have HU := Lib.hid (show R = .bad 8 by rw [HU.out, if_pos rfl])
                    go_wp2_with fail
                    refine (fail_any 8 _).mono ?_
                    rintro e w10 ⟨rfl, rfl⟩
                    unfold stopE
                    go_wp2_with fail
                    exact ⟨rfl, bad_rpost HU.out, HO9.out⟩
                  · replace HU := Lib.hid (HU.out.trans (if_neg hv0))
                    have hvb : ((v : Int) == 0) = false := by rw [beq_eq_false_iff_ne]; omega
                    clear hv0
                    go_wp2_with fail
                    have hmN : (m : Int) ≤ (N : Int) := by omega
                    have hm0 : (0 : Int) ≤ (m : Int) := by omega
                    have hNc : (N : Int) ≤ (c9 : Int) := by omega
                    have hmc : (m : Int) ≤ (c9 : Int) := by omega
                    have hmc' : ¬ (c9 = m) := by omega
                    have hmcn : (m : Int) ≠ (c9 : Int) := by omega
                    refine wp_region_S (fun _ => True) 9 (by kernel_rfl) ?_
                    have hHeld : True := True.intro
                    obtain ⟨w10, hw10⟩ : ∃ w10, w10 = w9.drew := ⟨_, rfl⟩
                    have hb10 : Below w9.heap.size w9 w10 := by rw [hw10]; exact (Below.refl _ _).drew
                    have HOwn := Lib.hid (own_keep HOwn.out hb10)
                    have HS10 := Lib.hid (Blk.below HS9.out hb10 (Blk.lt HS9.out))
                    have HO10 := Lib.hid (HO9.out.below (hb10.mono HO9.out.size) hbw)
                    rw [← hw10]
                    clear hw10 hb10 hc256 HS9 HO9
                    refine wpAnyS_takeT (i := 0) (v := ?va0) (by kernel_rfl) (by kernel_rfl) rfl (by kernel_rfl) (by kernel_rfl) (by kernel_rfl) (fun _ _ _ h => h) (by rfl) (by assumption) ?hya0 ?resta0
                    case hya0 => (intro W hSW; (try dsimp only at hSW); go_simp; try with_reducible rfl)
                    (try simp only [Act.put, List.getElem_toArray, List.getElem_cons_zero, List.getElem_cons_succ, List.setIfInBounds_toArray, List.set_cons_zero, List.set_cons_succ])
                    refine wpAnyS_takeT (i := 1) (v := ?va1) (by kernel_rfl) (by kernel_rfl) rfl (by kernel_rfl) (by kernel_rfl) (by kernel_rfl) (fun _ _ _ h => h) (by rfl) (by assumption) ?hya1 ?resta1
                    case hya1 => (intro W hSW; (try dsimp only at hSW); go_simp; try with_reducible rfl)
                    (try simp only [Act.put, List.getElem_toArray, List.getElem_cons_zero, List.getElem_cons_succ, List.setIfInBounds_toArray, List.set_cons_zero, List.set_cons_succ])
                    refine wpAnyS_takeT (i := 2) (v := ?va2) (by kernel_rfl) (by kernel_rfl) rfl (by kernel_rfl) (by kernel_rfl) (by kernel_rfl) (fun _ _ _ h => h) (by rfl) (by assumption) ?hya2 ?resta2
                    case hya2 => (intro W hSW; (try dsimp only at hSW); go_simp; try with_reducible rfl)
                    (try simp only [Act.put, List.getElem_toArray, List.getElem_cons_zero, List.getElem_cons_succ, List.setIfInBounds_toArray, List.set_cons_zero, List.set_cons_succ])
                    refine wpAnyS_takeT (i := 4) (v := ?va4) (by kernel_rfl) (by kernel_rfl) rfl (by kernel_rfl) (by kernel_rfl) (by kernel_rfl) (fun _ _ _ h => h) (by rfl) (by assumption) ?hya4 ?resta4
                    case hya4 => (intro W hSW; (try dsimp only at hSW); go_simp; try with_reducible rfl)
                    (try simp only [Act.put, List.getElem_toArray, List.getElem_cons_zero, List.getElem_cons_succ, List.setIfInBounds_toArray, List.set_cons_zero, List.set_cons_succ])
                    refine wpAnyS_takeT (i := 5) (v := ?va5) (by kernel_rfl) (by kernel_rfl) rfl (by kernel_rfl) (by kernel_rfl) (by kernel_rfl) (fun _ _ _ h => h) (by rfl) (by assumption) ?hya5 ?resta5
                    case hya5 => (intro W hSW; (try dsimp only at hSW); go_simp; try with_reducible rfl)
                    (try simp only [Act.put, List.getElem_toArray, List.getElem_cons_zero, List.getElem_cons_succ, List.setIfInBounds_toArray, List.set_cons_zero, List.set_cons_succ])
                    refine wpAnyS_takeT (i := 6) (v := ?va6) (by kernel_rfl) (by kernel_rfl) rfl (by kernel_rfl) (by kernel_rfl) (by kernel_rfl) (fun _ _ _ h => h) (by rfl) (by assumption) ?hya6 ?resta6
                    case hya6 => (intro W hSW; (try dsimp only at hSW); go_simp; try with_reducible rfl)
                    (try simp only [Act.put, List.getElem_toArray, List.getElem_cons_zero, List.getElem_cons_succ, List.setIfInBounds_toArray, List.set_cons_zero, List.set_cons_succ])
                    obtain ⟨gb, gcap, eg, _, _, _, hsl⟩ := own_here HOwn.out (by omega)
                    injection eg with e1 e2 e3
                    injection e1 with e1
                    injection e1 with e1
                    subst e1 e3
                    have htake : (l.take m).length = m := by rw [List.length_take, Hl.out]; omega
                    have hdrop : (l.drop m).length = d := by rw [List.length_drop, Hl.out]; exact hNd
                    have HT1 := Lib.hid (fun W (h : SlAt W (some ⟨g9, 0, none⟩) ((l.map natV))) (cc : Nat) => table_r (some ⟨g9, 0, none⟩) m cc (zsOf (l.take m)) W (by unfold zsOf; rw [List.length_map]; exact htake) (by unfold maxLen; omega) (show SlAt _ _ _ by rw [zs_iv, List.map_take]; exact SlAt.take h m))
                    have HT2 := Lib.hid (fun W (h : SlAt W (some ⟨g9, 0, none⟩) ((l.map natV))) (cc : Nat) => table_r (some ⟨g9, m, none⟩) d cc (zsOf (l.drop m)) W (by unfold zsOf; rw [List.length_map]; exact hdrop) (by unfold maxLen; omega) (show SlAt _ _ _ by rw [zs_iv, List.map_drop]; have := SlAt.drop h m; rwa [Nat.zero_add] at this))
                    have Hsl := Lib.hid hsl
                    have hB10 := HO10.out.size
                    clear hsl htake hdrop HOwn
                    refine wpAnyS_only (i := 3) rfl (by kernel_rfl) (fun K hK => ?_)
                    go_simp
                    clear hHeld
                    go_at_call 77
                    refine (HT1.out w10 Hsl.out _).mono ?_
                    rintro e w11 ⟨hr11, hb11⟩
                    have HO11 := Lib.hid (HO10.out.below (hb11.mono hB10) hbw)
                    cases ht11 : tableR (zsOf (l.take m)) with
                    | bad z =>
                      have he := rpost_bad hr11 ht11
                      subst he
                      have HU := Lib.hid (show R = .bad z by rw [HU.out, ht11]; rfl)
                      clear hr11 hb11 ht11
                      unfold stopE
                      go_wp2_with fail
                      exact ⟨rfl, bad_rpost HU.out, HO11.out⟩
                    | ok l1 =>
                      obtain ⟨hc11, p1, he, ht⟩ := rpost_ok hr11 ht11
                      subst he
                      have els : lsOf (zsOf (l.take m)) = l1 := by
                        unfold tableR at ht11
                        rw [if_pos hc11] at ht11
                        injection ht11
                      rw [← els] at ht
                      have HTb1 := Lib.hid (show TbAt w11 base p1 l1 by rw [← els]; exact tabAt_tb ht (Nat.le_trans hbw hB10) hc11)
                      replace HU := Lib.hid (HU.out.trans (by rw [ht11, then_ok]))
                      have HS11 := Lib.hid (Blk.below HS10.out hb11 (Blk.lt HS10.out))
                      have Hsl := Lib.hid (SlAt.below Hsl.out hb11)
                      have hB11 := HO11.out.size
                      clear hr11 hb11 ht11 els ht hc11 HT1 HS10
                      refine hK.out _ _ True.intro (fun hHeld => ?_)
                      clear hK K
                      (try simp only [Act.put, List.getElem_toArray, List.getElem_cons_zero, List.getElem_cons_succ, List.setIfInBounds_toArray, List.set_cons_zero, List.set_cons_succ])
                      refine wpAnyS_only (i := 7) rfl (by kernel_rfl) (fun K hK => ?_)
                      go_simp
                      go_at_call 77
                      refine (HT2.out w11 Hsl.out _).mono ?_
                      rintro e w12 ⟨hr12, hb12⟩
                      have HO12 := Lib.hid (HO11.out.below (hb12.mono hB11) hbw)
                      cases ht12 : tableR (zsOf (l.drop m)) with
                      | bad z =>
                        have he := rpost_bad hr12 ht12
                        subst he
                        have HU := Lib.hid (show R = .bad z by rw [HU.out, ht12]; rfl)
                        clear hr12 hb12 ht12
                        unfold stopE
                        go_wp2_with fail
                        exact ⟨rfl, bad_rpost HU.out, HO12.out⟩
                      | ok l2 =>
                        obtain ⟨hc12, p2', he, ht⟩ := rpost_ok hr12 ht12
                        subst he
                        have els : lsOf (zsOf (l.drop m)) = l2 := by
                          unfold tableR at ht12
                          rw [if_pos hc12] at ht12
                          injection ht12
                        rw [← els] at ht
                        have HTb2 := Lib.hid (show TbAt w12 base p2' l2 by rw [← els]; exact tabAt_tb ht (Nat.le_trans hbw hB11) hc12)
                        have HTb1 := Lib.hid (HTb1.out.old (B0 := 0) hb12)
                        replace HU := Lib.hid (HU.out.trans (by rw [ht12, then_ok]))
                        have HS12 := Lib.hid (Blk.below HS11.out hb12 (Blk.lt HS11.out))
                        clear hr12 hb12 ht12 els ht hc12 HT2 HS11 Hsl
                        refine hK.out _ _ True.intro (fun hHeld => ?_)
                        clear hK K
                        (try simp only [Act.put, List.getElem_toArray, List.getElem_cons_zero, List.getElem_cons_succ, List.setIfInBounds_toArray, List.set_cons_zero, List.set_cons_succ])
                        refine wpAnyS_only (i := 8) rfl (by kernel_rfl) (fun K hK => ?_)
                        go_simp
                        refine hK.out _ _ True.intro (fun hHeld => ?_)
                        clear hK K
                        (try simp only [Act.put, List.getElem_toArray, List.getElem_cons_zero, List.getElem_cons_succ, List.setIfInBounds_toArray, List.set_cons_zero, List.set_cons_succ])
                        refine wpAnyS_last rfl (by kernel_rfl) (by kernel_rfl) (fun K hK => ?_)
                        go_simp
                        refine hK.out _ _ ?_
                        clear hK K
                        go_wp2_with fail
                        go_ret2
                        exact ⟨ok_rpost HU.out ⟨p1, p2', rfl, HTb1.out, HTb2.out, HS12.out, hp9⟩, HO12.out⟩
end Go.Proofs.Ythpdcnjaodjjmaa.Inf

/- package inflate: a block. -/
namespace Go.Proofs.Ythpdcnjaodjjmaa.Inf
open Go Go.RowKit Go.Proofs.Ythpdcnjaodjjmaa Go.Proofs.Ythpdcnjaodjjmaa.Bits Go.Proofs.Ythpdcnjaodjjmaa.Code
set_option linter.unusedVariables false
set_option linter.unusedSimpArgs false

/-- the types of blocks that a block turns -/
def infT2 : List TypeId := [56, 76, 5, 3]
theorem kT2 {base : Nat} {w w' : World} (hk : Keeps base infT w w') : Keeps base infT2 w w' := hk.mono (Nat.le_refl _) (fun t ht => by simp only [infT, List.mem_cons, List.not_mem_nil, or_false] at ht; rcases ht with h | h | h <;> subst h <;> simp [infT2])
theorem kT3 {base : Nat} {w w' : World} (hk : Keeps base srcT w w') : Keeps base infT w w' := kT hk (Nat.le_refl _)
theorem RdAt.filledO {w w' : World} {base g q : Nat} {A : Option Addr} {n c pos pos' : Nat} {out : List UInt8} {ks : List Nat} (h : RdAt w base g q A n c pos out ks) (hk : Keeps base srcT w w') (hs : SrcAt w' q A n c pos') (hp : pos' ≤ 8 * n) : RdAt w' base g q A n c pos' out ks := by
  obtain ⟨hg, hq, _, hfew, ⟨vo, vk, hb, ho, hk'⟩, _⟩ := h
  exact ⟨hg, hq, hp, hfew, ⟨vo, vk, hk.blk hb (by decide), hk.own ho (by decide), hk.own hk' (by decide)⟩, hs⟩
theorem RdAt.rdr {w : World} {base g q : Nat} {A : Option Addr} {n c pos : Nat} {out : List UInt8} {ks : List Nat} (h : RdAt w base g q A n c pos out ks) : ∃ vo vk, Blk w g 56 #[.pointer (some ⟨q, 0, none⟩), vo, vk] := by
  obtain ⟨_, _, _, _, ⟨vo, vk, hb, _, _⟩, _⟩ := h
  exact ⟨vo, vk, hb⟩
theorem lsOf_zsOf (l : List Nat) : lsOf (zsOf l) = l := by
  unfold lsOf zsOf
  rw [List.map_map]
  exact (List.map_congr_left (fun x _ => by simp)).trans (List.map_id l)
theorem chk_fixA : chkL (zsOf fixedA) = 0 := by decide +kernel
theorem chk_fixB : chkL (zsOf fixedB) = 0 := by decide +kernel
set_option maxRecDepth 100000 in
set_option maxHeartbeats 1600000 in
/-- the kinds of blocks, one more -/
theorem kind_any {w : World} {base g q : Nat} {A : Option Addr} {n c pos : Nat} {out : List UInt8} {ks : List Nat} (h : RdAt w base g q A n c pos out ks) : ∃ vo Ak kl ck, kl = ks.length ∧ Blk w g 56 #[.pointer (some ⟨q, 0, none⟩), vo, .slice Ak kl ck] ∧ w.ownsRow base 5 1 vo out.length (out.map u8v) ∧ w.ownsRow base 3 1 (.slice Ak kl ck) kl (ks.map natV) := by
  obtain ⟨_, _, _, _, ⟨vo, vk, hb, ho, hk⟩, _⟩ := h
  obtain ⟨Ak, ck, rfl, _⟩ := own_slat hk
  exact ⟨vo, Ak, _, ck, rfl, hb, ho, hk⟩
theorem hkl_vo {w : World} {o : Obj} {g : Nat} {t : TypeId} {a vo vk vo' vk' : Value} (h1 : Blk w g t #[a, vo, vk]) (h2 : Blk (w.alloc o) g t #[a, vo', vk']) : vo = vo' := by
  have := (h1.alloc o).symm.trans h2
  injection this with this
  injection this with this
  simp at this
  exact this.1
set_option maxRecDepth 100000 in
set_option maxHeartbeats 1600000 in
theorem block_r (base g q : Nat) (A : Option Addr) (n c pos : Nat) (xs : List UInt8) (out : List UInt8) (ks : List Nat) (w : World) (h : RdAt w base g q A n c pos out ks) (hi : InAt_ w base A n xs) (hn : n ≤ 1000000) (hkl : ks.length ≤ 1000000) :
    Calls Try.prog 26 #[.pointer (some ⟨g, 0, none⟩)] w fun e w' =>
      RPost (blockR (bitsL xs) pos out) (fun a e w' => e = .returned (.bool a.1) ∧ RdAt w' base g q A n c a.2.2.1 a.2.2.2 (ks ++ [a.2.1])) e w' ∧ Keeps base infT2 w w' := by
  obtain ⟨R, hR⟩ : ∃ R, R = blockR (bitsL xs) pos out := ⟨_, rfl⟩
  rw [← hR]
  unfold blockR at hR
  have HU := Lib.hid hR
  have HR1 := Lib.hid h
  have HI := Lib.hid hi
  have hq := h.qle
  have HG := Lib.hid (get_r base g q A n c pos 1 xs out ks w h hi (by omega))
  clear h hi hR
  go_enter Try.func26, Try.ntmps26
  go_wp2_with fail
  refine (HG.out).mono ?_
  rintro e w2 ⟨hr2, hk2⟩
  have HK2 := Lib.hid (kT2 hk2)
  have HI2 := Lib.hid (HI.out.keeps hk2)
  cases hg2 : getR (bitsL xs) pos 1 with
  | bad z =>
    have he := rpost_bad hr2 hg2
    subst he
    have HU := Lib.hid (show R = .bad z by rw [HU.out, hg2]; rfl)
    clear hr2 hk2 hg2
    unfold stopE
    go_wp2_with fail
    exact ⟨rfl, bad_rpost HU.out, HK2.out⟩
  | ok a =>
    obtain ⟨he, hrd2⟩ := rpost_ok hr2 hg2
    subst he
    replace HU := Lib.hid (HU.out.trans (by rw [hg2, then_ok]))
    have HR2 := Lib.hid hrd2
    obtain ⟨x, p2⟩ := a
    dsimp only at HU HR2 ⊢
    obtain ⟨lb, hlb⟩ : ∃ lb, lb = (x == 1) := ⟨_, rfl⟩
    have hlb' : ((x : Int) == 1) = lb := by
      rw [hlb, Bool.eq_iff_iff]
      simp only [beq_iff_eq]
      omega
    rw [← hlb] at HU
    have HG := Lib.hid (get_r base g q A n c p2 2 xs out ks w2 HR2.out HI2.out (by omega))
    clear hr2 hk2 hg2 hrd2 hlb
    go_wp2_with fail
    refine (HG.out).mono ?_
    rintro e w3 ⟨hr3, hk3⟩
    have HK3 := Lib.hid (HK2.out.trans (kT2 hk3))
    have HI3 := Lib.hid (HI2.out.keeps hk3)
    cases hg3 : getR (bitsL xs) p2 2 with
    | bad z =>
      have he := rpost_bad hr3 hg3
      subst he
      have HU := Lib.hid (show R = .bad z by rw [HU.out, hg3]; rfl)
      clear hr3 hk3 hg3
      unfold stopE
      go_wp2_with fail
      exact ⟨rfl, bad_rpost HU.out, HK3.out⟩
    | ok a =>
      obtain ⟨he, hrd3⟩ := rpost_ok hr3 hg3
      subst he
      have hk4 := getR_lt hg3
      replace HU := Lib.hid (HU.out.trans (by rw [hg3, then_ok]))
      have HR3 := Lib.hid hrd3
      obtain ⟨k, p3⟩ := a
      dsimp only at HU HR3 hk4 ⊢
      clear hr3 hk3 hg3 hrd3 HG
      rcases (by omega : k = 0 ∨ k = 1 ∨ k = 2 ∨ k = 3) with hk | hk | hk | hk
      · subst hk
        replace HU := Lib.hid (HU.out.trans (if_pos rfl))
        have HG := Lib.hid (stored_r base g q A n c p3 xs out ks w3 HR3.out HI3.out)
        have hrb := HR3
        go_wp2_with fail
        refine (HG.out).mono ?_
        rintro e w4 ⟨hr4, hk4⟩
        have HK4 := Lib.hid (HK3.out.trans (kT2 hk4))
        cases hg4 : storedR (bitsL xs) p3 out with
        | bad z =>
          have he := rpost_bad hr4 hg4
          subst he
          have HU := Lib.hid (show R = .bad z by rw [HU.out, hg4]; rfl)
          clear hr4 hk4 hg4
          unfold stopE
          go_wp2_with fail
          exact ⟨rfl, bad_rpost HU.out, HK4.out⟩
        | ok a =>
          obtain ⟨he, hrd4⟩ := rpost_ok hr4 hg4
          subst he
          replace HU := Lib.hid (HU.out.trans (by rw [hg4, then_ok]))
          have HR4 := Lib.hid hrd4
          obtain ⟨p4, o4⟩ := a
          dsimp only at HU HR4 ⊢
          clear hr4 hk4 hg4 hrd4 HG hrb
          obtain ⟨vo, Ak, kl, ck, ekl, hb, ho, hkk⟩ := kind_any HR4.out
          have hbw : base ≤ w4.heap.size := HR4.out.bw
          have c2 : w4.cell? ⟨g, 2, none⟩ = some (.slice Ak kl ck) := by rw [hb.cell]; rfl
          have f2 := hb.frozen 2
          have hlt := hb.lt
          have hkl1 : kl ≤ 1000000 := by omega
          have hbA : Below w4.heap.size w4 (w4.alloc (.cells #[.int .i64 0] 3)) := (Below.refl _ _).alloc (Nat.le_refl _) _
          have HO2 := Lib.hid (own_keep hkk hbA)
          have HB2 := Lib.hid (hb.below hbA hb.lt)
          have hbw2 : base ≤ (w4.alloc (.cells #[.int .i64 0] 3)).heap.size := Nat.le_trans hbw hbA.size
          have HZ : Hid (SlAt (w4.alloc (.cells #[.int .i64 0] 3)) (some ⟨w4.heap.size, 0, none⟩) [.int .i64 0]) := Lib.hid (SlAt.of_heap (heap_alloc_new _ _) rfl)
          have Hekl := Lib.hid ekl
          have HKA := Lib.hid (Keeps.of_below (T := infT2) hbA hbw)
          clear hb ho hkk hbA ekl
          go_wp2_with (at_builtin; refine wpList_app _ rfl (.tmp 47) (.tmp 49) _ rfl base 3 _ 1 8 tyI _ kl (ks.map natV) rfl HO2.out (some ⟨w4.heap.size, 0, none⟩) 1 1 [.int .i64 0] rfl rfl HZ.out (by simp [Value.oneCell']) (by simp) (by unfold maxLen; omega) (by omega) hbw2 ?_; intro v8 w8 hown8 hg8 _; obtain ⟨A8, d8, rfl, _⟩ := own_slat hown8; have hkp : Keeps base [3] (w4.alloc (.cells #[.int .i64 0] 3)) w8 := (Keeps.refl _ _ _).grown HO2.out hg8 (by simp) hbw2; have HB8 := Lib.hid (hkp.blk HB2.out (by decide)); have HK8 := Lib.hid hkp; have Ho8 := Lib.hid hown8; have c8 : w8.cell? ⟨g, 2, none⟩ = some (.slice Ak kl ck) := (HB8.out.cell 2).trans rfl; have f8 := HB8.out.frozen 2; clear hown8 hg8 hkp)
          go_ret
          have hgg : base ≤ g := by obtain ⟨hg, _⟩ := HR4.out; exact hg
          have k8 : Keeps base [3] w4 w8 := (Keeps.of_below ((Below.refl _ _).alloc (Nat.le_refl _) _) hbw).trans HK8.out
          have k9 : Keeps base [56] w8 (w8.setCell ⟨g, 2, none⟩ (.slice A8 (kl + 1) d8)) := (Keeps.refl _ _ _).setBlk HB8.out (by simp) hgg 2 _
          have k89 : Keeps base [3, 56] w4 (w8.setCell ⟨g, 2, none⟩ (.slice A8 (kl + 1) d8)) := (k8.mono (Nat.le_refl _) (by simp)).trans (k9.mono (Nat.le_refl _) (by simp))
          refine ⟨ok_rpost HU.out ⟨rfl, ?_⟩, HK4.out.trans (k89.mono (Nat.le_refl _) (by simp [infT2]))⟩
          obtain ⟨h1, h2, h3, h4, ⟨vo', vk', h5, h6, h7⟩, h8⟩ := HR4.out
          have e5 : vo' = vo := by
            have := hkl_vo h5 HB2.out
            exact this
          subst e5
          refine ⟨h1, h2, h3, h4, ⟨vo', .slice A8 (kl + 1) d8, HB8.out.set_ 2 _, k89.own h6 (by decide), ?_⟩, k89.blk h8 (by decide)⟩
          have h9 := k9.own Ho8.out (by decide)
          rw [List.length_append, ← Hekl.out, List.map_append]
          exact h9
      · subst hk
        replace HU := Lib.hid (HU.out.trans ((if_neg (by omega)).trans (if_pos rfl)))
        have HF := Lib.hid (fixed_any w3)
        have hbw3 : base ≤ w3.heap.size := HR3.out.bw
        go_wp2_with fail
        refine (HF.out).mono ?_
        rintro e w4 ⟨Aa, ca, Ab, cb, rfl, ha, hb, hb4⟩
        have HK4 := Lib.hid (HK3.out.trans (Keeps.of_below hb4 hbw3))
        have HI4 := Lib.hid (HI3.out.keeps (T := infT) (Keeps.of_below hb4 hbw3))
        have HR4 := Lib.hid (HR3.out.below hb4)
        obtain ⟨_, _, e1, _, _, sa, _⟩ := own_slat ha
        injection e1 with e1 _ e2
        subst e1 e2
        obtain ⟨_, _, e1, _, _, sb, _⟩ := own_slat hb
        injection e1 with e1 _ e2
        subst e1 e2
        have SA := Lib.hid sa
        have SB := Lib.hid sb
        have HM := Lib.hid (make_any Aa 288 ca (zsOf fixedA) w4 (by decide) (show SlAt _ _ _ by rw [zs_iv]; exact sa) chk_fixA)
        have hbw4 : base ≤ w4.heap.size := HR4.out.bw
        clear ha hb hb4 sa sb HF
        go_wp2_with fail
        refine (HM.out).mono ?_
        rintro e w5 ⟨⟨pa, rfl, hta⟩, hb5⟩
        rw [lsOf_zsOf] at hta
        have HTa : Hid (TbAt w5 base pa fixedA) := Lib.hid (by
          rw [← lsOf_zsOf fixedA] at hta ⊢
          exact tabAt_tb hta hbw4 chk_fixA)
        have HK5 := Lib.hid (HK4.out.trans (Keeps.of_below hb5 hbw4))
        have HI5 := Lib.hid (HI4.out.keeps (T := infT) (Keeps.of_below hb5 hbw4))
        have HR5 := Lib.hid (HR4.out.below hb5)
        have SB := Lib.hid (SlAt.below SB.out hb5)
        have HM := Lib.hid (make_any Ab 32 cb (zsOf fixedB) w5 (by decide) (show SlAt _ _ _ by rw [zs_iv]; exact SB.out) chk_fixB)
        have hbw5 : base ≤ w5.heap.size := HR5.out.bw
        clear hb5 hta
        go_wp2_with fail
        refine (HM.out).mono ?_
        rintro e w6 ⟨⟨pb, rfl, htb⟩, hb6⟩
        rw [lsOf_zsOf] at htb
        have HTb : Hid (TbAt w6 base pb fixedB) := Lib.hid (by
          rw [← lsOf_zsOf fixedB] at htb ⊢
          exact tabAt_tb htb hbw5 chk_fixB)
        have HTa := Lib.hid (HTa.out.old (B0 := 0) hb6)
        have HK6 := Lib.hid (HK5.out.trans (Keeps.of_below hb6 hbw5))
        have HI6 := Lib.hid (HI5.out.keeps (T := infT) (Keeps.of_below hb6 hbw5))
        have HR6 := Lib.hid (HR5.out.below hb6)
        clear hb6 htb HM SA SB
        have HG := Lib.hid (body_r base g q pa pb A n c p3 xs out ks fixedA fixedB w6 HR6.out HI6.out HTa.out HTb.out hn)
        have hwlen : (bitsL xs).length = (bitsL xs).length := rfl
        clear hwlen
        go_wp2_with fail
        refine (HG.out).mono ?_
        rintro e w7 ⟨hr7, hk7⟩
        have HK7 := Lib.hid (HK6.out.trans (kT2 hk7))
        cases hg7 : bodyR (bitsL xs) fixedA fixedB ((bitsL xs).length + 1) p3 out with
        | bad z =>
          have he := rpost_bad hr7 hg7
          subst he
          have HU := Lib.hid (show R = .bad z by rw [HU.out, hg7]; rfl)
          clear hr7 hk7 hg7
          unfold stopE
          go_wp2_with fail
          exact ⟨rfl, bad_rpost HU.out, HK7.out⟩
        | ok a =>
          obtain ⟨he, hrd7⟩ := rpost_ok hr7 hg7
          subst he
          replace HU := Lib.hid (HU.out.trans (by rw [hg7, then_ok]))
          have HR7 := Lib.hid hrd7
          obtain ⟨p7, o7⟩ := a
          dsimp only at HU HR7 ⊢
          clear hr7 hk7 hg7 hrd7 HG
          obtain ⟨vo, Ak, kl, ck, ekl, hb, ho, hkk⟩ := kind_any HR7.out
          have hbw : base ≤ w7.heap.size := HR7.out.bw
          have c2 : w7.cell? ⟨g, 2, none⟩ = some (.slice Ak kl ck) := by rw [hb.cell]; rfl
          have f2 := hb.frozen 2
          have hlt := hb.lt
          have hkl1 : kl ≤ 1000000 := by omega
          have hbA : Below w7.heap.size w7 (w7.alloc (.cells #[.int .i64 1] 3)) := (Below.refl _ _).alloc (Nat.le_refl _) _
          have HO2 := Lib.hid (own_keep hkk hbA)
          have HB2 := Lib.hid (hb.below hbA hb.lt)
          have hbw2 : base ≤ (w7.alloc (.cells #[.int .i64 1] 3)).heap.size := Nat.le_trans hbw hbA.size
          have HZ : Hid (SlAt (w7.alloc (.cells #[.int .i64 1] 3)) (some ⟨w7.heap.size, 0, none⟩) [.int .i64 1]) := Lib.hid (SlAt.of_heap (heap_alloc_new _ _) rfl)
          have Hekl := Lib.hid ekl
          have HKA := Lib.hid (Keeps.of_below (T := infT2) hbA hbw)
          clear hb ho hkk hbA ekl
          go_wp2_with (at_builtin; refine wpList_app _ rfl (.tmp 47) (.tmp 49) _ rfl base 3 _ 1 8 tyI _ kl (ks.map natV) rfl HO2.out (some ⟨w7.heap.size, 0, none⟩) 1 1 [.int .i64 1] rfl rfl HZ.out (by simp [Value.oneCell']) (by simp) (by unfold maxLen; omega) (by omega) hbw2 ?_; intro v8 w8 hown8 hg8 _; obtain ⟨A8, d8, rfl, _⟩ := own_slat hown8; have hkp : Keeps base [3] (w7.alloc (.cells #[.int .i64 1] 3)) w8 := (Keeps.refl _ _ _).grown HO2.out hg8 (by simp) hbw2; have HB8 := Lib.hid (hkp.blk HB2.out (by decide)); have HK8 := Lib.hid hkp; have Ho8 := Lib.hid hown8; have c8 : w8.cell? ⟨g, 2, none⟩ = some (.slice Ak kl ck) := (HB8.out.cell 2).trans rfl; have f8 := HB8.out.frozen 2; clear hown8 hg8 hkp)
          go_ret
          have hgg : base ≤ g := by obtain ⟨hg, _⟩ := HR7.out; exact hg
          have k8 : Keeps base [3] w7 w8 := (Keeps.of_below ((Below.refl _ _).alloc (Nat.le_refl _) _) hbw).trans HK8.out
          have k9 : Keeps base [56] w8 (w8.setCell ⟨g, 2, none⟩ (.slice A8 (kl + 1) d8)) := (Keeps.refl _ _ _).setBlk HB8.out (by simp) hgg 2 _
          have k89 : Keeps base [3, 56] w7 (w8.setCell ⟨g, 2, none⟩ (.slice A8 (kl + 1) d8)) := (k8.mono (Nat.le_refl _) (by simp)).trans (k9.mono (Nat.le_refl _) (by simp))
          refine ⟨ok_rpost HU.out ⟨rfl, ?_⟩, HK7.out.trans (k89.mono (Nat.le_refl _) (by simp [infT2]))⟩
          obtain ⟨h1, h2, h3, h4, ⟨vo', vk', h5, h6, h7⟩, h8⟩ := HR7.out
          have e5 : vo' = vo := by
            have := hkl_vo h5 HB2.out
            exact this
          subst e5
          refine ⟨h1, h2, h3, h4, ⟨vo', .slice A8 (kl + 1) d8, HB8.out.set_ 2 _, k89.own h6 (by decide), ?_⟩, k89.blk h8 (by decide)⟩
          have h9 := k9.own Ho8.out (by decide)
          rw [List.length_append, ← Hekl.out, List.map_append]
          exact h9
      · subst hk
        replace HU := Lib.hid (HU.out.trans ((if_neg (by omega)).trans ((if_neg (by omega)).trans (if_pos rfl))))
        obtain ⟨vo0, vk0, hrdr⟩ := HR3.out.rdr
        have hbw3 : base ≤ w3.heap.size := HR3.out.bw
        have HC := Lib.hid (codes_r base g q A n c p3 xs vo0 vk0 w3 hq hbw3 hrdr HR3.out.src HR3.out.ple HI3.out)
        clear hrdr
        go_wp2_with fail
        refine (HC.out).mono ?_
        rintro e w4 ⟨hr4, hk4⟩
        have hkk := hk4.toKeeps
        have HK4 := Lib.hid (HK3.out.trans (kT2 (kT3 hkk)))
        cases hg4 : headR (bitsL xs) p3 with
        | bad z =>
          have he := rpost_bad hr4 hg4
          subst he
          have HU := Lib.hid (show R = .bad z by rw [HU.out, hg4]; rfl)
          clear hr4 hk4 hg4 hkk
          unfold stopE
          go_wp2_with fail
          exact ⟨rfl, bad_rpost HU.out, HK4.out⟩
        | ok a =>
          obtain ⟨pa, pb, he, hta, htb, hs4, hp4⟩ := rpost_ok hr4 hg4
          subst he
          replace HU := Lib.hid (HU.out.trans (by rw [hg4, then_ok]))
          have HI4 := Lib.hid (HI3.out.keeps hkk)
          have HR4 := Lib.hid (HR3.out.filledO hkk hs4 hp4)
          have HTa := Lib.hid hta
          have HTb := Lib.hid htb
          obtain ⟨p4, la, lb'⟩ := a
          dsimp only at HU HR4 HTa HTb ⊢
          clear hr4 hk4 hg4 hkk hta htb hs4 hp4 HC
          have HG := Lib.hid (body_r base g q pa pb A n c p4 xs out ks la lb' w4 HR4.out HI4.out HTa.out HTb.out hn)
          have hwlen : (bitsL xs).length = (bitsL xs).length := rfl
          clear hwlen
          go_wp2_with fail
          refine (HG.out).mono ?_
          rintro e w7 ⟨hr7, hk7⟩
          have HK7 := Lib.hid (HK4.out.trans (kT2 hk7))
          cases hg7 : bodyR (bitsL xs) la lb' ((bitsL xs).length + 1) p4 out with
          | bad z =>
            have he := rpost_bad hr7 hg7
            subst he
            have HU := Lib.hid (show R = .bad z by rw [HU.out, hg7]; rfl)
            clear hr7 hk7 hg7
            unfold stopE
            go_wp2_with fail
            exact ⟨rfl, bad_rpost HU.out, HK7.out⟩
          | ok a =>
            obtain ⟨he, hrd7⟩ := rpost_ok hr7 hg7
            subst he
            replace HU := Lib.hid (HU.out.trans (by rw [hg7, then_ok]))
            have HR7 := Lib.hid hrd7
            obtain ⟨p7, o7⟩ := a
            dsimp only at HU HR7 ⊢
            clear hr7 hk7 hg7 hrd7 HG
            obtain ⟨vo, Ak, kl, ck, ekl, hb, ho, hkk⟩ := kind_any HR7.out
            have hbw : base ≤ w7.heap.size := HR7.out.bw
            have c2 : w7.cell? ⟨g, 2, none⟩ = some (.slice Ak kl ck) := by rw [hb.cell]; rfl
            have f2 := hb.frozen 2
            have hlt := hb.lt
            have hkl1 : kl ≤ 1000000 := by omega
            have hbA : Below w7.heap.size w7 (w7.alloc (.cells #[.int .i64 2] 3)) := (Below.refl _ _).alloc (Nat.le_refl _) _
            have HO2 := Lib.hid (own_keep hkk hbA)
            have HB2 := Lib.hid (hb.below hbA hb.lt)
            have hbw2 : base ≤ (w7.alloc (.cells #[.int .i64 2] 3)).heap.size := Nat.le_trans hbw hbA.size
            have HZ : Hid (SlAt (w7.alloc (.cells #[.int .i64 2] 3)) (some ⟨w7.heap.size, 0, none⟩) [.int .i64 2]) := Lib.hid (SlAt.of_heap (heap_alloc_new _ _) rfl)
            have Hekl := Lib.hid ekl
            have HKA := Lib.hid (Keeps.of_below (T := infT2) hbA hbw)
            clear hb ho hkk hbA ekl
            go_wp2_with (at_builtin; refine wpList_app _ rfl (.tmp 47) (.tmp 49) _ rfl base 3 _ 1 8 tyI _ kl (ks.map natV) rfl HO2.out (some ⟨w7.heap.size, 0, none⟩) 1 1 [.int .i64 2] rfl rfl HZ.out (by simp [Value.oneCell']) (by simp) (by unfold maxLen; omega) (by omega) hbw2 ?_; intro v8 w8 hown8 hg8 _; obtain ⟨A8, d8, rfl, _⟩ := own_slat hown8; have hkp : Keeps base [3] (w7.alloc (.cells #[.int .i64 2] 3)) w8 := (Keeps.refl _ _ _).grown HO2.out hg8 (by simp) hbw2; have HB8 := Lib.hid (hkp.blk HB2.out (by decide)); have HK8 := Lib.hid hkp; have Ho8 := Lib.hid hown8; have c8 : w8.cell? ⟨g, 2, none⟩ = some (.slice Ak kl ck) := (HB8.out.cell 2).trans rfl; have f8 := HB8.out.frozen 2; clear hown8 hg8 hkp)
            go_ret
            have hgg : base ≤ g := by obtain ⟨hg, _⟩ := HR7.out; exact hg
            have k8 : Keeps base [3] w7 w8 := (Keeps.of_below ((Below.refl _ _).alloc (Nat.le_refl _) _) hbw).trans HK8.out
            have k9 : Keeps base [56] w8 (w8.setCell ⟨g, 2, none⟩ (.slice A8 (kl + 1) d8)) := (Keeps.refl _ _ _).setBlk HB8.out (by simp) hgg 2 _
            have k89 : Keeps base [3, 56] w7 (w8.setCell ⟨g, 2, none⟩ (.slice A8 (kl + 1) d8)) := (k8.mono (Nat.le_refl _) (by simp)).trans (k9.mono (Nat.le_refl _) (by simp))
            refine ⟨ok_rpost HU.out ⟨rfl, ?_⟩, HK7.out.trans (k89.mono (Nat.le_refl _) (by simp [infT2]))⟩
            obtain ⟨h1, h2, h3, h4, ⟨vo', vk', h5, h6, h7⟩, h8⟩ := HR7.out
            have e5 : vo' = vo := by
              have := hkl_vo h5 HB2.out
              exact this
            subst e5
            refine ⟨h1, h2, h3, h4, ⟨vo', .slice A8 (kl + 1) d8, HB8.out.set_ 2 _, k89.own h6 (by decide), ?_⟩, k89.blk h8 (by decide)⟩
            have h9 := k9.own Ho8.out (by decide)
            rw [List.length_append, ← Hekl.out, List.map_append]
            exact h9
      · replace HU := Lib.hid (show R = .bad 4 from HU.out.trans (by rw [if_neg (by omega), if_neg (by omega), if_neg (by omega)]))
        subst hk
        go_wp2_with fail
        refine (fail_any 4 _).mono ?_
        rintro e w5 ⟨rfl, rfl⟩
        unfold stopE
        go_wp2_with fail
        exact ⟨rfl, bad_rpost HU.out, HK3.out⟩
end Go.Proofs.Ythpdcnjaodjjmaa.Inf

/- package inflate: Unpack's deferred closure. -/
namespace Go.Proofs.Ythpdcnjaodjjmaa.Inf
open Go Go.RowKit Go.Proofs.Ythpdcnjaodjjmaa Go.Proofs.Ythpdcnjaodjjmaa.Bits Go.Proofs.Ythpdcnjaodjjmaa.Code
set_option linter.unusedVariables false
set_option linter.unusedSimpArgs false

/-- the four results' variables -/
structure OutAt (w : World) (B g2 g3 g4 g5 : Nat) (v2 v3 v4 v5 : Value) : Prop where
  le2 : B ≤ g2
  le3 : B ≤ g3
  le4 : B ≤ g4
  le5 : B ≤ g5
  b2 : Blk w g2 22 #[v2]
  b3 : Blk w g3 3 #[v3]
  b4 : Blk w g4 30 #[v4]
  b5 : Blk w g5 23 #[v5]
theorem blk_ne {w : World} {g g' : Nat} {t t' : TypeId} {cs cs' : Array Value} (h : Blk w g t cs) (h' : Blk w g' t' cs') (hne : t ≠ t') : g ≠ g' := by
  rintro rfl
  have := h.symm.trans h'
  injection this with this
  injection this with _ e _
  exact hne e
theorem OutAt.s2 {w : World} {B g2 g3 g4 g5 : Nat} {v2 v3 v4 v5 : Value} (h : OutAt w B g2 g3 g4 g5 v2 v3 v4 v5) (u : Value) : OutAt (w.setCell ⟨g2, 0, none⟩ u) B g2 g3 g4 g5 u v3 v4 v5 :=
  ⟨h.le2, h.le3, h.le4, h.le5, h.b2.set_ 0 u, h.b3.far (p := ⟨g2, 0, none⟩) (blk_ne h.b3 h.b2 (by decide)) u, h.b4.far (p := ⟨g2, 0, none⟩) (blk_ne h.b4 h.b2 (by decide)) u, h.b5.far (p := ⟨g2, 0, none⟩) (blk_ne h.b5 h.b2 (by decide)) u⟩
theorem OutAt.s3 {w : World} {B g2 g3 g4 g5 : Nat} {v2 v3 v4 v5 : Value} (h : OutAt w B g2 g3 g4 g5 v2 v3 v4 v5) (u : Value) : OutAt (w.setCell ⟨g3, 0, none⟩ u) B g2 g3 g4 g5 v2 u v4 v5 :=
  ⟨h.le2, h.le3, h.le4, h.le5, h.b2.far (p := ⟨g3, 0, none⟩) (blk_ne h.b2 h.b3 (by decide)) u, h.b3.set_ 0 u, h.b4.far (p := ⟨g3, 0, none⟩) (blk_ne h.b4 h.b3 (by decide)) u, h.b5.far (p := ⟨g3, 0, none⟩) (blk_ne h.b5 h.b3 (by decide)) u⟩
theorem OutAt.s4 {w : World} {B g2 g3 g4 g5 : Nat} {v2 v3 v4 v5 : Value} (h : OutAt w B g2 g3 g4 g5 v2 v3 v4 v5) (u : Value) : OutAt (w.setCell ⟨g4, 0, none⟩ u) B g2 g3 g4 g5 v2 v3 u v5 :=
  ⟨h.le2, h.le3, h.le4, h.le5, h.b2.far (p := ⟨g4, 0, none⟩) (blk_ne h.b2 h.b4 (by decide)) u, h.b3.far (p := ⟨g4, 0, none⟩) (blk_ne h.b3 h.b4 (by decide)) u, h.b4.set_ 0 u, h.b5.far (p := ⟨g4, 0, none⟩) (blk_ne h.b5 h.b4 (by decide)) u⟩
theorem OutAt.s5 {w : World} {B g2 g3 g4 g5 : Nat} {v2 v3 v4 v5 : Value} (h : OutAt w B g2 g3 g4 g5 v2 v3 v4 v5) (u : Value) : OutAt (w.setCell ⟨g5, 0, none⟩ u) B g2 g3 g4 g5 v2 v3 v4 u :=
  ⟨h.le2, h.le3, h.le4, h.le5, h.b2.far (p := ⟨g5, 0, none⟩) (blk_ne h.b2 h.b5 (by decide)) u, h.b3.far (p := ⟨g5, 0, none⟩) (blk_ne h.b3 h.b5 (by decide)) u, h.b4.far (p := ⟨g5, 0, none⟩) (blk_ne h.b4 h.b5 (by decide)) u, h.b5.set_ 0 u⟩
theorem OutAt.below {w w' : World} {B g2 g3 g4 g5 : Nat} {v2 v3 v4 v5 : Value} (h : OutAt w B g2 g3 g4 g5 v2 v3 v4 v5) (hb : Below w.heap.size w w') : OutAt w' B g2 g3 g4 g5 v2 v3 v4 v5 :=
  ⟨h.le2, h.le3, h.le4, h.le5, h.b2.below hb h.b2.lt, h.b3.below hb h.b3.lt, h.b4.below hb h.b4.lt, h.b5.below hb h.b5.lt⟩
/-- what the variables' cells hold -/
structure OutC (w : World) (g2 g3 g4 g5 : Nat) (v2 v3 v4 v5 : Value) : Prop where
  c2 : w.cell? ⟨g2, 0, none⟩ = some v2
  c3 : w.cell? ⟨g3, 0, none⟩ = some v3
  c4 : w.cell? ⟨g4, 0, none⟩ = some v4
  c5 : w.cell? ⟨g5, 0, none⟩ = some v5
  f2 : w.frozen? ⟨g2, 0, none⟩ = false
  f3 : w.frozen? ⟨g3, 0, none⟩ = false
  f4 : w.frozen? ⟨g4, 0, none⟩ = false
  f5 : w.frozen? ⟨g5, 0, none⟩ = false
theorem OutAt.cells {w : World} {B g2 g3 g4 g5 : Nat} {v2 v3 v4 v5 : Value} (h : OutAt w B g2 g3 g4 g5 v2 v3 v4 v5) : OutC w g2 g3 g4 g5 v2 v3 v4 v5 :=
  ⟨h.b2.cell 0, h.b3.cell 0, h.b4.cell 0, h.b5.cell 0, h.b2.frozen 0, h.b3.frozen 0, h.b4.frozen 0, h.b5.frozen 0⟩
set_option maxRecDepth 100000 in
set_option maxHeartbeats 1600000 in
theorem catch_panicking (B g2 g3 g4 g5 : Nat) (v2 v3 v4 v5 : Value) (x : Int) (older : List PanicEntry) (w : World) (hBw : B ≤ w.heap.size) (h : OutAt w B g2 g3 g4 g5 v2 v3 v4 v5) :
    CallsD Try.prog 24 #[.pointer (some ⟨g2, 0, none⟩), .pointer (some ⟨g3, 0, none⟩), .pointer (some ⟨g4, 0, none⟩), .pointer (some ⟨g5, 0, none⟩)] (.panicking ({ v := .iface 50 (.agg #[.int .i64 x]), recovered := false } :: older)) w fun e u' w' =>
      e = .returned (.tuple #[]) ∧ u' = .panicking ({ v := .iface 50 (.agg #[.int .i64 x]), recovered := true } :: older) ∧
        OutAt w' B g2 g3 g4 g5 (.slice none 0 0) (.int .i64 0) (.slice none 0 0) (.int .i64 x) ∧ Below B w w' := by
  have H := Lib.hid h
  clear h
  refine callsD_of_wpS Try.func24 rfl fun c₀ cs hu => ?_
  apply wpS_seq
  apply wpS_region
  simp [wpOpsS, go_sem, recoverD, hu, Try.ntmps24, Exit.thenS]
  refine wpS_of_wp (wp_mono (Q := fun e a w' => e = .normal ∧ a.defers = [] ∧ OutAt w' B g2 g3 g4 g5 (.slice none 0 0) (.int .i64 0) (.slice none 0 0) (.int .i64 x) ∧ Below B w w') ?_ ?_)
  rotate_left
  · rintro e a w' ⟨rfl, hd, h1, h2⟩
    cases c₀
    simp only at hu
    subst hu
    exact ⟨hd, _, rfl, _, results_none rfl _ _ _, rfl, rfl, h1, h2⟩
  clear hu
  have htm : #[.pointer (some ⟨g2, 0, none⟩), .pointer (some ⟨g3, 0, none⟩), .pointer (some ⟨g4, 0, none⟩), .pointer (some ⟨g5, 0, none⟩)] ++ ((Array.replicate 16 undef).setIfInBounds 3 (.iface 50 (.agg #[.int .i64 x]))).setIfInBounds 0 (.iface 50 (.agg #[.int .i64 x])) = #[.pointer (some ⟨g2, 0, none⟩), .pointer (some ⟨g3, 0, none⟩), .pointer (some ⟨g4, 0, none⟩), .pointer (some ⟨g5, 0, none⟩), .iface 50 (.agg #[.int .i64 x]), undef, undef, .iface 50 (.agg #[.int .i64 x]), undef, undef, undef, undef, undef, undef, undef, undef, undef, undef, undef, undef] := rfl
  rw [htm]
  clear htm
  have has : ∀ (v : Value) (W : World), (Instr.typeAssert (.iface 50 v) 20 50 true).run Try.prog W = .ok (.tuple #[v, .bool true]) W := fun _ _ => by kernel_rfl
  go_wp2_with fail
  obtain ⟨gx, hgx⟩ : ∃ gx, gx = w.heap.size := ⟨_, rfl⟩
  have hb2 : Below w.heap.size w (w.alloc (.cells #[.int .i64 x] 50)) := (Below.refl _ _).alloc (Nat.le_refl _) _
  have H2 := Lib.hid (H.out.below hb2)
  have Hb2 := Lib.hid (hb2.mono hBw)
  have HX : Hid (Blk (w.alloc (.cells #[.int .i64 x] 50)) gx 50 #[.int .i64 x]) := Lib.hid (by rw [hgx]; exact Blk.new _ _ _)
  clear hb2
  rw [← hgx]
  clear hgx
  generalize w.alloc (.cells #[.int .i64 x] 50) = w2 at *
  refine wp_region_S (fun W => W.cell? ⟨gx, 0, none⟩ = some (.int .i64 x)) 5 (by kernel_rfl) ?_
  have hHeld : w2.drew.cell? ⟨gx, 0, none⟩ = some (.int .i64 x) := HX.out.cell 0
  have H3 := Lib.hid (H2.out.below ((Below.refl _ _).drew))
  have Hb3 := Lib.hid (Hb2.out.trans ((Below.refl B w2).drew))
  have HX3 : Hid (Blk w2.drew gx 50 #[.int .i64 x]) := Lib.hid HX.out
  clear H2 Hb2 HX
  generalize w2.drew = w3 at *
  refine wpAnyS_takeT (i := 0) (v := ?va0) (by kernel_rfl) (by kernel_rfl) rfl (by kernel_rfl) (by kernel_rfl) (by kernel_rfl) (fun _ _ _ h => h) (by rfl) (by assumption) ?hya0 ?resta0
  case hya0 => (intro W hSW; (try dsimp only at hSW); go_simp; try with_reducible rfl)
  (try simp only [Act.put, List.getElem_toArray, List.getElem_cons_zero, List.getElem_cons_succ, List.setIfInBounds_toArray, List.set_cons_zero, List.set_cons_succ])
  refine wpAnyS_takeT (i := 1) (v := ?va1) (by kernel_rfl) (by kernel_rfl) rfl (by kernel_rfl) (by kernel_rfl) (by kernel_rfl) (fun _ _ _ h => h) (by rfl) (by assumption) ?hya1 ?resta1
  case hya1 => (intro W hSW; (try dsimp only at hSW); go_simp; try with_reducible rfl)
  (try simp only [Act.put, List.getElem_toArray, List.getElem_cons_zero, List.getElem_cons_succ, List.setIfInBounds_toArray, List.set_cons_zero, List.set_cons_succ])
  obtain ⟨c2, c3, c4, c5, f2, f3, f4, f5⟩ := H3.out.cells
  refine wpAnyS_only (i := 2) rfl (by kernel_rfl) (fun K hK => ?_)
  go_simp
  have H4 := Lib.hid (H3.out.s2 (.slice none 0 0))
  have Hb4 := Lib.hid (Hb3.out.setCell (p := ⟨g2, 0, none⟩) H3.out.le2 (.slice none 0 0))
  have HX4 := Lib.hid (HX3.out.far (p := ⟨g2, 0, none⟩) (blk_ne HX3.out H3.out.b2 (by decide)) (.slice none 0 0))
  clear hHeld c2 c3 c4 c5 f2 f3 f4 f5
  refine hK.out _ _ (HX4.out.cell 0) (fun hHeld => ?_)
  clear hK K H3 Hb3 HX3
  (try simp only [Act.put, List.getElem_toArray, List.getElem_cons_zero, List.getElem_cons_succ, List.setIfInBounds_toArray, List.set_cons_zero, List.set_cons_succ])
  generalize w3.setCell ⟨g2, 0, none⟩ (.slice none 0 0) = w4 at *
  obtain ⟨c2, c3, c4, c5, f2, f3, f4, f5⟩ := H4.out.cells
  refine wpAnyS_only (i := 3) rfl (by kernel_rfl) (fun K hK => ?_)
  go_simp
  have H5 := Lib.hid (H4.out.s3 (.int .i64 0))
  have Hb5 := Lib.hid (Hb4.out.setCell (p := ⟨g3, 0, none⟩) H4.out.le3 (.int .i64 0))
  have HX5 := Lib.hid (HX4.out.far (p := ⟨g3, 0, none⟩) (blk_ne HX4.out H4.out.b3 (by decide)) (.int .i64 0))
  clear hHeld c2 c3 c4 c5 f2 f3 f4 f5
  refine hK.out _ _ (HX5.out.cell 0) (fun hHeld => ?_)
  clear hK K H4 Hb4 HX4
  (try simp only [Act.put, List.getElem_toArray, List.getElem_cons_zero, List.getElem_cons_succ, List.setIfInBounds_toArray, List.set_cons_zero, List.set_cons_succ])
  generalize w4.setCell ⟨g3, 0, none⟩ (.int .i64 0) = w5 at *
  obtain ⟨c2, c3, c4, c5, f2, f3, f4, f5⟩ := H5.out.cells
  refine wpAnyS_only (i := 4) rfl (by kernel_rfl) (fun K hK => ?_)
  go_simp
  have H6 := Lib.hid (H5.out.s4 (.slice none 0 0))
  have Hb6 := Lib.hid (Hb5.out.setCell (p := ⟨g4, 0, none⟩) H5.out.le4 (.slice none 0 0))
  have HX6 := Lib.hid (HX5.out.far (p := ⟨g4, 0, none⟩) (blk_ne HX5.out H5.out.b4 (by decide)) (.slice none 0 0))
  clear hHeld c2 c3 c4 c5 f2 f3 f4 f5
  refine hK.out _ _ (HX6.out.cell 0) (fun hHeld => ?_)
  clear hK K H5 Hb5 HX5
  (try simp only [Act.put, List.getElem_toArray, List.getElem_cons_zero, List.getElem_cons_succ, List.setIfInBounds_toArray, List.set_cons_zero, List.set_cons_succ])
  generalize w5.setCell ⟨g4, 0, none⟩ (.slice none 0 0) = w6 at *
  obtain ⟨c2, c3, c4, c5, f2, f3, f4, f5⟩ := H6.out.cells
  refine wpAnyS_last rfl (by kernel_rfl) (by kernel_rfl) (fun K hK => ?_)
  go_simp
  have H7 := Lib.hid (H6.out.s5 (.int .i64 x))
  have Hb7 := Lib.hid (Hb6.out.setCell (p := ⟨g5, 0, none⟩) H6.out.le5 (.int .i64 x))
  clear hHeld c2 c3 c4 c5 f2 f3 f4 f5
  refine hK.out _ _ ?_
  clear hK K
  exact ⟨rfl, rfl, H7.out, Hb7.out⟩
set_option maxRecDepth 100000 in
set_option maxHeartbeats 1600000 in
theorem catch_idle (g2 g3 g4 g5 : Nat) (w : World) :
    CallsD Try.prog 24 #[.pointer (some ⟨g2, 0, none⟩), .pointer (some ⟨g3, 0, none⟩), .pointer (some ⟨g4, 0, none⟩), .pointer (some ⟨g5, 0, none⟩)] .returning w fun e u' w' => e = .returned (.tuple #[]) ∧ u' = .returning ∧ w' = w := by
  refine callsD_of_wpS Try.func24 rfl fun c₀ cs hu => ?_
  apply wpS_seq
  apply wpS_region
  simp [wpOpsS, go_sem, recoverD, hu, Try.ntmps24, Exit.thenS]
  refine wpS_of_wp (wp_mono (Q := fun e a w' => e = .normal ∧ a.defers = [] ∧ w' = w) ?_ ?_)
  rotate_left
  · rintro e a w' ⟨rfl, hd, rfl⟩
    cases c₀
    simp only at hu
    subst hu
    exact ⟨hd, _, rfl, _, results_none rfl _ _ _, rfl, rfl, rfl⟩
  clear hu
  go_wp2_with fail
end Go.Proofs.Ythpdcnjaodjjmaa.Inf
