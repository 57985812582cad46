/- texts joined: BlkOne BlkPack EqualB BlkBest BlkFact BlockBestWalk. -/
import Derived.Test.YthpdcnjaodjjmaaBlockBestQ6
import Derived.Test.YthpdcnjaodjjmaaBlockBestQ5
import Derived.Test.YthpdcnjaodjjmaaBlockBestQ2
import Derived.Test.YthpdcnjaodjjmaaBlockBestQ1
import Derived.Test.YthpdcnjaodjjmaaProg
import Derived.Laws.BytesArg
import Derived.Shelf.Bytes.SlSmallAll
import Derived.Lib.SlBytesConst
/- package block: one block: the walk. -/
namespace Go.Proofs.Ythpdcnjaodjjmaa.Blk
open Go Go.RowKit Go.Proofs.Ythpdcnjaodjjmaa Go.Proofs.Ythpdcnjaodjjmaa.Bits Go.Proofs.Ythpdcnjaodjjmaa.Code Go.Proofs.Ythpdcnjaodjjmaa.Inf Go.Proofs.Ythpdcnjaodjjmaa.Match Go.Proofs.Ythpdcnjaodjjmaa.SP Go.Proofs.Ythpdcnjaodjjmaa.Rt
set_option linter.unusedVariables false

theorem chk_far : ∀ (ts : List Tok) (n : Int), 0 ≤ n → (chkAll ts n).1 = 0 → n ≤ (chkAll ts n).2 ∧ ∀ t ∈ ts, t.2.1 = 0 ∨ t.2.2 ≤ (chkAll ts n).2
  | [], n, _, _ => ⟨Int.le_refl _, fun t h => by cases h⟩
  | x :: ts, n, hn, hk => by
    simp only [chkAll] at hk ⊢
    have hx : (chkTok n x).1 = 0 := by
      by_cases h1 : (chkTok n x).1 = 0
      · exact h1
      · rw [if_neg h1] at hk; exact hk
    rw [if_pos hx] at hk ⊢
    have key : n ≤ (chkTok n x).2 ∧ (x.2.1 = 0 ∨ x.2.2 ≤ n) := by
      unfold chkTok at hx ⊢
      by_cases h1 : x.2.1 = 0
      · rw [if_pos h1] at hx ⊢
        by_cases h2 : x.2.2 ≠ 0
        · rw [if_pos h2] at hx; simp at hx
        · rw [if_neg h2]; dsimp only; omega
      · rw [if_neg h1] at hx ⊢
        by_cases h2 : x.1 ≠ 0
        · rw [if_pos h2] at hx; simp at hx
        · rw [if_neg h2] at hx ⊢
          by_cases h3 : x.2.1 < 3 ∨ 258 < x.2.1 ∨ x.2.2 < 1
          · rw [if_pos h3] at hx; simp at hx
          · rw [if_neg h3] at hx ⊢
            by_cases h4 : n < x.2.2
            · rw [if_pos h4] at hx; simp at hx
            · rw [if_neg h4]; dsimp only; omega
    obtain ⟨h1, h2⟩ := chk_far ts (chkTok n x).2 (by omega) hk
    refine ⟨by omega, fun t ht => ?_⟩
    rcases List.mem_cons.1 ht with rfl | ht
    · rcases key.2 with h | h
      · exact .inl h
      · exact .inr (by omega)
    · exact h2 t ht
theorem toks_S (b : List UInt8) (hb : b.length ≤ 3000) : ∀ t ∈ toks b, TokS t := by
  intro t ht
  have h0 := toks_chk b
  have h1 := chk_tokR (toks b) 0 h0 t ht
  have h2 := (chk_far (toks b) 0 (Int.le_refl _) h0).2 t ht
  have h3 : (chkAll (toks b) 0).2 = (b.length : Int) := by unfold toks; rw [chkAll_titer, titer_end]
  rw [h3] at h2
  unfold TokS
  rcases h1 with h | ⟨a1, a2, a3⟩
  · exact .inl h
  · rcases h2 with h | h
    · exact .inl h
    · exact .inr ⟨t.2.1.toNat, t.2.2.toNat, by omega, by omega, by omega, by omega, by omega, by omega⟩
theorem tokS_fine {t : Tok} (h : TokS t) : TokFine t := by
  rcases h with h | ⟨s, f, h1, h2, h3, _⟩
  · exact .inl h
  · exact .inr ⟨s, f, h1, h2, by omega⟩
/-- bytes that are read, while nothing below 'base' turns -/
def LowBy (w : World) (base : Nat) (B : Option Addr) (xs : List UInt8) : Prop := ∀ w' : World, (∀ k, k < base → w'.heap[k]? = w.heap[k]?) → ByAt w' B xs
theorem LowBy.of {w : World} {B : Option Addr} {xs : List UInt8} {base : Nat} (h : ByAt w B xs) (hb : w.heap.size ≤ base) : LowBy w base B xs := fun w' hw hp => by
  obtain ⟨b, o, e, hc⟩ := h hp
  refine ⟨b, o, e, fun j v hj => ?_⟩
  have h1 := hc j v hj
  have hlt := block_lt_of_cell h1
  have h2 := hw b (by simpa using Nat.lt_of_lt_of_le hlt hb)
  rw [← h1]
  simp only [World.cell?, h2]
theorem LowBy.at {w w' : World} {base : Nat} {B : Option Addr} {xs : List UInt8} (h : LowBy w base B xs) (hw : ∀ k, k < base → w'.heap[k]? = w.heap[k]?) : ByAt w' B xs := h w' hw
theorem LowBy.trans {w w' : World} {base : Nat} {B : Option Addr} {xs : List UInt8} (h : LowBy w base B xs) (hw : ∀ k, k < base → w'.heap[k]? = w.heap[k]?) : LowBy w' base B xs := fun w2 h2 => h w2 fun k hk => (h2 k hk).trans (hw k hk)
theorem headB_len (lit far : List Nat) (l1 : lit.length = 286) (l2 : far.length = 30) (c1 : Cd lit) (c2 : Cd far) : (headB lit far).length ≤ 5000 := by
  rw [headB_eq]
  have tA := trim_len lit 257 (by omega)
  have tB := trim_len far 1 (by omega)
  have cA := trim_cd lit 257 c1
  have cB := trim_cd far 1 c2
  generalize trimP lit 257 = A at *
  generalize trimP far 1 = B at *
  have h15 : ∀ y ∈ A ++ B, y ≤ 15 := fun y hy => by
    rcases List.mem_append.1 hy with hy | hy
    · exact cA.le y hy
    · exact cB.le y hy
  have hR := runsP_len (A ++ B)
  have hok := runs_ok (A ++ B) h15
  generalize runsP (A ++ B) = R at *
  obtain ⟨s1, s2, s3, s4⟩ := sizes_fine R
  have h1 := flat_le (runB (sizesP R)) 14 R (fun x hx => runB_len _ x (fun i => getD_le _ 7 i s3) (hok x hx))
  have h2 := flat_le (fun n => numBits n 3) 3 (trimP (orderL.map fun k => (sizesP R).getD k 0) 4) (fun x _ => by rw [numBits_length]; exact Nat.le_refl _)
  have h3 := trim_len (orderL.map fun k => (sizesP R).getD k 0) 4 (by rw [List.length_map]; decide)
  have h4 : (orderL.map fun k => (sizesP R).getD k 0).length = 19 := by rw [List.length_map]; rfl
  rw [List.length_append] at hR
  simp only [List.length_append, numBits_length]
  omega
theorem bodyB_len (l : List Tok) (lit far : List Nat) (c1 : Cd lit) (c2 : Cd far) : (bodyB l lit far).length ≤ 48 * l.length + 15 := by
  unfold bodyB
  have h1 := flat_le (tokB lit far) 48 l (fun x _ => tokB_len lit far x c1 c2)
  have h2 := c1.bits (i := 256)
  rw [List.length_append, codeB_length]; omega
theorem oneB_len (r : List Bool) (b : List UInt8) (kind : Nat) (last : Bool) (hb : b.length ≤ 3000) : (oneB r b kind last).length ≤ r.length + 200000 := by
  rw [oneB_eq, List.length_append]
  unfold oneS
  by_cases h0 : kind = 0
  · rw [if_pos h0]
    simp only [List.length_append, numBits_length, List.length_singleton, List.length_replicate, bitsL_length]
    omega
  · rw [if_neg h0]
    have ht := toks_len b
    by_cases h1 : kind = 1
    · rw [if_pos h1]
      have := bodyB_len (toks b) fixedA fixedB fixA_cd fixB_cd
      simp only [List.length_append, numBits_length, List.length_singleton]
      omega
    · rw [if_neg h1]
      obtain ⟨l1, l2, l3, l4, _, _⟩ := lens_all (toks b)
      have h2 := bodyB_len (toks b) _ _ l3 l4
      have h3 := headB_len _ _ l1 l2 l3 l4
      simp only [List.length_append, numBits_length, List.length_singleton]
      omega
set_option maxRecDepth 100000 in
theorem fill_any (base p : Nat) (r : List Bool) (w : World) (hr : RowAt w base p r) :
    Calls Try.prog 35 #[.pointer (some ⟨p, 0, none⟩)] w fun e w' => e = .returned (.tuple #[]) ∧ RowAt w' base p (pad r) ∧ Keeps base rowT w w' := by
  obtain ⟨hbp, v, hB, hO⟩ := hr
  have hc1 := hB.c1
  have hf1 := hB.frozen 1
  have HB := Lib.hid hB
  have HO := Lib.hid hO
  have HRes : Hid (RowAt (w.setCell ⟨p, 1, none⟩ (.int .i64 0)) base p (pad r)) := Lib.hid (by
    refine ⟨hbp, v, ?_, ?_⟩
    · have e : (pad r).length % 8 = 0 := by rw [pad_length]; omega
      rw [e]; exact hB.s1 _
    · rw [pack_pad]; exact ownsRow_setCell_other hO (own_ne hO hB (by decide)) _)
  have HK := Lib.hid ((Keeps.refl base rowT w).setBlk hB (by simp [rowT]) hbp 1 (.int .i64 0))
  clear hB hO
  go_enter Try.func35, Try.ntmps35
  go_wp2_with fail
  go_end0
  exact ⟨rfl, HRes.out, HK.out⟩
set_option maxRecDepth 100000 in
set_option maxHeartbeats 8000000 in
theorem one_any (base p : Nat) (r : List Bool) (B : Option Addr) (nb cb : Nat) (xs : List UInt8) (kind : Nat) (last : Bool) (w : World) (hr : RowAt w base p r) (hB : LowBy w base B xs) (hn : xs.length = nb) (hnc : nb ≤ cb) (hx : nb ≤ 3000) (hk : kind ≤ 2) (hrl : r.length ≤ 50000000) :
    Calls Try.prog 22 #[.pointer (some ⟨p, 0, none⟩), .slice B nb cb, .int .i64 (kind : Int), .bool last] w fun e w' => e = .returned (.tuple #[]) ∧ RowAt w' base p (oneB r xs kind last) ∧ Keeps base rowT w w' := by
  have HR := Lib.hid hr
  have HB := Lib.hid hB
  have Hn := Lib.hid hn
  clear hr hB hn
  cases last
  · go_enter Try.func22, Try.ntmps22
    have HP := Lib.hid (put_any base p 0 1 r w HR.out (by omega) (by omega) (by omega))
    rw [show numBits 0 1 = [false] from rfl, show (((0 : Nat) : Int)) = 0 from rfl] at HP
    go_wp2_with fail
    refine (HP.out).mono ?_
    rintro e w1 ⟨rfl, hrow, hkp⟩
    have HR1 := Lib.hid hrow
    have HK1 := Lib.hid hkp
    clear hrow hkp HP HR
    have hl1 : (r ++ [false]).length ≤ 50000001 := by rw [List.length_append, List.length_singleton]; omega
    have HP := Lib.hid (put_any base p kind 2 _ w1 HR1.out (by omega) (by omega) (by omega))
    go_wp2_with fail
    refine (HP.out).mono ?_
    rintro e w2 ⟨rfl, hrow, hkp⟩
    have HR2 := Lib.hid hrow
    have HK2 := Lib.hid (HK1.out.trans hkp)
    clear hrow hkp HP HR1 HK1
    have hl2 : (r ++ [false] ++ numBits kind 2).length ≤ 50000003 := by rw [List.length_append, numBits_length]; omega
    by_cases hk0 : kind = 0
    · have hk0' : ((kind : Int) == 0) = true := by simp; omega
      have Hone : Hid (oneB r xs kind false = pad (r ++ [false] ++ numBits kind 2) ++ numBits nb 16 ++ numBits (65535 - nb) 16 ++ bitsL xs) := Lib.hid (by unfold oneB; rw [if_pos hk0, Hn.out, hk0])
      generalize r ++ [false] ++ numBits kind 2 = r2 at *
      have HP := Lib.hid (fill_any base p r2 w2 HR2.out)
      have hl3 : (pad r2).length ≤ 50000020 := by rw [pad_length]; omega
      clear hl1 hl2 hk0 HR2
      go_wp2_with fail
      refine (HP.out).mono ?_
      rintro e w3 ⟨rfl, hrow, hkp⟩
      have HR3 := Lib.hid hrow
      have HK3 := Lib.hid (HK2.out.trans hkp)
      clear hrow hkp HP HK2
      have HP := Lib.hid (put_any base p nb 16 _ w3 HR3.out (by omega) (by omega) (by omega))
      go_wp2_with fail
      refine (HP.out).mono ?_
      rintro e w4 ⟨rfl, hrow, hkp⟩
      have HR4 := Lib.hid hrow
      have HK4 := Lib.hid (HK3.out.trans hkp)
      clear hrow hkp HP HK3 HR3
      have hl4 : (pad r2 ++ numBits nb 16).length ≤ 50000040 := by rw [List.length_append, numBits_length]; omega
      have hxor := xor16 nb (by omega)
      have HP := Lib.hid (put_any base p (65535 - nb) 16 _ w4 HR4.out (by omega) (by omega) (by omega))
      go_wp2_with fail
      refine (HP.out).mono ?_
      rintro e w5 ⟨rfl, hrow, hkp⟩
      have HR5 := Lib.hid hrow
      have HK5 := Lib.hid (HK4.out.trans hkp)
      clear hrow hkp HP HK4 HR4 hxor
      have hl5 : (pad r2 ++ numBits nb 16 ++ numBits (65535 - nb) 16).length ≤ 50000060 := by rw [List.length_append, numBits_length]; omega
      generalize pad r2 ++ numBits nb 16 ++ numBits (65535 - nb) 16 = r5 at *
      go_wp2_with fail
      go_loopw [37] (fun i wr => ∃ k : Nat, k ≤ nb ∧ i = .int .i64 (k : Int) ∧ RowAt wr base p (r5 ++ bitsL (xs.take k)) ∧ Keeps base rowT w wr) (fun i _ => nb - (intOf i).toNat)
      case atStart => exact ⟨0, Nat.zero_le _, rfl, by rw [List.take_zero]; show RowAt w5 base p (r5 ++ []); rw [List.append_nil]; exact HR5.out, HK5.out⟩
      case round =>
        clear HR5 HK5
        obtain ⟨k, hk, rfl, hrow, hkp⟩ := hrel
        have HRk := Lib.hid hrow
        have HKk := Lib.hid hkp
        clear hrow hkp
        by_cases hlt : k < nb
        · have hkl : k < xs.length := by rw [Hn.out]; exact hlt
          obtain ⟨b, o, rfl, hc⟩ := (HB.out.at HKk.out.block).get hkl
          have Htk : Hid (bitsL (xs.take (k + 1)) = bitsL (xs.take k) ++ bitsOf xs[k]) := Lib.hid (by rw [take_snoc xs k hkl, bitsL_append]; simp [bitsL])
          have hbl : (bitsL (xs.take k)).length ≤ 24000 := by rw [bitsL_length, List.length_take]; omega
          generalize xs[k] = x at *
          obtain ⟨q, hq⟩ : ∃ q : Nat, (q : Int) = n8 x := ⟨x.toNat, rfl⟩
          have hx8 := n8_bd x
          have Hq : Hid (bitsOf x = numBits q 8) := Lib.hid (by unfold bitsOf; rw [show x.toNat = q by unfold n8 at hq; omega])
          rw [← hq] at hc hx8
          clear hq
          have hconv : IntKind.i64.wrap (q : Int) = (q : Int) := IntWalk.i64_in _ (by omega)
          have HP := Lib.hid (put_any base p q 8 _ wr HRk.out (by omega) (by omega) (by rw [List.length_append]; omega))
          rw [List.append_assoc, ← Hq.out, ← Htk.out] at HP
          clear HRk hbl
          go_wp2_with fail
          refine (HP.out).mono ?_
          rintro e w6 ⟨rfl, hrow, hkp⟩
          have HR6 := Lib.hid hrow
          have HK6 := Lib.hid (HKk.out.trans hkp)
          clear hrow hkp HP HKk hc
          go_wp2_with fail
          go_roundw
          case rel => exact ⟨k + 1, by omega, by go_num, HR6.out, HK6.out⟩
          case measure => simp [intOf]; omega
        · obtain rfl : nb = k := by omega
          have Hal : Hid (xs.take nb = xs) := Lib.hid (List.take_of_length_le (by rw [Hn.out]; exact Nat.le_refl _))
          rw [Hal.out, ← Hone.out] at HRk
          go_wp2_with fail
          refine bodyPost_ret (results_none rfl _ _ _) rfl ?_
          exact ⟨rfl, HRk.out, HKk.out⟩
    · have hk0' : ((kind : Int) == 0) = false := by rw [beq_eq_false_iff_ne]; omega
      have HTk := Lib.hid (tokens_yes B nb cb xs w2 Hn.out hnc hx (HB.out.at HK2.out.block))
      go_wp2_with fail
      refine (HTk.out).mono ?_
      rintro e w3 ⟨⟨v3, rfl, ho3⟩, hb3⟩
      obtain ⟨A3, c3, rfl, hc3, _, hk3, _⟩ := own_kat ho3
      have HR3 := Lib.hid (HR2.out.below hb3)
      have HK3 := Lib.hid (HK2.out.trans (Keeps.of_below hb3 (Nat.le_trans HR2.out.1 (Nat.le_of_lt HR2.out.lt))))
      have HT3 : Hid (KAt w3 107 A3 ((toks xs).flatMap tokD)) := Lib.hid hk3
      have HTS := Lib.hid (toks_S xs (by rw [Hn.out]; exact hx))
      have htl := toks_len xs
      rw [Hn.out] at htl
      have Hlen := Lib.hid (lens_all (toks xs))
      have Hone1 : Hid (kind = 1 → oneB r xs kind false = r ++ [false] ++ numBits kind 2 ++ bodyB (toks xs) fixedA fixedB) := Lib.hid (fun h => by subst h; unfold oneB; rw [if_neg (by omega), if_pos rfl])
      have Hone2 : Hid (kind = 2 → oneB r xs kind false = r ++ [false] ++ numBits kind 2 ++ headB (lensP (toks xs)).1 (lensP (toks xs)).2 ++ bodyB (toks xs) (lensP (toks xs)).1 (lensP (toks xs)).2) := Lib.hid (fun h => by subst h; unfold oneB; rw [if_neg (by omega), if_neg (by omega)])
      clear HTk ho3 hb3 hk3 HR2 HK2
      generalize r ++ [false] ++ numBits kind 2 = r2 at *
      generalize toks xs = tx at *
      have Hm := Lib.hid (show tx.length = tx.length from rfl)
      generalize hmt : tx.length = mt at *
      have Hmt := Lib.hid hmt
      clear hmt Hm hk0
      go_wp2_with fail
      refine (fixed_any _).mono ?_
      rintro e w4 ⟨A4, c4, B4, d4, rfl, hoA, hoB, hb4⟩
      have HR4 := Lib.hid (HR3.out.below hb4)
      have HK4 := Lib.hid (HK3.out.trans (Keeps.of_below hb4 (Nat.le_trans HR3.out.1 (Nat.le_of_lt HR3.out.lt))))
      have HT4 := Lib.hid (HT3.out.below hb4)
      have HFA : Hid (KAt w4 3 A4 (fixedA.map Code.natV)) := Lib.hid (by obtain ⟨A, c, e, _, _, h, _⟩ := own_kat hoA; injection e with e; subst e; exact h)
      have HFB : Hid (KAt w4 3 B4 (fixedB.map Code.natV)) := Lib.hid (by obtain ⟨A, c, e, _, _, h, _⟩ := own_kat hoB; injection e with e; subst e; exact h)
      clear hoA hoB hb4 HR3 HK3 HT3
      by_cases hk2 : kind = 2
      · have hk2' : ((kind : Int) == 2) = true := by simp; omega
        have Ho := Lib.hid (Hone2.out hk2)
        have HL := Lib.hid (blens_any A3 mt c3 tx w4 Hmt.out (by omega) HT4.out.slat (fun t ht => tokS_fine (HTS.out t ht)))
        clear Hone1 Hone2 HFA HFB hk2
        go_wp2_with fail
        refine (HL.out).mono ?_
        rintro e w5 ⟨⟨v1, v2, rfl, ho1, ho2⟩, hb5⟩
        obtain ⟨l1, l2, l3, l4, l5, l6⟩ := Hlen.out
        obtain ⟨A5, a5, rfl, ha5, _, hk5, _⟩ := own_kat ho1
        obtain ⟨B5, b5, rfl, hb5', _, hk6, _⟩ := own_kat ho2
        obtain ⟨bA, oA, _, rfl, _, _⟩ := hk5 (by rw [List.length_map, l1]; omega)
        obtain ⟨bB, oB, _, rfl, _, _⟩ := hk6 (by rw [List.length_map, l2]; omega)
        have HR5 := Lib.hid (HR4.out.below hb5)
        have HK5 := Lib.hid (HK4.out.trans (Keeps.of_below hb5 (Nat.le_trans HR4.out.1 (Nat.le_of_lt HR4.out.lt))))
        have HT5 := Lib.hid (HT4.out.below hb5)
        have HL5 := Lib.hid hk5
        have HL6 := Lib.hid hk6
        have HH := Lib.hid (head_any base p r2 bA oA a5 bB oB b5 (lensP tx).1 (lensP tx).2 w5 HR5.out HL5.out HL6.out l1 l2 ha5 hb5' l3 l4 (by omega))
        have hhl := headB_len (lensP tx).1 (lensP tx).2 l1 l2 l3 l4
        have L1 := Lib.hid l1
        have L2 := Lib.hid l2
        have L3 := Lib.hid l3
        have L4 := Lib.hid l4
        clear HL ho1 ho2 hb5 hk5 hk6 HR4 HK4 HT4 l1 l2 l3 l4 l5 l6 Hlen
        generalize (lensP tx).1 = LA at *
        generalize (lensP tx).2 = LB at *
        go_wp2_with fail
        refine (HH.out).mono ?_
        rintro e w6 ⟨rfl, hrow, hkp⟩
        have HR6 := Lib.hid hrow
        have HK6 := Lib.hid (HK5.out.trans hkp)
        have HB := Lib.hid (body_any base p _ A3 mt c3 tx (some ⟨bA, oA, none⟩) 286 a5 LA (some ⟨bB, oB, none⟩) 30 b5 LB w6 HR6.out (HT5.out.keeps hkp (by decide)) (HL5.out.keeps hkp (by decide)) (HL6.out.keeps hkp (by decide))
          Hmt.out (by omega) L1.out L2.out (by omega) (by omega) (by omega) (by omega) L3.out L4.out HTS.out (by rw [List.length_append]; omega))
        rw [← Ho.out] at HB
        clear hrow hkp HH
        go_wp2_with fail
        refine (HB.out).mono ?_
        rintro e w7 ⟨rfl, hrow, hkp⟩
        have HR7 := Lib.hid hrow
        have HK7 := Lib.hid (HK6.out.trans hkp)
        clear hrow hkp
        go_wp2_with fail
        go_end0
        exact ⟨rfl, HR7.out, HK7.out⟩
      · have hk2' : ((kind : Int) == 2) = false := by rw [beq_eq_false_iff_ne]; omega
        have Ho := Lib.hid (Hone1.out (by rw [beq_eq_false_iff_ne] at hk0'; omega))
        have HB := Lib.hid (body_any base p r2 A3 mt c3 tx A4 288 c4 fixedA B4 32 d4 fixedB w4 HR4.out HT4.out HFA.out HFB.out
          Hmt.out (by omega) (by simp [fixedA]) (by simp [fixedB]) (by omega) (by omega) (by omega) (by omega) fixA_cd fixB_cd HTS.out (by omega))
        rw [← Ho.out] at HB
        clear Hone1 Hone2 hk2
        go_wp2_with fail
        refine (HB.out).mono ?_
        rintro e w7 ⟨rfl, hrow, hkp⟩
        have HR7 := Lib.hid hrow
        have HK7 := Lib.hid (HK4.out.trans hkp)
        clear hrow hkp
        go_wp2_with fail
        go_end0
        exact ⟨rfl, HR7.out, HK7.out⟩
  · go_enter Try.func22, Try.ntmps22
    have HP := Lib.hid (put_any base p 1 1 r w HR.out (by omega) (by omega) (by omega))
    rw [show numBits 1 1 = [true] from rfl, show (((1 : Nat) : Int)) = 1 from rfl] at HP
    go_wp2_with fail
    refine (HP.out).mono ?_
    rintro e w1 ⟨rfl, hrow, hkp⟩
    have HR1 := Lib.hid hrow
    have HK1 := Lib.hid hkp
    clear hrow hkp HP HR
    have hl1 : (r ++ [true]).length ≤ 50000001 := by rw [List.length_append, List.length_singleton]; omega
    have HP := Lib.hid (put_any base p kind 2 _ w1 HR1.out (by omega) (by omega) (by omega))
    go_wp2_with fail
    refine (HP.out).mono ?_
    rintro e w2 ⟨rfl, hrow, hkp⟩
    have HR2 := Lib.hid hrow
    have HK2 := Lib.hid (HK1.out.trans hkp)
    clear hrow hkp HP HR1 HK1
    have hl2 : (r ++ [true] ++ numBits kind 2).length ≤ 50000003 := by rw [List.length_append, numBits_length]; omega
    by_cases hk0 : kind = 0
    · have hk0' : ((kind : Int) == 0) = true := by simp; omega
      have Hone : Hid (oneB r xs kind true = pad (r ++ [true] ++ numBits kind 2) ++ numBits nb 16 ++ numBits (65535 - nb) 16 ++ bitsL xs) := Lib.hid (by unfold oneB; rw [if_pos hk0, Hn.out, hk0])
      generalize r ++ [true] ++ numBits kind 2 = r2 at *
      have HP := Lib.hid (fill_any base p r2 w2 HR2.out)
      have hl3 : (pad r2).length ≤ 50000020 := by rw [pad_length]; omega
      clear hl1 hl2 hk0 HR2
      go_wp2_with fail
      refine (HP.out).mono ?_
      rintro e w3 ⟨rfl, hrow, hkp⟩
      have HR3 := Lib.hid hrow
      have HK3 := Lib.hid (HK2.out.trans hkp)
      clear hrow hkp HP HK2
      have HP := Lib.hid (put_any base p nb 16 _ w3 HR3.out (by omega) (by omega) (by omega))
      go_wp2_with fail
      refine (HP.out).mono ?_
      rintro e w4 ⟨rfl, hrow, hkp⟩
      have HR4 := Lib.hid hrow
      have HK4 := Lib.hid (HK3.out.trans hkp)
      clear hrow hkp HP HK3 HR3
      have hl4 : (pad r2 ++ numBits nb 16).length ≤ 50000040 := by rw [List.length_append, numBits_length]; omega
      have hxor := xor16 nb (by omega)
      have HP := Lib.hid (put_any base p (65535 - nb) 16 _ w4 HR4.out (by omega) (by omega) (by omega))
      go_wp2_with fail
      refine (HP.out).mono ?_
      rintro e w5 ⟨rfl, hrow, hkp⟩
      have HR5 := Lib.hid hrow
      have HK5 := Lib.hid (HK4.out.trans hkp)
      clear hrow hkp HP HK4 HR4 hxor
      have hl5 : (pad r2 ++ numBits nb 16 ++ numBits (65535 - nb) 16).length ≤ 50000060 := by rw [List.length_append, numBits_length]; omega
      generalize pad r2 ++ numBits nb 16 ++ numBits (65535 - nb) 16 = r5 at *
      go_wp2_with fail
      go_loopw [37] (fun i wr => ∃ k : Nat, k ≤ nb ∧ i = .int .i64 (k : Int) ∧ RowAt wr base p (r5 ++ bitsL (xs.take k)) ∧ Keeps base rowT w wr) (fun i _ => nb - (intOf i).toNat)
      case atStart => exact ⟨0, Nat.zero_le _, rfl, by rw [List.take_zero]; show RowAt w5 base p (r5 ++ []); rw [List.append_nil]; exact HR5.out, HK5.out⟩
      case round =>
        clear HR5 HK5
        obtain ⟨k, hk, rfl, hrow, hkp⟩ := hrel
        have HRk := Lib.hid hrow
        have HKk := Lib.hid hkp
        clear hrow hkp
        by_cases hlt : k < nb
        · have hkl : k < xs.length := by rw [Hn.out]; exact hlt
          obtain ⟨b, o, rfl, hc⟩ := (HB.out.at HKk.out.block).get hkl
          have Htk : Hid (bitsL (xs.take (k + 1)) = bitsL (xs.take k) ++ bitsOf xs[k]) := Lib.hid (by rw [take_snoc xs k hkl, bitsL_append]; simp [bitsL])
          have hbl : (bitsL (xs.take k)).length ≤ 24000 := by rw [bitsL_length, List.length_take]; omega
          generalize xs[k] = x at *
          obtain ⟨q, hq⟩ : ∃ q : Nat, (q : Int) = n8 x := ⟨x.toNat, rfl⟩
          have hx8 := n8_bd x
          have Hq : Hid (bitsOf x = numBits q 8) := Lib.hid (by unfold bitsOf; rw [show x.toNat = q by unfold n8 at hq; omega])
          rw [← hq] at hc hx8
          clear hq
          have hconv : IntKind.i64.wrap (q : Int) = (q : Int) := IntWalk.i64_in _ (by omega)
          have HP := Lib.hid (put_any base p q 8 _ wr HRk.out (by omega) (by omega) (by rw [List.length_append]; omega))
          rw [List.append_assoc, ← Hq.out, ← Htk.out] at HP
          clear HRk hbl
          go_wp2_with fail
          refine (HP.out).mono ?_
          rintro e w6 ⟨rfl, hrow, hkp⟩
          have HR6 := Lib.hid hrow
          have HK6 := Lib.hid (HKk.out.trans hkp)
          clear hrow hkp HP HKk hc
          go_wp2_with fail
          go_roundw
          case rel => exact ⟨k + 1, by omega, by go_num, HR6.out, HK6.out⟩
          case measure => simp [intOf]; omega
        · obtain rfl : nb = k := by omega
          have Hal : Hid (xs.take nb = xs) := Lib.hid (List.take_of_length_le (by rw [Hn.out]; exact Nat.le_refl _))
          rw [Hal.out, ← Hone.out] at HRk
          go_wp2_with fail
          refine bodyPost_ret (results_none rfl _ _ _) rfl ?_
          exact ⟨rfl, HRk.out, HKk.out⟩
    · have hk0' : ((kind : Int) == 0) = false := by rw [beq_eq_false_iff_ne]; omega
      have HTk := Lib.hid (tokens_yes B nb cb xs w2 Hn.out hnc hx (HB.out.at HK2.out.block))
      go_wp2_with fail
      refine (HTk.out).mono ?_
      rintro e w3 ⟨⟨v3, rfl, ho3⟩, hb3⟩
      obtain ⟨A3, c3, rfl, hc3, _, hk3, _⟩ := own_kat ho3
      have HR3 := Lib.hid (HR2.out.below hb3)
      have HK3 := Lib.hid (HK2.out.trans (Keeps.of_below hb3 (Nat.le_trans HR2.out.1 (Nat.le_of_lt HR2.out.lt))))
      have HT3 : Hid (KAt w3 107 A3 ((toks xs).flatMap tokD)) := Lib.hid hk3
      have HTS := Lib.hid (toks_S xs (by rw [Hn.out]; exact hx))
      have htl := toks_len xs
      rw [Hn.out] at htl
      have Hlen := Lib.hid (lens_all (toks xs))
      have Hone1 : Hid (kind = 1 → oneB r xs kind true = r ++ [true] ++ numBits kind 2 ++ bodyB (toks xs) fixedA fixedB) := Lib.hid (fun h => by subst h; unfold oneB; rw [if_neg (by omega), if_pos rfl])
      have Hone2 : Hid (kind = 2 → oneB r xs kind true = r ++ [true] ++ numBits kind 2 ++ headB (lensP (toks xs)).1 (lensP (toks xs)).2 ++ bodyB (toks xs) (lensP (toks xs)).1 (lensP (toks xs)).2) := Lib.hid (fun h => by subst h; unfold oneB; rw [if_neg (by omega), if_neg (by omega)])
      clear HTk ho3 hb3 hk3 HR2 HK2
      generalize r ++ [true] ++ numBits kind 2 = r2 at *
      generalize toks xs = tx at *
      have Hm := Lib.hid (show tx.length = tx.length from rfl)
      generalize hmt : tx.length = mt at *
      have Hmt := Lib.hid hmt
      clear hmt Hm hk0
      go_wp2_with fail
      refine (fixed_any _).mono ?_
      rintro e w4 ⟨A4, c4, B4, d4, rfl, hoA, hoB, hb4⟩
      have HR4 := Lib.hid (HR3.out.below hb4)
      have HK4 := Lib.hid (HK3.out.trans (Keeps.of_below hb4 (Nat.le_trans HR3.out.1 (Nat.le_of_lt HR3.out.lt))))
      have HT4 := Lib.hid (HT3.out.below hb4)
      have HFA : Hid (KAt w4 3 A4 (fixedA.map Code.natV)) := Lib.hid (by obtain ⟨A, c, e, _, _, h, _⟩ := own_kat hoA; injection e with e; subst e; exact h)
      have HFB : Hid (KAt w4 3 B4 (fixedB.map Code.natV)) := Lib.hid (by obtain ⟨A, c, e, _, _, h, _⟩ := own_kat hoB; injection e with e; subst e; exact h)
      clear hoA hoB hb4 HR3 HK3 HT3
      by_cases hk2 : kind = 2
      · have hk2' : ((kind : Int) == 2) = true := by simp; omega
        have Ho := Lib.hid (Hone2.out hk2)
        have HL := Lib.hid (blens_any A3 mt c3 tx w4 Hmt.out (by omega) HT4.out.slat (fun t ht => tokS_fine (HTS.out t ht)))
        clear Hone1 Hone2 HFA HFB hk2
        go_wp2_with fail
        refine (HL.out).mono ?_
        rintro e w5 ⟨⟨v1, v2, rfl, ho1, ho2⟩, hb5⟩
        obtain ⟨l1, l2, l3, l4, l5, l6⟩ := Hlen.out
        obtain ⟨A5, a5, rfl, ha5, _, hk5, _⟩ := own_kat ho1
        obtain ⟨B5, b5, rfl, hb5', _, hk6, _⟩ := own_kat ho2
        obtain ⟨bA, oA, _, rfl, _, _⟩ := hk5 (by rw [List.length_map, l1]; omega)
        obtain ⟨bB, oB, _, rfl, _, _⟩ := hk6 (by rw [List.length_map, l2]; omega)
        have HR5 := Lib.hid (HR4.out.below hb5)
        have HK5 := Lib.hid (HK4.out.trans (Keeps.of_below hb5 (Nat.le_trans HR4.out.1 (Nat.le_of_lt HR4.out.lt))))
        have HT5 := Lib.hid (HT4.out.below hb5)
        have HL5 := Lib.hid hk5
        have HL6 := Lib.hid hk6
        have HH := Lib.hid (head_any base p r2 bA oA a5 bB oB b5 (lensP tx).1 (lensP tx).2 w5 HR5.out HL5.out HL6.out l1 l2 ha5 hb5' l3 l4 (by omega))
        have hhl := headB_len (lensP tx).1 (lensP tx).2 l1 l2 l3 l4
        have L1 := Lib.hid l1
        have L2 := Lib.hid l2
        have L3 := Lib.hid l3
        have L4 := Lib.hid l4
        clear HL ho1 ho2 hb5 hk5 hk6 HR4 HK4 HT4 l1 l2 l3 l4 l5 l6 Hlen
        generalize (lensP tx).1 = LA at *
        generalize (lensP tx).2 = LB at *
        go_wp2_with fail
        refine (HH.out).mono ?_
        rintro e w6 ⟨rfl, hrow, hkp⟩
        have HR6 := Lib.hid hrow
        have HK6 := Lib.hid (HK5.out.trans hkp)
        have HB := Lib.hid (body_any base p _ A3 mt c3 tx (some ⟨bA, oA, none⟩) 286 a5 LA (some ⟨bB, oB, none⟩) 30 b5 LB w6 HR6.out (HT5.out.keeps hkp (by decide)) (HL5.out.keeps hkp (by decide)) (HL6.out.keeps hkp (by decide))
          Hmt.out (by omega) L1.out L2.out (by omega) (by omega) (by omega) (by omega) L3.out L4.out HTS.out (by rw [List.length_append]; omega))
        rw [← Ho.out] at HB
        clear hrow hkp HH
        go_wp2_with fail
        refine (HB.out).mono ?_
        rintro e w7 ⟨rfl, hrow, hkp⟩
        have HR7 := Lib.hid hrow
        have HK7 := Lib.hid (HK6.out.trans hkp)
        clear hrow hkp
        go_wp2_with fail
        go_end0
        exact ⟨rfl, HR7.out, HK7.out⟩
      · have hk2' : ((kind : Int) == 2) = false := by rw [beq_eq_false_iff_ne]; omega
        have Ho := Lib.hid (Hone1.out (by rw [beq_eq_false_iff_ne] at hk0'; omega))
        have HB := Lib.hid (body_any base p r2 A3 mt c3 tx A4 288 c4 fixedA B4 32 d4 fixedB w4 HR4.out HT4.out HFA.out HFB.out
          Hmt.out (by omega) (by simp [fixedA]) (by simp [fixedB]) (by omega) (by omega) (by omega) (by omega) fixA_cd fixB_cd HTS.out (by omega))
        rw [← Ho.out] at HB
        clear Hone1 Hone2 hk2
        go_wp2_with fail
        refine (HB.out).mono ?_
        rintro e w7 ⟨rfl, hrow, hkp⟩
        have HR7 := Lib.hid hrow
        have HK7 := Lib.hid (HK4.out.trans hkp)
        clear hrow hkp
        go_wp2_with fail
        go_end0
        exact ⟨rfl, HR7.out, HK7.out⟩
end Go.Proofs.Ythpdcnjaodjjmaa.Blk

/- package block: Pack: the walk. -/
namespace Go.Proofs.Ythpdcnjaodjjmaa.Blk
open Go Go.RowKit Go.Proofs.Ythpdcnjaodjjmaa Go.Proofs.Ythpdcnjaodjjmaa.Bits Go.Proofs.Ythpdcnjaodjjmaa.Code Go.Proofs.Ythpdcnjaodjjmaa.Inf Go.Proofs.Ythpdcnjaodjjmaa.SP Go.Proofs.Ythpdcnjaodjjmaa.Rt
set_option linter.unusedVariables false

theorem slat_low {w w' : World} {A : Option Addr} {cs : List Value} {base : Nat} (h : SlAt w A cs) (hb : w.heap.size = base) (hw : ∀ k, k < base → w'.heap[k]? = w.heap[k]?) : SlAt w' A cs := fun hp => by
  obtain ⟨b, o, e, hc⟩ := h hp
  refine ⟨b, o, e, fun j v hj => ?_⟩
  have h1 := hc j v hj
  have hlt := block_lt_of_cell h1
  have h2 := hw b (by rw [← hb]; exact hlt)
  rw [← h1]
  simp only [World.cell?, h2]
theorem packE_zero (parts : List (List UInt8)) (ks : List Int) : ∀ f i n : Nat, packE parts ks f i n = 0 → (∀ j, i ≤ j → j < i + f → 0 ≤ ks.getD j 0 ∧ ks.getD j 0 ≤ 2 ∧ j < 40) ∧ (f ≠ 0 → n ≤ 3000) ∧ n + ((parts.drop i).take f).flatten.length ≤ max n 3000
  | 0, i, n, _ => ⟨fun j h1 h2 => by omega, fun h => absurd rfl h, by simp; omega⟩
  | f + 1, i, n, h => by
    unfold packE at h
    by_cases h1 : 3000 < n + (parts.getD i []).length ∨ 40 ≤ i
    · rw [if_pos h1] at h; simp at h
    · rw [if_neg h1] at h
      by_cases h2 : ks.getD i 0 < 0 ∨ 2 < ks.getD i 0
      · rw [if_pos h2] at h; simp at h
      · rw [if_neg h2] at h
        obtain ⟨a1, a2, a3⟩ := packE_zero parts ks f (i + 1) (n + (parts.getD i []).length) h
        refine ⟨fun j h3 h4 => ?_, fun _ => by omega, ?_⟩
        · by_cases hj : j = i
          · subst hj; omega
          · exact a1 j (by omega) (by omega)
        · rcases Nat.lt_or_ge i parts.length with hi | hi
          · rw [List.drop_eq_getElem_cons hi, List.take_succ_cons, List.flatten_cons, List.length_append]
            rw [List.getD_eq_getElem?_getD, List.getElem?_eq_getElem hi] at a3 h1
            simp only [Option.getD_some] at a3 h1
            omega
          · rw [List.drop_of_length_le hi]; simp; omega
theorem packE_all (parts : List (List UInt8)) (ks : List Int) (h : packE parts ks parts.length 0 0 = 0) (hl : ks.length = parts.length) : (∀ k ∈ ks, 0 ≤ k ∧ k ≤ 2) ∧ parts.length ≤ 40 ∧ parts.flatten.length ≤ 3000 := by
  obtain ⟨a1, a2, a3⟩ := packE_zero parts ks parts.length 0 0 h
  rw [List.drop_zero, List.take_length] at a3
  refine ⟨fun k hk => ?_, ?_, by omega⟩
  · obtain ⟨i, hi, rfl⟩ := List.mem_iff_getElem.1 hk
    have := a1 i (by omega) (by omega)
    rw [List.getD_eq_getElem?_getD, List.getElem?_eq_getElem hi] at this
    exact ⟨this.1, this.2.1⟩
  · rcases Nat.eq_zero_or_pos parts.length with h0 | h0
    · omega
    · have := (a1 (parts.length - 1) (by omega) (by omega)).2.2
      omega
theorem part_len (parts : List (List UInt8)) (i : Nat) : (parts.getD i []).length ≤ parts.flatten.length := by
  rcases Nat.lt_or_ge i parts.length with hi | hi
  · have := flat_take parts i hi
    have h2 := flat_len parts (i + 1)
    rw [this, List.length_append] at h2
    omega
  · rw [List.getD_eq_getElem?_getD, List.getElem?_eq_none hi]; simp
theorem packK_len (parts : List (List UInt8)) (kinds : List Nat) (h : parts.flatten.length ≤ 3000) : ∀ i, (packK parts kinds i).length ≤ 200000 * i
  | 0 => by show 0 ≤ _; omega
  | i + 1 => by
    have h1 := packK_len parts kinds h i
    have h2 := oneB_len (packK parts kinds i) (parts.getD i []) (kinds.getD i 0) (decide (i + 1 = parts.length)) (by have := part_len parts i; omega)
    show (oneB _ _ _ _).length ≤ _
    omega
/-- what is wrong with parts and kinds -/
def packErr (parts : List (List UInt8)) (ks : List Int) : Int := if parts.length = 0 ∨ parts.length ≠ ks.length then 4 else packE parts ks parts.length 0 0
def PackPost (parts : List (List UInt8)) (ks : List Int) (w : World) (e : Ending) (w' : World) : Prop :=
  (packErr parts ks ≠ 0 ∧ e = .returned (.tuple #[.slice none 0 0, .int .i64 (packErr parts ks)]) ∨
   packErr parts ks = 0 ∧ ∃ v, e = .returned (.tuple #[v, .int .i64 0]) ∧ w'.ownsRow w.heap.size 5 1 v (packB parts (lsOf ks)).length ((packB parts (lsOf ks)).map u8v)) ∧ Below w.heap.size w w'
set_option maxRecDepth 100000 in
set_option maxHeartbeats 4000000 in
theorem bpack_any (PA KA : Option Addr) (n cn m cm : Nat) (ps : List (Value × List UInt8)) (ks : List Int) (w : World) (hn : ps.length = n) (hm : ks.length = m) (hnx : n ≤ maxLen) (hmx : m ≤ maxLen) (hP : SlAt w PA (ps.map (·.1))) (hd : ∀ q ∈ ps, IsBytes w q.1 q.2) (hq : ∀ q ∈ ps, q.2.length ≤ 140737488351232) (hK : InAt w KA ks) :
    Calls Try.prog 10 #[.slice PA n cn, .slice KA m cm] w (PackPost (ps.map (·.2)) ks w) := by
  have HN := Lib.hid hn
  have HM := Lib.hid hm
  have HP := Lib.hid hP
  have HD := Lib.hid hd
  have HQ := Lib.hid hq
  have HK := Lib.hid hK
  have lp : (ps.map (·.2)).length = n := by rw [List.length_map, hn]
  have Hp : Hid (∀ k (h : k < ps.length), (ps.map (·.2)).getD k [] = ps[k].2) := Lib.hid (fun k h => by rw [List.getD_eq_getElem?_getD, List.getElem?_map, List.getElem?_eq_getElem h]; rfl)
  unfold maxLen at hnx hmx
  generalize ps.map (·.2) = parts at *
  have LP := Lib.hid lp
  clear hn hm hP hd hq hK lp
  go_enter Try.func10, Try.ntmps10
  by_cases h0 : n = 0
  · have hz : ((n : Int) == 0) = true := by simp; omega
    have He : Hid (packErr parts ks = 4) := Lib.hid (by unfold packErr; rw [if_pos (by rw [LP.out]; exact .inl h0)])
    clear h0
    go_wp2_with fail
    go_ret2
    exact ⟨.inl ⟨by rw [He.out]; decide, by rw [He.out]; rfl⟩, Below.refl _ _⟩
  · have hz : ((n : Int) == 0) = false := by rw [beq_eq_false_iff_ne]; omega
    by_cases hnm : n = m
    · subst hnm
      have He : Hid (packErr parts ks = packE parts ks n 0 0) := Lib.hid (by unfold packErr; rw [if_neg (by rw [LP.out, HM.out]; omega), LP.out])
      have hne : ((n : Int) == (n : Int)) = true := by simp
      clear h0
      go_wp2_with fail
      go_loop [6, 24] (fun vs i => ∃ k s : Nat, k ≤ n ∧ i = .int .i64 (k : Int) ∧ vs = .int .i64 (s : Int) ∧ s ≤ 3000 ∧ packE parts ks n 0 0 = packE parts ks (n - k) k s) (fun _ i => n - (intOf i).toNat)
      case atStart => exact ⟨0, 0, Nat.zero_le _, rfl, rfl, by omega, rfl⟩
      case round =>
        obtain ⟨k, s, hk, rfl, rfl, hs, hpk⟩ := hrel
        have Hpk := Lib.hid hpk
        clear hpk
        by_cases hlt : k < n
        · have hkl : k < ps.length := by rw [HN.out]; exact hlt
          obtain ⟨bP, oP, rfl, hcP⟩ := HP.out.get (k := k) (by rw [List.length_map]; exact hkl)
          rw [List.getElem_map] at hcP
          obtain ⟨A, c, hv, hlc, hcm, hby⟩ := HD.out _ (List.getElem_mem hkl)
          rw [hv] at hcP
          have Hp2 := Lib.hid (Hp.out k hkl)
          have hlq := HQ.out _ (List.getElem_mem hkl)
          generalize hxs : ps[k].2 = xs at *
          clear hv hxs hby
          unfold maxLen at hcm
          generalize hlx : xs.length = lx at *
          have Hlx := Lib.hid hlx
          have hkm : k < ks.length := by rw [HM.out]; exact hlt
          obtain ⟨bK, oK, rfl, hcK⟩ := HK.out.get hkm
          have Hks : Hid (ks.getD k 0 = ks[k]) := Lib.hid (by rw [List.getD_eq_getElem?_getD, List.getElem?_eq_getElem hkm]; rfl)
          generalize ks[k] = z at *
          obtain ⟨f, hf⟩ : ∃ f, n - k = f + 1 := ⟨n - k - 1, by omega⟩
          have Hst : Hid (packE parts ks n 0 0 = if 3000 < s + lx ∨ 40 ≤ k then 2 else if z < 0 ∨ 2 < z then 3 else packE parts ks (n - (k + 1)) (k + 1) (s + lx)) := Lib.hid (by
            rw [Hpk.out, hf]
            conv => lhs; unfold packE
            rw [Hp2.out, Hlx.out, Hks.out, show n - (k + 1) = f by omega])
          have hsum : IntKind.i64.wrap ((s : Int) + (lx : Int)) = ((s + lx : Nat) : Int) := by rw [show ((s : Int) + (lx : Int)) = ((s + lx : Nat) : Int) by omega]; exact IntWalk.i64_in _ (by omega)
          obtain ⟨t, ht⟩ : ∃ t, t = s + lx := ⟨_, rfl⟩
          rw [← ht] at hsum Hst
          clear hlx hf ht
          by_cases h3 : 3000 < t
          · have h3' : (3000 : Int) < (t : Int) := by omega
            have Hr : Hid (packErr parts ks = 2) := Lib.hid (by rw [He.out, Hst.out, if_pos (.inl h3)])
            clear h3
            go_wp2_with fail
            go_ret2
            exact ⟨.inl ⟨by rw [Hr.out]; decide, by rw [Hr.out]; rfl⟩, Below.refl _ _⟩
          · have h3' : ¬ (3000 : Int) < (t : Int) := by omega
            by_cases h4 : 40 ≤ k
            · have h4' : (40 : Int) ≤ (k : Int) := by omega
              have Hr : Hid (packErr parts ks = 2) := Lib.hid (by rw [He.out, Hst.out, if_pos (.inr h4)])
              clear h3 h4
              go_wp2_with fail
              go_ret2
              exact ⟨.inl ⟨by rw [Hr.out]; decide, by rw [Hr.out]; rfl⟩, Below.refl _ _⟩
            · have h4' : ¬ (40 : Int) ≤ (k : Int) := by omega
              by_cases h5 : z < 0
              · have Hr : Hid (packErr parts ks = 3) := Lib.hid (by rw [He.out, Hst.out, if_neg (by omega), if_pos (.inl h5)])
                clear h3 h4
                go_wp2_with fail
                go_ret2
                exact ⟨.inl ⟨by rw [Hr.out]; decide, by rw [Hr.out]; rfl⟩, Below.refl _ _⟩
              · by_cases h6 : 2 < z
                · have Hr : Hid (packErr parts ks = 3) := Lib.hid (by rw [He.out, Hst.out, if_neg (by omega), if_pos (.inr h6)])
                  clear h3 h4
                  go_wp2_with fail
                  go_ret2
                  exact ⟨.inl ⟨by rw [Hr.out]; decide, by rw [Hr.out]; rfl⟩, Below.refl _ _⟩
                · have Hr : Hid (packE parts ks n 0 0 = packE parts ks (n - (k + 1)) (k + 1) t) := Lib.hid (by rw [Hst.out, if_neg (by omega), if_neg (by omega)])
                  clear h4
                  go_wp2_with fail
                  go_round
                  case rel => exact ⟨k + 1, t, by omega, by go_num, rfl, by omega, Hr.out⟩
                  case measure => simp [intOf]; omega
        · obtain rfl : n = k := by omega
          have Hz : Hid (packE parts ks n 0 0 = 0) := Lib.hid (by rw [Hpk.out, Nat.sub_self]; rfl)
          have He0 : Hid (packErr parts ks = 0) := Lib.hid (by rw [He.out, Hz.out])
          obtain ⟨q1, q2, q3⟩ := packE_all parts ks (by rw [LP.out]; exact Hz.out) (by rw [HM.out, LP.out])
          have Q1 := Lib.hid q1
          have Q3 := Lib.hid q3
          rw [LP.out] at q2
          have HRow0 := Lib.hid (RowAt.new w (base := w.heap.size) (Nat.le_refl _))
          have Hb0 := Lib.hid ((Below.refl w.heap.size w).alloc (Nat.le_refl _) (.cells #[.slice none 0 0, .int .i64 0] 45))
          clear q1 q3 Hpk
          go_wp2_with fail
          have HPb := Lib.hid (HP.out.below Hb0.out)
          have HKb := Lib.hid (HK.out.below Hb0.out)
          have HLw : Hid (∀ q ∈ ps, ∃ A cap, q.1 = .slice A q.2.length cap ∧ q.2.length ≤ cap ∧ LowBy (w.alloc (.cells #[.slice none 0 0, .int .i64 0] 45)) w.heap.size A q.2) := Lib.hid (fun q hq => by
            obtain ⟨A, c, h1, h2, h3, h4⟩ := HD.out q hq
            exact ⟨A, c, h1, h2, (LowBy.of h4 (Nat.le_refl _)).trans (fun k hk => Hb0.out.block k hk)⟩)
          obtain ⟨n1, hn1⟩ : ∃ n1, n = n1 + 1 := ⟨n - 1, by rw [beq_eq_false_iff_ne] at hz; omega⟩
          have hs1 : IntKind.i64.wrap ((n : Int) - 1) = (n1 : Int) := by rw [show (n : Int) - 1 = (n1 : Int) by omega]; exact IntWalk.i64_in _ (by omega)
          have Hn1 := Lib.hid hn1
          clear hn1 hlt hs hk
          generalize hw3 : w.alloc (.cells #[.slice none 0 0, .int .i64 0] 45) = w3 at *
          generalize hp0 : w.heap.size = p0 at *
          have Hp0 := Lib.hid hp0
          clear hw3 hp0
          go_loopw [54] (fun i wr => ∃ k : Nat, k ≤ n ∧ i = .int .i64 (k : Int) ∧ RowAt wr p0 p0 (packK parts (lsOf ks) k) ∧ Keeps p0 rowT w3 wr) (fun i _ => n - (intOf i).toNat)
          case atStart => exact ⟨0, Nat.zero_le _, rfl, HRow0.out, Keeps.refl _ _ _⟩
          case round =>
            clear HRow0
            obtain ⟨k, hk, rfl, hrow, hkp⟩ := hrel
            have HRow := Lib.hid hrow
            have HKp := Lib.hid hkp
            have hrl := packK_len parts (lsOf ks) Q3.out k
            clear hrow hkp
            by_cases hlt : k < n
            · have hkl : k < ps.length := by rw [HN.out]; exact hlt
              have Hag : Hid (∀ j, j < p0 → wr.heap[j]? = w.heap[j]?) := Lib.hid (fun j hj => (HKp.out.block j hj).trans (Hb0.out.block j hj))
              obtain ⟨bP, oP, rfl, hcP⟩ := (slat_low HP.out Hp0.out Hag.out).get (k := k) (by rw [List.length_map]; exact hkl)
              rw [List.getElem_map] at hcP
              obtain ⟨A, c, hv, hlc, hlow⟩ := HLw.out _ (List.getElem_mem hkl)
              rw [hv] at hcP
              have Hp2 := Lib.hid (Hp.out k hkl)
              have hx3 : ps[k].2.length ≤ 3000 := by rw [← Hp2.out]; exact Nat.le_trans (part_len parts k) Q3.out
              generalize hxs : ps[k].2 = xs at *
              have Hlow := Lib.hid hlow
              have hkm : k < ks.length := by rw [HM.out]; exact hlt
              obtain ⟨bK, oK, rfl, hcK⟩ := InAt.get (slat_low HK.out Hp0.out Hag.out) hkm
              have hz2 := Q1.out _ (List.getElem_mem hkm)
              have hgk : (lsOf ks).getD k 0 = ks[k].toNat := getD_of ks k hkm
              generalize ks[k] = z at *
              obtain ⟨zk, rfl⟩ := Int.eq_ofNat_of_zero_le hz2.1
              rw [Int.toNat_natCast] at hgk
              obtain ⟨lb, hlb⟩ : ∃ b : Bool, b = ((k : Int) == (n1 : Int)) := ⟨_, rfl⟩
              have Hst : Hid (packK parts (lsOf ks) (k + 1) = oneB (packK parts (lsOf ks) k) xs zk lb) := Lib.hid (by
                show oneB _ _ _ _ = _
                rw [Hp2.out, hgk]
                congr 1
                rw [hlb, LP.out, Hn1.out, Bool.eq_iff_iff]
                simp
                omega)
              have HO := Lib.hid (one_any p0 p0 (packK parts (lsOf ks) k) A xs.length c xs zk lb wr HRow.out (Hlow.out.trans HKp.out.block) rfl hlc hx3 (by omega) (by omega))
              rw [← Hst.out] at HO
              rw [hlb] at HO
              have hlx := hx3
              generalize xs.length = lx at *
              clear hv hlow hxs hgk hlb hrl HRow hlc hx3 hz2
              go_wp2_with fail
              refine (HO.out).mono ?_
              rintro e w5 ⟨rfl, hrow, hkp⟩
              have HR5 := Lib.hid hrow
              have HK5 := Lib.hid (HKp.out.trans hkp)
              clear hrow hkp HO HKp
              go_wp2_with fail
              go_roundw
              case rel => exact ⟨k + 1, by omega, by go_num, HR5.out, HK5.out⟩
              case measure => simp [intOf]; omega
            · obtain rfl : n = k := by omega
              have Hbk : Hid (Below p0 w wr) := Lib.hid (Hb0.out.trans HKp.out.below)
              have HPk : Hid (packB parts (lsOf ks) = pack (packK parts (lsOf ks) n)) := Lib.hid (by unfold packB; rw [LP.out])
              obtain ⟨hpp, v, hv1, hv2⟩ := HRow.out
              have hby := Lib.hid (bytes_any p0 v _ wr hv1)
              have Hv2 := Lib.hid hv2
              clear hv1 hv2 hrl
              go_wp2_with fail
              refine (hby.out).mono ?_
              rintro e w5 ⟨rfl, rfl⟩
              go_wp2_with fail
              go_ret2
              exact ⟨.inr ⟨He0.out, v, rfl, by rw [HPk.out, Hp0.out]; exact Hv2.out⟩, by rw [Hp0.out]; exact Hbk.out⟩
    · have hne : ((n : Int) == (m : Int)) = false := by rw [beq_eq_false_iff_ne]; omega
      have He : Hid (packErr parts ks = 4) := Lib.hid (by unfold packErr; rw [if_pos (by rw [LP.out, HM.out]; exact .inr hnm)])
      clear h0 hnm
      go_wp2_with fail
      go_ret2
      exact ⟨.inl ⟨by rw [He.out]; decide, by rw [He.out]; rfl⟩, Below.refl _ _⟩
end Go.Proofs.Ythpdcnjaodjjmaa.Blk

/- bytes.Equal, and []byte to string. -/
namespace Go.Proofs.Ythpdcnjaodjjmaa
open Go Go.RowKit
set_option linter.unusedVariables false

def strB (xs : List UInt8) : ByteArray := ⟨xs.toArray⟩
theorem strB_inj (xs ys : List UInt8) : ((strB xs).toList == (strB ys).toList) = decide (xs = ys) := by
  rw [ByteArray.toList_eq, ByteArray.toList_eq, Bool.eq_iff_iff]; simp [strB]
theorem strB_nums (xs : List UInt8) : strOfNums (xs.map n8) = strB xs := by
  unfold strOfNums strB
  rw [List.map_map]
  have : ((fun n => UInt8.ofNat n.toNat) ∘ n8) = id := by
    funext x; simp [n8]
  rw [this, List.map_id]
theorem conv_bytes (A : Option Addr) (n c : Nat) (xs : List UInt8) (w : World) (hn : xs.length = n) (h : ByAt w A xs) :
    (convert 22 9 (.slice A n c)).run Try.prog w = .ok (.string (strB xs)) w := by
  rw [← strB_nums]
  cases n with
  | zero =>
    have : xs = [] := List.eq_nil_of_length_eq_zero hn
    subst this
    exact run_convert_bytes_zero w _ _ Try.underlying22 Try.underlying5 A c _ Try.underlying9
  | succ n =>
    obtain ⟨b, o, rfl, _⟩ := SlAt.get h (k := 0) (by simp; omega)
    refine run_convert_bytes_arg w _ _ Try.underlying22 Try.underlying5 b o _ c _ (by simpa using hn) (fun i hi => ?_) _ Try.underlying9
    obtain ⟨b', o', hb, hc⟩ := SlAt.get h (k := i) (by simp; omega)
    injection hb with hb; injection hb with h1 h2 h3
    subst h1 h2
    rw [hc]
    have : i < xs.length := by omega
    simp [List.getD, u8v, this]

set_option maxHeartbeats 400000 in
theorem equal_bytes (A B : Option Addr) (n m ca cb : Nat) (xs ys : List UInt8) (w : World) (hn : xs.length = n) (hm : ys.length = m) (ha : ByAt w A xs) (hb : ByAt w B ys) :
    Calls Try.prog 11 #[.slice A n ca, .slice B m cb] w fun e w' => e = .returned (.bool (decide (xs = ys))) ∧ w' = w := by
  have k1 := conv_bytes A n ca xs w hn ha
  have k2 := conv_bytes B m cb ys w hm hb
  have K := Lib.hid (strB_inj xs ys)
  clear hn hm ha hb
  go_enter Try.func11, Try.ntmps11
  go_wp2_with fail
  go_ret
  exact ⟨ret_bool K.out, rfl⟩
end Go.Proofs.Ythpdcnjaodjjmaa

/- package block: Best: the walk; packed, a closed fact. -/
namespace Go.Proofs.Ythpdcnjaodjjmaa.Blk
open Go Go.RowKit Go.Proofs.Ythpdcnjaodjjmaa Go.Proofs.Ythpdcnjaodjjmaa.Bits Go.Proofs.Ythpdcnjaodjjmaa.Inf Go.Proofs.Ythpdcnjaodjjmaa.SP Go.Proofs.Ythpdcnjaodjjmaa.Rt
open Go.Proofs.Ythpdcnjaodjjmaa.Code (lsOf natV nats)
set_option linter.unusedVariables false

theorem packErr_one (xs : List UInt8) (k : Nat) (hx : xs.length ≤ 3000) (hk : k ≤ 2) : packErr [xs] [(k : Int)] = 0 := by
  unfold packErr
  rw [if_neg (by simp)]
  show packE [xs] [(k : Int)] 1 0 0 = 0
  unfold packE
  rw [if_neg (by simp; omega), if_neg (by simp; omega)]
  rfl
theorem lsOf_one (k : Nat) : lsOf [(k : Int)] = [k] := by simp [lsOf]
/-- Pack of one part -/
theorem pack1_any (A : Option Addr) (n c k : Nat) (xs : List UInt8) (w : World) (hn : xs.length = n) (hnc : n ≤ c) (hcm : c ≤ maxLen) (hx : n ≤ 3000) (hk : k ≤ 2) (hA : ByAt w A xs) :
    Calls Try.prog 10 #[.slice (some ⟨w.heap.size, 0, none⟩) 1 1, .slice (some ⟨w.heap.size + 1, 0, none⟩) 1 1] ((w.alloc (.cells #[.slice A n c] 22)).alloc (.cells #[.int .i64 (k : Int)] 3)) fun e w' =>
      (∃ v, e = .returned (.tuple #[v, .int .i64 0]) ∧ w'.ownsRow w.heap.size 5 1 v (packB [xs] [k]).length ((packB [xs] [k]).map u8v)) ∧ Below w.heap.size w w' := by
  have hb : Below w.heap.size w ((w.alloc (.cells #[.slice A n c] 22)).alloc (.cells #[.int .i64 (k : Int)] 3)) := ((Below.refl _ _).alloc (Nat.le_refl _) _).alloc (by simp) _
  have h1 : Blk ((w.alloc (.cells #[.slice A n c] 22)).alloc (.cells #[.int .i64 (k : Int)] 3)) w.heap.size 22 #[.slice A n c] := (Blk.new w _ _).alloc _
  have h2 : Blk ((w.alloc (.cells #[.slice A n c] 22)).alloc (.cells #[.int .i64 (k : Int)] 3)) (w.heap.size + 1) 3 #[.int .i64 (k : Int)] := by
    have := Blk.new (w.alloc (.cells #[.slice A n c] 22)) 3 #[.int .i64 (k : Int)]
    rw [World.size_alloc] at this; exact this
  have he := packErr_one xs k (by omega) hk
  refine (bpack_any (some ⟨w.heap.size, 0, none⟩) (some ⟨w.heap.size + 1, 0, none⟩) 1 1 1 1 [(.slice A n c, xs)] [(k : Int)] _ rfl rfl (by unfold maxLen; omega) (by unfold maxLen; omega) h1.kat.slat ?_ ?_ ?_).mono ?_
  · intro q hq
    rw [List.mem_singleton] at hq
    subst hq
    exact ⟨A, c, by rw [hn], by rw [hn]; exact hnc, hcm, hA.below hb⟩
  · intro q hq
    rw [List.mem_singleton] at hq
    subst hq
    dsimp only
    omega
  · exact h2.kat.slat
  · rintro e w' ⟨h, hb'⟩
    have hb2 : Below w.heap.size w w' := hb.trans (hb'.mono hb.size)
    refine ⟨?_, hb2⟩
    rcases h with ⟨h3, _⟩ | ⟨_, v, rfl, ho⟩
    · exact absurd he h3
    · rw [lsOf_one] at ho
      exact ⟨v, rfl, own_base ho (by simp; omega)⟩
/-- the best of the first k kinds -/
def bestK (xs : List UInt8) : Nat → List UInt8 × Nat
  | 0 => ([], 0)
  | k + 1 => if k = 0 ∨ (packB [xs] [k]).length < (bestK xs k).1.length then (packB [xs] [k], k) else bestK xs k
theorem bestK_yes (xs : List UInt8) (k : Nat) (h : k = 0 ∨ (packB [xs] [k]).length < (bestK xs k).1.length) : bestK xs (k + 1) = (packB [xs] [k], k) := by
  conv => lhs; unfold bestK
  rw [if_pos h]
theorem bestK_no (xs : List UInt8) (k : Nat) (h : ¬ (k = 0 ∨ (packB [xs] [k]).length < (bestK xs k).1.length)) : bestK xs (k + 1) = bestK xs k := by
  conv => lhs; unfold bestK
  rw [if_neg h]
def BestPost (n : Nat) (xs : List UInt8) (w : World) (e : Ending) (w' : World) : Prop :=
  (3000 < n ∧ e = .returned (.tuple #[.slice none 0 0, .int .i64 0, .int .i64 2]) ∨
   n ≤ 3000 ∧ ∃ v, e = .returned (.tuple #[v, .int .i64 ((bestK xs 3).2 : Int), .int .i64 0]) ∧ w'.ownsRow w.heap.size 5 1 v (bestK xs 3).1.length ((bestK xs 3).1.map u8v)) ∧ Below w.heap.size w w'
set_option maxRecDepth 100000 in
set_option maxHeartbeats 1600000 in
theorem best_any (A : Option Addr) (n c : Nat) (xs : List UInt8) (w : World) (hn : xs.length = n) (hnc : n ≤ c) (hcm : c ≤ maxLen) (hA : ByAt w A xs) :
    Calls Try.prog 8 #[.slice A n c] w (BestPost n xs w) := by
  have Hn := Lib.hid hn
  have HA := Lib.hid hA
  have Hcm := Lib.hid hcm
  unfold maxLen at hcm
  clear hn hA
  go_enter Try.func8, Try.ntmps8
  by_cases h3 : 3000 < n
  · have h3' : (3000 : Int) < (n : Int) := by omega
    go_wp2_with fail
    go_ret3
    exact ⟨.inl ⟨h3, rfl⟩, Below.refl _ _⟩
  · have h3' : ¬ (3000 : Int) < (n : Int) := by omega
    have hle : n ≤ 3000 := by omega
    clear h3
    go_wp2_with fail
    go_loopw [2, 3, 5] (fun vo vb vk wr => ∃ k : Nat, k ≤ 3 ∧ vk = .int .i64 (k : Int) ∧ vb = .int .i64 ((bestK xs k).2 : Int) ∧ wr.ownsRow w.heap.size 5 1 vo (bestK xs k).1.length ((bestK xs k).1.map u8v) ∧ Below w.heap.size w wr) (fun _ _ vk _ => 3 - (intOf vk).toNat)
    case atStart => exact ⟨0, by omega, rfl, rfl, World.ownsRow_nil .., Below.refl _ _⟩
    case round =>
      obtain ⟨k, hk, rfl, rfl, ho, hb⟩ := hrel
      have HO := Lib.hid ho
      have Hb := Lib.hid hb
      clear ho hb
      by_cases hlt : k < 3
      · have hk2 : (k : Int) ≤ 2 := by omega
        have HP := Lib.hid (pack1_any A n c k xs wr Hn.out hnc Hcm.out hle (by omega) (HA.out.below Hb.out))
        have Hy := Lib.hid (bestK_yes xs k)
        have Hno := Lib.hid (bestK_no xs k)
        go_wp2_with fail
        refine (HP.out).mono ?_
        rintro e w2 ⟨⟨v2, rfl, ho2⟩, hb2⟩
        have HO2 := Lib.hid (own_keep HO.out hb2)
        have Hb2 := Lib.hid (Hb.out.trans (hb2.mono Hb.out.size))
        have HN2 := Lib.hid (own_base ho2 Hb.out.size)
        obtain ⟨A2, c2, rfl, _⟩ := own_slat ho2
        obtain ⟨A1, c1, rfl, _⟩ := own_slat HO.out
        clear ho2 hb2 HP HO Hb
        generalize packB [xs] [k] = p at *
        generalize bestK xs k = s at *
        obtain ⟨s1, s2⟩ := s
        dsimp only at HO2 Hy Hno
        by_cases hc : k = 0 ∨ p.length < s1.length
        · have He := Lib.hid (Hy.out hc)
          by_cases hk0 : k = 0
          · have hz : ((k : Int) == 0) = true := by simp; omega
            clear hc hk0 Hy Hno
            go_wp2_with fail
            go_roundw
            case rel => exact ⟨k + 1, by omega, by go_num, by rw [He.out], by rw [He.out]; exact HN2.out, Hb2.out⟩
            case measure => simp [intOf]; omega
          · have hz : ((k : Int) == 0) = false := by rw [beq_eq_false_iff_ne]; omega
            have hl : (p.length : Int) < (s1.length : Int) := by omega
            clear hc hk0 Hy Hno
            go_wp2_with fail
            go_roundw
            case rel => exact ⟨k + 1, by omega, by go_num, by rw [He.out], by rw [He.out]; exact HN2.out, Hb2.out⟩
            case measure => simp [intOf]; omega
        · have He := Lib.hid (Hno.out hc)
          have hz : ((k : Int) == 0) = false := by rw [beq_eq_false_iff_ne]; omega
          have hl : ¬ (p.length : Int) < (s1.length : Int) := by omega
          clear hc Hy Hno
          go_wp2_with fail
          go_roundw
          case rel => exact ⟨k + 1, by omega, by go_num, by rw [He.out], by rw [He.out]; exact HO2.out, Hb2.out⟩
          case measure => simp [intOf]; omega
      · obtain rfl : k = 3 := by omega
        have hk2 : ¬ ((3 : Nat) : Int) ≤ 2 := by omega
        go_wp2_with fail
        go_ret3
        exact ⟨.inr ⟨hle, _, rfl, HO.out⟩, Hb.out⟩
theorem fact_aa : packB [[97, 97]] [0] = [1, 2, 0, 253, 255, 97, 97] := by decide +kernel
theorem fact_p0 : packB [[]] [0] = [1, 0, 0, 255, 255] := by decide +kernel
theorem fact_p1 : packB [[]] [1] = [3, 0] := by decide +kernel
theorem fact_p2 : ¬ (packB [[]] [2]).length < 2 := by
  have h1 : packB [[]] [2] = pack (packK [[]] [2] 1) := rfl
  have h2 : packK [[]] [2] 1 = packK [[]] [2] 0 ++ oneS (packK [[]] [2] 0).length [] 2 true := packK_succ _ _ _
  have h3 : 17 ≤ (oneS (packK [[]] [2] 0).length [] 2 true).length := by
    unfold oneS
    rw [if_neg (by omega), if_neg (by omega), headB_eq]
    simp only [List.length_append, numBits_length, List.length_singleton]
    omega
  rw [h1, pack_length, h2, List.length_append]
  omega
theorem fact_best : bestK [] 3 = ([3, 0], 1) := by
  have e1 : bestK [] 1 = ([1, 0, 0, 255, 255], 0) := by rw [bestK_yes [] 0 (.inl rfl), fact_p0]
  have e2 : bestK [] 2 = ([3, 0], 1) := by rw [bestK_yes [] 1 (.inr (by rw [fact_p1, e1]; decide)), fact_p1]
  rw [bestK_no [] 2 (by rw [e2]; intro h; rcases h with h | h; omega; exact fact_p2 h), e2]
end Go.Proofs.Ythpdcnjaodjjmaa.Blk

/- reliquarylaw.packed: a closed fact. -/
namespace Go.Proofs.Ythpdcnjaodjjmaa.Blk
open Go Go.RowKit Go.Proofs.Ythpdcnjaodjjmaa Go.Proofs.Ythpdcnjaodjjmaa.Bits Go.Proofs.Ythpdcnjaodjjmaa.Inf Go.Proofs.Ythpdcnjaodjjmaa.SP Go.Proofs.Ythpdcnjaodjjmaa.Rt
open Go.Proofs.Ythpdcnjaodjjmaa.Code (lsOf natV nats)
set_option linter.unusedVariables false

set_option maxRecDepth 100000 in
set_option maxHeartbeats 1600000 in
theorem packed_any (w : World) : Calls Try.prog 9 #[] w fun e w' => e = .returned (.bool true) ∧ Below w.heap.size w w' := by
  have hb0 : Below w.heap.size w (w.alloc (.cells #[.int .u8 97, .int .u8 97] 5 (2, 3))) := (Below.refl _ _).alloc (Nat.le_refl _) _
  have HP := pack1_any (some ⟨w.heap.size, 0, none⟩) 2 2 0 [97, 97] (w.alloc (.cells #[.int .u8 97, .int .u8 97] 5 (2, 3))) rfl (by omega) (by unfold maxLen; omega) (by omega) (by omega) (ByAt.of_new _ _ _ (2, 3) rfl)
  rw [fact_aa, World.size_alloc, show (((0 : Nat) : Int)) = 0 from rfl] at HP
  have Hb0 := Lib.hid hb0
  have HP := Lib.hid HP
  clear hb0
  have kk := fun (w : World) (C : Array Value) (n c : Nat) => Lib.run_convert_bytes_const (P := Try.prog) w 22 5 C n c Try.underlying22 Try.underlying5
  go_enter Try.func9, Try.ntmps9
  go_wp2_with fail
  refine (HP.out).mono ?_
  rintro e w1 ⟨⟨v1, rfl, ho1⟩, hb1⟩
  have Hb1 : Hid (Below w.heap.size w w1) := Lib.hid (Hb0.out.trans (hb1.mono (by omega)))
  obtain ⟨A1, c1, rfl, _, _, hs1, _⟩ := own_slat ho1
  have HS1 : Hid (ByAt w1 A1 [1, 2, 0, 253, 255, 97, 97]) := Lib.hid hs1
  clear ho1 hs1 hb1 HP Hb0
  go_wp2_with fail
  refine (best_any none 0 0 [] w1 rfl (by omega) (by unfold maxLen; omega) SlAt.nil).mono ?_
  rintro e w2 ⟨h, hb2⟩
  rcases h with ⟨h, _⟩ | ⟨_, v2, rfl, ho2⟩
  · omega
  rw [fact_best] at ho2 ⊢
  dsimp only at ho2 ⊢
  have Hb2 := Lib.hid (Hb1.out.trans (hb2.mono Hb1.out.size))
  obtain ⟨A2, c2, rfl, _, _, hs2, _⟩ := own_slat ho2
  have HS2 : Hid (ByAt w2 A2 [3, 0]) := Lib.hid hs2
  have HS1' := Lib.hid (HS1.out.below hb2)
  clear ho2 hs2 hb2 Hb1 HS1
  go_wp2_with fail
  have HL1 : Hid (ByAt (w2.alloc (.cells #[.int .u8 1, .int .u8 2, .int .u8 0, .int .u8 253, .int .u8 255, .int .u8 97, .int .u8 97] 5)) (some ⟨w2.heap.size, 0, none⟩) [1, 2, 0, 253, 255, 97, 97]) := Lib.hid (ByAt.of_new _ _ _ (0, 0) rfl)
  have HE1 := Lib.hid (equal_bytes A1 (some ⟨w2.heap.size, 0, none⟩) 7 7 c1 7 [1, 2, 0, 253, 255, 97, 97] [1, 2, 0, 253, 255, 97, 97] _ rfl rfl (HS1'.out.below ((Below.refl _ _).alloc (Nat.le_refl _) _)) HL1.out)
  rw [show decide (([1, 2, 0, 253, 255, 97, 97] : List UInt8) = [1, 2, 0, 253, 255, 97, 97]) = true from by simp] at HE1
  dsimp only [List.length_cons, List.length_nil]
  clear kk
  go_wp2_with fail
  refine (HE1.out).mono ?_
  rintro e w3 ⟨rfl, hw3⟩
  have Hb3 : Hid (Below w.heap.size w w3) := Lib.hid (by rw [hw3]; exact Hb2.out.alloc Hb2.out.size _)
  have HS3 : Hid (ByAt w3 A2 [3, 0]) := Lib.hid (by rw [hw3]; exact HS2.out.below ((Below.refl _ _).alloc (Nat.le_refl _) _))
  have HL2 : Hid (ByAt (w3.alloc (.cells #[.int .u8 3, .int .u8 0] 5)) (some ⟨w3.heap.size, 0, none⟩) [3, 0]) := Lib.hid (ByAt.of_new _ _ _ (0, 0) rfl)
  have HE2 := Lib.hid (equal_bytes A2 (some ⟨w3.heap.size, 0, none⟩) 2 2 c2 2 [3, 0] [3, 0] _ rfl rfl (HS3.out.below ((Below.refl _ _).alloc (Nat.le_refl _) _)) HL2.out)
  rw [show decide (([3, 0] : List UInt8) = [3, 0]) = true from by simp] at HE2
  clear hw3 HE1 HL1 HS1' HS2 Hb2
  go_wp2_with fail
  refine (HE2.out).mono ?_
  rintro e w4 ⟨rfl, hw4⟩
  have Hb4 : Hid (Below w.heap.size w w4) := Lib.hid (by rw [hw4]; exact Hb3.out.alloc Hb3.out.size _)
  clear hw4 HE2 HL2 HS3 Hb3
  go_wp2_with fail
  go_ret
  exact ⟨rfl, Hb4.out⟩
end Go.Proofs.Ythpdcnjaodjjmaa.Blk

/- reliquarylaw.BlockBest: the walk. -/
namespace Go.Proofs.Ythpdcnjaodjjmaa.BlockBest
open Go Go.RowKit Go.Proofs.Ythpdcnjaodjjmaa Go.Proofs.Ythpdcnjaodjjmaa.Bits Go.Proofs.Ythpdcnjaodjjmaa.Inf Go.Proofs.Ythpdcnjaodjjmaa.SP Go.Proofs.Ythpdcnjaodjjmaa.Rt Go.Proofs.Ythpdcnjaodjjmaa.Blk
set_option linter.unusedVariables false

set_option maxRecDepth 100000 in
set_option maxHeartbeats 3000000 in
theorem walk (W : World) (v0 : Value) (xs : List UInt8) (h0 : IsBytes W v0 xs) : Calls Try.prog 3 #[v0] W fun e W' => e = .returned (.bool true) ∧ Below W.heap.size W W' := by
  obtain ⟨A, c, rfl, hnc, hcm, hA⟩ := h0
  have HA := Lib.hid hA
  obtain ⟨n, hn⟩ : ∃ n, n = xs.length := ⟨_, rfl⟩
  rw [← hn] at hnc ⊢
  have Hn := Lib.hid hn.symm
  have HB := Lib.hid (best_any A n c xs W hn.symm hnc hcm hA)
  have Hcm := Lib.hid hcm
  unfold maxLen at hcm
  clear hA hn
  go_enter Try.func3, Try.ntmps3
  go_wp2_with fail
  refine (HB.out).mono ?_
  rintro e w1 ⟨h, hb1⟩
  have Hb1 := Lib.hid hb1
  clear hb1 HB
  rcases h with ⟨h3, rfl⟩ | ⟨h3, v1, rfl, ho1⟩
  · have h3' : (3000 : Int) < (n : Int) := by omega
    clear h3
    go_wp2_with fail
    refine (packed_any _).mono ?_
    rintro e w2 ⟨rfl, hb2⟩
    have Hb2 := Lib.hid (Hb1.out.trans (hb2.mono Hb1.out.size))
    clear hb2 Hb1
    go_wp2_with fail
    refine (packed_any _).mono ?_
    rintro e w3 ⟨rfl, hb3⟩
    have Hb3 := Lib.hid (Hb2.out.trans (hb3.mono Hb2.out.size))
    clear hb3 Hb2
    go_wp2_with fail
    go_ret
    exact ⟨rfl, Hb3.out⟩
  · have h3' : ¬ (3000 : Int) < (n : Int) := by omega
    have HO1 := Lib.hid ho1
    clear ho1
    go_wp2_with fail
    refine (packed_any _).mono ?_
    rintro e w2 ⟨rfl, hb2⟩
    have Hb2 := Lib.hid (Hb1.out.trans (hb2.mono Hb1.out.size))
    obtain ⟨A1, c1, rfl, _, _, hs1, _⟩ := own_slat (own_keep HO1.out hb2)
    have HS1 := Lib.hid hs1
    clear hb2 Hb1 HO1 hs1
    go_wp2_with fail
    go_loopw [6, 7, 8] (fun vb vo vk wr => ∃ k : Nat, k ≤ 3 ∧ vk = .int .i64 (k : Int) ∧ vb = .int .i64 ((bestK xs k).2 : Int) ∧ wr.ownsRow w2.heap.size 5 1 vo (bestK xs k).1.length ((bestK xs k).1.map u8v) ∧ Below w2.heap.size w2 wr) (fun _ _ vk _ => 3 - (intOf vk).toNat)
    case atStart => exact ⟨0, by omega, rfl, rfl, World.ownsRow_nil .., Below.refl _ _⟩
    case round =>
      obtain ⟨k, hk, rfl, rfl, ho, hb⟩ := hrel
      have HO := Lib.hid ho
      have Hb := Lib.hid hb
      clear ho hb
      by_cases hlt : k < 3
      · have hk2 : (k : Int) ≤ 2 := by omega
        have HP := Lib.hid (pack1_any A n c k xs wr Hn.out hnc Hcm.out h3 (by omega) ((HA.out.below Hb2.out).below (Hb.out.mono (Nat.le_refl _))))
        have Hy := Lib.hid (bestK_yes xs k)
        have Hno := Lib.hid (bestK_no xs k)
        obtain ⟨A0, c0, hv0, _⟩ := own_slat HO.out
        go_wp2_with fail
        refine (HP.out).mono ?_
        rintro e w3 ⟨⟨v2, rfl, ho2⟩, hb3⟩
        have HO2 := Lib.hid (own_keep HO.out hb3)
        have Hb3 := Lib.hid (Hb.out.trans (hb3.mono Hb.out.size))
        have HN2 := Lib.hid (own_base ho2 Hb.out.size)
        obtain ⟨A2, c2, rfl, _⟩ := own_slat ho2
        subst hv0
        clear ho2 hb3 HP HO Hb
        generalize packB [xs] [k] = p at *
        generalize hs : bestK xs k = s at *
        have Hs := Lib.hid hs
        clear hs
        obtain ⟨s1, s2⟩ := s
        dsimp only at HO2 Hy Hno
        by_cases hc : k = 0 ∨ p.length < s1.length
        · have He := Lib.hid (Hy.out hc)
          by_cases hk0 : k = 0
          · have hz : ((k : Int) == 0) = true := by simp; omega
            clear hc hk0 Hy Hno
            go_wp2_with fail
            go_roundw
            case rel => exact ⟨k + 1, by omega, by go_num, by rw [He.out], by rw [He.out]; exact HN2.out, Hb3.out⟩
            case measure => simp [intOf]; omega
          · have hz : ((k : Int) == 0) = false := by rw [beq_eq_false_iff_ne]; omega
            have hl : (p.length : Int) < (s1.length : Int) := by omega
            clear hc hk0 Hy Hno
            go_wp2_with fail
            go_roundw
            case rel => exact ⟨k + 1, by omega, by go_num, by rw [He.out], by rw [He.out]; exact HN2.out, Hb3.out⟩
            case measure => simp [intOf]; omega
        · have He := Lib.hid (Hno.out hc)
          have hz : ((k : Int) == 0) = false := by rw [beq_eq_false_iff_ne]; omega
          have hl : ¬ (p.length : Int) < (s1.length : Int) := by omega
          clear hc Hy Hno
          go_wp2_with fail
          go_roundw
          case rel => exact ⟨k + 1, by omega, by go_num, by rw [He.out], by rw [He.out]; exact HO2.out, Hb3.out⟩
          case measure => simp [intOf]; omega
      · obtain rfl : k = 3 := by omega
        have hk2 : ¬ ((3 : Nat) : Int) ≤ 2 := by omega
        obtain ⟨A0, c0, rfl, _, _, hs0, _⟩ := own_slat HO.out
        have HE := Lib.hid (equal_bytes A1 A0 _ _ c1 c0 (bestK xs 3).1 (bestK xs 3).1 wr rfl rfl (SlAt.below HS1.out Hb.out) hs0)
        rw [show decide ((bestK xs 3).1 = (bestK xs 3).1) = true from by simp] at HE
        have Hbb := Lib.hid (Hb2.out.trans (Hb.out.mono Hb2.out.size))
        clear HO hs0 HS1 Hb
        generalize bestK xs 3 = s at *
        obtain ⟨s1, s2⟩ := s
        dsimp only at HE
        have hee : ((s2 : Int) == (s2 : Int)) = true := by simp
        go_wp2_with fail
        refine (HE.out).mono ?_
        rintro e w4 ⟨rfl, rfl⟩
        go_wp2_with fail
        go_ret
        exact ⟨rfl, Hbb.out⟩
end Go.Proofs.Ythpdcnjaodjjmaa.BlockBest
