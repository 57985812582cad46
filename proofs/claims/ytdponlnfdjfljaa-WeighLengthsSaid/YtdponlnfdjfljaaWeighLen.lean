/- package weigh: Lengths. -/
import Derived.Test.YtdponlnfdjfljaaWeighBd
import Derived.StillTailTactics
import Derived.Deep.CutRange
import Derived.Deep.RegionLaw
namespace Go.Proofs.Ytdponlnfdjfljaa.Weigh
open Go Go.RowKit Go.Proofs.Ytdponlnfdjfljaa Go.Proofs.Ytdponlnfdjfljaa.SP
set_option linter.unusedVariables false

theorem infoI : (Try.prog.info? 3).map (fun i => (i.zero, i.size, i.bytes)) = some (some (.int .i64 0), 1, 8) := by kernel_rfl
theorem make_ints (n : Nat) (hn : n ≤ 1000000) (u : World) : (Instr.makeSlice 22 (.int .i64 (n : Int)) (.int .i64 (n : Int))).run Try.prog u =
      .ok (.slice (some ⟨u.heap.size, 0, none⟩) n n) (u.alloc (.cells (madeCells #[.int .i64 0] n) 3)) := by
  obtain ⟨i0, hi, hz0, hz1, hz2⟩ := info_parts infoI
  have h := run_make (P := Try.prog) u 22 3 i0 (.int .i64 0) Try.underlying22 hi hz0 .i64 .i64 (n : Int) (n : Int) (by omega) (Int.le_refl _) (by rw [hz2]; omega) (by omega)
  simpa [hz1, Value.cells] using h
theorem made_zero (n : Nat) : madeCells #[.int .i64 0] n = ((List.replicate n 0).map nv).toArray := by
  unfold madeCells
  apply Array.ext'
  simp
  apply List.ext_getElem
  · simp
  · intro i h1 h2
    simp [nv, Nat.mod_one]
theorem own_made (w : World) (base n : Nat) (l : List Nat) (hb : base ≤ w.heap.size) (hl : l.length = n) (hn : n ≤ 1000000) : (w.alloc (.cells ((l.map nv).toArray) 3)).ownsRow base 3 1 (.slice (some ⟨w.heap.size, 0, none⟩) n n) n (l.map nv) :=
  ⟨by simp [hl], .inr ⟨w.heap.size, n, _, rfl, hb, heap_alloc_new w _, Nat.le_refl _, by unfold maxLen; omega, by simp [hl], by rw [List.toList_toArray, Nat.mul_one, List.take_of_length_le (by simp [hl])]⟩⟩
theorem tyP : SliceTy Try.prog 92 94 (.agg #[.int .i64 0, .slice none 0 0]) 2 32 := ⟨Try.underlying92, by kernel_rfl, rfl, by omega⟩
/-- what Lengths hands back -/
def LenPost (zs : List Int) (most : Int) (w : World) (e : Ending) (w' : World) : Prop :=
  (chkW zs most ≠ 0 ∧ e = .returned (.tuple #[.slice none 0 0, .int .i64 (chkW zs most)]) ∨
   chkW zs most = 0 ∧ ∃ v, e = .returned (.tuple #[v, .int .i64 0]) ∧ w'.ownsRow w.heap.size 3 1 v zs.length ((lengthsP (natsOf zs) most.toNat).map nv)) ∧ Below w.heap.size w w'
theorem natsOf_get (zs : List Int) (k : Nat) (h : k < zs.length) : (natsOf zs).getD k 0 = zs[k].toNat := by simp [natsOf, List.getD_eq_getElem?_getD, h]
theorem natsOf_len (zs : List Int) : (natsOf zs).length = zs.length := by simp [natsOf]
theorem rows_ge (one : List Pk) (t : Nat) : one.length ≤ (rowsP one t).length := by
  cases t with
  | zero => exact Nat.le_refl _
  | succ t => rw [rows_len]; exact Nat.le_add_right _ _
theorem f2_stab (es : List El) : (stab ekey es).map f2 = stab pkey (es.map f2) := stab_map pkey f2 es
set_option maxRecDepth 100000 in
set_option maxHeartbeats 8000000 in
theorem lengths_go (A : Option Addr) (n c L : Nat) (zs : List Int) (w : World) (hn : zs.length = n) (hx : n ≤ maxLen) (hA : InAt w A zs) (h0 : chkW zs (L : Int) = 0) :
    Calls Try.prog 33 #[.slice A n c, .int .i64 (L : Int)] w (LenPost zs L w) := by
  have Hn := Lib.hid hn
  have HA := Lib.hid hA
  have hc := checkW_any A n c zs L w hn hx hA
  rw [h0] at hc
  have HC := Lib.hid hc
  obtain ⟨f1, f2, f3, f4, f5⟩ := chkW_fine zs L h0
  have H0 := Lib.hid h0
  have F2 := Lib.hid f2
  have F5 := Lib.hid f5
  have hn288 : n ≤ 288 := by omega
  have hL1 : 1 ≤ L := by omega
  have hL15 : L ≤ 15 := by omega
  have hmk := make_ints n (by omega)
  have Hnl : Hid ((natsOf zs).length = n) := Lib.hid (by rw [natsOf_len]; exact hn)
  clear hn hx hA h0 hc f1 f2 f3 f4 f5
  go_enter Try.func33, Try.ntmps33
  go_wp2_with fail
  refine (HC.out).mono ?_
  rintro e wx ⟨rfl, hw⟩
  have hw := hw.symm
  subst hw
  go_wp2_with fail
  have Hout := Lib.hid (own_made w w.heap.size n (List.replicate n 0) (Nat.le_refl _) (by simp) (by omega))
  rw [← made_zero] at Hout
  have Hb1 := Lib.hid ((Below.refl w.heap.size w).alloc (Nat.le_refl _) (.cells (madeCells #[.int .i64 0] n) 3))
  have Hs1 : Hid ((w.alloc (.cells (madeCells #[.int .i64 0] n) 3)).heap.size = w.heap.size + 1) := Lib.hid (by simp)
  generalize w.alloc (.cells (madeCells #[.int .i64 0] n) 3) = w1 at *
  generalize hg0 : w.heap.size = g0 at *
  have Hg0 := Lib.hid hg0
  clear hg0
  go_loopw [8, 31] (fun v i wr => ∃ (k : Nat) (es : List El), k ≤ n ∧ i = .int .i64 (k : Int) ∧ wr.ownsRow (g0 + 1) 94 2 v es.length (es.flatMap cellsP) ∧ (∀ e ∈ es, ManyAt wr (g0 + 1) n e) ∧ es.map f2 = onesK (natsOf zs) k ∧ Below (g0 + 1) w1 wr) (fun _ i _ => n - (intOf i).toNat)
  case atStart => exact ⟨0, [], Nat.zero_le _, rfl, World.ownsRow_nil _ _ _ _, by simp, rfl, Below.refl _ _⟩
  case round =>
    obtain ⟨k, es, hk, rfl, hown, hman, hones, hbr⟩ := hrel
    have Hown := Lib.hid hown
    have Hman := Lib.hid hman
    have Hones := Lib.hid hones
    have Hbr := Lib.hid hbr
    have hel : es.length ≤ 288 := by
      have h1 := congrArg List.length hones
      rw [List.length_map] at h1
      have h2 : (onesK (natsOf zs) k).length ≤ k := by
        unfold onesK
        rw [List.length_map]
        have := List.length_filter_le (fun i => decide (0 < (natsOf zs).getD i 0)) (List.range k)
        rw [List.length_range] at this
        exact this
      omega
    clear hown hman hones hbr
    by_cases hlt : k < n
    · have hkl : k < zs.length := by rw [Hn.out]; exact hlt
      obtain ⟨b, o, rfl, hcell⟩ := ((HA.out.below (Hg0.out.symm ▸ Hb1.out)).below (Hbr.out.mono (by rw [Hs1.out]; exact Nat.le_refl _))).get hkl
      have hz := F2.out zs[k] (List.getElem_mem hkl)
      have Hd := Lib.hid (natsOf_get zs k hkl)
      have Hnext := Lib.hid (onesK_next (natsOf zs) k)
      rw [Hd.out, Hnl.out] at Hnext
      generalize zs[k] = z at *
      obtain ⟨x, rfl⟩ := Int.eq_ofNat_of_zero_le hz.1
      rw [Int.toNat_natCast] at Hnext
      by_cases h0 : x = 0
      · subst h0
        rw [if_neg (by omega), List.append_nil] at Hnext
        go_wp2_with fail
        go_roundw
        case rel => exact ⟨k + 1, es, by omega, by go_num, Hown.out, Hman.out, by rw [Hnext.out]; exact Hones.out, Hbr.out⟩
        case measure => simp [intOf]; omega
      · have hx0 : (0 : Int) < (x : Int) := by omega
        rw [if_pos (by omega)] at Hnext
        go_upto_region 11 with fail
        have hm := own_made wr (g0 + 1) n (List.replicate n 0) (by have := Hbr.out.size; have := Hs1.out; omega) (by simp) (by omega)
        rw [← made_zero] at hm
        have Hm := Lib.hid (hm.alloc (.cells #[.int .i64 (x : Int), .slice (some ⟨wr.heap.size, 0, none⟩) n n] 94))
        have hp := Blk.new (wr.alloc (.cells (madeCells #[.int .i64 0] n) 3)) 94 #[.int .i64 (x : Int), .slice (some ⟨wr.heap.size, 0, none⟩) n n]
        rw [show (wr.alloc (.cells (madeCells #[.int .i64 0] n) 3)).heap.size = wr.heap.size + 1 by simp] at hp
        have Hp := Lib.hid hp
        have HbW := Lib.hid (((Below.refl wr.heap.size wr).alloc (Nat.le_refl _) (.cells (madeCells #[.int .i64 0] n) 3)).alloc (by simp) (.cells #[.int .i64 (x : Int), .slice (some ⟨wr.heap.size, 0, none⟩) n n] 94))
        clear hm hp
        generalize (wr.alloc (.cells (madeCells #[.int .i64 0] n) 3)).alloc (.cells #[.int .i64 (x : Int), .slice (some ⟨wr.heap.size, 0, none⟩) n n] 94) = W at *
        generalize hy0 : wr.heap.size = y0 at *
        have Hy0 := Lib.hid hy0
        clear hy0
        have c1 := Hp.out.c1
        have ck : W.cell? ⟨y0, k, none⟩ = some (.int .i64 0) := by rw [Hm.out.cellAt k (by omega)]; simp [hlt, nv]
        have fk := Hm.out.frozenAt k
        go_upto_region 12 with fail
        have Hm2 : Hid ((W.setCell ⟨y0, k, none⟩ (.int .i64 1)).ownsRow (g0 + 1) 3 1 (.slice (some ⟨y0, 0, none⟩) n n) n ((unit n k).map nv)) := Lib.hid (by
          have := (Hm.out.stored k (.int .i64 1)).1
          rw [← unit_set, List.map_set]; exact this)
        have Hp2 : Hid (Blk (W.setCell ⟨y0, k, none⟩ (.int .i64 1)) (y0 + 1) 94 #[.int .i64 (x : Int), .slice (some ⟨y0, 0, none⟩) n n]) := Lib.hid (Hp.out.far (by show y0 + 1 ≠ y0; omega) _)
        have HbW2 : Hid (Below wr.heap.size wr (W.setCell ⟨y0, k, none⟩ (.int .i64 1))) := Lib.hid (by rw [Hy0.out]; exact HbW.out.setCell (Nat.le_refl _) _)
        clear Hm Hp HbW c1 ck fk
        generalize W.setCell ⟨y0, k, none⟩ (.int .i64 1) = W2 at *
        have Hown2 := Lib.hid ((own_keep Hown.out HbW2.out).alloc (.cells #[.int .i64 (x : Int), .slice (some ⟨y0, 0, none⟩) n n] 94))
        have Hm3 := Lib.hid (Hm2.out.alloc (.cells #[.int .i64 (x : Int), .slice (some ⟨y0, 0, none⟩) n n] 94))
        have Hb3 : Hid (Below wr.heap.size wr (W2.alloc (.cells #[.int .i64 (x : Int), .slice (some ⟨y0, 0, none⟩) n n] 94))) := Lib.hid (HbW2.out.alloc HbW2.out.size _)
        have Hsl : Hid (SlAt (W2.alloc (.cells #[.int .i64 (x : Int), .slice (some ⟨y0, 0, none⟩) n n] 94)) (some ⟨W2.heap.size, 0, none⟩) [.int .i64 (x : Int), .slice (some ⟨y0, 0, none⟩) n n]) := Lib.hid (SlAt.of_heap (heap_alloc_new _ _) rfl)
        have Hbr3 := Lib.hid (Hbr.out.trans (Hb3.out.mono (by have := Hbr.out.size; have := Hs1.out; omega)))
        have hc0 := Hp2.out.c0
        have hc1 := Hp2.out.c1
        have Hbs : Hid (g0 + 1 ≤ (W2.alloc (.cells #[.int .i64 (x : Int), .slice (some ⟨y0, 0, none⟩) n n] 94)).heap.size) := Lib.hid (by have := Hbr3.out.size; have := Hs1.out; omega)
        go_wp2_with (at_builtin; refine wpList_app _ rfl (.tmp 47) (.tmp 49) _ rfl (g0 + 1) 94 _ 2 32 tyP u8 es.length (es.flatMap cellsP) rfl Hown2.out (some ⟨W2.heap.size, 0, none⟩) 1 1 [.int .i64 (x : Int), .slice (some ⟨y0, 0, none⟩) n n] rfl rfl Hsl.out (by simp [Value.oneCell']) (by simp) (by unfold maxLen; omega) (by omega) Hbs.out ?_; intro v4 w4 hown4 hg4 _; have Ho4 := Lib.hid hown4; have Hg4 := Lib.hid hg4; clear hown4 hg4)
        go_roundw
        case rel =>
          refine ⟨k + 1, es ++ [(x, (some ⟨y0, 0, none⟩, n, n), unit n k)], by omega, by go_num, ?_, ?_, ?_, ?_⟩
          · rw [List.length_append, List.flatMap_append]; exact Ho4.out
          · intro e he
            rcases List.mem_append.1 he with he | he
            · exact ((Hman.out e he).below Hb3.out).grownV Hown2.out Hg4.out
            · simp at he
              subst he
              exact ManyAt.grownV ⟨y0, n, rfl, Hm3.out⟩ Hown2.out Hg4.out
          · rw [List.map_append, Hones.out, Hnext.out]; rfl
          · exact own_below Hown2.out Hg4.out Hbr3.out Hbs.out
        case measure => simp [intOf]; omega
    · obtain rfl : k = n := by omega
      have hon := Hones.out
      rw [← Hnl.out, onesK_all] at hon
      have Hon := Lib.hid hon
      have Hon2 : Hid ((ones (natsOf zs)).length = es.length) := Lib.hid (by rw [← hon, List.length_map])
      have Hbw : Hid (Below g0 w wr) := Lib.hid (Hb1.out.trans (Hbr.out.mono (by omega)))
      have Hout2 : Hid (wr.ownsRow g0 3 1 (.slice (some ⟨g0, 0, none⟩) k k) k ((List.replicate k 0).map nv)) := Lib.hid (by
        have := Hout.out
        refine ⟨this.1, ?_⟩
        rcases this.2 with h1 | ⟨g', cap, cur, hv, hbg, hgb, r⟩
        · exact .inl h1
        · refine .inr ⟨g', cap, cur, hv, hbg, ?_, r⟩
          have : g' = g0 := by injection hv with hv; injection hv with hv; injection hv with hv; exact hv.symm
          subst this
          rw [Hbr.out.block g' (by omega)]; exact hgb)
      clear hon Hones
      obtain ⟨N1, hN⟩ : ∃ N1, es.length = N1 := ⟨_, rfl⟩
      have HN1 := Lib.hid hN
      rw [hN] at Hown Hon2 hel
      clear hN
      by_cases hN0 : N1 = 0
      · have Hf : Hid (lengthsP (natsOf zs) (L : Int).toNat = List.replicate k 0) := Lib.hid (by unfold lengthsP; rw [if_pos (by rw [Hon2.out]; exact hN0), Hnl.out])
        have e0 : ((N1 : Int) == 0) = true := by simp; omega
        obtain ⟨A1, c1, hv, _, _, _, _⟩ := own_slat Hown.out
        subst hv
        clear hN0
        go_wp2_with fail
        go_ret2
        refine ⟨.inr ⟨H0.out, _, rfl, ?_⟩, by rw [Hg0.out]; exact Hbw.out⟩
        rw [Hf.out, Hn.out, Hg0.out]; exact Hout2.out
      · have e0 : ((N1 : Int) == 0) = false := by simp; omega
        obtain ⟨g1, c1, hv, hg1, hg2⟩ := Hown.out.form (by omega)
        subst hv
        have Hg1 := Lib.hid hg1
        clear hg1 hg2
        by_cases hN1 : N1 = 1
        · obtain ⟨e, hee⟩ := List.length_eq_one_iff.1 (HN1.out.trans hN1)
          subst hee
          obtain ⟨g', cap, he1, he2⟩ := Hman.out e (by simp)
          have hcell : wr.cell? ⟨g1, 1, none⟩ = some (.slice (some ⟨g', 0, none⟩) k cap) := by
            rw [Hown.out.cellAt 1 (by omega)]
            show some (slv e.2.1) = _
            rw [he1]; rfl
          have Hf : Hid (lengthsP (natsOf zs) (L : Int).toNat = e.2.2) := Lib.hid (by
            unfold lengthsP
            rw [if_neg (by rw [Hon2.out]; exact hN0), if_pos (by rw [Hon2.out]; exact hN1), ← Hon.out]; rfl)
          have He2 := Lib.hid he2
          have e1 : ((N1 : Int) == 1) = true := by simp; omega
          have e2 : 0 < N1 := by omega
          clear he1 he2 hN0 hN1
          go_wp2_with fail
          go_ret2
          refine ⟨.inr ⟨H0.out, _, rfl, ?_⟩, by rw [Hg0.out]; exact Hbw.out⟩
          rw [Hf.out, Hn.out, Hg0.out]; exact own_base He2.out (by omega)
        · have e1 : ((N1 : Int) == 1) = false := by simp; omega
          have hbd1 : ∀ e ∈ es, e.1 ≤ 1152921504606846976 := fun e he => by
            have h1 : f2 e ∈ stab pkey (ones (natsOf zs)) := (stab_perm pkey _).mem_iff.2 (by rw [← Hon.out]; exact List.mem_map_of_mem he)
            have := (bd_row (ones_bd (natsOf zs) (fun x hx => by
              obtain ⟨z, hz, rfl⟩ := List.mem_map.1 hx
              have := F2.out z hz; omega) _ h1) (by omega)).1
            omega
          have Hr := rising_any (g0 + 1) g1 N1 c1 es wr Hown.out (by omega) hbd1
          have HR := Lib.hid Hr
          have hN2 : 2 ≤ N1 := by omega
          have hN288 : N1 ≤ 288 := by omega
          clear hN0 hN1 hbd1 Hr hel
          go_wp2_with fail
          refine (HR.out).mono ?_
          rintro e w2 ⟨rfl, hown2, hg2⟩
          have hsz1 : g0 + 1 ≤ wr.heap.size := by have := Hbr.out.size; have := Hs1.out; omega
          have Hown2 := Lib.hid hown2
          have Hb2 := Lib.hid (own_below Hown.out hg2 Hbr.out hsz1)
          have Hman2 : Hid (∀ e ∈ stab ekey es, ManyAt w2 (g0 + 1) k e) := Lib.hid (fun e he => (Hman.out e ((stab_perm ekey es).mem_iff.1 he)).grownV Hown.out hg2)
          have Hone : Hid ((stab ekey es).map f2 = stab pkey (ones (natsOf zs))) := Lib.hid (by rw [f2_stab, Hon.out])
          have Hln : Hid ((stab ekey es).length = N1) := Lib.hid (by rw [stab_length]; exact HN1.out)
          have Hol : Hid ((stab pkey (ones (natsOf zs))).length = N1) := Lib.hid (by rw [stab_length]; exact Hon2.out)
          have Hobd : Hid (∀ p ∈ stab pkey (ones (natsOf zs)), BdP 0 p) := Lib.hid (ones_bd (natsOf zs) (fun x hx => by
            obtain ⟨z, hz, rfl⟩ := List.mem_map.1 hx
            have := F2.out z hz; omega))
          have HLP : Hid (lengthsP (natsOf zs) (L : Int).toNat = addAll k ((rowsP (stab pkey (ones (natsOf zs))) (L - 1)).take (2 * N1 - 2))) := Lib.hid (by
            unfold lengthsP
            rw [if_neg (by rw [Hon2.out]; omega), if_neg (by rw [Hon2.out]; omega), Hon2.out, Hnl.out, Int.toNat_natCast])
          have Hus : Hid (N1 ≤ 2 ^ L) := Lib.hid (by
            have h1 := F5.out
            rw [Int.toNat_natCast] at h1
            have h2 := used_ones zs
            rw [Hon2.out] at h2
            omega)
          have Hk1 : Hid (N1 ≤ k) := Lib.hid (by have := ones_le (natsOf zs); rw [Hon2.out, Hnl.out] at this; exact this)
          clear hown2 hg2 HR Hown Hbr Hman Hout2 Hbw hsz1 HC
          generalize stab ekey es = e1s at *
          generalize stab pkey (ones (natsOf zs)) = one1 at *
          have hcb : N1 * 32 ≤ 140737488355328 := by omega
          go_wp2_with fail
          refine (CloneP.clone_any (some ⟨g1, 0, none⟩) N1 c1 (e1s.flatMap cellsP) w2 (by rw [cellsP_len, Hln.out]) (by obtain ⟨A9, c9, h9, _, _, h10, _⟩ := own_slat Hown2.out; injection h9 with h9; rw [h9]; exact h10) (by simp) (cellsP_one e1s) (by unfold maxLen; omega) hcb).mono ?_
          rintro e w3 ⟨v3, rfl, hown3, hb3⟩
          have Hown3 : Hid (w3.ownsRow (g0 + 1) 94 2 v3 e1s.length (e1s.flatMap cellsP)) := Lib.hid (by rw [Hln.out]; exact own_base hown3 (by have := Hb2.out.size; have := Hs1.out; omega))
          have Hb3 := Lib.hid hb3
          clear hown3 hb3
          obtain ⟨L1, hL⟩ : ∃ L1, L = L1 + 1 := ⟨L - 1, by omega⟩
          have eL : (L : Int) - 1 = (L1 : Int) := by omega
          have HL := Lib.hid hL
          have hL14 : L1 ≤ 14 := by omega
          clear hL
          go_wp2_with fail
          clear eL
          go_loopw [13, 70] (fun rv i wr => ∃ (t : Nat) (et : List El), t ≤ L1 ∧ i = .int .i64 (t : Int) ∧ wr.ownsRow (g0 + 1) 94 2 rv et.length (et.flatMap cellsP) ∧ (∀ e ∈ et, ManyAt wr (g0 + 1) k e) ∧ et.map f2 = rowsP one1 t ∧ Below w2.heap.size w2 wr) (fun _ i _ => L1 - (intOf i).toNat)
          case atStart => exact ⟨0, e1s, Nat.zero_le _, rfl, Hown3.out, fun e he => (Hman2.out e he).below Hb3.out, Hone.out, Hb3.out⟩
          case round =>
            obtain ⟨t, et, ht, rfl, hown, hman, hrow, hbr⟩ := hrel
            have Hman := Lib.hid hman
            have Hrow := Lib.hid hrow
            have Hbr := Lib.hid hbr
            obtain ⟨Nt, hNt⟩ : ∃ Nt, et.length = Nt := ⟨_, rfl⟩
            have HNt := Lib.hid hNt
            have hNt2 : Nt ≤ 576 := by
              have h1 := (rows_big one1 t).1
              rw [← hrow, List.length_map, hNt, Hol.out] at h1
              omega
            have hNt1 : N1 ≤ Nt := by
              have h1 := rows_ge one1 t
              rw [← hrow, List.length_map, hNt, Hol.out] at h1
              exact h1
            rw [hNt] at hown
            obtain ⟨gr, cr, hv, hgr1, hgr2⟩ := hown.form (by omega)
            subst hv
            have Hown := Lib.hid hown
            clear hown hman hrow hbr hNt
            by_cases hlt : t < L1
            · generalize hB : wr.heap.size = B at *
              have HB := Lib.hid hB
              clear hB
              go_wp2_with fail
              go_loopw [14, 15] (fun pv kv wx => ∃ (j : Nat) (ps : List El), kv = .int .i64 ((2 * j : Nat) : Int) ∧ 2 * j ≤ Nt ∧ wx.ownsRow B 94 2 pv ps.length (ps.flatMap cellsP) ∧ (∀ e ∈ ps, ManyAt wx (g0 + 1) k e) ∧ ps.map f2 = pairs ((rowsP one1 t).take (2 * j)) ∧ Below B wr wx) (fun _ kv _ => Nt - (intOf kv).toNat)
              case atStart => exact ⟨0, [], rfl, Nat.zero_le _, World.ownsRow_nil _ _ _ _, by simp, rfl, Below.refl _ _⟩
              case round =>
                obtain ⟨j, ps, rfl, hj, hown, hman, hps, hbr⟩ := hrel
                have Hpown := Lib.hid hown
                have Hpman := Lib.hid hman
                have Hps := Lib.hid hps
                have Hbx := Lib.hid hbr
                have hpl : ps.length ≤ 576 := by
                  have h1 := congrArg List.length hps
                  rw [List.length_map, pairs_len, List.length_take] at h1
                  omega
                clear hown hman hps hbr
                obtain ⟨kk, hkk⟩ : ∃ kk, kk = 2 * j := ⟨_, rfl⟩
                have e2 : (kk : Int) + 1 = ((kk + 1 : Nat) : Int) := by omega
                obtain ⟨kq, hkq⟩ : ∃ kq, kq = kk + 1 := ⟨_, rfl⟩
                rw [← hkq] at e2
                rw [← hkk] at hj ⊢
                have Hkk := Lib.hid (And.intro hkk hkq)
                clear hkk
                by_cases hlt2 : kq < Nt
                · have hkl : kk < et.length := by rw [HNt.out]; omega
                  have hql : kq < et.length := by rw [HNt.out]; omega
                  have hrow2 := own_keep Hown.out (HB.out.symm ▸ Hbx.out)
                  have Hma := Lib.hid ((Hman.out _ (List.getElem_mem hkl)).below (HB.out.symm ▸ Hbx.out))
                  have Hmb := Lib.hid ((Hman.out _ (List.getElem_mem hql)).below (HB.out.symm ▸ Hbx.out))
                  obtain ⟨ga, ca, hva, hSa⟩ := Hma.out.val
                  obtain ⟨gb, cb, hvb, hSb⟩ := Hmb.out.val
                  have ck0 : wr.cell? ⟨gr, kk * 2, none⟩ = some (.int .i64 (et[kk].1 : Int)) := by rw [hrow2.cellAt (kk * 2) (by omega), cellsP_0 et kk hkl]; rfl
                  have ck1 : wr.cell? ⟨gr, kk * 2 + 1, none⟩ = some (.slice (some ⟨ga, 0, none⟩) k ca) := by rw [hrow2.cellAt (kk * 2 + 1) (by omega), cellsP_1 et kk hkl, hva]
                  have cq0 : wr.cell? ⟨gr, kq * 2, none⟩ = some (.int .i64 (et[kq].1 : Int)) := by rw [hrow2.cellAt (kq * 2) (by omega), cellsP_0 et kq hql]; rfl
                  have cq1 : wr.cell? ⟨gr, kq * 2 + 1, none⟩ = some (.slice (some ⟨gb, 0, none⟩) k cb) := by rw [hrow2.cellAt (kq * 2 + 1) (by omega), cellsP_1 et kq hql, hvb]
                  have hba := bd_row (rows_bd one1 Hobd.out t _ (by rw [← Hrow.out]; exact List.mem_map_of_mem (List.getElem_mem hkl))) (by omega)
                  have hbb := bd_row (rows_bd one1 Hobd.out t _ (by rw [← Hrow.out]; exact List.mem_map_of_mem (List.getElem_mem hql))) (by omega)
                  have hla := Hma.out.len
                  have hlb := Hmb.out.len
                  have Hsnoc : Hid (pairs ((rowsP one1 t).take (2 * (j + 1))) = pairs ((rowsP one1 t).take (2 * j)) ++ [both (f2 et[kk]) (f2 et[kq])]) := Lib.hid (by
                    have h1 := Hkk.out
                    have e : (rowsP one1 t).take (2 * (j + 1)) = (rowsP one1 t).take (2 * j) ++ [f2 et[kk], f2 et[kq]] := by
                      rw [← Hrow.out, show 2 * (j + 1) = kk + 1 + 1 by omega, ← List.map_take, ← List.map_take, List.take_succ_eq_append_getElem (by omega : kk + 1 < et.length), List.take_succ_eq_append_getElem hkl, ← h1.1]
                      have h3 : et[kk + 1] = et[kq] := by simp only [h1.2]
                      rw [h3]; simp only [List.map_append, List.map_cons, List.map_nil, List.append_assoc, List.cons_append, List.nil_append]
                    rw [e]
                    exact pairs_two _ _ _ j (by rw [← Hrow.out, List.length_take, List.length_map, HNt.out]; omega))
                  obtain ⟨x, hx⟩ : ∃ x, et[kk] = x := ⟨_, rfl⟩
                  obtain ⟨y, hy⟩ : ∃ y, et[kq] = y := ⟨_, rfl⟩
                  rw [hx] at hSa ck0 hba hla Hsnoc
                  rw [hy] at hSb cq0 hbb hlb Hsnoc
                  have HSa := Lib.hid hSa
                  have HSb := Lib.hid hSb
                  have Hla := Lib.hid hla
                  have Hlb := Lib.hid hlb
                  have Hba := Lib.hid hba
                  have Hbb := Lib.hid hbb
                  have hkkN : kk < Nt := by omega
                  obtain ⟨sm, hsm⟩ : ∃ sm, x.1 + y.1 = sm := ⟨_, rfl⟩
                  have Hsm := Lib.hid hsm
                  clear hsm
                  have hw : IntKind.i64.wrap (kq : Int) = (kq : Int) := IntWalk.i64_in _ (by omega)
                  have hn1 : Hid (1 ≤ k) := Lib.hid (by have := Hk1.out; omega)
                  have Hgd := Lib.hid (Hbx.out.drew)
                  clear hSa hSb hla hlb hba hbb hx hy hva hvb hrow2 Hma Hmb hkl hql hkq
                  go_wp2_with fail
                  go_region_law ((first
                    | (refine step_app rfl (.tmp 79) (.tmp 90) _ rfl B 94 _ 2 32 tyP u14 ps.length (ps.flatMap cellsP) (by simp [Act.eval]) Hp7.out (some ⟨w5.heap.size, 0, none⟩) 1 1 [.int .i64 (sm : Int), .slice (some ⟨gm, 0, none⟩) k cm] (by simp [Act.eval]) rfl Hs7.out (by simp [Value.oneCell']) (by simp) (by unfold maxLen; omega) (by omega) Hbs7.out ?_
                       intro v8 w8 hown8 hg8
                       have Ho8 := Lib.hid hown8
                       have Hg8 := Lib.hid hg8
                       clear hown8 hg8)
                    | (go_simp
                       go_at_call 63
                       refine (both_any x.1 y.1 k ca cb _ _ x.2.2 y.2.2 _ Hla.out Hlb.out hn1.out hn288 (by have := Hba.out.1; omega) (by have := Hbb.out.1; omega) (by exact HSa.out) (by exact HSb.out) (fun z hz => by have := Hba.out.2 z hz; omega) (fun z hz => by have := Hbb.out.2 z hz; omega)).mono ?_
                       rintro e w5 ⟨⟨gm, cm, rfl, hm5⟩, hb5⟩
                       rw [Hsm.out]
                       have Hm7 := Lib.hid (hm5.alloc (.cells #[.int .i64 (sm : Int), .slice (some ⟨gm, 0, none⟩) k cm] 94))
                       have Hp7 := Lib.hid ((own_keep (own_drew Hpown.out) hb5).alloc (.cells #[.int .i64 (sm : Int), .slice (some ⟨gm, 0, none⟩) k cm] 94))
                       have Hbw7 := Lib.hid (hb5.alloc hb5.size (.cells #[.int .i64 (sm : Int), .slice (some ⟨gm, 0, none⟩) k cm] 94))
                       have Hb7 := Lib.hid ((Hbx.out.drew).trans (Hbw7.out.mono (by have := Hbx.out.size; have := HB.out; show B ≤ wr.heap.size; omega)))
                       have Hbs7 : Hid (B ≤ (w5.alloc (.cells #[.int .i64 (sm : Int), .slice (some ⟨gm, 0, none⟩) k cm] 94)).heap.size) := Lib.hid (by have := Hb7.out.size; have := HB.out; omega)
                       have Hs7 : Hid (SlAt (w5.alloc (.cells #[.int .i64 (sm : Int), .slice (some ⟨gm, 0, none⟩) k cm] 94)) (some ⟨w5.heap.size, 0, none⟩) [.int .i64 (sm : Int), .slice (some ⟨gm, 0, none⟩) k cm]) := Lib.hid (SlAt.of_heap (heap_alloc_new _ _) rfl)
                       have Hman7 : Hid (∀ e ∈ ps, ManyAt (w5.alloc (.cells #[.int .i64 (sm : Int), .slice (some ⟨gm, 0, none⟩) k cm] 94)) (g0 + 1) k e) := Lib.hid (fun e he => ManyAt.below (w := wr.drew) (by exact Hpman.out e he) Hbw7.out)
                       clear hm5 hb5)))
                  all_goals (
                    have Hb8 := Lib.hid (own_below Hp7.out Hg8.out Hb7.out Hbs7.out)
                    have Hman8 : Hid (∀ e ∈ ps ++ [(sm, (some ⟨gm, 0, none⟩, k, cm), List.zipWith (· + ·) x.2.2 y.2.2)], ManyAt w8 (g0 + 1) k e) := Lib.hid (fun e he => by
                      rcases List.mem_append.1 he with he | he
                      · exact (Hman7.out e he).grownV Hp7.out Hg8.out
                      · simp at he
                        subst he
                        have hle : g0 + 1 ≤ wr.drew.heap.size := by
                          show g0 + 1 ≤ wr.heap.size
                          have h1 := Hb2.out.size; have h2 := Hs1.out; have h3 := Hbr.out.size; have h4 := Hbx.out.size; have h5 := HB.out; omega
                        have hmm : ManyAt (w5.alloc (.cells #[.int .i64 (sm : Int), .slice (some ⟨gm, 0, none⟩) k cm] 94)) (g0 + 1) k (sm, (some ⟨gm, 0, none⟩, k, cm), List.zipWith (· + ·) x.2.2 y.2.2) := ⟨gm, cm, rfl, own_base Hm7.out hle⟩
                        exact hmm.grownV Hp7.out Hg8.out)
                    have Hps8 : Hid ((ps ++ ([(sm, (some ⟨gm, 0, none⟩, k, cm), List.zipWith (· + ·) x.2.2 y.2.2)] : List El)).map f2 = pairs ((rowsP one1 t).take (2 * (j + 1)))) := Lib.hid (by rw [Hsnoc.out, List.map_append, Hps.out, ← Hsm.out]; rfl)
                    clear Hm7 Hp7 Hb7 Hbs7 Hs7 Hman7 Hbw7 Hg8 ck0 ck1 cq0 cq1
                    go_wp2_with fail
                    go_roundw
                    case rel => exact ⟨j + 1, _, int_eq (by have := Hkk.out; omega), by have := Hkk.out; omega, by rw [List.length_append, List.flatMap_append]; exact Ho8.out, Hman8.out, Hps8.out, Hb8.out⟩
                    case measure => simp [intOf]; omega)
                · have Hpf : Hid (ps.map f2 = pairs (rowsP one1 t)) := Lib.hid (by
                    have h1 := Hkk.out
                    have h2 : (rowsP one1 t).length = Nt := by rw [← Hrow.out, List.length_map, HNt.out]
                    rw [Hps.out]
                    exact pairs_cut _ j (by omega) (by omega))
                  obtain ⟨PA, pc, hv, _, _, _, _⟩ := own_slat Hpown.out
                  subst hv
                  obtain ⟨pl, hpl2⟩ : ∃ pl, ps.length = pl := ⟨_, rfl⟩
                  have Hpl := Lib.hid hpl2
                  rw [hpl2] at Hpown ⊢
                  have hplb : pl ≤ 576 := by omega
                  clear hpl hpl2 Hkk Hps hkq
                  have H1o := Lib.hid (own_keep (own_keep Hown2.out Hbr.out) (HB.out.symm ▸ Hbx.out))
                  have HIs1 : Hid (IsSl (wr.alloc (.cells #[.slice (some ⟨g1, 0, none⟩) N1 c1, .slice PA pl pc] 92)) 2 (.slice (some ⟨g1, 0, none⟩) N1 c1) N1 (e1s.flatMap cellsP)) := Lib.hid (own_issl (H1o.out.alloc _))
                  have HIs2 : Hid (IsSl (wr.alloc (.cells #[.slice (some ⟨g1, 0, none⟩) N1 c1, .slice PA pl pc] 92)) 2 (.slice PA pl pc) pl (ps.flatMap cellsP)) := Lib.hid (own_issl (Hpown.out.alloc _))
                  have HSr : Hid (SlAt (wr.alloc (.cells #[.slice (some ⟨g1, 0, none⟩) N1 c1, .slice PA pl pc] 92)) (some ⟨wr.heap.size, 0, none⟩) [.slice (some ⟨g1, 0, none⟩) N1 c1, .slice PA pl pc]) := Lib.hid (SlAt.of_heap (heap_alloc_new _ _) rfl)
                  have Hbw : Hid (Below wr.heap.size wr (wr.alloc (.cells #[.slice (some ⟨g1, 0, none⟩) N1 c1, .slice PA pl pc] 92))) := Lib.hid ((Below.refl _ _).alloc (Nat.le_refl _) _)
                  go_wp2_with fail
                  refine (ConcatP.concat_any (some ⟨wr.heap.size, 0, none⟩) 2 2 [(.slice (some ⟨g1, 0, none⟩) N1 c1, N1, e1s.flatMap cellsP), (.slice PA pl pc, pl, ps.flatMap cellsP)] _ rfl (by omega) HSr.out (fun r hr => by
                    simp at hr
                    rcases hr with rfl | rfl
                    · exact HIs1.out
                    · exact HIs2.out) (fun r hr => by
                    simp at hr
                    rcases hr with rfl | rfl
                    · exact cellsP_one e1s
                    · exact cellsP_one ps) (by simp [ConcatP.total]; omega)).mono ?_
                  rintro e w6 ⟨v6, rfl, hown6, hb6⟩
                  have hcc : ConcatP.cellsOf [(Value.slice (some ⟨g1, 0, none⟩) N1 c1, N1, e1s.flatMap cellsP), (Value.slice PA pl pc, pl, ps.flatMap cellsP)] = (e1s ++ ps).flatMap cellsP := by simp [ConcatP.cellsOf]
                  have htt : ConcatP.total [(Value.slice (some ⟨g1, 0, none⟩) N1 c1, N1, e1s.flatMap cellsP), (Value.slice PA pl pc, pl, ps.flatMap cellsP)] = N1 + pl := by simp [ConcatP.total]
                  rw [hcc, htt] at hown6
                  obtain ⟨NN, hNN⟩ : ∃ NN, N1 + pl = NN := ⟨_, rfl⟩
                  rw [hNN] at hown6
                  obtain ⟨g6, c6, hv6, hg6, hg62⟩ := hown6.form (by omega)
                  subst hv6
                  have Hsz6 : Hid (g0 + 1 ≤ wr.heap.size ∧ w2.heap.size ≤ wr.heap.size) := Lib.hid (by
                    have h1 := Hb2.out.size; have h2 := Hs1.out; have h3 := Hbr.out.size; have h4 := Hbx.out.size; have h5 := HB.out; omega)
                  have Hown6 := Lib.hid (own_base hown6 (by have h1 := Hbw.out.size; have := Hsz6.out.2; omega : w2.heap.size ≤ _))
                  have Hb06 := Lib.hid (Hbr.out.trans ((Hbx.out.mono (by have h3 := Hbr.out.size; have h5 := HB.out; omega)).trans ((Hbw.out.mono Hsz6.out.2).trans (hb6.mono (by have h1 := Hbw.out.size; have := Hsz6.out.2; omega)))))
                  have Hm1 : Hid (∀ e ∈ e1s ++ ps, ManyAt w6 (g0 + 1) k e) := Lib.hid (fun e he => by
                    rcases List.mem_append.1 he with he | he
                    · exact ((Hman2.out e he).below Hb06.out)
                    · exact (((Hpman.out e he).below Hbw.out).below hb6))
                  have Hmap : Hid ((stab ekey (e1s ++ ps)).map f2 = rowsP one1 (t + 1)) := Lib.hid (by rw [f2_stab, List.map_append, Hone.out, Hpf.out]; rfl)
                  have Hr6 := Lib.hid (rising_any w2.heap.size g6 NN c6 (e1s ++ ps) w6 Hown6.out (by omega) (fun e he => by
                    have h1 : f2 e ∈ rowsP one1 (t + 1) := by rw [← Hmap.out]; exact List.mem_map_of_mem ((stab_perm ekey _).mem_iff.2 he)
                    have := (bd_row (rows_bd one1 Hobd.out (t + 1) _ h1) (by omega)).1
                    omega))
                  have Hlen6 : Hid ((stab ekey (e1s ++ ps)).length = NN) := Lib.hid (by rw [stab_length, List.length_append, Hln.out, Hpl.out]; exact hNN)
                  clear hown6 hb6 hcc htt hg6 hg62 HIs1 HIs2 HSr H1o Hpown Hpman
                  go_wp2_with fail
                  refine (Hr6.out).mono ?_
                  rintro e w7 ⟨rfl, hown7, hg7⟩
                  have Hown7 := Lib.hid (own_base hown7 (by have h1 := Hb2.out.size; have h2 := Hs1.out; omega : g0 + 1 ≤ w2.heap.size))
                  have Hb07 := Lib.hid (own_below Hown6.out hg7 Hb06.out Hb06.out.size)
                  have Hm7 : Hid (∀ e ∈ stab ekey (e1s ++ ps), ManyAt w7 (g0 + 1) k e) := Lib.hid (fun e he => (Hm1.out e ((stab_perm ekey _).mem_iff.1 he)).grownV Hown6.out hg7)
                  clear hown7 hg7 Hr6
                  go_wp2_with fail
                  go_roundw
                  case rel => exact ⟨t + 1, stab ekey (e1s ++ ps), by omega, by go_num, by rw [Hlen6.out]; exact Hown7.out, Hm7.out, Hmap.out, Hb07.out⟩
                  case measure => simp [intOf]; omega
            · obtain rfl : t = L1 := by omega
              obtain ⟨M, hM⟩ : ∃ M, M = 2 * N1 - 2 := ⟨_, rfl⟩
              have hMN : M ≤ Nt := by
                have h1 := rows_enough one1 L hL1 (by rw [Hol.out]; exact Hus.out)
                rw [show L - 1 = t by have := HL.out; omega, ← Hrow.out, List.length_map, HNt.out, Hol.out] at h1
                omega
              obtain ⟨A9, c9, hv9, hcap, _, _, _⟩ := own_slat Hown.out
              injection hv9 with hv1 hv2 hv3
              subst hv3
              clear hv1 hv2
              have eM : 2 * (N1 : Int) - 2 = (M : Int) := by omega
              have hMc : M ≤ cr := by omega
              have Hout3 : Hid (wr.ownsRow g0 3 1 (.slice (some ⟨g0, 0, none⟩) k k) k ((addAll k (([] : List El).map f2)).map nv)) := Lib.hid (by
                have h1 := own_low Hout.out (Hb2.out.trans (Hbr.out.mono (by have h1 := Hb2.out.size; have h2 := Hs1.out; omega))) (by omega : g0 < g0 + 1)
                simpa [addAll] using h1)
              have Hbw : Hid (Below g0 w wr) := Lib.hid (Hb1.out.trans ((Hb2.out.mono (by omega)).trans (Hbr.out.mono (by have h1 := Hb2.out.size; have h2 := Hs1.out; omega))))
              have HLP2 : Hid (lengthsP (natsOf zs) (L : Int).toNat = addAll k ((et.map f2).take M)) := Lib.hid (by rw [HLP.out, hM, Hrow.out, show L - 1 = t by have := HL.out; omega])
              have Hlen : Hid (∀ e ∈ et, e.2.2.length = k) := Lib.hid (fun e he => (Hman.out e he).len)
              have Hbd : Hid (∀ e ∈ et, ∀ x ∈ e.2.2, x ≤ 40000) := Lib.hid (fun e he => (bd_row (rows_bd one1 Hobd.out t _ (by rw [← Hrow.out]; exact List.mem_map_of_mem he)) (by omega)).2)
              clear hM Hout Hb2 Hman2 Hone Hln Hol Hobd HLP Hus Hown2 Hbr Hrow
              go_wp2_with fail
              clear eM
              go_loopw [106] (fun i wr => ∃ j : Nat, j ≤ M ∧ i = .int .i64 (j : Int) ∧ wr.ownsRow g0 3 1 (.slice (some ⟨g0, 0, none⟩) k k) k ((addAll k ((et.map f2).take j)).map nv) ∧ wr.ownsRow (g0 + 1) 94 2 (.slice (some ⟨gr, 0, none⟩) Nt cr) Nt (et.flatMap cellsP) ∧ (∀ e ∈ et, ManyAt wr (g0 + 1) k e) ∧ Below g0 w wr) (fun i _ => M - (intOf i).toNat)
              case atStart => exact ⟨0, Nat.zero_le _, rfl, by simpa using Hout3.out, Hown.out, Hman.out, Hbw.out⟩
              case round =>
                obtain ⟨j, hj, rfl, hout, hown, hman, hbw⟩ := hrel
                have Hout := Lib.hid hout
                have Howr := Lib.hid hown
                have Hmanr := Lib.hid hman
                have Hbwr := Lib.hid hbw
                clear hout hman hbw
                by_cases hlt : j < M
                · have hjl : j < et.length := by rw [HNt.out]; omega
                  obtain ⟨ga, ca, hva, _⟩ := (Hmanr.out _ (List.getElem_mem hjl)).val
                  have c0 : wr.cell? ⟨gr, j * 2, none⟩ = some (.int .i64 (et[j].1 : Int)) := by rw [hown.cellAt (j * 2) (by omega), cellsP_0 et j hjl]; rfl
                  have c1 : wr.cell? ⟨gr, j * 2 + 1, none⟩ = some (.slice (some ⟨ga, 0, none⟩) k ca) := by rw [hown.cellAt (j * 2 + 1) (by omega), cellsP_1 et j hjl, hva]
                  have Hsn : Hid ((et.map f2).take (j + 1) = (et.map f2).take j ++ [f2 et[j]]) := Lib.hid (by rw [List.take_succ_eq_append_getElem (by rw [List.length_map]; exact hjl), List.getElem_map])
                  have Hme := Lib.hid (List.getElem_mem hjl)
                  obtain ⟨x, hx⟩ : ∃ x, et[j] = x := ⟨_, rfl⟩
                  rw [hx] at hva c0 Hsn Hme
                  have Hxl := Lib.hid (Hlen.out x Hme.out)
                  have Hxb := Lib.hid (Hbd.out x Hme.out)
                  have Hcl : Hid ((addAll k ((et.map f2).take j)).length = k) := Lib.hid (addAll_len k _ (fun p hp => by
                    obtain ⟨e, he, rfl⟩ := List.mem_map.1 (List.mem_of_mem_take hp)
                    exact Hlen.out e he))
                  have Hcb : Hid (∀ z ∈ addAll k ((et.map f2).take j), z ≤ 100000000) := Lib.hid (fun z hz => by
                    have := addAll_bd k 40000 _ (fun p hp => by
                      obtain ⟨e, he, rfl⟩ := List.mem_map.1 (List.mem_of_mem_take hp)
                      exact Hbd.out e he) z hz
                    rw [List.length_take] at this
                    have h2 : min j (et.map f2).length ≤ j := Nat.min_le_left _ _
                    have h3 : 40000 * min j (et.map f2).length ≤ 40000 * 576 := Nat.mul_le_mul_left _ (by omega)
                    omega)
                  have Hva := Lib.hid hva
                  have hjc : j < cr := by omega
                  clear hown hva hx
                  generalize hcur : addAll k ((et.map f2).take j) = cur at *
                  have Hcur := Lib.hid hcur
                  clear hcur
                  go_wp2_with fail
                  have Hout4 := Lib.hid (Hout.out.alloc (.cells #[.int .i64 (x.1 : Int), .slice (some ⟨ga, 0, none⟩) k ca] 94))
                  have Howr4 := Lib.hid (Howr.out.alloc (.cells #[.int .i64 (x.1 : Int), .slice (some ⟨ga, 0, none⟩) k ca] 94))
                  have Hman4 : Hid (∀ e ∈ et, ManyAt (wr.alloc (.cells #[.int .i64 (x.1 : Int), .slice (some ⟨ga, 0, none⟩) k ca] 94)) (g0 + 1) k e) := Lib.hid (fun e he => (Hmanr.out e he).below ((Below.refl _ _).alloc (Nat.le_refl _) _))
                  have Hbw4 := Lib.hid (Hbwr.out.alloc (by rw [← Hg0.out]; exact Hbwr.out.size) (.cells #[.int .i64 (x.1 : Int), .slice (some ⟨ga, 0, none⟩) k ca] 94))
                  clear Hout Howr Hmanr Hbwr c0 c1
                  generalize wr.alloc (.cells #[.int .i64 (x.1 : Int), .slice (some ⟨ga, 0, none⟩) k ca] 94) = wq at *
                  go_loopw [113] (fun i wx => ∃ q : Nat, q ≤ k ∧ i = .int .i64 (q : Int) ∧ wx.ownsRow g0 3 1 (.slice (some ⟨g0, 0, none⟩) k k) k ((addTo cur x.2.2 q).map nv) ∧ wx.ownsRow (g0 + 1) 94 2 (.slice (some ⟨gr, 0, none⟩) Nt cr) Nt (et.flatMap cellsP) ∧ (∀ e ∈ et, ManyAt wx (g0 + 1) k e) ∧ Below g0 w wx) (fun i _ => k - (intOf i).toNat)
                  case atStart => exact ⟨0, Nat.zero_le _, rfl, by rw [addTo_zero]; exact Hout4.out, Howr4.out, Hman4.out, Hbw4.out⟩
                  case round =>
                    obtain ⟨q, hq, rfl, hout, hown, hman, hbw⟩ := hrel
                    have Howr5 := Lib.hid hown
                    have Hman5 := Lib.hid hman
                    have Hbw5 := Lib.hid hbw
                    clear hown hman hbw
                    by_cases hlt3 : q < k
                    · have q1 : q < cur.length := by rw [Hcl.out]; exact hlt3
                      have q2 : q < x.2.2.length := by rw [Hxl.out]; exact hlt3
                      obtain ⟨ga', ca', hva', hS⟩ := (Hman5.out x Hme.out).val
                      rw [Hva.out] at hva'
                      injection hva' with v1 v2 v3
                      injection v1 with v1
                      injection v1 with v1
                      subst v1
                      obtain ⟨b9, o9, hb9, hc9⟩ := SlAt.get hS (k := q) (by rw [List.length_map]; exact q2)
                      injection hb9 with hb9
                      injection hb9 with hb91 hb92
                      subst hb91 hb92
                      have hcx : wr.cell? ⟨ga, q, none⟩ = some (.int .i64 (x.2.2[q] : Int)) := by
                        have := hc9
                        simpa [nv] using this
                      have hget := addTo_get cur x.2.2 q q1 q2
                      have Hnext := Lib.hid (addTo_next cur x.2.2 q q1 q2)
                      have hco : wr.cell? ⟨g0, q, none⟩ = some (.int .i64 (cur[q] : Int)) := by rw [hout.cellAt q (by omega), List.getElem?_map, hget]; rfl
                      have hfz := hout.frozenAt q
                      have Hst := Lib.hid (fun u => (hout.stored q u).1)
                      have hb1 := Hcb.out _ (List.getElem_mem q1)
                      have hb2 := Hxb.out _ (List.getElem_mem q2)
                      generalize cur[q] = a1 at *
                      generalize x.2.2[q] = a2 at *
                      clear hout hget hc9 hS v2 v3
                      go_wp2_with fail
                      go_roundw
                      case rel =>
                        refine ⟨q + 1, by omega, by go_num, ?_, ownsRow_setCell_other Howr5.out (by simp [Value.ownBlock]; omega) _, fun e he => (Hman5.out e he).set_ _ (by show g0 < g0 + 1; omega) _, Hbw5.out.setCell (Nat.le_refl _) _⟩
                        have := Hst.out (.int .i64 ((a1 : Int) + (a2 : Int)))
                        rw [Hnext.out, List.map_set]
                        exact this
                      case measure => simp [intOf]; omega
                    · obtain rfl : q = k := by omega
                      have hall := addTo_all cur x.2.2 (by rw [Hcl.out, Hxl.out])
                      rw [Hcl.out] at hall
                      rw [hall] at hout
                      have Hout5 := Lib.hid hout
                      clear hout hall
                      go_wp2_with fail
                      go_roundw
                      case rel => exact ⟨j + 1, by omega, by go_num, by rw [Hsn.out, addAll_snoc, Hcur.out]; exact Hout5.out, Howr5.out, Hman5.out, Hbw5.out⟩
                      case measure => simp [intOf]; omega
                · obtain rfl : j = M := by omega
                  go_wp2_with fail
                  go_ret2
                  refine ⟨.inr ⟨H0.out, _, rfl, ?_⟩, by rw [Hg0.out]; exact Hbwr.out⟩
                  rw [HLP2.out, Hn.out, Hg0.out]; exact Hout.out
theorem lengths_any (A : Option Addr) (n c : Nat) (zs : List Int) (most : Int) (w : World) (hn : zs.length = n) (hx : n ≤ maxLen) (hA : InAt w A zs) :
    Calls Try.prog 33 #[.slice A n c, .int .i64 most] w (LenPost zs most w) := by
  by_cases h0 : chkW zs most = 0
  · obtain ⟨L, rfl⟩ := Int.eq_ofNat_of_zero_le (by have := chkW_fine zs most h0; omega : 0 ≤ most)
    exact lengths_go A n c L zs w hn hx hA h0
  · have HC := Lib.hid (checkW_any A n c zs most w hn hx hA)
    clear hn hx hA
    generalize hz : chkW zs most = z at *
    have Hz := Lib.hid hz
    have h1 : (z == 0) = false := by simpa using h0
    clear hz
    go_enter Try.func33, Try.ntmps33
    go_wp2_with fail
    refine (HC.out).mono ?_
    rintro e wx ⟨rfl, rfl⟩
    go_wp2_with fail
    go_ret2
    exact ⟨.inl ⟨by rw [Hz.out]; exact h0, by rw [Hz.out]; rfl⟩, Below.refl _ _⟩
end Go.Proofs.Ytdponlnfdjfljaa.Weigh
