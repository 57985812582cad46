/- reliquaryref.Least: the walk. -/
import Derived.Test.YtdponlnfdjfljaaSortInts
namespace Go.Proofs.Ytdponlnfdjfljaa.Weigh
open Go Go.RowKit Go.Proofs.Ytdponlnfdjfljaa Go.Proofs.Ytdponlnfdjfljaa.SP
set_option linter.unusedVariables false

theorem tyI : SliceTy Try.prog 22 3 (.int .i64 0) 1 8 := ⟨Try.underlying22, by kernel_rfl, rfl, by omega⟩
def posK (zs : List Int) (k : Nat) : List Nat := ((natsOf zs).take k).filter (fun x => decide (0 < x))
theorem posK_next (zs : List Int) (k : Nat) (h : k < zs.length) : posK zs (k + 1) = posK zs k ++ if 0 < zs[k].toNat then [zs[k].toNat] else [] := by
  unfold posK
  have h2 : k < (natsOf zs).length := by rw [natsOf_len]; exact h
  rw [take_snoc _ _ h2, List.filter_append]
  congr 1
  have e : (natsOf zs)[k] = zs[k].toNat := by simp [natsOf]
  rw [e]
  by_cases h0 : 0 < zs[k].toNat
  · rw [if_pos h0, List.filter_cons_of_pos (by simpa using h0)]; rfl
  · rw [if_neg h0, List.filter_cons_of_neg (by simpa using h0)]; rfl
theorem posK_all (zs : List Int) : posK zs zs.length = (ones (natsOf zs)).map pkey := by
  unfold posK
  rw [ones_keys, List.take_of_length_le (by rw [natsOf_len]; exact Nat.le_refl _)]
theorem posK_len (zs : List Int) (k : Nat) : (posK zs k).length ≤ k := by
  unfold posK
  refine Nat.le_trans (List.length_filter_le _ _) ?_
  rw [List.length_take]; omega
theorem nv_slat (w : World) (l : List Nat) {base n : Nat} {v : Value} (h : w.ownsRow base 3 1 v n (l.map nv)) : ∃ A c, v = .slice A n c ∧ n ≤ c ∧ SlAt w A (l.map nv) ∧ l.length = n ∧ (A = none → n = 0) := by
  obtain ⟨A, c, h1, h2, _, h4, h5⟩ := own_slat h
  exact ⟨A, c, h1, h2, h4, by have := h.1; simpa using this, h5⟩
set_option maxRecDepth 100000 in
set_option maxHeartbeats 8000000 in
theorem least_any (A : Option Addr) (n c L : Nat) (zs : List Int) (w : World) (hn : zs.length = n) (hA : InAt w A zs) (h0 : chkW zs (L : Int) = 0) :
    Calls Try.prog 41 #[.slice A n c, .int .i64 (L : Int)] w fun e w' => e = .returned (.int .i64 (leastN (natsOf zs) L : Int)) ∧ Below w.heap.size w w' := by
  have Hn := Lib.hid hn
  have HA := Lib.hid hA
  obtain ⟨f1, f2, f3, f4, f5⟩ := chkW_fine zs L h0
  have F2 := Lib.hid f2
  have hn288 : n ≤ 288 := by omega
  have hL1 : 1 ≤ L := by omega
  have hL15 : L ≤ 15 := by omega
  have Hbest := Lib.hid (chk_best zs L h0)
  clear hn hA h0 f1 f2 f3 f4 f5
  generalize hb0 : w.heap.size = b0 at *
  have Hb0 := Lib.hid hb0
  clear hb0
  go_enter Try.func41, Try.ntmps41
  go_wp2_with fail
  go_loopw [5, 17] (fun v i wr => ∃ k : Nat, k ≤ n ∧ i = .int .i64 (k : Int) ∧ wr.ownsRow b0 3 1 v (posK zs k).length ((posK zs k).map nv) ∧ Below b0 w wr) (fun _ i _ => n - (intOf i).toNat)
  case atStart => exact ⟨0, Nat.zero_le _, rfl, World.ownsRow_nil _ _ _ _, Below.refl _ _⟩
  case round =>
    obtain ⟨k, hk, rfl, hown, hbr⟩ := hrel
    have Hown := Lib.hid hown
    have Hbr := Lib.hid hbr
    have hpl := posK_len zs k
    clear hown hbr
    by_cases hlt : k < n
    · have hkl : k < zs.length := by rw [Hn.out]; exact hlt
      obtain ⟨b, o, rfl, hcell⟩ := (HA.out.below (Hb0.out.symm ▸ Hbr.out)).get hkl
      have hz := F2.out zs[k] (List.getElem_mem hkl)
      have Hnext := Lib.hid (posK_next zs k hkl)
      generalize zs[k] = z at *
      obtain ⟨x, rfl⟩ := Int.eq_ofNat_of_zero_le hz.1
      rw [Int.toNat_natCast] at Hnext
      by_cases h0 : x = 0
      · subst h0
        rw [if_neg (by omega), List.append_nil] at Hnext
        go_wp2_with fail
        go_roundw
        case rel => exact ⟨k + 1, by omega, by go_num, by rw [Hnext.out]; exact Hown.out, Hbr.out⟩
        case measure => simp [intOf]; omega
      · have hx0 : (0 : Int) < (x : Int) := by omega
        rw [if_pos (by omega)] at Hnext
        obtain ⟨pl, hpl2⟩ : ∃ pl, (posK zs k).length = pl := ⟨_, rfl⟩
        rw [hpl2] at Hown hpl
        have Hpl := Lib.hid hpl2
        have Hown2 := Lib.hid (Hown.out.alloc (.cells #[.int .i64 (x : Int)] 3))
        have Hsl := Lib.hid (slat_one wr 3 (.int .i64 (x : Int)))
        have hbs : b0 ≤ wr.heap.size := by have := Hbr.out.size; have := Hb0.out; omega
        have Hb2 := Lib.hid (Hbr.out.alloc hbs (.cells #[.int .i64 (x : Int)] 3))
        have Hbs : Hid (b0 ≤ (wr.alloc (.cells #[.int .i64 (x : Int)] 3)).heap.size) := Lib.hid (by have := Hb2.out.size; have := Hb0.out; omega)
        clear hpl2
        go_wp2_with (at_builtin; refine wpList_app _ rfl (.tmp 23) (.tmp 25) _ rfl b0 3 _ 1 8 tyI u5 pl ((posK zs k).map nv) rfl Hown2.out (some ⟨wr.heap.size, 0, none⟩) 1 1 [.int .i64 (x : Int)] rfl rfl Hsl.out (by simp [Value.oneCell']) (by simp) (by unfold maxLen; omega) (by omega) Hbs.out ?_; intro v4 w4 hown4 hg4 _; have Ho4 := Lib.hid hown4; have Hb4 := Lib.hid (own_below Hown2.out hg4 Hb2.out Hbs.out); clear hown4 hg4)
        go_roundw
        case rel => exact ⟨k + 1, by omega, by go_num, by rw [Hnext.out, List.length_append, List.map_append, Hpl.out]; exact Ho4.out, Hb4.out⟩
        case measure => simp [intOf]; omega
    · obtain rfl : k = n := by omega
      have hall := posK_all zs
      rw [Hn.out] at hall
      rw [hall] at Hown hpl
      obtain ⟨N1, hN1⟩ : ∃ N1, (ones (natsOf zs)).length = N1 := ⟨_, rfl⟩
      have HN1 := Lib.hid hN1
      rw [List.length_map, hN1] at Hown hpl
      clear hall hN1
      by_cases hN0 : N1 = 0
      · have Hf : Hid (leastN (natsOf zs) L = 0) := Lib.hid (by unfold leastN; rw [if_pos (by rw [HN1.out]; exact hN0)])
        have e0 : ((N1 : Int) == 0) = true := by simp; omega
        obtain ⟨A1, c1, hv, _, _, _, _⟩ := own_slat Hown.out
        subst hv
        clear hN0
        go_wp2_with fail
        go_ret
        exact ⟨ret_int (by rw [Hf.out]; rfl), Hbr.out⟩
      · have e0 : ((N1 : Int) == 0) = false := by simp; omega
        obtain ⟨g1, c1, hv, hg1, hg2⟩ := Hown.out.form (by omega)
        subst hv
        clear hg1 hg2
        by_cases hN1 : N1 = 1
        · have e1 : ((N1 : Int) == 1) = true := by simp; omega
          have Hf : Hid (leastN (natsOf zs) L = ((ones (natsOf zs)).map pkey).getD 0 0) := Lib.hid (by unfold leastN; rw [if_neg (by rw [HN1.out]; exact hN0), if_pos (by rw [HN1.out]; exact hN1)])
          have hcell : wr.cell? ⟨g1, 0, none⟩ = some (.int .i64 (((ones (natsOf zs)).map pkey).getD 0 0 : Int)) := by
            rw [Hown.out.cellAt 0 (by omega), List.getElem?_map]
            have hl : ((ones (natsOf zs)).map pkey).length = N1 := by rw [List.length_map, HN1.out]
            rw [List.getElem?_eq_getElem (by omega)]
            simp only [Option.map_some, nv, List.getD_eq_getElem?_getD]
            rw [List.getElem?_eq_getElem (by omega)]; rfl
          rw [← Hf.out] at hcell
          have e2 : 0 < N1 := by omega
          generalize hlst : leastN (natsOf zs) L = lst at *
          have Hlst := Lib.hid hlst
          clear hN0 hN1 hlst
          go_wp2_with fail
          go_ret
          exact ⟨ret_int (by rw [Hlst.out]), Hbr.out⟩
        · have e1 : ((N1 : Int) == 1) = false := by simp; omega
          have hN2 : 2 ≤ N1 := by omega
          have HR := Lib.hid (sortInts_own b0 g1 N1 c1 _ wr Hown.out (by omega))
          clear hN0 hN1
          go_wp2_with fail
          refine (HR.out).mono ?_
          rintro e w2 ⟨rfl, ⟨ts, hp, hs, hown2⟩, hg2⟩
          have hts := stab_keys (ones (natsOf zs)) ts hp hs
          have Hws : Hid ((stab pkey (ones (natsOf zs))).map pkey = ts) := Lib.hid hts.symm
          have hso : ((stab pkey (ones (natsOf zs))).map pkey).Pairwise (· ≤ ·) := by rw [← hts]; exact hs
          have Hso := Lib.hid hso
          have hbs : b0 ≤ wr.heap.size := by have := Hbr.out.size; have := Hb0.out; omega
          have Hb2 := Lib.hid (own_below Hown.out hg2 Hbr.out hbs)
          have Hown2 := Lib.hid hown2
          have Hol : Hid ((stab pkey (ones (natsOf zs))).length = N1) := Lib.hid (by rw [stab_length]; exact HN1.out)
          have Hobd : Hid (∀ p ∈ stab pkey (ones (natsOf zs)), BdP 0 p) := Lib.hid (ones_bd (natsOf zs) (fun x hx => by
            obtain ⟨z, hz, rfl⟩ := List.mem_map.1 hx
            have := F2.out z hz; omega))
          have HLP : Hid (leastN (natsOf zs) L = ((rk (stab pkey (ones (natsOf zs))) L).take (2 * N1 - 2)).sum) := Lib.hid (by
            unfold leastN rk
            rw [if_neg (by rw [HN1.out]; omega), if_neg (by rw [HN1.out]; omega), if_neg (by omega), HN1.out])
          have Hus : Hid (N1 ≤ 2 ^ L) := Lib.hid (by have := Hbest.out.2; rw [HN1.out, Int.toNat_natCast] at this; exact this)
          clear hp hs hown2 hg2 HR Hown Hbr hts hso hbs Hbest HN1
          generalize stab pkey (ones (natsOf zs)) = one1 at *
          go_wp2_with fail
          go_loopw [8, 40] (fun rv i wr => ∃ t : Nat, t ≤ L ∧ i = .int .i64 (t : Int) ∧ wr.ownsRow b0 3 1 rv (rk one1 t).length ((rk one1 t).map nv) ∧ Below w2.heap.size w2 wr) (fun _ i _ => L - (intOf i).toNat)
          case atStart => exact ⟨0, Nat.zero_le _, rfl, World.ownsRow_nil _ _ _ _, Below.refl _ _⟩
          case round =>
            obtain ⟨t, ht, rfl, hown, hbr⟩ := hrel
            have Hbr := Lib.hid hbr
            obtain ⟨Nt, hNt⟩ : ∃ Nt, (rk one1 t).length = Nt := ⟨_, rfl⟩
            have HNt := Lib.hid hNt
            have hNt2 : Nt ≤ 576 := by
              have h1 := rk_len one1 t
              rw [hNt, Hol.out] at h1; omega
            rw [hNt] at hown
            obtain ⟨AR, cr, hv, hcr, _, _, hAn⟩ := nv_slat wr _ hown
            subst hv
            have Hown := Lib.hid hown
            have Hbd := Lib.hid (rk_bd one1 Hobd.out t (by omega))
            clear hown hbr hNt
            by_cases hlt : t < L
            · generalize hB : wr.heap.size = B at *
              have HB := Lib.hid hB
              clear hB
              go_wp2_with fail
              go_loopw [10, 11] (fun pv kv wx => ∃ j : Nat, kv = .int .i64 ((2 * j : Nat) : Int) ∧ 2 * j ≤ Nt ∧ wx.ownsRow B 3 1 pv (kpairs ((rk one1 t).take (2 * j))).length ((kpairs ((rk one1 t).take (2 * j))).map nv) ∧ Below B wr wx) (fun _ kv _ => Nt - (intOf kv).toNat)
              case atStart => exact ⟨0, rfl, Nat.zero_le _, World.ownsRow_nil _ _ _ _, Below.refl _ _⟩
              case round =>
                obtain ⟨j, rfl, hj, hown, hbr⟩ := hrel
                have Hpown := Lib.hid hown
                have Hbx := Lib.hid hbr
                obtain ⟨ps, hps⟩ : ∃ ps, kpairs ((rk one1 t).take (2 * j)) = ps := ⟨_, rfl⟩
                have Hps := Lib.hid hps
                have hpl : ps.length ≤ 576 := by
                  rw [← hps, kpairs_len, List.length_take]; omega
                rw [hps] at Hpown
                clear hown hbr hps
                obtain ⟨kk, hkk⟩ : ∃ kk, kk = 2 * j := ⟨_, rfl⟩
                have e2 : (kk : Int) + 1 = ((kk + 1 : Nat) : Int) := by omega
                obtain ⟨kq, hkq⟩ : ∃ kq, kq = kk + 1 := ⟨_, rfl⟩
                rw [← hkq] at e2
                rw [← hkk] at hj ⊢
                have Hkk := Lib.hid (And.intro hkk hkq)
                clear hkk
                by_cases hlt2 : kq < Nt
                · obtain ⟨gr, cr', hv', _, _⟩ := Hown.out.form (by omega)
                  injection hv' with v1 v2 v3
                  subst v1 v3
                  have hkl : kk < (rk one1 t).length := by rw [HNt.out]; omega
                  have hql : kq < (rk one1 t).length := by rw [HNt.out]; omega
                  have hrow2 := own_keep Hown.out (HB.out.symm ▸ Hbx.out)
                  have ck0 : wr.cell? ⟨gr, kk, none⟩ = some (.int .i64 ((rk one1 t)[kk] : Int)) := by rw [hrow2.cellAt kk (by omega), List.getElem?_map, List.getElem?_eq_getElem hkl]; rfl
                  have cq0 : wr.cell? ⟨gr, kq, none⟩ = some (.int .i64 ((rk one1 t)[kq] : Int)) := by rw [hrow2.cellAt kq (by omega), List.getElem?_map, List.getElem?_eq_getElem hql]; rfl
                  have hba := Hbd.out _ (List.getElem_mem hkl)
                  have hbb := Hbd.out _ (List.getElem_mem hql)
                  have Hsnoc : Hid (kpairs ((rk one1 t).take (2 * (j + 1))) = ps ++ [(rk one1 t)[kk] + (rk one1 t)[kq]]) := Lib.hid (by
                    have h1 := Hkk.out
                    have e : (rk one1 t).take (2 * (j + 1)) = (rk one1 t).take (2 * j) ++ [(rk one1 t)[kk], (rk one1 t)[kq]] := by
                      rw [show 2 * (j + 1) = kk + 1 + 1 by omega, List.take_succ_eq_append_getElem (by omega : kk + 1 < (rk one1 t).length), List.take_succ_eq_append_getElem hkl, ← h1.1]
                      have h3 : (rk one1 t)[kk + 1] = (rk one1 t)[kq] := by simp only [h1.2]
                      rw [h3]; simp only [List.append_assoc, List.cons_append, List.nil_append]
                    rw [e, kpairs_two _ _ _ j (by rw [List.length_take, HNt.out]; omega), Hps.out])
                  generalize (rk one1 t)[kk] = x at *
                  generalize (rk one1 t)[kq] = y at *
                  have hkkN : kk < Nt := by omega
                  have hw : IntKind.i64.wrap (kq : Int) = (kq : Int) := IntWalk.i64_in _ (by omega)
                  obtain ⟨sm, hsm⟩ : ∃ sm, x + y = sm := ⟨_, rfl⟩
                  have esm : (x : Int) + (y : Int) = (sm : Int) := by omega
                  have hw2 : IntKind.i64.wrap (sm : Int) = (sm : Int) := IntWalk.i64_in _ (by omega)
                  have Hsm := Lib.hid hsm
                  have Hp7 : Hid ((wr.drew.alloc (.cells #[.int .i64 (sm : Int)] 3)).ownsRow B 3 1 u10 ps.length (ps.map nv)) := Lib.hid ((own_drew Hpown.out).alloc _)
                  have Hb7 : Hid (Below B _ (wr.drew.alloc (.cells #[.int .i64 (sm : Int)] 3))) := Lib.hid (Hbx.out.drew.alloc (by have := Hbx.out.size; have := HB.out; show B ≤ wr.heap.size; omega) _)
                  have Hbs7 : Hid (B ≤ (wr.drew.alloc (.cells #[.int .i64 (sm : Int)] 3)).heap.size) := Lib.hid (by have := Hb7.out.size; have := HB.out; omega)
                  have Hs7 : Hid (SlAt (wr.drew.alloc (.cells #[.int .i64 (sm : Int)] 3)) (some ⟨wr.heap.size, 0, none⟩) [.int .i64 (sm : Int)]) := Lib.hid (slat_one wr.drew 3 _)
                  clear hkl hql hrow2 hsm hkq
                  go_wp2_with fail
                  go_region_law ((refine step_app rfl (.tmp 50) (.tmp 61) _ rfl B 3 _ 1 8 tyI u10 ps.length (ps.map nv) (by simp [Act.eval]) Hp7.out (some ⟨wr.heap.size, 0, none⟩) 1 1 [.int .i64 (sm : Int)] (by simp [Act.eval]) rfl Hs7.out (by simp [Value.oneCell']) (by simp) (by unfold maxLen; omega) (by omega) Hbs7.out ?_
                                  intro v8 w8 hown8 hg8
                                  have Ho8 := Lib.hid hown8
                                  have Hg8 := Lib.hid hg8
                                  clear hown8 hg8))
                  all_goals (
                    have Hb8 := Lib.hid (own_below Hp7.out Hg8.out Hb7.out Hbs7.out)
                    clear Hp7 Hb7 Hbs7 Hs7 Hg8 ck0 cq0
                    go_wp2_with fail
                    go_roundw
                    case rel => exact ⟨j + 1, int_eq (by have := Hkk.out; omega), by have := Hkk.out; omega, by rw [Hsnoc.out, List.length_append, List.map_append, Hsm.out]; exact Ho8.out, Hb8.out⟩
                    case measure => simp [intOf]; omega)
                · have Hpf : Hid (kpairs (rk one1 t) = ps) := Lib.hid (by
                    have h1 := Hkk.out
                    rw [← Hps.out]
                    exact (kpairs_cut _ j (by rw [HNt.out]; omega) (by rw [HNt.out]; omega)).symm)
                  obtain ⟨PA, pc, hv, hpc, _, _, hPn⟩ := nv_slat wr _ Hpown.out
                  subst hv
                  obtain ⟨pl, hpl2⟩ : ∃ pl, ps.length = pl := ⟨_, rfl⟩
                  have Hpl := Lib.hid hpl2
                  rw [hpl2] at Hpown hPn ⊢
                  have hplb : pl ≤ 576 := by omega
                  have HPn := Lib.hid hPn
                  have Hsz6 : Hid (b0 ≤ wr.heap.size ∧ w2.heap.size ≤ wr.heap.size) := Lib.hid (by
                    have h1 := Hb2.out.size; have h2 := Hb0.out; have h3 := Hbr.out.size; have h4 := Hbx.out.size; have h5 := HB.out; omega)
                  have Hbrx := Lib.hid (Hbr.out.trans (Hbx.out.mono (by have h3 := Hbr.out.size; have h5 := HB.out; omega)))
                  clear hpl hpl2 Hkk Hps hkq hPn hpc
                  have Hz0 : Hid ((wr.alloc (.cells #[] 3)).ownsRow wr.heap.size 3 1 (.slice (some ⟨wr.heap.size, 0, none⟩) 0 0) 0 []) := Lib.hid (own_zero _ _ _ _ wr.heap.size 0 #[] (Nat.le_refl _) (heap_alloc_new wr _) (by unfold maxLen; omega) (by simp))
                  have Hzb := Lib.hid ((Below.refl wr.heap.size wr).alloc (Nat.le_refl _) (.cells #[] 3))
                  have hw1 := own_keep Hown2.out Hbrx.out
                  obtain ⟨A9, c9, hv9, _, hS9, hl9, hn9⟩ := nv_slat wr _ hw1
                  injection hv9 with q1 q2 q3
                  subst q1 q3
                  have Hw1 := Lib.hid (hS9.below Hzb.out)
                  have Hl9 := Lib.hid hl9
                  clear hw1 hS9 hl9 hn9 q2
                  go_wp2_with (at_builtin; first
                    | (refine wpList_app _ rfl (.tmp 65) (.tmp 66) _ rfl wr.heap.size 3 _ 1 8 tyI _ (0 + N1) ([] ++ ts.map nv) rfl Ho8.out PA pl pc (ps.map nv) rfl (by rw [List.length_map, Hpl.out]; omega) Hps8.out (nv_one ps) HPn.out (by unfold maxLen; omega) (by omega) Hb8.out.size ?_
                       intro v9 w9 hown9 hg9 _
                       have Ho9 := Lib.hid hown9
                       have Hb9 := Lib.hid (own_below Ho8.out hg9 Hb8.out Hb8.out.size)
                       clear hown9 hg9)
                    | (refine wpList_app _ rfl (.tmp 63) (.tmp 64) _ rfl wr.heap.size 3 _ 1 8 tyI _ 0 [] rfl Hz0.out (some ⟨g1, 0, none⟩) N1 c1 (ts.map nv) rfl (by rw [List.length_map, Hl9.out]; omega) Hw1.out (nv_one ts) (by simp) (by unfold maxLen; omega) (by omega) Hzb.out.size ?_
                       intro v8 w8 hown8 hg8 _
                       have Ho8 := Lib.hid hown8
                       have Hb8 := Lib.hid (own_below Hz0.out hg8 Hzb.out Hzb.out.size)
                       have Hps8 : Hid (SlAt w8 PA (ps.map nv)) := Lib.hid (by
                         obtain ⟨A7, c7, hv7, _, hS7, _, _⟩ := nv_slat w8 _ (own_keep Hpown.out Hb8.out)
                         injection hv7 with r1 r2 r3
                         subst r1; exact hS7)
                       clear hown8 hg8))
                  have ho9 := Ho9.out
                  rw [List.nil_append, Nat.zero_add, ← List.map_append] at ho9
                  obtain ⟨g9, c9', hv9, _, _⟩ := ho9.form (by omega)
                  subst hv9
                  have Hown9 := Lib.hid (own_base ho9 Hsz6.out.2)
                  have Hr9 := Lib.hid (sortInts_own w2.heap.size g9 (N1 + pl) c9' (ts ++ ps) w9 Hown9.out (by omega))
                  have Hb09 := Lib.hid (Hbrx.out.trans (Hb9.out.mono Hsz6.out.2))
                  obtain ⟨NN, hNN⟩ : ∃ NN, N1 + pl = NN := ⟨_, rfl⟩
                  rw [hNN] at Hr9 Hown9 ⊢
                  clear ho9 Ho9 Hb9 Ho8 Hb8 Hz0 Hzb Hw1 Hps8 Hpown
                  go_wp2_with fail
                  refine (Hr9.out).mono ?_
                  rintro e w10 ⟨rfl, ⟨t9, hp, hs, hown10⟩, hg10⟩
                  have hnext := rk_next one1 t t9 (by rw [Hws.out, Hpf.out]; exact hp) hs Hso.out
                  have hlen := hp.length_eq
                  rw [List.length_append, Hl9.out, Hpl.out, hNN, hnext] at hlen
                  rw [hnext] at hown10
                  have Hlen := Lib.hid hlen
                  have Hown10 := Lib.hid (own_base hown10 (by have h1 := Hb2.out.size; have h2 := Hb0.out; omega : b0 ≤ w2.heap.size))
                  have Hb10 := Lib.hid (own_below Hown9.out hg10 Hb09.out Hb09.out.size)
                  clear hp hs hown10 hg10 Hr9 hlen hnext
                  go_wp2_with fail
                  go_roundw
                  case rel => exact ⟨t + 1, by omega, by go_num, by rw [Hlen.out]; exact Hown10.out, Hb10.out⟩
                  case measure => simp [intOf]; omega
            · obtain rfl : t = L := by omega
              obtain ⟨M, hM⟩ : ∃ M, M = 2 * N1 - 2 := ⟨_, rfl⟩
              have hMN : M ≤ Nt := by
                have h1 := rows_enough one1 t hL1 (by rw [Hol.out]; exact Hus.out)
                have h2 := HNt.out
                unfold rk kr at h2
                rw [if_neg (by omega), List.length_map] at h2
                rw [Hol.out] at h1
                omega
              have eM : 2 * (N1 : Int) - 2 = (M : Int) := by omega
              have hMc : M ≤ cr := by omega
              have hM1 : 1 ≤ M := by omega
              obtain ⟨gr, cr', hv', _, _⟩ := Hown.out.form (by omega)
              injection hv' with v1 v2 v3
              subst v1 v3
              have HLP2 : Hid (leastN (natsOf zs) t = ((rk one1 t).take M).sum) := Lib.hid (by rw [HLP.out, hM])
              have Hbw : Hid (Below b0 w wr) := Lib.hid (Hb2.out.trans (Hbr.out.mono (by have h1 := Hb2.out.size; have h2 := Hb0.out; omega)))
              clear hM v2
              go_wp2_with fail
              clear eM
              go_loop [12, 79] (fun sv i => ∃ j : Nat, j ≤ M ∧ i = .int .i64 (j : Int) ∧ sv = .int .i64 (((rk one1 t).take j).sum : Int)) (fun _ i => M - (intOf i).toNat)
              case atStart => exact ⟨0, Nat.zero_le _, rfl, rfl⟩
              case round =>
                obtain ⟨j, hj, rfl, rfl⟩ := hrel
                have hsb : ((rk one1 t).take j).sum ≤ 40000000000 * 576 := by
                  have : ∀ l : List Nat, (∀ x ∈ l, x ≤ 40000000000) → l.sum ≤ 40000000000 * l.length := by
                    intro l
                    induction l with
                    | nil => intro _; simp
                    | cons a l ih =>
                      intro h
                      have h1 := h a (by simp)
                      have h2 := ih (fun x hx => h x (by simp [hx]))
                      rw [List.sum_cons, List.length_cons]; omega
                  have h1 := this ((rk one1 t).take j) (fun x hx => Hbd.out x (List.mem_of_mem_take hx))
                  have h2 : ((rk one1 t).take j).length ≤ 576 := by rw [List.length_take]; omega
                  omega
                by_cases hlt : j < M
                · have hjl : j < (rk one1 t).length := by rw [HNt.out]; omega
                  have hcell : wr.cell? ⟨gr, j, none⟩ = some (.int .i64 ((rk one1 t)[j] : Int)) := by rw [Hown.out.cellAt j (by omega), List.getElem?_map, List.getElem?_eq_getElem hjl]; rfl
                  have Hsn : Hid (((rk one1 t).take (j + 1)).sum = ((rk one1 t).take j).sum + (rk one1 t)[j]) := Lib.hid (by rw [take_snoc _ _ hjl, List.sum_append]; simp)
                  have hbj := Hbd.out _ (List.getElem_mem hjl)
                  have hjc : j < cr := by omega
                  generalize (rk one1 t)[j] = x at *
                  generalize ((rk one1 t).take j).sum = sj at *
                  go_wp2_with fail
                  go_round
                  case rel => exact ⟨j + 1, by omega, by go_num, by rw [Hsn.out]; go_num⟩
                  case measure => simp [intOf]; omega
                · obtain rfl : j = M := by omega
                  rw [← HLP2.out]
                  generalize hlst : leastN (natsOf zs) t = lst at *
                  have Hlst := Lib.hid hlst
                  clear hlst
                  go_wp2_with fail
                  go_ret
                  exact ⟨ret_int (by rw [Hlst.out]), Hbw.out⟩
end Go.Proofs.Ytdponlnfdjfljaa.Weigh
