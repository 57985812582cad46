/- reliquarylaw.NameJoin: the walk. -/
import Derived.Test.YtdponlnfdjfljaaDoorNamed
import Derived.Test.YtdponlnfdjfljaaDoorNameRef
import Derived.Test.YtdponlnfdjfljaaDoorCloneS
namespace Go.Proofs.YtdponlnfdjfljaaDoor.NameJoin
open Go Go.RowKit Go.Proofs.YtdponlnfdjfljaaDoor Go.Proofs.YtdponlnfdjfljaaDoor.Name
set_option linter.unusedVariables false

theorem svs_one (l : List (List UInt8)) : ∀ u ∈ l.map sv, u.oneCell' = true := by
  intro u hu
  obtain ⟨x, _, rfl⟩ := List.mem_map.1 hu
  rfl
set_option maxRecDepth 100000 in
set_option maxHeartbeats 8000000 in
theorem walk0 (W : World) (hML : ML W) (f s : List UInt8) (hf : f.length ≤ 140737488351232) (hs : s.length ≤ 140737488351232) :
    Calls Tryd.prog 5 #[.string (strB f), .string (strB s)] W fun e W' => e = .returned (.bool true) ∧ Below W.heap.size W W' := by
  have hsm : s.length ≤ maxLen := by unfold maxLen; omega
  have hfm : f.length ≤ maxLen := by unfold maxLen; omega
  have HML := Lib.hid hML
  have HJ := Lib.hid (joinN_any f s W hfm hsm (by omega) hML)
  have HN : Hid (∀ w, Below W.heap.size W w → Calls _ _ _ w _) := Lib.hid (fun w h => named_any w (hML.below h))
  have HRf : Hid (∀ w, Below W.heap.size W w → Calls _ _ _ w _) := Lib.hid (fun w h => parted_any f w hfm (hML.below h))
  have hzs := strB_size s
  have hzf := strB_size f
  clear hML
  by_cases h160 : 160 < f.length + s.length
  · have hR : joinR f s = (2, []) := by unfold joinR; rw [if_pos h160]
    rw [hR] at HJ
    have h160i : (160 : Int) < (f.length : Int) + s.length := by omega
    clear hR
    go_enter Tryd.func5, Tryd.ntmps5
    go_wp2_with fail
    refine (HJ.out).mono ?_
    rintro e w1 ⟨rfl, hb1⟩
    have Hb1 := Lib.hid hb1
    (try dsimp only)
    clear hb1 HJ
    go_wp2_with fail
    refine (HN.out _ Hb1.out).mono ?_
    rintro e w2 ⟨rfl, hb2⟩
    have Hb2 := Lib.hid (stepN Hb1.out hb2)
    clear hb2
    go_wp2_with fail
    refine (HN.out _ Hb2.out).mono ?_
    rintro e w3 ⟨rfl, hb3⟩
    have Hb3 := Lib.hid (stepN Hb2.out hb3)
    clear hb3
    go_wp2_with fail
    go_ret
    exact ⟨rfl, Hb3.out⟩
  · have HR : Hid (joinR f s = if f ≠ [] ∧ nameE f ≠ 0 then (nameE f, []) else match walkJ (parts s) with
      | none => (1, [])
      | some mine => if nameE (glue (baseJ f ++ mine)) ≠ 0 then (nameE (glue (baseJ f ++ mine)), []) else (0, glue (baseJ f ++ mine))) := Lib.hid (by unfold joinR; rw [if_neg h160]; rfl)
    have h160i : ¬ (160 : Int) < (f.length : Int) + s.length := by omega
    go_enter Tryd.func5, Tryd.ntmps5
    go_wp2_with fail
    refine (HJ.out).mono ?_
    rintro e w1 ⟨rfl, hb1⟩
    have Hb1 := Lib.hid hb1
    clear hb1 HJ
    go_wp2_with fail
    refine (HN.out _ Hb1.out).mono ?_
    rintro e w2 ⟨rfl, hb2⟩
    have Hb2 := Lib.hid (stepN Hb1.out hb2)
    clear hb2
    by_cases hfo : f = []
    · have hfe : f.isEmpty = true := by rw [hfo]; rfl
      have HR3 : Hid (joinR f s = match walkJ (parts s) with
        | none => (1, [])
        | some mine => if nameE (glue ([] ++ mine)) ≠ 0 then (nameE (glue ([] ++ mine)), []) else (0, glue ([] ++ mine))) := Lib.hid (by
          rw [HR.out, if_neg (by simp [hfo])]
          unfold baseJ; rw [if_pos hfo])
      obtain ⟨base, hbase⟩ : ∃ b : List (List UInt8), b = [] := ⟨_, rfl⟩
      rw [← hbase] at HR3
      have Hbl : Hid (∀ p ∈ base, p.length ≤ 160) := Lib.hid (by rw [hbase]; simp)
      have hbl2 : base.length ≤ 161 := by rw [hbase]; simp
      have Hrow : Hid (Row w2 (.slice none 0 0) base) := Lib.hid (by rw [hbase]; exact Row.nil _)
      have hb0 : base.length = 0 := by rw [hbase]; rfl
      have Hb0 := Lib.hid hb0
      have Hbase := Lib.hid hbase
      have HbB := Hb2
      clear hfo hbase hb0 HR
      have HS := Lib.hid (split_any s w2 (by omega) (HML.out.below HbB.out))
      have Hpl : Hid (∀ p ∈ parts s, p.length ≤ 160) := Lib.hid (fun p hp => by have := parts_sum s p hp; omega)
      have hpl2 : (parts s).length ≤ 161 := by have := parts_len s; omega
      obtain ⟨jr, hjr⟩ : ∃ jr, jr = joinR f s := ⟨_, rfl⟩
      have Hjr := Lib.hid hjr.symm
      rw [← hjr] at HR3 ⊢
      obtain ⟨⟨je, jt⟩, hjj⟩ : ∃ p, p = jr := ⟨_, rfl⟩
      subst hjj
      (try dsimp only)
      clear hjr
      generalize parts s = ps at *
      obtain ⟨m, hm⟩ : ∃ m, m = ps.length := ⟨_, rfl⟩
      have HM := Lib.hid hm.symm
      rw [← hm] at HS hpl2
      clear hm
      obtain ⟨A0, c0, hV0, q2, q3, q4, q5⟩ := Hrow.out
      injection hV0 with z1 z2 z3
      clear q2 q3 q4 q5 z1 z2 z3
      go_wp2_with fail
      refine (HS.out).mono ?_
      rintro e w1 ⟨rfl, hblk, hb1⟩
      have Hblk := Lib.hid hblk
      have Hb1 := Lib.hid (stepN HbB.out hb1)
      have Hrow1 := Lib.hid (Hrow.out.below hb1)
      clear hblk hb1 HS
      obtain ⟨g, hg⟩ : ∃ g, g = w2.heap.size := ⟨_, rfl⟩
      rw [← hg] at Hblk ⊢
      clear hg
      have Hsl := Lib.hid (blk_slat Hblk.out)
      go_wp2_with fail
      go_loopw [7, 63] (fun v i wx => ∃ (k : Nat) (mine : List (List UInt8)), k ≤ m ∧ i = .int .i64 (k : Int) ∧ walkJ (ps.take k) = some mine ∧ Row wx v (base ++ mine) ∧ Below w1.heap.size w1 wx) (fun _ i _ => m - (intOf i).toNat)
      case atStart => exact ⟨0, [], Nat.zero_le _, rfl, rfl, by rw [List.append_nil]; exact Hrow1.out, Below.refl _ _⟩
      case round =>
        obtain ⟨k, mine, hk, rfl, hwalk, hrow, hbx⟩ := hrel
        have Hwalk := Lib.hid hwalk
        have Hrowx := Lib.hid hrow
        have Hbx := Lib.hid hbx
        have hml := (walkJ_sub ps k (by rw [HM.out]; exact hk) mine hwalk).2
        have Hms := Lib.hid (walkJ_sub ps k (by rw [HM.out]; exact hk) mine hwalk).1
        clear hwalk hrow hbx
        obtain ⟨A, c, rfl, hnc, hcm, hsl, hnil⟩ := Hrowx.out
        have Hrow0 := Lib.hid Hrowx.out
        obtain ⟨n, hn⟩ : ∃ n, n = (base ++ mine).length := ⟨_, rfl⟩
        rw [← hn] at hnc Hrow0 ⊢
        have HN : Hid (n = base.length + mine.length) := Lib.hid (by rw [hn, List.length_append])
        have hn161 : n ≤ 400 := by rw [hn, List.length_append]; omega
        have HslA := Lib.hid hsl
        have Hnil := Lib.hid hnil
        clear hsl hnil hn Hrowx
        by_cases hlt : k < m
        · have hkp : k < ps.length := by rw [HM.out]; exact hlt
          obtain ⟨b, o, e, hc⟩ := SlAt.get (Hsl.out.below Hbx.out) (k := k) (by rw [List.length_map]; exact hkp)
          injection e with e
          injection e with e1 e2 e3
          subst e1 e2
          rw [List.getElem_map] at hc
          have Hst := Lib.hid (walkJ_take ps k hkp)
          rw [Hwalk.out] at Hst
          have Hst2 : Hid (walkJ (ps.take (k + 1)) = stepJ mine ps[k]) := Lib.hid Hst.out
          have Hnone : Hid (stepJ mine ps[k] = none → (je, jt) = (1, [])) := Lib.hid (fun h => by rw [HR3.out, walkJ_none ps (k + 1) (by rw [Hst2.out, h])])
          have hpk : ps[k].length ≤ 160 := Hpl.out _ (List.getElem_mem hkp)
          generalize ps[k] = p at *
          unfold sv at hc
          clear Hst
          rw [Nat.zero_add] at hc
          by_cases h1 : p = []
          · subst h1
            have Hs : Hid (walkJ (ps.take (k + 1)) = some mine) := Lib.hid (by rw [Hst2.out]; rfl)
            clear Hst2 Hnone
            go_wp2_with fail
            go_roundw
            case rel => exact ⟨k + 1, mine, by omega, by go_num, Hs.out, Hrow0.out, Hbx.out⟩
            case measure => simp [intOf]; omega
          · by_cases h2 : p = [46]
            · subst h2
              have Hs : Hid (walkJ (ps.take (k + 1)) = some mine) := Lib.hid (by rw [Hst2.out]; rfl)
              clear Hst2 Hnone
              go_wp2_with fail
              go_roundw
              case rel => exact ⟨k + 1, mine, by omega, by go_num, Hs.out, Hrow0.out, Hbx.out⟩
              case measure => simp [intOf]; omega
            · by_cases h3 : p = [46, 46]
              · subst h3
                by_cases hm0 : mine = []
                · subst hm0
                  have Hj : Hid ((je, jt) = (1, [])) := Lib.hid (Hnone.out rfl)
                  have hnb : n = base.length := by rw [HN.out]; simp
                  clear Hst2 Hnone
                  subst hnb
                  have hj := Hj.out
                  injection hj with j1 j2
                  subst j1 j2
                  have ho1 : base = [] := Hbase.out
                  have ho2 : (base.length : Int) ≤ 0 := by have := Hb0.out; omega
                  go_wp2_with fail
                  go_ret
                  exact ⟨rfl, stepN Hb1.out Hbx.out⟩
                · have Hs : Hid (walkJ (ps.take (k + 1)) = some mine.dropLast) := Lib.hid (by rw [Hst2.out]; unfold stepJ; rw [if_neg (by decide), if_pos rfl, if_neg hm0])
                  have hmp : 0 < mine.length := List.length_pos_iff.2 hm0
                  obtain ⟨q, rfl⟩ : ∃ q, n = q + 1 := ⟨n - 1, by have := HN.out; omega⟩
                  have hne : ¬ (((q + 1 : Nat) : Int) ≤ (base.length : Int)) := by
                    have := HN.out
                    omega
                  have hne2 : ¬ (q + 1 ≤ base.length) := by omega
                  obtain ⟨b2, o2, rfl, _⟩ := HslA.out (by rw [List.length_map, List.length_append]; omega)
                  have Hrow2 : Hid (Row wr (.slice (some ⟨b2, o2, none⟩) q c) (base ++ mine.dropLast)) := Lib.hid (by
                    have hdl : base ++ mine.dropLast = (base ++ mine).take q := by
                      have := HN.out
                      rw [List.take_append, List.take_of_length_le (by omega), List.dropLast_eq_take]
                      congr 2; omega
                    have hql : (base ++ mine.dropLast).length = q := by have := HN.out; simp; omega
                    refine ⟨_, c, by rw [hql], by omega, hcm, ?_, by simp⟩
                    rw [hdl, List.map_take]
                    exact HslA.out.take q)
                  clear Hst2 Hnone Hrow0
                  have hqc : q ≤ c := by omega
                  go_wp2_with fail
                  go_roundw
                  case rel => exact ⟨k + 1, _, by omega, by go_num, Hs.out, Hrow2.out, Hbx.out⟩
                  case measure => simp [intOf]; omega
              · have Hs : Hid (walkJ (ps.take (k + 1)) = some (mine ++ [p])) := Lib.hid (by rw [Hst2.out]; unfold stepJ; rw [if_neg (by simp [h1, h2]), if_neg h3])
                have g1 : p.isEmpty = false := by simpa using h1
                have g2 : (p == [46]) = false := by simpa using h2
                have g3 : (p == [46, 46]) = false := by simpa using h3
                have HCl := Lib.hid (CloneS.clone_any A n c ((base ++ mine).map sv) wr (by rw [List.length_map, List.length_append, HN.out, Nat.mul_one]) HslA.out (fun hA => by have h9 := congrArg List.length (Hnil.out hA).1; rw [List.length_append, List.length_nil] at h9; have := HN.out; omega) (svs_one _) (by unfold maxLen; omega) (by omega))
                clear Hst2 Hnone
                go_wp2_with fail
                refine (HCl.out).mono ?_
                rintro e w5 ⟨v5, rfl, ho5, hb5⟩
                obtain ⟨w6, hw6⟩ : ∃ w6, w6 = w5.alloc (.cells #[.string (strB p)] 9) := ⟨_, rfl⟩
                have hb6 : Below w5.heap.size w5 w6 := by rw [hw6]; exact (Below.refl _ _).alloc (Nat.le_refl _) _
                have Ho6 := Lib.hid (own_keep ho5 hb6)
                have Hb6 := Lib.hid (hb5.trans (hb6.mono hb5.size))
                have Hsl6 : Hid (SlAt w6 (some ⟨w5.heap.size, 0, none⟩) [.string (strB p)]) := Lib.hid (by rw [hw6]; exact SlAt.of_heap (heap_alloc_new w5 _) rfl)
                have Hw6 := Lib.hid hw6.symm
                clear ho5 hb5 hw6 hb6 HCl
                go_wp2_with (at_builtin; rw [Hw6.out]; refine wpList_app _ rfl (.tmp 76) (.tmp 78) _ rfl wr.heap.size 9 _ 1 16 tyS _ n ((base ++ mine).map sv) rfl Ho6.out (some ⟨w5.heap.size, 0, none⟩) 1 1 [.string (strB p)] rfl rfl Hsl6.out (by simp [Value.oneCell']) (by simp) (by unfold maxLen; omega) (by omega) Hb6.out.size ?_; intro v7 w7 hown7 hg7 hl7; have Ho7 := Lib.hid hown7; have Hb7 := Lib.hid (own_below Ho6.out hg7 Hb6.out Hb6.out.size); clear hown7 hg7 hl7)
                have Hrow7 : Hid (Row w7 v7 (base ++ (mine ++ [p]))) := Lib.hid (by
                  rw [← List.append_assoc]
                  exact row_of_own (n := n + 1) (by rw [List.map_append]; exact Ho7.out) (by rw [List.length_append, List.length_append, HN.out]; rfl))
                go_roundw
                case rel => exact ⟨k + 1, _, by omega, by go_num, Hs.out, Hrow7.out, Hbx.out.trans (Hb7.out.mono Hbx.out.size)⟩
                case measure => simp [intOf]; omega
        · obtain rfl : m = k := by omega
          have Hwa : Hid (walkJ ps = some mine) := Lib.hid (by have := Hwalk.out; rwa [List.take_of_length_le (by rw [HM.out]; exact Nat.le_refl _)] at this)
          have hj := HR3.out
          rw [Hwa.out] at hj
          dsimp only at hj
          have HJo := Lib.hid (join_any (.slice A n c) (base ++ mine) wr Hrow0.out (by rw [List.length_append]; omega) (fun p hp => by
            rcases List.mem_append.1 hp with h | h
            · have := Hbl.out p h; omega
            · have := Hpl.out p (Hms.out p h); omega))
          have hgl := glue_len (base ++ mine) 160 (fun p hp => by
            rcases List.mem_append.1 hp with h | h
            · exact Hbl.out p h
            · exact Hpl.out p (Hms.out p h))
          have hgl2 : (glue (base ++ mine)).length ≤ maxLen := by
            have := HN.out
            rw [List.length_append] at hgl
            have h9 : (160 + 1) * (base.length + mine.length) ≤ 161 * 400 := Nat.mul_le_mul_left 161 (by omega)
            unfold maxLen; omega
          have Hj := Lib.hid hj
          generalize glue (base ++ mine) = G at *
          clear hgl hj
          go_wp2_with fail
          refine (HJo.out).mono ?_
          rintro e w5 ⟨rfl, hb5⟩
          have Hb5 := Lib.hid ((stepN Hb1.out Hbx.out).trans (hb5.mono (stepN Hb1.out Hbx.out).size))
          have HPa := Lib.hid (parted_any G w5 hgl2 (HML.out.below Hb5.out))
          clear hb5 HJo
          go_wp2_with fail
          refine (HPa.out).mono ?_
          intro e w6 hp
          obtain ⟨A6, n6, rfl, _, _⟩ := parts_tuple hp
          have Hb6 := Lib.hid (stepN Hb5.out hp.2)
          clear hp HPa
          by_cases hz : nameE G = 0
          · have hj := Hj.out
            rw [if_neg (by simpa using hz)] at hj
            injection hj with j1 j2
            subst je
            subst jt
            rw [hz]
            clear hz
            go_wp2_with fail
            go_ret
            exact ⟨rfl, Hb6.out⟩
          · have hj := Hj.out
            rw [if_pos hz] at hj
            injection hj with j1 j2
            subst je
            subst jt
            have hz1 : (nameE G != 0) = true := by simpa using hz
            generalize nameE G = z at *
            clear hz
            go_wp2_with fail
            go_ret
            exact ⟨rfl, Hb6.out⟩
    · have hfe : f.isEmpty = false := by simpa using hfo
      go_wp2_with fail
      refine (HRf.out _ Hb2.out).mono ?_
      intro e w3 hp
      have Hb3 := Lib.hid (stepN Hb2.out hp.2)
      obtain ⟨A, n, rfl, h1, h2⟩ := parts_tuple hp
      have H2 := Lib.hid h2
      clear hp h1 h2
      by_cases he : nameE f = 0
      · obtain ⟨hn, g0, rfl, hg, hblk⟩ := H2.out he
        have HR3 : Hid (joinR f s = match walkJ (parts s) with
          | none => (1, [])
          | some mine => if nameE (glue (parts f ++ mine)) ≠ 0 then (nameE (glue (parts f ++ mine)), []) else (0, glue (parts f ++ mine))) := Lib.hid (by
            rw [HR.out, if_neg (by simp [he])]
            unfold baseJ; rw [if_neg hfo])
        have hpf := parts_len f
        have Hbl0 : Hid (∀ p ∈ parts f, p.length ≤ 160) := Lib.hid (fun p hp => by have := parts_sum f p hp; omega)
        obtain ⟨base, hbase⟩ : ∃ b : List (List UInt8), b = parts f := ⟨_, rfl⟩
        rw [← hbase] at HR3 Hbl0 hpf hn hblk
        have Hbl := Hbl0
        have hbl2 : base.length ≤ 161 := by omega
        have Hrow : Hid (Row w3 (.slice (some ⟨g0, 0, none⟩) base.length base.length) base) := Lib.hid ⟨_, _, rfl, Nat.le_refl _, by unfold maxLen; omega, blk_slat hblk, by simp⟩
        subst hn
        have HbB := Hb3
        rw [he]
        clear hbase hblk hpf Hbl0 HR he
        have HS := Lib.hid (split_any s w3 (by omega) (HML.out.below HbB.out))
        have Hpl : Hid (∀ p ∈ parts s, p.length ≤ 160) := Lib.hid (fun p hp => by have := parts_sum s p hp; omega)
        have hpl2 : (parts s).length ≤ 161 := by have := parts_len s; omega
        obtain ⟨jr, hjr⟩ : ∃ jr, jr = joinR f s := ⟨_, rfl⟩
        have Hjr := Lib.hid hjr.symm
        rw [← hjr] at HR3 ⊢
        obtain ⟨⟨je, jt⟩, hjj⟩ : ∃ p, p = jr := ⟨_, rfl⟩
        subst hjj
        (try dsimp only)
        clear hjr
        generalize parts s = ps at *
        obtain ⟨m, hm⟩ : ∃ m, m = ps.length := ⟨_, rfl⟩
        have HM := Lib.hid hm.symm
        rw [← hm] at HS hpl2
        clear hm
        obtain ⟨A0, c0, hV0, q2, q3, q4, q5⟩ := Hrow.out
        injection hV0 with z1 z2 z3
        clear q2 q3 q4 q5 z1 z2 z3
        go_wp2_with fail
        refine (HS.out).mono ?_
        rintro e w1 ⟨rfl, hblk, hb1⟩
        have Hblk := Lib.hid hblk
        have Hb1 := Lib.hid (stepN HbB.out hb1)
        have Hrow1 := Lib.hid (Hrow.out.below hb1)
        clear hblk hb1 HS
        obtain ⟨g, hg⟩ : ∃ g, g = w3.heap.size := ⟨_, rfl⟩
        rw [← hg] at Hblk ⊢
        clear hg
        have Hsl := Lib.hid (blk_slat Hblk.out)
        go_wp2_with fail
        go_loopw [7, 63] (fun v i wx => ∃ (k : Nat) (mine : List (List UInt8)), k ≤ m ∧ i = .int .i64 (k : Int) ∧ walkJ (ps.take k) = some mine ∧ Row wx v (base ++ mine) ∧ Below w1.heap.size w1 wx) (fun _ i _ => m - (intOf i).toNat)
        case atStart => exact ⟨0, [], Nat.zero_le _, rfl, rfl, by rw [List.append_nil]; exact Hrow1.out, Below.refl _ _⟩
        case round =>
          obtain ⟨k, mine, hk, rfl, hwalk, hrow, hbx⟩ := hrel
          have Hwalk := Lib.hid hwalk
          have Hrowx := Lib.hid hrow
          have Hbx := Lib.hid hbx
          have hml := (walkJ_sub ps k (by rw [HM.out]; exact hk) mine hwalk).2
          have Hms := Lib.hid (walkJ_sub ps k (by rw [HM.out]; exact hk) mine hwalk).1
          clear hwalk hrow hbx
          obtain ⟨A, c, rfl, hnc, hcm, hsl, hnil⟩ := Hrowx.out
          have Hrow0 := Lib.hid Hrowx.out
          obtain ⟨n, hn⟩ : ∃ n, n = (base ++ mine).length := ⟨_, rfl⟩
          rw [← hn] at hnc Hrow0 ⊢
          have HN : Hid (n = base.length + mine.length) := Lib.hid (by rw [hn, List.length_append])
          have hn161 : n ≤ 400 := by rw [hn, List.length_append]; omega
          have HslA := Lib.hid hsl
          have Hnil := Lib.hid hnil
          clear hsl hnil hn Hrowx
          by_cases hlt : k < m
          · have hkp : k < ps.length := by rw [HM.out]; exact hlt
            obtain ⟨b, o, e, hc⟩ := SlAt.get (Hsl.out.below Hbx.out) (k := k) (by rw [List.length_map]; exact hkp)
            injection e with e
            injection e with e1 e2 e3
            subst e1 e2
            rw [List.getElem_map] at hc
            have Hst := Lib.hid (walkJ_take ps k hkp)
            rw [Hwalk.out] at Hst
            have Hst2 : Hid (walkJ (ps.take (k + 1)) = stepJ mine ps[k]) := Lib.hid Hst.out
            have Hnone : Hid (stepJ mine ps[k] = none → (je, jt) = (1, [])) := Lib.hid (fun h => by rw [HR3.out, walkJ_none ps (k + 1) (by rw [Hst2.out, h])])
            have hpk : ps[k].length ≤ 160 := Hpl.out _ (List.getElem_mem hkp)
            generalize ps[k] = p at *
            unfold sv at hc
            clear Hst
            rw [Nat.zero_add] at hc
            by_cases h1 : p = []
            · subst h1
              have Hs : Hid (walkJ (ps.take (k + 1)) = some mine) := Lib.hid (by rw [Hst2.out]; rfl)
              clear Hst2 Hnone
              go_wp2_with fail
              go_roundw
              case rel => exact ⟨k + 1, mine, by omega, by go_num, Hs.out, Hrow0.out, Hbx.out⟩
              case measure => simp [intOf]; omega
            · by_cases h2 : p = [46]
              · subst h2
                have Hs : Hid (walkJ (ps.take (k + 1)) = some mine) := Lib.hid (by rw [Hst2.out]; rfl)
                clear Hst2 Hnone
                go_wp2_with fail
                go_roundw
                case rel => exact ⟨k + 1, mine, by omega, by go_num, Hs.out, Hrow0.out, Hbx.out⟩
                case measure => simp [intOf]; omega
              · by_cases h3 : p = [46, 46]
                · subst h3
                  by_cases hm0 : mine = []
                  · subst hm0
                    have Hj : Hid ((je, jt) = (1, [])) := Lib.hid (Hnone.out rfl)
                    have hnb : n = base.length := by rw [HN.out]; simp
                    clear Hst2 Hnone
                    subst hnb
                    have hj := Hj.out
                    injection hj with j1 j2
                    subst j1 j2
                    go_wp2_with fail
                    go_ret
                    exact ⟨rfl, stepN Hb1.out Hbx.out⟩
                  · have Hs : Hid (walkJ (ps.take (k + 1)) = some mine.dropLast) := Lib.hid (by rw [Hst2.out]; unfold stepJ; rw [if_neg (by decide), if_pos rfl, if_neg hm0])
                    have hmp : 0 < mine.length := List.length_pos_iff.2 hm0
                    obtain ⟨q, rfl⟩ : ∃ q, n = q + 1 := ⟨n - 1, by have := HN.out; omega⟩
                    have hne : ¬ (((q + 1 : Nat) : Int) ≤ (base.length : Int)) := by
                      have := HN.out
                      omega
                    have hne2 : ¬ (q + 1 ≤ base.length) := by omega
                    obtain ⟨b2, o2, rfl, _⟩ := HslA.out (by rw [List.length_map, List.length_append]; omega)
                    have Hrow2 : Hid (Row wr (.slice (some ⟨b2, o2, none⟩) q c) (base ++ mine.dropLast)) := Lib.hid (by
                      have hdl : base ++ mine.dropLast = (base ++ mine).take q := by
                        have := HN.out
                        rw [List.take_append, List.take_of_length_le (by omega), List.dropLast_eq_take]
                        congr 2; omega
                      have hql : (base ++ mine.dropLast).length = q := by have := HN.out; simp; omega
                      refine ⟨_, c, by rw [hql], by omega, hcm, ?_, by simp⟩
                      rw [hdl, List.map_take]
                      exact HslA.out.take q)
                    clear Hst2 Hnone Hrow0
                    have hqc : q ≤ c := by omega
                    go_wp2_with fail
                    go_roundw
                    case rel => exact ⟨k + 1, _, by omega, by go_num, Hs.out, Hrow2.out, Hbx.out⟩
                    case measure => simp [intOf]; omega
                · have Hs : Hid (walkJ (ps.take (k + 1)) = some (mine ++ [p])) := Lib.hid (by rw [Hst2.out]; unfold stepJ; rw [if_neg (by simp [h1, h2]), if_neg h3])
                  have g1 : p.isEmpty = false := by simpa using h1
                  have g2 : (p == [46]) = false := by simpa using h2
                  have g3 : (p == [46, 46]) = false := by simpa using h3
                  have HCl := Lib.hid (CloneS.clone_any A n c ((base ++ mine).map sv) wr (by rw [List.length_map, List.length_append, HN.out, Nat.mul_one]) HslA.out (fun hA => by have h9 := congrArg List.length (Hnil.out hA).1; rw [List.length_append, List.length_nil] at h9; have := HN.out; omega) (svs_one _) (by unfold maxLen; omega) (by omega))
                  clear Hst2 Hnone
                  go_wp2_with fail
                  refine (HCl.out).mono ?_
                  rintro e w5 ⟨v5, rfl, ho5, hb5⟩
                  obtain ⟨w6, hw6⟩ : ∃ w6, w6 = w5.alloc (.cells #[.string (strB p)] 9) := ⟨_, rfl⟩
                  have hb6 : Below w5.heap.size w5 w6 := by rw [hw6]; exact (Below.refl _ _).alloc (Nat.le_refl _) _
                  have Ho6 := Lib.hid (own_keep ho5 hb6)
                  have Hb6 := Lib.hid (hb5.trans (hb6.mono hb5.size))
                  have Hsl6 : Hid (SlAt w6 (some ⟨w5.heap.size, 0, none⟩) [.string (strB p)]) := Lib.hid (by rw [hw6]; exact SlAt.of_heap (heap_alloc_new w5 _) rfl)
                  have Hw6 := Lib.hid hw6.symm
                  clear ho5 hb5 hw6 hb6 HCl
                  go_wp2_with (at_builtin; rw [Hw6.out]; refine wpList_app _ rfl (.tmp 76) (.tmp 78) _ rfl wr.heap.size 9 _ 1 16 tyS _ n ((base ++ mine).map sv) rfl Ho6.out (some ⟨w5.heap.size, 0, none⟩) 1 1 [.string (strB p)] rfl rfl Hsl6.out (by simp [Value.oneCell']) (by simp) (by unfold maxLen; omega) (by omega) Hb6.out.size ?_; intro v7 w7 hown7 hg7 hl7; have Ho7 := Lib.hid hown7; have Hb7 := Lib.hid (own_below Ho6.out hg7 Hb6.out Hb6.out.size); clear hown7 hg7 hl7)
                  have Hrow7 : Hid (Row w7 v7 (base ++ (mine ++ [p]))) := Lib.hid (by
                    rw [← List.append_assoc]
                    exact row_of_own (n := n + 1) (by rw [List.map_append]; exact Ho7.out) (by rw [List.length_append, List.length_append, HN.out]; rfl))
                  go_roundw
                  case rel => exact ⟨k + 1, _, by omega, by go_num, Hs.out, Hrow7.out, Hbx.out.trans (Hb7.out.mono Hbx.out.size)⟩
                  case measure => simp [intOf]; omega
          · obtain rfl : m = k := by omega
            have Hwa : Hid (walkJ ps = some mine) := Lib.hid (by have := Hwalk.out; rwa [List.take_of_length_le (by rw [HM.out]; exact Nat.le_refl _)] at this)
            have hj := HR3.out
            rw [Hwa.out] at hj
            dsimp only at hj
            have HJo := Lib.hid (join_any (.slice A n c) (base ++ mine) wr Hrow0.out (by rw [List.length_append]; omega) (fun p hp => by
              rcases List.mem_append.1 hp with h | h
              · have := Hbl.out p h; omega
              · have := Hpl.out p (Hms.out p h); omega))
            have hgl := glue_len (base ++ mine) 160 (fun p hp => by
              rcases List.mem_append.1 hp with h | h
              · exact Hbl.out p h
              · exact Hpl.out p (Hms.out p h))
            have hgl2 : (glue (base ++ mine)).length ≤ maxLen := by
              have := HN.out
              rw [List.length_append] at hgl
              have h9 : (160 + 1) * (base.length + mine.length) ≤ 161 * 400 := Nat.mul_le_mul_left 161 (by omega)
              unfold maxLen; omega
            have Hj := Lib.hid hj
            generalize glue (base ++ mine) = G at *
            clear hgl hj
            go_wp2_with fail
            refine (HJo.out).mono ?_
            rintro e w5 ⟨rfl, hb5⟩
            have Hb5 := Lib.hid ((stepN Hb1.out Hbx.out).trans (hb5.mono (stepN Hb1.out Hbx.out).size))
            have HPa := Lib.hid (parted_any G w5 hgl2 (HML.out.below Hb5.out))
            clear hb5 HJo
            go_wp2_with fail
            refine (HPa.out).mono ?_
            intro e w6 hp
            obtain ⟨A6, n6, rfl, _, _⟩ := parts_tuple hp
            have Hb6 := Lib.hid (stepN Hb5.out hp.2)
            clear hp HPa
            by_cases hz : nameE G = 0
            · have hj := Hj.out
              rw [if_neg (by simpa using hz)] at hj
              injection hj with j1 j2
              subst je
              subst jt
              rw [hz]
              clear hz
              go_wp2_with fail
              go_ret
              exact ⟨rfl, Hb6.out⟩
            · have hj := Hj.out
              rw [if_pos hz] at hj
              injection hj with j1 j2
              subst je
              subst jt
              have hz1 : (nameE G != 0) = true := by simpa using hz
              generalize nameE G = z at *
              clear hz
              go_wp2_with fail
              go_ret
              exact ⟨rfl, Hb6.out⟩
      · have hR : joinR f s = (nameE f, []) := by rw [HR.out, if_pos ⟨hfo, he⟩]
        rw [hR]
        have hz1 : (nameE f != 0) = true := by simpa using he
        generalize nameE f = z at *
        clear hR he
        (try dsimp only)
        go_wp2_with fail
        go_ret
        exact ⟨rfl, Hb3.out⟩
theorem walk (W : World) (hML : ML W) (a : ByteArray) (ha : a.data.toList.length ≤ reachBytes) (b : ByteArray) (hb : b.data.toList.length ≤ reachBytes) :
    Calls Tryd.prog 5 #[.string a, .string b] W fun e W' => e = .returned (.bool true) ∧ Below W.heap.size W W' := by
  have h := walk0 W hML a.data.toList b.data.toList (by unfold reachBytes at ha; omega) (by unfold reachBytes at hb; omega)
  simpa only [strB_back] using h
end Go.Proofs.YtdponlnfdjfljaaDoor.NameJoin
