/- package merge: Less. -/
import Derived.Test.YtdoegpklephelaaDoorMergeFind
import Derived.Test.YtdoegpklephelaaDoorMergeBoth
namespace Go.Proofs.YtdoegpklephelaaDoor.Merge
open Go Go.RowKit Go.Proofs.YtdoegpklephelaaDoor Go.Proofs.YtdoegpklephelaaDoor.Name
set_option linter.unusedVariables false

theorem own_drewN {w : World} {base size n : Nat} {e : TypeId} {v : Value} {xs : List Value} (h : w.ownsRow base e size v n xs) (k : Nat) : (w.drewN k).ownsRow base e size v n xs := h
theorem lessR_1 {a b : List Fl} (h : chkF a ≠ 0) : lessR a b = (chkF a, []) := by unfold lessR; rw [if_pos h]
theorem lessR_2 {a b : List Fl} (h : chkF a = 0) (h2 : chkF b ≠ 0) : lessR a b = (chkF b, []) := by unfold lessR; rw [if_neg (by simpa using h), if_pos h2]
theorem lessR_3 {a b : List Fl} (h : chkF a = 0) (h2 : chkF b = 0) : lessR a b = (0, lessL a b) := by unfold lessR; rw [if_neg (by simpa using h), if_neg (by simpa using h2)]
/-- a file that the other lacks -/
def pNew (b : List Fx) (x : Fx) : Bool := newB (b.map Prod.fst) x.1
theorem less_map (a b : List Fx) : (a.filter (pNew b)).map Prod.fst = lessL (a.map Prod.fst) (b.map Prod.fst) := by
  unfold lessL
  rw [List.filter_map]
  rfl
theorem take_filt {l : List Fx} (p : Fx → Bool) {k : Nat} (hk : k < l.length) : (l.take (k + 1)).filter p = (l.take k).filter p ++ (if p l[k] = true then [l[k]] else []) := by
  rw [take_snoc _ _ hk, List.filter_append]
  congr 1
  cases h : p l[k] <;> simp [h]
theorem pNew_some {b : List Fx} {x : Fx} {g : Fl} (h : lk (b.map Prod.fst) x.1.name = some g) : pNew b x = decide (0 < later x.1 g) := by unfold pNew newB; rw [h]
theorem pNew_none {b : List Fx} {x : Fx} (h : lk (b.map Prod.fst) x.1.name = none) : pNew b x = true := by unfold pNew newB; rw [h]
set_option maxRecDepth 100000 in
set_option maxHeartbeats 4000000 in
theorem less_any (v1 v2 : Value) (a b : List Fx) (w : World) (hm : ML w) (h1 : IsFiles w v1 a) (h2 : IsFiles w v2 b) :
    Calls Tryd.prog 15 #[v1, v2] w (ListPost (lessR (a.map Prod.fst) (b.map Prod.fst)) w) := by
  have HC1 := Lib.hid (fun w' (hb : Below w.heap.size w w') => check_any v1 a w' (hm.below hb) (h1.below hb))
  have HC2 := Lib.hid (fun w' (hb : Below w.heap.size w w') => check_any v2 b w' (hm.below hb) (h2.below hb))
  have H1 := Lib.hid h1
  have H2 := Lib.hid h2
  obtain ⟨A, c, rfl, _, _, hA, hA0, hda⟩ := h1
  obtain ⟨B, d, rfl, _, _, hB, hB0, hdb⟩ := h2
  have HA := Lib.hid hA
  have HB := Lib.hid hB
  have Hda := Lib.hid hda
  have Hdb := Lib.hid hdb
  obtain ⟨n, hn⟩ : ∃ n, n = a.length := ⟨_, rfl⟩
  obtain ⟨m, hm'⟩ : ∃ m, m = b.length := ⟨_, rfl⟩
  have Hn := Lib.hid hn
  have Hm := Lib.hid hm'
  have HR1 := Lib.hid (lessR_1 (a := a.map Prod.fst) (b := b.map Prod.fst))
  have HR2 := Lib.hid (lessR_2 (a := a.map Prod.fst) (b := b.map Prod.fst))
  have HR3 := Lib.hid (lessR_3 (a := a.map Prod.fst) (b := b.map Prod.fst))
  rw [← hn] at HC1 H1 ⊢
  rw [← hm'] at HC2 H2 ⊢
  clear hm hn hm' hA hA0 hda hB hB0 hdb
  generalize hR : lessR (a.map Prod.fst) (b.map Prod.fst) = R at *
  clear hR
  unfold ListPost
  have i0 : ∀ w, (Instr.index 67 (.agg #[.slice A n c, .slice B m d]) (.int .i64 0)).run Tryd.prog w = .ok (.slice A n c) w := fun _ => by kernel_rfl
  have i1 : ∀ w, (Instr.index 67 (.agg #[.slice A n c, .slice B m d]) (.int .i64 1)).run Tryd.prog w = .ok (.slice B m d) w := fun _ => by kernel_rfl
  go_enter Tryd.func15, Tryd.ntmps15
  go_wp2_with fail
  go_loopw [17] (fun i wx => ∃ k : Nat, k ≤ 2 ∧ i = .int .i64 (k : Int) ∧ Below w.heap.size w wx ∧ (1 ≤ k → chkF (a.map Prod.fst) = 0) ∧ (2 ≤ k → chkF (b.map Prod.fst) = 0)) (fun i _ => 2 - (intOf i).toNat)
  case atStart => exact ⟨0, Nat.zero_le _, rfl, Below.refl _ _, by simp, by simp⟩
  case round =>
    obtain ⟨k, hk, rfl, hb, h1, h2⟩ := hrel
    have Hb := Lib.hid hb
    have K1 := Lib.hid h1
    have K2 := Lib.hid h2
    clear hb h1 h2
    rcases (by omega : k = 0 ∨ k = 1 ∨ k = 2) with rfl | rfl | rfl
    · go_wp2_with fail
      refine (HC1.out _ Hb.out).mono ?_
      rintro e wx ⟨rfl, hbx⟩
      have Hbx := Lib.hid (stepN Hb.out hbx)
      clear hbx
      by_cases he : chkF (a.map Prod.fst) = 0
      · rw [he]
        go_wp2_with fail
        go_roundw
        case rel => exact ⟨1, by omega, by go_num, Hbx.out, fun _ => he, by simp⟩
        case measure => simp [intOf]
      · have HU := Lib.hid (HR1.out he)
        generalize chkF (a.map Prod.fst) = z at *
        have hz1 : (z != 0) = true := by simpa using he
        go_wp2_with fail
        go_ret2
        exact ⟨_, [], by rw [HU.out]; rfl, OwnFs.nil _ _, by rw [HU.out]; rfl, Hbx.out⟩
    · have hs0 := K1.out (Nat.le_refl _)
      go_wp2_with fail
      refine (HC2.out _ Hb.out).mono ?_
      rintro e wx ⟨rfl, hbx⟩
      have Hbx := Lib.hid (stepN Hb.out hbx)
      clear hbx
      by_cases he : chkF (b.map Prod.fst) = 0
      · rw [he]
        go_wp2_with fail
        go_roundw
        case rel => exact ⟨2, by omega, by go_num, Hbx.out, fun _ => hs0, fun _ => he⟩
        case measure => simp [intOf]
      · have HU := Lib.hid (HR2.out hs0 he)
        generalize chkF (b.map Prod.fst) = z at *
        have hz1 : (z != 0) = true := by simpa using he
        go_wp2_with fail
        go_ret2
        exact ⟨_, [], by rw [HU.out]; rfl, OwnFs.nil _ _, by rw [HU.out]; rfl, Hbx.out⟩
    · have hca := K1.out (by omega)
      have hcb := K2.out (by omega)
      have HR4 := Lib.hid (HR3.out hca hcb)
      obtain ⟨ha12, hab⟩ := chk_small hca
      obtain ⟨hb12, _⟩ := chk_small hcb
      rw [← Hn.out] at ha12
      rw [← Hm.out] at hb12
      have Hab := Lib.hid hab
      have Hsb := Lib.hid (chkF_ok.1 hcb).2.2
      clear HR1 HR2 HR3 HC1 HC2 hca hcb K1 K2 hab H1 H2 i0 i1
      rw [show ((2 : Nat) : Int) = (2 : Int) from rfl]
      go_wp2_with fail
      go_loopw [9, 28] (fun vo vi wx => ∃ (k : Nat) (os : List Fx), k ≤ n ∧ vi = .int .i64 (k : Int) ∧ os = (a.take k).filter (pNew b) ∧ os.length ≤ k ∧ wx.ownsRow w.heap.size 33 5 vo os.length (os.flatMap fC) ∧ Below w.heap.size w wx) (fun _ vi _ => n - (intOf vi).toNat)
      case atStart => exact ⟨0, [], Nat.zero_le _, rfl, rfl, Nat.le_refl _, World.ownsRow_nil _ _ _ _, Hb.out⟩
      case round =>
        obtain ⟨k, os, hk, rfl, hos, hol, hown, hbx⟩ := hrel
        have Hos := Lib.hid hos
        have Hown := Lib.hid hown
        have Hbx := Lib.hid hbx
        clear hos hown hbx Hb
        by_cases hlt : k < n
        · have hkl : k < a.length := by rw [← Hn.out]; exact hlt
          obtain ⟨ba, oa, rfl, ca0, ca1, ca2, ca3, ca4⟩ := files_cells HA.out hkl
          have Hfx := Lib.hid (Hda.out a[k] (List.getElem_mem hkl))
          have Htk := Lib.hid (take_filt (pNew b) hkl)
          generalize a[k] = x at *
          have HS := Lib.hid (fun w' (hb : Below w.heap.size w w') => search_files B m d b x.1.name w' Hm.out.symm (by omega) (SlAt.below HB.out hb) Hsb.out)
          have HP1 := Lib.hid (fun (g : Fl) => pNew_some (b := b) (x := x) (g := g))
          have HP2 := Lib.hid (pNew_none (b := b) (x := x))
          obtain ⟨⟨nm, bs, st, nd, gn⟩, As, ln, cp⟩ := x
          simp only [slv] at ca0 ca1 ca2 ca3 ca4
          dsimp only at HS HP1 HP2
          have Hca := Lib.hid (And.intro ca0 (And.intro ca1 (And.intro ca2 (And.intro ca3 ca4))))
          have ea0 := cell_below Hbx.out ca0
          have ea1 := cell_below Hbx.out ca1
          have ea2 := cell_below Hbx.out ca2
          have ea3 := cell_below Hbx.out ca3
          have ea4 := cell_below Hbx.out ca4
          clear ca0 ca1 ca2 ca3 ca4
          have B3 := Lib.hid (Blk.new wr 33 #[.string (strB nm), .slice As ln cp, .int .i64 st, .int .i64 nd, .bool gn])
          have Hb3 := Lib.hid (Hbx.out.alloc Hbx.out.size (.cells #[.string (strB nm), .slice As ln cp, .int .i64 st, .int .i64 nd, .bool gn] 33))
          have Hown3 := Lib.hid (Hown.out.alloc (.cells #[.string (strB nm), .slice As ln cp, .int .i64 st, .int .i64 nd, .bool gn] 33))
          clear Hown
          go_wp2_with fail
          refine (HS.out _ Hb3.out).mono ?_
          rintro e w4 ⟨⟨q, ok⟩, rfl, hok, hb4⟩
          dsimp only at hok ⊢
          have Hok := Lib.hid hok
          have B4 := Lib.hid (B3.out.below hb4 B3.out.lt)
          have Hb4 := Lib.hid (stepN Hb3.out hb4)
          have Hown4 := Lib.hid (own_keep Hown3.out hb4)
          obtain ⟨ex0, ex1, ex2, ex3, ex4⟩ := blk5 B4.out
          clear hok hb4 HS B3 Hb3 Hown3 ea0 ea1 ea2 ea3 ea4
          cases ok with
          | true =>
            obtain ⟨hqb, hlk⟩ := Hok.out.1 rfl
            have hqm : q < m := by rw [Hm.out]; exact hqb
            obtain ⟨bb, ob, rfl, cb0, cb1, cb2, cb3, cb4⟩ := files_cells HB.out hqb
            have Hfy := Lib.hid (Hdb.out b[q] (List.getElem_mem hqb))
            have HP := Lib.hid (HP1.out _ hlk)
            clear hlk HP1 HP2 Hok
            generalize b[q] = y at *
            obtain ⟨⟨n2, b2, s2, d2, g2⟩, A4, l4, c4⟩ := y
            simp only [slv] at cb0 cb1 cb2 cb3 cb4
            have Hx4 := Lib.hid (Hfx.out.below Hb4.out)
            have Hy4 := Lib.hid (Hfy.out.below Hb4.out)
            have p0 := fun p : BelowBy w4 => BelowBy.cell ex0 p
            have p1 := fun p : BelowBy w4 => BelowBy.cell ex1 p
            have p2 := fun p : BelowBy w4 => BelowBy.cell ex2 p
            have p3 := fun p : BelowBy w4 => BelowBy.cell ex3 p
            have p4 := fun p : BelowBy w4 => BelowBy.cell ex4 p
            have q0 := fun p : BelowBy w4 => BelowBy.cell (cell_below Hb4.out cb0) p
            have q1 := fun p : BelowBy w4 => BelowBy.cell (cell_below Hb4.out cb1) p
            have q2 := fun p : BelowBy w4 => BelowBy.cell (cell_below Hb4.out cb2) p
            have q3 := fun p : BelowBy w4 => BelowBy.cell (cell_below Hb4.out cb3) p
            have q4 := fun p : BelowBy w4 => BelowBy.cell (cell_below Hb4.out cb4) p
            clear cb0 cb1 cb2 cb3 cb4 ex0 ex1 ex2 ex3 ex4
            go_wp2_with fail
            refine wp_region_below (by kernel_rfl) (by kernel_rfl) ?_
            repeat (quiet_step (first | exact belowBy_calls (newer_any (⟨nm, bs, st, nd, gn⟩, As, ln, cp) (⟨n2, b2, s2, d2, g2⟩, A4, l4, c4) _ (Hx4.out.below (BelowBy.h _)) (Hy4.out.below (BelowBy.h _)))))
            refine wpQuiet_nil ?_
            intro w5 hq
            have hb5 : Below w4.heap.size w4 w5 := by obtain ⟨p, hp⟩ := hq; rw [hp]; exact p.h
            have Hb5 := Lib.hid (stepN Hb4.out hb5)
            have B5 := Lib.hid (B4.out.below hb5 B4.out.lt)
            have Hown5 := Lib.hid (own_keep Hown4.out hb5)
            clear hq hb5 p0 p1 p2 p3 p4 q0 q1 q2 q3 q4 B4 Hb4 Hown4 Hx4 Hy4
            obtain ⟨ex0, ex1, ex2, ex3, ex4⟩ := blk5 B5.out
            obtain ⟨z, hz⟩ : ∃ z, later (⟨nm, bs, st, nd, gn⟩ : Fl) ⟨n2, b2, s2, d2, g2⟩ = z := ⟨_, rfl⟩
            try simp only
            rw [hz]
            have HP3 : Hid (pNew b (⟨nm, bs, st, nd, gn⟩, As, ln, cp) = decide (0 < z)) := Lib.hid (by rw [HP.out, hz])
            clear hz HP
            by_cases h0 : 0 < z
            · have hd : decide (0 < z) = true := decide_eq_true h0
              have HT : Hid ((a.take (k + 1)).filter (pNew b) = os ++ [(⟨nm, bs, st, nd, gn⟩, As, ln, cp)]) := Lib.hid (by rw [Htk.out, ← Hos.out, HP3.out, hd]; simp)
              have Hsl := Lib.hid (SlAt.of_heap (heap_alloc_new w5 (.cells #[.string (strB nm), .slice As ln cp, .int .i64 st, .int .i64 nd, .bool gn] 33)) (xs := [.string (strB nm), .slice As ln cp, .int .i64 st, .int .i64 nd, .bool gn]) rfl)
              have Hb6 := Lib.hid (Hb5.out.alloc Hb5.out.size (.cells #[.string (strB nm), .slice As ln cp, .int .i64 st, .int .i64 nd, .bool gn] 33))
              have Hown6 := Lib.hid (Hown5.out.alloc (.cells #[.string (strB nm), .slice As ln cp, .int .i64 st, .int .i64 nd, .bool gn] 33))
              clear Hb5 Hown5 B5
              go_wp2_with (at_builtin; refine wpList_app _ rfl (.tmp 50) (.tmp 52) _ rfl w.heap.size 33 _ 5 64 tyF _ os.length (os.flatMap fC) rfl Hown6.out (some ⟨w5.heap.size, 0, none⟩) 1 1 [.string (strB nm), .slice As ln cp, .int .i64 st, .int .i64 nd, .bool gn] rfl rfl Hsl.out (by simp [Value.oneCell']) (by simp) (by unfold maxLen; omega) (by omega) Hb6.out.size ?_; intro v7 w7 hown7 hg7 _; have Ho7 := Lib.hid hown7; have Hb7 := Lib.hid (own_below Hown6.out hg7 Hb6.out Hb6.out.size); clear hown7 hg7)
              go_roundw
              case rel => exact ⟨k + 1, os ++ [(⟨nm, bs, st, nd, gn⟩, As, ln, cp)], by omega, by go_num, HT.out.symm, by simp; omega, by rw [List.length_append, List.flatMap_append]; exact Ho7.out, Hb7.out⟩
              case measure => simp [intOf]; omega
            · have hd : decide (0 < z) = false := decide_eq_false h0
              have HT : Hid ((a.take (k + 1)).filter (pNew b) = os) := Lib.hid (by rw [Htk.out, ← Hos.out, HP3.out, hd]; simp)
              go_wp2_with fail
              go_roundw
              case rel => exact ⟨k + 1, os, by omega, by go_num, HT.out.symm, by omega, Hown5.out, Hb5.out⟩
              case measure => simp [intOf]; omega
          | false =>
            have hlk := Hok.out.2 rfl
            have HP := Lib.hid (HP2.out hlk)
            clear hlk HP1 HP2 Hok
            have HT : Hid ((a.take (k + 1)).filter (pNew b) = os ++ [(⟨nm, bs, st, nd, gn⟩, As, ln, cp)]) := Lib.hid (by rw [Htk.out, ← Hos.out, HP.out]; simp)
            go_wp2_with fail
            go_big_quiet (fail)
            have Hsl := Lib.hid (SlAt.of_heap (heap_alloc_new (w4.drewN nq) (.cells #[.string (strB nm), .slice As ln cp, .int .i64 st, .int .i64 nd, .bool gn] 33)) (xs := [.string (strB nm), .slice As ln cp, .int .i64 st, .int .i64 nd, .bool gn]) rfl)
            have Hb6 := Lib.hid ((Hb4.out.drewN' nq).alloc Hb4.out.size (.cells #[.string (strB nm), .slice As ln cp, .int .i64 st, .int .i64 nd, .bool gn] 33))
            have Hown6 := Lib.hid ((own_drewN Hown4.out nq).alloc (.cells #[.string (strB nm), .slice As ln cp, .int .i64 st, .int .i64 nd, .bool gn] 33))
            clear Hb4 Hown4 B4
            go_wp2_with (at_builtin; refine wpList_app _ rfl (.tmp 50) (.tmp 52) _ rfl w.heap.size 33 _ 5 64 tyF _ os.length (os.flatMap fC) rfl Hown6.out (some ⟨(w4.drewN nq).heap.size, 0, none⟩) 1 1 [.string (strB nm), .slice As ln cp, .int .i64 st, .int .i64 nd, .bool gn] rfl rfl Hsl.out (by simp [Value.oneCell']) (by simp) (by unfold maxLen; omega) (by omega) Hb6.out.size ?_; intro v7 w7 hown7 hg7 _; have Ho7 := Lib.hid hown7; have Hb7 := Lib.hid (own_below Hown6.out hg7 Hb6.out Hb6.out.size); clear hown7 hg7)
            go_roundw
            case rel => exact ⟨k + 1, os ++ [(⟨nm, bs, st, nd, gn⟩, As, ln, cp)], by omega, by go_num, HT.out.symm, by simp; omega, by rw [List.length_append, List.flatMap_append]; exact Ho7.out, Hb7.out⟩
            case measure => simp [intOf]; omega
        · obtain rfl : k = n := by omega
          have HO : Hid (os = a.filter (pNew b)) := Lib.hid (by rw [Hos.out, List.take_of_length_le (by rw [← Hn.out]; exact Nat.le_refl _)])
          have Hsub : Hid (∀ x ∈ os, x ∈ a) := Lib.hid (fun x hx => by rw [HO.out] at hx; exact (List.mem_filter.1 hx).1)
          have HF := Lib.hid (own_files Hown.out rfl (fun x hx => (Hda.out x (Hsub.out x hx)).below Hbx.out))
          have HCo := Lib.hid (copy_any _ os _ HF.out (by omega) (fun x hx => by have := Hab.out x (Hsub.out x hx); omega))
          obtain ⟨Ao, co, rfl, _⟩ := HF.out
          clear HF Hown
          go_wp2_with fail
          refine (HCo.out).mono ?_
          rintro e w3 ⟨v3, l3, rfl, ho3, he3, hb3⟩
          have Ho3 := Lib.hid (ho3.base_ Hbx.out.size)
          have He3 := Lib.hid he3
          have Hb3 := Lib.hid (stepN Hbx.out hb3)
          clear ho3 he3 hb3
          go_wp2_with fail
          go_ret2
          exact ⟨_, l3, by rw [HR4.out]; rfl, Ho3.out, by rw [HR4.out, He3.out, HO.out]; exact less_map a b, Hb3.out⟩
end Go.Proofs.YtdoegpklephelaaDoor.Merge
