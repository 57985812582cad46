/- package inflate: codes that are told. -/
import Derived.Test.YthfbjgdophjelaaInfOrd
namespace Go.Proofs.Ythfbjgdophjelaa.Inf
open Go Go.RowKit Go.Proofs.Ythfbjgdophjelaa Go.Proofs.Ythfbjgdophjelaa.Bits Go.Proofs.Ythfbjgdophjelaa.Code
set_option linter.unusedVariables false
set_option linter.unusedSimpArgs false

theorem tabAt_tb {w : World} {base b p : Nat} {zs : List Int} (h : TabAt w b p (lsOf zs)) (hb : base ≤ b) (hc : chkL zs = 0) : TbAt w base p (lsOf zs) := by
  obtain ⟨h1, v, h2, h3⟩ := h
  obtain ⟨c1, _, c2, c3, _⟩ := chk_fine zs hc
  exact ⟨⟨Nat.le_trans hb h1, v, h2, own_base h3 hb⟩, c3, c2, by unfold lsOf; rw [List.length_map]; exact c1⟩
theorem own_here {w : World} {base size n : Nat} {e : TypeId} {v : Value} {xs : List Value} (h : w.ownsRow base e size v n xs) (h0 : 0 < n) : ∃ g c, v = .slice (some ⟨g, 0, none⟩) n c ∧ base ≤ g ∧ n ≤ c ∧ c ≤ maxLen ∧ SlAt w (some ⟨g, 0, none⟩) xs := by
  obtain ⟨A, c, rfl, h1, h2, h3, _⟩ := own_slat h
  rcases h.2 with ⟨h1', _⟩ | ⟨g, cap', cur, hv, hb, hg, _⟩
  · injection h1' with h1' h2'; omega
  · injection hv with hv; subst hv; exact ⟨g, c, rfl, hb, h1, h2, h3⟩
theorem slat_nth {w : World} {g : Nat} {xs : List Value} (h : SlAt w (some ⟨g, 0, none⟩) xs) {k : Nat} {v : Value} (hk : xs[k]? = some v) : w.cell? ⟨g, k, none⟩ = some v := by
  obtain ⟨b, o, e, hc⟩ := h (by
    rcases Nat.eq_zero_or_pos xs.length with h0 | h0
    · rw [List.eq_nil_of_length_eq_zero h0] at hk; cases hk
    · exact h0)
  injection e with e
  injection e with e1 e2
  subst e1 e2
  have := hc k v hk
  rwa [Nat.zero_add] at this
theorem TbAt.old {w w' : World} {base p B0 : Nat} {ls : List Nat} (h : TbAt w base p ls) (hk : Below w.heap.size w w') : TbAt w' base p ls := by
  obtain ⟨⟨h1, v, h2, h3⟩, h4, h5, h6⟩ := h
  exact ⟨⟨h1, v, h2.below hk h2.lt, own_keep h3 hk⟩, h4, h5, h6⟩
theorem zs_iv (s : List Nat) : (zsOf s).map iv = s.map natV := by
  unfold zsOf
  rw [List.map_map]
  rfl
theorem orderL_lt : ∀ j < 19, orderL.getD j 0 < 19 := by decide
theorem getR_len {row : List Bool} {p k : Nat} {a : Nat × Nat} (h : getR row p k = .ok a) : a.1 < 2 ^ k := getR_lt h
set_option maxRecDepth 100000 in
set_option maxHeartbeats 4000000 in
theorem codes_r (base g q : Nat) (A : Option Addr) (n c pos : Nat) (xs : List UInt8) (vo vk : Value) (w : World) (hq : base ≤ q) (hbw : base ≤ w.heap.size)
    (hb : Blk w g 41 #[.pointer (some ⟨q, 0, none⟩), vo, vk]) (hsrc : SrcAt w q A n c pos) (hp : pos ≤ 8 * n) (hi : InAt_ w base A n xs) :
    Calls Try.prog 18 #[.pointer (some ⟨g, 0, none⟩)] w fun e w' =>
      RPost (headR (bitsL xs) pos) (fun a e w' => ∃ p1 p2, e = .returned (.tuple #[.pointer (some ⟨p1, 0, none⟩), .pointer (some ⟨p2, 0, none⟩)]) ∧ TbAt w' base p1 a.2.1 ∧ TbAt w' base p2 a.2.2 ∧ SrcAt w' q A n c a.1 ∧ a.1 ≤ 8 * n) e w' ∧ OldK base w.heap.size srcT w w' := by
  obtain ⟨R, hR⟩ : ∃ R, R = headR (bitsL xs) pos := ⟨_, rfl⟩
  rw [← hR]
  unfold headR at hR
  have HU := Lib.hid hR
  have HB := Lib.hid hb
  have HS := Lib.hid hsrc
  have HI := Lib.hid hi
  have HO1 : Hid (OldK base w.heap.size srcT w w) := Lib.hid (OldK.refl _ _ _ _)
  have HI1 := HI
  have HB1 := HB
  have HS1 := HS
  have hp1 := hp
  have HG := Lib.hid (get_k base g q A n c pos 5 xs w hq (by rw [hb.cell]; rfl) hsrc hp hi (by omega))
  have hqlt : q < w.heap.size := Blk.lt hsrc
  clear hb hsrc hi hR
  go_enter Try.func18, Try.ntmps18
  go_wp2_with fail
  refine (HG.out).mono ?_
  rintro e w2 ⟨hr2, hk2⟩
  have HO2 := Lib.hid (HO1.out.keeps (hk2.mono hq (fun _ h => h)))
  cases hg2 : getR (bitsL xs) pos 5 with
  | bad z =>
    have he := rpost_bad hr2 hg2
    subst he
    have HU := Lib.hid (show R = .bad z by rw [HU.out, hg2]; rfl)
    clear hr2 hk2 hg2
    unfold stopE
    go_wp2_with fail
    exact ⟨rfl, bad_rpost HU.out, HO2.out⟩
  | ok a =>
    obtain ⟨he, hs2, hp2⟩ := rpost_ok hr2 hg2
    subst he
    have hx2 := getR_lt hg2
    replace HU := Lib.hid (HU.out.trans (by rw [hg2, then_ok]))
    have HB2 := Lib.hid (hk2.blk HB1.out (by decide))
    have HI2 := Lib.hid (HI1.out.keeps (hk2.mono hq (fun _ h => h)))
    have HS2 := Lib.hid hs2
    obtain ⟨x, p2⟩ := a
    dsimp only at hx2 HU HS2 hp2 ⊢
    have hxb : x < 32 := hx2
    have HKx := Lib.hid hk2
    clear hr2 hk2 hg2 hs2 HG hx2
    obtain ⟨m, hm⟩ : ∃ m, m = x + 257 := ⟨_, rfl⟩
    have hwm : IntKind.i64.wrap ((x : Int) + 257) = (m : Int) := by rw [show (x : Int) + 257 = (m : Int) by omega]; exact IntWalk.i64_in _ (by omega)
    rw [← hm] at HU
    have hm1 : 257 ≤ m := by omega

    have hm2 : m < 289 := by omega
    have HG := Lib.hid (get_k base g q A n c p2 5 xs w2 hq (by rw [HB2.out.cell]; rfl) HS2.out hp2 HI2.out (by omega))
    clear hm hxb
    go_wp2_with fail
    refine (HG.out).mono ?_
    rintro e w3 ⟨hr3, hk3⟩
    have HO3 := Lib.hid (HO2.out.keeps (hk3.mono hq (fun _ h => h)))
    cases hg3 : getR (bitsL xs) p2 5 with
    | bad z =>
      have he := rpost_bad hr3 hg3
      subst he
      have HU := Lib.hid (show R = .bad z by rw [HU.out, hg3]; rfl)
      clear hr3 hk3 hg3
      unfold stopE
      go_wp2_with fail
      exact ⟨rfl, bad_rpost HU.out, HO3.out⟩
    | ok a =>
      obtain ⟨he, hs3, hp3⟩ := rpost_ok hr3 hg3
      subst he
      have hx3 := getR_lt hg3
      replace HU := Lib.hid (HU.out.trans (by rw [hg3, then_ok]))
      have HB3 := Lib.hid (hk3.blk HB2.out (by decide))
      have HI3 := Lib.hid (HI2.out.keeps (hk3.mono hq (fun _ h => h)))
      have HS3 := Lib.hid hs3
      obtain ⟨x, p3⟩ := a
      dsimp only at hx3 HU HS3 hp3 ⊢
      have hxb : x < 32 := hx3
      have HKx := Lib.hid hk3
      clear hr3 hk3 hg3 hs3 HG hx3
      obtain ⟨d, hd⟩ : ∃ d, d = x + 1 := ⟨_, rfl⟩
      have hwd : IntKind.i64.wrap ((x : Int) + 1) = (d : Int) := by rw [show (x : Int) + 1 = (d : Int) by omega]; exact IntWalk.i64_in _ (by omega)
      rw [← hd] at HU
      have hd1 : 1 ≤ d := by omega

      have hd2 : d < 33 := by omega
      have HG := Lib.hid (get_k base g q A n c p3 4 xs w3 hq (by rw [HB3.out.cell]; rfl) HS3.out hp3 HI3.out (by omega))
      clear hd hxb
      go_wp2_with fail
      refine (HG.out).mono ?_
      rintro e w4 ⟨hr4, hk4⟩
      have HO4 := Lib.hid (HO3.out.keeps (hk4.mono hq (fun _ h => h)))
      cases hg4 : getR (bitsL xs) p3 4 with
      | bad z =>
        have he := rpost_bad hr4 hg4
        subst he
        have HU := Lib.hid (show R = .bad z by rw [HU.out, hg4]; rfl)
        clear hr4 hk4 hg4
        unfold stopE
        go_wp2_with fail
        exact ⟨rfl, bad_rpost HU.out, HO4.out⟩
      | ok a =>
        obtain ⟨he, hs4, hp4⟩ := rpost_ok hr4 hg4
        subst he
        have hx4 := getR_lt hg4
        replace HU := Lib.hid (HU.out.trans (by rw [hg4, then_ok]))
        have HB4 := Lib.hid (hk4.blk HB3.out (by decide))
        have HI4 := Lib.hid (HI3.out.keeps (hk4.mono hq (fun _ h => h)))
        have HS4 := Lib.hid hs4
        obtain ⟨x, p4⟩ := a
        dsimp only at hx4 HU HS4 hp4 ⊢
        have hxb : x < 16 := hx4
        have HKx := Lib.hid hk4
        clear hr4 hk4 hg4 hs4 HG hx4
        obtain ⟨C, hC⟩ : ∃ C, C = x + 4 := ⟨_, rfl⟩
        have hwC : IntKind.i64.wrap ((x : Int) + 4) = (C : Int) := by rw [show (x : Int) + 4 = (C : Int) by omega]; exact IntWalk.i64_in _ (by omega)
        rw [← hC] at HU
        have hC1 : 4 ≤ C := by omega

        have hC2 : C ≤ 19 := by omega
        clear hC hxb
        by_cases hbad : 286 < m ∨ 30 < d
        · have HU := Lib.hid (show R = .bad 8 by rw [HU.out, if_pos hbad])
          have hcnd : (decide ((m : Int) > 286) || decide ((d : Int) > 30)) = true := by
            rcases hbad with h | h
            · have : (m : Int) > 286 := by omega
              simp [this]
            · have : (d : Int) > 30 := by omega
              simp [this]
          rcases (by omega : 286 < m ∨ (m ≤ 286 ∧ 30 < d)) with h1 | ⟨h1, h2⟩
          · have h1' : (286 : Int) < (m : Int) := by omega
            clear hcnd hbad
            go_wp2_with fail
            refine (fail_any 8 _).mono ?_
            rintro e w5 ⟨rfl, rfl⟩
            unfold stopE
            go_wp2_with fail
            exact ⟨rfl, bad_rpost HU.out, HO4.out⟩
          · have h1' : (m : Int) ≤ 286 := by omega
            have h2' : (30 : Int) < (d : Int) := by omega
            clear hcnd hbad
            go_wp2_with fail
            refine (fail_any 8 _).mono ?_
            rintro e w5 ⟨rfl, rfl⟩
            unfold stopE
            go_wp2_with fail
            exact ⟨rfl, bad_rpost HU.out, HO4.out⟩
        · replace HU := Lib.hid (HU.out.trans (if_neg hbad))
          have hm3 : m ≤ 286 := by omega
          have hd3 : d ≤ 30 := by omega
          have hm' : (m : Int) ≤ 286 := by omega
          have hd' : (d : Int) ≤ 30 := by omega
          clear hbad hm2 hd2
          have hmk : ∀ u : World, (Instr.makeSlice 23 (.int .i64 19) (.int .i64 19)).run Try.prog u = .ok (.slice (some ⟨u.heap.size, 0, none⟩) 19 19) (u.alloc (.cells (nats (List.replicate 19 0)) 3)) := fun u => by rw [← nats_zero]; exact make_ints 19 (by omega) u
          have HOr := Lib.hid (order_any (w4.alloc (.cells (nats (List.replicate 19 0)) 3)))
          go_wp2_with fail
          refine (HOr.out).mono ?_
          rintro e w5 ⟨rfl, hb5⟩
          have hst := store_ord w5
          have hB4 := HO4.out.size
          have HO5 : Hid (OldK base w.heap.size srcT w w5) := Lib.hid ((HO4.out.below ((Below.refl _ _).alloc hB4 _) hbw).below (hb5.mono (by simp; omega)) hbw)
          have HS5 : Hid (SrcAt w5 q A n c p4) := Lib.hid (Blk.below ((HS4.out.below ((Below.refl _ _).alloc (Nat.le_refl _) _) (Blk.lt HS4.out))) hb5 (by have := Blk.lt HS4.out; simp; omega))
          obtain ⟨F, hU, hF⟩ : ∃ F, (R = (sizesR (bitsL xs) (orderL.take C) p4 (List.replicate 19 0)).then_ F) ∧ F = _ := ⟨_, HU.out, rfl⟩
          have HU := Lib.hid hU
          have HF := Lib.hid hF
          clear hU
          have Hsz : Hid (Blk w5 w4.heap.size 3 (nats (List.replicate 19 0))) := Lib.hid ((Blk.new w4 3 (nats (List.replicate 19 0))).below hb5 (by simp))
          have hC' : (C : Int) ≤ 19 := by omega
          have hC0 : (0 : Int) ≤ (C : Int) := by omega
          have hlt5 : w4.heap.size < w5.heap.size := by have := Blk.lt Hsz.out; omega
          have hgs : w.heap.size ≤ w4.heap.size := hB4
          clear hF hb5 HOr hmk
          go_wp2_with fail
          have hb6 : Below w5.heap.size w5 ((w5.alloc (.cells #[.int .i64 0, .int .i64 0, .int .i64 0, .int .i64 0, .int .i64 0, .int .i64 0, .int .i64 0, .int .i64 0, .int .i64 0, .int .i64 0, .int .i64 0, .int .i64 0, .int .i64 0, .int .i64 0, .int .i64 0, .int .i64 0, .int .i64 0, .int .i64 0, .int .i64 0] 65)).setRow w5.heap.size ordA) := below_setRow ((Below.refl _ _).alloc (Nat.le_refl _) _) (Nat.le_refl _) _
          have HO6 := Lib.hid (HO5.out.below (hb6.mono HO5.out.size) hbw)
          have HS6 := Lib.hid (Blk.below HS5.out hb6 (Blk.lt HS5.out))
          have Hsz6 := Lib.hid (Hsz.out.below hb6 hlt5)
          have Hor6 : Hid (Blk ((w5.alloc (.cells #[.int .i64 0, .int .i64 0, .int .i64 0, .int .i64 0, .int .i64 0, .int .i64 0, .int .i64 0, .int .i64 0, .int .i64 0, .int .i64 0, .int .i64 0, .int .i64 0, .int .i64 0, .int .i64 0, .int .i64 0, .int .i64 0, .int .i64 0, .int .i64 0, .int .i64 0] 65)).setRow w5.heap.size ordA) w5.heap.size 65 ordA) := Lib.hid ((Blk.new _ _ _).setRow ordA)
          have hgo : w.heap.size ≤ w5.heap.size := HO5.out.size
          generalize ((w5.alloc (.cells #[.int .i64 0, .int .i64 0, .int .i64 0, .int .i64 0, .int .i64 0, .int .i64 0, .int .i64 0, .int .i64 0, .int .i64 0, .int .i64 0, .int .i64 0, .int .i64 0, .int .i64 0, .int .i64 0, .int .i64 0, .int .i64 0, .int .i64 0, .int .i64 0, .int .i64 0] 65)).setRow w5.heap.size ordA) = w6 at *
          generalize w4.heap.size = gs at *
          generalize w5.heap.size = go at *
          clear hst HS5 Hsz HO5 hb6
          go_loopw [33] (fun vi wr => ∃ (j p : Nat) (s : List Nat), j ≤ C ∧ vi = .int .i64 (j : Int) ∧ s.length = 19 ∧ R = (sizesR (bitsL xs) ((orderL.take C).drop j) p s).then_ F ∧ p ≤ 8 * n ∧ SrcAt wr q A n c p ∧ Blk wr gs 3 (nats s) ∧ Blk wr go 65 ordA ∧ OldK base w.heap.size srcT w wr) (fun vi _ => C - (intOf vi).toNat)
          case atStart => exact ⟨0, p4, List.replicate 19 0, Nat.zero_le _, rfl, rfl, HU.out, hp4, HS6.out, Hsz6.out, Hor6.out, HO6.out⟩
          case round =>
            obtain ⟨j, p, s, hj, rfl, hsl, hR, hple, hsr, hsz, hor, hold⟩ := hrel
            have Hsl := Lib.hid hsl
            clear HU HO6 HS6 Hsz6 Hor6 hsl
            have HI6 := Lib.hid (HI.out.old hold)
            have HB6 := Lib.hid (hold.blk HB.out (by decide))
            have HO6 := Lib.hid hold
            have HS6 := Lib.hid hsr
            have Hsz := Lib.hid hsz
            have Hor := Lib.hid hor
            by_cases hlt : j < C
            · obtain ⟨k, hk⟩ : ∃ k, k = orderL.getD j 0 := ⟨_, rfl⟩
              have hk19 : k < 19 := by rw [hk]; exact orderL_lt j (by omega)
              have hcell : wr.cell? ⟨go, j, none⟩ = some (.int .i64 (k : Int)) := by
                have hj19 : j < orderL.length := by show j < 19; omega
                rw [hor.cell, ordA_eq, List.getElem?_toArray, List.getElem?_map, List.getElem?_eq_getElem hj19, hk, List.getD_eq_getElem?_getD, List.getElem?_eq_getElem hj19]
                rfl
              have hdr : (orderL.take C).drop j = k :: (orderL.take C).drop (j + 1) := by
                have hj19 : j < (orderL.take C).length := by rw [List.length_take]; show j < min C 19; omega
                rw [List.drop_eq_getElem_cons hj19, hk, List.getElem_take, List.getD_eq_getElem?_getD, List.getElem?_eq_getElem (by show j < 19; omega)]
                rfl
              have HU := Lib.hid (show R = ((getR (bitsL xs) p 3).then_ fun x => sizesR (bitsL xs) ((orderL.take C).drop (j + 1)) x.2 (s.set k x.1)).then_ F by rw [hR, hdr]; rfl)
              have HG := Lib.hid (get_k base g q A n c p 3 xs wr hq (by rw [HB6.out.cell]; rfl) hsr hple HI6.out (by omega))
              have hjC : (j : Int) < (C : Int) := by omega
              have hj0 : (0 : Int) ≤ (j : Int) := by omega
              have hk0 : (0 : Int) ≤ (k : Int) := by omega
              have hk19' : (k : Int) < 19 := by omega
              clear hk hdr hR hold hsr hsz hor
              go_wp2_with fail
              refine (HG.out).mono ?_
              rintro e w7 ⟨hr7, hk7⟩
              have HO7 := Lib.hid (HO6.out.keeps (hk7.mono hq (fun _ h => h)))
              cases hg7 : getR (bitsL xs) p 3 with
              | bad z =>
                have he := rpost_bad hr7 hg7
                subst he
                have HU := Lib.hid (show R = .bad z by rw [HU.out, hg7]; rfl)
                clear hr7 hk7 hg7
                unfold stopE
                go_wp2_with fail
                exact ⟨rfl, bad_rpost HU.out, HO7.out⟩
              | ok a =>
                obtain ⟨he, hs7, hp7⟩ := rpost_ok hr7 hg7
                subst he
                have hx7 := getR_lt hg7
                replace HU := Lib.hid (HU.out.trans (by rw [hg7, then_ok]))
                have HB7 := Lib.hid (hk7.blk HB6.out (by decide))
                have HI7 := Lib.hid (HI6.out.keeps (hk7.mono hq (fun _ h => h)))
                have HS7 := Lib.hid hs7
                obtain ⟨x, p7⟩ := a
                dsimp only at hx7 HU HS7 hp7 ⊢
                have hxb : x < 8 := hx7
                have HKx := Lib.hid hk7
                clear hr7 hk7 hg7 hs7 HG hx7
                have Hsz7 := Lib.hid (HKx.out.blk Hsz.out (by decide))
                have Hor7 := Lib.hid (HKx.out.blk Hor.out (by decide))
                have hc7 : w7.cell? ⟨gs, k, none⟩ = some (.int .i64 ((s.getD k 0 : Nat) : Int)) := by
                  rw [Hsz7.out.cell, nats_get _ _ (by rw [Hsl.out]; exact hk19), List.getD_eq_getElem?_getD, List.getElem?_eq_getElem (by rw [Hsl.out]; exact hk19)]
                  rfl
                have hf7 := Hsz7.out.frozen k
                have HU := Lib.hid (show R = (sizesR (bitsL xs) ((orderL.take C).drop (j + 1)) p7 (s.set k x)).then_ F from HU.out)
                generalize s.getD k 0 = ov at hc7
                clear HKx Hsz Hor
                go_wp2_with fail
                go_roundw
                case rel => exact ⟨j + 1, p7, s.set k x, by omega, by go_num, by rw [List.length_set]; exact Hsl.out, HU.out, hp7, Blk.far HS7.out (p := ⟨gs, k, none⟩) (by show q ≠ gs; omega) _, by rw [← nats_set]; exact Hsz7.out.set_ k _, Hor7.out.far (p := ⟨gs, k, none⟩) (by show go ≠ gs; omega) _, HO7.out.below ((Below.refl _ _).setCell (p := ⟨gs, k, none⟩) hgs _) hbw⟩
                case measure => simp [intOf]; omega
            · obtain rfl : j = C := by omega
              have HU := Lib.hid (show R = F (p, s) by rw [hR, List.drop_of_length_le (by rw [List.length_take]; omega)]; rfl)
              rw [HF.out] at HU
              dsimp only at HU
              have HT := Lib.hid (table_r (some ⟨gs, 0, none⟩) 19 19 (zsOf s) wr (by unfold zsOf; rw [List.length_map]; exact Hsl.out) (by decide) (show SlAt _ _ _ by rw [zs_iv]; exact SlAt.of_heap hsz (by simp [nats])))
              have hB6 := hold.size
              obtain ⟨N, hN⟩ : ∃ N, N = m + d := ⟨_, rfl⟩
              have hwN : IntKind.i64.wrap ((m : Int) + (d : Int)) = (N : Int) := by rw [show (m : Int) + (d : Int) = (N : Int) by omega]; exact IntWalk.i64_in _ (by omega)
              have hN1 : m < N := by omega
              have hN2 : N ≤ 316 := by omega
              have hNd : N - m = d := by omega
              rw [← hN] at HU
              have hj19 : ¬ (j : Int) < (j : Int) := by omega
              clear hN hR hold hsr hsz hor HF Hsz Hor
              go_wp2_with fail
              refine (HT.out).mono ?_
              rintro e w8 ⟨hr8, hb8⟩
              have HO8 := Lib.hid (HO6.out.below (hb8.mono hB6) hbw)
              cases ht8 : tableR (zsOf s) with
              | bad z =>
                have he := rpost_bad hr8 ht8
                subst he
                have HU := Lib.hid (show R = .bad z by rw [HU.out, ht8]; rfl)
                clear hr8 hb8 ht8
                unfold stopE
                go_wp2_with fail
                exact ⟨rfl, bad_rpost HU.out, HO8.out⟩
              | ok ls =>
                obtain ⟨hc8, tp, he, ht⟩ := rpost_ok hr8 ht8
                subst he
                have els : lsOf (zsOf s) = ls := by
                  unfold tableR at ht8
                  rw [if_pos hc8] at ht8
                  injection ht8
                rw [← els] at ht
                have HTb := Lib.hid (show TbAt w8 base tp ls by rw [← els]; exact tabAt_tb ht (Nat.le_trans hbw hB6) hc8)
                replace HU := Lib.hid (HU.out.trans (by rw [ht8, then_ok]))
                have HS8 := Lib.hid (Blk.below HS6.out hb8 (Blk.lt HS6.out))
                have HB8 := Lib.hid (HB6.out.below hb8 (Blk.lt HB6.out))
                have HI8 := Lib.hid (HI.out.old HO8.out)
                have hbw8 : base ≤ w8.heap.size := Nat.le_trans hbw HO8.out.size
                have HL := Lib.hid (lengths_r base base g q tp A n c p N xs ls vo vk w8 hq hbw8 HB8.out HS8.out hple HI8.out HTb.out hN2)
                clear hr8 hb8 ht8 els ht hc8 HT
                go_wp2_with fail
                refine (HL.out).mono ?_
                rintro e w9 ⟨hr9, hk9⟩
                have HO9 := Lib.hid (HO8.out.trans (hk9.mono HO8.out.size))
                cases hl9 : lenR (bitsL xs) ls N N p [] with
                | bad z =>
                  have he := rpost_bad hr9 hl9
                  subst he
                  have HU := Lib.hid (show R = .bad z by rw [HU.out, hl9]; rfl)
                  clear hr9 hk9 hl9
                  unfold stopE
                  go_wp2_with fail
                  exact ⟨rfl, bad_rpost HU.out, HO9.out⟩
                | ok a =>
                  obtain ⟨A9, c9, he, hll, hown, hs9, hp9⟩ := rpost_ok hr9 hl9
                  subst he
                  replace HU := Lib.hid (HU.out.trans (by rw [hl9, then_ok]))
                  obtain ⟨p9, l⟩ := a
                  dsimp only at hll hown hs9 hp9 HU ⊢
                  obtain ⟨g9, c9', e9, hg9, hc9, hc9m, hsl9⟩ := own_here hown (by omega)
                  injection e9 with e1 e2 e3
                  subst e1 e3
                  have HOwn := Lib.hid hown
                  have HS9 := Lib.hid hs9
                  obtain ⟨v, hv⟩ : ∃ v, v = l.getD 256 0 := ⟨_, rfl⟩
                  have hl256 : l[256]? = some v := by rw [hv, List.getD_eq_getElem?_getD, List.getElem?_eq_getElem (by omega)]; rfl
                  have hc256 : w9.cell? ⟨g9, 256, none⟩ = some (.int .i64 (v : Int)) := by
                    exact slat_nth hsl9 (by rw [List.getElem?_map, hl256]; rfl)
                  rw [← hv] at HU
                  have hN256 : (256 : Int) < (N : Int) := by omega
                  have Hl := Lib.hid hll
                  clear hr9 hk9 hl9 hown hs9 hv hl256 hll hsl9 HL
                  by_cases hv0 : v = 0
                  · subst hv0
                    have HU := Lib.hid (show R = .bad 8 by rw [HU.out, if_pos rfl])
                    go_wp2_with fail
                    refine (fail_any 8 _).mono ?_
                    rintro e w10 ⟨rfl, rfl⟩
                    unfold stopE
                    go_wp2_with fail
                    exact ⟨rfl, bad_rpost HU.out, HO9.out⟩
                  · replace HU := Lib.hid (HU.out.trans (if_neg hv0))
                    have hvb : ((v : Int) == 0) = false := by rw [beq_eq_false_iff_ne]; omega
                    clear hv0
                    go_wp2_with fail
                    have hmN : (m : Int) ≤ (N : Int) := by omega
                    have hm0 : (0 : Int) ≤ (m : Int) := by omega
                    have hNc : (N : Int) ≤ (c9 : Int) := by omega
                    have hmc : (m : Int) ≤ (c9 : Int) := by omega
                    have hmc' : ¬ (c9 = m) := by omega
                    have hmcn : (m : Int) ≠ (c9 : Int) := by omega
                    refine wp_region_S (fun _ => True) 9 (by kernel_rfl) ?_
                    have hHeld : True := True.intro
                    obtain ⟨w10, hw10⟩ : ∃ w10, w10 = w9.drew := ⟨_, rfl⟩
                    have hb10 : Below w9.heap.size w9 w10 := by rw [hw10]; exact (Below.refl _ _).drew
                    have HOwn := Lib.hid (own_keep HOwn.out hb10)
                    have HS10 := Lib.hid (Blk.below HS9.out hb10 (Blk.lt HS9.out))
                    have HO10 := Lib.hid (HO9.out.below (hb10.mono HO9.out.size) hbw)
                    rw [← hw10]
                    clear hw10 hb10 hc256 HS9 HO9
                    refine wpAnyS_takeT (i := 0) (v := ?va0) (by kernel_rfl) (by kernel_rfl) rfl (by kernel_rfl) (by kernel_rfl) (by kernel_rfl) (fun _ _ _ h => h) (by rfl) (by assumption) ?hya0 ?resta0
                    case hya0 => (intro W hSW; (try dsimp only at hSW); go_simp; try with_reducible rfl)
                    (try simp only [Act.put, List.getElem_toArray, List.getElem_cons_zero, List.getElem_cons_succ, List.setIfInBounds_toArray, List.set_cons_zero, List.set_cons_succ])
                    refine wpAnyS_takeT (i := 1) (v := ?va1) (by kernel_rfl) (by kernel_rfl) rfl (by kernel_rfl) (by kernel_rfl) (by kernel_rfl) (fun _ _ _ h => h) (by rfl) (by assumption) ?hya1 ?resta1
                    case hya1 => (intro W hSW; (try dsimp only at hSW); go_simp; try with_reducible rfl)
                    (try simp only [Act.put, List.getElem_toArray, List.getElem_cons_zero, List.getElem_cons_succ, List.setIfInBounds_toArray, List.set_cons_zero, List.set_cons_succ])
                    refine wpAnyS_takeT (i := 2) (v := ?va2) (by kernel_rfl) (by kernel_rfl) rfl (by kernel_rfl) (by kernel_rfl) (by kernel_rfl) (fun _ _ _ h => h) (by rfl) (by assumption) ?hya2 ?resta2
                    case hya2 => (intro W hSW; (try dsimp only at hSW); go_simp; try with_reducible rfl)
                    (try simp only [Act.put, List.getElem_toArray, List.getElem_cons_zero, List.getElem_cons_succ, List.setIfInBounds_toArray, List.set_cons_zero, List.set_cons_succ])
                    refine wpAnyS_takeT (i := 4) (v := ?va4) (by kernel_rfl) (by kernel_rfl) rfl (by kernel_rfl) (by kernel_rfl) (by kernel_rfl) (fun _ _ _ h => h) (by rfl) (by assumption) ?hya4 ?resta4
                    case hya4 => (intro W hSW; (try dsimp only at hSW); go_simp; try with_reducible rfl)
                    (try simp only [Act.put, List.getElem_toArray, List.getElem_cons_zero, List.getElem_cons_succ, List.setIfInBounds_toArray, List.set_cons_zero, List.set_cons_succ])
                    refine wpAnyS_takeT (i := 5) (v := ?va5) (by kernel_rfl) (by kernel_rfl) rfl (by kernel_rfl) (by kernel_rfl) (by kernel_rfl) (fun _ _ _ h => h) (by rfl) (by assumption) ?hya5 ?resta5
                    case hya5 => (intro W hSW; (try dsimp only at hSW); go_simp; try with_reducible rfl)
                    (try simp only [Act.put, List.getElem_toArray, List.getElem_cons_zero, List.getElem_cons_succ, List.setIfInBounds_toArray, List.set_cons_zero, List.set_cons_succ])
                    refine wpAnyS_takeT (i := 6) (v := ?va6) (by kernel_rfl) (by kernel_rfl) rfl (by kernel_rfl) (by kernel_rfl) (by kernel_rfl) (fun _ _ _ h => h) (by rfl) (by assumption) ?hya6 ?resta6
                    case hya6 => (intro W hSW; (try dsimp only at hSW); go_simp; try with_reducible rfl)
                    (try simp only [Act.put, List.getElem_toArray, List.getElem_cons_zero, List.getElem_cons_succ, List.setIfInBounds_toArray, List.set_cons_zero, List.set_cons_succ])
                    obtain ⟨gb, gcap, eg, _, _, _, hsl⟩ := own_here HOwn.out (by omega)
                    injection eg with e1 e2 e3
                    injection e1 with e1
                    injection e1 with e1
                    subst e1 e3
                    have htake : (l.take m).length = m := by rw [List.length_take, Hl.out]; omega
                    have hdrop : (l.drop m).length = d := by rw [List.length_drop, Hl.out]; exact hNd
                    have HT1 := Lib.hid (fun W (h : SlAt W (some ⟨g9, 0, none⟩) ((l.map natV))) (cc : Nat) => table_r (some ⟨g9, 0, none⟩) m cc (zsOf (l.take m)) W (by unfold zsOf; rw [List.length_map]; exact htake) (by unfold maxLen; omega) (show SlAt _ _ _ by rw [zs_iv, List.map_take]; exact SlAt.take h m))
                    have HT2 := Lib.hid (fun W (h : SlAt W (some ⟨g9, 0, none⟩) ((l.map natV))) (cc : Nat) => table_r (some ⟨g9, m, none⟩) d cc (zsOf (l.drop m)) W (by unfold zsOf; rw [List.length_map]; exact hdrop) (by unfold maxLen; omega) (show SlAt _ _ _ by rw [zs_iv, List.map_drop]; have := SlAt.drop h m; rwa [Nat.zero_add] at this))
                    have Hsl := Lib.hid hsl
                    have hB10 := HO10.out.size
                    clear hsl htake hdrop HOwn
                    refine wpAnyS_only (i := 3) rfl (by kernel_rfl) (fun K hK => ?_)
                    go_simp
                    clear hHeld
                    go_at_call 28
                    refine (HT1.out w10 Hsl.out _).mono ?_
                    rintro e w11 ⟨hr11, hb11⟩
                    have HO11 := Lib.hid (HO10.out.below (hb11.mono hB10) hbw)
                    cases ht11 : tableR (zsOf (l.take m)) with
                    | bad z =>
                      have he := rpost_bad hr11 ht11
                      subst he
                      have HU := Lib.hid (show R = .bad z by rw [HU.out, ht11]; rfl)
                      clear hr11 hb11 ht11
                      unfold stopE
                      go_wp2_with fail
                      exact ⟨rfl, bad_rpost HU.out, HO11.out⟩
                    | ok l1 =>
                      obtain ⟨hc11, p1, he, ht⟩ := rpost_ok hr11 ht11
                      subst he
                      have els : lsOf (zsOf (l.take m)) = l1 := by
                        unfold tableR at ht11
                        rw [if_pos hc11] at ht11
                        injection ht11
                      rw [← els] at ht
                      have HTb1 := Lib.hid (show TbAt w11 base p1 l1 by rw [← els]; exact tabAt_tb ht (Nat.le_trans hbw hB10) hc11)
                      replace HU := Lib.hid (HU.out.trans (by rw [ht11, then_ok]))
                      have HS11 := Lib.hid (Blk.below HS10.out hb11 (Blk.lt HS10.out))
                      have Hsl := Lib.hid (SlAt.below Hsl.out hb11)
                      have hB11 := HO11.out.size
                      clear hr11 hb11 ht11 els ht hc11 HT1 HS10
                      refine hK.out _ _ True.intro (fun hHeld => ?_)
                      clear hK K
                      (try simp only [Act.put, List.getElem_toArray, List.getElem_cons_zero, List.getElem_cons_succ, List.setIfInBounds_toArray, List.set_cons_zero, List.set_cons_succ])
                      refine wpAnyS_only (i := 7) rfl (by kernel_rfl) (fun K hK => ?_)
                      go_simp
                      go_at_call 28
                      refine (HT2.out w11 Hsl.out _).mono ?_
                      rintro e w12 ⟨hr12, hb12⟩
                      have HO12 := Lib.hid (HO11.out.below (hb12.mono hB11) hbw)
                      cases ht12 : tableR (zsOf (l.drop m)) with
                      | bad z =>
                        have he := rpost_bad hr12 ht12
                        subst he
                        have HU := Lib.hid (show R = .bad z by rw [HU.out, ht12]; rfl)
                        clear hr12 hb12 ht12
                        unfold stopE
                        go_wp2_with fail
                        exact ⟨rfl, bad_rpost HU.out, HO12.out⟩
                      | ok l2 =>
                        obtain ⟨hc12, p2', he, ht⟩ := rpost_ok hr12 ht12
                        subst he
                        have els : lsOf (zsOf (l.drop m)) = l2 := by
                          unfold tableR at ht12
                          rw [if_pos hc12] at ht12
                          injection ht12
                        rw [← els] at ht
                        have HTb2 := Lib.hid (show TbAt w12 base p2' l2 by rw [← els]; exact tabAt_tb ht (Nat.le_trans hbw hB11) hc12)
                        have HTb1 := Lib.hid (HTb1.out.old (B0 := 0) hb12)
                        replace HU := Lib.hid (HU.out.trans (by rw [ht12, then_ok]))
                        have HS12 := Lib.hid (Blk.below HS11.out hb12 (Blk.lt HS11.out))
                        clear hr12 hb12 ht12 els ht hc12 HT2 HS11 Hsl
                        refine hK.out _ _ True.intro (fun hHeld => ?_)
                        clear hK K
                        (try simp only [Act.put, List.getElem_toArray, List.getElem_cons_zero, List.getElem_cons_succ, List.setIfInBounds_toArray, List.set_cons_zero, List.set_cons_succ])
                        refine wpAnyS_only (i := 8) rfl (by kernel_rfl) (fun K hK => ?_)
                        go_simp
                        refine hK.out _ _ True.intro (fun hHeld => ?_)
                        clear hK K
                        (try simp only [Act.put, List.getElem_toArray, List.getElem_cons_zero, List.getElem_cons_succ, List.setIfInBounds_toArray, List.set_cons_zero, List.set_cons_succ])
                        refine wpAnyS_last rfl (by kernel_rfl) (by kernel_rfl) (fun K hK => ?_)
                        go_simp
                        refine hK.out _ _ ?_
                        clear hK K
                        go_wp2_with fail
                        go_ret2
                        exact ⟨ok_rpost HU.out ⟨p1, p2', rfl, HTb1.out, HTb2.out, HS12.out, hp9⟩, HO12.out⟩
end Go.Proofs.Ythfbjgdophjelaa.Inf
