/- package inflate: lengths that are told. -/
import Derived.Test.YthfbjgdophjelaaInfOld
import Derived.Test.YthfbjgdophjelaaInfBody
namespace Go.Proofs.Ythfbjgdophjelaa.Inf
open Go Go.RowKit Go.Proofs.Ythfbjgdophjelaa Go.Proofs.Ythfbjgdophjelaa.Bits Go.Proofs.Ythfbjgdophjelaa.Code
set_option linter.unusedVariables false
set_option linter.unusedSimpArgs false

theorem AgAt.keeps {w w' : World} {B gl gn n : Nat} {l : List Nat} {base : Nat} (h : AgAt w B gl gn n l) (hk : Keeps base srcT w w') : AgAt w' B gl gn n l := by
  obtain ⟨hgl, ⟨vl, hbl, hol, hne⟩, hbn, hfit, hfew⟩ := h
  exact ⟨hgl, ⟨vl, hk.blk hbl (by decide), hk.own hol (by decide), hne⟩, hk.blk hbn (by decide), hfit, hfew⟩
theorem AgAt.at_ {w : World} {B gl gn n : Nat} {l : List Nat} (h : AgAt w B gl gn n l) : ∃ Al cl, w.cell? ⟨gl, 0, none⟩ = some (.slice Al l.length cl) ∧ w.cell? ⟨gn, 0, none⟩ = some (.int .i64 (n : Int)) := by
  obtain ⟨hgl, ⟨vl, hbl, hol, hne⟩, hbn, hfit, hfew⟩ := h
  obtain ⟨Al, cl, rfl, _⟩ := own_slat hol
  exact ⟨Al, cl, by rw [hbl.cell]; rfl, by rw [hbn.cell]; rfl⟩
/-- how many numbers stand in the cell's row -/
def lenAt (gl : Nat) (w : World) : Nat := match w.cell? ⟨gl, 0, none⟩ with
  | some (.slice _ L _) => L
  | _ => 0
theorem lenAt_ag {w : World} {B gl gn n : Nat} {l : List Nat} (h : AgAt w B gl gn n l) : lenAt gl w = l.length := by
  obtain ⟨Al, cl, h1, _⟩ := h.at_
  unfold lenAt
  rw [h1]
/-- the last number, in every world that has the row -/
theorem AgAt.last {w : World} {B gl gn n : Nat} {l : List Nat} (h : AgAt w B gl gn n l) (h0 : l ≠ []) : ∃ b o cl, (∀ W T base, Keeps base T w W → 23 ∉ T → 3 ∉ T → W.cell? ⟨gl, 0, none⟩ = some (.slice (some ⟨b, o, none⟩) l.length cl) ∧ W.cell? ⟨b, o + (l.length - 1), none⟩ = some (.int .i64 (l.getLastD 0 : Int))) := by
  obtain ⟨hgl, ⟨vl, hbl, hol, hne⟩, hbn, hfit, hfew⟩ := h
  obtain ⟨Al, cl, rfl, _, _, hsl, _⟩ := own_slat hol
  have hp : 0 < l.length := List.length_pos_iff.2 h0
  obtain ⟨b, o, rfl, _⟩ := hsl (by rw [List.length_map]; exact hp)
  refine ⟨b, o, cl, fun W T base hk h1 h2 => ⟨by rw [(hk.blk hbl h1).cell]; rfl, ?_⟩⟩
  obtain ⟨A', c', e, _, _, hs', _⟩ := own_slat (hk.own hol h2)
  injection e with e1 e2 e3
  subst e1
  obtain ⟨b', o', e, hc⟩ := hs' (by rw [List.length_map]; exact hp)
  injection e with e
  injection e with e1 e2 e3
  subst e1 e2
  refine hc (l.length - 1) _ ?_
  rw [List.getElem?_map, List.getElem?_eq_getElem (by omega)]
  have e : l[l.length - 1]'(by omega) = l.getLastD 0 := by
    rw [List.getLastD_eq_getLast?, List.getLast?_eq_getElem?, List.getElem?_eq_getElem (by omega)]; rfl
  rw [e]
  rfl
theorem againR_len {n : Nat} {l m : List Nat} {v k : Nat} (h : againR n l v k = .ok m) : m.length = l.length + k ∧ m.length ≤ n := by
  unfold againR at h
  split at h
  · cases h
  · injection h with h
    subst h
    simp
    omega
set_option maxRecDepth 100000 in
set_option maxHeartbeats 4000000 in
theorem lengths_r (base tb g q tp : Nat) (A : Option Addr) (n c pos N : Nat) (xs : List UInt8) (ls : List Nat) (vo vk : Value) (w : World) (hq : base ≤ q) (hbw : base ≤ w.heap.size)
    (hb : Blk w g 41 #[.pointer (some ⟨q, 0, none⟩), vo, vk]) (hsrc : SrcAt w q A n c pos) (hp : pos ≤ 8 * n) (hi : InAt_ w base A n xs) (hT : TbAt w tb tp ls) (hN : N ≤ 316) :
    Calls Try.prog 27 #[.pointer (some ⟨g, 0, none⟩), .pointer (some ⟨tp, 0, none⟩), .int .i64 (N : Int)] w fun e w' =>
      RPost (lenR (bitsL xs) ls N N pos []) (fun a e w' => ∃ A' c', e = .returned (.slice A' N c') ∧ a.2.length = N ∧ w'.ownsRow w.heap.size 3 1 (.slice A' N c') N (a.2.map natV) ∧ SrcAt w' q A n c a.1 ∧ a.1 ≤ 8 * n) e w' ∧ OldK base w.heap.size srcT w w' := by
  obtain ⟨R, hR⟩ : ∃ R, R = lenR (bitsL xs) ls N N pos [] := ⟨_, rfl⟩
  rw [← hR]
  have HU := Lib.hid hR
  have HB := Lib.hid hb
  have HS := Lib.hid hsrc
  have HI := Lib.hid hi
  have HT := Lib.hid hT
  clear hb hsrc hi hT hR
  go_enter Try.func27, Try.ntmps27
  go_wp2_with fail
  generalize hg : w.heap.size = gn at *
  have Hgn := Lib.hid hg
  have HOld : Hid (OldK base gn srcT w w) := Lib.hid (OldK.refl _ _ _ _)
  have hb2 : Below gn w ((w.alloc (.cells #[.int .i64 (N : Int)] 3)).alloc (.cells #[.slice none 0 0] 23)) := by
    have h1 : Below gn w (w.alloc (.cells #[.int .i64 (N : Int)] 3)) := (Below.refl _ _).alloc (by omega) _
    exact h1.alloc (by rw [← hg]; simp) _
  have hqgn : q < gn := by have := Blk.lt HS.out; omega
  have HO2 := Lib.hid (HOld.out.below hb2 hbw)
  have HS2 := Lib.hid (Blk.below HS.out hb2 hqgn)
  have HG2 : Hid (AgAt ((w.alloc (.cells #[.int .i64 (N : Int)] 3)).alloc (.cells #[.slice none 0 0] 23)) gn (gn + 1) gn N []) := Lib.hid (by
    refine ⟨by omega, ⟨.slice none 0 0, ?_, ⟨rfl, .inl ⟨rfl, rfl⟩⟩, by simp [Value.ownBlock]⟩, ?_, Nat.zero_le _, by omega⟩
    · have := Blk.new (w.alloc (.cells #[.int .i64 (N : Int)] 3)) 23 #[.slice none 0 0]
      simpa [hg] using this
    · have := (Blk.new w 3 #[.int .i64 (N : Int)]).alloc (.cells #[.slice none 0 0] 23)
      rw [hg] at this
      exact this)
  clear hg hb2 HOld
  generalize ((w.alloc (.cells #[.int .i64 (N : Int)] 3)).alloc (.cells #[.slice none 0 0] 23)) = w2 at *
  go_loopw [] (fun wr => ∃ (f p : Nat) (l : List Nat), N ≤ l.length + f ∧ R = lenR (bitsL xs) ls N f p l ∧ AgAt wr gn (gn + 1) gn N l ∧ SrcAt wr q A n c p ∧ p ≤ 8 * n ∧ OldK base gn srcT w wr) (fun wr => N - lenAt (gn + 1) wr)
  case atStart => exact ⟨N, pos, [], by simp, HU.out, HG2.out, HS2.out, hp, HO2.out⟩
  case round =>
    obtain ⟨f, p, l, hf, hR, hag, hsrc, hple, hold⟩ := hrel
    have hla : Hid (lenAt (gn + 1) wr = l.length) := Lib.hid (lenAt_ag hag)
    obtain ⟨Al, cl, hcl, hcn⟩ := hag.at_
    have HA := Lib.hid hag
    have HS := Lib.hid hsrc
    have HO := Lib.hid hold
    have HU := Lib.hid hR
    clear hag hsrc hold hR HO2 HS2 HG2
    obtain ⟨L, hL⟩ : ∃ L, L = l.length := ⟨_, rfl⟩
    rw [← hL] at hf hla hcl
    have HLl := Lib.hid hL
    clear hL
    by_cases hlt : L < N
    · have hlt' : (L : Int) < (N : Int) := by omega
      obtain ⟨f, rfl⟩ : ∃ f', f = f' + 1 := ⟨f - 1, by omega⟩
      have HU := Lib.hid (show R = (lenStep (bitsL xs) ls N p l).then_ fun x => lenR (bitsL xs) ls N f x.1 x.2 by
        rw [HU.out]
        show (if N ≤ l.length then _ else _) = _
        rw [if_neg (by rw [← HLl.out]; omega)])
      have HIr := Lib.hid (HI.out.old HO.out)
      have HBr : Hid (Blk wr g 41 #[.pointer (some ⟨q, 0, none⟩), vo, vk]) := Lib.hid ((Hgn.out ▸ HO.out : OldK base w.heap.size srcT w wr).blk HB.out (by decide))
      have HTr : Hid (TabAt wr tb tp ls) := Lib.hid (by
        obtain ⟨⟨t1, v, t2, t3⟩, _⟩ := HT.out
        have hk := (Hgn.out ▸ HO.out : OldK base w.heap.size srcT w wr).toKeeps
        exact ⟨t1, v, hk.blk t2 (by decide), hk.own t3 (by decide)⟩)
      have HY := Lib.hid (sym_k base tb g q tp A n c p xs ls wr hq (by rw [HBr.out.cell]; rfl) HS.out hple HIr.out HTr.out HT.out.le HT.out.room HT.out.len)
      have hls := HT.out.len
      go_wp2_with fail
      refine (HY.out).mono ?_
      rintro e w4 ⟨hr4, hk4⟩
      have HK4 := Lib.hid hk4
      have HO4 := Lib.hid (HO.out.keeps (hk4.mono hq (fun _ h => h)))
      have HA4 := Lib.hid (HA.out.keeps hk4)
      cases hg4 : symR (bitsL xs) ls p with
      | bad z =>
        have he := rpost_bad hr4 hg4
        subst he
        have HU := Lib.hid (show R = .bad z by rw [HU.out]; unfold lenStep; rw [hg4]; rfl)
        clear hr4 hk4 hg4
        unfold stopE
        go_wp2_with fail
        exact ⟨rfl, bad_rpost HU.out, Hgn.out.symm ▸ HO4.out⟩
      | ok a =>
        obtain ⟨he, hs4, hp4⟩ := rpost_ok hr4 hg4
        subst he
        have hpl := symR_place hg4
        have Hst := Lib.hid (show lenStep (bitsL xs) ls N p l = _ by unfold lenStep; rw [hg4, then_ok])
        have HS4 := Lib.hid hs4
        obtain ⟨k, p4⟩ := a
        dsimp only at hp4 hpl Hst HS4 ⊢
        clear hr4 hk4 hg4 hs4 HY
        have HB4 : Hid (Blk w4 g 41 #[.pointer (some ⟨q, 0, none⟩), vo, vk]) := Lib.hid (HK4.out.blk HBr.out (by decide))
        have HI4 := Lib.hid (HI.out.old HO4.out)
        have hB4 : gn ≤ w4.heap.size := by have := HO4.out.size; have := Hgn.out; omega
        by_cases h16 : k = 16
        · subst h16
          replace Hst := Lib.hid (Hst.out.trans (if_pos rfl))
          by_cases hl0 : l = []
          · have hL0 : L = 0 := by rw [HLl.out, hl0]; rfl
            have HU := Lib.hid (show R = .bad 8 by rw [HU.out, Hst.out, if_pos hl0]; rfl)
            subst hL0
            obtain ⟨Al4, cl4, hcl4, _⟩ := HA4.out.at_
            rw [← HLl.out] at hcl4
            go_wp2_with fail
            refine (fail_any 8 _).mono ?_
            rintro e w5 ⟨rfl, rfl⟩
            unfold stopE
            go_wp2_with fail
            exact ⟨rfl, bad_rpost HU.out, Hgn.out.symm ▸ HO4.out⟩
          · replace Hst := Lib.hid (Hst.out.trans (if_neg hl0))
            have hL1 : 1 ≤ L := by
              rw [HLl.out]
              exact List.length_pos_iff.2 hl0
            obtain ⟨bl, ol, cl4, hSS⟩ := HA4.out.last hl0
            rw [← HLl.out] at hSS
            obtain ⟨ix, hix⟩ : ∃ ix, ix = L - 1 := ⟨_, rfl⟩
            rw [← hix] at hSS
            have HSS := Lib.hid hSS
            have hwi : IntKind.i64.wrap ((L : Int) - 1) = (ix : Int) := by rw [show (L : Int) - 1 = (ix : Int) by omega]; exact IntWalk.i64_in _ (by omega)
            have hix0 : (0 : Int) ≤ (ix : Int) := by omega
            have hix1 : (ix : Int) < (L : Int) := by omega
            clear hix
            have hLb : ((L : Int) == 0) = false := by rw [beq_eq_false_iff_ne]; omega
            have hcl4 := (hSS w4 [] 0 (Keeps.refl _ _ _) (by simp) (by simp)).1
            generalize l.getLastD 0 = la at Hst HSS hcl4
            have HG := Lib.hid (get_k base g q A n c p4 2 xs w4.drew hq (by show w4.cell? _ = _; rw [HB4.out.cell]; rfl) HS4.out hp4 (HI4.out.keeps ((Keeps.refl base [] w4).drew)) (by omega))
            clear hSS
            go_wp2_with fail
            refine wp_region_S (fun W => W.cell? ⟨gn + 1, 0, none⟩ = some (.slice (some ⟨bl, ol, none⟩) L cl4) ∧ W.cell? ⟨bl, ol + ix, none⟩ = some (.int .i64 (la : Int))) 10 (by kernel_rfl) ?_
            have hHeld := HSS.out w4.drew [] 0 ((Keeps.refl _ _ _).drew) (by simp) (by simp)
            have HA4 := Lib.hid (HA4.out.keeps (base := 0) ((Keeps.refl _ _ _).drew))
            have HO4 : Hid (OldK base gn srcT w w4.drew) := Lib.hid (HO4.out.keeps ((Keeps.refl _ _ _).drew))
            have HSS : Hid (∀ W base, Keeps base srcT w4.drew W → W.cell? ⟨gn + 1, 0, none⟩ = some (.slice (some ⟨bl, ol, none⟩) L cl4) ∧ W.cell? ⟨bl, ol + ix, none⟩ = some (.int .i64 (la : Int))) := Lib.hid (fun W B' hk => HSS.out W srcT 0 (((Keeps.refl 0 srcT w4).drew).trans (hk.mono (Nat.zero_le _) (fun _ h => h))) (by decide) (by decide))
            have hB4 : gn ≤ w4.drew.heap.size := hB4
            clear hcl4 HK4 HS4 HB4 HI4
            generalize w4.drew = w4 at *
            refine wpAnyS_takeT (i := 0) (v := ?va0) (by kernel_rfl) (by kernel_rfl) rfl (by kernel_rfl) (by kernel_rfl) (by kernel_rfl) (fun _ _ _ h => h) (by rfl) (by assumption) ?hya0 ?resta0
            case hya0 => (intro W hSW; (try dsimp only at hSW); go_simp; try with_reducible rfl)
            (try simp only [Act.put, List.getElem_toArray, List.getElem_cons_zero, List.getElem_cons_succ, List.setIfInBounds_toArray, List.set_cons_zero, List.set_cons_succ])
            refine wpAnyS_takeT (i := 1) (v := ?va1) (by kernel_rfl) (by kernel_rfl) rfl (by kernel_rfl) (by kernel_rfl) (by kernel_rfl) (fun _ _ _ h => h) (by rfl) (by assumption) ?hya1 ?resta1
            case hya1 => (intro W hSW; (try dsimp only at hSW); go_simp; try with_reducible rfl)
            (try simp only [Act.put, List.getElem_toArray, List.getElem_cons_zero, List.getElem_cons_succ, List.setIfInBounds_toArray, List.set_cons_zero, List.set_cons_succ])
            refine wpAnyS_takeT (i := 2) (v := ?va2) (by kernel_rfl) (by kernel_rfl) rfl (by kernel_rfl) (by kernel_rfl) (by kernel_rfl) (fun _ _ _ h => h) (by rfl) (by assumption) ?hya2 ?resta2
            case hya2 => (intro W hSW; (try dsimp only at hSW); go_simp; try with_reducible rfl)
            (try simp only [Act.put, List.getElem_toArray, List.getElem_cons_zero, List.getElem_cons_succ, List.setIfInBounds_toArray, List.set_cons_zero, List.set_cons_succ])
            refine wpAnyS_takeT (i := 3) (v := ?va3) (by kernel_rfl) (by kernel_rfl) rfl (by kernel_rfl) (by kernel_rfl) (by kernel_rfl) (fun _ _ _ h => h) (by rfl) (by assumption) ?hya3 ?resta3
            case hya3 => (intro W hSW; (try dsimp only at hSW); go_simp; try with_reducible rfl)
            (try simp only [Act.put, List.getElem_toArray, List.getElem_cons_zero, List.getElem_cons_succ, List.setIfInBounds_toArray, List.set_cons_zero, List.set_cons_succ])
            refine wpAnyS_takeT (i := 4) (v := ?va4) (by kernel_rfl) (by kernel_rfl) rfl (by kernel_rfl) (by kernel_rfl) (by kernel_rfl) (fun _ _ _ h => h) (by rfl) (by assumption) ?hya4 ?resta4
            case hya4 => (intro W hSW; (try dsimp only at hSW); go_simp; try with_reducible rfl)
            (try simp only [Act.put, List.getElem_toArray, List.getElem_cons_zero, List.getElem_cons_succ, List.setIfInBounds_toArray, List.set_cons_zero, List.set_cons_succ])
            refine wpAnyS_takeT (i := 5) (v := ?va5) (by kernel_rfl) (by kernel_rfl) rfl (by kernel_rfl) (by kernel_rfl) (by kernel_rfl) (fun _ _ _ h => h) (by rfl) (by assumption) ?hya5 ?resta5
            case hya5 => (intro W hSW; (try dsimp only at hSW); go_simp; try with_reducible rfl)
            (try simp only [Act.put, List.getElem_toArray, List.getElem_cons_zero, List.getElem_cons_succ, List.setIfInBounds_toArray, List.set_cons_zero, List.set_cons_succ])
            refine wpAnyS_takeT (i := 6) (v := ?va6) (by kernel_rfl) (by kernel_rfl) rfl (by kernel_rfl) (by kernel_rfl) (by kernel_rfl) (fun _ _ _ h => h) (by rfl) (by assumption) ?hya6 ?resta6
            case hya6 => (intro W hSW; (try dsimp only at hSW); go_simp; try with_reducible rfl)
            (try simp only [Act.put, List.getElem_toArray, List.getElem_cons_zero, List.getElem_cons_succ, List.setIfInBounds_toArray, List.set_cons_zero, List.set_cons_succ])
            refine wpAnyS_takeT (i := 7) (v := ?va7) (by kernel_rfl) (by kernel_rfl) rfl (by kernel_rfl) (by kernel_rfl) (by kernel_rfl) (fun _ _ _ h => h) (by rfl) (by assumption) ?hya7 ?resta7
            case hya7 => (intro W hSW; (try dsimp only at hSW); go_simp; try with_reducible rfl)
            (try simp only [Act.put, List.getElem_toArray, List.getElem_cons_zero, List.getElem_cons_succ, List.setIfInBounds_toArray, List.set_cons_zero, List.set_cons_succ])
            refine wpAnyS_only (i := 8) rfl (by kernel_rfl) (fun K hK => ?_)
            go_simp
            clear hHeld
            go_at_call 13
            refine (HG.out).mono ?_
            rintro e w6 ⟨hr6, hk6⟩
            have HO6 := Lib.hid (HO4.out.keeps (hk6.mono hq (fun _ h => h)))
            have HA6 := Lib.hid (HA4.out.keeps hk6)
            have HK6 := Lib.hid hk6
            have hB6 : gn ≤ w6.heap.size := Nat.le_trans hB4 hk6.size
            cases hg6 : getR (bitsL xs) p4 2 with
            | bad z =>
              have he := rpost_bad hr6 hg6
              subst he
              have HU := Lib.hid (show R = .bad z by rw [HU.out, Hst.out, hg6]; rfl)
              clear hr6 hk6 hg6
              unfold stopE
              go_wp2_with fail
              exact ⟨rfl, bad_rpost HU.out, Hgn.out.symm ▸ HO6.out⟩
            | ok a =>
              obtain ⟨he, hs6, hp6⟩ := rpost_ok hr6 hg6
              subst he
              have hx := getR_lt hg6
              replace Hst := Lib.hid (Hst.out.trans (by rw [hg6, then_ok]))
              have HS6 := Lib.hid hs6
              obtain ⟨x, p6⟩ := a
              dsimp only at hp6 hx Hst HS6 ⊢
              have hx' : x < 4 := hx
              obtain ⟨y, hy⟩ : ∃ y, y = 3 + x := ⟨_, rfl⟩
              rw [← hy] at Hst
              have hwx : IntKind.i64.wrap ((3 : Int) + (x : Int)) = (y : Int) := by rw [show (3 : Int) + (x : Int) = (y : Int) by omega]; exact IntWalk.i64_in _ (by omega)
              have hy1 : 1 ≤ y := by omega
              have hy2 : y ≤ 1000 := by omega
              clear hr6 hk6 hg6 hs6 HG hy hx hx'
              refine hK.out _ _ (HSS.out w6 q HK6.out) (fun hHeld => ?_)
              clear hK K
              (try simp only [Act.put, List.getElem_toArray, List.getElem_cons_zero, List.getElem_cons_succ, List.setIfInBounds_toArray, List.set_cons_zero, List.set_cons_succ])
              refine wpAnyS_only (i := 9) rfl (by kernel_rfl) (fun K hK => ?_)
              go_simp
              refine hK.out _ _ (HSS.out w6 q HK6.out) (fun hHeld => ?_)
              clear hK K hHeld
              (try simp only [Act.put, List.getElem_toArray, List.getElem_cons_zero, List.getElem_cons_succ, List.setIfInBounds_toArray, List.set_cons_zero, List.set_cons_succ])
              refine wpAnyS_last rfl (by kernel_rfl) (by kernel_rfl) (fun K hK => ?_)
              go_simp
              go_at_call 30
              refine (again_any gn (gn + 1) gn N la y l w6 HA6.out (by omega) (by omega) hB6).mono ?_
              rintro e w7 ⟨hr7, hb7⟩
              have HO7 := Lib.hid (HO6.out.below hb7 hbw)
              have HS7 := Lib.hid (Blk.below HS6.out hb7 hqgn)
              cases hg7 : againR N l la y with
              | bad z =>
                have he := rpost_bad hr7 hg7
                subst he
                have HU := Lib.hid (show R = .bad z by rw [HU.out, Hst.out, hg7]; rfl)
                clear hr7 hb7 hg7
                unfold stopE
                go_wp2_with fail
                exact ⟨rfl, bad_rpost HU.out, Hgn.out.symm ▸ HO7.out⟩
              | ok m =>
                obtain ⟨he, ha7⟩ := rpost_ok hr7 hg7
                subst he
                have hm7 := againR_len hg7
                have Hl7 : Hid (lenAt (gn + 1) w7 = m.length) := Lib.hid (lenAt_ag ha7)
                have HU := Lib.hid (show R = lenR (bitsL xs) ls N f p6 m by rw [HU.out, Hst.out, hg7]; rfl)
                have HA7 := Lib.hid ha7
                clear hr7 hb7 hg7 ha7
                refine hK.out _ _ ?_
                clear hK K
                go_wp2_with fail
                go_roundw
                case rel => exact ⟨f, p6, m, by have := HLl.out; omega, HU.out, HA7.out, HS7.out, hp6, HO7.out⟩
                case measure => rw [hla.out, Hl7.out]; have := HLl.out; omega
        · replace Hst := Lib.hid (Hst.out.trans (if_neg h16))
          have hb16 : ((k : Int) == 16) = false := by rw [beq_eq_false_iff_ne]; omega
          by_cases h17 : k = 17
          · subst h17
            replace Hst := Lib.hid (Hst.out.trans (if_pos rfl))
            have HG := Lib.hid (get_k base g q A n c p4 3 xs w4 hq (by rw [HB4.out.cell]; rfl) HS4.out hp4 HI4.out (by omega))
            go_wp2_with fail
            refine (HG.out).mono ?_
            rintro e w6 ⟨hr6, hk6⟩
            have HO6 := Lib.hid (HO4.out.keeps (hk6.mono hq (fun _ h => h)))
            have HA6 := Lib.hid (HA4.out.keeps hk6)
            have HK6 := Lib.hid hk6
            have hB6 : gn ≤ w6.heap.size := Nat.le_trans hB4 hk6.size
            cases hg6 : getR (bitsL xs) p4 3 with
            | bad z =>
              have he := rpost_bad hr6 hg6
              subst he
              have HU := Lib.hid (show R = .bad z by rw [HU.out, Hst.out, hg6]; rfl)
              clear hr6 hk6 hg6
              unfold stopE
              go_wp2_with fail
              exact ⟨rfl, bad_rpost HU.out, Hgn.out.symm ▸ HO6.out⟩
            | ok a =>
              obtain ⟨he, hs6, hp6⟩ := rpost_ok hr6 hg6
              subst he
              have hx := getR_lt hg6
              replace Hst := Lib.hid (Hst.out.trans (by rw [hg6, then_ok]))
              have HS6 := Lib.hid hs6
              obtain ⟨x, p6⟩ := a
              dsimp only at hp6 hx Hst HS6 ⊢
              have hx' : x < 8 := hx
              obtain ⟨y, hy⟩ : ∃ y, y = 3 + x := ⟨_, rfl⟩
              rw [← hy] at Hst
              have hwx : IntKind.i64.wrap ((3 : Int) + (x : Int)) = (y : Int) := by rw [show (3 : Int) + (x : Int) = (y : Int) by omega]; exact IntWalk.i64_in _ (by omega)
              have hy1 : 1 ≤ y := by omega
              have hy2 : y ≤ 1000 := by omega
              clear hr6 hk6 hg6 hs6 HG hy hx hx'
              go_wp2_with fail
              refine (again_any gn (gn + 1) gn N 0 y l w6 HA6.out (by omega) (by omega) hB6).mono ?_
              rintro e w7 ⟨hr7, hb7⟩
              have HO7 := Lib.hid (HO6.out.below hb7 hbw)
              have HS7 := Lib.hid (Blk.below HS6.out hb7 hqgn)
              cases hg7 : againR N l 0 y with
              | bad z =>
                have he := rpost_bad hr7 hg7
                subst he
                have HU := Lib.hid (show R = .bad z by rw [HU.out, Hst.out, hg7]; rfl)
                clear hr7 hb7 hg7
                unfold stopE
                go_wp2_with fail
                exact ⟨rfl, bad_rpost HU.out, Hgn.out.symm ▸ HO7.out⟩
              | ok m =>
                obtain ⟨he, ha7⟩ := rpost_ok hr7 hg7
                subst he
                have hm7 := againR_len hg7
                have Hl7 : Hid (lenAt (gn + 1) w7 = m.length) := Lib.hid (lenAt_ag ha7)
                have HU := Lib.hid (show R = lenR (bitsL xs) ls N f p6 m by rw [HU.out, Hst.out, hg7]; rfl)
                have HA7 := Lib.hid ha7
                clear hr7 hb7 hg7 ha7
                go_wp2_with fail
                go_roundw
                case rel => exact ⟨f, p6, m, by have := HLl.out; omega, HU.out, HA7.out, HS7.out, hp6, HO7.out⟩
                case measure => rw [hla.out, Hl7.out]; have := HLl.out; omega
          · replace Hst := Lib.hid (Hst.out.trans (if_neg h17))
            have hb17 : ((k : Int) == 17) = false := by rw [beq_eq_false_iff_ne]; omega
            by_cases h18 : k = 18
            · subst h18
              replace Hst := Lib.hid (Hst.out.trans (if_pos rfl))
              have HG := Lib.hid (get_k base g q A n c p4 7 xs w4 hq (by rw [HB4.out.cell]; rfl) HS4.out hp4 HI4.out (by omega))
              go_wp2_with fail
              refine (HG.out).mono ?_
              rintro e w6 ⟨hr6, hk6⟩
              have HO6 := Lib.hid (HO4.out.keeps (hk6.mono hq (fun _ h => h)))
              have HA6 := Lib.hid (HA4.out.keeps hk6)
              have HK6 := Lib.hid hk6
              have hB6 : gn ≤ w6.heap.size := Nat.le_trans hB4 hk6.size
              cases hg6 : getR (bitsL xs) p4 7 with
              | bad z =>
                have he := rpost_bad hr6 hg6
                subst he
                have HU := Lib.hid (show R = .bad z by rw [HU.out, Hst.out, hg6]; rfl)
                clear hr6 hk6 hg6
                unfold stopE
                go_wp2_with fail
                exact ⟨rfl, bad_rpost HU.out, Hgn.out.symm ▸ HO6.out⟩
              | ok a =>
                obtain ⟨he, hs6, hp6⟩ := rpost_ok hr6 hg6
                subst he
                have hx := getR_lt hg6
                replace Hst := Lib.hid (Hst.out.trans (by rw [hg6, then_ok]))
                have HS6 := Lib.hid hs6
                obtain ⟨x, p6⟩ := a
                dsimp only at hp6 hx Hst HS6 ⊢
                have hx' : x < 128 := hx
                obtain ⟨y, hy⟩ : ∃ y, y = 11 + x := ⟨_, rfl⟩
                rw [← hy] at Hst
                have hwx : IntKind.i64.wrap ((11 : Int) + (x : Int)) = (y : Int) := by rw [show (11 : Int) + (x : Int) = (y : Int) by omega]; exact IntWalk.i64_in _ (by omega)
                have hy1 : 1 ≤ y := by omega
                have hy2 : y ≤ 1000 := by omega
                clear hr6 hk6 hg6 hs6 HG hy hx hx'
                go_wp2_with fail
                refine (again_any gn (gn + 1) gn N 0 y l w6 HA6.out (by omega) (by omega) hB6).mono ?_
                rintro e w7 ⟨hr7, hb7⟩
                have HO7 := Lib.hid (HO6.out.below hb7 hbw)
                have HS7 := Lib.hid (Blk.below HS6.out hb7 hqgn)
                cases hg7 : againR N l 0 y with
                | bad z =>
                  have he := rpost_bad hr7 hg7
                  subst he
                  have HU := Lib.hid (show R = .bad z by rw [HU.out, Hst.out, hg7]; rfl)
                  clear hr7 hb7 hg7
                  unfold stopE
                  go_wp2_with fail
                  exact ⟨rfl, bad_rpost HU.out, Hgn.out.symm ▸ HO7.out⟩
                | ok m =>
                  obtain ⟨he, ha7⟩ := rpost_ok hr7 hg7
                  subst he
                  have hm7 := againR_len hg7
                  have Hl7 : Hid (lenAt (gn + 1) w7 = m.length) := Lib.hid (lenAt_ag ha7)
                  have HU := Lib.hid (show R = lenR (bitsL xs) ls N f p6 m by rw [HU.out, Hst.out, hg7]; rfl)
                  have HA7 := Lib.hid ha7
                  clear hr7 hb7 hg7 ha7
                  go_wp2_with fail
                  go_roundw
                  case rel => exact ⟨f, p6, m, by have := HLl.out; omega, HU.out, HA7.out, HS7.out, hp6, HO7.out⟩
                  case measure => rw [hla.out, Hl7.out]; have := HLl.out; omega
            · replace Hst := Lib.hid (Hst.out.trans (if_neg h18))
              have hb18 : ((k : Int) == 18) = false := by rw [beq_eq_false_iff_ne]; omega
              go_wp2_with fail
              refine (again_any gn (gn + 1) gn N k 1 l w4 HA4.out (by omega) (by omega) hB4).mono ?_
              rintro e w7 ⟨hr7, hb7⟩
              have HO7 := Lib.hid (HO4.out.below hb7 hbw)
              have HS7 := Lib.hid (Blk.below HS4.out hb7 hqgn)
              cases hg7 : againR N l k 1 with
              | bad z =>
                have he := rpost_bad hr7 hg7
                subst he
                have HU := Lib.hid (show R = .bad z by rw [HU.out, Hst.out, hg7]; rfl)
                clear hr7 hb7 hg7
                unfold stopE
                go_wp2_with fail
                exact ⟨rfl, bad_rpost HU.out, Hgn.out.symm ▸ HO7.out⟩
              | ok m =>
                obtain ⟨he, ha7⟩ := rpost_ok hr7 hg7
                subst he
                have hm7 := againR_len hg7
                have Hl7 : Hid (lenAt (gn + 1) w7 = m.length) := Lib.hid (lenAt_ag ha7)
                have HU := Lib.hid (show R = lenR (bitsL xs) ls N f p4 m by rw [HU.out, Hst.out, hg7]; rfl)
                have HA7 := Lib.hid ha7
                clear hr7 hb7 hg7 ha7
                go_wp2_with fail
                go_roundw
                case rel => exact ⟨f, p4, m, by have := HLl.out; omega, HU.out, HA7.out, HS7.out, hp4, HO7.out⟩
                case measure => rw [hla.out, Hl7.out]; have := HLl.out; omega
    · have hlt' : ¬ (L : Int) < (N : Int) := by omega
      have hfit := HA.out.fit
      rw [← HLl.out] at hfit
      obtain rfl : L = N := by omega
      go_wp2_with fail
      go_ret
      refine ⟨ok_rpost (a := (p, l)) ?_ ⟨Al, cl, rfl, HLl.out.symm, ?_, HS.out, hple⟩, Hgn.out.symm ▸ HO.out⟩
      · rw [HU.out]
        cases f with
        | zero => rfl
        | succ f =>
          show (if L ≤ l.length then _ else _) = _
          rw [if_pos (by rw [← HLl.out]; exact Nat.le_refl _)]
      · obtain ⟨vl, hbl, hol, _⟩ := HA.out.row
        rw [hbl.cell] at hcl
        have e : vl = .slice Al L cl := by simpa using hcl
        rw [e, ← HLl.out] at hol
        rw [Hgn.out]
        exact hol
end Go.Proofs.Ythfbjgdophjelaa.Inf
