/- texts joined: InfLen InfOrd InfCodes InfBlock InfCatch InfMono. -/
import Derived.Test.YthpdcnjaodjjmaaInflateUnpackQ2
import Derived.Laws.Tables
import Derived.Laws.Rows
import Derived.Tactics
import Derived.Tactics2
import Derived.Defers
import Derived.Recover
/- package inflate: lengths that are told. -/
namespace Go.Proofs.Ythpdcnjaodjjmaa.Inf
open Go Go.RowKit Go.Proofs.Ythpdcnjaodjjmaa Go.Proofs.Ythpdcnjaodjjmaa.Bits Go.Proofs.Ythpdcnjaodjjmaa.Code
set_option linter.unusedVariables false
set_option linter.unusedSimpArgs false

theorem AgAt.keeps {w w' : World} {B gl gn n : Nat} {l : List Nat} {base : Nat} (h : AgAt w B gl gn n l) (hk : Keeps base srcT w w') : AgAt w' B gl gn n l := by
  obtain ⟨hgl, ⟨vl, hbl, hol, hne⟩, hbn, hfit, hfew⟩ := h
  exact ⟨hgl, ⟨vl, hk.blk hbl (by decide), hk.own hol (by decide), hne⟩, hk.blk hbn (by decide), hfit, hfew⟩
theorem AgAt.at_ {w : World} {B gl gn n : Nat} {l : List Nat} (h : AgAt w B gl gn n l) : ∃ Al cl, w.cell? ⟨gl, 0, none⟩ = some (.slice Al l.length cl) ∧ w.cell? ⟨gn, 0, none⟩ = some (.int .i64 (n : Int)) := by
  obtain ⟨hgl, ⟨vl, hbl, hol, hne⟩, hbn, hfit, hfew⟩ := h
  obtain ⟨Al, cl, rfl, _⟩ := own_slat hol
  exact ⟨Al, cl, by rw [hbl.cell]; rfl, by rw [hbn.cell]; rfl⟩
/-- how many numbers stand in the cell's row -/
def lenAt (gl : Nat) (w : World) : Nat := match w.cell? ⟨gl, 0, none⟩ with
  | some (.slice _ L _) => L
  | _ => 0
theorem lenAt_ag {w : World} {B gl gn n : Nat} {l : List Nat} (h : AgAt w B gl gn n l) : lenAt gl w = l.length := by
  obtain ⟨Al, cl, h1, _⟩ := h.at_
  unfold lenAt
  rw [h1]
/-- the last number, in every world that has the row -/
theorem AgAt.last {w : World} {B gl gn n : Nat} {l : List Nat} (h : AgAt w B gl gn n l) (h0 : l ≠ []) : ∃ b o cl, (∀ W T base, Keeps base T w W → 30 ∉ T → 3 ∉ T → W.cell? ⟨gl, 0, none⟩ = some (.slice (some ⟨b, o, none⟩) l.length cl) ∧ W.cell? ⟨b, o + (l.length - 1), none⟩ = some (.int .i64 (l.getLastD 0 : Int))) := by
  obtain ⟨hgl, ⟨vl, hbl, hol, hne⟩, hbn, hfit, hfew⟩ := h
  obtain ⟨Al, cl, rfl, _, _, hsl, _⟩ := own_slat hol
  have hp : 0 < l.length := List.length_pos_iff.2 h0
  obtain ⟨b, o, rfl, _⟩ := hsl (by rw [List.length_map]; exact hp)
  refine ⟨b, o, cl, fun W T base hk h1 h2 => ⟨by rw [(hk.blk hbl h1).cell]; rfl, ?_⟩⟩
  obtain ⟨A', c', e, _, _, hs', _⟩ := own_slat (hk.own hol h2)
  injection e with e1 e2 e3
  subst e1
  obtain ⟨b', o', e, hc⟩ := hs' (by rw [List.length_map]; exact hp)
  injection e with e
  injection e with e1 e2 e3
  subst e1 e2
  refine hc (l.length - 1) _ ?_
  rw [List.getElem?_map, List.getElem?_eq_getElem (by omega)]
  have e : l[l.length - 1]'(by omega) = l.getLastD 0 := by
    rw [List.getLastD_eq_getLast?, List.getLast?_eq_getElem?, List.getElem?_eq_getElem (by omega)]; rfl
  rw [e]
  rfl
theorem againR_len {n : Nat} {l m : List Nat} {v k : Nat} (h : againR n l v k = .ok m) : m.length = l.length + k ∧ m.length ≤ n := by
  unfold againR at h
  split at h
  · cases h
  · injection h with h
    subst h
    simp
    omega
set_option maxRecDepth 100000 in
set_option maxHeartbeats 4000000 in
theorem lengths_r (base tb g q tp : Nat) (A : Option Addr) (n c pos N : Nat) (xs : List UInt8) (ls : List Nat) (vo vk : Value) (w : World) (hq : base ≤ q) (hbw : base ≤ w.heap.size)
    (hb : Blk w g 56 #[.pointer (some ⟨q, 0, none⟩), vo, vk]) (hsrc : SrcAt w q A n c pos) (hp : pos ≤ 8 * n) (hi : InAt_ w base A n xs) (hT : TbAt w tb tp ls) (hN : N ≤ 316) :
    Calls Try.prog 76 #[.pointer (some ⟨g, 0, none⟩), .pointer (some ⟨tp, 0, none⟩), .int .i64 (N : Int)] w fun e w' =>
      RPost (lenR (bitsL xs) ls N N pos []) (fun a e w' => ∃ A' c', e = .returned (.slice A' N c') ∧ a.2.length = N ∧ w'.ownsRow w.heap.size 3 1 (.slice A' N c') N (a.2.map natV) ∧ SrcAt w' q A n c a.1 ∧ a.1 ≤ 8 * n) e w' ∧ OldK base w.heap.size srcT w w' := by
  obtain ⟨R, hR⟩ : ∃ R, R = lenR (bitsL xs) ls N N pos [] := ⟨_, rfl⟩
  rw [← hR]
  have HU := Lib.hid hR
  have HB := Lib.hid hb
  have HS := Lib.hid hsrc
  have HI := Lib.hid hi
  have HT := Lib.hid hT
  clear hb hsrc hi hT hR
  go_enter Try.func76, Try.ntmps76
  go_wp2_with fail
  generalize hg : w.heap.size = gn at *
  have Hgn := Lib.hid hg
  have HOld : Hid (OldK base gn srcT w w) := Lib.hid (OldK.refl _ _ _ _)
  have hb2 : Below gn w ((w.alloc (.cells #[.int .i64 (N : Int)] 3)).alloc (.cells #[.slice none 0 0] 30)) := by
    have h1 : Below gn w (w.alloc (.cells #[.int .i64 (N : Int)] 3)) := (Below.refl _ _).alloc (by omega) _
    exact h1.alloc (by rw [← hg]; simp) _
  have hqgn : q < gn := by have := Blk.lt HS.out; omega
  have HO2 := Lib.hid (HOld.out.below hb2 hbw)
  have HS2 := Lib.hid (Blk.below HS.out hb2 hqgn)
  have HG2 : Hid (AgAt ((w.alloc (.cells #[.int .i64 (N : Int)] 3)).alloc (.cells #[.slice none 0 0] 30)) gn (gn + 1) gn N []) := Lib.hid (by
    refine ⟨by omega, ⟨.slice none 0 0, ?_, ⟨rfl, .inl ⟨rfl, rfl⟩⟩, by simp [Value.ownBlock]⟩, ?_, Nat.zero_le _, by omega⟩
    · have := Blk.new (w.alloc (.cells #[.int .i64 (N : Int)] 3)) 30 #[.slice none 0 0]
      simpa [hg] using this
    · have := (Blk.new w 3 #[.int .i64 (N : Int)]).alloc (.cells #[.slice none 0 0] 30)
      rw [hg] at this
      exact this)
  clear hg hb2 HOld
  generalize ((w.alloc (.cells #[.int .i64 (N : Int)] 3)).alloc (.cells #[.slice none 0 0] 30)) = w2 at *
  go_loopw [] (fun wr => ∃ (f p : Nat) (l : List Nat), N ≤ l.length + f ∧ R = lenR (bitsL xs) ls N f p l ∧ AgAt wr gn (gn + 1) gn N l ∧ SrcAt wr q A n c p ∧ p ≤ 8 * n ∧ OldK base gn srcT w wr) (fun wr => N - lenAt (gn + 1) wr)
  case atStart => exact ⟨N, pos, [], by simp, HU.out, HG2.out, HS2.out, hp, HO2.out⟩
  case round =>
    obtain ⟨f, p, l, hf, hR, hag, hsrc, hple, hold⟩ := hrel
    have hla : Hid (lenAt (gn + 1) wr = l.length) := Lib.hid (lenAt_ag hag)
    obtain ⟨Al, cl, hcl, hcn⟩ := hag.at_
    have HA := Lib.hid hag
    have HS := Lib.hid hsrc
    have HO := Lib.hid hold
    have HU := Lib.hid hR
    clear hag hsrc hold hR HO2 HS2 HG2
    obtain ⟨L, hL⟩ : ∃ L, L = l.length := ⟨_, rfl⟩
    rw [← hL] at hf hla hcl
    have HLl := Lib.hid hL
    clear hL
    by_cases hlt : L < N
    · have hlt' : (L : Int) < (N : Int) := by omega
      obtain ⟨f, rfl⟩ : ∃ f', f = f' + 1 := ⟨f - 1, by omega⟩
      have HU := Lib.hid (show R = (lenStep (bitsL xs) ls N p l).then_ fun x => lenR (bitsL xs) ls N f x.1 x.2 by
        rw [HU.out]
        show (if N ≤ l.length then _ else _) = _
        rw [if_neg (by rw [← HLl.out]; omega)])
      have HIr := Lib.hid (HI.out.old HO.out)
      have HBr : Hid (Blk wr g 56 #[.pointer (some ⟨q, 0, none⟩), vo, vk]) := Lib.hid ((Hgn.out ▸ HO.out : OldK base w.heap.size srcT w wr).blk HB.out (by decide))
      have HTr : Hid (TabAt wr tb tp ls) := Lib.hid (by
        obtain ⟨⟨t1, v, t2, t3⟩, _⟩ := HT.out
        have hk := (Hgn.out ▸ HO.out : OldK base w.heap.size srcT w wr).toKeeps
        exact ⟨t1, v, hk.blk t2 (by decide), hk.own t3 (by decide)⟩)
      have HY := Lib.hid (sym_k base tb g q tp A n c p xs ls wr hq (by rw [HBr.out.cell]; rfl) HS.out hple HIr.out HTr.out HT.out.le HT.out.room HT.out.len)
      have hls := HT.out.len
      go_wp2_with fail
      refine (HY.out).mono ?_
      rintro e w4 ⟨hr4, hk4⟩
      have HK4 := Lib.hid hk4
      have HO4 := Lib.hid (HO.out.keeps (hk4.mono hq (fun _ h => h)))
      have HA4 := Lib.hid (HA.out.keeps hk4)
      cases hg4 : symR (bitsL xs) ls p with
      | bad z =>
        have he := rpost_bad hr4 hg4
        subst he
        have HU := Lib.hid (show R = .bad z by rw [HU.out]; unfold lenStep; rw [hg4]; rfl)
        clear hr4 hk4 hg4
        unfold stopE
        go_wp2_with fail
        exact ⟨rfl, bad_rpost HU.out, Hgn.out.symm ▸ HO4.out⟩
      | ok a =>
        obtain ⟨he, hs4, hp4⟩ := rpost_ok hr4 hg4
        subst he
        have hpl := symR_place hg4
        have Hst := Lib.hid (show lenStep (bitsL xs) ls N p l = _ by unfold lenStep; rw [hg4, then_ok])
        have HS4 := Lib.hid hs4
        obtain ⟨k, p4⟩ := a
        dsimp only at hp4 hpl Hst HS4 ⊢
        clear hr4 hk4 hg4 hs4 HY
        have HB4 : Hid (Blk w4 g 56 #[.pointer (some ⟨q, 0, none⟩), vo, vk]) := Lib.hid (HK4.out.blk HBr.out (by decide))
        have HI4 := Lib.hid (HI.out.old HO4.out)
        have hB4 : gn ≤ w4.heap.size := by have := HO4.out.size; have := Hgn.out; omega
        by_cases h16 : k = 16
        · subst h16
          replace Hst := Lib.hid (Hst.out.trans (if_pos rfl))
          by_cases hl0 : l = []
          · have hL0 : L = 0 := by rw [HLl.out, hl0]; rfl
            have HU := Lib.hid (show R = .bad 8 by rw [HU.out, Hst.out, if_pos hl0]; rfl)
            subst hL0
            obtain ⟨Al4, cl4, hcl4, _⟩ := HA4.out.at_
            rw [← HLl.out] at hcl4
            go_wp2_with fail
            refine (fail_any 8 _).mono ?_
            rintro e w5 ⟨rfl, rfl⟩
            unfold stopE
            go_wp2_with fail
            exact ⟨rfl, bad_rpost HU.out, Hgn.out.symm ▸ HO4.out⟩
          · replace Hst := Lib.hid (Hst.out.trans (if_neg hl0))
            have hL1 : 1 ≤ L := by
              rw [HLl.out]
              exact List.length_pos_iff.2 hl0
            obtain ⟨bl, ol, cl4, hSS⟩ := HA4.out.last hl0
            rw [← HLl.out] at hSS
            obtain ⟨ix, hix⟩ : ∃ ix, ix = L - 1 := ⟨_, rfl⟩
            rw [← hix] at hSS
            have HSS := Lib.hid hSS
            have hwi : IntKind.i64.wrap ((L : Int) - 1) = (ix : Int) := by rw [show (L : Int) - 1 = (ix : Int) by omega]; exact IntWalk.i64_in _ (by omega)
            have hix0 : (0 : Int) ≤ (ix : Int) := by omega
            have hix1 : (ix : Int) < (L : Int) := by omega
            clear hix
            have hLb : ((L : Int) == 0) = false := by rw [beq_eq_false_iff_ne]; omega
            have hcl4 := (hSS w4 [] 0 (Keeps.refl _ _ _) (by simp) (by simp)).1
            generalize l.getLastD 0 = la at Hst HSS hcl4
            have HG := Lib.hid (get_k base g q A n c p4 2 xs w4.drew hq (by show w4.cell? _ = _; rw [HB4.out.cell]; rfl) HS4.out hp4 (HI4.out.keeps ((Keeps.refl base [] w4).drew)) (by omega))
            clear hSS
            go_wp2_with fail
            refine wp_region_S (fun W => W.cell? ⟨gn + 1, 0, none⟩ = some (.slice (some ⟨bl, ol, none⟩) L cl4) ∧ W.cell? ⟨bl, ol + ix, none⟩ = some (.int .i64 (la : Int))) 10 (by kernel_rfl) ?_
            have hHeld := HSS.out w4.drew [] 0 ((Keeps.refl _ _ _).drew) (by simp) (by simp)
            have HA4 := Lib.hid (HA4.out.keeps (base := 0) ((Keeps.refl _ _ _).drew))
            have HO4 : Hid (OldK base gn srcT w w4.drew) := Lib.hid (HO4.out.keeps ((Keeps.refl _ _ _).drew))
            have HSS : Hid (∀ W base, Keeps base srcT w4.drew W → W.cell? ⟨gn + 1, 0, none⟩ = some (.slice (some ⟨bl, ol, none⟩) L cl4) ∧ W.cell? ⟨bl, ol + ix, none⟩ = some (.int .i64 (la : Int))) := Lib.hid (fun W B' hk => HSS.out W srcT 0 (((Keeps.refl 0 srcT w4).drew).trans (hk.mono (Nat.zero_le _) (fun _ h => h))) (by decide) (by decide))
            have hB4 : gn ≤ w4.drew.heap.size := hB4
            clear hcl4 HK4 HS4 HB4 HI4
            generalize w4.drew = w4 at *
            refine wpAnyS_takeT (i := 0) (v := ?va0) (by kernel_rfl) (by kernel_rfl) rfl (by kernel_rfl) (by kernel_rfl) (by kernel_rfl) (fun _ _ _ h => h) (by rfl) (by assumption) ?hya0 ?resta0
            case hya0 => (intro W hSW; (try dsimp only at hSW); go_simp; try with_reducible rfl)
            (try simp only [Act.put, List.getElem_toArray, List.getElem_cons_zero, List.getElem_cons_succ, List.setIfInBounds_toArray, List.set_cons_zero, List.set_cons_succ])
            refine wpAnyS_takeT (i := 1) (v := ?va1) (by kernel_rfl) (by kernel_rfl) rfl (by kernel_rfl) (by kernel_rfl) (by kernel_rfl) (fun _ _ _ h => h) (by rfl) (by assumption) ?hya1 ?resta1
            case hya1 => (intro W hSW; (try dsimp only at hSW); go_simp; try with_reducible rfl)
            (try simp only [Act.put, List.getElem_toArray, List.getElem_cons_zero, List.getElem_cons_succ, List.setIfInBounds_toArray, List.set_cons_zero, List.set_cons_succ])
            refine wpAnyS_takeT (i := 2) (v := ?va2) (by kernel_rfl) (by kernel_rfl) rfl (by kernel_rfl) (by kernel_rfl) (by kernel_rfl) (fun _ _ _ h => h) (by rfl) (by assumption) ?hya2 ?resta2
            case hya2 => (intro W hSW; (try dsimp only at hSW); go_simp; try with_reducible rfl)
            (try simp only [Act.put, List.getElem_toArray, List.getElem_cons_zero, List.getElem_cons_succ, List.setIfInBounds_toArray, List.set_cons_zero, List.set_cons_succ])
            refine wpAnyS_takeT (i := 3) (v := ?va3) (by kernel_rfl) (by kernel_rfl) rfl (by kernel_rfl) (by kernel_rfl) (by kernel_rfl) (fun _ _ _ h => h) (by rfl) (by assumption) ?hya3 ?resta3
            case hya3 => (intro W hSW; (try dsimp only at hSW); go_simp; try with_reducible rfl)
            (try simp only [Act.put, List.getElem_toArray, List.getElem_cons_zero, List.getElem_cons_succ, List.setIfInBounds_toArray, List.set_cons_zero, List.set_cons_succ])
            refine wpAnyS_takeT (i := 4) (v := ?va4) (by kernel_rfl) (by kernel_rfl) rfl (by kernel_rfl) (by kernel_rfl) (by kernel_rfl) (fun _ _ _ h => h) (by rfl) (by assumption) ?hya4 ?resta4
            case hya4 => (intro W hSW; (try dsimp only at hSW); go_simp; try with_reducible rfl)
            (try simp only [Act.put, List.getElem_toArray, List.getElem_cons_zero, List.getElem_cons_succ, List.setIfInBounds_toArray, List.set_cons_zero, List.set_cons_succ])
            refine wpAnyS_takeT (i := 5) (v := ?va5) (by kernel_rfl) (by kernel_rfl) rfl (by kernel_rfl) (by kernel_rfl) (by kernel_rfl) (fun _ _ _ h => h) (by rfl) (by assumption) ?hya5 ?resta5
            case hya5 => (intro W hSW; (try dsimp only at hSW); go_simp; try with_reducible rfl)
            (try simp only [Act.put, List.getElem_toArray, List.getElem_cons_zero, List.getElem_cons_succ, List.setIfInBounds_toArray, List.set_cons_zero, List.set_cons_succ])
            refine wpAnyS_takeT (i := 6) (v := ?va6) (by kernel_rfl) (by kernel_rfl) rfl (by kernel_rfl) (by kernel_rfl) (by kernel_rfl) (fun _ _ _ h => h) (by rfl) (by assumption) ?hya6 ?resta6
            case hya6 => (intro W hSW; (try dsimp only at hSW); go_simp; try with_reducible rfl)
            (try simp only [Act.put, List.getElem_toArray, List.getElem_cons_zero, List.getElem_cons_succ, List.setIfInBounds_toArray, List.set_cons_zero, List.set_cons_succ])
            refine wpAnyS_takeT (i := 7) (v := ?va7) (by kernel_rfl) (by kernel_rfl) rfl (by kernel_rfl) (by kernel_rfl) (by kernel_rfl) (fun _ _ _ h => h) (by rfl) (by assumption) ?hya7 ?resta7
            case hya7 => (intro W hSW; (try dsimp only at hSW); go_simp; try with_reducible rfl)
            (try simp only [Act.put, List.getElem_toArray, List.getElem_cons_zero, List.getElem_cons_succ, List.setIfInBounds_toArray, List.set_cons_zero, List.set_cons_succ])
            refine wpAnyS_only (i := 8) rfl (by kernel_rfl) (fun K hK => ?_)
            go_simp
            clear hHeld
            go_at_call 41
            refine (HG.out).mono ?_
            rintro e w6 ⟨hr6, hk6⟩
            have HO6 := Lib.hid (HO4.out.keeps (hk6.mono hq (fun _ h => h)))
            have HA6 := Lib.hid (HA4.out.keeps hk6)
            have HK6 := Lib.hid hk6
            have hB6 : gn ≤ w6.heap.size := Nat.le_trans hB4 hk6.size
            cases hg6 : getR (bitsL xs) p4 2 with
            | bad z =>
              have he := rpost_bad hr6 hg6
              subst he
              have HU := Lib.hid (show R = .bad z by rw [HU.out, Hst.out, hg6]; rfl)
              clear hr6 hk6 hg6
              unfold stopE
              go_wp2_with fail
              exact ⟨rfl, bad_rpost HU.out, Hgn.out.symm ▸ HO6.out⟩
            | ok a =>
              obtain ⟨he, hs6, hp6⟩ := rpost_ok hr6 hg6
              subst he
              have hx := getR_lt hg6
              replace Hst := Lib.hid (Hst.out.trans (by rw [hg6, then_ok]))
              have HS6 := Lib.hid hs6
              obtain ⟨x, p6⟩ := a
              dsimp only at hp6 hx Hst HS6 ⊢
              have hx' : x < 4 := hx
              obtain ⟨y, hy⟩ : ∃ y, y = 3 + x := ⟨_, rfl⟩
              rw [← hy] at Hst
              have hwx : IntKind.i64.wrap ((3 : Int) + (x : Int)) = (y : Int) := by rw [show (3 : Int) + (x : Int) = (y : Int) by omega]; exact IntWalk.i64_in _ (by omega)
              have hy1 : 1 ≤ y := by omega
              have hy2 : y ≤ 1000 := by omega
              clear hr6 hk6 hg6 hs6 HG hy hx hx'
              refine hK.out _ _ (HSS.out w6 q HK6.out) (fun hHeld => ?_)
              clear hK K
              (try simp only [Act.put, List.getElem_toArray, List.getElem_cons_zero, List.getElem_cons_succ, List.setIfInBounds_toArray, List.set_cons_zero, List.set_cons_succ])
              refine wpAnyS_only (i := 9) rfl (by kernel_rfl) (fun K hK => ?_)
              go_simp
              refine hK.out _ _ (HSS.out w6 q HK6.out) (fun hHeld => ?_)
              clear hK K hHeld
              (try simp only [Act.put, List.getElem_toArray, List.getElem_cons_zero, List.getElem_cons_succ, List.setIfInBounds_toArray, List.set_cons_zero, List.set_cons_succ])
              refine wpAnyS_last rfl (by kernel_rfl) (by kernel_rfl) (fun K hK => ?_)
              go_simp
              go_at_call 97
              refine (again_any gn (gn + 1) gn N la y l w6 HA6.out (by omega) (by omega) hB6).mono ?_
              rintro e w7 ⟨hr7, hb7⟩
              have HO7 := Lib.hid (HO6.out.below hb7 hbw)
              have HS7 := Lib.hid (Blk.below HS6.out hb7 hqgn)
              cases hg7 : againR N l la y with
              | bad z =>
                have he := rpost_bad hr7 hg7
                subst he
                have HU := Lib.hid (show R = .bad z by rw [HU.out, Hst.out, hg7]; rfl)
                clear hr7 hb7 hg7
                unfold stopE
                go_wp2_with fail
                exact ⟨rfl, bad_rpost HU.out, Hgn.out.symm ▸ HO7.out⟩
              | ok m =>
                obtain ⟨he, ha7⟩ := rpost_ok hr7 hg7
                subst he
                have hm7 := againR_len hg7
                have Hl7 : Hid (lenAt (gn + 1) w7 = m.length) := Lib.hid (lenAt_ag ha7)
                have HU := Lib.hid (show R = lenR (bitsL xs) ls N f p6 m by rw [HU.out, Hst.out, hg7]; rfl)
                have HA7 := Lib.hid ha7
                clear hr7 hb7 hg7 ha7
                refine hK.out _ _ ?_
                clear hK K
                go_wp2_with fail
                go_roundw
                case rel => exact ⟨f, p6, m, by have := HLl.out; omega, HU.out, HA7.out, HS7.out, hp6, HO7.out⟩
                case measure => rw [hla.out, Hl7.out]; have := HLl.out; omega
        · replace Hst := Lib.hid (Hst.out.trans (if_neg h16))
          have hb16 : ((k : Int) == 16) = false := by rw [beq_eq_false_iff_ne]; omega
          by_cases h17 : k = 17
          · subst h17
            replace Hst := Lib.hid (Hst.out.trans (if_pos rfl))
            have HG := Lib.hid (get_k base g q A n c p4 3 xs w4 hq (by rw [HB4.out.cell]; rfl) HS4.out hp4 HI4.out (by omega))
            go_wp2_with fail
            refine (HG.out).mono ?_
            rintro e w6 ⟨hr6, hk6⟩
            have HO6 := Lib.hid (HO4.out.keeps (hk6.mono hq (fun _ h => h)))
            have HA6 := Lib.hid (HA4.out.keeps hk6)
            have HK6 := Lib.hid hk6
            have hB6 : gn ≤ w6.heap.size := Nat.le_trans hB4 hk6.size
            cases hg6 : getR (bitsL xs) p4 3 with
            | bad z =>
              have he := rpost_bad hr6 hg6
              subst he
              have HU := Lib.hid (show R = .bad z by rw [HU.out, Hst.out, hg6]; rfl)
              clear hr6 hk6 hg6
              unfold stopE
              go_wp2_with fail
              exact ⟨rfl, bad_rpost HU.out, Hgn.out.symm ▸ HO6.out⟩
            | ok a =>
              obtain ⟨he, hs6, hp6⟩ := rpost_ok hr6 hg6
              subst he
              have hx := getR_lt hg6
              replace Hst := Lib.hid (Hst.out.trans (by rw [hg6, then_ok]))
              have HS6 := Lib.hid hs6
              obtain ⟨x, p6⟩ := a
              dsimp only at hp6 hx Hst HS6 ⊢
              have hx' : x < 8 := hx
              obtain ⟨y, hy⟩ : ∃ y, y = 3 + x := ⟨_, rfl⟩
              rw [← hy] at Hst
              have hwx : IntKind.i64.wrap ((3 : Int) + (x : Int)) = (y : Int) := by rw [show (3 : Int) + (x : Int) = (y : Int) by omega]; exact IntWalk.i64_in _ (by omega)
              have hy1 : 1 ≤ y := by omega
              have hy2 : y ≤ 1000 := by omega
              clear hr6 hk6 hg6 hs6 HG hy hx hx'
              go_wp2_with fail
              refine (again_any gn (gn + 1) gn N 0 y l w6 HA6.out (by omega) (by omega) hB6).mono ?_
              rintro e w7 ⟨hr7, hb7⟩
              have HO7 := Lib.hid (HO6.out.below hb7 hbw)
              have HS7 := Lib.hid (Blk.below HS6.out hb7 hqgn)
              cases hg7 : againR N l 0 y with
              | bad z =>
                have he := rpost_bad hr7 hg7
                subst he
                have HU := Lib.hid (show R = .bad z by rw [HU.out, Hst.out, hg7]; rfl)
                clear hr7 hb7 hg7
                unfold stopE
                go_wp2_with fail
                exact ⟨rfl, bad_rpost HU.out, Hgn.out.symm ▸ HO7.out⟩
              | ok m =>
                obtain ⟨he, ha7⟩ := rpost_ok hr7 hg7
                subst he
                have hm7 := againR_len hg7
                have Hl7 : Hid (lenAt (gn + 1) w7 = m.length) := Lib.hid (lenAt_ag ha7)
                have HU := Lib.hid (show R = lenR (bitsL xs) ls N f p6 m by rw [HU.out, Hst.out, hg7]; rfl)
                have HA7 := Lib.hid ha7
                clear hr7 hb7 hg7 ha7
                go_wp2_with fail
                go_roundw
                case rel => exact ⟨f, p6, m, by have := HLl.out; omega, HU.out, HA7.out, HS7.out, hp6, HO7.out⟩
                case measure => rw [hla.out, Hl7.out]; have := HLl.out; omega
          · replace Hst := Lib.hid (Hst.out.trans (if_neg h17))
            have hb17 : ((k : Int) == 17) = false := by rw [beq_eq_false_iff_ne]; omega
            by_cases h18 : k = 18
            · subst h18
              replace Hst := Lib.hid (Hst.out.trans (if_pos rfl))
              have HG := Lib.hid (get_k base g q A n c p4 7 xs w4 hq (by rw [HB4.out.cell]; rfl) HS4.out hp4 HI4.out (by omega))
              go_wp2_with fail
              refine (HG.out).mono ?_
              rintro e w6 ⟨hr6, hk6⟩
              have HO6 := Lib.hid (HO4.out.keeps (hk6.mono hq (fun _ h => h)))
              have HA6 := Lib.hid (HA4.out.keeps hk6)
              have HK6 := Lib.hid hk6
              have hB6 : gn ≤ w6.heap.size := Nat.le_trans hB4 hk6.size
              cases hg6 : getR (bitsL xs) p4 7 with
              | bad z =>
                have he := rpost_bad hr6 hg6
                subst he
                have HU := Lib.hid (show R = .bad z by rw [HU.out, Hst.out, hg6]; rfl)
                clear hr6 hk6 hg6
                unfold stopE
                go_wp2_with fail
                exact ⟨rfl, bad_rpost HU.out, Hgn.out.symm ▸ HO6.out⟩
              | ok a =>
                obtain ⟨he, hs6, hp6⟩ := rpost_ok hr6 hg6
                subst he
                have hx := getR_lt hg6
                replace Hst := Lib.hid (Hst.out.trans (by rw [hg6, then_ok]))
                have HS6 := Lib.hid hs6
                obtain ⟨x, p6⟩ := a
                dsimp only at hp6 hx Hst HS6 ⊢
                have hx' : x < 128 := hx
                obtain ⟨y, hy⟩ : ∃ y, y = 11 + x := ⟨_, rfl⟩
                rw [← hy] at Hst
                have hwx : IntKind.i64.wrap ((11 : Int) + (x : Int)) = (y : Int) := by rw [show (11 : Int) + (x : Int) = (y : Int) by omega]; exact IntWalk.i64_in _ (by omega)
                have hy1 : 1 ≤ y := by omega
                have hy2 : y ≤ 1000 := by omega
                clear hr6 hk6 hg6 hs6 HG hy hx hx'
                go_wp2_with fail
                refine (again_any gn (gn + 1) gn N 0 y l w6 HA6.out (by omega) (by omega) hB6).mono ?_
                rintro e w7 ⟨hr7, hb7⟩
                have HO7 := Lib.hid (HO6.out.below hb7 hbw)
                have HS7 := Lib.hid (Blk.below HS6.out hb7 hqgn)
                cases hg7 : againR N l 0 y with
                | bad z =>
                  have he := rpost_bad hr7 hg7
                  subst he
                  have HU := Lib.hid (show R = .bad z by rw [HU.out, Hst.out, hg7]; rfl)
                  clear hr7 hb7 hg7
                  unfold stopE
                  go_wp2_with fail
                  exact ⟨rfl, bad_rpost HU.out, Hgn.out.symm ▸ HO7.out⟩
                | ok m =>
                  obtain ⟨he, ha7⟩ := rpost_ok hr7 hg7
                  subst he
                  have hm7 := againR_len hg7
                  have Hl7 : Hid (lenAt (gn + 1) w7 = m.length) := Lib.hid (lenAt_ag ha7)
                  have HU := Lib.hid (show R = lenR (bitsL xs) ls N f p6 m by rw [HU.out, Hst.out, hg7]; rfl)
                  have HA7 := Lib.hid ha7
                  clear hr7 hb7 hg7 ha7
                  go_wp2_with fail
                  go_roundw
                  case rel => exact ⟨f, p6, m, by have := HLl.out; omega, HU.out, HA7.out, HS7.out, hp6, HO7.out⟩
                  case measure => rw [hla.out, Hl7.out]; have := HLl.out; omega
            · replace Hst := Lib.hid (Hst.out.trans (if_neg h18))
              have hb18 : ((k : Int) == 18) = false := by rw [beq_eq_false_iff_ne]; omega
              go_wp2_with fail
              refine (again_any gn (gn + 1) gn N k 1 l w4 HA4.out (by omega) (by omega) hB4).mono ?_
              rintro e w7 ⟨hr7, hb7⟩
              have HO7 := Lib.hid (HO4.out.below hb7 hbw)
              have HS7 := Lib.hid (Blk.below HS4.out hb7 hqgn)
              cases hg7 : againR N l k 1 with
              | bad z =>
                have he := rpost_bad hr7 hg7
                subst he
                have HU := Lib.hid (show R = .bad z by rw [HU.out, Hst.out, hg7]; rfl)
                clear hr7 hb7 hg7
                unfold stopE
                go_wp2_with fail
                exact ⟨rfl, bad_rpost HU.out, Hgn.out.symm ▸ HO7.out⟩
              | ok m =>
                obtain ⟨he, ha7⟩ := rpost_ok hr7 hg7
                subst he
                have hm7 := againR_len hg7
                have Hl7 : Hid (lenAt (gn + 1) w7 = m.length) := Lib.hid (lenAt_ag ha7)
                have HU := Lib.hid (show R = lenR (bitsL xs) ls N f p4 m by rw [HU.out, Hst.out, hg7]; rfl)
                have HA7 := Lib.hid ha7
                clear hr7 hb7 hg7 ha7
                go_wp2_with fail
                go_roundw
                case rel => exact ⟨f, p4, m, by have := HLl.out; omega, HU.out, HA7.out, HS7.out, hp4, HO7.out⟩
                case measure => rw [hla.out, Hl7.out]; have := HLl.out; omega
    · have hlt' : ¬ (L : Int) < (N : Int) := by omega
      have hfit := HA.out.fit
      rw [← HLl.out] at hfit
      obtain rfl : L = N := by omega
      go_wp2_with fail
      go_ret
      refine ⟨ok_rpost (a := (p, l)) ?_ ⟨Al, cl, rfl, HLl.out.symm, ?_, HS.out, hple⟩, Hgn.out.symm ▸ HO.out⟩
      · rw [HU.out]
        cases f with
        | zero => rfl
        | succ f =>
          show (if L ≤ l.length then _ else _) = _
          rw [if_pos (by rw [← HLl.out]; exact Nat.le_refl _)]
      · obtain ⟨vl, hbl, hol, _⟩ := HA.out.row
        rw [hbl.cell] at hcl
        have e : vl = .slice Al L cl := by simpa using hcl
        rw [e, ← HLl.out] at hol
        rw [Hgn.out]
        exact hol
end Go.Proofs.Ythpdcnjaodjjmaa.Inf

/- package block: the order in which the lengths of the code of lengths stand. -/
namespace Go.Proofs.Ythpdcnjaodjjmaa.Inf
open Go Go.RowKit Go.Proofs.Ythpdcnjaodjjmaa Go.Proofs.Ythpdcnjaodjjmaa.Bits Go.Proofs.Ythpdcnjaodjjmaa.Code
set_option linter.unusedVariables false
set_option linter.unusedSimpArgs false

theorem wpList_build' {P : Program} {ops : Array Oper} {rest : List Oper} {o : Oper} {a : Act} {w : World} {Q : Exit → Act → World → Prop} (hg : o.guard = none) (t : TypeId) (parts : Array (Nat × Operand)) (ho : o.op = .build t parts) (cells : Array Value)
    (hf : P.built t (parts.map fun (i, x) => (i, a.eval x)).toList = some cells) (h : wpList P ops Q rest (a.put o.dst (.agg cells)) w) : wpList P ops Q (o :: rest) a w :=
  wpList_build hg t parts ho (by rw [hf]; rfl) (by rw [hf]; exact h)
theorem OldK.setRow {base B0 : Nat} {T : List TypeId} {w w' : World} (h : OldK base B0 T w w') {g : Nat} (hb : base ≤ g) (hB : B0 ≤ g) (cs : Array Value) : OldK base B0 T w (w'.setRow g cs) :=
  ⟨h.os, h.tape, h.output, by rw [setRow_size]; exact h.size, fun k hk => (setRow_other w' g k cs (by omega)).trans (h.block k hk), fun k o hk ho ht => (setRow_other w' g k cs (by omega)).trans (h.other k o hk ho ht)⟩
theorem below_setRow {B : Nat} {w w' : World} (h : Below B w w') {g : Nat} (hB : B ≤ g) (cs : Array Value) : Below B w (w'.setRow g cs) :=
  ⟨h.os, h.tape, h.output, by rw [setRow_size]; exact h.size, fun k hk => (setRow_other w' g k cs (by omega)).trans (h.block k hk)⟩
theorem OldK.mono {base B0 B1 : Nat} {T : List TypeId} {w w' : World} (h : OldK base B0 T w w') (hB : B1 ≤ B0) : OldK base B1 T w w' := ⟨h.os, h.tape, h.output, h.size, h.block, fun k o hk ho ht => h.other k o (by omega) ho ht⟩
/-- the order in which the lengths of the code of lengths stand -/
def ordA : Array Value := #[.int .i64 16, .int .i64 17, .int .i64 18, .int .i64 0, .int .i64 8, .int .i64 7, .int .i64 9, .int .i64 6, .int .i64 10, .int .i64 5, .int .i64 11, .int .i64 4, .int .i64 12, .int .i64 3, .int .i64 13, .int .i64 2, .int .i64 14, .int .i64 1, .int .i64 15]
theorem ordA_eq : ordA = (orderL.map natV).toArray := rfl
theorem store_ord (W : World) (old : Array Value) (h : old.size = 19) : (storeCells ⟨W.heap.size, 0, none⟩ ordA.toList).run Try.prog (W.alloc (.cells old 115)) = .ok () ((W.alloc (.cells old 115)).setRow W.heap.size ordA) := by
  have := run_storeCells_from (P := Try.prog) W.heap.size 115 ordA.toList 0 old (W.alloc (.cells old 115)) (heap_alloc_new _ _) (by rw [h]; rfl) (by decide)
  rw [this]
  congr 2
set_option maxRecDepth 100000 in
set_option maxHeartbeats 1600000 in
theorem order_any (w : World) : Calls Try.prog 65 #[] w fun e w' => e = .returned (.agg ordA) ∧ Below w.heap.size w w' := by
  go_enter Try.func65, Try.ntmps65
  have hst := store_ord w
  go_wp2_with (refine wpList_build' rfl _ _ rfl ordA (by kernel_rfl) ?_)
  refine bodyPost_ret (results_cell_row rfl _ _ w.heap.size 115 ordA (0, 0) _ rfl (setRow_heap _ _ _ _ _ _ (heap_alloc_new _ _)) Try.underlying115 rfl (by kernel_rfl)) rfl ?_
  exact ⟨rfl, below_setRow ((Below.refl _ _).alloc (Nat.le_refl _) _) (Nat.le_refl _) _⟩
end Go.Proofs.Ythpdcnjaodjjmaa.Inf

/- package inflate: codes that are told. -/
namespace Go.Proofs.Ythpdcnjaodjjmaa.Inf
open Go Go.RowKit Go.Proofs.Ythpdcnjaodjjmaa Go.Proofs.Ythpdcnjaodjjmaa.Bits Go.Proofs.Ythpdcnjaodjjmaa.Code
set_option linter.unusedVariables false
set_option linter.unusedSimpArgs false

theorem tabAt_tb {w : World} {base b p : Nat} {zs : List Int} (h : TabAt w b p (lsOf zs)) (hb : base ≤ b) (hc : chkL zs = 0) : TbAt w base p (lsOf zs) := by
  obtain ⟨h1, v, h2, h3⟩ := h
  obtain ⟨c1, _, c2, c3, _⟩ := chk_fine zs hc
  exact ⟨⟨Nat.le_trans hb h1, v, h2, own_base h3 hb⟩, c3, c2, by unfold lsOf; rw [List.length_map]; exact c1⟩
theorem own_here {w : World} {base size n : Nat} {e : TypeId} {v : Value} {xs : List Value} (h : w.ownsRow base e size v n xs) (h0 : 0 < n) : ∃ g c, v = .slice (some ⟨g, 0, none⟩) n c ∧ base ≤ g ∧ n ≤ c ∧ c ≤ maxLen ∧ SlAt w (some ⟨g, 0, none⟩) xs := by
  obtain ⟨A, c, rfl, h1, h2, h3, _⟩ := own_slat h
  rcases h.2 with ⟨h1', _⟩ | ⟨g, cap', cur, hv, hb, hg, _⟩
  · injection h1' with h1' h2'; omega
  · injection hv with hv; subst hv; exact ⟨g, c, rfl, hb, h1, h2, h3⟩
theorem slat_nth {w : World} {g : Nat} {xs : List Value} (h : SlAt w (some ⟨g, 0, none⟩) xs) {k : Nat} {v : Value} (hk : xs[k]? = some v) : w.cell? ⟨g, k, none⟩ = some v := by
  obtain ⟨b, o, e, hc⟩ := h (by
    rcases Nat.eq_zero_or_pos xs.length with h0 | h0
    · rw [List.eq_nil_of_length_eq_zero h0] at hk; cases hk
    · exact h0)
  injection e with e
  injection e with e1 e2
  subst e1 e2
  have := hc k v hk
  rwa [Nat.zero_add] at this
theorem TbAt.old {w w' : World} {base p B0 : Nat} {ls : List Nat} (h : TbAt w base p ls) (hk : Below w.heap.size w w') : TbAt w' base p ls := by
  obtain ⟨⟨h1, v, h2, h3⟩, h4, h5, h6⟩ := h
  exact ⟨⟨h1, v, h2.below hk h2.lt, own_keep h3 hk⟩, h4, h5, h6⟩
theorem zs_iv (s : List Nat) : (zsOf s).map iv = s.map natV := by
  unfold zsOf
  rw [List.map_map]
  rfl
theorem orderL_lt : ∀ j < 19, orderL.getD j 0 < 19 := by decide
theorem getR_len {row : List Bool} {p k : Nat} {a : Nat × Nat} (h : getR row p k = .ok a) : a.1 < 2 ^ k := getR_lt h
set_option maxRecDepth 100000 in
set_option maxHeartbeats 4000000 in
theorem codes_r (base g q : Nat) (A : Option Addr) (n c pos : Nat) (xs : List UInt8) (vo vk : Value) (w : World) (hq : base ≤ q) (hbw : base ≤ w.heap.size)
    (hb : Blk w g 56 #[.pointer (some ⟨q, 0, none⟩), vo, vk]) (hsrc : SrcAt w q A n c pos) (hp : pos ≤ 8 * n) (hi : InAt_ w base A n xs) :
    Calls Try.prog 45 #[.pointer (some ⟨g, 0, none⟩)] w fun e w' =>
      RPost (headR (bitsL xs) pos) (fun a e w' => ∃ p1 p2, e = .returned (.tuple #[.pointer (some ⟨p1, 0, none⟩), .pointer (some ⟨p2, 0, none⟩)]) ∧ TbAt w' base p1 a.2.1 ∧ TbAt w' base p2 a.2.2 ∧ SrcAt w' q A n c a.1 ∧ a.1 ≤ 8 * n) e w' ∧ OldK base w.heap.size srcT w w' := by
  obtain ⟨R, hR⟩ : ∃ R, R = headR (bitsL xs) pos := ⟨_, rfl⟩
  rw [← hR]
  unfold headR at hR
  have HU := Lib.hid hR
  have HB := Lib.hid hb
  have HS := Lib.hid hsrc
  have HI := Lib.hid hi
  have HO1 : Hid (OldK base w.heap.size srcT w w) := Lib.hid (OldK.refl _ _ _ _)
  have HI1 := HI
  have HB1 := HB
  have HS1 := HS
  have hp1 := hp
  have HG := Lib.hid (get_k base g q A n c pos 5 xs w hq (by rw [hb.cell]; rfl) hsrc hp hi (by omega))
  have hqlt : q < w.heap.size := Blk.lt hsrc
  clear hb hsrc hi hR
  go_enter Try.func45, Try.ntmps45
  go_wp2_with fail
  refine (HG.out).mono ?_
  rintro e w2 ⟨hr2, hk2⟩
  have HO2 := Lib.hid (HO1.out.keeps (hk2.mono hq (fun _ h => h)))
  cases hg2 : getR (bitsL xs) pos 5 with
  | bad z =>
    have he := rpost_bad hr2 hg2
    subst he
    have HU := Lib.hid (show R = .bad z by rw [HU.out, hg2]; rfl)
    clear hr2 hk2 hg2
    unfold stopE
    go_wp2_with fail
    exact ⟨rfl, bad_rpost HU.out, HO2.out⟩
  | ok a =>
    obtain ⟨he, hs2, hp2⟩ := rpost_ok hr2 hg2
    subst he
    have hx2 := getR_lt hg2
    replace HU := Lib.hid (HU.out.trans (by rw [hg2, then_ok]))
    have HB2 := Lib.hid (hk2.blk HB1.out (by decide))
    have HI2 := Lib.hid (HI1.out.keeps (hk2.mono hq (fun _ h => h)))
    have HS2 := Lib.hid hs2
    obtain ⟨x, p2⟩ := a
    dsimp only at hx2 HU HS2 hp2 ⊢
    have hxb : x < 32 := hx2
    have HKx := Lib.hid hk2
    clear hr2 hk2 hg2 hs2 HG hx2
    obtain ⟨m, hm⟩ : ∃ m, m = x + 257 := ⟨_, rfl⟩
    have hwm : IntKind.i64.wrap ((x : Int) + 257) = (m : Int) := by rw [show (x : Int) + 257 = (m : Int) by omega]; exact IntWalk.i64_in _ (by omega)
    rw [← hm] at HU
    have hm1 : 257 ≤ m := by omega

    have hm2 : m < 289 := by omega
    have HG := Lib.hid (get_k base g q A n c p2 5 xs w2 hq (by rw [HB2.out.cell]; rfl) HS2.out hp2 HI2.out (by omega))
    clear hm hxb
    go_wp2_with fail
    refine (HG.out).mono ?_
    rintro e w3 ⟨hr3, hk3⟩
    have HO3 := Lib.hid (HO2.out.keeps (hk3.mono hq (fun _ h => h)))
    cases hg3 : getR (bitsL xs) p2 5 with
    | bad z =>
      have he := rpost_bad hr3 hg3
      subst he
      have HU := Lib.hid (show R = .bad z by rw [HU.out, hg3]; rfl)
      clear hr3 hk3 hg3
      unfold stopE
      go_wp2_with fail
      exact ⟨rfl, bad_rpost HU.out, HO3.out⟩
    | ok a =>
      obtain ⟨he, hs3, hp3⟩ := rpost_ok hr3 hg3
      subst he
      have hx3 := getR_lt hg3
      replace HU := Lib.hid (HU.out.trans (by rw [hg3, then_ok]))
      have HB3 := Lib.hid (hk3.blk HB2.out (by decide))
      have HI3 := Lib.hid (HI2.out.keeps (hk3.mono hq (fun _ h => h)))
      have HS3 := Lib.hid hs3
      obtain ⟨x, p3⟩ := a
      dsimp only at hx3 HU HS3 hp3 ⊢
      have hxb : x < 32 := hx3
      have HKx := Lib.hid hk3
      clear hr3 hk3 hg3 hs3 HG hx3
      obtain ⟨d, hd⟩ : ∃ d, d = x + 1 := ⟨_, rfl⟩
      have hwd : IntKind.i64.wrap ((x : Int) + 1) = (d : Int) := by rw [show (x : Int) + 1 = (d : Int) by omega]; exact IntWalk.i64_in _ (by omega)
      rw [← hd] at HU
      have hd1 : 1 ≤ d := by omega

      have hd2 : d < 33 := by omega
      have HG := Lib.hid (get_k base g q A n c p3 4 xs w3 hq (by rw [HB3.out.cell]; rfl) HS3.out hp3 HI3.out (by omega))
      clear hd hxb
      go_wp2_with fail
      refine (HG.out).mono ?_
      rintro e w4 ⟨hr4, hk4⟩
      have HO4 := Lib.hid (HO3.out.keeps (hk4.mono hq (fun _ h => h)))
      cases hg4 : getR (bitsL xs) p3 4 with
      | bad z =>
        have he := rpost_bad hr4 hg4
        subst he
        have HU := Lib.hid (show R = .bad z by rw [HU.out, hg4]; rfl)
        clear hr4 hk4 hg4
        unfold stopE
        go_wp2_with fail
        exact ⟨rfl, bad_rpost HU.out, HO4.out⟩
      | ok a =>
        obtain ⟨he, hs4, hp4⟩ := rpost_ok hr4 hg4
        subst he
        have hx4 := getR_lt hg4
        replace HU := Lib.hid (HU.out.trans (by rw [hg4, then_ok]))
        have HB4 := Lib.hid (hk4.blk HB3.out (by decide))
        have HI4 := Lib.hid (HI3.out.keeps (hk4.mono hq (fun _ h => h)))
        have HS4 := Lib.hid hs4
        obtain ⟨x, p4⟩ := a
        dsimp only at hx4 HU HS4 hp4 ⊢
        have hxb : x < 16 := hx4
        have HKx := Lib.hid hk4
        clear hr4 hk4 hg4 hs4 HG hx4
        obtain ⟨C, hC⟩ : ∃ C, C = x + 4 := ⟨_, rfl⟩
        have hwC : IntKind.i64.wrap ((x : Int) + 4) = (C : Int) := by rw [show (x : Int) + 4 = (C : Int) by omega]; exact IntWalk.i64_in _ (by omega)
        rw [← hC] at HU
        have hC1 : 4 ≤ C := by omega

        have hC2 : C ≤ 19 := by omega
        clear hC hxb
        by_cases hbad : 286 < m ∨ 30 < d
        · have HU := Lib.hid (show R = .bad 8 by rw [HU.out, if_pos hbad])
          have hcnd : (decide ((m : Int) > 286) || decide ((d : Int) > 30)) = true := by
            rcases hbad with h | h
            · have : (m : Int) > 286 := by omega
              simp [this]
            · have : (d : Int) > 30 := by omega
              simp [this]
          rcases (by omega : 286 < m ∨ (m ≤ 286 ∧ 30 < d)) with h1 | ⟨h1, h2⟩
          · have h1' : (286 : Int) < (m : Int) := by omega
            clear hcnd hbad
            go_wp2_with fail
            refine (fail_any 8 _).mono ?_
            rintro e w5 ⟨rfl, rfl⟩
            unfold stopE
            go_wp2_with fail
            exact ⟨rfl, bad_rpost HU.out, HO4.out⟩
          · have h1' : (m : Int) ≤ 286 := by omega
            have h2' : (30 : Int) < (d : Int) := by omega
            clear hcnd hbad
            go_wp2_with fail
            refine (fail_any 8 _).mono ?_
            rintro e w5 ⟨rfl, rfl⟩
            unfold stopE
            go_wp2_with fail
            exact ⟨rfl, bad_rpost HU.out, HO4.out⟩
        · replace HU := Lib.hid (HU.out.trans (if_neg hbad))
          have hm3 : m ≤ 286 := by omega
          have hd3 : d ≤ 30 := by omega
          have hm' : (m : Int) ≤ 286 := by omega
          have hd' : (d : Int) ≤ 30 := by omega
          clear hbad hm2 hd2
          have hmk : ∀ u : World, (Instr.makeSlice 30 (.int .i64 19) (.int .i64 19)).run Try.prog u = .ok (.slice (some ⟨u.heap.size, 0, none⟩) 19 19) (u.alloc (.cells (nats (List.replicate 19 0)) 3)) := fun u => by rw [← nats_zero]; exact make_ints 19 (by omega) u
          have HOr := Lib.hid (order_any (w4.alloc (.cells (nats (List.replicate 19 0)) 3)))
          go_wp2_with fail
          refine (HOr.out).mono ?_
          rintro e w5 ⟨rfl, hb5⟩
          have hst := store_ord w5
          have hB4 := HO4.out.size
          have HO5 : Hid (OldK base w.heap.size srcT w w5) := Lib.hid ((HO4.out.below ((Below.refl _ _).alloc hB4 _) hbw).below (hb5.mono (by simp; omega)) hbw)
          have HS5 : Hid (SrcAt w5 q A n c p4) := Lib.hid (Blk.below ((HS4.out.below ((Below.refl _ _).alloc (Nat.le_refl _) _) (Blk.lt HS4.out))) hb5 (by have := Blk.lt HS4.out; simp; omega))
          obtain ⟨F, hU, hF⟩ : ∃ F, (R = (sizesR (bitsL xs) (orderL.take C) p4 (List.replicate 19 0)).then_ F) ∧ F = _ := ⟨_, HU.out, rfl⟩
          have HU := Lib.hid hU
          have HF := Lib.hid hF
          clear hU
          have Hsz : Hid (Blk w5 w4.heap.size 3 (nats (List.replicate 19 0))) := Lib.hid ((Blk.new w4 3 (nats (List.replicate 19 0))).below hb5 (by simp))
          have hC' : (C : Int) ≤ 19 := by omega
          have hC0 : (0 : Int) ≤ (C : Int) := by omega
          have hlt5 : w4.heap.size < w5.heap.size := by have := Blk.lt Hsz.out; omega
          have hgs : w.heap.size ≤ w4.heap.size := hB4
          clear hF hb5 HOr hmk
          go_wp2_with fail
          have hb6 : Below w5.heap.size w5 ((w5.alloc (.cells #[.int .i64 0, .int .i64 0, .int .i64 0, .int .i64 0, .int .i64 0, .int .i64 0, .int .i64 0, .int .i64 0, .int .i64 0, .int .i64 0, .int .i64 0, .int .i64 0, .int .i64 0, .int .i64 0, .int .i64 0, .int .i64 0, .int .i64 0, .int .i64 0, .int .i64 0] 115)).setRow w5.heap.size ordA) := below_setRow ((Below.refl _ _).alloc (Nat.le_refl _) _) (Nat.le_refl _) _
          have HO6 := Lib.hid (HO5.out.below (hb6.mono HO5.out.size) hbw)
          have HS6 := Lib.hid (Blk.below HS5.out hb6 (Blk.lt HS5.out))
          have Hsz6 := Lib.hid (Hsz.out.below hb6 hlt5)
          have Hor6 : Hid (Blk ((w5.alloc (.cells #[.int .i64 0, .int .i64 0, .int .i64 0, .int .i64 0, .int .i64 0, .int .i64 0, .int .i64 0, .int .i64 0, .int .i64 0, .int .i64 0, .int .i64 0, .int .i64 0, .int .i64 0, .int .i64 0, .int .i64 0, .int .i64 0, .int .i64 0, .int .i64 0, .int .i64 0] 115)).setRow w5.heap.size ordA) w5.heap.size 115 ordA) := Lib.hid ((Blk.new _ _ _).setRow ordA)
          have hgo : w.heap.size ≤ w5.heap.size := HO5.out.size
          generalize ((w5.alloc (.cells #[.int .i64 0, .int .i64 0, .int .i64 0, .int .i64 0, .int .i64 0, .int .i64 0, .int .i64 0, .int .i64 0, .int .i64 0, .int .i64 0, .int .i64 0, .int .i64 0, .int .i64 0, .int .i64 0, .int .i64 0, .int .i64 0, .int .i64 0, .int .i64 0, .int .i64 0] 115)).setRow w5.heap.size ordA) = w6 at *
          generalize w4.heap.size = gs at *
          generalize w5.heap.size = go at *
          clear hst HS5 Hsz HO5 hb6
          go_loopw [33] (fun vi wr => ∃ (j p : Nat) (s : List Nat), j ≤ C ∧ vi = .int .i64 (j : Int) ∧ s.length = 19 ∧ R = (sizesR (bitsL xs) ((orderL.take C).drop j) p s).then_ F ∧ p ≤ 8 * n ∧ SrcAt wr q A n c p ∧ Blk wr gs 3 (nats s) ∧ Blk wr go 115 ordA ∧ OldK base w.heap.size srcT w wr) (fun vi _ => C - (intOf vi).toNat)
          case atStart => exact ⟨0, p4, List.replicate 19 0, Nat.zero_le _, rfl, rfl, HU.out, hp4, HS6.out, Hsz6.out, Hor6.out, HO6.out⟩
          case round =>
            obtain ⟨j, p, s, hj, rfl, hsl, hR, hple, hsr, hsz, hor, hold⟩ := hrel
            have Hsl := Lib.hid hsl
            clear HU HO6 HS6 Hsz6 Hor6 hsl
            have HI6 := Lib.hid (HI.out.old hold)
            have HB6 := Lib.hid (hold.blk HB.out (by decide))
            have HO6 := Lib.hid hold
            have HS6 := Lib.hid hsr
            have Hsz := Lib.hid hsz
            have Hor := Lib.hid hor
            by_cases hlt : j < C
            · obtain ⟨k, hk⟩ : ∃ k, k = orderL.getD j 0 := ⟨_, rfl⟩
              have hk19 : k < 19 := by rw [hk]; exact orderL_lt j (by omega)
              have hcell : wr.cell? ⟨go, j, none⟩ = some (.int .i64 (k : Int)) := by
                have hj19 : j < orderL.length := by show j < 19; omega
                rw [hor.cell, ordA_eq, List.getElem?_toArray, List.getElem?_map, List.getElem?_eq_getElem hj19, hk, List.getD_eq_getElem?_getD, List.getElem?_eq_getElem hj19]
                rfl
              have hdr : (orderL.take C).drop j = k :: (orderL.take C).drop (j + 1) := by
                have hj19 : j < (orderL.take C).length := by rw [List.length_take]; show j < min C 19; omega
                rw [List.drop_eq_getElem_cons hj19, hk, List.getElem_take, List.getD_eq_getElem?_getD, List.getElem?_eq_getElem (by show j < 19; omega)]
                rfl
              have HU := Lib.hid (show R = ((getR (bitsL xs) p 3).then_ fun x => sizesR (bitsL xs) ((orderL.take C).drop (j + 1)) x.2 (s.set k x.1)).then_ F by rw [hR, hdr]; rfl)
              have HG := Lib.hid (get_k base g q A n c p 3 xs wr hq (by rw [HB6.out.cell]; rfl) hsr hple HI6.out (by omega))
              have hjC : (j : Int) < (C : Int) := by omega
              have hj0 : (0 : Int) ≤ (j : Int) := by omega
              have hk0 : (0 : Int) ≤ (k : Int) := by omega
              have hk19' : (k : Int) < 19 := by omega
              clear hk hdr hR hold hsr hsz hor
              go_wp2_with fail
              refine (HG.out).mono ?_
              rintro e w7 ⟨hr7, hk7⟩
              have HO7 := Lib.hid (HO6.out.keeps (hk7.mono hq (fun _ h => h)))
              cases hg7 : getR (bitsL xs) p 3 with
              | bad z =>
                have he := rpost_bad hr7 hg7
                subst he
                have HU := Lib.hid (show R = .bad z by rw [HU.out, hg7]; rfl)
                clear hr7 hk7 hg7
                unfold stopE
                go_wp2_with fail
                exact ⟨rfl, bad_rpost HU.out, HO7.out⟩
              | ok a =>
                obtain ⟨he, hs7, hp7⟩ := rpost_ok hr7 hg7
                subst he
                have hx7 := getR_lt hg7
                replace HU := Lib.hid (HU.out.trans (by rw [hg7, then_ok]))
                have HB7 := Lib.hid (hk7.blk HB6.out (by decide))
                have HI7 := Lib.hid (HI6.out.keeps (hk7.mono hq (fun _ h => h)))
                have HS7 := Lib.hid hs7
                obtain ⟨x, p7⟩ := a
                dsimp only at hx7 HU HS7 hp7 ⊢
                have hxb : x < 8 := hx7
                have HKx := Lib.hid hk7
                clear hr7 hk7 hg7 hs7 HG hx7
                have Hsz7 := Lib.hid (HKx.out.blk Hsz.out (by decide))
                have Hor7 := Lib.hid (HKx.out.blk Hor.out (by decide))
                have hc7 : w7.cell? ⟨gs, k, none⟩ = some (.int .i64 ((s.getD k 0 : Nat) : Int)) := by
                  rw [Hsz7.out.cell, nats_get _ _ (by rw [Hsl.out]; exact hk19), List.getD_eq_getElem?_getD, List.getElem?_eq_getElem (by rw [Hsl.out]; exact hk19)]
                  rfl
                have hf7 := Hsz7.out.frozen k
                have HU := Lib.hid (show R = (sizesR (bitsL xs) ((orderL.take C).drop (j + 1)) p7 (s.set k x)).then_ F from HU.out)
                generalize s.getD k 0 = ov at hc7
                clear HKx Hsz Hor
                go_wp2_with fail
                go_roundw
                case rel => exact ⟨j + 1, p7, s.set k x, by omega, by go_num, by rw [List.length_set]; exact Hsl.out, HU.out, hp7, Blk.far HS7.out (p := ⟨gs, k, none⟩) (by show q ≠ gs; omega) _, by rw [← nats_set]; exact Hsz7.out.set_ k _, Hor7.out.far (p := ⟨gs, k, none⟩) (by show go ≠ gs; omega) _, HO7.out.below ((Below.refl _ _).setCell (p := ⟨gs, k, none⟩) hgs _) hbw⟩
                case measure => simp [intOf]; omega
            · obtain rfl : j = C := by omega
              have HU := Lib.hid (show R = F (p, s) by rw [hR, List.drop_of_length_le (by rw [List.length_take]; omega)]; rfl)
              rw [HF.out] at HU
              dsimp only at HU
              have HT := Lib.hid (table_r (some ⟨gs, 0, none⟩) 19 19 (zsOf s) wr (by unfold zsOf; rw [List.length_map]; exact Hsl.out) (by decide) (show SlAt _ _ _ by rw [zs_iv]; exact SlAt.of_heap hsz (by simp [nats])))
              have hB6 := hold.size
              obtain ⟨N, hN⟩ : ∃ N, N = m + d := ⟨_, rfl⟩
              have hwN : IntKind.i64.wrap ((m : Int) + (d : Int)) = (N : Int) := by rw [show (m : Int) + (d : Int) = (N : Int) by omega]; exact IntWalk.i64_in _ (by omega)
              have hN1 : m < N := by omega
              have hN2 : N ≤ 316 := by omega
              have hNd : N - m = d := by omega
              rw [← hN] at HU
              have hj19 : ¬ (j : Int) < (j : Int) := by omega
              clear hN hR hold hsr hsz hor HF Hsz Hor
              go_wp2_with fail
              refine (HT.out).mono ?_
              rintro e w8 ⟨hr8, hb8⟩
              have HO8 := Lib.hid (HO6.out.below (hb8.mono hB6) hbw)
              cases ht8 : tableR (zsOf s) with
              | bad z =>
                have he := rpost_bad hr8 ht8
                subst he
                have HU := Lib.hid (show R = .bad z by rw [HU.out, ht8]; rfl)
                clear hr8 hb8 ht8
                unfold stopE
                go_wp2_with fail
                exact ⟨rfl, bad_rpost HU.out, HO8.out⟩
              | ok ls =>
                obtain ⟨hc8, tp, he, ht⟩ := rpost_ok hr8 ht8
                subst he
                have els : lsOf (zsOf s) = ls := by
                  unfold tableR at ht8
                  rw [if_pos hc8] at ht8
                  injection ht8
                rw [← els] at ht
                have HTb := Lib.hid (show TbAt w8 base tp ls by rw [← els]; exact tabAt_tb ht (Nat.le_trans hbw hB6) hc8)
                replace HU := Lib.hid (HU.out.trans (by rw [ht8, then_ok]))
                have HS8 := Lib.hid (Blk.below HS6.out hb8 (Blk.lt HS6.out))
                have HB8 := Lib.hid (HB6.out.below hb8 (Blk.lt HB6.out))
                have HI8 := Lib.hid (HI.out.old HO8.out)
                have hbw8 : base ≤ w8.heap.size := Nat.le_trans hbw HO8.out.size
                have HL := Lib.hid (lengths_r base base g q tp A n c p N xs ls vo vk w8 hq hbw8 HB8.out HS8.out hple HI8.out HTb.out hN2)
                clear hr8 hb8 ht8 els ht hc8 HT
                go_wp2_with fail
                refine (HL.out).mono ?_
                rintro e w9 ⟨hr9, hk9⟩
                have HO9 := Lib.hid (HO8.out.trans (hk9.mono HO8.out.size))
                cases hl9 : lenR (bitsL xs) ls N N p [] with
                | bad z =>
                  have he := rpost_bad hr9 hl9
                  subst he
                  have HU := Lib.hid (show R = .bad z by rw [HU.out, hl9]; rfl)
                  clear hr9 hk9 hl9
                  unfold stopE
                  go_wp2_with fail
                  exact ⟨rfl, bad_rpost HU.out, HO9.out⟩
                | ok a =>
                  obtain ⟨A9, c9, he, hll, hown, hs9, hp9⟩ := rpost_ok hr9 hl9
                  subst he
                  replace HU := Lib.hid (HU.out.trans (by rw [hl9, then_ok]))
                  obtain ⟨p9, l⟩ := a
                  dsimp only at hll hown hs9 hp9 HU ⊢
                  obtain ⟨g9, c9', e9, hg9, hc9, hc9m, hsl9⟩ := own_here hown (by omega)
                  injection e9 with e1 e2 e3
                  subst e1 e3
                  have HOwn := Lib.hid hown
                  have HS9 := Lib.hid hs9
                  obtain ⟨v, hv⟩ : ∃ v, v = l.getD 256 0 := ⟨_, rfl⟩
                  have hl256 : l[256]? = some v := by rw [hv, List.getD_eq_getElem?_getD, List.getElem?_eq_getElem (by omega)]; rfl
                  have hc256 : w9.cell? ⟨g9, 256, none⟩ = some (.int .i64 (v : Int)) := by
                    exact slat_nth hsl9 (by rw [List.getElem?_map, hl256]; rfl)
                  rw [← hv] at HU
                  have hN256 : (256 : Int) < (N : Int) := by omega
                  have Hl := Lib.hid hll
                  clear hr9 hk9 hl9 hown hs9 hv hl256 hll hsl9 HL
                  by_cases hv0 : v = 0
                  · subst hv0
                    have HU := Lib.hid (show R = .bad 8 by rw [HU.out, if_pos rfl])
                    go_wp2_with fail
                    refine (fail_any 8 _).mono ?_
                    rintro e w10 ⟨rfl, rfl⟩
                    unfold stopE
                    go_wp2_with fail
                    exact ⟨rfl, bad_rpost HU.out, HO9.out⟩
                  · replace HU := Lib.hid (HU.out.trans (if_neg hv0))
                    have hvb : ((v : Int) == 0) = false := by rw [beq_eq_false_iff_ne]; omega
                    clear hv0
                    go_wp2_with fail
                    have hmN : (m : Int) ≤ (N : Int) := by omega
                    have hm0 : (0 : Int) ≤ (m : Int) := by omega
                    have hNc : (N : Int) ≤ (c9 : Int) := by omega
                    have hmc : (m : Int) ≤ (c9 : Int) := by omega
                    have hmc' : ¬ (c9 = m) := by omega
                    have hmcn : (m : Int) ≠ (c9 : Int) := by omega
                    refine wp_region_S (fun _ => True) 9 (by kernel_rfl) ?_
                    have hHeld : True := True.intro
                    obtain ⟨w10, hw10⟩ : ∃ w10, w10 = w9.drew := ⟨_, rfl⟩
                    have hb10 : Below w9.heap.size w9 w10 := by rw [hw10]; exact (Below.refl _ _).drew
                    have HOwn := Lib.hid (own_keep HOwn.out hb10)
                    have HS10 := Lib.hid (Blk.below HS9.out hb10 (Blk.lt HS9.out))
                    have HO10 := Lib.hid (HO9.out.below (hb10.mono HO9.out.size) hbw)
                    rw [← hw10]
                    clear hw10 hb10 hc256 HS9 HO9
                    refine wpAnyS_takeT (i := 0) (v := ?va0) (by kernel_rfl) (by kernel_rfl) rfl (by kernel_rfl) (by kernel_rfl) (by kernel_rfl) (fun _ _ _ h => h) (by rfl) (by assumption) ?hya0 ?resta0
                    case hya0 => (intro W hSW; (try dsimp only at hSW); go_simp; try with_reducible rfl)
                    (try simp only [Act.put, List.getElem_toArray, List.getElem_cons_zero, List.getElem_cons_succ, List.setIfInBounds_toArray, List.set_cons_zero, List.set_cons_succ])
                    refine wpAnyS_takeT (i := 1) (v := ?va1) (by kernel_rfl) (by kernel_rfl) rfl (by kernel_rfl) (by kernel_rfl) (by kernel_rfl) (fun _ _ _ h => h) (by rfl) (by assumption) ?hya1 ?resta1
                    case hya1 => (intro W hSW; (try dsimp only at hSW); go_simp; try with_reducible rfl)
                    (try simp only [Act.put, List.getElem_toArray, List.getElem_cons_zero, List.getElem_cons_succ, List.setIfInBounds_toArray, List.set_cons_zero, List.set_cons_succ])
                    refine wpAnyS_takeT (i := 2) (v := ?va2) (by kernel_rfl) (by kernel_rfl) rfl (by kernel_rfl) (by kernel_rfl) (by kernel_rfl) (fun _ _ _ h => h) (by rfl) (by assumption) ?hya2 ?resta2
                    case hya2 => (intro W hSW; (try dsimp only at hSW); go_simp; try with_reducible rfl)
                    (try simp only [Act.put, List.getElem_toArray, List.getElem_cons_zero, List.getElem_cons_succ, List.setIfInBounds_toArray, List.set_cons_zero, List.set_cons_succ])
                    refine wpAnyS_takeT (i := 4) (v := ?va4) (by kernel_rfl) (by kernel_rfl) rfl (by kernel_rfl) (by kernel_rfl) (by kernel_rfl) (fun _ _ _ h => h) (by rfl) (by assumption) ?hya4 ?resta4
                    case hya4 => (intro W hSW; (try dsimp only at hSW); go_simp; try with_reducible rfl)
                    (try simp only [Act.put, List.getElem_toArray, List.getElem_cons_zero, List.getElem_cons_succ, List.setIfInBounds_toArray, List.set_cons_zero, List.set_cons_succ])
                    refine wpAnyS_takeT (i := 5) (v := ?va5) (by kernel_rfl) (by kernel_rfl) rfl (by kernel_rfl) (by kernel_rfl) (by kernel_rfl) (fun _ _ _ h => h) (by rfl) (by assumption) ?hya5 ?resta5
                    case hya5 => (intro W hSW; (try dsimp only at hSW); go_simp; try with_reducible rfl)
                    (try simp only [Act.put, List.getElem_toArray, List.getElem_cons_zero, List.getElem_cons_succ, List.setIfInBounds_toArray, List.set_cons_zero, List.set_cons_succ])
                    refine wpAnyS_takeT (i := 6) (v := ?va6) (by kernel_rfl) (by kernel_rfl) rfl (by kernel_rfl) (by kernel_rfl) (by kernel_rfl) (fun _ _ _ h => h) (by rfl) (by assumption) ?hya6 ?resta6
                    case hya6 => (intro W hSW; (try dsimp only at hSW); go_simp; try with_reducible rfl)
                    (try simp only [Act.put, List.getElem_toArray, List.getElem_cons_zero, List.getElem_cons_succ, List.setIfInBounds_toArray, List.set_cons_zero, List.set_cons_succ])
                    obtain ⟨gb, gcap, eg, _, _, _, hsl⟩ := own_here HOwn.out (by omega)
                    injection eg with e1 e2 e3
                    injection e1 with e1
                    injection e1 with e1
                    subst e1 e3
                    have htake : (l.take m).length = m := by rw [List.length_take, Hl.out]; omega
                    have hdrop : (l.drop m).length = d := by rw [List.length_drop, Hl.out]; exact hNd
                    have HT1 := Lib.hid (fun W (h : SlAt W (some ⟨g9, 0, none⟩) ((l.map natV))) (cc : Nat) => table_r (some ⟨g9, 0, none⟩) m cc (zsOf (l.take m)) W (by unfold zsOf; rw [List.length_map]; exact htake) (by unfold maxLen; omega) (show SlAt _ _ _ by rw [zs_iv, List.map_take]; exact SlAt.take h m))
                    have HT2 := Lib.hid (fun W (h : SlAt W (some ⟨g9, 0, none⟩) ((l.map natV))) (cc : Nat) => table_r (some ⟨g9, m, none⟩) d cc (zsOf (l.drop m)) W (by unfold zsOf; rw [List.length_map]; exact hdrop) (by unfold maxLen; omega) (show SlAt _ _ _ by rw [zs_iv, List.map_drop]; have := SlAt.drop h m; rwa [Nat.zero_add] at this))
                    have Hsl := Lib.hid hsl
                    have hB10 := HO10.out.size
                    clear hsl htake hdrop HOwn
                    refine wpAnyS_only (i := 3) rfl (by kernel_rfl) (fun K hK => ?_)
                    go_simp
                    clear hHeld
                    go_at_call 77
                    refine (HT1.out w10 Hsl.out _).mono ?_
                    rintro e w11 ⟨hr11, hb11⟩
                    have HO11 := Lib.hid (HO10.out.below (hb11.mono hB10) hbw)
                    cases ht11 : tableR (zsOf (l.take m)) with
                    | bad z =>
                      have he := rpost_bad hr11 ht11
                      subst he
                      have HU := Lib.hid (show R = .bad z by rw [HU.out, ht11]; rfl)
                      clear hr11 hb11 ht11
                      unfold stopE
                      go_wp2_with fail
                      exact ⟨rfl, bad_rpost HU.out, HO11.out⟩
                    | ok l1 =>
                      obtain ⟨hc11, p1, he, ht⟩ := rpost_ok hr11 ht11
                      subst he
                      have els : lsOf (zsOf (l.take m)) = l1 := by
                        unfold tableR at ht11
                        rw [if_pos hc11] at ht11
                        injection ht11
                      rw [← els] at ht
                      have HTb1 := Lib.hid (show TbAt w11 base p1 l1 by rw [← els]; exact tabAt_tb ht (Nat.le_trans hbw hB10) hc11)
                      replace HU := Lib.hid (HU.out.trans (by rw [ht11, then_ok]))
                      have HS11 := Lib.hid (Blk.below HS10.out hb11 (Blk.lt HS10.out))
                      have Hsl := Lib.hid (SlAt.below Hsl.out hb11)
                      have hB11 := HO11.out.size
                      clear hr11 hb11 ht11 els ht hc11 HT1 HS10
                      refine hK.out _ _ True.intro (fun hHeld => ?_)
                      clear hK K
                      (try simp only [Act.put, List.getElem_toArray, List.getElem_cons_zero, List.getElem_cons_succ, List.setIfInBounds_toArray, List.set_cons_zero, List.set_cons_succ])
                      refine wpAnyS_only (i := 7) rfl (by kernel_rfl) (fun K hK => ?_)
                      go_simp
                      go_at_call 77
                      refine (HT2.out w11 Hsl.out _).mono ?_
                      rintro e w12 ⟨hr12, hb12⟩
                      have HO12 := Lib.hid (HO11.out.below (hb12.mono hB11) hbw)
                      cases ht12 : tableR (zsOf (l.drop m)) with
                      | bad z =>
                        have he := rpost_bad hr12 ht12
                        subst he
                        have HU := Lib.hid (show R = .bad z by rw [HU.out, ht12]; rfl)
                        clear hr12 hb12 ht12
                        unfold stopE
                        go_wp2_with fail
                        exact ⟨rfl, bad_rpost HU.out, HO12.out⟩
                      | ok l2 =>
                        obtain ⟨hc12, p2', he, ht⟩ := rpost_ok hr12 ht12
                        subst he
                        have els : lsOf (zsOf (l.drop m)) = l2 := by
                          unfold tableR at ht12
                          rw [if_pos hc12] at ht12
                          injection ht12
                        rw [← els] at ht
                        have HTb2 := Lib.hid (show TbAt w12 base p2' l2 by rw [← els]; exact tabAt_tb ht (Nat.le_trans hbw hB11) hc12)
                        have HTb1 := Lib.hid (HTb1.out.old (B0 := 0) hb12)
                        replace HU := Lib.hid (HU.out.trans (by rw [ht12, then_ok]))
                        have HS12 := Lib.hid (Blk.below HS11.out hb12 (Blk.lt HS11.out))
                        clear hr12 hb12 ht12 els ht hc12 HT2 HS11 Hsl
                        refine hK.out _ _ True.intro (fun hHeld => ?_)
                        clear hK K
                        (try simp only [Act.put, List.getElem_toArray, List.getElem_cons_zero, List.getElem_cons_succ, List.setIfInBounds_toArray, List.set_cons_zero, List.set_cons_succ])
                        refine wpAnyS_only (i := 8) rfl (by kernel_rfl) (fun K hK => ?_)
                        go_simp
                        refine hK.out _ _ True.intro (fun hHeld => ?_)
                        clear hK K
                        (try simp only [Act.put, List.getElem_toArray, List.getElem_cons_zero, List.getElem_cons_succ, List.setIfInBounds_toArray, List.set_cons_zero, List.set_cons_succ])
                        refine wpAnyS_last rfl (by kernel_rfl) (by kernel_rfl) (fun K hK => ?_)
                        go_simp
                        refine hK.out _ _ ?_
                        clear hK K
                        go_wp2_with fail
                        go_ret2
                        exact ⟨ok_rpost HU.out ⟨p1, p2', rfl, HTb1.out, HTb2.out, HS12.out, hp9⟩, HO12.out⟩
end Go.Proofs.Ythpdcnjaodjjmaa.Inf

/- package inflate: a block. -/
namespace Go.Proofs.Ythpdcnjaodjjmaa.Inf
open Go Go.RowKit Go.Proofs.Ythpdcnjaodjjmaa Go.Proofs.Ythpdcnjaodjjmaa.Bits Go.Proofs.Ythpdcnjaodjjmaa.Code
set_option linter.unusedVariables false
set_option linter.unusedSimpArgs false

/-- the types of blocks that a block turns -/
def infT2 : List TypeId := [56, 76, 5, 3]
theorem kT2 {base : Nat} {w w' : World} (hk : Keeps base infT w w') : Keeps base infT2 w w' := hk.mono (Nat.le_refl _) (fun t ht => by simp only [infT, List.mem_cons, List.not_mem_nil, or_false] at ht; rcases ht with h | h | h <;> subst h <;> simp [infT2])
theorem kT3 {base : Nat} {w w' : World} (hk : Keeps base srcT w w') : Keeps base infT w w' := kT hk (Nat.le_refl _)
theorem RdAt.filledO {w w' : World} {base g q : Nat} {A : Option Addr} {n c pos pos' : Nat} {out : List UInt8} {ks : List Nat} (h : RdAt w base g q A n c pos out ks) (hk : Keeps base srcT w w') (hs : SrcAt w' q A n c pos') (hp : pos' ≤ 8 * n) : RdAt w' base g q A n c pos' out ks := by
  obtain ⟨hg, hq, _, hfew, ⟨vo, vk, hb, ho, hk'⟩, _⟩ := h
  exact ⟨hg, hq, hp, hfew, ⟨vo, vk, hk.blk hb (by decide), hk.own ho (by decide), hk.own hk' (by decide)⟩, hs⟩
theorem RdAt.rdr {w : World} {base g q : Nat} {A : Option Addr} {n c pos : Nat} {out : List UInt8} {ks : List Nat} (h : RdAt w base g q A n c pos out ks) : ∃ vo vk, Blk w g 56 #[.pointer (some ⟨q, 0, none⟩), vo, vk] := by
  obtain ⟨_, _, _, _, ⟨vo, vk, hb, _, _⟩, _⟩ := h
  exact ⟨vo, vk, hb⟩
theorem lsOf_zsOf (l : List Nat) : lsOf (zsOf l) = l := by
  unfold lsOf zsOf
  rw [List.map_map]
  exact (List.map_congr_left (fun x _ => by simp)).trans (List.map_id l)
theorem chk_fixA : chkL (zsOf fixedA) = 0 := by decide +kernel
theorem chk_fixB : chkL (zsOf fixedB) = 0 := by decide +kernel
set_option maxRecDepth 100000 in
set_option maxHeartbeats 1600000 in
/-- the kinds of blocks, one more -/
theorem kind_any {w : World} {base g q : Nat} {A : Option Addr} {n c pos : Nat} {out : List UInt8} {ks : List Nat} (h : RdAt w base g q A n c pos out ks) : ∃ vo Ak kl ck, kl = ks.length ∧ Blk w g 56 #[.pointer (some ⟨q, 0, none⟩), vo, .slice Ak kl ck] ∧ w.ownsRow base 5 1 vo out.length (out.map u8v) ∧ w.ownsRow base 3 1 (.slice Ak kl ck) kl (ks.map natV) := by
  obtain ⟨_, _, _, _, ⟨vo, vk, hb, ho, hk⟩, _⟩ := h
  obtain ⟨Ak, ck, rfl, _⟩ := own_slat hk
  exact ⟨vo, Ak, _, ck, rfl, hb, ho, hk⟩
theorem hkl_vo {w : World} {o : Obj} {g : Nat} {t : TypeId} {a vo vk vo' vk' : Value} (h1 : Blk w g t #[a, vo, vk]) (h2 : Blk (w.alloc o) g t #[a, vo', vk']) : vo = vo' := by
  have := (h1.alloc o).symm.trans h2
  injection this with this
  injection this with this
  simp at this
  exact this.1
set_option maxRecDepth 100000 in
set_option maxHeartbeats 1600000 in
theorem block_r (base g q : Nat) (A : Option Addr) (n c pos : Nat) (xs : List UInt8) (out : List UInt8) (ks : List Nat) (w : World) (h : RdAt w base g q A n c pos out ks) (hi : InAt_ w base A n xs) (hn : n ≤ 1000000) (hkl : ks.length ≤ 1000000) :
    Calls Try.prog 26 #[.pointer (some ⟨g, 0, none⟩)] w fun e w' =>
      RPost (blockR (bitsL xs) pos out) (fun a e w' => e = .returned (.bool a.1) ∧ RdAt w' base g q A n c a.2.2.1 a.2.2.2 (ks ++ [a.2.1])) e w' ∧ Keeps base infT2 w w' := by
  obtain ⟨R, hR⟩ : ∃ R, R = blockR (bitsL xs) pos out := ⟨_, rfl⟩
  rw [← hR]
  unfold blockR at hR
  have HU := Lib.hid hR
  have HR1 := Lib.hid h
  have HI := Lib.hid hi
  have hq := h.qle
  have HG := Lib.hid (get_r base g q A n c pos 1 xs out ks w h hi (by omega))
  clear h hi hR
  go_enter Try.func26, Try.ntmps26
  go_wp2_with fail
  refine (HG.out).mono ?_
  rintro e w2 ⟨hr2, hk2⟩
  have HK2 := Lib.hid (kT2 hk2)
  have HI2 := Lib.hid (HI.out.keeps hk2)
  cases hg2 : getR (bitsL xs) pos 1 with
  | bad z =>
    have he := rpost_bad hr2 hg2
    subst he
    have HU := Lib.hid (show R = .bad z by rw [HU.out, hg2]; rfl)
    clear hr2 hk2 hg2
    unfold stopE
    go_wp2_with fail
    exact ⟨rfl, bad_rpost HU.out, HK2.out⟩
  | ok a =>
    obtain ⟨he, hrd2⟩ := rpost_ok hr2 hg2
    subst he
    replace HU := Lib.hid (HU.out.trans (by rw [hg2, then_ok]))
    have HR2 := Lib.hid hrd2
    obtain ⟨x, p2⟩ := a
    dsimp only at HU HR2 ⊢
    obtain ⟨lb, hlb⟩ : ∃ lb, lb = (x == 1) := ⟨_, rfl⟩
    have hlb' : ((x : Int) == 1) = lb := by
      rw [hlb, Bool.eq_iff_iff]
      simp only [beq_iff_eq]
      omega
    rw [← hlb] at HU
    have HG := Lib.hid (get_r base g q A n c p2 2 xs out ks w2 HR2.out HI2.out (by omega))
    clear hr2 hk2 hg2 hrd2 hlb
    go_wp2_with fail
    refine (HG.out).mono ?_
    rintro e w3 ⟨hr3, hk3⟩
    have HK3 := Lib.hid (HK2.out.trans (kT2 hk3))
    have HI3 := Lib.hid (HI2.out.keeps hk3)
    cases hg3 : getR (bitsL xs) p2 2 with
    | bad z =>
      have he := rpost_bad hr3 hg3
      subst he
      have HU := Lib.hid (show R = .bad z by rw [HU.out, hg3]; rfl)
      clear hr3 hk3 hg3
      unfold stopE
      go_wp2_with fail
      exact ⟨rfl, bad_rpost HU.out, HK3.out⟩
    | ok a =>
      obtain ⟨he, hrd3⟩ := rpost_ok hr3 hg3
      subst he
      have hk4 := getR_lt hg3
      replace HU := Lib.hid (HU.out.trans (by rw [hg3, then_ok]))
      have HR3 := Lib.hid hrd3
      obtain ⟨k, p3⟩ := a
      dsimp only at HU HR3 hk4 ⊢
      clear hr3 hk3 hg3 hrd3 HG
      rcases (by omega : k = 0 ∨ k = 1 ∨ k = 2 ∨ k = 3) with hk | hk | hk | hk
      · subst hk
        replace HU := Lib.hid (HU.out.trans (if_pos rfl))
        have HG := Lib.hid (stored_r base g q A n c p3 xs out ks w3 HR3.out HI3.out)
        have hrb := HR3
        go_wp2_with fail
        refine (HG.out).mono ?_
        rintro e w4 ⟨hr4, hk4⟩
        have HK4 := Lib.hid (HK3.out.trans (kT2 hk4))
        cases hg4 : storedR (bitsL xs) p3 out with
        | bad z =>
          have he := rpost_bad hr4 hg4
          subst he
          have HU := Lib.hid (show R = .bad z by rw [HU.out, hg4]; rfl)
          clear hr4 hk4 hg4
          unfold stopE
          go_wp2_with fail
          exact ⟨rfl, bad_rpost HU.out, HK4.out⟩
        | ok a =>
          obtain ⟨he, hrd4⟩ := rpost_ok hr4 hg4
          subst he
          replace HU := Lib.hid (HU.out.trans (by rw [hg4, then_ok]))
          have HR4 := Lib.hid hrd4
          obtain ⟨p4, o4⟩ := a
          dsimp only at HU HR4 ⊢
          clear hr4 hk4 hg4 hrd4 HG hrb
          obtain ⟨vo, Ak, kl, ck, ekl, hb, ho, hkk⟩ := kind_any HR4.out
          have hbw : base ≤ w4.heap.size := HR4.out.bw
          have c2 : w4.cell? ⟨g, 2, none⟩ = some (.slice Ak kl ck) := by rw [hb.cell]; rfl
          have f2 := hb.frozen 2
          have hlt := hb.lt
          have hkl1 : kl ≤ 1000000 := by omega
          have hbA : Below w4.heap.size w4 (w4.alloc (.cells #[.int .i64 0] 3)) := (Below.refl _ _).alloc (Nat.le_refl _) _
          have HO2 := Lib.hid (own_keep hkk hbA)
          have HB2 := Lib.hid (hb.below hbA hb.lt)
          have hbw2 : base ≤ (w4.alloc (.cells #[.int .i64 0] 3)).heap.size := Nat.le_trans hbw hbA.size
          have HZ : Hid (SlAt (w4.alloc (.cells #[.int .i64 0] 3)) (some ⟨w4.heap.size, 0, none⟩) [.int .i64 0]) := Lib.hid (SlAt.of_heap (heap_alloc_new _ _) rfl)
          have Hekl := Lib.hid ekl
          have HKA := Lib.hid (Keeps.of_below (T := infT2) hbA hbw)
          clear hb ho hkk hbA ekl
          go_wp2_with (at_builtin; refine wpList_app _ rfl (.tmp 47) (.tmp 49) _ rfl base 3 _ 1 8 tyI _ kl (ks.map natV) rfl HO2.out (some ⟨w4.heap.size, 0, none⟩) 1 1 [.int .i64 0] rfl rfl HZ.out (by simp [Value.oneCell']) (by simp) (by unfold maxLen; omega) (by omega) hbw2 ?_; intro v8 w8 hown8 hg8 _; obtain ⟨A8, d8, rfl, _⟩ := own_slat hown8; have hkp : Keeps base [3] (w4.alloc (.cells #[.int .i64 0] 3)) w8 := (Keeps.refl _ _ _).grown HO2.out hg8 (by simp) hbw2; have HB8 := Lib.hid (hkp.blk HB2.out (by decide)); have HK8 := Lib.hid hkp; have Ho8 := Lib.hid hown8; have c8 : w8.cell? ⟨g, 2, none⟩ = some (.slice Ak kl ck) := (HB8.out.cell 2).trans rfl; have f8 := HB8.out.frozen 2; clear hown8 hg8 hkp)
          go_ret
          have hgg : base ≤ g := by obtain ⟨hg, _⟩ := HR4.out; exact hg
          have k8 : Keeps base [3] w4 w8 := (Keeps.of_below ((Below.refl _ _).alloc (Nat.le_refl _) _) hbw).trans HK8.out
          have k9 : Keeps base [56] w8 (w8.setCell ⟨g, 2, none⟩ (.slice A8 (kl + 1) d8)) := (Keeps.refl _ _ _).setBlk HB8.out (by simp) hgg 2 _
          have k89 : Keeps base [3, 56] w4 (w8.setCell ⟨g, 2, none⟩ (.slice A8 (kl + 1) d8)) := (k8.mono (Nat.le_refl _) (by simp)).trans (k9.mono (Nat.le_refl _) (by simp))
          refine ⟨ok_rpost HU.out ⟨rfl, ?_⟩, HK4.out.trans (k89.mono (Nat.le_refl _) (by simp [infT2]))⟩
          obtain ⟨h1, h2, h3, h4, ⟨vo', vk', h5, h6, h7⟩, h8⟩ := HR4.out
          have e5 : vo' = vo := by
            have := hkl_vo h5 HB2.out
            exact this
          subst e5
          refine ⟨h1, h2, h3, h4, ⟨vo', .slice A8 (kl + 1) d8, HB8.out.set_ 2 _, k89.own h6 (by decide), ?_⟩, k89.blk h8 (by decide)⟩
          have h9 := k9.own Ho8.out (by decide)
          rw [List.length_append, ← Hekl.out, List.map_append]
          exact h9
      · subst hk
        replace HU := Lib.hid (HU.out.trans ((if_neg (by omega)).trans (if_pos rfl)))
        have HF := Lib.hid (fixed_any w3)
        have hbw3 : base ≤ w3.heap.size := HR3.out.bw
        go_wp2_with fail
        refine (HF.out).mono ?_
        rintro e w4 ⟨Aa, ca, Ab, cb, rfl, ha, hb, hb4⟩
        have HK4 := Lib.hid (HK3.out.trans (Keeps.of_below hb4 hbw3))
        have HI4 := Lib.hid (HI3.out.keeps (T := infT) (Keeps.of_below hb4 hbw3))
        have HR4 := Lib.hid (HR3.out.below hb4)
        obtain ⟨_, _, e1, _, _, sa, _⟩ := own_slat ha
        injection e1 with e1 _ e2
        subst e1 e2
        obtain ⟨_, _, e1, _, _, sb, _⟩ := own_slat hb
        injection e1 with e1 _ e2
        subst e1 e2
        have SA := Lib.hid sa
        have SB := Lib.hid sb
        have HM := Lib.hid (make_any Aa 288 ca (zsOf fixedA) w4 (by decide) (show SlAt _ _ _ by rw [zs_iv]; exact sa) chk_fixA)
        have hbw4 : base ≤ w4.heap.size := HR4.out.bw
        clear ha hb hb4 sa sb HF
        go_wp2_with fail
        refine (HM.out).mono ?_
        rintro e w5 ⟨⟨pa, rfl, hta⟩, hb5⟩
        rw [lsOf_zsOf] at hta
        have HTa : Hid (TbAt w5 base pa fixedA) := Lib.hid (by
          rw [← lsOf_zsOf fixedA] at hta ⊢
          exact tabAt_tb hta hbw4 chk_fixA)
        have HK5 := Lib.hid (HK4.out.trans (Keeps.of_below hb5 hbw4))
        have HI5 := Lib.hid (HI4.out.keeps (T := infT) (Keeps.of_below hb5 hbw4))
        have HR5 := Lib.hid (HR4.out.below hb5)
        have SB := Lib.hid (SlAt.below SB.out hb5)
        have HM := Lib.hid (make_any Ab 32 cb (zsOf fixedB) w5 (by decide) (show SlAt _ _ _ by rw [zs_iv]; exact SB.out) chk_fixB)
        have hbw5 : base ≤ w5.heap.size := HR5.out.bw
        clear hb5 hta
        go_wp2_with fail
        refine (HM.out).mono ?_
        rintro e w6 ⟨⟨pb, rfl, htb⟩, hb6⟩
        rw [lsOf_zsOf] at htb
        have HTb : Hid (TbAt w6 base pb fixedB) := Lib.hid (by
          rw [← lsOf_zsOf fixedB] at htb ⊢
          exact tabAt_tb htb hbw5 chk_fixB)
        have HTa := Lib.hid (HTa.out.old (B0 := 0) hb6)
        have HK6 := Lib.hid (HK5.out.trans (Keeps.of_below hb6 hbw5))
        have HI6 := Lib.hid (HI5.out.keeps (T := infT) (Keeps.of_below hb6 hbw5))
        have HR6 := Lib.hid (HR5.out.below hb6)
        clear hb6 htb HM SA SB
        have HG := Lib.hid (body_r base g q pa pb A n c p3 xs out ks fixedA fixedB w6 HR6.out HI6.out HTa.out HTb.out hn)
        have hwlen : (bitsL xs).length = (bitsL xs).length := rfl
        clear hwlen
        go_wp2_with fail
        refine (HG.out).mono ?_
        rintro e w7 ⟨hr7, hk7⟩
        have HK7 := Lib.hid (HK6.out.trans (kT2 hk7))
        cases hg7 : bodyR (bitsL xs) fixedA fixedB ((bitsL xs).length + 1) p3 out with
        | bad z =>
          have he := rpost_bad hr7 hg7
          subst he
          have HU := Lib.hid (show R = .bad z by rw [HU.out, hg7]; rfl)
          clear hr7 hk7 hg7
          unfold stopE
          go_wp2_with fail
          exact ⟨rfl, bad_rpost HU.out, HK7.out⟩
        | ok a =>
          obtain ⟨he, hrd7⟩ := rpost_ok hr7 hg7
          subst he
          replace HU := Lib.hid (HU.out.trans (by rw [hg7, then_ok]))
          have HR7 := Lib.hid hrd7
          obtain ⟨p7, o7⟩ := a
          dsimp only at HU HR7 ⊢
          clear hr7 hk7 hg7 hrd7 HG
          obtain ⟨vo, Ak, kl, ck, ekl, hb, ho, hkk⟩ := kind_any HR7.out
          have hbw : base ≤ w7.heap.size := HR7.out.bw
          have c2 : w7.cell? ⟨g, 2, none⟩ = some (.slice Ak kl ck) := by rw [hb.cell]; rfl
          have f2 := hb.frozen 2
          have hlt := hb.lt
          have hkl1 : kl ≤ 1000000 := by omega
          have hbA : Below w7.heap.size w7 (w7.alloc (.cells #[.int .i64 1] 3)) := (Below.refl _ _).alloc (Nat.le_refl _) _
          have HO2 := Lib.hid (own_keep hkk hbA)
          have HB2 := Lib.hid (hb.below hbA hb.lt)
          have hbw2 : base ≤ (w7.alloc (.cells #[.int .i64 1] 3)).heap.size := Nat.le_trans hbw hbA.size
          have HZ : Hid (SlAt (w7.alloc (.cells #[.int .i64 1] 3)) (some ⟨w7.heap.size, 0, none⟩) [.int .i64 1]) := Lib.hid (SlAt.of_heap (heap_alloc_new _ _) rfl)
          have Hekl := Lib.hid ekl
          have HKA := Lib.hid (Keeps.of_below (T := infT2) hbA hbw)
          clear hb ho hkk hbA ekl
          go_wp2_with (at_builtin; refine wpList_app _ rfl (.tmp 47) (.tmp 49) _ rfl base 3 _ 1 8 tyI _ kl (ks.map natV) rfl HO2.out (some ⟨w7.heap.size, 0, none⟩) 1 1 [.int .i64 1] rfl rfl HZ.out (by simp [Value.oneCell']) (by simp) (by unfold maxLen; omega) (by omega) hbw2 ?_; intro v8 w8 hown8 hg8 _; obtain ⟨A8, d8, rfl, _⟩ := own_slat hown8; have hkp : Keeps base [3] (w7.alloc (.cells #[.int .i64 1] 3)) w8 := (Keeps.refl _ _ _).grown HO2.out hg8 (by simp) hbw2; have HB8 := Lib.hid (hkp.blk HB2.out (by decide)); have HK8 := Lib.hid hkp; have Ho8 := Lib.hid hown8; have c8 : w8.cell? ⟨g, 2, none⟩ = some (.slice Ak kl ck) := (HB8.out.cell 2).trans rfl; have f8 := HB8.out.frozen 2; clear hown8 hg8 hkp)
          go_ret
          have hgg : base ≤ g := by obtain ⟨hg, _⟩ := HR7.out; exact hg
          have k8 : Keeps base [3] w7 w8 := (Keeps.of_below ((Below.refl _ _).alloc (Nat.le_refl _) _) hbw).trans HK8.out
          have k9 : Keeps base [56] w8 (w8.setCell ⟨g, 2, none⟩ (.slice A8 (kl + 1) d8)) := (Keeps.refl _ _ _).setBlk HB8.out (by simp) hgg 2 _
          have k89 : Keeps base [3, 56] w7 (w8.setCell ⟨g, 2, none⟩ (.slice A8 (kl + 1) d8)) := (k8.mono (Nat.le_refl _) (by simp)).trans (k9.mono (Nat.le_refl _) (by simp))
          refine ⟨ok_rpost HU.out ⟨rfl, ?_⟩, HK7.out.trans (k89.mono (Nat.le_refl _) (by simp [infT2]))⟩
          obtain ⟨h1, h2, h3, h4, ⟨vo', vk', h5, h6, h7⟩, h8⟩ := HR7.out
          have e5 : vo' = vo := by
            have := hkl_vo h5 HB2.out
            exact this
          subst e5
          refine ⟨h1, h2, h3, h4, ⟨vo', .slice A8 (kl + 1) d8, HB8.out.set_ 2 _, k89.own h6 (by decide), ?_⟩, k89.blk h8 (by decide)⟩
          have h9 := k9.own Ho8.out (by decide)
          rw [List.length_append, ← Hekl.out, List.map_append]
          exact h9
      · subst hk
        replace HU := Lib.hid (HU.out.trans ((if_neg (by omega)).trans ((if_neg (by omega)).trans (if_pos rfl))))
        obtain ⟨vo0, vk0, hrdr⟩ := HR3.out.rdr
        have hbw3 : base ≤ w3.heap.size := HR3.out.bw
        have HC := Lib.hid (codes_r base g q A n c p3 xs vo0 vk0 w3 hq hbw3 hrdr HR3.out.src HR3.out.ple HI3.out)
        clear hrdr
        go_wp2_with fail
        refine (HC.out).mono ?_
        rintro e w4 ⟨hr4, hk4⟩
        have hkk := hk4.toKeeps
        have HK4 := Lib.hid (HK3.out.trans (kT2 (kT3 hkk)))
        cases hg4 : headR (bitsL xs) p3 with
        | bad z =>
          have he := rpost_bad hr4 hg4
          subst he
          have HU := Lib.hid (show R = .bad z by rw [HU.out, hg4]; rfl)
          clear hr4 hk4 hg4 hkk
          unfold stopE
          go_wp2_with fail
          exact ⟨rfl, bad_rpost HU.out, HK4.out⟩
        | ok a =>
          obtain ⟨pa, pb, he, hta, htb, hs4, hp4⟩ := rpost_ok hr4 hg4
          subst he
          replace HU := Lib.hid (HU.out.trans (by rw [hg4, then_ok]))
          have HI4 := Lib.hid (HI3.out.keeps hkk)
          have HR4 := Lib.hid (HR3.out.filledO hkk hs4 hp4)
          have HTa := Lib.hid hta
          have HTb := Lib.hid htb
          obtain ⟨p4, la, lb'⟩ := a
          dsimp only at HU HR4 HTa HTb ⊢
          clear hr4 hk4 hg4 hkk hta htb hs4 hp4 HC
          have HG := Lib.hid (body_r base g q pa pb A n c p4 xs out ks la lb' w4 HR4.out HI4.out HTa.out HTb.out hn)
          have hwlen : (bitsL xs).length = (bitsL xs).length := rfl
          clear hwlen
          go_wp2_with fail
          refine (HG.out).mono ?_
          rintro e w7 ⟨hr7, hk7⟩
          have HK7 := Lib.hid (HK4.out.trans (kT2 hk7))
          cases hg7 : bodyR (bitsL xs) la lb' ((bitsL xs).length + 1) p4 out with
          | bad z =>
            have he := rpost_bad hr7 hg7
            subst he
            have HU := Lib.hid (show R = .bad z by rw [HU.out, hg7]; rfl)
            clear hr7 hk7 hg7
            unfold stopE
            go_wp2_with fail
            exact ⟨rfl, bad_rpost HU.out, HK7.out⟩
          | ok a =>
            obtain ⟨he, hrd7⟩ := rpost_ok hr7 hg7
            subst he
            replace HU := Lib.hid (HU.out.trans (by rw [hg7, then_ok]))
            have HR7 := Lib.hid hrd7
            obtain ⟨p7, o7⟩ := a
            dsimp only at HU HR7 ⊢
            clear hr7 hk7 hg7 hrd7 HG
            obtain ⟨vo, Ak, kl, ck, ekl, hb, ho, hkk⟩ := kind_any HR7.out
            have hbw : base ≤ w7.heap.size := HR7.out.bw
            have c2 : w7.cell? ⟨g, 2, none⟩ = some (.slice Ak kl ck) := by rw [hb.cell]; rfl
            have f2 := hb.frozen 2
            have hlt := hb.lt
            have hkl1 : kl ≤ 1000000 := by omega
            have hbA : Below w7.heap.size w7 (w7.alloc (.cells #[.int .i64 2] 3)) := (Below.refl _ _).alloc (Nat.le_refl _) _
            have HO2 := Lib.hid (own_keep hkk hbA)
            have HB2 := Lib.hid (hb.below hbA hb.lt)
            have hbw2 : base ≤ (w7.alloc (.cells #[.int .i64 2] 3)).heap.size := Nat.le_trans hbw hbA.size
            have HZ : Hid (SlAt (w7.alloc (.cells #[.int .i64 2] 3)) (some ⟨w7.heap.size, 0, none⟩) [.int .i64 2]) := Lib.hid (SlAt.of_heap (heap_alloc_new _ _) rfl)
            have Hekl := Lib.hid ekl
            have HKA := Lib.hid (Keeps.of_below (T := infT2) hbA hbw)
            clear hb ho hkk hbA ekl
            go_wp2_with (at_builtin; refine wpList_app _ rfl (.tmp 47) (.tmp 49) _ rfl base 3 _ 1 8 tyI _ kl (ks.map natV) rfl HO2.out (some ⟨w7.heap.size, 0, none⟩) 1 1 [.int .i64 2] rfl rfl HZ.out (by simp [Value.oneCell']) (by simp) (by unfold maxLen; omega) (by omega) hbw2 ?_; intro v8 w8 hown8 hg8 _; obtain ⟨A8, d8, rfl, _⟩ := own_slat hown8; have hkp : Keeps base [3] (w7.alloc (.cells #[.int .i64 2] 3)) w8 := (Keeps.refl _ _ _).grown HO2.out hg8 (by simp) hbw2; have HB8 := Lib.hid (hkp.blk HB2.out (by decide)); have HK8 := Lib.hid hkp; have Ho8 := Lib.hid hown8; have c8 : w8.cell? ⟨g, 2, none⟩ = some (.slice Ak kl ck) := (HB8.out.cell 2).trans rfl; have f8 := HB8.out.frozen 2; clear hown8 hg8 hkp)
            go_ret
            have hgg : base ≤ g := by obtain ⟨hg, _⟩ := HR7.out; exact hg
            have k8 : Keeps base [3] w7 w8 := (Keeps.of_below ((Below.refl _ _).alloc (Nat.le_refl _) _) hbw).trans HK8.out
            have k9 : Keeps base [56] w8 (w8.setCell ⟨g, 2, none⟩ (.slice A8 (kl + 1) d8)) := (Keeps.refl _ _ _).setBlk HB8.out (by simp) hgg 2 _
            have k89 : Keeps base [3, 56] w7 (w8.setCell ⟨g, 2, none⟩ (.slice A8 (kl + 1) d8)) := (k8.mono (Nat.le_refl _) (by simp)).trans (k9.mono (Nat.le_refl _) (by simp))
            refine ⟨ok_rpost HU.out ⟨rfl, ?_⟩, HK7.out.trans (k89.mono (Nat.le_refl _) (by simp [infT2]))⟩
            obtain ⟨h1, h2, h3, h4, ⟨vo', vk', h5, h6, h7⟩, h8⟩ := HR7.out
            have e5 : vo' = vo := by
              have := hkl_vo h5 HB2.out
              exact this
            subst e5
            refine ⟨h1, h2, h3, h4, ⟨vo', .slice A8 (kl + 1) d8, HB8.out.set_ 2 _, k89.own h6 (by decide), ?_⟩, k89.blk h8 (by decide)⟩
            have h9 := k9.own Ho8.out (by decide)
            rw [List.length_append, ← Hekl.out, List.map_append]
            exact h9
      · replace HU := Lib.hid (show R = .bad 4 from HU.out.trans (by rw [if_neg (by omega), if_neg (by omega), if_neg (by omega)]))
        subst hk
        go_wp2_with fail
        refine (fail_any 4 _).mono ?_
        rintro e w5 ⟨rfl, rfl⟩
        unfold stopE
        go_wp2_with fail
        exact ⟨rfl, bad_rpost HU.out, HK3.out⟩
end Go.Proofs.Ythpdcnjaodjjmaa.Inf

/- package inflate: Unpack's deferred closure. -/
namespace Go.Proofs.Ythpdcnjaodjjmaa.Inf
open Go Go.RowKit Go.Proofs.Ythpdcnjaodjjmaa Go.Proofs.Ythpdcnjaodjjmaa.Bits Go.Proofs.Ythpdcnjaodjjmaa.Code
set_option linter.unusedVariables false
set_option linter.unusedSimpArgs false

/-- the four results' variables -/
structure OutAt (w : World) (B g2 g3 g4 g5 : Nat) (v2 v3 v4 v5 : Value) : Prop where
  le2 : B ≤ g2
  le3 : B ≤ g3
  le4 : B ≤ g4
  le5 : B ≤ g5
  b2 : Blk w g2 22 #[v2]
  b3 : Blk w g3 3 #[v3]
  b4 : Blk w g4 30 #[v4]
  b5 : Blk w g5 23 #[v5]
theorem blk_ne {w : World} {g g' : Nat} {t t' : TypeId} {cs cs' : Array Value} (h : Blk w g t cs) (h' : Blk w g' t' cs') (hne : t ≠ t') : g ≠ g' := by
  rintro rfl
  have := h.symm.trans h'
  injection this with this
  injection this with _ e _
  exact hne e
theorem OutAt.s2 {w : World} {B g2 g3 g4 g5 : Nat} {v2 v3 v4 v5 : Value} (h : OutAt w B g2 g3 g4 g5 v2 v3 v4 v5) (u : Value) : OutAt (w.setCell ⟨g2, 0, none⟩ u) B g2 g3 g4 g5 u v3 v4 v5 :=
  ⟨h.le2, h.le3, h.le4, h.le5, h.b2.set_ 0 u, h.b3.far (p := ⟨g2, 0, none⟩) (blk_ne h.b3 h.b2 (by decide)) u, h.b4.far (p := ⟨g2, 0, none⟩) (blk_ne h.b4 h.b2 (by decide)) u, h.b5.far (p := ⟨g2, 0, none⟩) (blk_ne h.b5 h.b2 (by decide)) u⟩
theorem OutAt.s3 {w : World} {B g2 g3 g4 g5 : Nat} {v2 v3 v4 v5 : Value} (h : OutAt w B g2 g3 g4 g5 v2 v3 v4 v5) (u : Value) : OutAt (w.setCell ⟨g3, 0, none⟩ u) B g2 g3 g4 g5 v2 u v4 v5 :=
  ⟨h.le2, h.le3, h.le4, h.le5, h.b2.far (p := ⟨g3, 0, none⟩) (blk_ne h.b2 h.b3 (by decide)) u, h.b3.set_ 0 u, h.b4.far (p := ⟨g3, 0, none⟩) (blk_ne h.b4 h.b3 (by decide)) u, h.b5.far (p := ⟨g3, 0, none⟩) (blk_ne h.b5 h.b3 (by decide)) u⟩
theorem OutAt.s4 {w : World} {B g2 g3 g4 g5 : Nat} {v2 v3 v4 v5 : Value} (h : OutAt w B g2 g3 g4 g5 v2 v3 v4 v5) (u : Value) : OutAt (w.setCell ⟨g4, 0, none⟩ u) B g2 g3 g4 g5 v2 v3 u v5 :=
  ⟨h.le2, h.le3, h.le4, h.le5, h.b2.far (p := ⟨g4, 0, none⟩) (blk_ne h.b2 h.b4 (by decide)) u, h.b3.far (p := ⟨g4, 0, none⟩) (blk_ne h.b3 h.b4 (by decide)) u, h.b4.set_ 0 u, h.b5.far (p := ⟨g4, 0, none⟩) (blk_ne h.b5 h.b4 (by decide)) u⟩
theorem OutAt.s5 {w : World} {B g2 g3 g4 g5 : Nat} {v2 v3 v4 v5 : Value} (h : OutAt w B g2 g3 g4 g5 v2 v3 v4 v5) (u : Value) : OutAt (w.setCell ⟨g5, 0, none⟩ u) B g2 g3 g4 g5 v2 v3 v4 u :=
  ⟨h.le2, h.le3, h.le4, h.le5, h.b2.far (p := ⟨g5, 0, none⟩) (blk_ne h.b2 h.b5 (by decide)) u, h.b3.far (p := ⟨g5, 0, none⟩) (blk_ne h.b3 h.b5 (by decide)) u, h.b4.far (p := ⟨g5, 0, none⟩) (blk_ne h.b4 h.b5 (by decide)) u, h.b5.set_ 0 u⟩
theorem OutAt.below {w w' : World} {B g2 g3 g4 g5 : Nat} {v2 v3 v4 v5 : Value} (h : OutAt w B g2 g3 g4 g5 v2 v3 v4 v5) (hb : Below w.heap.size w w') : OutAt w' B g2 g3 g4 g5 v2 v3 v4 v5 :=
  ⟨h.le2, h.le3, h.le4, h.le5, h.b2.below hb h.b2.lt, h.b3.below hb h.b3.lt, h.b4.below hb h.b4.lt, h.b5.below hb h.b5.lt⟩
/-- what the variables' cells hold -/
structure OutC (w : World) (g2 g3 g4 g5 : Nat) (v2 v3 v4 v5 : Value) : Prop where
  c2 : w.cell? ⟨g2, 0, none⟩ = some v2
  c3 : w.cell? ⟨g3, 0, none⟩ = some v3
  c4 : w.cell? ⟨g4, 0, none⟩ = some v4
  c5 : w.cell? ⟨g5, 0, none⟩ = some v5
  f2 : w.frozen? ⟨g2, 0, none⟩ = false
  f3 : w.frozen? ⟨g3, 0, none⟩ = false
  f4 : w.frozen? ⟨g4, 0, none⟩ = false
  f5 : w.frozen? ⟨g5, 0, none⟩ = false
theorem OutAt.cells {w : World} {B g2 g3 g4 g5 : Nat} {v2 v3 v4 v5 : Value} (h : OutAt w B g2 g3 g4 g5 v2 v3 v4 v5) : OutC w g2 g3 g4 g5 v2 v3 v4 v5 :=
  ⟨h.b2.cell 0, h.b3.cell 0, h.b4.cell 0, h.b5.cell 0, h.b2.frozen 0, h.b3.frozen 0, h.b4.frozen 0, h.b5.frozen 0⟩
set_option maxRecDepth 100000 in
set_option maxHeartbeats 1600000 in
theorem catch_panicking (B g2 g3 g4 g5 : Nat) (v2 v3 v4 v5 : Value) (x : Int) (older : List PanicEntry) (w : World) (hBw : B ≤ w.heap.size) (h : OutAt w B g2 g3 g4 g5 v2 v3 v4 v5) :
    CallsD Try.prog 24 #[.pointer (some ⟨g2, 0, none⟩), .pointer (some ⟨g3, 0, none⟩), .pointer (some ⟨g4, 0, none⟩), .pointer (some ⟨g5, 0, none⟩)] (.panicking ({ v := .iface 50 (.agg #[.int .i64 x]), recovered := false } :: older)) w fun e u' w' =>
      e = .returned (.tuple #[]) ∧ u' = .panicking ({ v := .iface 50 (.agg #[.int .i64 x]), recovered := true } :: older) ∧
        OutAt w' B g2 g3 g4 g5 (.slice none 0 0) (.int .i64 0) (.slice none 0 0) (.int .i64 x) ∧ Below B w w' := by
  have H := Lib.hid h
  clear h
  refine callsD_of_wpS Try.func24 rfl fun c₀ cs hu => ?_
  apply wpS_seq
  apply wpS_region
  simp [wpOpsS, go_sem, recoverD, hu, Try.ntmps24, Exit.thenS]
  refine wpS_of_wp (wp_mono (Q := fun e a w' => e = .normal ∧ a.defers = [] ∧ OutAt w' B g2 g3 g4 g5 (.slice none 0 0) (.int .i64 0) (.slice none 0 0) (.int .i64 x) ∧ Below B w w') ?_ ?_)
  rotate_left
  · rintro e a w' ⟨rfl, hd, h1, h2⟩
    cases c₀
    simp only at hu
    subst hu
    exact ⟨hd, _, rfl, _, results_none rfl _ _ _, rfl, rfl, h1, h2⟩
  clear hu
  have htm : #[.pointer (some ⟨g2, 0, none⟩), .pointer (some ⟨g3, 0, none⟩), .pointer (some ⟨g4, 0, none⟩), .pointer (some ⟨g5, 0, none⟩)] ++ ((Array.replicate 16 undef).setIfInBounds 3 (.iface 50 (.agg #[.int .i64 x]))).setIfInBounds 0 (.iface 50 (.agg #[.int .i64 x])) = #[.pointer (some ⟨g2, 0, none⟩), .pointer (some ⟨g3, 0, none⟩), .pointer (some ⟨g4, 0, none⟩), .pointer (some ⟨g5, 0, none⟩), .iface 50 (.agg #[.int .i64 x]), undef, undef, .iface 50 (.agg #[.int .i64 x]), undef, undef, undef, undef, undef, undef, undef, undef, undef, undef, undef, undef] := rfl
  rw [htm]
  clear htm
  have has : ∀ (v : Value) (W : World), (Instr.typeAssert (.iface 50 v) 20 50 true).run Try.prog W = .ok (.tuple #[v, .bool true]) W := fun _ _ => by kernel_rfl
  go_wp2_with fail
  obtain ⟨gx, hgx⟩ : ∃ gx, gx = w.heap.size := ⟨_, rfl⟩
  have hb2 : Below w.heap.size w (w.alloc (.cells #[.int .i64 x] 50)) := (Below.refl _ _).alloc (Nat.le_refl _) _
  have H2 := Lib.hid (H.out.below hb2)
  have Hb2 := Lib.hid (hb2.mono hBw)
  have HX : Hid (Blk (w.alloc (.cells #[.int .i64 x] 50)) gx 50 #[.int .i64 x]) := Lib.hid (by rw [hgx]; exact Blk.new _ _ _)
  clear hb2
  rw [← hgx]
  clear hgx
  generalize w.alloc (.cells #[.int .i64 x] 50) = w2 at *
  refine wp_region_S (fun W => W.cell? ⟨gx, 0, none⟩ = some (.int .i64 x)) 5 (by kernel_rfl) ?_
  have hHeld : w2.drew.cell? ⟨gx, 0, none⟩ = some (.int .i64 x) := HX.out.cell 0
  have H3 := Lib.hid (H2.out.below ((Below.refl _ _).drew))
  have Hb3 := Lib.hid (Hb2.out.trans ((Below.refl B w2).drew))
  have HX3 : Hid (Blk w2.drew gx 50 #[.int .i64 x]) := Lib.hid HX.out
  clear H2 Hb2 HX
  generalize w2.drew = w3 at *
  refine wpAnyS_takeT (i := 0) (v := ?va0) (by kernel_rfl) (by kernel_rfl) rfl (by kernel_rfl) (by kernel_rfl) (by kernel_rfl) (fun _ _ _ h => h) (by rfl) (by assumption) ?hya0 ?resta0
  case hya0 => (intro W hSW; (try dsimp only at hSW); go_simp; try with_reducible rfl)
  (try simp only [Act.put, List.getElem_toArray, List.getElem_cons_zero, List.getElem_cons_succ, List.setIfInBounds_toArray, List.set_cons_zero, List.set_cons_succ])
  refine wpAnyS_takeT (i := 1) (v := ?va1) (by kernel_rfl) (by kernel_rfl) rfl (by kernel_rfl) (by kernel_rfl) (by kernel_rfl) (fun _ _ _ h => h) (by rfl) (by assumption) ?hya1 ?resta1
  case hya1 => (intro W hSW; (try dsimp only at hSW); go_simp; try with_reducible rfl)
  (try simp only [Act.put, List.getElem_toArray, List.getElem_cons_zero, List.getElem_cons_succ, List.setIfInBounds_toArray, List.set_cons_zero, List.set_cons_succ])
  obtain ⟨c2, c3, c4, c5, f2, f3, f4, f5⟩ := H3.out.cells
  refine wpAnyS_only (i := 2) rfl (by kernel_rfl) (fun K hK => ?_)
  go_simp
  have H4 := Lib.hid (H3.out.s2 (.slice none 0 0))
  have Hb4 := Lib.hid (Hb3.out.setCell (p := ⟨g2, 0, none⟩) H3.out.le2 (.slice none 0 0))
  have HX4 := Lib.hid (HX3.out.far (p := ⟨g2, 0, none⟩) (blk_ne HX3.out H3.out.b2 (by decide)) (.slice none 0 0))
  clear hHeld c2 c3 c4 c5 f2 f3 f4 f5
  refine hK.out _ _ (HX4.out.cell 0) (fun hHeld => ?_)
  clear hK K H3 Hb3 HX3
  (try simp only [Act.put, List.getElem_toArray, List.getElem_cons_zero, List.getElem_cons_succ, List.setIfInBounds_toArray, List.set_cons_zero, List.set_cons_succ])
  generalize w3.setCell ⟨g2, 0, none⟩ (.slice none 0 0) = w4 at *
  obtain ⟨c2, c3, c4, c5, f2, f3, f4, f5⟩ := H4.out.cells
  refine wpAnyS_only (i := 3) rfl (by kernel_rfl) (fun K hK => ?_)
  go_simp
  have H5 := Lib.hid (H4.out.s3 (.int .i64 0))
  have Hb5 := Lib.hid (Hb4.out.setCell (p := ⟨g3, 0, none⟩) H4.out.le3 (.int .i64 0))
  have HX5 := Lib.hid (HX4.out.far (p := ⟨g3, 0, none⟩) (blk_ne HX4.out H4.out.b3 (by decide)) (.int .i64 0))
  clear hHeld c2 c3 c4 c5 f2 f3 f4 f5
  refine hK.out _ _ (HX5.out.cell 0) (fun hHeld => ?_)
  clear hK K H4 Hb4 HX4
  (try simp only [Act.put, List.getElem_toArray, List.getElem_cons_zero, List.getElem_cons_succ, List.setIfInBounds_toArray, List.set_cons_zero, List.set_cons_succ])
  generalize w4.setCell ⟨g3, 0, none⟩ (.int .i64 0) = w5 at *
  obtain ⟨c2, c3, c4, c5, f2, f3, f4, f5⟩ := H5.out.cells
  refine wpAnyS_only (i := 4) rfl (by kernel_rfl) (fun K hK => ?_)
  go_simp
  have H6 := Lib.hid (H5.out.s4 (.slice none 0 0))
  have Hb6 := Lib.hid (Hb5.out.setCell (p := ⟨g4, 0, none⟩) H5.out.le4 (.slice none 0 0))
  have HX6 := Lib.hid (HX5.out.far (p := ⟨g4, 0, none⟩) (blk_ne HX5.out H5.out.b4 (by decide)) (.slice none 0 0))
  clear hHeld c2 c3 c4 c5 f2 f3 f4 f5
  refine hK.out _ _ (HX6.out.cell 0) (fun hHeld => ?_)
  clear hK K H5 Hb5 HX5
  (try simp only [Act.put, List.getElem_toArray, List.getElem_cons_zero, List.getElem_cons_succ, List.setIfInBounds_toArray, List.set_cons_zero, List.set_cons_succ])
  generalize w5.setCell ⟨g4, 0, none⟩ (.slice none 0 0) = w6 at *
  obtain ⟨c2, c3, c4, c5, f2, f3, f4, f5⟩ := H6.out.cells
  refine wpAnyS_last rfl (by kernel_rfl) (by kernel_rfl) (fun K hK => ?_)
  go_simp
  have H7 := Lib.hid (H6.out.s5 (.int .i64 x))
  have Hb7 := Lib.hid (Hb6.out.setCell (p := ⟨g5, 0, none⟩) H6.out.le5 (.int .i64 x))
  clear hHeld c2 c3 c4 c5 f2 f3 f4 f5
  refine hK.out _ _ ?_
  clear hK K
  exact ⟨rfl, rfl, H7.out, Hb7.out⟩
set_option maxRecDepth 100000 in
set_option maxHeartbeats 1600000 in
theorem catch_idle (g2 g3 g4 g5 : Nat) (w : World) :
    CallsD Try.prog 24 #[.pointer (some ⟨g2, 0, none⟩), .pointer (some ⟨g3, 0, none⟩), .pointer (some ⟨g4, 0, none⟩), .pointer (some ⟨g5, 0, none⟩)] .returning w fun e u' w' => e = .returned (.tuple #[]) ∧ u' = .returning ∧ w' = w := by
  refine callsD_of_wpS Try.func24 rfl fun c₀ cs hu => ?_
  apply wpS_seq
  apply wpS_region
  simp [wpOpsS, go_sem, recoverD, hu, Try.ntmps24, Exit.thenS]
  refine wpS_of_wp (wp_mono (Q := fun e a w' => e = .normal ∧ a.defers = [] ∧ w' = w) ?_ ?_)
  rotate_left
  · rintro e a w' ⟨rfl, hd, rfl⟩
    cases c₀
    simp only at hu
    subst hu
    exact ⟨hd, _, rfl, _, results_none rfl _ _ _, rfl, rfl, rfl⟩
  clear hu
  go_wp2_with fail
end Go.Proofs.Ythpdcnjaodjjmaa.Inf

/- package inflate: where reading stands goes on, and never beyond the row. No program in sight. -/
namespace Go.Proofs.Ythpdcnjaodjjmaa.Inf
open Go.Proofs.Ythpdcnjaodjjmaa.Bits Go.Proofs.Ythpdcnjaodjjmaa.Code
set_option linter.unusedVariables false

theorem then_inv {α β : Type} {r : Rd α} {f : α → Rd β} {b : β} (h : r.then_ f = .ok b) : ∃ a, r = .ok a ∧ f a = .ok b := by
  cases r with
  | bad e => cases h
  | ok a => exact ⟨a, rfl, h⟩
theorem fillP_le (p : Nat) : p ≤ fillP p := by unfold fillP; omega
theorem raw_mono {row : List Bool} : ∀ {n p : Nat} {out : List UInt8} {a : Nat × List UInt8}, rawR row n p out = .ok a → p ≤ row.length → p ≤ a.1 ∧ a.1 ≤ row.length
  | 0, p, out, a, h, hp => by injection h with h; subst h; exact ⟨Nat.le_refl _, hp⟩
  | n + 1, p, out, a, h, hp => by
    obtain ⟨x, hx, h⟩ := then_inv h
    obtain ⟨o, ho, h⟩ := then_inv h
    have h1 := getR_pos hx
    have h2 := raw_mono h (by omega)
    omega
theorem stored_mono {row : List Bool} {p : Nat} {out : List UInt8} {a : Nat × List UInt8} (h : storedR row p out = .ok a) : p ≤ a.1 ∧ a.1 ≤ row.length := by
  obtain ⟨x, hx, h⟩ := then_inv h
  obtain ⟨y, hy, h⟩ := then_inv h
  have h1 := getR_pos hx
  have h2 := getR_pos hy
  have h3 := fillP_le p
  split at h
  · cases h
  · have h4 := raw_mono h (by omega)
    omega
theorem lenStep_mono {row : List Bool} {ls l : List Nat} {n p : Nat} {a : Nat × List Nat} (h : lenStep row ls n p l = .ok a) (hp : p ≤ row.length) : p ≤ a.1 ∧ a.1 ≤ row.length := by
  obtain ⟨k, hk, h⟩ := then_inv h
  have h1 := symR_lt hk hp
  have key : ∀ (q nb v add : Nat), ((getR row q nb).then_ fun x => (againR n l v (add + x.1)).then_ fun m => Rd.ok (x.2, m)) = .ok a → q ≤ a.1 ∧ a.1 ≤ row.length := by
    intro q nb v add h
    obtain ⟨x, hx, h⟩ := then_inv h
    obtain ⟨m, _, h⟩ := then_inv h
    have := getR_pos hx
    injection h with h
    subst h
    (try dsimp only)
    omega
  split at h
  · split at h
    · cases h
    · have := key _ _ _ _ h; omega
  · split at h
    · have := key _ _ _ _ h; omega
    · split at h
      · have := key _ _ _ _ h; omega
      · obtain ⟨m, _, h⟩ := then_inv h
        injection h with h
        subst h
        (try dsimp only)
        omega
theorem len_mono {row : List Bool} {ls : List Nat} {n : Nat} : ∀ {f p : Nat} {l : List Nat} {a : Nat × List Nat}, lenR row ls n f p l = .ok a → p ≤ row.length → p ≤ a.1 ∧ a.1 ≤ row.length
  | 0, p, l, a, h, hp => by injection h with h; subst h; exact ⟨Nat.le_refl _, hp⟩
  | f + 1, p, l, a, h, hp => by
    unfold lenR at h
    split at h
    · injection h with h; subst h; exact ⟨Nat.le_refl _, hp⟩
    · obtain ⟨x, hx, h⟩ := then_inv h
      have h1 := lenStep_mono hx hp
      have h2 := len_mono h h1.2
      omega
theorem sizes_mono {row : List Bool} : ∀ {ks : List Nat} {p : Nat} {s : List Nat} {a : Nat × List Nat}, sizesR row ks p s = .ok a → p ≤ row.length → p ≤ a.1 ∧ a.1 ≤ row.length
  | [], p, s, a, h, hp => by injection h with h; subst h; exact ⟨Nat.le_refl _, hp⟩
  | k :: ks, p, s, a, h, hp => by
    obtain ⟨x, hx, h⟩ := then_inv h
    have h1 := getR_pos hx
    have h2 := sizes_mono h (by omega)
    omega
theorem head_mono {row : List Bool} {p : Nat} {a : Nat × List Nat × List Nat} (h : headR row p = .ok a) : p ≤ a.1 ∧ a.1 ≤ row.length := by
  obtain ⟨x, hx, h⟩ := then_inv h
  obtain ⟨y, hy, h⟩ := then_inv h
  obtain ⟨z, hz, h⟩ := then_inv h
  have h1 := getR_pos hx
  have h2 := getR_pos hy
  have h3 := getR_pos hz
  split at h
  · cases h
  · obtain ⟨s, hs, h⟩ := then_inv h
    obtain ⟨t, _, h⟩ := then_inv h
    obtain ⟨l, hl, h⟩ := then_inv h
    have h4 := sizes_mono hs (by omega)
    have h5 := len_mono hl h4.2
    split at h
    · cases h
    · obtain ⟨u, _, h⟩ := then_inv h
      obtain ⟨v, _, h⟩ := then_inv h
      injection h with h
      subst h
      (try dsimp only)
      omega
theorem bodyStep_mono {row : List Bool} {lit far : List Nat} {p : Nat} {out : List UInt8} {a : Bool × Nat × List UInt8} (h : bodyStep row lit far p out = .ok a) (hp : p ≤ row.length) : p < a.2.1 ∧ a.2.1 ≤ row.length := by
  obtain ⟨k, hk, h⟩ := then_inv h
  have h1 := symR_lt hk hp
  split at h
  · obtain ⟨o, _, h⟩ := then_inv h
    injection h with h; subst h; dsimp only; omega
  · split at h
    · injection h with h; subst h; dsimp only; omega
    · split at h
      · cases h
      · obtain ⟨x, hx, h⟩ := then_inv h
        obtain ⟨f, hf, h⟩ := then_inv h
        have h2 := getR_pos hx
        have h3 := symR_lt hf (by omega)
        split at h
        · cases h
        · obtain ⟨y, hy, h⟩ := then_inv h
          have h4 := getR_pos hy
          split at h
          · cases h
          · obtain ⟨o, _, h⟩ := then_inv h
            injection h with h; subst h; dsimp only; omega
theorem body_mono {row : List Bool} {lit far : List Nat} : ∀ {f p : Nat} {out : List UInt8} {a : Nat × List UInt8}, bodyR row lit far f p out = .ok a → p ≤ row.length → p ≤ a.1 ∧ a.1 ≤ row.length
  | 0, p, out, a, h, hp => by cases h
  | f + 1, p, out, a, h, hp => by
    obtain ⟨x, hx, h⟩ := then_inv h
    have h1 := bodyStep_mono hx hp
    split at h
    · injection h with h; subst h; omega
    · have h2 := body_mono h h1.2
      omega
theorem block_mono {row : List Bool} {p : Nat} {out : List UInt8} {a : Bool × Nat × Nat × List UInt8} (h : blockR row p out = .ok a) : p < a.2.2.1 ∧ a.2.2.1 ≤ row.length := by
  obtain ⟨l, hl, h⟩ := then_inv h
  obtain ⟨k, hk, h⟩ := then_inv h
  have h1 := getR_pos hl
  have h2 := getR_pos hk
  split at h
  · obtain ⟨x, hx, h⟩ := then_inv h
    have := stored_mono hx
    injection h with h; subst h; dsimp only; omega
  · split at h
    · obtain ⟨x, hx, h⟩ := then_inv h
      have := body_mono hx (by omega)
      injection h with h; subst h; dsimp only; omega
    · split at h
      · obtain ⟨y, hy, h⟩ := then_inv h
        obtain ⟨x, hx, h⟩ := then_inv h
        have h3 := head_mono hy
        have := body_mono hx h3.2
        injection h with h; subst h; dsimp only; omega
      · cases h
theorem blocks_mono {row : List Bool} : ∀ {f p : Nat} {out : List UInt8} {ks : List Nat} {a : Nat × List UInt8 × List Nat}, blocksR row f p out ks = .ok a → p < a.1 ∧ a.1 ≤ row.length ∧ a.2.2 ≠ []
  | 0, p, out, ks, a, h => by cases h
  | f + 1, p, out, ks, a, h => by
    obtain ⟨x, hx, h⟩ := then_inv h
    have h1 := block_mono hx
    split at h
    · injection h with h; subst h; exact ⟨h1.1, h1.2, by simp⟩
    · have h2 := blocks_mono h
      exact ⟨by omega, h2.2⟩
/-! ### a beginning of the row says the same, as far as it goes -/
theorem cut_ok {α : Type} {L : Nat} {pos : α → Nat} {a : α} (h : pos a ≤ L) : Cut L pos (.ok a) (.ok a) := by
  intro b hb
  injection hb with hb
  subst hb
  rw [if_pos h]
theorem cut_bad {α : Type} {L : Nat} {pos : α → Nat} {e : Int} {r : Rd α} : Cut L pos (.bad e) r := by intro b hb; cases hb
/-- what comes of a value that is the same, where it stands as it stood -/
theorem cut_same {α β : Type} {L : Nat} {pb : β → Nat} {r : Rd α} {f f' : α → Rd β} (hf : ∀ a, r = .ok a → Cut L pb (f a) (f' a)) : Cut L pb (r.then_ f) (r.then_ f') := by
  cases r with
  | bad e => exact cut_bad
  | ok a => exact hf a rfl
variable {row : List Bool} {L : Nat}
theorem cut_raw (hL : L ≤ row.length) : ∀ {n p : Nat} {out : List UInt8}, p ≤ L → Cut L (fun x : Nat × List UInt8 => x.1) (rawR row n p out) (rawR (row.take L) n p out)
  | 0, p, out, hp => cut_ok hp
  | n + 1, p, out, hp => by
    refine cut_then (cut_get hp hL) (fun x hx hxl => cut_same (fun o ho => cut_raw hL hxl)) (fun x b hx h => ?_)
    obtain ⟨o, _, h⟩ := then_inv h
    have := getR_pos hx
    exact (raw_mono h (by omega)).1
theorem getP_mono {p n : Nat} {a : Nat × Nat} (h : getR row p n = .ok a) : a.2 ≤ row.length := by have := getR_pos h; omega
/-- reading that begins beyond the shorter row ends too soon -/
theorem get_torn {p n : Nat} (h : L < p) (hL : L ≤ row.length) : getR (row.take L) p n = .bad 7 := by
  unfold getR
  rw [if_neg (by rw [List.length_take]; omega)]
theorem cut_get' {p n : Nat} (hL : L ≤ row.length) : Cut L (fun x : Nat × Nat => x.2) (getR row p n) (getR (row.take L) p n) := by
  rcases Nat.lt_or_ge L p with h | h
  · intro a ha
    have := getR_pos ha
    (try dsimp only)
    rw [if_neg (by omega)]
    exact get_torn h hL
  · exact cut_get h hL
theorem cut_stored (hL : L ≤ row.length) {p : Nat} {out : List UInt8} : Cut L (fun x : Nat × List UInt8 => x.1) (storedR row p out) (storedR (row.take L) p out) := by
  refine cut_then (cut_get' hL) (fun x hx hxl => ?_) (fun x b hx h => ?_)
  · refine cut_then (cut_get hxl hL) (fun y hy hyl => ?_) (fun y b hy h => ?_)
    · (try dsimp only)
      split
      · exact cut_bad
      · exact cut_raw hL hyl
    · split at h
      · cases h
      · exact (raw_mono h (getP_mono hy)).1
  · obtain ⟨y, hy, h⟩ := then_inv h
    have := getR_pos hy
    split at h
    · cases h
    · have := raw_mono h (getP_mono hy)
      omega
theorem cut_lenStep (hL : L ≤ row.length) {ls l : List Nat} {n p : Nat} (hp : p ≤ L) : Cut L (fun x : Nat × List Nat => x.1) (lenStep row ls n p l) (lenStep (row.take L) ls n p l) := by
  have key : ∀ (q nb v add : Nat), q ≤ L → Cut L (fun x : Nat × List Nat => x.1) ((getR row q nb).then_ fun x => (againR n l v (add + x.1)).then_ fun m => Rd.ok (x.2, m)) ((getR (row.take L) q nb).then_ fun x => (againR n l v (add + x.1)).then_ fun m => Rd.ok (x.2, m)) := by
    intro q nb v add hq
    refine cut_then (cut_get hq hL) (fun x hx hxl => cut_same (fun m hm => cut_ok hxl)) (fun x b hx h => ?_)
    obtain ⟨m, _, h⟩ := then_inv h
    injection h with h
    subst h
    exact Nat.le_refl _
  refine cut_then (cut_sym hp hL) (fun k hk hkl => ?_) (fun k b hk h => ?_)
  · (try dsimp only)
    split
    · split
      · exact cut_bad
      · exact key _ _ _ _ hkl
    · split
      · exact key _ _ _ _ hkl
      · split
        · exact key _ _ _ _ hkl
        · exact cut_same (fun m hm => cut_ok hkl)
  · have hk2 := symR_lt hk (by omega)
    have k2 : ∀ (q nb v add : Nat), ((getR row q nb).then_ fun x => (againR n l v (add + x.1)).then_ fun m => Rd.ok (x.2, m)) = .ok b → q ≤ b.1 := by
      intro q nb v add h
      obtain ⟨x, hx, h⟩ := then_inv h
      obtain ⟨m, _, h⟩ := then_inv h
      have := getR_pos hx
      injection h with h
      subst h
      (try dsimp only)
      omega
    split at h
    · split at h
      · cases h
      · exact k2 _ _ _ _ h
    · split at h
      · exact k2 _ _ _ _ h
      · split at h
        · exact k2 _ _ _ _ h
        · obtain ⟨m, _, h⟩ := then_inv h
          injection h with h
          subst h
          exact Nat.le_refl _
theorem cut_len (hL : L ≤ row.length) {ls : List Nat} {n : Nat} : ∀ {f p : Nat} {l : List Nat}, p ≤ L → Cut L (fun x : Nat × List Nat => x.1) (lenR row ls n f p l) (lenR (row.take L) ls n f p l)
  | 0, p, l, hp => cut_ok hp
  | f + 1, p, l, hp => by
    unfold lenR
    split
    · exact cut_ok hp
    · refine cut_then (cut_lenStep hL hp) (fun x hx hxl => cut_len hL hxl) (fun x b hx h => ?_)
      have := lenStep_mono hx (by omega)
      exact (len_mono h this.2).1
theorem cut_sizes (hL : L ≤ row.length) : ∀ {ks : List Nat} {p : Nat} {s : List Nat}, p ≤ L → Cut L (fun x : Nat × List Nat => x.1) (sizesR row ks p s) (sizesR (row.take L) ks p s)
  | [], p, s, hp => cut_ok hp
  | k :: ks, p, s, hp => by
    refine cut_then (cut_get hp hL) (fun x hx hxl => cut_sizes hL hxl) (fun x b hx h => ?_)
    exact (sizes_mono h (getP_mono hx)).1
theorem cut_head (hL : L ≤ row.length) {p : Nat} (hp : p ≤ L) : Cut L (fun x : Nat × List Nat × List Nat => x.1) (headR row p) (headR (row.take L) p) := by
  have tl : ∀ {m n : Nat} {t : List Nat} {s : Nat × List Nat} {b : Nat × List Nat × List Nat}, s.1 ≤ row.length → ((lenR row t n n s.1 []).then_ fun l => if l.2.getD 256 0 = 0 then Rd.bad 8 else (tableR (zsOf (l.2.take m))).then_ fun x => (tableR (zsOf (l.2.drop m))).then_ fun y => .ok (l.1, x, y)) = .ok b → s.1 ≤ b.1 := by
    intro m n t s b hs h
    obtain ⟨l, hl, h⟩ := then_inv h
    have h1 := len_mono hl hs
    split at h
    · cases h
    · obtain ⟨u, _, h⟩ := then_inv h
      obtain ⟨v, _, h⟩ := then_inv h
      injection h with h
      subst h
      exact h1.1
  refine cut_then (cut_get hp hL) (fun x hx hxl => ?_) (fun x b hx h => ?_)
  · refine cut_then (cut_get hxl hL) (fun y hy hyl => ?_) (fun y b hy h => ?_)
    · refine cut_then (cut_get hyl hL) (fun z hz hzl => ?_) (fun z b hz h => ?_)
      · (try dsimp only)
        split
        · exact cut_bad
        · refine cut_then (cut_sizes hL hzl) (fun s hs hsl => ?_) (fun s b hs h => ?_)
          · refine cut_same (fun t ht => ?_)
            refine cut_then (cut_len hL hsl) (fun l hl hll => ?_) (fun l b hl h => ?_)
            · (try dsimp only)
              split
              · exact cut_bad
              · exact cut_same (fun u hu => cut_same (fun v hv => cut_ok hll))
            · split at h
              · cases h
              · obtain ⟨u, _, h⟩ := then_inv h
                obtain ⟨v, _, h⟩ := then_inv h
                injection h with h
                subst h
                exact Nat.le_refl _
          · obtain ⟨t, _, h⟩ := then_inv h
            exact tl (sizes_mono hs (getP_mono hz)).2 h
      · split at h
        · cases h
        · obtain ⟨s, hs, h⟩ := then_inv h
          obtain ⟨t, _, h⟩ := then_inv h
          have h1 := sizes_mono hs (getP_mono hz)
          have h2 := tl h1.2 h
          omega
    · obtain ⟨z, hz, h⟩ := then_inv h
      have h0 := getR_pos hz
      split at h
      · cases h
      · obtain ⟨s, hs, h⟩ := then_inv h
        obtain ⟨t, _, h⟩ := then_inv h
        have h1 := sizes_mono hs (getP_mono hz)
        have h2 := tl h1.2 h
        omega
  · obtain ⟨y, hy, h⟩ := then_inv h
    obtain ⟨z, hz, h⟩ := then_inv h
    have h0 := getR_pos hz
    have h0' := getR_pos hy
    split at h
    · cases h
    · obtain ⟨s, hs, h⟩ := then_inv h
      obtain ⟨t, _, h⟩ := then_inv h
      have h1 := sizes_mono hs (getP_mono hz)
      have h2 := tl h1.2 h
      omega
theorem cut_bodyStep (hL : L ≤ row.length) {lit far : List Nat} {p : Nat} {out : List UInt8} (hp : p ≤ L) : Cut L (fun x : Bool × Nat × List UInt8 => x.2.1) (bodyStep row lit far p out) (bodyStep (row.take L) lit far p out) := by
  have tl : ∀ {f : Nat × Nat} {n : Nat} {b : Bool × Nat × List UInt8}, (if 30 ≤ f.1 then Rd.bad 8 else (getR row f.2 (farL.getD f.1 (0, 0)).2).then_ fun y => if out.length < (farL.getD f.1 (0, 0)).1 + y.1 then .bad 9 else (copyR ((farL.getD f.1 (0, 0)).1 + y.1) n out).then_ fun o => .ok (false, y.2, o)) = .ok b → f.2 ≤ b.2.1 := by
    intro f n b h
    split at h
    · cases h
    · obtain ⟨y, hy, h⟩ := then_inv h
      have := getR_pos hy
      split at h
      · cases h
      · obtain ⟨o, _, h⟩ := then_inv h
        injection h with h
        subst h
        (try dsimp only)
        omega
  refine cut_then (cut_sym hp hL) (fun k hk hkl => ?_) (fun k b hk h => ?_)
  · (try dsimp only)
    split
    · exact cut_same (fun o ho => cut_ok hkl)
    · split
      · exact cut_ok hkl
      · split
        · exact cut_bad
        · refine cut_then (cut_get hkl hL) (fun x hx hxl => ?_) (fun x b hx h => ?_)
          · refine cut_then (cut_sym hxl hL) (fun f hf hfl => ?_) (fun f b hf h => tl h)
            (try dsimp only)
            split
            · exact cut_bad
            · refine cut_then (cut_get hfl hL) (fun y hy hyl => ?_) (fun y b hy h => ?_)
              · (try dsimp only)
                split
                · exact cut_bad
                · exact cut_same (fun o ho => cut_ok hyl)
              · split at h
                · cases h
                · obtain ⟨o, _, h⟩ := then_inv h
                  injection h with h
                  subst h
                  exact Nat.le_refl _
          · obtain ⟨f, hf, h⟩ := then_inv h
            have h1 := symR_lt hf (getP_mono hx)
            have h2 := tl h
            omega
  · have h1 := symR_lt hk (by omega)
    split at h
    · obtain ⟨o, _, h⟩ := then_inv h
      injection h with h; subst h; exact Nat.le_refl _
    · split at h
      · injection h with h; subst h; exact Nat.le_refl _
      · split at h
        · cases h
        · obtain ⟨x, hx, h⟩ := then_inv h
          obtain ⟨f, hf, h⟩ := then_inv h
          have h2 := getR_pos hx
          have h3 := symR_lt hf (getP_mono hx)
          have h4 := tl h
          omega
theorem cut_body (hL : L ≤ row.length) {lit far : List Nat} : ∀ {f f' p : Nat} {out : List UInt8}, p ≤ L → L + 1 ≤ p + f' → Cut L (fun x : Nat × List UInt8 => x.1) (bodyR row lit far f p out) (bodyR (row.take L) lit far f' p out)
  | 0, f', p, out, hp, hf => cut_bad
  | f + 1, 0, p, out, hp, hf => by omega
  | f + 1, f' + 1, p, out, hp, hf => by
    refine cut_then (cut_bodyStep hL hp) (fun x hx hxl => ?_) (fun x b hx h => ?_)
    · have h1 := bodyStep_mono hx (by omega)
      (try dsimp only at hxl ⊢)
      split
      · exact cut_ok hxl
      · exact cut_body hL hxl (by omega)
    · have h1 := bodyStep_mono hx (by omega)
      split at h
      · injection h with h; subst h; exact Nat.le_refl _
      · exact (body_mono h h1.2).1
theorem cut_block (hL : L ≤ row.length) {p : Nat} {out : List UInt8} (hp : p ≤ L) : Cut L (fun x : Bool × Nat × Nat × List UInt8 => x.2.2.1) (blockR row p out) (blockR (row.take L) p out) := by
  have hlen : (row.take L).length = L := by rw [List.length_take]; omega
  refine cut_then (cut_get hp hL) (fun l hl hll => ?_) (fun l b hl h => ?_)
  · refine cut_then (cut_get hll hL) (fun k hk hkl => ?_) (fun k b hk h => ?_)
    · (try dsimp only at hkl ⊢)
      split
      · refine cut_then (cut_stored hL) (fun x hx hxl => cut_ok hxl) (fun x b hx h => ?_)
        injection h with h; subst h; exact Nat.le_refl _
      · split
        · refine cut_then (cut_body hL hkl (by omega)) (fun x hx hxl => cut_ok hxl) (fun x b hx h => ?_)
          injection h with h; subst h; exact Nat.le_refl _
        · split
          · refine cut_then (cut_head hL hkl) (fun x hx hxl => ?_) (fun x b hx h => ?_)
            · refine cut_then (cut_body hL hxl (by (try dsimp only at hxl); omega)) (fun y hy hyl => cut_ok hyl) (fun y b hy h => ?_)
              injection h with h; subst h; exact Nat.le_refl _
            · obtain ⟨y, hy, h⟩ := then_inv h
              have h1 := head_mono hx
              have h2 := body_mono hy h1.2
              injection h with h; subst h; dsimp only; omega
          · exact cut_bad
    · have h0 := getR_pos hk
      split at h
      · obtain ⟨x, hx, h⟩ := then_inv h
        have := stored_mono hx
        injection h with h; subst h; dsimp only; omega
      · split at h
        · obtain ⟨x, hx, h⟩ := then_inv h
          have := body_mono hx (getP_mono hk)
          injection h with h; subst h; dsimp only; omega
        · split at h
          · obtain ⟨y, hy, h⟩ := then_inv h
            obtain ⟨x, hx, h⟩ := then_inv h
            have h3 := head_mono hy
            have := body_mono hx h3.2
            injection h with h; subst h; dsimp only; omega
          · cases h
  · have hb : blockR row p out = .ok b := by
      show (getR row p 1).then_ _ = _
      rw [hl]
      exact h
    have h1 := getR_pos hl
    obtain ⟨k, hk, h⟩ := then_inv h
    have h0 := getR_pos hk
    split at h
    · obtain ⟨x, hx, h⟩ := then_inv h
      have := stored_mono hx
      injection h with h; subst h; dsimp only; omega
    · split at h
      · obtain ⟨x, hx, h⟩ := then_inv h
        have := body_mono hx (getP_mono hk)
        injection h with h; subst h; dsimp only; omega
      · split at h
        · obtain ⟨y, hy, h⟩ := then_inv h
          obtain ⟨x, hx, h⟩ := then_inv h
          have h3 := head_mono hy
          have := body_mono hx h3.2
          injection h with h; subst h; dsimp only; omega
        · cases h
theorem cut_blocks (hL : L ≤ row.length) : ∀ {f f' p : Nat} {out : List UInt8} {ks : List Nat}, p ≤ L → L + 1 ≤ p + f' → Cut L (fun x : Nat × List UInt8 × List Nat => x.1) (blocksR row f p out ks) (blocksR (row.take L) f' p out ks)
  | 0, f', p, out, ks, hp, hf => cut_bad
  | f + 1, 0, p, out, ks, hp, hf => by omega
  | f + 1, f' + 1, p, out, ks, hp, hf => by
    refine cut_then (cut_block hL hp) (fun x hx hxl => ?_) (fun x b hx h => ?_)
    · have h1 := block_mono hx
      (try dsimp only at hxl ⊢)
      split
      · exact cut_ok hxl
      · exact cut_blocks hL hxl (by omega)
    · split at h
      · injection h with h; subst h; exact Nat.le_refl _
      · exact Nat.le_of_lt (blocks_mono h).1
theorem bitsL_takeN (b : List UInt8) (k : Nat) (hk : k ≤ b.length) : bitsL (b.take k) = (bitsL b).take (8 * k) := by
  have e : bitsL b = bitsL (b.take k) ++ bitsL (b.drop k) := by rw [← bitsL_append, List.take_append_drop]
  rw [e, List.take_left' (by rw [bitsL_length, List.length_take, Nat.min_eq_left hk])]
/-- what was unpacked comes of the bytes that were read alone -/
theorem unpack_take {b : List UInt8} {out : List UInt8} {used : Nat} {ks : List Nat} (h : unpackR b = .ok (out, used, ks)) : 1 ≤ used ∧ used ≤ b.length ∧ ks ≠ [] ∧ unpackR (b.take (used - 1)) = .bad 7 ∧ unpackR (b.take used) = .ok (out, used, ks) := by
  unfold unpackR at h
  split at h
  · cases h
  · rename_i h6
    obtain ⟨x, hx, h⟩ := then_inv h
    injection h with h
    obtain ⟨p, o, l⟩ := x
    dsimp only at h
    injection h with h1 h2
    injection h2 with h2 h3
    subst h1 h2 h3
    have hm := blocks_mono hx
    rw [bitsL_length] at hm
    dsimp only at hm
    have hk : ∀ k, k ≤ b.length → bitsL (b.take k) = (bitsL b).take (8 * k) := by
      intro k hk
      exact bitsL_takeN b k hk
    have hc : ∀ k, k ≤ b.length → Cut (8 * k) (fun x : Nat × List UInt8 × List Nat => x.1) (blocksR (bitsL b) (8 * b.length + 1) 0 [] []) (blocksR ((bitsL b).take (8 * k)) (8 * k + 1) 0 [] []) := fun k hk => cut_blocks (by rw [bitsL_length]; omega) (Nat.zero_le _) (by omega)
    refine ⟨by omega, by omega, hm.2.2, ?_, ?_⟩
    · have := hc ((p + 7) / 8 - 1) (by omega) _ hx
      dsimp only at this
      rw [if_neg (by omega)] at this
      unfold unpackR
      rw [if_neg (by rw [List.length_take]; omega), hk _ (by omega), List.length_take, Nat.min_eq_left (by omega), this]
      rfl
    · have := hc ((p + 7) / 8) (by omega) _ hx
      dsimp only at this
      rw [if_pos (by omega)] at this
      unfold unpackR
      rw [if_neg (by rw [List.length_take]; omega), hk _ (by omega), List.length_take, Nat.min_eq_left (by omega), this]
      rfl
end Go.Proofs.Ythpdcnjaodjjmaa.Inf
