/- package inflate: a block's body. -/
import Derived.Test.YthfbjgdophjelaaInfFixed
import Derived.Test.YthfbjgdophjelaaRegS
import Derived.StillTailTactics
namespace Go.Proofs.Ythfbjgdophjelaa.Inf
open Go Go.RowKit Go.Proofs.Ythfbjgdophjelaa Go.Proofs.Ythfbjgdophjelaa.Bits Go.Proofs.Ythfbjgdophjelaa.Code
set_option linter.unusedVariables false
set_option linter.unusedSimpArgs false

/-- where a source stands -/
def posOf (q : Nat) (w : World) : Nat := match w.cell? ⟨q, 1, none⟩ with
  | some (.int _ p) => p.toNat
  | _ => 0
theorem posOf_src {w : World} {q n c pos : Nat} {A : Option Addr} (h : SrcAt w q A n c pos) : posOf q w = pos := by
  unfold posOf
  rw [show w.cell? ⟨q, 1, none⟩ = some (.int .i64 (pos : Int)) by rw [Blk.cell h]; rfl]
  simp
theorem nxt_pos (ls : List Nat) (row : List Bool) : ∀ (k n i m : Nat), 1 ≤ n → nxt ls row k n = (i, m, 0) → n ≤ m ∧ m ≤ row.length := fun k n i m hn h => by
  have := nxt_take ls row row.length (Nat.le_refl _) k n i m hn h
  exact ⟨this.1, this.2.1⟩
theorem symR_lt {row : List Bool} {ls : List Nat} {p : Nat} {a : Nat × Nat} (h : symR row ls p = .ok a) (hp : p ≤ row.length) : p < a.2 ∧ a.2 ≤ row.length := by
  unfold symR at h
  split at h
  · rename_i hz
    injection h with h
    obtain ⟨i, m, z, hn⟩ : ∃ i m z, next ls (row.drop p) = (i, m, z) := ⟨_, _, _, rfl⟩
    rw [hn] at h hz
    dsimp only at h hz
    subst hz h
    have := nxt_pos ls (row.drop p) 15 1 i m (Nat.le_refl _) hn
    rw [List.length_drop] at this
    dsimp only
    omega
  · cases h
theorem symR_place {row : List Bool} {ls : List Nat} {p : Nat} {a : Nat × Nat} (h : symR row ls p = .ok a) : a.1 < ls.length := by
  unfold symR at h
  split at h
  · rename_i hz
    injection h with h
    subst h
    dsimp only
    unfold next at hz ⊢
    have key : ∀ (k n : Nat), (nxt ls (row.drop p) k n).2.2 = 0 → (nxt ls (row.drop p) k n).1 < ls.length := by
      intro k
      induction k with
      | zero => intro n h; simp [nxt] at h
      | succ k ih =>
        intro n h
        by_cases h1 : (row.drop p).length < n
        · rw [nxt_torn _ _ _ _ h1] at h
          simp at h
        · cases hf : findC ls n (val ((row.drop p).take n)) with
          | some j =>
            rw [nxt_hit ls _ k n j (by omega) hf]
            exact (findC_inv ls n _ j hf).1
          | none =>
            rw [nxt_miss ls _ k n (by omega) hf] at h ⊢
            exact ih (n + 1) h
    exact key 15 1 hz
  · cases h
/-- a table that stands while reading -/
structure TbAt (w : World) (base p : Nat) (ls : List Nat) : Prop where
  tab : TabAt w base p ls
  le : ∀ x ∈ ls, x ≤ 15
  room : room ls ≤ 32768
  len : ls.length ≤ 288
theorem TbAt.keeps {w w' : World} {base p : Nat} {ls : List Nat} (h : TbAt w base p ls) (hk : Keeps base infT w w') : TbAt w' base p ls := by
  obtain ⟨⟨h1, v, h2, h3⟩, h4, h5, h6⟩ := h
  exact ⟨⟨h1, v, hk.blk h2 (by decide), hk.own h3 (by decide)⟩, h4, h5, h6⟩
theorem ex_cells {w : World} {A : Option Addr} {l : List (Nat × Nat)} (h : SlAt w A (l.flatMap exC)) {k : Nat} (hk : k < l.length) : ∃ b o, A = some ⟨b, o, none⟩ ∧ w.cell? ⟨b, o + k * 2, none⟩ = some (.int .i64 (l[k].1 : Int)) ∧ w.cell? ⟨b, o + k * 2 + 1, none⟩ = some (.int .i64 (l[k].2 : Int)) := by
  have e : l.flatMap exC = (l.take k).flatMap exC ++ (exC l[k] ++ (l.drop (k + 1)).flatMap exC) := by
    rw [← List.flatMap_cons, ← List.flatMap_append, ← List.drop_eq_getElem_cons hk, List.take_append_drop]
  have hl : ((l.take k).flatMap exC).length = k * 2 := by rw [exC_len, List.length_take]; omega
  obtain ⟨b, o, ea, hc⟩ := h (by rw [exC_len]; omega)
  refine ⟨b, o, ea, hc (k * 2) _ ?_, hc (k * 2 + 1) _ ?_⟩
  · rw [e, List.getElem?_append_right (by omega), hl, Nat.sub_self]
    rfl
  · rw [e, List.getElem?_append_right (by omega), hl, show k * 2 + 1 - k * 2 = 1 by omega]
    rfl
theorem conv8 (k : Nat) (h : k < 256) : u8v (UInt8.ofNat k) = .int .u8 (k : Int) := by
  unfold u8v n8
  have : (UInt8.ofNat k).toNat = k := by show k % 2 ^ 8 = k; omega
  rw [this]
theorem sameL_bd : ∀ k < 29, (sameL.getD k (0, 0)).1 ≤ 258 ∧ (sameL.getD k (0, 0)).2 ≤ 5 := by decide
theorem farL_bd : ∀ k < 30, (1 ≤ (farL.getD k (0, 0)).1 ∧ (farL.getD k (0, 0)).1 ≤ 24577) ∧ (farL.getD k (0, 0)).2 ≤ 13 := by decide
/-- a pair of a row of the call's own -/
theorem ex_at {w : World} {base n c : Nat} {A : Option Addr} {l : List (Nat × Nat)} (h : w.ownsRow base 61 2 (.slice A n c) n (l.flatMap exC)) {k : Nat} (hk : k < l.length) : ∃ b o, A = some ⟨b, o, none⟩ ∧ w.cell? ⟨b, o + k * 2, none⟩ = some (.int .i64 ((l.getD k (0, 0)).1 : Int)) ∧ w.cell? ⟨b, o + k * 2 + 1, none⟩ = some (.int .i64 ((l.getD k (0, 0)).2 : Int)) := by
  have hg : l.getD k (0, 0) = l[k] := by rw [List.getD_eq_getElem?_getD, List.getElem?_eq_getElem hk]; rfl
  rw [hg]
  obtain ⟨A', c', e, _, _, h3, _⟩ := own_slat h
  injection e with e1 e2 e3
  subst e1
  exact ex_cells h3 hk
/-- what stands beside a reader while a body is read -/
structure Bd (w0 : World) (base : Nat) (A : Option Addr) (n : Nat) (xs : List UInt8) (tl tf : Nat) (lit far : List Nat) (As : Option Addr) (cs : Nat) (Af : Option Addr) (cf : Nat) (w : World) : Prop where
  keep : Keeps base infT w0 w
  inp : InAt_ w base A n xs
  tbl : TbAt w base tl lit
  tbf : TbAt w base tf far
  so : w.ownsRow base 61 2 (.slice As 29 cs) 29 (sameL.flatMap exC)
  fo : w.ownsRow base 61 2 (.slice Af 30 cf) 30 (farL.flatMap exC)
theorem Bd.keeps {w0 w w' : World} {base : Nat} {A : Option Addr} {n : Nat} {xs : List UInt8} {tl tf : Nat} {lit far : List Nat} {As Af : Option Addr} {cs cf : Nat} (h : Bd w0 base A n xs tl tf lit far As cs Af cf w) (hk : Keeps base infT w w') : Bd w0 base A n xs tl tf lit far As cs Af cf w' :=
  ⟨h.keep.trans hk, h.inp.keeps hk, h.tbl.keeps hk, h.tbf.keeps hk, hk.own h.so (by decide), hk.own h.fo (by decide)⟩
theorem getR_pos {row : List Bool} {p n : Nat} {a : Nat × Nat} (h : getR row p n = .ok a) : a.2 = p + n ∧ p + n ≤ row.length := by
  unfold getR at h
  split at h
  · injection h with h
    subst h
    exact ⟨rfl, by assumption⟩
  · cases h
theorem pushR_len {o o2 : List UInt8} {x : UInt8} (h : pushR o x = .ok o2) : o2.length = o.length + 1 := by
  unfold pushR at h
  split at h
  · cases h
  · injection h with h
    subst h
    simp
theorem RdAt.out1 {w : World} {base g q : Nat} {A : Option Addr} {n c pos : Nat} {out : List UInt8} {ks : List Nat} (h : RdAt w base g q A n c pos out ks) : ∃ Ao ol co, ol = out.length ∧ w.cell? ⟨g, 1, none⟩ = some (.slice Ao ol co) ∧ ol ≤ 3000 ∧ SlAt w Ao (out.map u8v) := by
  obtain ⟨hg, hq, hp, hfew, ⟨vo, vk, hb, ho, hk⟩, hsrc⟩ := h
  obtain ⟨Ao, co, rfl, _, _, h3, _⟩ := own_slat ho
  exact ⟨Ao, _, co, rfl, by rw [hb.cell]; rfl, hfew, h3⟩
theorem RdAt.outd {w : World} {base g q : Nat} {A : Option Addr} {n c pos : Nat} {out : List UInt8} {ks : List Nat} (h : RdAt w base g q A n c pos out ks) (h0 : 0 < out.length) : ∃ b o ol co, ol = out.length ∧ w.cell? ⟨g, 1, none⟩ = some (.slice (some ⟨b, o, none⟩) ol co) ∧ ∀ i, i < ol → w.cell? ⟨b, o + i, none⟩ = some (u8v (out.getD i 0)) := by
  obtain ⟨Ao, ol, co, e, h1, _, h3⟩ := h.out1
  obtain ⟨b, o, rfl, hc⟩ := h3 (by rw [List.length_map]; exact h0)
  refine ⟨b, o, ol, co, e, h1, fun i hi => hc i _ ?_⟩
  rw [List.getElem?_map, List.getD_eq_getElem?_getD, List.getElem?_eq_getElem (by omega)]
  rfl
set_option maxRecDepth 100000 in
set_option maxHeartbeats 8000000 in
theorem body_r (base g q tl tf : Nat) (A : Option Addr) (n c pos : Nat) (xs : List UInt8) (out : List UInt8) (ks lit far : List Nat) (w : World) (h : RdAt w base g q A n c pos out ks) (hi : InAt_ w base A n xs) (hl : TbAt w base tl lit) (hf : TbAt w base tf far) (hn : n ≤ 1000000) :
    Calls Try.prog 16 #[.pointer (some ⟨g, 0, none⟩), .pointer (some ⟨tl, 0, none⟩), .pointer (some ⟨tf, 0, none⟩)] w fun e w' =>
      RPost (bodyR (bitsL xs) lit far ((bitsL xs).length + 1) pos out) (fun a e w' => e = .returned (.tuple #[]) ∧ RdAt w' base g q A n c a.1 a.2 ks) e w' ∧ Keeps base infT w w' := by
  obtain ⟨R, hR⟩ : ∃ R, R = bodyR (bitsL xs) lit far ((bitsL xs).length + 1) pos out := ⟨_, rfl⟩
  have hrow : (bitsL xs).length = 8 * n := by rw [bitsL_length, hi.len]
  have Hrow := Lib.hid hrow
  rw [← hR]
  rw [hrow] at hR
  have HU := Lib.hid hR
  have H := Lib.hid h
  have HI := Lib.hid hi
  have HL := Lib.hid hl
  have HFr := Lib.hid hf
  have HS := Lib.hid (sames_any w)
  have hp := h.ple
  have hbw := h.bw
  clear h hi hl hf hR hrow
  go_enter Try.func16, Try.ntmps16
  go_wp2_with fail
  refine (HS.out).mono ?_
  rintro e w2 ⟨As, cs, rfl, hs, hb2⟩
  have HFa := Lib.hid (fars_any w2)
  have HSo := Lib.hid hs
  have Hb2 := Lib.hid hb2
  clear hs hb2 HS
  go_wp2_with fail
  refine (HFa.out).mono ?_
  rintro e w3 ⟨Af, cf, rfl, hfo, hb3⟩
  have HSo := Lib.hid (own_base (own_keep HSo.out hb3) hbw)
  have HFo := Lib.hid (own_base hfo (Nat.le_trans hbw Hb2.out.size))
  have Hb3 := Lib.hid (Hb2.out.trans (hb3.mono Hb2.out.size))
  have HK3 : Hid (Keeps base infT w w3) := Lib.hid (Keeps.of_below Hb3.out hbw)
  have H3 := Lib.hid (H.out.below Hb3.out)
  have HI3 := Lib.hid (HI.out.keeps HK3.out)
  have HL3 := Lib.hid (HL.out.keeps HK3.out)
  have HF3 := Lib.hid (HFr.out.keeps HK3.out)
  clear hfo hb3 HFa H HI HL HFr Hb2 Hb3
  go_wp2_with fail
  go_loopw [] (fun wr => ∃ (f p : Nat) (o : List UInt8), 8 * n + 1 ≤ p + f ∧ R = bodyR (bitsL xs) lit far f p o ∧ RdAt wr base g q A n c p o ks ∧ Keeps base infT w wr ∧ InAt_ wr base A n xs ∧ TbAt wr base tl lit ∧ TbAt wr base tf far ∧ wr.ownsRow base 61 2 (.slice As 29 cs) 29 (sameL.flatMap exC) ∧ wr.ownsRow base 61 2 (.slice Af 30 cf) 30 (farL.flatMap exC)) (fun wr => 8 * n - posOf q wr)
  case atStart => exact ⟨8 * n + 1, pos, out, by omega, HU.out, H3.out, HK3.out, HI3.out, HL3.out, HF3.out, HSo.out, HFo.out⟩
  case round =>
    obtain ⟨f, p, o, hpf, hR, hrd, hk, hin, hlt, hft, hso, hfo⟩ := hrel
    have hple := hrd.ple
    obtain ⟨f, rfl⟩ : ∃ f', f = f' + 1 := ⟨f - 1, by omega⟩
    have HU := Lib.hid (show R = (bodyStep (bitsL xs) lit far p o).then_ fun x => if x.1 = true then .ok x.2 else bodyR (bitsL xs) lit far f x.2.1 x.2.2 from hR)
    have Hpos : Hid (posOf q wr = p) := Lib.hid (posOf_src hrd.src)
    have HK := Lib.hid hk
    have HL := Lib.hid hlt
    have HF := Lib.hid hft
    have HSo := Lib.hid hso
    have HFo := Lib.hid hfo
    have HG := Lib.hid (sym_r base g q tl A n c p xs o ks lit wr hrd hin hlt.tab hlt.le hlt.room hlt.len)
    have HIn := Lib.hid hin
    clear hR hrd hk hin hlt hft hso hfo H3 HK3 HI3 HL3 HF3
    go_wp2_with fail
    refine (HG.out).mono ?_
    rintro e w4 ⟨hr4, hk4⟩
    have HK4 := Lib.hid (HK.out.trans hk4)
    have HI4 := Lib.hid (HIn.out.keeps hk4)
    have HL4 := Lib.hid (HL.out.keeps hk4)
    have HF4 := Lib.hid (HF.out.keeps hk4)
    have HSo4 := Lib.hid (hk4.own HSo.out (by decide))
    have HFo4 := Lib.hid (hk4.own HFo.out (by decide))
    cases hg4 : symR (bitsL xs) lit p with
    | bad z =>
      have he := rpost_bad hr4 hg4
      subst he
      have HU := Lib.hid (show R = .bad z by rw [HU.out]; unfold bodyStep; rw [hg4]; rfl)
      clear hr4 hk4 hg4
      unfold stopE
      go_wp2_with fail
      exact ⟨rfl, bad_rpost HU.out, HK4.out⟩
    | ok a =>
      obtain ⟨he, hrd4⟩ := rpost_ok hr4 hg4
      subst he
      have hp4 := symR_lt hg4 (by rw [Hrow.out]; exact hple)
      rw [Hrow.out] at hp4
      have hpl := symR_place hg4
      have hl288 := HL.out.len
      have Hst := Lib.hid (show bodyStep (bitsL xs) lit far p o = _ by unfold bodyStep; rw [hg4, then_ok])
      have H4 := Lib.hid hrd4
      obtain ⟨k, p4⟩ := a
      dsimp only at hp4 hpl Hst H4 ⊢
      clear hr4 hk4 hg4 hrd4 HG HIn HL HF HSo HFo
      rcases (by omega : k < 256 ∨ k = 256 ∨ 256 < k) with hc | hc | hc
      · have HP := Lib.hid (put_r base g q A n c p4 (UInt8.ofNat k) o ks w4 H4.out)
        rw [conv8 k hc] at HP
        have Hst := Lib.hid (show bodyStep (bitsL xs) lit far p o = (pushR o (UInt8.ofNat k)).then_ fun o => .ok (false, p4, o) by rw [Hst.out, if_pos hc])
        have hc' : (k : Int) < 256 := by omega
        have hc8 : k < 2 ^ 8 := hc
        clear hc
        go_wp2_with fail
        refine (HP.out).mono ?_
        rintro e w5 ⟨hr5, hk5⟩
        have HK5 := Lib.hid (HK4.out.trans hk5)
        have HI5 := Lib.hid (HI4.out.keeps hk5)
        have HL5 := Lib.hid (HL4.out.keeps hk5)
        have HF5 := Lib.hid (HF4.out.keeps hk5)
        have HSo5 := Lib.hid (hk5.own HSo4.out (by decide))
        have HFo5 := Lib.hid (hk5.own HFo4.out (by decide))
        cases hg5 : pushR o (UInt8.ofNat k) with
        | bad z =>
          have he := rpost_bad hr5 hg5
          subst he
          have HU := Lib.hid (show R = .bad z by rw [HU.out, Hst.out, hg5]; rfl)
          clear hr5 hk5 hg5
          unfold stopE
          go_wp2_with fail
          exact ⟨rfl, bad_rpost HU.out, HK5.out⟩
        | ok o2 =>
          obtain ⟨he, hrd5⟩ := rpost_ok hr5 hg5
          subst he
          have HU := Lib.hid (show R = bodyR (bitsL xs) lit far f p4 o2 by rw [HU.out, Hst.out, hg5]; rfl)
          have H5 := Lib.hid hrd5
          clear hr5 hk5 hg5 hrd5 HP
          go_wp2_with fail
          go_roundw
          case rel => exact ⟨f, p4, o2, by omega, HU.out, H5.out, HK5.out, HI5.out, HL5.out, HF5.out, HSo5.out, HFo5.out⟩
          case measure =>
            rw [Hpos.out, posOf_src H5.out.src]
            omega
      · have HU := Lib.hid (show R = .ok (p4, o) by rw [HU.out, Hst.out, if_neg (by omega), if_pos hc]; rfl)
        subst hc
        go_wp2_with fail
        refine bodyPost_ret (results_none rfl _ _ _) rfl ?_
        exact ⟨ok_rpost HU.out ⟨rfl, H4.out⟩, HK4.out⟩
      · obtain ⟨j, rfl⟩ : ∃ j, k = j + 257 := ⟨k - 257, by omega⟩
        have hc1 : ¬ ((j + 257 : Nat) : Int) < 256 := by omega
        have hc2 : (((j + 257 : Nat) : Int) == 256) = false := by rw [beq_eq_false_iff_ne]; omega
        have hc3 : ((j + 257 : Nat) : Int) - 257 = (j : Int) := by omega
        have hw3 : IntKind.i64.wrap (j : Int) = (j : Int) := IntWalk.i64_in _ (by omega)
        by_cases h29 : 29 ≤ j
        · have HU := Lib.hid (show R = .bad 8 by rw [HU.out, Hst.out, if_neg (by omega), if_neg (by omega), if_pos (by omega)]; rfl)
          have h29' : (29 : Int) ≤ (j : Int) := by omega
          clear hc
          go_wp2_with fail
          refine (fail_any 8 _).mono ?_
          rintro e w5 ⟨rfl, rfl⟩
          unfold stopE
          go_wp2_with fail
          exact ⟨rfl, bad_rpost HU.out, HK4.out⟩
        · obtain ⟨bs, os, hAs, hc0, hc1⟩ := ex_at HSo4.out (k := j) (by show j < 29; omega)
          have hSS : Hid (∀ W : World, W.ownsRow base 61 2 (.slice As 29 cs) 29 (sameL.flatMap exC) → W.cell? ⟨bs, os + j * 2, none⟩ = some (.int .i64 ((sameL.getD j (0, 0)).1 : Int)) ∧ W.cell? ⟨bs, os + j * 2 + 1, none⟩ = some (.int .i64 ((sameL.getD j (0, 0)).2 : Int))) := Lib.hid (fun (W : World) hW => by
            obtain ⟨b', o', e, h1, h2⟩ := ex_at hW (k := j) (by show j < 29; omega)
            rw [hAs] at e
            injection e with e
            injection e with e1 e2
            subst e1 e2
            exact ⟨h1, h2⟩)
          obtain ⟨hfr, hbt⟩ := sameL_bd j (by omega)
          have Hst := Lib.hid (show bodyStep (bitsL xs) lit far p o = (getR (bitsL xs) p4 (sameL.getD j (0, 0)).2).then_ fun x => (symR (bitsL xs) far x.2).then_ fun f =>
                if 30 ≤ f.1 then .bad 8
                else (getR (bitsL xs) f.2 (farL.getD f.1 (0, 0)).2).then_ fun y =>
                  if o.length < (farL.getD f.1 (0, 0)).1 + y.1 then .bad 9
                  else (copyR ((farL.getD f.1 (0, 0)).1 + y.1) ((sameL.getD j (0, 0)).1 + x.1) o).then_ fun o => .ok (false, y.2, o) by
            rw [Hst.out, if_neg (by omega), if_neg (by omega), if_neg (by omega), show j + 257 - 257 = j by omega])
          generalize sameL.getD j (0, 0) = ex at *
          obtain ⟨fr, bt⟩ := ex
          dsimp only at hc0 hc1 hfr hbt hSS Hst
          subst hAs
          have HG := Lib.hid (fun W (hr : RdAt W base g q A n c p4 o ks) (hi : InAt_ W base A n xs) => get_r base g q A n c p4 bt xs o ks W hr hi (by omega))
          have hj0 : (0 : Int) ≤ (j : Int) := by omega
          have hj29 : (j : Int) < 29 := by omega
          have h29n : ¬ (29 : Int) ≤ (j : Int) := by omega
          have HB4 := Lib.hid (show Bd w base A n xs tl tf lit far (some ⟨bs, os, none⟩) cs Af cf w4 from ⟨HK4.out, HI4.out, HL4.out, HF4.out, HSo4.out, HFo4.out⟩)
          have hbw4 : base ≤ w4.heap.size := H4.out.bw
          clear hc h29 HK4 HI4 HL4 HF4 HSo4 HFo4
          go_wp2_with fail
          refine wp_region_S (fun W => W.cell? ⟨bs, os + j * 2, none⟩ = some (.int .i64 (fr : Int)) ∧ W.cell? ⟨bs, os + j * 2 + 1, none⟩ = some (.int .i64 (bt : Int))) 13 (by kernel_rfl) ?_
          obtain ⟨w5, hw5⟩ : ∃ w5, w5 = w4.drew := ⟨_, rfl⟩
          have hb5 : Below w4.heap.size w4 w5 := by rw [hw5]; exact (Below.refl _ _).drew
          have H5 := Lib.hid (H4.out.below hb5)
          have HB5 := Lib.hid (HB4.out.keeps (Keeps.of_below hb5 hbw4))
          rw [← hw5]
          have hHeld := hSS.out w5 HB5.out.so
          clear hw5 hb5 hc0 hc1
          refine wpAnyS_take (i := 0) (v := ?va0) (by kernel_rfl) rfl (by kernel_rfl) (by kernel_rfl) (by kernel_rfl) (fun _ _ _ h => h) (by rfl) (by assumption) ?hya0 ?resta0
          case hya0 => (intro W hSW; (try dsimp only at hSW); go_simp; try with_reducible rfl)
          (try simp only [Act.put, List.getElem_toArray, List.getElem_cons_zero, List.getElem_cons_succ, List.setIfInBounds_toArray, List.set_cons_zero, List.set_cons_succ])
          refine wpAnyS_take (i := 1) (v := ?va1) (by kernel_rfl) rfl (by kernel_rfl) (by kernel_rfl) (by kernel_rfl) (fun _ _ _ h => h) (by rfl) (by assumption) ?hya1 ?resta1
          case hya1 => (intro W hSW; (try dsimp only at hSW); go_simp; try with_reducible rfl)
          (try simp only [Act.put, List.getElem_toArray, List.getElem_cons_zero, List.getElem_cons_succ, List.setIfInBounds_toArray, List.set_cons_zero, List.set_cons_succ])
          refine wpAnyS_take (i := 2) (v := ?va2) (by kernel_rfl) rfl (by kernel_rfl) (by kernel_rfl) (by kernel_rfl) (fun _ _ _ h => h) (by rfl) (by assumption) ?hya2 ?resta2
          case hya2 => (intro W hSW; (try dsimp only at hSW); go_simp; try with_reducible rfl)
          (try simp only [Act.put, List.getElem_toArray, List.getElem_cons_zero, List.getElem_cons_succ, List.setIfInBounds_toArray, List.set_cons_zero, List.set_cons_succ])
          refine wpAnyS_take (i := 3) (v := ?va3) (by kernel_rfl) rfl (by kernel_rfl) (by kernel_rfl) (by kernel_rfl) (fun _ _ _ h => h) (by rfl) (by assumption) ?hya3 ?resta3
          case hya3 => (intro W hSW; (try dsimp only at hSW); go_simp; try with_reducible rfl)
          (try simp only [Act.put, List.getElem_toArray, List.getElem_cons_zero, List.getElem_cons_succ, List.setIfInBounds_toArray, List.set_cons_zero, List.set_cons_succ])
          refine wpAnyS_take (i := 4) (v := ?va4) (by kernel_rfl) rfl (by kernel_rfl) (by kernel_rfl) (by kernel_rfl) (fun _ _ _ h => h) (by rfl) (by assumption) ?hya4 ?resta4
          case hya4 => (intro W hSW; (try dsimp only at hSW); go_simp; try with_reducible rfl)
          (try simp only [Act.put, List.getElem_toArray, List.getElem_cons_zero, List.getElem_cons_succ, List.setIfInBounds_toArray, List.set_cons_zero, List.set_cons_succ])
          refine wpAnyS_take (i := 5) (v := ?va5) (by kernel_rfl) rfl (by kernel_rfl) (by kernel_rfl) (by kernel_rfl) (fun _ _ _ h => h) (by rfl) (by assumption) ?hya5 ?resta5
          case hya5 => (intro W hSW; (try dsimp only at hSW); go_simp; try with_reducible rfl)
          (try simp only [Act.put, List.getElem_toArray, List.getElem_cons_zero, List.getElem_cons_succ, List.setIfInBounds_toArray, List.set_cons_zero, List.set_cons_succ])
          refine wpAnyS_take (i := 6) (v := ?va6) (by kernel_rfl) rfl (by kernel_rfl) (by kernel_rfl) (by kernel_rfl) (fun _ _ _ h => h) (by rfl) (by assumption) ?hya6 ?resta6
          case hya6 => (intro W hSW; (try dsimp only at hSW); go_simp; try with_reducible rfl)
          (try simp only [Act.put, List.getElem_toArray, List.getElem_cons_zero, List.getElem_cons_succ, List.setIfInBounds_toArray, List.set_cons_zero, List.set_cons_succ])
          refine wpAnyS_take (i := 7) (v := ?va7) (by kernel_rfl) rfl (by kernel_rfl) (by kernel_rfl) (by kernel_rfl) (fun _ _ _ h => h) (by rfl) (by assumption) ?hya7 ?resta7
          case hya7 => (intro W hSW; (try dsimp only at hSW); go_simp; try with_reducible rfl)
          (try simp only [Act.put, List.getElem_toArray, List.getElem_cons_zero, List.getElem_cons_succ, List.setIfInBounds_toArray, List.set_cons_zero, List.set_cons_succ])
          refine wpAnyS_take (i := 8) (v := ?va8) (by kernel_rfl) rfl (by kernel_rfl) (by kernel_rfl) (by kernel_rfl) (fun _ _ _ h => h) (by rfl) (by assumption) ?hya8 ?resta8
          case hya8 => (intro W hSW; (try dsimp only at hSW); go_simp; try with_reducible rfl)
          (try simp only [Act.put, List.getElem_toArray, List.getElem_cons_zero, List.getElem_cons_succ, List.setIfInBounds_toArray, List.set_cons_zero, List.set_cons_succ])
          refine wpAnyS_take (i := 9) (v := ?va9) (by kernel_rfl) rfl (by kernel_rfl) (by kernel_rfl) (by kernel_rfl) (fun _ _ _ h => h) (by rfl) (by assumption) ?hya9 ?resta9
          case hya9 => (intro W hSW; (try dsimp only at hSW); go_simp; try with_reducible rfl)
          (try simp only [Act.put, List.getElem_toArray, List.getElem_cons_zero, List.getElem_cons_succ, List.setIfInBounds_toArray, List.set_cons_zero, List.set_cons_succ])
          refine wpAnyS_take (i := 10) (v := ?va10) (by kernel_rfl) rfl (by kernel_rfl) (by kernel_rfl) (by kernel_rfl) (fun _ _ _ h => h) (by rfl) (by assumption) ?hya10 ?resta10
          case hya10 => (intro W hSW; (try dsimp only at hSW); go_simp; try with_reducible rfl)
          (try simp only [Act.put, List.getElem_toArray, List.getElem_cons_zero, List.getElem_cons_succ, List.setIfInBounds_toArray, List.set_cons_zero, List.set_cons_succ])
          refine wpAnyS_only (i := 11) rfl (by kernel_rfl) (fun K hK => ?_)
          go_simp
          clear hHeld
          go_at_call 13
          refine (HG.out w5 H5.out HB5.out.inp).mono ?_
          rintro e w6 ⟨hr6, hk6⟩
          have HB6 := Lib.hid (HB5.out.keeps hk6)
          cases hg6 : getR (bitsL xs) p4 bt with
          | bad z =>
            have he := rpost_bad hr6 hg6
            subst he
            have HU := Lib.hid (show R = .bad z by rw [HU.out, Hst.out, hg6]; rfl)
            clear hr6 hk6 hg6
            unfold stopE
            go_wp2_with fail
            exact ⟨rfl, bad_rpost HU.out, HB6.out.keep⟩
          | ok a =>
            obtain ⟨he, hrd6⟩ := rpost_ok hr6 hg6
            subst he
            have hx := getR_lt hg6
            have hq6 := getR_pos hg6
            replace Hst := Lib.hid (Hst.out.trans (by rw [hg6, then_ok]))
            have H6 := Lib.hid hrd6
            obtain ⟨x, p6⟩ := a
            dsimp only at hx hq6 Hst H6 ⊢
            have hx32 : x < 32 := Nat.lt_of_lt_of_le hx (Nat.le_trans (Nat.pow_le_pow_right (by omega) hbt) (by decide))
            have hwx : IntKind.i64.wrap ((fr : Int) + (x : Int)) = ((fr + x : Nat) : Int) := by rw [show (fr : Int) + (x : Int) = ((fr + x : Nat) : Int) by omega]; exact IntWalk.i64_in _ (by omega)
            have hm300 : fr + x ≤ 300 := by omega
            clear hr6 hk6 hg6 hrd6 hx HG
            refine hK.out _ _ (hSS.out w6 HB6.out.so) (fun hHeld => ?_)
            clear hK K
            (try simp only [Act.put, List.getElem_toArray, List.getElem_cons_zero, List.getElem_cons_succ, List.setIfInBounds_toArray, List.set_cons_zero, List.set_cons_succ])
            refine wpAnyS_only (i := 12) rfl (by kernel_rfl) (fun K hK => ?_)
            go_simp
            rw [show (fr : Int) + (x : Int) = ((fr + x : Nat) : Int) by omega]
            refine hK.out _ _ (hSS.out w6 HB6.out.so) (fun hHeld => ?_)
            clear hK K hHeld
            (try simp only [Act.put, List.getElem_toArray, List.getElem_cons_zero, List.getElem_cons_succ, List.setIfInBounds_toArray, List.set_cons_zero, List.set_cons_succ])
            generalize hmm : fr + x = m at *
            refine wpAnyS_last rfl (by kernel_rfl) (by kernel_rfl) (fun K hK => ?_)
            go_simp
            refine hK.out _ _ ?_
            clear hK K
            have HY := Lib.hid (sym_r base g q tf A n c p6 xs o ks far w6 H6.out HB6.out.inp HB6.out.tbf.tab HB6.out.tbf.le HB6.out.tbf.room HB6.out.tbf.len)
            have hf288 := HB6.out.tbf.len
            have hple6 := H6.out.ple
            go_wp2_with fail
            refine (HY.out).mono ?_
            rintro e w7 ⟨hr7, hk7⟩
            have HB7 := Lib.hid (HB6.out.keeps hk7)
            cases hg7 : symR (bitsL xs) far p6 with
            | bad z =>
              have he := rpost_bad hr7 hg7
              subst he
              have HU := Lib.hid (show R = .bad z by rw [HU.out, Hst.out, hg7]; rfl)
              clear hr7 hk7 hg7
              unfold stopE
              go_wp2_with fail
              exact ⟨rfl, bad_rpost HU.out, HB7.out.keep⟩
            | ok a =>
              obtain ⟨he, hrd7⟩ := rpost_ok hr7 hg7
              subst he
              have hp7 := symR_lt hg7 (by rw [Hrow.out]; exact hple6)
              rw [Hrow.out] at hp7
              have hpl7 := symR_place hg7
              replace Hst := Lib.hid (Hst.out.trans (by rw [hg7, then_ok]))
              have H7 := Lib.hid hrd7
              obtain ⟨j2, p7⟩ := a
              dsimp only at hp7 hpl7 Hst H7 ⊢
              clear hr7 hk7 hg7 hrd7 HY
              have hj20 : (0 : Int) ≤ (j2 : Int) := by omega
              by_cases h30 : 30 ≤ j2
              · have HU := Lib.hid (show R = .bad 8 by rw [HU.out, Hst.out, if_pos h30]; rfl)
                have h30' : (30 : Int) ≤ (j2 : Int) := by omega
                go_wp2_with fail
                refine (fail_any 8 _).mono ?_
                rintro e w8 ⟨rfl, rfl⟩
                unfold stopE
                go_wp2_with fail
                exact ⟨rfl, bad_rpost HU.out, HB7.out.keep⟩
              · replace Hst := Lib.hid (Hst.out.trans (if_neg h30))
                obtain ⟨bf, of, hAf, _, _⟩ := ex_at HB7.out.fo (k := j2) (by show j2 < 30; omega)
                have hSF : Hid (∀ W : World, W.ownsRow base 61 2 (.slice Af 30 cf) 30 (farL.flatMap exC) → W.cell? ⟨bf, of + j2 * 2, none⟩ = some (.int .i64 ((farL.getD j2 (0, 0)).1 : Int)) ∧ W.cell? ⟨bf, of + j2 * 2 + 1, none⟩ = some (.int .i64 ((farL.getD j2 (0, 0)).2 : Int))) := Lib.hid (fun (W : World) hW => by
                  obtain ⟨b', o', e, h1, h2⟩ := ex_at hW (k := j2) (by show j2 < 30; omega)
                  rw [hAf] at e
                  injection e with e
                  injection e with e1 e2
                  subst e1 e2
                  exact ⟨h1, h2⟩)
                obtain ⟨hfr2, hbt2⟩ := farL_bd j2 (by omega)
                generalize farL.getD j2 (0, 0) = ex at Hst hSF hfr2 hbt2
                obtain ⟨fr2, bt2⟩ := ex
                dsimp only at hfr2 hbt2 hSF Hst
                subst hAf
                have HG := Lib.hid (fun W (hr : RdAt W base g q A n c p7 o ks) (hi : InAt_ W base A n xs) => get_r base g q A n c p7 bt2 xs o ks W hr hi (by omega))
                have hj230 : (j2 : Int) < 30 := by omega
                have h30n : ¬ (30 : Int) ≤ (j2 : Int) := by omega
                have hbw7 : base ≤ w7.heap.size := H7.out.bw
                clear h30
                go_wp2_with fail
                refine wp_region_S (fun W => W.cell? ⟨bf, of + j2 * 2, none⟩ = some (.int .i64 (fr2 : Int)) ∧ W.cell? ⟨bf, of + j2 * 2 + 1, none⟩ = some (.int .i64 (bt2 : Int))) 13 (by kernel_rfl) ?_
                obtain ⟨w8, hw8⟩ : ∃ w8, w8 = w7.drew := ⟨_, rfl⟩
                have hb8 : Below w7.heap.size w7 w8 := by rw [hw8]; exact (Below.refl _ _).drew
                have H8 := Lib.hid (H7.out.below hb8)
                have HB8 := Lib.hid (HB7.out.keeps (Keeps.of_below hb8 hbw7))
                rw [← hw8]
                have hHeld := hSF.out w8 HB8.out.fo
                clear hw8 hb8
                refine wpAnyS_take (i := 0) (v := ?vb0) (by kernel_rfl) rfl (by kernel_rfl) (by kernel_rfl) (by kernel_rfl) (fun _ _ _ h => h) (by rfl) (by assumption) ?hyb0 ?restb0
                case hyb0 => (intro W hSW; (try dsimp only at hSW); go_simp; try with_reducible rfl)
                (try simp only [Act.put, List.getElem_toArray, List.getElem_cons_zero, List.getElem_cons_succ, List.setIfInBounds_toArray, List.set_cons_zero, List.set_cons_succ])
                refine wpAnyS_take (i := 1) (v := ?vb1) (by kernel_rfl) rfl (by kernel_rfl) (by kernel_rfl) (by kernel_rfl) (fun _ _ _ h => h) (by rfl) (by assumption) ?hyb1 ?restb1
                case hyb1 => (intro W hSW; (try dsimp only at hSW); go_simp; try with_reducible rfl)
                (try simp only [Act.put, List.getElem_toArray, List.getElem_cons_zero, List.getElem_cons_succ, List.setIfInBounds_toArray, List.set_cons_zero, List.set_cons_succ])
                refine wpAnyS_take (i := 2) (v := ?vb2) (by kernel_rfl) rfl (by kernel_rfl) (by kernel_rfl) (by kernel_rfl) (fun _ _ _ h => h) (by rfl) (by assumption) ?hyb2 ?restb2
                case hyb2 => (intro W hSW; (try dsimp only at hSW); go_simp; try with_reducible rfl)
                (try simp only [Act.put, List.getElem_toArray, List.getElem_cons_zero, List.getElem_cons_succ, List.setIfInBounds_toArray, List.set_cons_zero, List.set_cons_succ])
                refine wpAnyS_take (i := 3) (v := ?vb3) (by kernel_rfl) rfl (by kernel_rfl) (by kernel_rfl) (by kernel_rfl) (fun _ _ _ h => h) (by rfl) (by assumption) ?hyb3 ?restb3
                case hyb3 => (intro W hSW; (try dsimp only at hSW); go_simp; try with_reducible rfl)
                (try simp only [Act.put, List.getElem_toArray, List.getElem_cons_zero, List.getElem_cons_succ, List.setIfInBounds_toArray, List.set_cons_zero, List.set_cons_succ])
                refine wpAnyS_take (i := 4) (v := ?vb4) (by kernel_rfl) rfl (by kernel_rfl) (by kernel_rfl) (by kernel_rfl) (fun _ _ _ h => h) (by rfl) (by assumption) ?hyb4 ?restb4
                case hyb4 => (intro W hSW; (try dsimp only at hSW); go_simp; try with_reducible rfl)
                (try simp only [Act.put, List.getElem_toArray, List.getElem_cons_zero, List.getElem_cons_succ, List.setIfInBounds_toArray, List.set_cons_zero, List.set_cons_succ])
                refine wpAnyS_take (i := 5) (v := ?vb5) (by kernel_rfl) rfl (by kernel_rfl) (by kernel_rfl) (by kernel_rfl) (fun _ _ _ h => h) (by rfl) (by assumption) ?hyb5 ?restb5
                case hyb5 => (intro W hSW; (try dsimp only at hSW); go_simp; try with_reducible rfl)
                (try simp only [Act.put, List.getElem_toArray, List.getElem_cons_zero, List.getElem_cons_succ, List.setIfInBounds_toArray, List.set_cons_zero, List.set_cons_succ])
                refine wpAnyS_take (i := 6) (v := ?vb6) (by kernel_rfl) rfl (by kernel_rfl) (by kernel_rfl) (by kernel_rfl) (fun _ _ _ h => h) (by rfl) (by assumption) ?hyb6 ?restb6
                case hyb6 => (intro W hSW; (try dsimp only at hSW); go_simp; try with_reducible rfl)
                (try simp only [Act.put, List.getElem_toArray, List.getElem_cons_zero, List.getElem_cons_succ, List.setIfInBounds_toArray, List.set_cons_zero, List.set_cons_succ])
                refine wpAnyS_take (i := 7) (v := ?vb7) (by kernel_rfl) rfl (by kernel_rfl) (by kernel_rfl) (by kernel_rfl) (fun _ _ _ h => h) (by rfl) (by assumption) ?hyb7 ?restb7
                case hyb7 => (intro W hSW; (try dsimp only at hSW); go_simp; try with_reducible rfl)
                (try simp only [Act.put, List.getElem_toArray, List.getElem_cons_zero, List.getElem_cons_succ, List.setIfInBounds_toArray, List.set_cons_zero, List.set_cons_succ])
                refine wpAnyS_take (i := 8) (v := ?vb8) (by kernel_rfl) rfl (by kernel_rfl) (by kernel_rfl) (by kernel_rfl) (fun _ _ _ h => h) (by rfl) (by assumption) ?hyb8 ?restb8
                case hyb8 => (intro W hSW; (try dsimp only at hSW); go_simp; try with_reducible rfl)
                (try simp only [Act.put, List.getElem_toArray, List.getElem_cons_zero, List.getElem_cons_succ, List.setIfInBounds_toArray, List.set_cons_zero, List.set_cons_succ])
                refine wpAnyS_take (i := 9) (v := ?vb9) (by kernel_rfl) rfl (by kernel_rfl) (by kernel_rfl) (by kernel_rfl) (fun _ _ _ h => h) (by rfl) (by assumption) ?hyb9 ?restb9
                case hyb9 => (intro W hSW; (try dsimp only at hSW); go_simp; try with_reducible rfl)
                (try simp only [Act.put, List.getElem_toArray, List.getElem_cons_zero, List.getElem_cons_succ, List.setIfInBounds_toArray, List.set_cons_zero, List.set_cons_succ])
                refine wpAnyS_take (i := 10) (v := ?vb10) (by kernel_rfl) rfl (by kernel_rfl) (by kernel_rfl) (by kernel_rfl) (fun _ _ _ h => h) (by rfl) (by assumption) ?hyb10 ?restb10
                case hyb10 => (intro W hSW; (try dsimp only at hSW); go_simp; try with_reducible rfl)
                (try simp only [Act.put, List.getElem_toArray, List.getElem_cons_zero, List.getElem_cons_succ, List.setIfInBounds_toArray, List.set_cons_zero, List.set_cons_succ])
                refine wpAnyS_only (i := 11) rfl (by kernel_rfl) (fun K hK => ?_)
                go_simp
                clear hHeld
                go_at_call 13
                refine (HG.out w8 H8.out HB8.out.inp).mono ?_
                rintro e w9 ⟨hr9, hk9⟩
                have HB9 := Lib.hid (HB8.out.keeps hk9)
                cases hg9 : getR (bitsL xs) p7 bt2 with
                | bad z =>
                  have he := rpost_bad hr9 hg9
                  subst he
                  have HU := Lib.hid (show R = .bad z by rw [HU.out, Hst.out, hg9]; rfl)
                  clear hr9 hk9 hg9
                  unfold stopE
                  go_wp2_with fail
                  exact ⟨rfl, bad_rpost HU.out, HB9.out.keep⟩
                | ok a =>
                  obtain ⟨he, hrd9⟩ := rpost_ok hr9 hg9
                  subst he
                  have hy := getR_lt hg9
                  have hq9 := getR_pos hg9
                  replace Hst := Lib.hid (Hst.out.trans (by rw [hg9, then_ok]))
                  have H9 := Lib.hid hrd9
                  obtain ⟨y, p9⟩ := a
                  dsimp only at hy hq9 Hst H9 ⊢
                  have hy8k : y < 8192 := Nat.lt_of_lt_of_le hy (Nat.le_trans (Nat.pow_le_pow_right (by omega) hbt2) (by decide))
                  have hwy : IntKind.i64.wrap ((fr2 : Int) + (y : Int)) = ((fr2 + y : Nat) : Int) := by rw [show (fr2 : Int) + (y : Int) = ((fr2 + y : Nat) : Int) by omega]; exact IntWalk.i64_in _ (by omega)
                  have hd0 : 1 ≤ fr2 + y := by have := hfr2.1; omega
                  have hd1 : fr2 + y ≤ 40000 := by omega
                  clear hr9 hk9 hg9 hrd9 hy HG
                  refine hK.out _ _ (hSF.out w9 HB9.out.fo) (fun hHeld => ?_)
                  clear hK K
                  (try simp only [Act.put, List.getElem_toArray, List.getElem_cons_zero, List.getElem_cons_succ, List.setIfInBounds_toArray, List.set_cons_zero, List.set_cons_succ])
                  refine wpAnyS_only (i := 12) rfl (by kernel_rfl) (fun K hK => ?_)
                  go_simp
                  rw [show (fr2 : Int) + (y : Int) = ((fr2 + y : Nat) : Int) by omega]
                  refine hK.out _ _ (hSF.out w9 HB9.out.fo) (fun hHeld => ?_)
                  clear hK K hHeld
                  (try simp only [Act.put, List.getElem_toArray, List.getElem_cons_zero, List.getElem_cons_succ, List.setIfInBounds_toArray, List.set_cons_zero, List.set_cons_succ])
                  generalize hdd : fr2 + y = d at *
                  refine wpAnyS_last rfl (by kernel_rfl) (by kernel_rfl) (fun K hK => ?_)
                  go_simp
                  refine hK.out _ _ ?_
                  clear hK K hSS hSF
                  obtain ⟨Ao, ol, co, hol, b1, ho3, _⟩ := H9.out.out1
                  have Hol := Lib.hid hol
                  by_cases hd : ol < d
                  · have HU := Lib.hid (show R = .bad 9 by rw [HU.out, Hst.out, if_pos (by rw [← hol]; exact hd)]; rfl)
                    have hd' : (ol : Int) < (d : Int) := by omega
                    clear hol
                    go_wp2_with fail
                    refine (fail_any 9 _).mono ?_
                    rintro e w10 ⟨rfl, rfl⟩
                    unfold stopE
                    go_wp2_with fail
                    exact ⟨rfl, bad_rpost HU.out, HB9.out.keep⟩
                  · have hst : bodyStep (bitsL xs) lit far p o = (copyR d m o).then_ fun o => .ok (false, p9, o) := Hst.out.trans (if_neg (by rw [← hol]; exact hd))
                    have HU := Lib.hid (show R = (copyR d m o).then_ fun o => bodyR (bitsL xs) lit far f p9 o by rw [HU.out, hst]; cases copyR d m o <;> rfl)
                    have hd' : ¬ (ol : Int) < (d : Int) := by omega
                    have hdo : d ≤ o.length := by rw [← hol]; omega
                    clear hol hst
                    go_wp2_with fail
                    go_loopw [77] (fun vi wr => ∃ (k r : Nat) (o' : List UInt8), k + r = m ∧ vi = .int .i64 (k : Int) ∧ d ≤ o'.length ∧ R = (copyR d r o').then_ (fun o => bodyR (bitsL xs) lit far f p9 o) ∧ RdAt wr base g q A n c p9 o' ks ∧ Bd w base A n xs tl tf lit far (some ⟨bs, os, none⟩) cs (some ⟨bf, of, none⟩) cf wr) (fun vi _ => m - (intOf vi).toNat)
                    case atStart => exact ⟨0, m, o, by omega, rfl, hdo, HU.out, H9.out, HB9.out⟩
                    case round =>
                      obtain ⟨k, r, o', hkr, rfl, hdo', hR, hrd, hbd⟩ := hrel
                      have HU := Lib.hid hR
                      have HR := Lib.hid hrd
                      have HB := Lib.hid hbd
                      clear hR hrd hbd HB9 H9 HB8 H8
                      by_cases hlt : k < m
                      · obtain ⟨r, rfl⟩ : ∃ r', r = r' + 1 := ⟨r - 1, by omega⟩
                        obtain ⟨b, oo, ol, co, hol, hb1, hsl⟩ := HR.out.outd (by omega)
                        have hbwr : base ≤ wr.heap.size := HR.out.bw
                        have hfew := HR.out.few
                        obtain ⟨ix, hix⟩ : ∃ ix, ix = ol - d := ⟨_, rfl⟩
                        have hcx := hsl ix (by omega)
                        have HU := Lib.hid (show R = (pushR o' (o'.getD ix 0)).then_ fun o => (copyR d r o).then_ (fun o => bodyR (bitsL xs) lit far f p9 o) by
                          rw [HU.out, hix, hol]
                          show ((pushR o' (o'.getD (o'.length - d) 0)).then_ fun o => copyR d r o).then_ _ = _
                          cases pushR o' (o'.getD (o'.length - d) 0) <;> rfl)
                        have hwi : IntKind.i64.wrap ((ol : Int) - (d : Int)) = (ix : Int) := by rw [show (ol : Int) - (d : Int) = (ix : Int) by omega]; exact IntWalk.i64_in _ (by omega)
                        have hki : IntKind.i64.wrap ((k : Int) + 1) = ((k + 1 : Nat) : Int) := by rw [show (k : Int) + 1 = ((k + 1 : Nat) : Int) by omega]; exact IntWalk.i64_in _ (by omega)
                        have hix1 : (ix : Int) < (ol : Int) := by omega
                        have hix0 : (0 : Int) ≤ (ix : Int) := by omega
                        have hlt' : (k : Int) < (m : Int) := by omega
                        generalize o'.getD ix 0 = bx at *
                        have HP := Lib.hid (fun W (hr : RdAt W base g q A n c p9 o' ks) => put_r base g q A n c p9 bx o' ks W hr)
                        clear hix hol hsl
                        go_wp2_with fail
                        go_still_tail 14, (by kernel_rfl)
                        obtain ⟨w10, hw10⟩ : ∃ w10, w10 = wr.drew := ⟨_, rfl⟩
                        have hb10 : Below wr.heap.size wr w10 := by rw [hw10]; exact (Below.refl _ _).drew
                        have H10 := Lib.hid (HR.out.below hb10)
                        have HB10 := Lib.hid (HB.out.keeps (Keeps.of_below hb10 hbwr))
                        change wpList _ _ _ _ _ wr.drew
                        rw [← hw10]
                        clear hw10 hb10 hb1 hcx
                        go_wp2_with fail
                        refine (HP.out w10 H10.out).mono ?_
                        rintro e w11 ⟨hr11, hk11⟩
                        have HB11 := Lib.hid (HB10.out.keeps hk11)
                        cases hg11 : pushR o' bx with
                        | bad z =>
                          have he := rpost_bad hr11 hg11
                          subst he
                          have HU := Lib.hid (show R = .bad z by rw [HU.out, hg11]; rfl)
                          clear hr11 hk11 hg11
                          unfold stopE
                          go_wp2_with fail
                          exact ⟨rfl, bad_rpost HU.out, HB11.out.keep⟩
                        | ok o2 =>
                          obtain ⟨he, hrd11⟩ := rpost_ok hr11 hg11
                          subst he
                          have ho2 := pushR_len hg11
                          have HU := Lib.hid (show R = (copyR d r o2).then_ (fun o => bodyR (bitsL xs) lit far f p9 o) by rw [HU.out, hg11]; rfl)
                          have H11 := Lib.hid hrd11
                          clear hr11 hk11 hg11 hrd11 HP
                          go_wp2_with fail
                          go_roundw
                          case rel => exact ⟨k + 1, r, o2, by omega, rfl, by omega, HU.out, H11.out, HB11.out⟩
                          case measure =>
                            show m - (k + 1) < m - k
                            omega
                      · have hlt' : ¬ (k : Int) < (m : Int) := by omega
                        have HU := Lib.hid (show R = bodyR (bitsL xs) lit far f p9 o' by rw [HU.out, show r = 0 by omega]; rfl)
                        go_wp2_with fail
                        go_roundw
                        case rel => exact ⟨f, p9, o', by omega, HU.out, HR.out, HB.out.keep, HB.out.inp, HB.out.tbl, HB.out.tbf, HB.out.so, HB.out.fo⟩
                        case measure =>
                          rw [Hpos.out, posOf_src HR.out.src]
                          omega
end Go.Proofs.Ythfbjgdophjelaa.Inf
