/- package inflate: Unpack. -/
import Derived.Test.YthfbjgdophjelaaInfCatch
import Derived.Test.YthfbjgdophjelaaInfMono
namespace Go.Proofs.Ythfbjgdophjelaa.Inf
open Go Go.RowKit Go.Proofs.Ythfbjgdophjelaa Go.Proofs.Ythfbjgdophjelaa.Bits Go.Proofs.Ythfbjgdophjelaa.Code
set_option linter.unusedVariables false
set_option linter.unusedSimpArgs false

/-- what Unpack hands back -/
def UPost (w : World) (xs : List UInt8) (e : Ending) (w' : World) : Prop := match unpackR xs with
  | .bad z => e = .returned (.tuple #[.slice none 0 0, .int .i64 0, .slice none 0 0, .int .i64 z])
  | .ok a => a.1.length ≤ 3000 ∧ ∃ Ao co Ak ck, e = .returned (.tuple #[.slice Ao a.1.length co, .int .i64 (a.2.1 : Int), .slice Ak a.2.2.length ck, .int .i64 0]) ∧
      w'.ownsRow w.heap.size 5 1 (.slice Ao a.1.length co) a.1.length (a.1.map u8v) ∧ w'.ownsRow w.heap.size 3 1 (.slice Ak a.2.2.length ck) a.2.2.length (a.2.2.map natV)
theorem unp_long {xs : List UInt8} (h : 6000 < xs.length) : unpackR xs = .bad 2 := by unfold unpackR; rw [if_pos h]
theorem unp_some {xs : List UInt8} (h : ¬ 6000 < xs.length) : unpackR xs = (blocksR (bitsL xs) (8 * xs.length + 1) 0 [] []).then_ fun x => .ok (x.2.1, (x.1 + 7) / 8, x.2.2) := by unfold unpackR; rw [if_neg h]
theorem blocks_step (row : List Bool) (f p : Nat) (o : List UInt8) (ks : List Nat) : blocksR row (f + 1) p o ks = (blockR row p o).then_ fun x => if x.1 = true then .ok (x.2.2.1, x.2.2.2, ks ++ [x.2.1]) else blocksR row f x.2.2.1 x.2.2.2 (ks ++ [x.2.1]) := rfl
theorem results4 {P : Program} {fn : Func} {p2 p3 p4 p5 : Tmp} {t2 t3 t4 t5 : TypeId} (h : fn.results = #[.cell p2 t2, .cell p3 t3, .cell p4 t4, .cell p5 t5]) (tmps : Array Value) (w : World) (a2 a3 a4 a5 : Addr) (v2 v3 v4 v5 : Value)
    (h2 : tmps.getD p2 undef = .pointer (some a2)) (h3 : tmps.getD p3 undef = .pointer (some a3)) (h4 : tmps.getD p4 undef = .pointer (some a4)) (h5 : tmps.getD p5 undef = .pointer (some a5))
    (l2 : (loadVar t2 a2).run P w = .ok v2 w) (l3 : (loadVar t3 a3).run P w = .ok v3 w) (l4 : (loadVar t4 a4).run P w = .ok v4 w) (l5 : (loadVar t5 a5).run P w = .ok v5 w) :
    (results fn tmps).run P w = .ok (.tuple #[v2, v3, v4, v5]) w := by
  have h2' : tmps[p2]?.getD undef = .pointer (some a2) := by simpa using h2
  have h3' : tmps[p3]?.getD undef = .pointer (some a3) := by simpa using h3
  have h4' : tmps[p4]?.getD undef = .pointer (some a4) := by simpa using h4
  have h5' : tmps[p5]?.getD undef = .pointer (some a5) := by simpa using h5
  simp [results, h, h2', h3', h4', h5', asAddr, l2, l3, l4, l5]
theorem lv_sl8 (w : World) (a : Addr) (v : Value) (h : w.cell? a = some v) : (loadVar 22 a).run Try.prog w = .ok v w := by
  simp [loadVar, run_underlying Try.underlying22, go_sem, h]
theorem lv_int (w : World) (a : Addr) (v : Value) (h : w.cell? a = some v) : (loadVar 3 a).run Try.prog w = .ok v w := by
  simp [loadVar, run_underlying Try.underlying3, go_sem, h]
theorem lv_sli (w : World) (a : Addr) (v : Value) (h : w.cell? a = some v) : (loadVar 23 a).run Try.prog w = .ok v w := by
  simp [loadVar, run_underlying Try.underlying23, go_sem, h]
theorem lv_err (w : World) (a : Addr) (v : Value) (h : w.cell? a = some v) : (loadVar 24 a).run Try.prog w = .ok v w := by
  simp [loadVar, run_underlying Try.underlying24, go_sem, h]
theorem OutAt.kept {w w' : World} {B g2 g3 g4 g5 : Nat} {T : List TypeId} {v2 v3 v4 v5 : Value} (h : OutAt w B g2 g3 g4 g5 v2 v3 v4 v5) (hk : Keeps w.heap.size T w w') : OutAt w' B g2 g3 g4 g5 v2 v3 v4 v5 :=
  ⟨h.le2, h.le3, h.le4, h.le5, (hk.block g2 h.b2.lt).trans h.b2, (hk.block g3 h.b3.lt).trans h.b3, (hk.block g4 h.b4.lt).trans h.b4, (hk.block g5 h.b5.lt).trans h.b5⟩
theorem below_keeps {B : Nat} {T : List TypeId} {w w4 w' : World} (h : Below B w w4) (hk : Keeps w4.heap.size T w4 w') (hB : B ≤ w4.heap.size) : Below B w w' :=
  h.trans ⟨hk.os, hk.tape, hk.output, hk.size, fun k hkB => hk.block k (by omega)⟩
theorem wp_calm {P : Program} {c : Code} {Q : Exit → Act → World → Prop} {a : Act} {w : World} (h : c.wp P (fun e a w => e = .normal ∧ Q .normal a w) a w) : c.wp P Q a w :=
  wp_mono h (by rintro e a w ⟨rfl, h⟩; exact h)
/-- what the results are made of -/
structure Rest (w : World) (g B : Nat) (A : Option Addr) (n c p : Nat) (Ao : Option Addr) (ol co : Nat) (Ak : Option Addr) (kl ck : Nat) (o : List UInt8) (ks : List Nat) : Prop where
  rdr : Blk w g 41 #[.pointer (some ⟨B, 0, none⟩), .slice Ao ol co, .slice Ak kl ck]
  src : SrcAt w B A n c p
  out : w.ownsRow B 5 1 (.slice Ao ol co) ol (o.map u8v)
  kinds : w.ownsRow B 3 1 (.slice Ak kl ck) kl (ks.map natV)
theorem Rest.held {w : World} {g B n c p ol co kl ck : Nat} {A Ao Ak : Option Addr} {o : List UInt8} {ks : List Nat} (h : Rest w g B A n c p Ao ol co Ak kl ck o ks) : w.cell? ⟨g, 0, none⟩ = some (.pointer (some ⟨B, 0, none⟩)) ∧ w.cell? ⟨g, 1, none⟩ = some (.slice Ao ol co) ∧ w.cell? ⟨g, 2, none⟩ = some (.slice Ak kl ck) := ⟨h.rdr.cell 0, h.rdr.cell 1, h.rdr.cell 2⟩
theorem Rest.set_ {w : World} {g B n c p ol co kl ck x : Nat} {A Ao Ak : Option Addr} {o : List UInt8} {ks : List Nat} {t : TypeId} {cs : Array Value} (h : Rest w g B A n c p Ao ol co Ak kl ck o ks) (hx : Blk w x t cs) (hB : x < B) (hg : g ≠ x) (u : Value) : Rest (w.setCell ⟨x, 0, none⟩ u) g B A n c p Ao ol co Ak kl ck o ks :=
  ⟨h.rdr.far (p := ⟨x, 0, none⟩) hg u, Blk.far h.src (p := ⟨x, 0, none⟩) (by show B ≠ x; omega) u, ownsRow_setCell_below h.out (a := ⟨x, 0, none⟩) hB u, ownsRow_setCell_below h.kinds (a := ⟨x, 0, none⟩) hB u⟩
set_option maxRecDepth 100000 in
set_option maxHeartbeats 1600000 in
theorem at_any (q : Nat) (A : Option Addr) (n c pos : Nat) (w : World) (h : SrcAt w q A n c pos) (hp : pos ≤ 8 * n) (hn : n ≤ 1099511627776) :
    Calls Try.prog 12 #[.pointer (some ⟨q, 0, none⟩)] w fun e w' => e = .returned (.int .i64 (((pos + 7) / 8 : Nat) : Int)) ∧ w' = w := by
  have c1 : w.cell? ⟨q, 1, none⟩ = some (.int .i64 (pos : Int)) := by rw [h.cell]; rfl
  have h1 : IntKind.i64.wrap ((pos : Int) + 7) = (pos : Int) + 7 := IntWalk.i64_in _ (by omega)
  have h4 : ((pos : Int) + 7).tdiv 8 = ((pos : Int) + 7) / 8 := Int.tdiv_eq_ediv_of_nonneg (by omega)
  have h2 : IntKind.i64.wrap (((pos : Int) + 7) / 8) = (((pos + 7) / 8 : Nat) : Int) := by
    rw [show ((pos : Int) + 7) / 8 = (((pos + 7) / 8 : Nat) : Int) by omega]
    exact IntWalk.i64_in _ (by omega)
  have hq := Blk.lt h
  clear h
  generalize (pos + 7) / 8 = u at *
  go_enter Try.func12, Try.ntmps12
  go_wp2_with fail
  go_ret
  exact ⟨rfl, rfl⟩
theorem results_out {w : World} {g2 g3 g4 g5 : Nat} {v2 v3 v4 v5 : Value} (h : OutC w g2 g3 g4 g5 v2 v3 v4 v5) (tmps : Array Value)
    (h2 : tmps.getD 2 undef = .pointer (some ⟨g2, 0, none⟩)) (h3 : tmps.getD 3 undef = .pointer (some ⟨g3, 0, none⟩)) (h4 : tmps.getD 4 undef = .pointer (some ⟨g4, 0, none⟩)) (h5 : tmps.getD 5 undef = .pointer (some ⟨g5, 0, none⟩)) :
    (results Try.f5 tmps).run Try.prog w = .ok (.tuple #[v2, v3, v4, v5]) w :=
  results4 Try.results5 tmps w _ _ _ _ _ _ _ _ h2 h3 h4 h5 (lv_sl8 _ _ _ h.c2) (lv_int _ _ _ h.c3) (lv_sli _ _ _ h.c4) (lv_err _ _ _ h.c5)
theorem out_new (w : World) (x : Value) : OutAt ((((w.alloc (.cells #[.slice none 0 0] 22)).alloc (.cells #[.int .i64 0] 3)).alloc (.cells #[.slice none 0 0] 23)).alloc (.cells #[x] 24)) w.heap.size w.heap.size (w.heap.size + 1) (w.heap.size + 1 + 1) (w.heap.size + 1 + 1 + 1) (.slice none 0 0) (.int .i64 0) (.slice none 0 0) x := by
  have b2 := (((Blk.new w 22 #[.slice none 0 0]).alloc (.cells #[.int .i64 0] 3)).alloc (.cells #[.slice none 0 0] 23)).alloc (.cells #[x] 24)
  have b3 := ((Blk.new (w.alloc (.cells #[.slice none 0 0] 22)) 3 #[.int .i64 0]).alloc (.cells #[.slice none 0 0] 23)).alloc (.cells #[x] 24)
  have b4 := (Blk.new ((w.alloc (.cells #[.slice none 0 0] 22)).alloc (.cells #[.int .i64 0] 3)) 23 #[.slice none 0 0]).alloc (.cells #[x] 24)
  have b5 := Blk.new (((w.alloc (.cells #[.slice none 0 0] 22)).alloc (.cells #[.int .i64 0] 3)).alloc (.cells #[.slice none 0 0] 23)) 24 #[x]
  simp only [World.size_alloc] at b2 b3 b4 b5
  exact ⟨Nat.le_refl _, by omega, by omega, by omega, b2, b3, b4, b5⟩
theorem slat_lt8 {w : World} {b o : Nat} {cs : List Value} (h : SlAt w (some ⟨b, o, none⟩) cs) (hp : 0 < cs.length) : b < w.heap.size := by
  obtain ⟨b', o', e, hc⟩ := h hp
  injection e with e
  injection e with e1 e2
  subst e1 e2
  obtain ⟨x, hx⟩ : ∃ x, cs[0]? = some x := ⟨cs[0], List.getElem?_eq_getElem hp⟩
  exact block_lt_of_cell (hc 0 x hx)
theorem out_below (w : World) (x : Value) : Below w.heap.size w ((((w.alloc (.cells #[.slice none 0 0] 22)).alloc (.cells #[.int .i64 0] 3)).alloc (.cells #[.slice none 0 0] 23)).alloc (.cells #[x] 24)) :=
  ((((Below.refl _ _).alloc (Nat.le_refl _) _).alloc (by simp) _).alloc (by simp; omega) _).alloc (by simp; omega) _
set_option maxRecDepth 100000 in
set_option maxHeartbeats 1600000 in
theorem unpack_any (A : Option Addr) (n c : Nat) (xs : List UInt8) (w : World) (hn : xs.length = n) (hx : n ≤ maxLen) (hA : ByAt w A xs) :
    Calls Try.prog 5 #[.slice A n c] w fun e w' => UPost w xs e w' ∧ Below w.heap.size w w' := by
  unfold maxLen at hx
  have hmf : ∀ (fn : Fn) (first cap : Array Value) (w : World), (Instr.makeFunc fn first cap).run Try.prog w = .ok (.func fn first cap) w := fun _ _ _ _ => rfl
  have Hn := Lib.hid hn
  have HA := Lib.hid hA
  clear hn hA
  by_cases h6 : 6000 < n
  · have h6' : (6000 : Int) < (n : Int) := by omega
    have HU := Lib.hid (unp_long (show 6000 < xs.length by rw [Hn.out]; exact h6))
    go_enter_defers Try.func5, Try.ntmps5
    go_wp2_with fail
    refine ⟨_, results_out (out_new w (.int .i64 2)).cells _ rfl rfl rfl rfl, ?_, out_below w _⟩
    unfold UPost
    rw [HU.out]
  · have h6' : ¬ (6000 : Int) < (n : Int) := by omega
    have HU := Lib.hid (unp_some (show ¬ 6000 < xs.length by rw [Hn.out]; exact h6))
    go_enter_defers Try.func5, Try.ntmps5
    go_wp2_with fail
    have HOut := Lib.hid (out_new w (.int .i64 0))
    have Hb4 := Lib.hid (out_below w (.int .i64 0))
    generalize ((((w.alloc (.cells #[.slice none 0 0] 22)).alloc (.cells #[.int .i64 0] 3)).alloc (.cells #[.slice none 0 0] 23)).alloc (.cells #[.int .i64 0] 24)) = w4 at *
    generalize hg3 : w.heap.size + 1 = g3 at *
    generalize hg4 : g3 + 1 = g4 at *
    generalize hg5 : g4 + 1 = g5 at *
    generalize hg2 : w.heap.size = g2 at *
    have Hg2 := Lib.hid hg2
    have HA4 := Lib.hid (SlAt.below HA.out (by rw [hg2]; exact Hb4.out))
    have hBw : g2 ≤ w4.heap.size := by have := Hb4.out.size; omega
    have hlow : ∀ b o, A = some ⟨b, o, none⟩ → 0 < n → b < w4.heap.size := fun b o e hp => by
      have := slat_lt8 (e ▸ HA.out) (by rw [List.length_map, Hn.out]; exact hp)
      omega
    clear hg2 hg3 hg4 hg5 HA
    refine (of_any A n c w4).mono ?_
    rintro e w5 ⟨rfl, hsrc, hb5⟩
    have HS5 := Lib.hid hsrc
    have Hb5 := Lib.hid hb5
    clear hsrc hb5
    go_wp2_with fail
    obtain ⟨G, hG⟩ : ∃ G : Nat × List UInt8 × List Nat → Rd (List UInt8 × Nat × List Nat), G = fun x => .ok (x.2.1, (x.1 + 7) / 8, x.2.2) := ⟨_, rfl⟩
    obtain ⟨R, hR⟩ : ∃ R, R = unpackR xs := ⟨_, rfl⟩
    have HU := Lib.hid (show R = (blocksR (bitsL xs) (8 * n + 1) 0 [] []).then_ G by rw [hR, HU.out, hG, Hn.out])
    have HGd := Lib.hid hG
    have HRd := Lib.hid hR
    clear hG hR
    have hrow : (bitsL xs).length = 8 * n := by rw [bitsL_length, Hn.out]
    have Hrow := Lib.hid hrow
    clear hrow
    have hbx : Below w4.heap.size w4 (w5.alloc (.cells #[.pointer (some ⟨w4.heap.size, 0, none⟩), .slice none 0 0, .slice none 0 0] 41)) := Hb5.out.alloc Hb5.out.size _
    have HOut6 := Lib.hid (HOut.out.below hbx)
    have HK6 : Hid (Keeps w4.heap.size infT2 w4 (w5.alloc (.cells #[.pointer (some ⟨w4.heap.size, 0, none⟩), .slice none 0 0, .slice none 0 0] 41))) := Lib.hid (Keeps.of_below hbx (Nat.le_refl _))
    have HR6 : Hid (RdAt (w5.alloc (.cells #[.pointer (some ⟨w4.heap.size, 0, none⟩), .slice none 0 0, .slice none 0 0] 41)) w4.heap.size w5.heap.size w4.heap.size A n c 0 [] []) := Lib.hid
      ⟨Hb5.out.size, Nat.le_refl _, by omega, by simp, ⟨_, _, Blk.new _ _ _, World.ownsRow_nil _ _ _ _, World.ownsRow_nil _ _ _ _⟩, Blk.alloc HS5.out _⟩
    have HI4 : Hid (InAt_ w4 w4.heap.size A n xs) := Lib.hid ⟨Hn.out, by omega, HA4.out, hlow⟩
    generalize w5.alloc (.cells #[.pointer (some ⟨w4.heap.size, 0, none⟩), .slice none 0 0, .slice none 0 0] 41) = w6 at *
    generalize w5.heap.size = g at *
    obtain ⟨B, hB⟩ : ∃ B, B = w4.heap.size := ⟨_, rfl⟩
    rw [← hB] at HK6 HR6 HI4 hBw ⊢
    have HBe := Lib.hid hB
    clear hB hbx hlow HS5 Hb5 HA4
    go_loopw [] (fun wr => ∃ (f p : Nat) (o : List UInt8) (ks : List Nat), 8 * n + 1 ≤ p + f ∧ ks.length ≤ p ∧ R = (blocksR (bitsL xs) f p o ks).then_ G ∧ RdAt wr B g B A n c p o ks ∧ Keeps B infT2 w4 wr) (fun wr => 8 * n - posOf B wr)
    case atStart => exact ⟨8 * n + 1, 0, [], [], by omega, by simp, HU.out, HR6.out, HK6.out⟩
    case round =>
      obtain ⟨f, p, o, ks, hpf, hkp, hR, hrd, hk⟩ := hrel
      have hple := hrd.ple
      obtain ⟨f, rfl⟩ : ∃ f', f = f' + 1 := ⟨f - 1, by omega⟩
      have HU := Lib.hid (show R = ((blockR (bitsL xs) p o).then_ fun x => if x.1 = true then .ok (x.2.2.1, x.2.2.2, ks ++ [x.2.1]) else blocksR (bitsL xs) f x.2.2.1 x.2.2.2 (ks ++ [x.2.1])).then_ G from hR)
      have Hpos : Hid (posOf B wr = p) := Lib.hid (posOf_src hrd.src)
      have HK := Lib.hid hk
      have HIr : Hid (InAt_ wr B A n xs) := Lib.hid (HI4.out.keeps hk)
      have HBk := Lib.hid (block_r B g B A n c p xs o ks wr hrd HIr.out (by omega) (by omega))
      have HOutr : Hid (OutAt wr g2 g2 g3 g4 g5 (.slice none 0 0) (.int .i64 0) (.slice none 0 0) (.int .i64 0)) := Lib.hid (HOut.out.kept (HBe.out ▸ hk))
      clear hR hrd hk HR6 HK6 HOut6 HIr
      go_wp2_with fail
      refine (HBk.out).mono ?_
      rintro e w7 ⟨hr7, hk7⟩
      have HK7 := Lib.hid (HK.out.trans hk7)
      have HOut7 : Hid (OutAt w7 g2 g2 g3 g4 g5 (.slice none 0 0) (.int .i64 0) (.slice none 0 0) (.int .i64 0)) := Lib.hid (HOut.out.kept (HBe.out ▸ HK7.out))
      have Hb7 : Hid (Below g2 w w7) := Lib.hid (below_keeps Hb4.out (HBe.out ▸ HK7.out) (HBe.out ▸ hBw))
      cases hg7 : blockR (bitsL xs) p o with
      | bad z =>
        have he := rpost_bad hr7 hg7
        subst he
        have HU := Lib.hid (show R = .bad z by rw [HU.out, hg7]; rfl)
        clear hr7 hk7 hg7
        unfold stopE
        go_wp2_with fail
        refine leaves_cons (f := 9) (args := #[.pointer (some ⟨g2, 0, none⟩), .pointer (some ⟨g3, 0, none⟩), .pointer (some ⟨g4, 0, none⟩), .pointer (some ⟨g5, 0, none⟩)]) (by simp) (by simp [go_sem]) ?_
        refine (catch_panicking g2 g2 g3 g4 g5 _ _ _ _ z [] w7 (Nat.le_trans (HBe.out ▸ hBw) HK7.out.size |> fun h => by have := HK7.out.size; have := HBe.out; omega) HOut7.out).mono ?_
        rintro e u' w8 ⟨rfl, rfl, hout8, hb8⟩
        refine ⟨_, results_out hout8.cells _ rfl rfl rfl rfl, ?_, ?_⟩
        · unfold UPost
          rw [← HRd.out, HU.out]
        · rw [Hg2.out]
          exact Hb7.out.trans hb8
      | ok a =>
        obtain ⟨he, hrd7⟩ := rpost_ok hr7 hg7
        subst he
        have hm := block_mono hg7
        rw [Hrow.out] at hm
        replace HU := Lib.hid (HU.out.trans (by rw [hg7, then_ok]))
        have HR7 := Lib.hid hrd7
        obtain ⟨lb, k, p7, o7⟩ := a
        dsimp only at HU HR7 hm ⊢
        clear hr7 hk7 hg7 hrd7 HBk
        cases lb with
        | false =>
          replace HU := Lib.hid (HU.out.trans (by rw [if_neg (by simp)]))
          go_wp2_with fail
          go_roundw
          case rel => exact ⟨f, p7, o7, ks ++ [k], by omega, by simp; omega, HU.out, HR7.out, HK7.out⟩
          case measure => rw [Hpos.out, posOf_src HR7.out.src]; omega
        | true =>
          replace HU := Lib.hid (HU.out.trans (by rw [if_pos rfl, then_ok, HGd.out]))
          dsimp only at HU
          obtain ⟨vo, Ak, kl, ck, ekl, hb, ho, hkk⟩ := kind_any HR7.out
          obtain ⟨Ao, co, rfl, _⟩ := own_slat ho
          obtain ⟨ol, hol⟩ : ∃ ol, ol = o7.length := ⟨_, rfl⟩
          rw [← hol] at hb ho
          have Hol := Lib.hid hol
          have Hekl := Lib.hid ekl
          have HO7 := Lib.hid ho
          have HKK7 := Lib.hid hkk
          have HBR := Lib.hid hb
          have HS7 := Lib.hid HR7.out.src
          have hfew := HR7.out.few
          have hp7 := HR7.out.ple
          have hBB : g2 ≤ B := hBw
          have hBe := HBe.out
          have hlt2 : g2 < B := by have := HOut.out.b2.lt; omega
          have hlt3 : g3 < B := by have := HOut.out.b3.lt; omega
          have hlt4 : g4 < B := by have := HOut.out.b4.lt; omega
          have hlt5 : g5 < B := by have := HOut.out.b5.lt; omega
          have hgB : B ≤ g := by obtain ⟨h1, _⟩ := HR7.out; exact h1
          clear hBe
          clear hol ekl ho hkk hb HOut Hb4 HI4
          go_wp2_with fail
          refine wp_calm ?_
          refine wp_region_S (fun W => W.cell? ⟨g, 0, none⟩ = some (.pointer (some ⟨B, 0, none⟩)) ∧ W.cell? ⟨g, 1, none⟩ = some (.slice Ao ol co) ∧ W.cell? ⟨g, 2, none⟩ = some (.slice Ak kl ck)) 16 (by kernel_rfl) ?_
          have hHeld : w7.drew.cell? ⟨g, 0, none⟩ = some (.pointer (some ⟨B, 0, none⟩)) ∧ w7.drew.cell? ⟨g, 1, none⟩ = some (.slice Ao ol co) ∧ w7.drew.cell? ⟨g, 2, none⟩ = some (.slice Ak kl ck) := ⟨HBR.out.cell 0, HBR.out.cell 1, HBR.out.cell 2⟩
          have H3 := Lib.hid (HOut7.out.below ((Below.refl _ _).drew))
          have Hb3 := Lib.hid (Hb7.out.trans ((Below.refl g2 w7).drew))
          have HX3 : Hid (Rest w7.drew g B A n c p7 Ao ol co Ak kl ck o7 (ks ++ [k])) := Lib.hid ⟨HBR.out, HS7.out, HO7.out, HKK7.out⟩
          have HAt := Lib.hid (at_any B A n c p7 w7.drew HX3.out.src hp7 (by omega))
          clear HOut7 Hb7 HBR HO7 HKK7 HS7
          generalize w7.drew = w3 at *
          refine wpAnyS_takeT (i := 0) (v := ?va0) (by kernel_rfl) (by kernel_rfl) rfl (by kernel_rfl) (by kernel_rfl) (by kernel_rfl) (fun _ _ _ h => by cases h.1) (by rfl) (by assumption) ?hya0 ?resta0
          case hya0 => (intro W hSW; (try dsimp only at hSW); go_simp; try with_reducible rfl)
          (try simp only [Act.put, List.getElem_toArray, List.getElem_cons_zero, List.getElem_cons_succ, List.setIfInBounds_toArray, List.set_cons_zero, List.set_cons_succ])
          refine wpAnyS_takeT (i := 1) (v := ?va1) (by kernel_rfl) (by kernel_rfl) rfl (by kernel_rfl) (by kernel_rfl) (by kernel_rfl) (fun _ _ _ h => by cases h.1) (by rfl) (by assumption) ?hya1 ?resta1
          case hya1 => (intro W hSW; (try dsimp only at hSW); go_simp; try with_reducible rfl)
          (try simp only [Act.put, List.getElem_toArray, List.getElem_cons_zero, List.getElem_cons_succ, List.setIfInBounds_toArray, List.set_cons_zero, List.set_cons_succ])
          refine wpAnyS_takeT (i := 2) (v := ?va2) (by kernel_rfl) (by kernel_rfl) rfl (by kernel_rfl) (by kernel_rfl) (by kernel_rfl) (fun _ _ _ h => by cases h.1) (by rfl) (by assumption) ?hya2 ?resta2
          case hya2 => (intro W hSW; (try dsimp only at hSW); go_simp; try with_reducible rfl)
          (try simp only [Act.put, List.getElem_toArray, List.getElem_cons_zero, List.getElem_cons_succ, List.setIfInBounds_toArray, List.set_cons_zero, List.set_cons_succ])
          refine wpAnyS_takeT (i := 3) (v := ?va3) (by kernel_rfl) (by kernel_rfl) rfl (by kernel_rfl) (by kernel_rfl) (by kernel_rfl) (fun _ _ _ h => by cases h.1) (by rfl) (by assumption) ?hya3 ?resta3
          case hya3 => (intro W hSW; (try dsimp only at hSW); go_simp; try with_reducible rfl)
          (try simp only [Act.put, List.getElem_toArray, List.getElem_cons_zero, List.getElem_cons_succ, List.setIfInBounds_toArray, List.set_cons_zero, List.set_cons_succ])
          refine wpAnyS_takeT (i := 4) (v := ?va4) (by kernel_rfl) (by kernel_rfl) rfl (by kernel_rfl) (by kernel_rfl) (by kernel_rfl) (fun _ _ _ h => by cases h.1) (by rfl) (by assumption) ?hya4 ?resta4
          case hya4 => (intro W hSW; (try dsimp only at hSW); go_simp; try with_reducible rfl)
          (try simp only [Act.put, List.getElem_toArray, List.getElem_cons_zero, List.getElem_cons_succ, List.setIfInBounds_toArray, List.set_cons_zero, List.set_cons_succ])
          refine wpAnyS_takeT (i := 5) (v := ?va5) (by kernel_rfl) (by kernel_rfl) rfl (by kernel_rfl) (by kernel_rfl) (by kernel_rfl) (fun _ _ _ h => by cases h.1) (by rfl) (by assumption) ?hya5 ?resta5
          case hya5 => (intro W hSW; (try dsimp only at hSW); go_simp; try with_reducible rfl)
          (try simp only [Act.put, List.getElem_toArray, List.getElem_cons_zero, List.getElem_cons_succ, List.setIfInBounds_toArray, List.set_cons_zero, List.set_cons_succ])
          refine wpAnyS_takeT (i := 6) (v := ?va6) (by kernel_rfl) (by kernel_rfl) rfl (by kernel_rfl) (by kernel_rfl) (by kernel_rfl) (fun _ _ _ h => by cases h.1) (by rfl) (by assumption) ?hya6 ?resta6
          case hya6 => (intro W hSW; (try dsimp only at hSW); go_simp; try with_reducible rfl)
          (try simp only [Act.put, List.getElem_toArray, List.getElem_cons_zero, List.getElem_cons_succ, List.setIfInBounds_toArray, List.set_cons_zero, List.set_cons_succ])
          refine wpAnyS_takeT (i := 7) (v := ?va7) (by kernel_rfl) (by kernel_rfl) rfl (by kernel_rfl) (by kernel_rfl) (by kernel_rfl) (fun _ _ _ h => by cases h.1) (by rfl) (by assumption) ?hya7 ?resta7
          case hya7 => (intro W hSW; (try dsimp only at hSW); go_simp; try with_reducible rfl)
          (try simp only [Act.put, List.getElem_toArray, List.getElem_cons_zero, List.getElem_cons_succ, List.setIfInBounds_toArray, List.set_cons_zero, List.set_cons_succ])
          refine wpAnyS_takeT (i := 9) (v := ?va9) (by kernel_rfl) (by kernel_rfl) rfl (by kernel_rfl) (by kernel_rfl) (by kernel_rfl) (fun _ _ _ h => by cases h.1) (by rfl) (by assumption) ?hya9 ?resta9
          case hya9 => (intro W hSW; (try dsimp only at hSW); go_simp; try with_reducible rfl)
          (try simp only [Act.put, List.getElem_toArray, List.getElem_cons_zero, List.getElem_cons_succ, List.setIfInBounds_toArray, List.set_cons_zero, List.set_cons_succ])
          refine wpAnyS_takeT (i := 10) (v := ?va10) (by kernel_rfl) (by kernel_rfl) rfl (by kernel_rfl) (by kernel_rfl) (by kernel_rfl) (fun _ _ _ h => by cases h.1) (by rfl) (by assumption) ?hya10 ?resta10
          case hya10 => (intro W hSW; (try dsimp only at hSW); go_simp; try with_reducible rfl)
          (try simp only [Act.put, List.getElem_toArray, List.getElem_cons_zero, List.getElem_cons_succ, List.setIfInBounds_toArray, List.set_cons_zero, List.set_cons_succ])
          refine wpAnyS_takeT (i := 11) (v := ?va11) (by kernel_rfl) (by kernel_rfl) rfl (by kernel_rfl) (by kernel_rfl) (by kernel_rfl) (fun _ _ _ h => by cases h.1) (by rfl) (by assumption) ?hya11 ?resta11
          case hya11 => (intro W hSW; (try dsimp only at hSW); go_simp; try with_reducible rfl)
          (try simp only [Act.put, List.getElem_toArray, List.getElem_cons_zero, List.getElem_cons_succ, List.setIfInBounds_toArray, List.set_cons_zero, List.set_cons_succ])
          refine wpAnyS_takeT (i := 12) (v := ?va12) (by kernel_rfl) (by kernel_rfl) rfl (by kernel_rfl) (by kernel_rfl) (by kernel_rfl) (fun _ _ _ h => by cases h.1) (by rfl) (by assumption) ?hya12 ?resta12
          case hya12 => (intro W hSW; (try dsimp only at hSW); go_simp; try with_reducible rfl)
          (try simp only [Act.put, List.getElem_toArray, List.getElem_cons_zero, List.getElem_cons_succ, List.setIfInBounds_toArray, List.set_cons_zero, List.set_cons_succ])
          refine wpAnyS_only (i := 8) rfl (by kernel_rfl) (fun K hK => ?_)
          go_simp
          go_at_call 12
          refine (HAt.out).mono ?_
          rintro e w3' ⟨rfl, hw3'⟩
          cases hw3'
          refine hK.out _ _ hHeld (fun hHeld => ?_)
          clear hK K
          (try simp only [Act.put, List.getElem_toArray, List.getElem_cons_zero, List.getElem_cons_succ, List.setIfInBounds_toArray, List.set_cons_zero, List.set_cons_succ])
          obtain ⟨us, hus⟩ : ∃ us, us = (p7 + 7) / 8 := ⟨_, rfl⟩
          rw [← hus] at HU ⊢
          clear hus
          obtain ⟨c2, c3, c4, c5, f2, f3, f4, f5⟩ := H3.out.cells
          refine wpAnyS_only (i := 13) rfl (by kernel_rfl) (fun K hK => ?_)
          go_simp
          have H4 := Lib.hid (H3.out.s2 (.slice Ao ol co))
          have Hb4 := Lib.hid (Hb3.out.setCell (p := ⟨g2, 0, none⟩) H3.out.le2 (.slice Ao ol co))
          have HX4 := Lib.hid (HX3.out.set_ H3.out.b2 hlt2 (by omega) (.slice Ao ol co))
          clear hHeld c2 c3 c4 c5 f2 f3 f4 f5
          refine hK.out _ _ HX4.out.held (fun hHeld => ?_)
          clear hK K H3 Hb3 HX3
          (try simp only [Act.put, List.getElem_toArray, List.getElem_cons_zero, List.getElem_cons_succ, List.setIfInBounds_toArray, List.set_cons_zero, List.set_cons_succ])
          generalize w3.setCell ⟨g2, 0, none⟩ (.slice Ao ol co) = w4 at *
          obtain ⟨c2, c3, c4, c5, f2, f3, f4, f5⟩ := H4.out.cells
          refine wpAnyS_only (i := 14) rfl (by kernel_rfl) (fun K hK => ?_)
          go_simp
          have H5 := Lib.hid (H4.out.s3 (.int .i64 (us : Int)))
          have Hb5 := Lib.hid (Hb4.out.setCell (p := ⟨g3, 0, none⟩) H4.out.le3 (.int .i64 (us : Int)))
          have HX5 := Lib.hid (HX4.out.set_ H4.out.b3 hlt3 (by omega) (.int .i64 (us : Int)))
          clear hHeld c2 c3 c4 c5 f2 f3 f4 f5
          refine hK.out _ _ HX5.out.held (fun hHeld => ?_)
          clear hK K H4 Hb4 HX4
          (try simp only [Act.put, List.getElem_toArray, List.getElem_cons_zero, List.getElem_cons_succ, List.setIfInBounds_toArray, List.set_cons_zero, List.set_cons_succ])
          generalize w4.setCell ⟨g3, 0, none⟩ (.int .i64 (us : Int)) = w5 at *
          obtain ⟨c2, c3, c4, c5, f2, f3, f4, f5⟩ := H5.out.cells
          refine wpAnyS_only (i := 15) rfl (by kernel_rfl) (fun K hK => ?_)
          go_simp
          have H6 := Lib.hid (H5.out.s4 (.slice Ak kl ck))
          have Hb6 := Lib.hid (Hb5.out.setCell (p := ⟨g4, 0, none⟩) H5.out.le4 (.slice Ak kl ck))
          have HX6 := Lib.hid (HX5.out.set_ H5.out.b4 hlt4 (by omega) (.slice Ak kl ck))
          clear hHeld c2 c3 c4 c5 f2 f3 f4 f5
          refine hK.out _ _ HX6.out.held (fun hHeld => ?_)
          clear hK K H5 Hb5 HX5
          (try simp only [Act.put, List.getElem_toArray, List.getElem_cons_zero, List.getElem_cons_succ, List.setIfInBounds_toArray, List.set_cons_zero, List.set_cons_succ])
          generalize w5.setCell ⟨g4, 0, none⟩ (.slice Ak kl ck) = w6 at *
          obtain ⟨c2, c3, c4, c5, f2, f3, f4, f5⟩ := H6.out.cells
          refine wpAnyS_last rfl (by kernel_rfl) (by kernel_rfl) (fun K hK => ?_)
          go_simp
          have H7 := Lib.hid (H6.out.s5 (.int .i64 0))
          have Hb7 := Lib.hid (Hb6.out.setCell (p := ⟨g5, 0, none⟩) H6.out.le5 (.int .i64 0))
          have HX7 := Lib.hid (HX6.out.set_ H6.out.b5 hlt5 (by omega) (.int .i64 0))
          clear hHeld c2 c3 c4 c5 f2 f3 f4 f5
          refine hK.out _ _ ⟨rfl, ?_⟩
          clear hK K
          go_wp2_with fail
          refine leaves_cons (f := 9) (args := #[.pointer (some ⟨g2, 0, none⟩), .pointer (some ⟨g3, 0, none⟩), .pointer (some ⟨g4, 0, none⟩), .pointer (some ⟨g5, 0, none⟩)]) (by simp) (by simp [go_sem]) ?_
          refine (catch_idle g2 g3 g4 g5 _).mono ?_
          rintro e u' w8 ⟨rfl, rfl, rfl⟩
          refine ⟨_, results_out H7.out.cells _ rfl rfl rfl rfl, ?_, ?_⟩
          · unfold UPost
            rw [← HRd.out, HU.out]
            dsimp only
            have h1 := HX7.out.out
            have h2 := HX7.out.kinds
            rw [Hol.out] at h1
            rw [Hekl.out] at h2
            refine ⟨hfew, Ao, co, Ak, ck, ?_, own_base h1 (by rw [Hg2.out]; exact hBB), own_base h2 (by rw [Hg2.out]; exact hBB)⟩
            rw [Hol.out, Hekl.out]
          · rw [Hg2.out]
            exact Hb7.out
end Go.Proofs.Ythfbjgdophjelaa.Inf
