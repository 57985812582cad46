/- texts joined: InfUnpack EqualB Equal InfFact UnpPure CdsPure NumP0 CdsRep SlcMem SlcSwap. -/
import Derived.Test.YthpdcnjaodjjmaaInflateUnpackQ3
import Derived.Test.YthpdcnjaodjjmaaInflateUnpackQ1
import Derived.Test.YthpdcnjaodjjmaaProg
import Derived.Laws.BytesArg
import Derived.Shelf.Bytes.SlSmallAll
import Derived.WalkSpells
import Derived.Deep.QuietTactic
import Derived.BigQuiet
import Derived.Test.YthpdcnjaodjjmaaSortPure
import Derived.Test.YthpdcnjaodjjmaaInflateUnpackQ2
import Derived.Maps.AppendAt
import Derived.Lib.ReflectliteSwap
import Derived.Lib.ReflectliteSlice
import Derived.Laws.Externs
/- package inflate: Unpack. -/
namespace Go.Proofs.Ythpdcnjaodjjmaa.Inf
open Go Go.RowKit Go.Proofs.Ythpdcnjaodjjmaa Go.Proofs.Ythpdcnjaodjjmaa.Bits Go.Proofs.Ythpdcnjaodjjmaa.Code
set_option linter.unusedVariables false
set_option linter.unusedSimpArgs false

/-- what Unpack hands back -/
def UPost (w : World) (xs : List UInt8) (e : Ending) (w' : World) : Prop := match unpackR xs with
  | .bad z => e = .returned (.tuple #[.slice none 0 0, .int .i64 0, .slice none 0 0, .int .i64 z])
  | .ok a => a.1.length ≤ 3000 ∧ ∃ Ao co Ak ck, e = .returned (.tuple #[.slice Ao a.1.length co, .int .i64 (a.2.1 : Int), .slice Ak a.2.2.length ck, .int .i64 0]) ∧
      w'.ownsRow w.heap.size 5 1 (.slice Ao a.1.length co) a.1.length (a.1.map u8v) ∧ w'.ownsRow w.heap.size 3 1 (.slice Ak a.2.2.length ck) a.2.2.length (a.2.2.map natV)
theorem unp_long {xs : List UInt8} (h : 6000 < xs.length) : unpackR xs = .bad 2 := by unfold unpackR; rw [if_pos h]
theorem unp_some {xs : List UInt8} (h : ¬ 6000 < xs.length) : unpackR xs = (blocksR (bitsL xs) (8 * xs.length + 1) 0 [] []).then_ fun x => .ok (x.2.1, (x.1 + 7) / 8, x.2.2) := by unfold unpackR; rw [if_neg h]
theorem blocks_step (row : List Bool) (f p : Nat) (o : List UInt8) (ks : List Nat) : blocksR row (f + 1) p o ks = (blockR row p o).then_ fun x => if x.1 = true then .ok (x.2.2.1, x.2.2.2, ks ++ [x.2.1]) else blocksR row f x.2.2.1 x.2.2.2 (ks ++ [x.2.1]) := rfl
theorem results4 {P : Program} {fn : Func} {p2 p3 p4 p5 : Tmp} {t2 t3 t4 t5 : TypeId} (h : fn.results = #[.cell p2 t2, .cell p3 t3, .cell p4 t4, .cell p5 t5]) (tmps : Array Value) (w : World) (a2 a3 a4 a5 : Addr) (v2 v3 v4 v5 : Value)
    (h2 : tmps.getD p2 undef = .pointer (some a2)) (h3 : tmps.getD p3 undef = .pointer (some a3)) (h4 : tmps.getD p4 undef = .pointer (some a4)) (h5 : tmps.getD p5 undef = .pointer (some a5))
    (l2 : (loadVar t2 a2).run P w = .ok v2 w) (l3 : (loadVar t3 a3).run P w = .ok v3 w) (l4 : (loadVar t4 a4).run P w = .ok v4 w) (l5 : (loadVar t5 a5).run P w = .ok v5 w) :
    (results fn tmps).run P w = .ok (.tuple #[v2, v3, v4, v5]) w := by
  have h2' : tmps[p2]?.getD undef = .pointer (some a2) := by simpa using h2
  have h3' : tmps[p3]?.getD undef = .pointer (some a3) := by simpa using h3
  have h4' : tmps[p4]?.getD undef = .pointer (some a4) := by simpa using h4
  have h5' : tmps[p5]?.getD undef = .pointer (some a5) := by simpa using h5
  simp [results, h, h2', h3', h4', h5', asAddr, l2, l3, l4, l5]
theorem lv_sl8 (w : World) (a : Addr) (v : Value) (h : w.cell? a = some v) : (loadVar 22 a).run Try.prog w = .ok v w := by
  simp [loadVar, run_underlying Try.underlying22, go_sem, h]
theorem lv_int (w : World) (a : Addr) (v : Value) (h : w.cell? a = some v) : (loadVar 3 a).run Try.prog w = .ok v w := by
  simp [loadVar, run_underlying Try.underlying3, go_sem, h]
theorem lv_sli (w : World) (a : Addr) (v : Value) (h : w.cell? a = some v) : (loadVar 30 a).run Try.prog w = .ok v w := by
  simp [loadVar, run_underlying Try.underlying30, go_sem, h]
theorem lv_err (w : World) (a : Addr) (v : Value) (h : w.cell? a = some v) : (loadVar 23 a).run Try.prog w = .ok v w := by
  simp [loadVar, run_underlying Try.underlying23, go_sem, h]
theorem OutAt.kept {w w' : World} {B g2 g3 g4 g5 : Nat} {T : List TypeId} {v2 v3 v4 v5 : Value} (h : OutAt w B g2 g3 g4 g5 v2 v3 v4 v5) (hk : Keeps w.heap.size T w w') : OutAt w' B g2 g3 g4 g5 v2 v3 v4 v5 :=
  ⟨h.le2, h.le3, h.le4, h.le5, (hk.block g2 h.b2.lt).trans h.b2, (hk.block g3 h.b3.lt).trans h.b3, (hk.block g4 h.b4.lt).trans h.b4, (hk.block g5 h.b5.lt).trans h.b5⟩
theorem below_keeps {B : Nat} {T : List TypeId} {w w4 w' : World} (h : Below B w w4) (hk : Keeps w4.heap.size T w4 w') (hB : B ≤ w4.heap.size) : Below B w w' :=
  h.trans ⟨hk.os, hk.tape, hk.output, hk.size, fun k hkB => hk.block k (by omega)⟩
theorem wp_calm {P : Program} {c : Code} {Q : Exit → Act → World → Prop} {a : Act} {w : World} (h : c.wp P (fun e a w => e = .normal ∧ Q .normal a w) a w) : c.wp P Q a w :=
  wp_mono h (by rintro e a w ⟨rfl, h⟩; exact h)
/-- what the results are made of -/
structure Rest (w : World) (g B : Nat) (A : Option Addr) (n c p : Nat) (Ao : Option Addr) (ol co : Nat) (Ak : Option Addr) (kl ck : Nat) (o : List UInt8) (ks : List Nat) : Prop where
  rdr : Blk w g 56 #[.pointer (some ⟨B, 0, none⟩), .slice Ao ol co, .slice Ak kl ck]
  src : SrcAt w B A n c p
  out : w.ownsRow B 5 1 (.slice Ao ol co) ol (o.map u8v)
  kinds : w.ownsRow B 3 1 (.slice Ak kl ck) kl (ks.map natV)
theorem Rest.held {w : World} {g B n c p ol co kl ck : Nat} {A Ao Ak : Option Addr} {o : List UInt8} {ks : List Nat} (h : Rest w g B A n c p Ao ol co Ak kl ck o ks) : w.cell? ⟨g, 0, none⟩ = some (.pointer (some ⟨B, 0, none⟩)) ∧ w.cell? ⟨g, 1, none⟩ = some (.slice Ao ol co) ∧ w.cell? ⟨g, 2, none⟩ = some (.slice Ak kl ck) := ⟨h.rdr.cell 0, h.rdr.cell 1, h.rdr.cell 2⟩
theorem Rest.set_ {w : World} {g B n c p ol co kl ck x : Nat} {A Ao Ak : Option Addr} {o : List UInt8} {ks : List Nat} {t : TypeId} {cs : Array Value} (h : Rest w g B A n c p Ao ol co Ak kl ck o ks) (hx : Blk w x t cs) (hB : x < B) (hg : g ≠ x) (u : Value) : Rest (w.setCell ⟨x, 0, none⟩ u) g B A n c p Ao ol co Ak kl ck o ks :=
  ⟨h.rdr.far (p := ⟨x, 0, none⟩) hg u, Blk.far h.src (p := ⟨x, 0, none⟩) (by show B ≠ x; omega) u, ownsRow_setCell_below h.out (a := ⟨x, 0, none⟩) hB u, ownsRow_setCell_below h.kinds (a := ⟨x, 0, none⟩) hB u⟩
set_option maxRecDepth 100000 in
set_option maxHeartbeats 1600000 in
theorem at_any (q : Nat) (A : Option Addr) (n c pos : Nat) (w : World) (h : SrcAt w q A n c pos) (hp : pos ≤ 8 * n) (hn : n ≤ 1099511627776) :
    Calls Try.prog 27 #[.pointer (some ⟨q, 0, none⟩)] w fun e w' => e = .returned (.int .i64 (((pos + 7) / 8 : Nat) : Int)) ∧ w' = w := by
  have c1 : w.cell? ⟨q, 1, none⟩ = some (.int .i64 (pos : Int)) := by rw [h.cell]; rfl
  have h1 : IntKind.i64.wrap ((pos : Int) + 7) = (pos : Int) + 7 := IntWalk.i64_in _ (by omega)
  have h4 : ((pos : Int) + 7).tdiv 8 = ((pos : Int) + 7) / 8 := Int.tdiv_eq_ediv_of_nonneg (by omega)
  have h2 : IntKind.i64.wrap (((pos : Int) + 7) / 8) = (((pos + 7) / 8 : Nat) : Int) := by
    rw [show ((pos : Int) + 7) / 8 = (((pos + 7) / 8 : Nat) : Int) by omega]
    exact IntWalk.i64_in _ (by omega)
  have hq := Blk.lt h
  clear h
  generalize (pos + 7) / 8 = u at *
  go_enter Try.func27, Try.ntmps27
  go_wp2_with fail
  go_ret
  exact ⟨rfl, rfl⟩
theorem results_out {w : World} {g2 g3 g4 g5 : Nat} {v2 v3 v4 v5 : Value} (h : OutC w g2 g3 g4 g5 v2 v3 v4 v5) (tmps : Array Value)
    (h2 : tmps.getD 2 undef = .pointer (some ⟨g2, 0, none⟩)) (h3 : tmps.getD 3 undef = .pointer (some ⟨g3, 0, none⟩)) (h4 : tmps.getD 4 undef = .pointer (some ⟨g4, 0, none⟩)) (h5 : tmps.getD 5 undef = .pointer (some ⟨g5, 0, none⟩)) :
    (results Try.f12 tmps).run Try.prog w = .ok (.tuple #[v2, v3, v4, v5]) w :=
  results4 Try.results12 tmps w _ _ _ _ _ _ _ _ h2 h3 h4 h5 (lv_sl8 _ _ _ h.c2) (lv_int _ _ _ h.c3) (lv_sli _ _ _ h.c4) (lv_err _ _ _ h.c5)
theorem out_new (w : World) (x : Value) : OutAt ((((w.alloc (.cells #[.slice none 0 0] 22)).alloc (.cells #[.int .i64 0] 3)).alloc (.cells #[.slice none 0 0] 30)).alloc (.cells #[x] 23)) w.heap.size w.heap.size (w.heap.size + 1) (w.heap.size + 1 + 1) (w.heap.size + 1 + 1 + 1) (.slice none 0 0) (.int .i64 0) (.slice none 0 0) x := by
  have b2 := (((Blk.new w 22 #[.slice none 0 0]).alloc (.cells #[.int .i64 0] 3)).alloc (.cells #[.slice none 0 0] 30)).alloc (.cells #[x] 23)
  have b3 := ((Blk.new (w.alloc (.cells #[.slice none 0 0] 22)) 3 #[.int .i64 0]).alloc (.cells #[.slice none 0 0] 30)).alloc (.cells #[x] 23)
  have b4 := (Blk.new ((w.alloc (.cells #[.slice none 0 0] 22)).alloc (.cells #[.int .i64 0] 3)) 30 #[.slice none 0 0]).alloc (.cells #[x] 23)
  have b5 := Blk.new (((w.alloc (.cells #[.slice none 0 0] 22)).alloc (.cells #[.int .i64 0] 3)).alloc (.cells #[.slice none 0 0] 30)) 23 #[x]
  simp only [World.size_alloc] at b2 b3 b4 b5
  exact ⟨Nat.le_refl _, by omega, by omega, by omega, b2, b3, b4, b5⟩
theorem slat_lt8 {w : World} {b o : Nat} {cs : List Value} (h : SlAt w (some ⟨b, o, none⟩) cs) (hp : 0 < cs.length) : b < w.heap.size := by
  obtain ⟨b', o', e, hc⟩ := h hp
  injection e with e
  injection e with e1 e2
  subst e1 e2
  obtain ⟨x, hx⟩ : ∃ x, cs[0]? = some x := ⟨cs[0], List.getElem?_eq_getElem hp⟩
  exact block_lt_of_cell (hc 0 x hx)
theorem out_below (w : World) (x : Value) : Below w.heap.size w ((((w.alloc (.cells #[.slice none 0 0] 22)).alloc (.cells #[.int .i64 0] 3)).alloc (.cells #[.slice none 0 0] 30)).alloc (.cells #[x] 23)) :=
  ((((Below.refl _ _).alloc (Nat.le_refl _) _).alloc (by simp) _).alloc (by simp; omega) _).alloc (by simp; omega) _
set_option maxRecDepth 100000 in
set_option maxHeartbeats 1600000 in
theorem unpack_any (A : Option Addr) (n c : Nat) (xs : List UInt8) (w : World) (hn : xs.length = n) (hx : n ≤ maxLen) (hA : ByAt w A xs) :
    Calls Try.prog 12 #[.slice A n c] w fun e w' => UPost w xs e w' ∧ Below w.heap.size w w' := by
  unfold maxLen at hx
  have hmf : ∀ (fn : Fn) (first cap : Array Value) (w : World), (Instr.makeFunc fn first cap).run Try.prog w = .ok (.func fn first cap) w := fun _ _ _ _ => rfl
  have Hn := Lib.hid hn
  have HA := Lib.hid hA
  clear hn hA
  by_cases h6 : 6000 < n
  · have h6' : (6000 : Int) < (n : Int) := by omega
    have HU := Lib.hid (unp_long (show 6000 < xs.length by rw [Hn.out]; exact h6))
    go_enter_defers Try.func12, Try.ntmps12
    go_wp2_with fail
    refine ⟨_, results_out (out_new w (.int .i64 2)).cells _ rfl rfl rfl rfl, ?_, out_below w _⟩
    unfold UPost
    rw [HU.out]
  · have h6' : ¬ (6000 : Int) < (n : Int) := by omega
    have HU := Lib.hid (unp_some (show ¬ 6000 < xs.length by rw [Hn.out]; exact h6))
    go_enter_defers Try.func12, Try.ntmps12
    go_wp2_with fail
    have HOut := Lib.hid (out_new w (.int .i64 0))
    have Hb4 := Lib.hid (out_below w (.int .i64 0))
    generalize ((((w.alloc (.cells #[.slice none 0 0] 22)).alloc (.cells #[.int .i64 0] 3)).alloc (.cells #[.slice none 0 0] 30)).alloc (.cells #[.int .i64 0] 23)) = w4 at *
    generalize hg3 : w.heap.size + 1 = g3 at *
    generalize hg4 : g3 + 1 = g4 at *
    generalize hg5 : g4 + 1 = g5 at *
    generalize hg2 : w.heap.size = g2 at *
    have Hg2 := Lib.hid hg2
    have HA4 := Lib.hid (SlAt.below HA.out (by rw [hg2]; exact Hb4.out))
    have hBw : g2 ≤ w4.heap.size := by have := Hb4.out.size; omega
    have hlow : ∀ b o, A = some ⟨b, o, none⟩ → 0 < n → b < w4.heap.size := fun b o e hp => by
      have := slat_lt8 (e ▸ HA.out) (by rw [List.length_map, Hn.out]; exact hp)
      omega
    clear hg2 hg3 hg4 hg5 HA
    refine (of_any A n c w4).mono ?_
    rintro e w5 ⟨rfl, hsrc, hb5⟩
    have HS5 := Lib.hid hsrc
    have Hb5 := Lib.hid hb5
    clear hsrc hb5
    go_wp2_with fail
    obtain ⟨G, hG⟩ : ∃ G : Nat × List UInt8 × List Nat → Rd (List UInt8 × Nat × List Nat), G = fun x => .ok (x.2.1, (x.1 + 7) / 8, x.2.2) := ⟨_, rfl⟩
    obtain ⟨R, hR⟩ : ∃ R, R = unpackR xs := ⟨_, rfl⟩
    have HU := Lib.hid (show R = (blocksR (bitsL xs) (8 * n + 1) 0 [] []).then_ G by rw [hR, HU.out, hG, Hn.out])
    have HGd := Lib.hid hG
    have HRd := Lib.hid hR
    clear hG hR
    have hrow : (bitsL xs).length = 8 * n := by rw [bitsL_length, Hn.out]
    have Hrow := Lib.hid hrow
    clear hrow
    have hbx : Below w4.heap.size w4 (w5.alloc (.cells #[.pointer (some ⟨w4.heap.size, 0, none⟩), .slice none 0 0, .slice none 0 0] 56)) := Hb5.out.alloc Hb5.out.size _
    have HOut6 := Lib.hid (HOut.out.below hbx)
    have HK6 : Hid (Keeps w4.heap.size infT2 w4 (w5.alloc (.cells #[.pointer (some ⟨w4.heap.size, 0, none⟩), .slice none 0 0, .slice none 0 0] 56))) := Lib.hid (Keeps.of_below hbx (Nat.le_refl _))
    have HR6 : Hid (RdAt (w5.alloc (.cells #[.pointer (some ⟨w4.heap.size, 0, none⟩), .slice none 0 0, .slice none 0 0] 56)) w4.heap.size w5.heap.size w4.heap.size A n c 0 [] []) := Lib.hid
      ⟨Hb5.out.size, Nat.le_refl _, by omega, by simp, ⟨_, _, Blk.new _ _ _, World.ownsRow_nil _ _ _ _, World.ownsRow_nil _ _ _ _⟩, Blk.alloc HS5.out _⟩
    have HI4 : Hid (InAt_ w4 w4.heap.size A n xs) := Lib.hid ⟨Hn.out, by omega, HA4.out, hlow⟩
    generalize w5.alloc (.cells #[.pointer (some ⟨w4.heap.size, 0, none⟩), .slice none 0 0, .slice none 0 0] 56) = w6 at *
    generalize w5.heap.size = g at *
    obtain ⟨B, hB⟩ : ∃ B, B = w4.heap.size := ⟨_, rfl⟩
    rw [← hB] at HK6 HR6 HI4 hBw ⊢
    have HBe := Lib.hid hB
    clear hB hbx hlow HS5 Hb5 HA4
    go_loopw [] (fun wr => ∃ (f p : Nat) (o : List UInt8) (ks : List Nat), 8 * n + 1 ≤ p + f ∧ ks.length ≤ p ∧ R = (blocksR (bitsL xs) f p o ks).then_ G ∧ RdAt wr B g B A n c p o ks ∧ Keeps B infT2 w4 wr) (fun wr => 8 * n - posOf B wr)
    case atStart => exact ⟨8 * n + 1, 0, [], [], by omega, by simp, HU.out, HR6.out, HK6.out⟩
    case round =>
      obtain ⟨f, p, o, ks, hpf, hkp, hR, hrd, hk⟩ := hrel
      have hple := hrd.ple
      obtain ⟨f, rfl⟩ : ∃ f', f = f' + 1 := ⟨f - 1, by omega⟩
      have HU := Lib.hid (show R = ((blockR (bitsL xs) p o).then_ fun x => if x.1 = true then .ok (x.2.2.1, x.2.2.2, ks ++ [x.2.1]) else blocksR (bitsL xs) f x.2.2.1 x.2.2.2 (ks ++ [x.2.1])).then_ G from hR)
      have Hpos : Hid (posOf B wr = p) := Lib.hid (posOf_src hrd.src)
      have HK := Lib.hid hk
      have HIr : Hid (InAt_ wr B A n xs) := Lib.hid (HI4.out.keeps hk)
      have HBk := Lib.hid (block_r B g B A n c p xs o ks wr hrd HIr.out (by omega) (by omega))
      have HOutr : Hid (OutAt wr g2 g2 g3 g4 g5 (.slice none 0 0) (.int .i64 0) (.slice none 0 0) (.int .i64 0)) := Lib.hid (HOut.out.kept (HBe.out ▸ hk))
      clear hR hrd hk HR6 HK6 HOut6 HIr
      go_wp2_with fail
      refine (HBk.out).mono ?_
      rintro e w7 ⟨hr7, hk7⟩
      have HK7 := Lib.hid (HK.out.trans hk7)
      have HOut7 : Hid (OutAt w7 g2 g2 g3 g4 g5 (.slice none 0 0) (.int .i64 0) (.slice none 0 0) (.int .i64 0)) := Lib.hid (HOut.out.kept (HBe.out ▸ HK7.out))
      have Hb7 : Hid (Below g2 w w7) := Lib.hid (below_keeps Hb4.out (HBe.out ▸ HK7.out) (HBe.out ▸ hBw))
      cases hg7 : blockR (bitsL xs) p o with
      | bad z =>
        have he := rpost_bad hr7 hg7
        subst he
        have HU := Lib.hid (show R = .bad z by rw [HU.out, hg7]; rfl)
        clear hr7 hk7 hg7
        unfold stopE
        go_wp2_with fail
        refine leaves_cons (f := 24) (args := #[.pointer (some ⟨g2, 0, none⟩), .pointer (some ⟨g3, 0, none⟩), .pointer (some ⟨g4, 0, none⟩), .pointer (some ⟨g5, 0, none⟩)]) (by simp) (by simp [go_sem]) ?_
        refine (catch_panicking g2 g2 g3 g4 g5 _ _ _ _ z [] w7 (Nat.le_trans (HBe.out ▸ hBw) HK7.out.size |> fun h => by have := HK7.out.size; have := HBe.out; omega) HOut7.out).mono ?_
        rintro e u' w8 ⟨rfl, rfl, hout8, hb8⟩
        refine ⟨_, results_out hout8.cells _ rfl rfl rfl rfl, ?_, ?_⟩
        · unfold UPost
          rw [← HRd.out, HU.out]
        · rw [Hg2.out]
          exact Hb7.out.trans hb8
      | ok a =>
        obtain ⟨he, hrd7⟩ := rpost_ok hr7 hg7
        subst he
        have hm := block_mono hg7
        rw [Hrow.out] at hm
        replace HU := Lib.hid (HU.out.trans (by rw [hg7, then_ok]))
        have HR7 := Lib.hid hrd7
        obtain ⟨lb, k, p7, o7⟩ := a
        dsimp only at HU HR7 hm ⊢
        clear hr7 hk7 hg7 hrd7 HBk
        cases lb with
        | false =>
          replace HU := Lib.hid (HU.out.trans (by rw [if_neg (by simp)]))
          go_wp2_with fail
          go_roundw
          case rel => exact ⟨f, p7, o7, ks ++ [k], by omega, by simp; omega, HU.out, HR7.out, HK7.out⟩
          case measure => rw [Hpos.out, posOf_src HR7.out.src]; omega
        | true =>
          replace HU := Lib.hid (HU.out.trans (by rw [if_pos rfl, then_ok, HGd.out]))
          dsimp only at HU
          obtain ⟨vo, Ak, kl, ck, ekl, hb, ho, hkk⟩ := kind_any HR7.out
          obtain ⟨Ao, co, rfl, _⟩ := own_slat ho
          obtain ⟨ol, hol⟩ : ∃ ol, ol = o7.length := ⟨_, rfl⟩
          rw [← hol] at hb ho
          have Hol := Lib.hid hol
          have Hekl := Lib.hid ekl
          have HO7 := Lib.hid ho
          have HKK7 := Lib.hid hkk
          have HBR := Lib.hid hb
          have HS7 := Lib.hid HR7.out.src
          have hfew := HR7.out.few
          have hp7 := HR7.out.ple
          have hBB : g2 ≤ B := hBw
          have hBe := HBe.out
          have hlt2 : g2 < B := by have := HOut.out.b2.lt; omega
          have hlt3 : g3 < B := by have := HOut.out.b3.lt; omega
          have hlt4 : g4 < B := by have := HOut.out.b4.lt; omega
          have hlt5 : g5 < B := by have := HOut.out.b5.lt; omega
          have hgB : B ≤ g := by obtain ⟨h1, _⟩ := HR7.out; exact h1
          clear hBe
          clear hol ekl ho hkk hb HOut Hb4 HI4
          go_wp2_with fail
          refine wp_calm ?_
          refine wp_region_S (fun W => W.cell? ⟨g, 0, none⟩ = some (.pointer (some ⟨B, 0, none⟩)) ∧ W.cell? ⟨g, 1, none⟩ = some (.slice Ao ol co) ∧ W.cell? ⟨g, 2, none⟩ = some (.slice Ak kl ck)) 16 (by kernel_rfl) ?_
          have hHeld : w7.drew.cell? ⟨g, 0, none⟩ = some (.pointer (some ⟨B, 0, none⟩)) ∧ w7.drew.cell? ⟨g, 1, none⟩ = some (.slice Ao ol co) ∧ w7.drew.cell? ⟨g, 2, none⟩ = some (.slice Ak kl ck) := ⟨HBR.out.cell 0, HBR.out.cell 1, HBR.out.cell 2⟩
          have H3 := Lib.hid (HOut7.out.below ((Below.refl _ _).drew))
          have Hb3 := Lib.hid (Hb7.out.trans ((Below.refl g2 w7).drew))
          have HX3 : Hid (Rest w7.drew g B A n c p7 Ao ol co Ak kl ck o7 (ks ++ [k])) := Lib.hid ⟨HBR.out, HS7.out, HO7.out, HKK7.out⟩
          have HAt := Lib.hid (at_any B A n c p7 w7.drew HX3.out.src hp7 (by omega))
          clear HOut7 Hb7 HBR HO7 HKK7 HS7
          generalize w7.drew = w3 at *
          refine wpAnyS_takeT (i := 0) (v := ?va0) (by kernel_rfl) (by kernel_rfl) rfl (by kernel_rfl) (by kernel_rfl) (by kernel_rfl) (fun _ _ _ h => by cases h.1) (by rfl) (by assumption) ?hya0 ?resta0
          case hya0 => (intro W hSW; (try dsimp only at hSW); go_simp; try with_reducible rfl)
          (try simp only [Act.put, List.getElem_toArray, List.getElem_cons_zero, List.getElem_cons_succ, List.setIfInBounds_toArray, List.set_cons_zero, List.set_cons_succ])
          refine wpAnyS_takeT (i := 1) (v := ?va1) (by kernel_rfl) (by kernel_rfl) rfl (by kernel_rfl) (by kernel_rfl) (by kernel_rfl) (fun _ _ _ h => by cases h.1) (by rfl) (by assumption) ?hya1 ?resta1
          case hya1 => (intro W hSW; (try dsimp only at hSW); go_simp; try with_reducible rfl)
          (try simp only [Act.put, List.getElem_toArray, List.getElem_cons_zero, List.getElem_cons_succ, List.setIfInBounds_toArray, List.set_cons_zero, List.set_cons_succ])
          refine wpAnyS_takeT (i := 2) (v := ?va2) (by kernel_rfl) (by kernel_rfl) rfl (by kernel_rfl) (by kernel_rfl) (by kernel_rfl) (fun _ _ _ h => by cases h.1) (by rfl) (by assumption) ?hya2 ?resta2
          case hya2 => (intro W hSW; (try dsimp only at hSW); go_simp; try with_reducible rfl)
          (try simp only [Act.put, List.getElem_toArray, List.getElem_cons_zero, List.getElem_cons_succ, List.setIfInBounds_toArray, List.set_cons_zero, List.set_cons_succ])
          refine wpAnyS_takeT (i := 3) (v := ?va3) (by kernel_rfl) (by kernel_rfl) rfl (by kernel_rfl) (by kernel_rfl) (by kernel_rfl) (fun _ _ _ h => by cases h.1) (by rfl) (by assumption) ?hya3 ?resta3
          case hya3 => (intro W hSW; (try dsimp only at hSW); go_simp; try with_reducible rfl)
          (try simp only [Act.put, List.getElem_toArray, List.getElem_cons_zero, List.getElem_cons_succ, List.setIfInBounds_toArray, List.set_cons_zero, List.set_cons_succ])
          refine wpAnyS_takeT (i := 4) (v := ?va4) (by kernel_rfl) (by kernel_rfl) rfl (by kernel_rfl) (by kernel_rfl) (by kernel_rfl) (fun _ _ _ h => by cases h.1) (by rfl) (by assumption) ?hya4 ?resta4
          case hya4 => (intro W hSW; (try dsimp only at hSW); go_simp; try with_reducible rfl)
          (try simp only [Act.put, List.getElem_toArray, List.getElem_cons_zero, List.getElem_cons_succ, List.setIfInBounds_toArray, List.set_cons_zero, List.set_cons_succ])
          refine wpAnyS_takeT (i := 5) (v := ?va5) (by kernel_rfl) (by kernel_rfl) rfl (by kernel_rfl) (by kernel_rfl) (by kernel_rfl) (fun _ _ _ h => by cases h.1) (by rfl) (by assumption) ?hya5 ?resta5
          case hya5 => (intro W hSW; (try dsimp only at hSW); go_simp; try with_reducible rfl)
          (try simp only [Act.put, List.getElem_toArray, List.getElem_cons_zero, List.getElem_cons_succ, List.setIfInBounds_toArray, List.set_cons_zero, List.set_cons_succ])
          refine wpAnyS_takeT (i := 6) (v := ?va6) (by kernel_rfl) (by kernel_rfl) rfl (by kernel_rfl) (by kernel_rfl) (by kernel_rfl) (fun _ _ _ h => by cases h.1) (by rfl) (by assumption) ?hya6 ?resta6
          case hya6 => (intro W hSW; (try dsimp only at hSW); go_simp; try with_reducible rfl)
          (try simp only [Act.put, List.getElem_toArray, List.getElem_cons_zero, List.getElem_cons_succ, List.setIfInBounds_toArray, List.set_cons_zero, List.set_cons_succ])
          refine wpAnyS_takeT (i := 7) (v := ?va7) (by kernel_rfl) (by kernel_rfl) rfl (by kernel_rfl) (by kernel_rfl) (by kernel_rfl) (fun _ _ _ h => by cases h.1) (by rfl) (by assumption) ?hya7 ?resta7
          case hya7 => (intro W hSW; (try dsimp only at hSW); go_simp; try with_reducible rfl)
          (try simp only [Act.put, List.getElem_toArray, List.getElem_cons_zero, List.getElem_cons_succ, List.setIfInBounds_toArray, List.set_cons_zero, List.set_cons_succ])
          refine wpAnyS_takeT (i := 9) (v := ?va9) (by kernel_rfl) (by kernel_rfl) rfl (by kernel_rfl) (by kernel_rfl) (by kernel_rfl) (fun _ _ _ h => by cases h.1) (by rfl) (by assumption) ?hya9 ?resta9
          case hya9 => (intro W hSW; (try dsimp only at hSW); go_simp; try with_reducible rfl)
          (try simp only [Act.put, List.getElem_toArray, List.getElem_cons_zero, List.getElem_cons_succ, List.setIfInBounds_toArray, List.set_cons_zero, List.set_cons_succ])
          refine wpAnyS_takeT (i := 10) (v := ?va10) (by kernel_rfl) (by kernel_rfl) rfl (by kernel_rfl) (by kernel_rfl) (by kernel_rfl) (fun _ _ _ h => by cases h.1) (by rfl) (by assumption) ?hya10 ?resta10
          case hya10 => (intro W hSW; (try dsimp only at hSW); go_simp; try with_reducible rfl)
          (try simp only [Act.put, List.getElem_toArray, List.getElem_cons_zero, List.getElem_cons_succ, List.setIfInBounds_toArray, List.set_cons_zero, List.set_cons_succ])
          refine wpAnyS_takeT (i := 11) (v := ?va11) (by kernel_rfl) (by kernel_rfl) rfl (by kernel_rfl) (by kernel_rfl) (by kernel_rfl) (fun _ _ _ h => by cases h.1) (by rfl) (by assumption) ?hya11 ?resta11
          case hya11 => (intro W hSW; (try dsimp only at hSW); go_simp; try with_reducible rfl)
          (try simp only [Act.put, List.getElem_toArray, List.getElem_cons_zero, List.getElem_cons_succ, List.setIfInBounds_toArray, List.set_cons_zero, List.set_cons_succ])
          refine wpAnyS_takeT (i := 12) (v := ?va12) (by kernel_rfl) (by kernel_rfl) rfl (by kernel_rfl) (by kernel_rfl) (by kernel_rfl) (fun _ _ _ h => by cases h.1) (by rfl) (by assumption) ?hya12 ?resta12
          case hya12 => (intro W hSW; (try dsimp only at hSW); go_simp; try with_reducible rfl)
          (try simp only [Act.put, List.getElem_toArray, List.getElem_cons_zero, List.getElem_cons_succ, List.setIfInBounds_toArray, List.set_cons_zero, List.set_cons_succ])
          refine wpAnyS_only (i := 8) rfl (by kernel_rfl) (fun K hK => ?_)
          go_simp
          go_at_call 27
          refine (HAt.out).mono ?_
          rintro e w3' ⟨rfl, hw3'⟩
          cases hw3'
          refine hK.out _ _ hHeld (fun hHeld => ?_)
          clear hK K
          (try simp only [Act.put, List.getElem_toArray, List.getElem_cons_zero, List.getElem_cons_succ, List.setIfInBounds_toArray, List.set_cons_zero, List.set_cons_succ])
          obtain ⟨us, hus⟩ : ∃ us, us = (p7 + 7) / 8 := ⟨_, rfl⟩
          rw [← hus] at HU ⊢
          clear hus
          obtain ⟨c2, c3, c4, c5, f2, f3, f4, f5⟩ := H3.out.cells
          refine wpAnyS_only (i := 13) rfl (by kernel_rfl) (fun K hK => ?_)
          go_simp
          have H4 := Lib.hid (H3.out.s2 (.slice Ao ol co))
          have Hb4 := Lib.hid (Hb3.out.setCell (p := ⟨g2, 0, none⟩) H3.out.le2 (.slice Ao ol co))
          have HX4 := Lib.hid (HX3.out.set_ H3.out.b2 hlt2 (by omega) (.slice Ao ol co))
          clear hHeld c2 c3 c4 c5 f2 f3 f4 f5
          refine hK.out _ _ HX4.out.held (fun hHeld => ?_)
          clear hK K H3 Hb3 HX3
          (try simp only [Act.put, List.getElem_toArray, List.getElem_cons_zero, List.getElem_cons_succ, List.setIfInBounds_toArray, List.set_cons_zero, List.set_cons_succ])
          generalize w3.setCell ⟨g2, 0, none⟩ (.slice Ao ol co) = w4 at *
          obtain ⟨c2, c3, c4, c5, f2, f3, f4, f5⟩ := H4.out.cells
          refine wpAnyS_only (i := 14) rfl (by kernel_rfl) (fun K hK => ?_)
          go_simp
          have H5 := Lib.hid (H4.out.s3 (.int .i64 (us : Int)))
          have Hb5 := Lib.hid (Hb4.out.setCell (p := ⟨g3, 0, none⟩) H4.out.le3 (.int .i64 (us : Int)))
          have HX5 := Lib.hid (HX4.out.set_ H4.out.b3 hlt3 (by omega) (.int .i64 (us : Int)))
          clear hHeld c2 c3 c4 c5 f2 f3 f4 f5
          refine hK.out _ _ HX5.out.held (fun hHeld => ?_)
          clear hK K H4 Hb4 HX4
          (try simp only [Act.put, List.getElem_toArray, List.getElem_cons_zero, List.getElem_cons_succ, List.setIfInBounds_toArray, List.set_cons_zero, List.set_cons_succ])
          generalize w4.setCell ⟨g3, 0, none⟩ (.int .i64 (us : Int)) = w5 at *
          obtain ⟨c2, c3, c4, c5, f2, f3, f4, f5⟩ := H5.out.cells
          refine wpAnyS_only (i := 15) rfl (by kernel_rfl) (fun K hK => ?_)
          go_simp
          have H6 := Lib.hid (H5.out.s4 (.slice Ak kl ck))
          have Hb6 := Lib.hid (Hb5.out.setCell (p := ⟨g4, 0, none⟩) H5.out.le4 (.slice Ak kl ck))
          have HX6 := Lib.hid (HX5.out.set_ H5.out.b4 hlt4 (by omega) (.slice Ak kl ck))
          clear hHeld c2 c3 c4 c5 f2 f3 f4 f5
          refine hK.out _ _ HX6.out.held (fun hHeld => ?_)
          clear hK K H5 Hb5 HX5
          (try simp only [Act.put, List.getElem_toArray, List.getElem_cons_zero, List.getElem_cons_succ, List.setIfInBounds_toArray, List.set_cons_zero, List.set_cons_succ])
          generalize w5.setCell ⟨g4, 0, none⟩ (.slice Ak kl ck) = w6 at *
          obtain ⟨c2, c3, c4, c5, f2, f3, f4, f5⟩ := H6.out.cells
          refine wpAnyS_last rfl (by kernel_rfl) (by kernel_rfl) (fun K hK => ?_)
          go_simp
          have H7 := Lib.hid (H6.out.s5 (.int .i64 0))
          have Hb7 := Lib.hid (Hb6.out.setCell (p := ⟨g5, 0, none⟩) H6.out.le5 (.int .i64 0))
          have HX7 := Lib.hid (HX6.out.set_ H6.out.b5 hlt5 (by omega) (.int .i64 0))
          clear hHeld c2 c3 c4 c5 f2 f3 f4 f5
          refine hK.out _ _ ⟨rfl, ?_⟩
          clear hK K
          go_wp2_with fail
          refine leaves_cons (f := 24) (args := #[.pointer (some ⟨g2, 0, none⟩), .pointer (some ⟨g3, 0, none⟩), .pointer (some ⟨g4, 0, none⟩), .pointer (some ⟨g5, 0, none⟩)]) (by simp) (by simp [go_sem]) ?_
          refine (catch_idle g2 g3 g4 g5 _).mono ?_
          rintro e u' w8 ⟨rfl, rfl, rfl⟩
          refine ⟨_, results_out H7.out.cells _ rfl rfl rfl rfl, ?_, ?_⟩
          · unfold UPost
            rw [← HRd.out, HU.out]
            dsimp only
            have h1 := HX7.out.out
            have h2 := HX7.out.kinds
            rw [Hol.out] at h1
            rw [Hekl.out] at h2
            refine ⟨hfew, Ao, co, Ak, ck, ?_, own_base h1 (by rw [Hg2.out]; exact hBB), own_base h2 (by rw [Hg2.out]; exact hBB)⟩
            rw [Hol.out, Hekl.out]
          · rw [Hg2.out]
            exact Hb7.out
end Go.Proofs.Ythpdcnjaodjjmaa.Inf

/- bytes.Equal, and []byte to string. -/
namespace Go.Proofs.Ythpdcnjaodjjmaa
open Go Go.RowKit
set_option linter.unusedVariables false

def strB (xs : List UInt8) : ByteArray := ⟨xs.toArray⟩
theorem strB_inj (xs ys : List UInt8) : ((strB xs).toList == (strB ys).toList) = decide (xs = ys) := by
  rw [ByteArray.toList_eq, ByteArray.toList_eq, Bool.eq_iff_iff]; simp [strB]
theorem strB_nums (xs : List UInt8) : strOfNums (xs.map n8) = strB xs := by
  unfold strOfNums strB
  rw [List.map_map]
  have : ((fun n => UInt8.ofNat n.toNat) ∘ n8) = id := by
    funext x; simp [n8]
  rw [this, List.map_id]
theorem conv_bytes (A : Option Addr) (n c : Nat) (xs : List UInt8) (w : World) (hn : xs.length = n) (h : ByAt w A xs) :
    (convert 22 9 (.slice A n c)).run Try.prog w = .ok (.string (strB xs)) w := by
  rw [← strB_nums]
  cases n with
  | zero =>
    have : xs = [] := List.eq_nil_of_length_eq_zero hn
    subst this
    exact run_convert_bytes_zero w _ _ Try.underlying22 Try.underlying5 A c _ Try.underlying9
  | succ n =>
    obtain ⟨b, o, rfl, _⟩ := SlAt.get h (k := 0) (by simp; omega)
    refine run_convert_bytes_arg w _ _ Try.underlying22 Try.underlying5 b o _ c _ (by simpa using hn) (fun i hi => ?_) _ Try.underlying9
    obtain ⟨b', o', hb, hc⟩ := SlAt.get h (k := i) (by simp; omega)
    injection hb with hb; injection hb with h1 h2 h3
    subst h1 h2
    rw [hc]
    have : i < xs.length := by omega
    simp [List.getD, u8v, this]

set_option maxHeartbeats 400000 in
theorem equal_bytes (A B : Option Addr) (n m ca cb : Nat) (xs ys : List UInt8) (w : World) (hn : xs.length = n) (hm : ys.length = m) (ha : ByAt w A xs) (hb : ByAt w B ys) :
    Calls Try.prog 11 #[.slice A n ca, .slice B m cb] w fun e w' => e = .returned (.bool (decide (xs = ys))) ∧ w' = w := by
  have k1 := conv_bytes A n ca xs w hn ha
  have k2 := conv_bytes B m cb ys w hm hb
  have K := Lib.hid (strB_inj xs ys)
  clear hn hm ha hb
  go_enter Try.func11, Try.ntmps11
  go_wp2_with fail
  go_ret
  exact ⟨ret_bool K.out, rfl⟩
end Go.Proofs.Ythpdcnjaodjjmaa

/- slices.Equal at []int. -/
namespace Go.Proofs.Ythpdcnjaodjjmaa
open Go Go.RowKit
set_option linter.unusedVariables false

set_option maxHeartbeats 400000 in
theorem equal_ints (A B : Option Addr) (n m ca cb : Nat) (xs ys : List Int) (w : World) (hn : xs.length = n) (hm : ys.length = m) (hx : n ≤ maxLen) (hy : m ≤ maxLen) (ha : InAt w A xs) (hb : InAt w B ys) :
    Calls Try.prog 15 #[.slice A n ca, .slice B m cb] w fun e w' => e = .returned (.bool (decide (xs = ys))) ∧ ∃ d, w' = w.drewN d := by
  unfold maxLen at hx hy
  by_cases hnm : n = m
  · subst hnm
    have hq : ((n : Int) != (n : Int)) = false := by simp
    have Hn := Lib.hid hn
    have Hm := Lib.hid hm
    have Ha := Lib.hid ha
    have Hb := Lib.hid hb
    clear hn hm ha hb
    go_enter Try.func15, Try.ntmps15
    go_wp2_with fail
    go_loopw [13] (fun i wr => ∃ k : Nat, k ≤ n ∧ i = .int .i64 k ∧ xs.take k = ys.take k ∧ ∃ d, wr = w.drewN d) (fun i _ => n - (intOf i).toNat)
    case atStart => exact ⟨0, Nat.zero_le _, rfl, rfl, 0, rfl⟩
    case round =>
      obtain ⟨k, hk, rfl, htk, d, rfl⟩ := hrel
      have Ht := Lib.hid htk
      clear htk
      by_cases hlt : k < n
      · have h1 : k < xs.length := by rw [Hn.out]; exact hlt
        have h2 : k < ys.length := by rw [Hm.out]; exact hlt
        obtain ⟨b1, o1, rfl, hc1⟩ := Ha.out.get h1
        obtain ⟨b2, o2, rfl, hc2⟩ := Hb.out.get h2
        have hI : (k : Int) < (n : Int) := by omega
        by_cases he : xs[k] = ys[k]
        · have Hs := Lib.hid (take_eq_succ xs ys k h1 h2 Ht.out he)
          have hne : (xs[k] != ys[k]) = false := by simp [he]
          have hne' : (xs[k] == ys[k]) = true := by simp [he]
          clear he
          generalize xs[k] = x at *
          generalize ys[k] = y at *
          go_wp2_with fail
          go_quiet (fail)
          go_wp2_with fail
          go_roundw
          case rel => exact ⟨k + 1, by omega, by go_num, Hs.out, _, rfl⟩
          case measure => simp [intOf]; omega
        · have hne : (xs[k] != ys[k]) = true := by simpa using he
          have hne' : (xs[k] == ys[k]) = false := by simpa using he
          have Hf : Hid (decide (xs = ys) = false) := Lib.hid (by simpa using ne_of_get xs ys k h1 h2 he)
          clear he
          generalize xs[k] = x at *
          generalize ys[k] = y at *
          go_wp2_with fail
          go_quiet (fail)
          go_wp2_with fail
          go_ret
          exact ⟨ret_bool Hf.out.symm, _, World.drewN_drewN _ _ _⟩
      · have Hf : Hid (decide (xs = ys) = true) := Lib.hid (by
          have e1 : xs.take k = xs := List.take_of_length_le (by rw [Hn.out]; omega)
          have e2 : ys.take k = ys := List.take_of_length_le (by rw [Hm.out]; omega)
          have := Ht.out; rw [e1, e2] at this; simpa using this)
        go_wp2_with fail
        go_ret
        exact ⟨ret_bool Hf.out.symm, _, rfl⟩
  · have hq : ((n : Int) != (m : Int)) = true := by simp; omega
    have Hf : Hid (decide (xs = ys) = false) := Lib.hid (by simp; intro h; subst h; omega)
    go_enter Try.func15, Try.ntmps15
    go_wp2_with fail
    go_ret
    exact ⟨ret_bool Hf.out.symm, 0, rfl⟩
end Go.Proofs.Ythpdcnjaodjjmaa

/- reliquarylaw.inflated: a closed fact. -/
namespace Go.Proofs.Ythpdcnjaodjjmaa.Inf
open Go Go.RowKit Go.Proofs.Ythpdcnjaodjjmaa Go.Proofs.Ythpdcnjaodjjmaa.Bits Go.Proofs.Ythpdcnjaodjjmaa.Code
set_option linter.unusedVariables false
set_option linter.unusedSimpArgs false

theorem fact_inf : unpackR [0, 1, 0, 254, 255, 120, 3, 0, 9] = .ok ([120], 8, [0, 1]) := by kernel_rfl
theorem below1 {w1 w2 : World} {o : Obj} (h2 : Below (w1.alloc o).heap.size (w1.alloc o) w2) : Below w1.heap.size w1 w2 :=
  ((Below.refl w1.heap.size w1).alloc (Nat.le_refl _) o).trans (h2.mono (by simp))
theorem slat_iv {w : World} {A : Option Addr} {l : List Nat} (h : SlAt w A (l.map natV)) : InAt w A (l.map Int.ofNat) := by
  unfold InAt; rw [List.map_map]; exact h
set_option maxRecDepth 100000 in
set_option maxHeartbeats 800000 in
theorem inflated_any (w : World) : Calls Try.prog 13 #[] w fun e w' => e = .returned (.bool true) ∧ Below w.heap.size w w' := by
  go_enter Try.func13, Try.ntmps13
  go_wp2_with fail
  refine (unpack_any _ 9 9 [0, 1, 0, 254, 255, 120, 3, 0, 9] _ rfl (by decide) (SlAt.of_heap (heap_alloc_new _ _) rfl)).mono ?_
  rintro e w1 ⟨hu, hb1⟩
  unfold UPost at hu
  rw [fact_inf] at hu
  obtain ⟨_, Ao, co, Ak, ck, rfl, ho, hk⟩ := hu
  dsimp only [List.length_cons, List.length_nil] at ho hk ⊢
  obtain ⟨_, _, e1, _, _, so, _⟩ := own_slat ho
  injection e1 with e1 _ e2
  subst e1 e2
  obtain ⟨_, _, e1, _, _, sk, hkn⟩ := own_slat hk
  injection e1 with e1 _ e2
  subst e1 e2
  have hcv : (convert 22 9 (.slice Ao 1 co)).run Try.prog w1 = .ok (.string ⟨#[120]⟩) w1 := conv_bytes Ao 1 co [120] w1 rfl so
  have HB := Lib.hid (below1 hb1)
  have SK := Lib.hid sk
  clear ho hk so sk hb1 hkn
  go_wp2_with fail
  refine (equal_ints _ _ 2 2 _ _ [0, 1] [0, 1] _ rfl rfl (by unfold maxLen; omega) (by unfold maxLen; omega) (SlAt.alloc (slat_iv SK.out) _) (SlAt.of_heap (heap_alloc_new _ _) rfl)).mono ?_
  rintro e w2 ⟨rfl, d, rfl⟩
  rw [show decide (([0, 1] : List Int) = [0, 1]) = true from by simp]
  go_wp2_with fail
  go_ret
  exact ⟨rfl, below_drewN' (HB.out.alloc HB.out.size _) _⟩
/-! ### what is wrong is never 0 -/
def Nz {α : Type} (r : Rd α) : Prop := ∀ z, r = .bad z → z ≠ 0
theorem nz_ok {α : Type} {a : α} : Nz (.ok a) := fun z h => by cases h
theorem nz_bad {α : Type} {z : Int} (h : z ≠ 0) : Nz (.bad z : Rd α) := fun y e => by injection e with e; subst e; exact h
theorem nz_then {α β : Type} {r : Rd α} {f : α → Rd β} (h : Nz r) (hf : ∀ a, Nz (f a)) : Nz (r.then_ f) := by
  cases r with
  | bad e => exact fun z hz => h z (by injection hz with hz; rw [hz])
  | ok a => exact hf a
theorem nz_ite {α : Type} {c : Prop} [Decidable c] {r s : Rd α} (h : Nz r) (k : Nz s) : Nz (if c then r else s) := by split <;> assumption
theorem nz_get (row : List Bool) (p n : Nat) : Nz (getR row p n) := nz_ite nz_ok (nz_bad (by decide))
theorem nz_sym (row : List Bool) (ls : List Nat) (p : Nat) : Nz (symR row ls p) := by
  unfold symR
  split
  · exact nz_ok
  · rename_i h; exact nz_bad h
theorem nz_push (out : List UInt8) (x : UInt8) : Nz (pushR out x) := nz_ite (nz_bad (by decide)) nz_ok
theorem nz_raw (row : List Bool) : ∀ (n p : Nat) (out : List UInt8), Nz (rawR row n p out)
  | 0, _, _ => nz_ok
  | n + 1, p, out => nz_then (nz_get _ _ _) fun x => nz_then (nz_push _ _) fun o => nz_raw row n _ _
theorem nz_table (zs : List Int) : Nz (tableR zs) := nz_ite nz_ok (nz_bad (by decide))
theorem nz_again (n : Nat) (l : List Nat) (v k : Nat) : Nz (againR n l v k) := nz_ite (nz_bad (by decide)) nz_ok
theorem nz_lenStep (row : List Bool) (ls : List Nat) (n p : Nat) (l : List Nat) : Nz (lenStep row ls n p l) := by
  have key : ∀ (q nb v add : Nat), Nz ((getR row q nb).then_ fun x => (againR n l v (add + x.1)).then_ fun m => Rd.ok (x.2, m)) := fun q nb v add => nz_then (nz_get _ _ _) fun x => nz_then (nz_again _ _ _ _) fun m => nz_ok
  exact nz_then (nz_sym _ _ _) fun k => nz_ite (nz_ite (nz_bad (by decide)) (key _ _ _ _)) (nz_ite (key _ _ _ _) (nz_ite (key _ _ _ _) (nz_then (nz_again _ _ _ _) fun m => nz_ok)))
theorem nz_len (row : List Bool) (ls : List Nat) (n : Nat) : ∀ (f p : Nat) (l : List Nat), Nz (lenR row ls n f p l)
  | 0, _, _ => nz_ok
  | f + 1, p, l => nz_ite nz_ok (nz_then (nz_lenStep _ _ _ _ _) fun x => nz_len row ls n f _ _)
theorem nz_sizes (row : List Bool) : ∀ (ks : List Nat) (p : Nat) (s : List Nat), Nz (sizesR row ks p s)
  | [], _, _ => nz_ok
  | k :: ks, p, s => nz_then (nz_get _ _ _) fun x => nz_sizes row ks _ _
theorem nz_head (row : List Bool) (p : Nat) : Nz (headR row p) :=
  nz_then (nz_get _ _ _) fun a => nz_then (nz_get _ _ _) fun b => nz_then (nz_get _ _ _) fun c => nz_ite (nz_bad (by decide)) (nz_then (nz_sizes _ _ _ _) fun s => nz_then (nz_table _) fun t =>
    nz_then (nz_len _ _ _ _ _ _) fun l => nz_ite (nz_bad (by decide)) (nz_then (nz_table _) fun x => nz_then (nz_table _) fun y => nz_ok))
theorem nz_copy (d : Nat) : ∀ (n : Nat) (out : List UInt8), Nz (copyR d n out)
  | 0, _ => nz_ok
  | n + 1, out => nz_then (nz_push _ _) fun o => nz_copy d n o
theorem nz_bodyStep (row : List Bool) (lit far : List Nat) (p : Nat) (out : List UInt8) : Nz (bodyStep row lit far p out) :=
  nz_then (nz_sym _ _ _) fun k => nz_ite (nz_then (nz_push _ _) fun o => nz_ok) (nz_ite nz_ok (nz_ite (nz_bad (by decide)) (nz_then (nz_get _ _ _) fun x => nz_then (nz_sym _ _ _) fun f =>
    nz_ite (nz_bad (by decide)) (nz_then (nz_get _ _ _) fun y => nz_ite (nz_bad (by decide)) (nz_then (nz_copy _ _ _) fun o => nz_ok)))))
theorem nz_body (row : List Bool) (lit far : List Nat) : ∀ (f p : Nat) (out : List UInt8), Nz (bodyR row lit far f p out)
  | 0, _, _ => nz_bad (by decide)
  | f + 1, p, out => nz_then (nz_bodyStep _ _ _ _ _) fun x => nz_ite nz_ok (nz_body row lit far f _ _)
theorem nz_stored (row : List Bool) (p : Nat) (out : List UInt8) : Nz (storedR row p out) :=
  nz_then (nz_get _ _ _) fun x => nz_then (nz_get _ _ _) fun y => nz_ite (nz_bad (by decide)) (nz_raw _ _ _ _)
theorem nz_block (row : List Bool) (p : Nat) (out : List UInt8) : Nz (blockR row p out) :=
  nz_then (nz_get _ _ _) fun l => nz_then (nz_get _ _ _) fun k => nz_ite (nz_then (nz_stored _ _ _) fun x => nz_ok) (nz_ite (nz_then (nz_body _ _ _ _ _ _) fun x => nz_ok)
    (nz_ite (nz_then (nz_head _ _) fun h => nz_then (nz_body _ _ _ _ _ _) fun x => nz_ok) (nz_bad (by decide))))
theorem nz_blocks (row : List Bool) : ∀ (f p : Nat) (out : List UInt8) (ks : List Nat), Nz (blocksR row f p out ks)
  | 0, _, _, _ => nz_bad (by decide)
  | f + 1, p, out, ks => nz_then (nz_block _ _ _) fun x => nz_ite nz_ok (nz_blocks row f _ _ _)
theorem nz_unpack (b : List UInt8) : Nz (unpackR b) := nz_ite (nz_bad (by decide)) (nz_then (nz_blocks _ _ _ _ _) fun x => nz_ok)
end Go.Proofs.Ythpdcnjaodjjmaa.Inf

/- reliquaryref.Unpacked: what the unpacker of a row does, and that it is what blocks of bits say; the plain law. No program in sight. -/
namespace Go.Proofs.Ythpdcnjaodjjmaa.Unp
open Go.Proofs.Ythpdcnjaodjjmaa.Bits Go.Proofs.Ythpdcnjaodjjmaa.Code
open Go.Proofs.Ythpdcnjaodjjmaa.Inf hiding then_ok
set_option linter.unusedVariables false

/-- the unpacker: where it is, what is unpacked, the kinds, what is wrong -/
structure St where
  pos : Nat
  out : List UInt8
  ks : List Nat
  e : Int
def uget (row : List Bool) (s : St) (n : Nat) : Nat × St := if s.e = 0 then (match getR row s.pos n with | .ok a => (a.1, ⟨a.2, s.out, s.ks, 0⟩) | .bad z => (0, ⟨s.pos, s.out, s.ks, z⟩)) else (0, s)
def uplace (row : List Bool) (ls : List Nat) (s : St) : Nat × St := if s.e = 0 then (match symR row ls s.pos with | .ok a => (a.1, ⟨a.2, s.out, s.ks, 0⟩) | .bad z => (0, ⟨s.pos, s.out, s.ks, z⟩)) else (0, s)
def usay (s : St) (b : UInt8) : St := if s.e = 0 then (match pushR s.out b with | .ok o => ⟨s.pos, o, s.ks, 0⟩ | .bad z => ⟨s.pos, s.out, s.ks, z⟩) else s
def uwrong (s : St) (z : Int) : St := if s.e = 0 then ⟨s.pos, s.out, s.ks, z⟩ else s
def ukind (s : St) (k : Nat) : St := ⟨s.pos, s.out, s.ks ++ [k], s.e⟩
def ufill (s : St) : St := ⟨fillP s.pos, s.out, s.ks, s.e⟩
def uraw (row : List Bool) : Nat → St → St
  | 0, s => s
  | n + 1, s => if s.e = 0 then uraw row n (usay (uget row s 8).2 (UInt8.ofNat (uget row s 8).1)) else s
/-- wrong, if so -/
def uif (c : Prop) [Decidable c] (s : St) (z : Int) : St := if s.e = 0 ∧ c then uwrong s z else s
def ustored (row : List Bool) (s : St) : St :=
  uraw row (uget row (ufill s) 16).1 (uif ((uget row (ufill s) 16).1 + (uget row (uget row (ufill s) 16).2 16).1 ≠ 65535) (uget row (uget row (ufill s) 16).2 16).2 4)
def ucopy (d : Nat) : Nat → St → St
  | 0, s => s
  | n + 1, s => if s.e = 0 then ucopy d n (usay s (s.out.getD (s.out.length - d) 0)) else s
def ubody (row : List Bool) (lit far : List Nat) : Nat → St → St
  | 0, s => uwrong s 7
  | f + 1, s => if s.e = 0 then
      if (uplace row lit s).2.e ≠ 0 ∨ (uplace row lit s).1 = 256 then (uplace row lit s).2
      else if (uplace row lit s).1 < 256 then ubody row lit far f (usay (uplace row lit s).2 (UInt8.ofNat (uplace row lit s).1))
      else if 285 < (uplace row lit s).1 then uwrong (uplace row lit s).2 8
      else
        let q := uget row (uplace row lit s).2 (sameL.getD ((uplace row lit s).1 - 257) (0, 0)).2
        let g := uplace row far q.2
        let s4 := uif (29 < g.1) g.2 8
        if s4.e ≠ 0 then s4
        else
          let y := uget row s4 (farL.getD g.1 (0, 0)).2
          ubody row lit far f (ucopy ((farL.getD g.1 (0, 0)).1 + y.1) ((sameL.getD ((uplace row lit s).1 - 257) (0, 0)).1 + q.1) (uif (y.2.out.length < (farL.getD g.1 (0, 0)).1 + y.1) y.2 9))
    else s
def usizes (row : List Bool) : List Nat → List Nat → St → List Nat × St
  | [], sm, s => (sm, s)
  | k :: ks, sm, s => usizes row ks (sm.set k (uget row s 3).1) (uget row s 3).2
/-- what a symbol says, behind so many lengths: which length, how many times -/
def utimes (row : List Bool) (l : List Nat) (k : Nat) (s : St) : Nat × Nat × St :=
  if k = 16 ∧ l = [] then (k, 1, uwrong s 8)
  else if k = 16 then (l.getLastD 0, 3 + (uget row s 2).1, (uget row s 2).2)
  else if k = 17 then (0, 3 + (uget row s 3).1, (uget row s 3).2)
  else if k = 18 then (0, 11 + (uget row s 7).1, (uget row s 7).2)
  else (k, 1, s)
def ulens (row : List Bool) (ls : List Nat) (n : Nat) : Nat → List Nat → St → List Nat × St
  | 0, l, s => (l, s)
  | f + 1, l, s => if l.length < n ∧ s.e = 0 then
      let r := utimes row l (uplace row ls s).1 (uplace row ls s).2
      ulens row ls n f (l ++ List.replicate r.2.1 r.1) (uif (n < l.length + r.2.1) r.2.2 8)
    else (l, s)
def utold (row : List Bool) (s : St) : (List Nat × List Nat) × St :=
  let a := uget row s 5
  let b := uget row a.2 5
  let c := uget row b.2 4
  let s4 := if 286 < a.1 + 257 ∨ 30 < b.1 + 1 then uwrong c.2 8 else c.2
  let z := usizes row (orderL.take (c.1 + 4)) (List.replicate 19 0) s4
  let s6 := uif (chkL (zsOf z.1) ≠ 0) z.2 8
  if s6.e ≠ 0 then (([], []), s6)
  else
    let l := ulens row z.1 (a.1 + 257 + (b.1 + 1)) (a.1 + 257 + (b.1 + 1)) [] s6
    if l.2.e ≠ 0 then (([], []), l.2)
    else if l.1.getD 256 0 = 0 ∨ chkL (zsOf (l.1.take (a.1 + 257))) ≠ 0 ∨ chkL (zsOf (l.1.drop (a.1 + 257))) ≠ 0 then (([], []), uwrong l.2 8)
    else ((l.1.take (a.1 + 257), l.1.drop (a.1 + 257)), l.2)
def ublock (row : List Bool) (s : St) : Bool × St :=
  let l := uget row s 1
  let k := uget row l.2 2
  if k.2.e ≠ 0 then (true, k.2)
  else if k.1 = 0 then (l.1 == 1, ukind (ustored row k.2) k.1)
  else
    let t := if k.1 = 1 then ((fixedA, fixedB), k.2) else if k.1 = 2 then utold row k.2 else (([], []), uwrong k.2 4)
    if t.2.e ≠ 0 then (true, t.2)
    else (l.1 == 1, ukind (ubody row t.1.1 t.1.2 (row.length + 1) t.2) k.1)
def ublocks (row : List Bool) : Nat → St → St
  | 0, s => uwrong s 7
  | f + 1, s => if (ublock row s).1 = false ∧ (ublock row s).2.e = 0 then ublocks row f (ublock row s).2 else (ublock row s).2

/-! an unpacker that something is wrong with stays as it is -/
section
variable {row : List Bool} {s : St}
theorem get_stuck {n : Nat} (h : s.e ≠ 0) : uget row s n = (0, s) := by unfold uget; rw [if_neg h]
theorem place_stuck {ls : List Nat} (h : s.e ≠ 0) : uplace row ls s = (0, s) := by unfold uplace; rw [if_neg h]
theorem say_stuck {b : UInt8} (h : s.e ≠ 0) : usay s b = s := by unfold usay; rw [if_neg h]
theorem wrong_stuck {z : Int} (h : s.e ≠ 0) : uwrong s z = s := by unfold uwrong; rw [if_neg h]
theorem if_stuck {c : Prop} [Decidable c] {z : Int} (h : s.e ≠ 0) : uif c s z = s := by unfold uif; rw [if_neg (fun hh => h hh.1)]
theorem raw_stuck {n : Nat} (h : s.e ≠ 0) : uraw row n s = s := by
  cases n with
  | zero => rfl
  | succ n => unfold uraw; rw [if_neg h]
theorem copy_stuck {d n : Nat} (h : s.e ≠ 0) : ucopy d n s = s := by
  cases n with
  | zero => rfl
  | succ n => unfold ucopy; rw [if_neg h]
theorem body_stuck {lit far : List Nat} {f : Nat} (h : s.e ≠ 0) : ubody row lit far f s = s := by
  cases f with
  | zero => exact wrong_stuck h
  | succ n => unfold ubody; rw [if_neg h]
theorem get_ok {n : Nat} {a : Nat × Nat} (h : s.e = 0) (hg : getR row s.pos n = .ok a) : uget row s n = (a.1, ⟨a.2, s.out, s.ks, 0⟩) := by unfold uget; rw [if_pos h, hg]
theorem get_bad {n : Nat} {z : Int} (h : s.e = 0) (hg : getR row s.pos n = .bad z) : uget row s n = (0, ⟨s.pos, s.out, s.ks, z⟩) := by unfold uget; rw [if_pos h, hg]
theorem place_ok {ls : List Nat} {a : Nat × Nat} (h : s.e = 0) (hg : symR row ls s.pos = .ok a) : uplace row ls s = (a.1, ⟨a.2, s.out, s.ks, 0⟩) := by unfold uplace; rw [if_pos h, hg]
theorem place_bad {ls : List Nat} {z : Int} (h : s.e = 0) (hg : symR row ls s.pos = .bad z) : uplace row ls s = (0, ⟨s.pos, s.out, s.ks, z⟩) := by unfold uplace; rw [if_pos h, hg]
theorem say_ok {b : UInt8} {o : List UInt8} (h : s.e = 0) (hg : pushR s.out b = .ok o) : usay s b = ⟨s.pos, o, s.ks, 0⟩ := by unfold usay; rw [if_pos h, hg]
theorem say_bad {b : UInt8} {z : Int} (h : s.e = 0) (hg : pushR s.out b = .bad z) : usay s b = ⟨s.pos, s.out, s.ks, z⟩ := by unfold usay; rw [if_pos h, hg]
theorem if_yes {c : Prop} [Decidable c] {z : Int} (h : s.e = 0) (hc : c) : uif c s z = ⟨s.pos, s.out, s.ks, z⟩ := by unfold uif uwrong; rw [if_pos ⟨h, hc⟩, if_pos h]
theorem if_no {c : Prop} [Decidable c] {z : Int} (hc : ¬ c) : uif c s z = s := by unfold uif; rw [if_neg (fun hh => hc hh.2)]
end
theorem wrong_yes {s : St} {z : Int} (h : s.e = 0) : uwrong s z = ⟨s.pos, s.out, s.ks, z⟩ := by unfold uwrong; rw [if_pos h]
theorem thn {α β : Type} (a : α) (f : α → Inf.Rd β) : (Inf.Rd.ok a).then_ f = f a := rfl
theorem thb {α β : Type} (z : Int) (f : α → Inf.Rd β) : (Inf.Rd.bad z : Inf.Rd α).then_ f = .bad z := rfl
/-- the unpacker is where reading is, or as wrong -/
def Sim {α : Type} (r : Inf.Rd α) (t : St) (f : α → St) : Prop := match r with
  | .ok a => t = f a
  | .bad z => t.e = z
theorem sim_raw (row : List Bool) : ∀ (n : Nat) (s : St), s.e = 0 → Sim (rawR row n s.pos s.out) (uraw row n s) (fun a => ⟨a.1, a.2, s.ks, 0⟩)
  | 0, s, h => by obtain ⟨p, o, k, e⟩ := s; dsimp only at h; subst h; rfl
  | n + 1, s, h => by
    unfold uraw rawR
    rw [if_pos h]
    cases hg : getR row s.pos 8 with
    | bad z =>
      have hz := nz_get row s.pos 8 z hg
      rw [get_bad h hg, thb]
      dsimp only
      rw [say_stuck (s := ⟨s.pos, s.out, s.ks, z⟩) hz, raw_stuck (s := ⟨s.pos, s.out, s.ks, z⟩) hz]
      exact rfl
    | ok a =>
      rw [get_ok h hg, thn]
      dsimp only
      cases hp : pushR s.out (UInt8.ofNat a.1) with
      | bad z =>
        have hz := nz_push _ _ z hp
        rw [say_bad (s := ⟨a.2, s.out, s.ks, 0⟩) rfl hp, thb, raw_stuck (s := ⟨a.2, s.out, s.ks, z⟩) hz]
        exact rfl
      | ok o =>
        rw [say_ok (s := ⟨a.2, s.out, s.ks, 0⟩) rfl hp, thn]
        exact sim_raw row n ⟨a.2, o, s.ks, 0⟩ rfl
theorem sim_stored (row : List Bool) (s : St) (h : s.e = 0) : Sim (storedR row s.pos s.out) (ustored row s) (fun a => ⟨a.1, a.2, s.ks, 0⟩) := by
  have hf : (ufill s).e = 0 := h
  unfold storedR ustored
  cases hg : getR row (fillP s.pos) 16 with
  | bad z =>
    have hz := nz_get _ _ _ z hg
    rw [get_bad (s := ufill s) hf hg, thb]
    dsimp only
    rw [get_stuck (s := ⟨(ufill s).pos, (ufill s).out, (ufill s).ks, z⟩) hz]
    dsimp only
    rw [if_stuck (s := ⟨(ufill s).pos, (ufill s).out, (ufill s).ks, z⟩) hz, raw_stuck (s := ⟨(ufill s).pos, (ufill s).out, (ufill s).ks, z⟩) hz]
    exact rfl
  | ok a =>
    rw [get_ok (s := ufill s) hf hg, thn]
    dsimp only
    cases hg2 : getR row a.2 16 with
    | bad z =>
      have hz := nz_get _ _ _ z hg2
      rw [get_bad (s := ⟨a.2, (ufill s).out, (ufill s).ks, 0⟩) rfl hg2, thb]
      dsimp only
      rw [if_stuck (s := ⟨a.2, (ufill s).out, (ufill s).ks, z⟩) hz, raw_stuck (s := ⟨a.2, (ufill s).out, (ufill s).ks, z⟩) hz]
      exact rfl
    | ok b =>
      rw [get_ok (s := ⟨a.2, (ufill s).out, (ufill s).ks, 0⟩) rfl hg2, thn]
      dsimp only
      by_cases hc : a.1 + b.1 ≠ 65535
      · rw [if_pos hc, if_yes (s := ⟨b.2, (ufill s).out, (ufill s).ks, 0⟩) rfl hc, raw_stuck (s := ⟨b.2, (ufill s).out, (ufill s).ks, 4⟩) (by dsimp only; decide)]
        exact rfl
      · rw [if_neg hc, if_no hc]
        exact sim_raw row a.1 ⟨b.2, s.out, s.ks, 0⟩ rfl
theorem sim_copy (d : Nat) : ∀ (n : Nat) (s : St), s.e = 0 → Sim (copyR d n s.out) (ucopy d n s) (fun o => ⟨s.pos, o, s.ks, 0⟩)
  | 0, s, h => by obtain ⟨p, o, k, e⟩ := s; dsimp only at h; subst h; rfl
  | n + 1, s, h => by
    unfold ucopy copyR
    rw [if_pos h]
    cases hp : pushR s.out (s.out.getD (s.out.length - d) 0) with
    | bad z =>
      have hz := nz_push _ _ z hp
      rw [say_bad h hp, thb, copy_stuck (s := ⟨s.pos, s.out, s.ks, z⟩) hz]
      exact rfl
    | ok o =>
      rw [say_ok h hp, thn]
      exact sim_copy d n ⟨s.pos, o, s.ks, 0⟩ rfl
set_option maxRecDepth 100000 in
theorem sim_body (row : List Bool) (lit far : List Nat) : ∀ (f : Nat) (s : St), s.e = 0 → Sim (bodyR row lit far f s.pos s.out) (ubody row lit far f s) (fun a => ⟨a.1, a.2, s.ks, 0⟩)
  | 0, s, h => by unfold ubody uwrong; rw [if_pos h]; exact rfl
  | f + 1, s, h => by
    unfold ubody bodyR bodyStep
    rw [if_pos h]
    cases hg : symR row lit s.pos with
    | bad z =>
      have hz := nz_sym _ _ _ z hg
      rw [place_bad h hg, thb, thb]
      dsimp only
      rw [if_pos (.inl hz)]
      exact rfl
    | ok a =>
      rw [place_ok h hg, thn]
      dsimp only
      by_cases h256 : a.1 = 256
      · rw [if_neg (show ¬ a.1 < 256 by omega), if_pos h256, thn, if_pos (show (true, a.2, s.out).1 = true from rfl), if_pos (show ((0 : Int) ≠ 0 ∨ a.1 = 256) from .inr h256)]
        exact rfl
      · rw [if_neg (show ¬ ((0 : Int) ≠ 0 ∨ a.1 = 256) by simp [h256])]
        by_cases hlt : a.1 < 256
        · rw [if_pos hlt, if_pos hlt]
          cases hp : pushR s.out (UInt8.ofNat a.1) with
          | bad z =>
            have hz := nz_push _ _ z hp
            rw [say_bad (s := ⟨a.2, s.out, s.ks, 0⟩) rfl hp, thb, thb, body_stuck (s := ⟨a.2, s.out, s.ks, z⟩) hz]
            exact rfl
          | ok o =>
            rw [say_ok (s := ⟨a.2, s.out, s.ks, 0⟩) rfl hp, thn, thn, if_neg (by simp)]
            exact sim_body row lit far f ⟨a.2, o, s.ks, 0⟩ rfl
        · rw [if_neg hlt, if_neg hlt, if_neg h256]
          by_cases h285 : 285 < a.1
          · rw [if_pos h285, if_pos (show 29 ≤ a.1 - 257 by omega), thb, wrong_yes (s := ⟨a.2, s.out, s.ks, 0⟩) rfl]
            exact rfl
          · rw [if_neg h285, if_neg (show ¬ 29 ≤ a.1 - 257 by omega)]
            cases hx : getR row a.2 (sameL.getD (a.1 - 257) (0, 0)).2 with
            | bad z =>
              have hz := nz_get _ _ _ z hx
              rw [get_bad (s := ⟨a.2, s.out, s.ks, 0⟩) rfl hx, thb, thb]
              dsimp only
              rw [place_stuck (s := ⟨a.2, s.out, s.ks, z⟩) hz]
              dsimp only
              rw [if_stuck (s := ⟨a.2, s.out, s.ks, z⟩) hz, if_pos hz]
              exact rfl
            | ok x =>
              rw [get_ok (s := ⟨a.2, s.out, s.ks, 0⟩) rfl hx, thn]
              dsimp only
              cases hq : symR row far x.2 with
              | bad z =>
                have hz := nz_sym _ _ _ z hq
                rw [place_bad (s := ⟨x.2, s.out, s.ks, 0⟩) rfl hq, thb, thb]
                dsimp only
                rw [if_stuck (s := ⟨x.2, s.out, s.ks, z⟩) hz, if_pos hz]
                exact rfl
              | ok g =>
                rw [place_ok (s := ⟨x.2, s.out, s.ks, 0⟩) rfl hq, thn]
                dsimp only
                by_cases h29 : 29 < g.1
                · rw [if_yes (s := ⟨g.2, s.out, s.ks, 0⟩) rfl h29, if_pos (show (8 : Int) ≠ 0 by decide), if_pos (show 30 ≤ g.1 by omega), thb]
                  exact rfl
                · rw [if_no h29, if_neg (show ¬ ((0 : Int) ≠ 0) by simp), if_neg (show ¬ 30 ≤ g.1 by omega)]
                  cases hy : getR row g.2 (farL.getD g.1 (0, 0)).2 with
                  | bad z =>
                    have hz := nz_get _ _ _ z hy
                    rw [get_bad (s := ⟨g.2, s.out, s.ks, 0⟩) rfl hy, thb, thb]
                    dsimp only
                    rw [if_stuck (s := ⟨g.2, s.out, s.ks, z⟩) hz, copy_stuck (s := ⟨g.2, s.out, s.ks, z⟩) hz, body_stuck (s := ⟨g.2, s.out, s.ks, z⟩) hz]
                    exact rfl
                  | ok y =>
                    rw [get_ok (s := ⟨g.2, s.out, s.ks, 0⟩) rfl hy, thn]
                    dsimp only
                    by_cases hd : s.out.length < (farL.getD g.1 (0, 0)).1 + y.1
                    · rw [if_yes (s := ⟨y.2, s.out, s.ks, 0⟩) rfl hd, if_pos hd, thb, copy_stuck (s := ⟨y.2, s.out, s.ks, 9⟩) (by dsimp only; decide), body_stuck (s := ⟨y.2, s.out, s.ks, 9⟩) (by dsimp only; decide)]
                      exact rfl
                    · rw [if_no hd, if_neg hd]
                      have hcp := sim_copy ((farL.getD g.1 (0, 0)).1 + y.1) ((sameL.getD (a.1 - 257) (0, 0)).1 + x.1) ⟨y.2, s.out, s.ks, 0⟩ rfl
                      dsimp only at hcp
                      cases hc : copyR ((farL.getD g.1 (0, 0)).1 + y.1) ((sameL.getD (a.1 - 257) (0, 0)).1 + x.1) s.out with
                      | bad z =>
                        have hz := nz_copy _ _ _ z hc
                        rw [hc] at hcp
                        have hcp : (ucopy _ _ _).e = z := hcp
                        rw [thb, thb, body_stuck (by rw [hcp]; exact hz)]
                        exact hcp
                      | ok o =>
                        rw [hc] at hcp
                        have hcp : ucopy _ _ _ = _ := hcp
                        rw [thn, thn, if_neg (by simp), hcp]
                        exact sim_body row lit far f ⟨y.2, o, s.ks, 0⟩ rfl
theorem sizes_stuck (row : List Bool) : ∀ (ks sm : List Nat) (s : St), s.e ≠ 0 → (usizes row ks sm s).2 = s
  | [], sm, s, h => rfl
  | k :: ks, sm, s, h => by unfold usizes; rw [get_stuck h]; exact sizes_stuck row ks _ s h
theorem sim_sizes (row : List Bool) : ∀ (ks sm : List Nat) (s : St), s.e = 0 → match sizesR row ks s.pos sm with
    | .ok a => usizes row ks sm s = (a.2, ⟨a.1, s.out, s.ks, 0⟩)
    | .bad z => (usizes row ks sm s).2.e = z
  | [], sm, s, h => by obtain ⟨p, o, k, e⟩ := s; dsimp only at h; subst h; rfl
  | k :: ks, sm, s, h => by
    unfold usizes sizesR
    cases hg : getR row s.pos 3 with
    | bad z =>
      have hz := nz_get _ _ _ z hg
      rw [get_bad h hg, thb]
      dsimp only
      rw [sizes_stuck row ks _ ⟨s.pos, s.out, s.ks, z⟩ hz]
    | ok a =>
      rw [get_ok h hg, thn]
      exact sim_sizes row ks (sm.set k a.1) ⟨a.2, s.out, s.ks, 0⟩ rfl
theorem lens_stuck {row : List Bool} {ls l : List Nat} {n f : Nat} {s : St} (h : s.e ≠ 0) : ulens row ls n f l s = (l, s) := by
  cases f with
  | zero => rfl
  | succ f => unfold ulens; rw [if_neg (fun hh => h hh.2)]
theorem wrong_yes' {s : St} {z : Int} (h : s.e = 0) : (uwrong s z).e = z := by rw [wrong_yes h]
/-- behind a symbol: a number, and the same length so many times -/
theorem lens_get {row : List Bool} {ls l : List Nat} {n f v add bt p : Nat} {s : St} (ih : ∀ (l : List Nat) (s : St), s.e = 0 → match lenR row ls n f s.pos l with
    | .ok a => ulens row ls n f l s = (a.2, ⟨a.1, s.out, s.ks, 0⟩)
    | .bad z => (ulens row ls n f l s).2.e = z) (o : List UInt8) (kk : List Nat) :
    match ((getR row p bt).then_ fun x => (againR n l v (add + x.1)).then_ fun m => Inf.Rd.ok (x.2, m)).then_ fun x => lenR row ls n f x.1 x.2 with
    | .ok a => ulens row ls n f (l ++ List.replicate (add + (uget row ⟨p, o, kk, 0⟩ bt).1) v) (uif (n < l.length + (add + (uget row ⟨p, o, kk, 0⟩ bt).1)) (uget row ⟨p, o, kk, 0⟩ bt).2 8) = (a.2, ⟨a.1, o, kk, 0⟩)
    | .bad z => (ulens row ls n f (l ++ List.replicate (add + (uget row ⟨p, o, kk, 0⟩ bt).1) v) (uif (n < l.length + (add + (uget row ⟨p, o, kk, 0⟩ bt).1)) (uget row ⟨p, o, kk, 0⟩ bt).2 8)).2.e = z := by
  cases hg : getR row p bt with
  | bad z =>
    have hz := nz_get _ _ _ z hg
    rw [get_bad (s := ⟨p, o, kk, 0⟩) rfl hg, thb, thb]
    dsimp only
    rw [if_stuck (s := ⟨p, o, kk, z⟩) hz, lens_stuck (s := ⟨p, o, kk, z⟩) hz]
  | ok a =>
    rw [get_ok (s := ⟨p, o, kk, 0⟩) rfl hg, thn]
    dsimp only
    unfold againR
    by_cases hn : n < l.length + (add + a.1)
    · rw [if_pos hn, if_yes (s := ⟨a.2, o, kk, 0⟩) rfl hn, thb, thb, lens_stuck (s := ⟨a.2, o, kk, 8⟩) (show (8 : Int) ≠ 0 by decide)]
    · rw [if_neg hn, if_no hn, thn, thn]
      exact ih _ ⟨a.2, o, kk, 0⟩ rfl
theorem sim_lens (row : List Bool) (ls : List Nat) (n : Nat) : ∀ (f : Nat) (l : List Nat) (s : St), s.e = 0 → match lenR row ls n f s.pos l with
    | .ok a => ulens row ls n f l s = (a.2, ⟨a.1, s.out, s.ks, 0⟩)
    | .bad z => (ulens row ls n f l s).2.e = z
  | 0, l, s, h => by obtain ⟨p, o, k, e⟩ := s; dsimp only at h; subst h; rfl
  | f + 1, l, s, h => by
    have ih := sim_lens row ls n f
    unfold ulens lenR
    by_cases hn : n ≤ l.length
    · rw [if_pos hn, if_neg (fun hh => by omega)]
      obtain ⟨p, o, k, e⟩ := s; dsimp only at h; subst h; rfl
    · rw [if_neg hn, if_pos ⟨by omega, h⟩]
      unfold lenStep
      cases hg : symR row ls s.pos with
      | bad z =>
        have hz := nz_sym _ _ _ z hg
        rw [place_bad h hg, thb, thb]
        dsimp only
        have hu : utimes row l 0 ⟨s.pos, s.out, s.ks, z⟩ = (0, 1, ⟨s.pos, s.out, s.ks, z⟩) := by
          unfold utimes
          rw [if_neg (fun hh => absurd hh.1 (by decide)), if_neg (by decide), if_neg (by decide), if_neg (by decide)]
        rw [hu]
        dsimp only
        rw [if_stuck (s := ⟨s.pos, s.out, s.ks, z⟩) hz, lens_stuck (s := ⟨s.pos, s.out, s.ks, z⟩) hz]
      | ok a =>
        rw [place_ok h hg, thn]
        dsimp only
        by_cases h16 : a.1 = 16
        · by_cases hl : l = []
          · have hu : utimes row l a.1 ⟨a.2, s.out, s.ks, 0⟩ = (a.1, 1, ⟨a.2, s.out, s.ks, 8⟩) := by
              unfold utimes; rw [if_pos ⟨h16, hl⟩]; rfl
            rw [if_pos h16, if_pos hl, hu, thb]
            dsimp only
            rw [if_stuck (s := ⟨a.2, s.out, s.ks, 8⟩) (show (8 : Int) ≠ 0 by decide), lens_stuck (s := ⟨a.2, s.out, s.ks, 8⟩) (show (8 : Int) ≠ 0 by decide)]
          · have hu : utimes row l a.1 ⟨a.2, s.out, s.ks, 0⟩ = (l.getLastD 0, 3 + (uget row ⟨a.2, s.out, s.ks, 0⟩ 2).1, (uget row ⟨a.2, s.out, s.ks, 0⟩ 2).2) := by
              unfold utimes; rw [if_neg (fun hh => hl hh.2), if_pos h16]
            rw [if_pos h16, if_neg hl, hu]
            exact lens_get (s := s) ih s.out s.ks
        · by_cases h17 : a.1 = 17
          · have hu : utimes row l a.1 ⟨a.2, s.out, s.ks, 0⟩ = (0, 3 + (uget row ⟨a.2, s.out, s.ks, 0⟩ 3).1, (uget row ⟨a.2, s.out, s.ks, 0⟩ 3).2) := by
              unfold utimes; rw [if_neg (fun hh => h16 hh.1), if_neg h16, if_pos h17]
            rw [if_neg h16, if_pos h17, hu]
            exact lens_get (s := s) ih s.out s.ks
          · by_cases h18 : a.1 = 18
            · have hu : utimes row l a.1 ⟨a.2, s.out, s.ks, 0⟩ = (0, 11 + (uget row ⟨a.2, s.out, s.ks, 0⟩ 7).1, (uget row ⟨a.2, s.out, s.ks, 0⟩ 7).2) := by
                unfold utimes; rw [if_neg (fun hh => h16 hh.1), if_neg h16, if_neg h17, if_pos h18]
              rw [if_neg h16, if_neg h17, if_pos h18, hu]
              exact lens_get (s := s) ih s.out s.ks
            · have hu : utimes row l a.1 ⟨a.2, s.out, s.ks, 0⟩ = (a.1, 1, ⟨a.2, s.out, s.ks, 0⟩) := by
                unfold utimes; rw [if_neg (fun hh => h16 hh.1), if_neg h16, if_neg h17, if_neg h18]
              rw [if_neg h16, if_neg h17, if_neg h18, hu]
              dsimp only
              unfold againR
              by_cases hn2 : n < l.length + 1
              · rw [if_pos hn2, if_yes (s := ⟨a.2, s.out, s.ks, 0⟩) rfl hn2, thb, thb, lens_stuck (s := ⟨a.2, s.out, s.ks, 8⟩) (show (8 : Int) ≠ 0 by decide)]
              · rw [if_neg hn2, if_no hn2, thn, thn]
                exact ih _ ⟨a.2, s.out, s.ks, 0⟩ rfl
theorem table_cases (zs : List Int) : (chkL zs = 0 ∧ tableR zs = .ok (lsOf zs)) ∨ (chkL zs ≠ 0 ∧ tableR zs = .bad 8) := by
  unfold tableR
  by_cases h : chkL zs = 0
  · exact .inl ⟨h, by rw [if_pos h]⟩
  · exact .inr ⟨h, by rw [if_neg h]⟩
theorem lsOf_zs (l : List Nat) : lsOf (zsOf l) = l := by
  unfold lsOf zsOf; rw [List.map_map]
  conv => rhs; rw [← List.map_id l]
  apply List.map_congr_left
  intro x _; rfl
set_option maxRecDepth 100000 in
theorem sim_told (row : List Bool) (s : St) (h : s.e = 0) : match headR row s.pos with
    | .ok a => utold row s = ((a.2.1, a.2.2), ⟨a.1, s.out, s.ks, 0⟩)
    | .bad z => (utold row s).2.e = z := by
  -- something is wrong ahead of the sizes
  have key : ∀ (a b c : Nat × St) (z : Int), z ≠ 0 → c.2.e = z → a = uget row s 5 → b = uget row a.2 5 → c = uget row b.2 4 → (utold row s).2.e = z := by
    intro a b c z hz he ha hb hc
    have hs4 : (if 286 < a.1 + 257 ∨ 30 < b.1 + 1 then uwrong c.2 8 else c.2) = c.2 := by
      split
      · exact wrong_stuck (by rw [he]; exact hz)
      · rfl
    unfold utold
    rw [← ha]
    dsimp only
    rw [← hb, ← hc]
    rw [hs4]
    have hst := sizes_stuck row (orderL.take (c.1 + 4)) (List.replicate 19 0) c.2 (by rw [he]; exact hz)
    rw [hst, if_stuck (s := c.2) (by rw [he]; exact hz), if_pos (by rw [he]; exact hz)]
    exact he
  unfold headR
  cases h1 : getR row s.pos 5 with
  | bad z =>
    have hz := nz_get _ _ _ z h1
    rw [thb]
    exact key _ _ _ z hz (by rw [get_bad h h1, get_stuck (s := ⟨s.pos, s.out, s.ks, z⟩) hz, get_stuck (s := ⟨s.pos, s.out, s.ks, z⟩) hz]) rfl rfl rfl
  | ok a =>
    rw [thn]
    cases h2 : getR row a.2 5 with
    | bad z =>
      have hz := nz_get _ _ _ z h2
      rw [thb]
      exact key _ _ _ z hz (by rw [get_ok h h1, get_bad (s := ⟨a.2, s.out, s.ks, 0⟩) rfl h2, get_stuck (s := ⟨a.2, s.out, s.ks, z⟩) hz]) rfl rfl rfl
    | ok b =>
      rw [thn]
      cases h3 : getR row b.2 4 with
      | bad z =>
        have hz := nz_get _ _ _ z h3
        rw [thb]
        exact key _ _ _ z hz (by rw [get_ok h h1, get_ok (s := ⟨a.2, s.out, s.ks, 0⟩) rfl h2, get_bad (s := ⟨b.2, s.out, s.ks, 0⟩) rfl h3]) rfl rfl rfl
      | ok c =>
        rw [thn]
        unfold utold
        rw [get_ok h h1]
        dsimp only
        rw [get_ok (s := ⟨a.2, s.out, s.ks, 0⟩) rfl h2]
        dsimp only
        rw [get_ok (s := ⟨b.2, s.out, s.ks, 0⟩) rfl h3]
        dsimp only
        by_cases hc : 286 < a.1 + 257 ∨ 30 < b.1 + 1
        · rw [if_pos hc, if_pos hc, wrong_yes (s := ⟨c.2, s.out, s.ks, 0⟩) rfl]
          dsimp only
          rw [sizes_stuck row _ _ ⟨c.2, s.out, s.ks, 8⟩ (show (8 : Int) ≠ 0 by decide), if_stuck (s := ⟨c.2, s.out, s.ks, 8⟩) (show (8 : Int) ≠ 0 by decide), if_pos (show (8 : Int) ≠ 0 by decide)]
        · rw [if_neg hc, if_neg hc]
          have hz5 := sim_sizes row (orderL.take (c.1 + 4)) (List.replicate 19 0) ⟨c.2, s.out, s.ks, 0⟩ rfl
          dsimp only at hz5
          cases h5 : sizesR row (orderL.take (c.1 + 4)) c.2 (List.replicate 19 0) with
          | bad z =>
            have hz := nz_sizes _ _ _ _ z h5
            rw [h5] at hz5
            dsimp only at hz5
            rw [thb, if_stuck (by rw [hz5]; exact hz), if_pos (by rw [hz5]; exact hz)]
            exact hz5
          | ok sz =>
            rw [h5] at hz5
            dsimp only at hz5
            rw [hz5, thn]
            dsimp only
            rcases table_cases (zsOf sz.2) with ⟨ht, ht2⟩ | ⟨ht, ht2⟩
            · rw [ht2, thn, lsOf_zs, if_no (show ¬ chkL (zsOf sz.2) ≠ 0 by simpa using ht), if_neg (show ¬ ((0 : Int) ≠ 0) by simp)]
              have hl := sim_lens row sz.2 (a.1 + 257 + (b.1 + 1)) (a.1 + 257 + (b.1 + 1)) [] ⟨sz.1, s.out, s.ks, 0⟩ rfl
              dsimp only at hl
              cases h6 : lenR row sz.2 (a.1 + 257 + (b.1 + 1)) (a.1 + 257 + (b.1 + 1)) sz.1 [] with
              | bad z =>
                have hz := nz_len _ _ _ _ _ _ z h6
                rw [h6] at hl
                dsimp only at hl
                rw [thb, if_pos (by rw [hl]; exact hz)]
                exact hl
              | ok l =>
                rw [h6] at hl
                dsimp only at hl
                rw [hl, thn]
                dsimp only
                rw [if_neg (show ¬ ((0 : Int) ≠ 0) by simp)]
                by_cases h256 : l.2.getD 256 0 = 0
                · rw [if_pos h256, if_pos (.inl h256)]
                  exact wrong_yes' rfl
                · rw [if_neg h256]
                  rcases table_cases (zsOf (l.2.take (a.1 + 257))) with ⟨hx, hx2⟩ | ⟨hx, hx2⟩
                  · rw [hx2, thn, lsOf_zs]
                    rcases table_cases (zsOf (l.2.drop (a.1 + 257))) with ⟨hy, hy2⟩ | ⟨hy, hy2⟩
                    · rw [hy2, thn, lsOf_zs, if_neg (by rintro (g | g | g); exact h256 g; exact g hx; exact g hy)]
                    · rw [hy2, thb, if_pos (.inr (.inr hy))]
                      exact wrong_yes' rfl
                  · rw [hx2, thb, if_pos (.inr (.inl hx))]
                    exact wrong_yes' rfl
            · rw [ht2, thb, if_yes (s := ⟨sz.1, s.out, s.ks, 0⟩) rfl ht, if_pos (show (8 : Int) ≠ 0 by decide)]
set_option maxRecDepth 100000 in
theorem sim_block (row : List Bool) (s : St) (h : s.e = 0) : match blockR row s.pos s.out with
    | .ok a => ublock row s = (a.1, ⟨a.2.2.1, a.2.2.2, s.ks ++ [a.2.1], 0⟩)
    | .bad z => (ublock row s).2.e = z := by
  unfold ublock blockR
  cases h1 : getR row s.pos 1 with
  | bad z =>
    have hz := nz_get _ _ _ z h1
    rw [get_bad h h1, thb]
    dsimp only
    rw [get_stuck (s := ⟨s.pos, s.out, s.ks, z⟩) hz]
    dsimp only
    rw [if_pos hz]
  | ok l =>
    rw [get_ok h h1, thn]
    dsimp only
    cases h2 : getR row l.2 2 with
    | bad z =>
      have hz := nz_get _ _ _ z h2
      rw [get_bad (s := ⟨l.2, s.out, s.ks, 0⟩) rfl h2, thb]
      dsimp only
      rw [if_pos hz]
    | ok k =>
      rw [get_ok (s := ⟨l.2, s.out, s.ks, 0⟩) rfl h2, thn]
      dsimp only
      rw [if_neg (show ¬ ((0 : Int) ≠ 0) by simp)]
      by_cases h0 : k.1 = 0
      · rw [if_pos h0, if_pos h0]
        have hs := sim_stored row ⟨k.2, s.out, s.ks, 0⟩ rfl
        dsimp only at hs
        cases h3 : storedR row k.2 s.out with
        | bad z =>
          rw [h3] at hs
          have hs : (ustored row _).e = z := hs
          rw [thb]
          exact hs
        | ok x =>
          rw [h3] at hs
          have hs : ustored row _ = _ := hs
          rw [hs, thn]
          rfl
      · rw [if_neg h0, if_neg h0]
        have body : ∀ (A B : List Nat) (q : Nat), match (bodyR row A B (row.length + 1) q s.out).then_ fun x => Inf.Rd.ok (l.1 == 1, k.1, x.1, x.2) with
            | .ok a => ((l.1 == 1, ukind (ubody row A B (row.length + 1) ⟨q, s.out, s.ks, 0⟩) k.1) : Bool × St) = (a.1, ⟨a.2.2.1, a.2.2.2, s.ks ++ [a.2.1], 0⟩)
            | .bad z => (ukind (ubody row A B (row.length + 1) ⟨q, s.out, s.ks, 0⟩) k.1).e = z := by
          intro A B q
          have hb := sim_body row A B (row.length + 1) ⟨q, s.out, s.ks, 0⟩ rfl
          dsimp only at hb
          cases h4 : bodyR row A B (row.length + 1) q s.out with
          | bad z =>
            rw [h4] at hb
            have hb : (ubody row A B _ _).e = z := hb
            rw [thb]
            exact hb
          | ok x =>
            rw [h4] at hb
            have hb : ubody row A B _ _ = _ := hb
            rw [hb, thn]
            rfl
        by_cases hk1 : k.1 = 1
        · rw [if_pos hk1, if_pos hk1]
          dsimp only
          rw [if_neg (show ¬ ((0 : Int) ≠ 0) by simp)]
          exact body fixedA fixedB k.2
        · rw [if_neg hk1, if_neg hk1]
          by_cases hk2 : k.1 = 2
          · rw [if_pos hk2, if_pos hk2]
            have ht := sim_told row ⟨k.2, s.out, s.ks, 0⟩ rfl
            dsimp only at ht
            cases h5 : headR row k.2 with
            | bad z =>
              have hz := nz_head _ _ z h5
              rw [h5] at ht
              dsimp only at ht
              rw [thb, if_pos (by rw [ht]; exact hz)]
              exact ht
            | ok x =>
              rw [h5] at ht
              dsimp only at ht
              rw [ht, thn]
              dsimp only
              rw [if_neg (show ¬ ((0 : Int) ≠ 0) by simp)]
              exact body x.2.1 x.2.2 x.1
          · rw [if_neg hk2, if_neg hk2, wrong_yes (s := ⟨k.2, s.out, s.ks, 0⟩) rfl]
            dsimp only
            rw [if_pos (show (4 : Int) ≠ 0 by decide)]
theorem sim_blocks (row : List Bool) : ∀ (f : Nat) (s : St), s.e = 0 → match blocksR row f s.pos s.out s.ks with
    | .ok a => ublocks row f s = ⟨a.1, a.2.1, a.2.2, 0⟩
    | .bad z => (ublocks row f s).e = z
  | 0, s, h => by unfold ublocks; exact wrong_yes' h
  | f + 1, s, h => by
    unfold ublocks blocksR
    have hb := sim_block row s h
    cases h1 : blockR row s.pos s.out with
    | bad z =>
      have hz := nz_block _ _ _ z h1
      rw [h1] at hb
      dsimp only at hb
      rw [thb, if_neg (fun hh => hz (by rw [← hb]; exact hh.2))]
      exact hb
    | ok a =>
      rw [h1] at hb
      dsimp only at hb
      rw [hb, thn]
      dsimp only
      cases ha : a.1 with
      | true => rw [if_pos rfl, if_neg (by simp)]
      | false =>
        rw [if_neg (by simp), if_pos ⟨rfl, rfl⟩]
        exact sim_blocks row f ⟨a.2.2.1, a.2.2.2, s.ks ++ [a.2.1], 0⟩ rfl
end Go.Proofs.Ythpdcnjaodjjmaa.Unp

/- package reliquaryref: codes in the order of places; the plain law. No program in sight. -/
namespace Go.Proofs.Ythpdcnjaodjjmaa.Cds
open Go.Proofs.Ythpdcnjaodjjmaa.Bits Go.Proofs.Ythpdcnjaodjjmaa.Code Go.Proofs.Ythpdcnjaodjjmaa.SP
set_option linter.unusedVariables false

/-- the places that have a code: their lengths, where they stand -/
def placesL (ls : List Nat) : List (Nat × Nat) := ls.zipIdx.filter fun p => p.1 != 0
def skey (e : Nat × Nat) : Nat := e.1
theorem placesL_take (ls : List Nat) (k : Nat) (h : k < ls.length) : placesL (ls.take (k + 1)) = placesL (ls.take k) ++ if ls[k] = 0 then [] else [(ls[k], k)] := by
  unfold placesL
  rw [List.take_succ_eq_append_getElem h, List.zipIdx_append, List.filter_append, List.length_take, Nat.min_eq_left (by omega)]
  congr 1
  by_cases h0 : ls[k] = 0
  · simp [h0]
  · simp [h0]
theorem placesL_len (ls : List Nat) : (placesL ls).length ≤ ls.length := by
  unfold placesL
  refine Nat.le_trans (List.length_filter_le _ _) ?_
  simp
theorem placesL_mem (ls : List Nat) (p : Nat × Nat) : p ∈ placesL ls ↔ p.2 < ls.length ∧ ls.getD p.2 0 = p.1 ∧ p.1 ≠ 0 := by
  unfold placesL
  rw [List.mem_filter, List.mem_zipIdx_iff_getElem?]
  constructor
  · rintro ⟨h1, h2⟩
    have h3 := (List.getElem?_eq_some_iff.1 h1)
    obtain ⟨h4, h5⟩ := h3
    refine ⟨h4, ?_, by simpa using h2⟩
    rw [List.getD_eq_getElem?_getD, h1]; rfl
  · rintro ⟨h1, h2, h3⟩
    refine ⟨?_, by simpa using h3⟩
    rw [List.getD_eq_getElem?_getD, List.getElem?_eq_getElem h1] at h2
    rw [List.getElem?_eq_getElem h1]
    simpa using h2
/-- by length, then by place -/
def lePl (x y : Nat × Nat) : Prop := x.1 < y.1 ∨ (x.1 = y.1 ∧ x.2 ≤ y.2)
theorem lePl_anti (x y : Nat × Nat) (h : lePl x y) (k : lePl y x) : x = y := by
  obtain ⟨a, b⟩ := x
  obtain ⟨c, d⟩ := y
  unfold lePl at h k
  simp only at h k
  have h1 : a = c := by omega
  have h2 : b = d := by omega
  rw [h1, h2]
theorem placesL_rise (ls : List Nat) : (placesL ls).Pairwise (fun x y => x.2 < y.2) := by
  unfold placesL
  refine List.Pairwise.filter _ ?_
  have := rise_zip ls 0
  exact this
theorem ordN_rise (ls : List Nat) (n : Nat) : (ordN ls n).Pairwise (· < ·) := by
  unfold ordN
  exact List.Pairwise.filter _ List.pairwise_lt_range
theorem stab_le (l : List (Nat × Nat)) (h : l.Pairwise (fun x y => x.2 < y.2)) : (stab skey l).Pairwise lePl := by
  unfold stab
  rw [List.pairwise_map]
  have hs := stabT_sorted skey l
  have hm : ∀ t ∈ stabT skey l, ∃ hh : t.2 < l.length, l[t.2] = t.1 := by
    intro t ht
    have := (stabT_perm skey l).mem_iff.1 ht
    rw [List.mem_zipIdx_iff_getElem?] at this
    obtain ⟨h1, h2⟩ := List.getElem?_eq_some_iff.1 this
    exact ⟨h1, h2⟩
  refine List.Pairwise.imp_of_mem ?_ hs
  intro x y hx hy hxy
  obtain ⟨h1, h2⟩ := hm x hx
  obtain ⟨h3, h4⟩ := hm y hy
  unfold lexP skey at hxy
  unfold lePl
  rcases hxy with h5 | ⟨h5, h6⟩
  · exact .inl h5
  · refine .inr ⟨h5, ?_⟩
    rcases Nat.lt_or_ge x.2 y.2 with h7 | h7
    · have := List.pairwise_iff_getElem.1 h x.2 y.2 h1 h3 h7
      rw [h2, h4] at this
      omega
    · have e : x.2 = y.2 := by omega
      have : x.1 = y.1 := by rw [← h2, ← h4]; simp [e]
      rw [this]
      exact Nat.le_refl _
theorem ordUp_mem (ls : List Nat) (s i : Nat) : i ∈ ordUp ls s ↔ i < ls.length ∧ ls.getD i 0 ≠ 0 ∧ ls.getD i 0 ≤ s := by
  unfold ordUp
  simp only [List.mem_flatMap, List.mem_range, ordN_mem]
  constructor
  · rintro ⟨k, h1, h2, h3⟩
    exact ⟨h2, by omega, by omega⟩
  · rintro ⟨h1, h2, h3⟩
    exact ⟨ls.getD i 0 - 1, by omega, h1, by omega⟩
theorem ordUp_le_pl (ls : List Nat) : ∀ s, ((ordUp ls s).map fun i => (ls.getD i 0, i)).Pairwise lePl
  | 0 => by simp [ordUp]
  | s + 1 => by
    rw [ordUp_succ, List.map_append, List.pairwise_append]
    refine ⟨ordUp_le_pl ls s, ?_, ?_⟩
    · rw [List.pairwise_map]
      refine List.Pairwise.imp_of_mem ?_ (ordN_rise ls (s + 1))
      intro a b ha hb hab
      have h1 := (ordN_mem ls (s + 1) a).1 ha
      have h2 := (ordN_mem ls (s + 1) b).1 hb
      exact .inr ⟨by rw [h1.2, h2.2], Nat.le_of_lt hab⟩
    · intro x hx y hy
      obtain ⟨a, ha, rfl⟩ := List.mem_map.1 hx
      obtain ⟨b, hb, rfl⟩ := List.mem_map.1 hy
      have h1 := (ordUp_mem ls s a).1 ha
      have h2 := (ordN_mem ls (s + 1) b).1 hb
      exact .inl (by show ls.getD a 0 < ls.getD b 0; omega)
theorem nodup_of_le {l : List (Nat × Nat)} (h : l.Pairwise fun x y => x.2 < y.2) : l.Nodup := List.Pairwise.imp (fun hxy e => by rw [e] at hxy; omega) h
theorem ordUp_nodup (ls : List Nat) : ∀ s, (ordUp ls s).Nodup
  | 0 => by simp [ordUp]
  | s + 1 => by
    rw [ordUp_succ, List.nodup_append]
    refine ⟨ordUp_nodup ls s, List.Pairwise.imp (fun h e => by omega) (ordN_rise ls (s + 1)), ?_⟩
    intro a ha b hb e
    subst e
    have h1 := (ordUp_mem ls s a).1 ha
    have h2 := (ordN_mem ls (s + 1) a).1 hb
    omega
/-- sorted, they stand by length, then by place -/
theorem stab_places (ls : List Nat) (hl : ∀ x ∈ ls, x ≤ 15) : stab skey (placesL ls) = (ordUp ls 15).map fun i => (ls.getD i 0, i) := by
  refine sorted_unique (le := lePl) lePl_anti _ _ ?_ (stab_le _ (placesL_rise ls)) (ordUp_le_pl ls 15)
  refine (stab_perm skey (placesL ls)).trans ?_
  refine (List.perm_ext_iff_of_nodup (nodup_of_le (placesL_rise ls)) ?_).2 ?_
  · exact List.Pairwise.map _ (fun a b h e => h (by injection e)) (ordUp_nodup ls 15)
  · intro p
    rw [placesL_mem, List.mem_map]
    constructor
    · rintro ⟨h1, h2, h3⟩
      refine ⟨p.2, (ordUp_mem ls 15 p.2).2 ⟨h1, by rw [h2]; exact h3, ?_⟩, by rw [h2]⟩
      rw [List.getD_eq_getElem?_getD, List.getElem?_eq_getElem h1]
      exact hl _ (List.getElem_mem h1)
    · rintro ⟨i, hi, rfl⟩
      have := (ordUp_mem ls 15 i).1 hi
      exact ⟨this.1, rfl, this.2.1⟩
/-! ### the codes, one behind the other -/
def wt (ls : List Nat) (o : List Nat) : Nat := (o.map fun i => 2 ^ (15 - ls.getD i 0)).sum
theorem wt_append (ls a b : List Nat) : wt ls (a ++ b) = wt ls a + wt ls b := by unfold wt; rw [List.map_append, List.sum_append]
theorem wt_same (ls : List Nat) (n : Nat) : ∀ o : List Nat, (∀ i ∈ o, ls.getD i 0 = n) → wt ls o = o.length * 2 ^ (15 - n)
  | [], _ => by simp [wt]
  | i :: o, h => by
    have h1 := wt_same ls n o (fun j hj => h j (List.mem_cons_of_mem _ hj))
    unfold wt at h1 ⊢
    rw [List.map_cons, List.sum_cons, h1, h i List.mem_cons_self, List.length_cons, Nat.succ_mul]
    omega
theorem twice_pow (A c s : Nat) (hs : s + 1 ≤ 15) : A * 2 ^ (15 - s) + c * 2 ^ (15 - (s + 1)) = (2 * A + c) * 2 ^ (15 - (s + 1)) := by
  rw [show 15 - s = (15 - (s + 1)) + 1 by omega, Nat.pow_succ, Nat.add_mul, Nat.mul_comm 2 A, Nat.mul_assoc A 2, Nat.mul_comm 2 (2 ^ (15 - (s + 1)))]
theorem wt_up (ls : List Nat) : ∀ s, s ≤ 15 → wt ls (ordUp ls s) = (first ls s + cnt ls s) * 2 ^ (15 - s)
  | 0, _ => by simp [wt, ordUp, first, cnt]
  | s + 1, hs => by
    rw [ordUp_succ, wt_append, wt_up ls s (by omega), wt_same ls (s + 1) _ (fun i hi => ((ordN_mem ls (s + 1) i).1 hi).2)]
    have e : first ls (s + 1) = 2 * (first ls s + cnt ls s) := rfl
    have c : cnt ls (s + 1) = (ordN ls (s + 1)).length := rfl
    rw [e, c, twice_pow _ _ _ hs]
theorem nodup_at {l : List Nat} (h : l.Nodup) (i j : Nat) (hi : i < l.length) (hj : j < l.length) (e : l[i] = l[j]) : i = j := by
  have hp := List.pairwise_iff_getElem.1 h
  rcases Nat.lt_trichotomy i j with h1 | h1 | h1
  · exact absurd e (hp i j hi hj h1)
  · exact h1
  · exact absurd e.symm (hp j i hj hi h1)
theorem code_at (ls : List Nat) : ∀ (s : Nat), s ≤ 15 → ∀ (pre post : List Nat) (i : Nat), ordUp ls s = pre ++ i :: post → codeOf ls i * 2 ^ (15 - ls.getD i 0) = wt ls pre
  | 0, _, pre, post, i, h => by simp [ordUp] at h
  | s + 1, hs, pre, post, i, h => by
    rw [ordUp_succ] at h
    rcases List.append_eq_append_iff.1 h with ⟨a, h1, h2⟩ | ⟨a, h1, h2⟩
    · have hn : ls.getD i 0 = s + 1 := ((ordN_mem ls (s + 1) i).1 (by rw [h2]; simp)).2
      have hi : i < ls.length := ((ordN_mem ls (s + 1) i).1 (by rw [h2]; simp)).1
      have hr : rank ls i = a.length := by
        have h3 := ordN_rank ls i hi
        rw [hn, h2] at h3
        have hnd : (a ++ i :: post).Nodup := by rw [← h2]; exact List.Pairwise.imp (fun h e => by omega) (ordN_rise ls (s + 1))
        have h4 : (a ++ i :: post)[a.length]? = some i := by rw [List.getElem?_append_right (Nat.le_refl _), Nat.sub_self]; rfl
        obtain ⟨l1, e1⟩ := List.getElem?_eq_some_iff.1 h3
        obtain ⟨l2, e2⟩ := List.getElem?_eq_some_iff.1 h4
        exact nodup_at hnd _ _ l1 l2 (e1.trans e2.symm)
      have hc : codeOf ls i = first ls (s + 1) + a.length := by
        unfold codeOf
        rw [if_neg (by omega), hn, hr]
      rw [h1, wt_append, wt_up ls s (by omega), wt_same ls (s + 1) a (fun j hj => ((ordN_mem ls (s + 1) j).1 (by rw [h2]; exact List.mem_append_left _ hj)).2), hc, hn]
      have e : first ls (s + 1) = 2 * (first ls s + cnt ls s) := rfl
      rw [e, twice_pow _ _ _ hs]
    · cases a with
      | nil =>
        rw [List.nil_append] at h2
        rw [List.append_nil] at h1
        have hn : ls.getD i 0 = s + 1 := ((ordN_mem ls (s + 1) i).1 (by rw [← h2]; simp)).2
        have hi : i < ls.length := ((ordN_mem ls (s + 1) i).1 (by rw [← h2]; simp)).1
        have hr : rank ls i = 0 := by
          have h3 := ordN_rank ls i hi
          rw [hn, ← h2] at h3
          have hnd : (i :: post).Nodup := by rw [h2]; exact List.Pairwise.imp (fun h e => by omega) (ordN_rise ls (s + 1))
          have h4 : (i :: post)[0]? = some i := rfl
          obtain ⟨l1, e1⟩ := List.getElem?_eq_some_iff.1 h3
          obtain ⟨l2, e2⟩ := List.getElem?_eq_some_iff.1 h4
          exact nodup_at hnd _ _ l1 l2 (e1.trans e2.symm)
        have hc : codeOf ls i = first ls (s + 1) := by
          unfold codeOf
          rw [if_neg (by omega), hn, hr]; rfl
        rw [← h1, wt_up ls s (by omega), hc, hn]
        have e : first ls (s + 1) = 2 * (first ls s + cnt ls s) := rfl
        have := twice_pow (first ls s + cnt ls s) 0 s hs
        rw [Nat.zero_mul, Nat.add_zero, Nat.add_zero] at this
        rw [e, this]
      | cons b a =>
        rw [List.cons_append] at h2
        injection h2 with h3 h4
        subst h3
        exact code_at ls s (by omega) pre a i h1
/-- the code of a place, its highest bit first -/
def codeS (ls : List Nat) (i : Nat) : List Bool := hi (ls.getD i 0) (codeOf ls i)
theorem codeS_none (ls : List Nat) (i : Nat) (h : ls.getD i 0 = 0) : codeS ls i = [] := by unfold codeS; rw [h]; rfl
theorem hi_succ (n c : Nat) : hi (n + 1) c = hi n (c / 2) ++ [decide (c % 2 = 1)] := by
  unfold hi numBits
  rw [List.range_succ_eq_map, List.map_cons, List.reverse_cons, List.map_map]
  congr 1
  · congr 1
    apply List.map_congr_left
    intro k _
    show c.testBit (k + 1) = (c / 2).testBit k
    rw [Nat.testBit_succ]
  · rw [Nat.testBit_zero]
/-- one more: the last '0' turns, and all behind it -/
theorem hi_more : ∀ (n c : Nat), c + 1 < 2 ^ n → ∃ a t, hi n c = a ++ false :: List.replicate t true ∧ hi n (c + 1) = a ++ true :: List.replicate t false
  | 0, c, h => by simp at h
  | n + 1, c, h => by
    rw [Nat.pow_succ] at h
    rcases Nat.mod_two_eq_zero_or_one c with h0 | h0
    · refine ⟨hi n (c / 2), 0, ?_, ?_⟩
      · rw [hi_succ, h0]; rfl
      · rw [hi_succ, show (c + 1) / 2 = c / 2 by omega, show (c + 1) % 2 = 1 by omega]; rfl
    · obtain ⟨a, t, h1, h2⟩ := hi_more n (c / 2) (by omega)
      refine ⟨a, t + 1, ?_, ?_⟩
      · rw [hi_succ, h0, h1, List.replicate_succ']
        simp
      · rw [hi_succ, show (c + 1) / 2 = c / 2 + 1 by omega, show (c + 1) % 2 = 0 by omega, h2, List.replicate_succ']
        simp
theorem hi_far : ∀ (d n c : Nat), hi (n + d) (c * 2 ^ d) = hi n c ++ List.replicate d false
  | 0, n, c => by simp
  | d + 1, n, c => by
    rw [← Nat.add_assoc, hi_succ, Nat.pow_succ, ← Nat.mul_assoc, Nat.mul_div_cancel _ (by decide), hi_far d n c, Nat.mul_mod_left, List.replicate_succ']
    simp
/-- the first code -/
theorem codeS_first (ls : List Nat) (i : Nat) (post : List Nat) (h : ordUp ls 15 = i :: post) : codeS ls i = List.replicate (ls.getD i 0) false := by
  have h1 := code_at ls 15 (Nat.le_refl _) [] post i h
  have h0 : codeOf ls i = 0 := by
    rcases Nat.mul_eq_zero.1 (h1.trans (by rfl)) with h | h
    · exact h
    · exact absurd h (Nat.pos_iff_ne_zero.1 (Nat.two_pow_pos _))
  unfold codeS
  rw [h0]
  have := hi_far (ls.getD i 0) 0 0
  rw [Nat.zero_add, Nat.zero_mul] at this
  rw [this]; rfl
/-- the code behind a code -/
theorem codeS_next (ls : List Nat) (hl : ∀ x ∈ ls, x ≤ 15) (hr : room ls ≤ 32768) (pre post : List Nat) (i j : Nat) (h : ordUp ls 15 = pre ++ i :: j :: post) :
    ls.getD i 0 ≤ ls.getD j 0 ∧ ∃ a t, codeS ls i = a ++ false :: List.replicate t true ∧ codeS ls j = (a ++ true :: List.replicate t false) ++ List.replicate (ls.getD j 0 - ls.getD i 0) false := by
  have hi_ := (ordUp_mem ls 15 i).1 (by rw [h]; simp)
  have hj_ := (ordUp_mem ls 15 j).1 (by rw [h]; simp)
  have hle : ls.getD i 0 ≤ ls.getD j 0 := by
    have hp := ordUp_le_pl ls 15
    rw [h, List.map_append, List.pairwise_append] at hp
    have h2 := hp.2.1
    rw [List.map_cons, List.pairwise_cons] at h2
    have h3 := h2.1 (ls.getD j 0, j) (by simp)
    unfold lePl at h3
    simp only at h3
    omega
  have h1 := code_at ls 15 (Nat.le_refl _) pre (j :: post) i h
  have h2 := code_at ls 15 (Nat.le_refl _) (pre ++ [i]) post j (by rw [h]; simp)
  rw [wt_append, ← h1, show wt ls [i] = 2 ^ (15 - ls.getD i 0) by simp [wt]] at h2
  have hd : codeOf ls j = (codeOf ls i + 1) * 2 ^ (ls.getD j 0 - ls.getD i 0) := by
    have hp : (2 : Nat) ^ (15 - ls.getD i 0) = 2 ^ (ls.getD j 0 - ls.getD i 0) * 2 ^ (15 - ls.getD j 0) := by rw [← Nat.pow_add]; congr 1; omega
    have h3 : codeOf ls j * 2 ^ (15 - ls.getD j 0) = ((codeOf ls i + 1) * 2 ^ (ls.getD j 0 - ls.getD i 0)) * 2 ^ (15 - ls.getD j 0) := by
      rw [h2, hp, Nat.add_mul (codeOf ls i) 1, Nat.add_mul, Nat.one_mul, Nat.mul_assoc]
    exact Nat.eq_of_mul_eq_mul_right (Nat.two_pow_pos _) h3
  have hlt := codeOf_lt ls j hj_.1 hj_.2.1 hl hr
  have hlt2 : codeOf ls i + 1 < 2 ^ ls.getD i 0 := by
    rw [hd] at hlt
    have hp : (2 : Nat) ^ ls.getD j 0 = 2 ^ ls.getD i 0 * 2 ^ (ls.getD j 0 - ls.getD i 0) := by rw [← Nat.pow_add]; congr 1; omega
    rw [hp] at hlt
    exact Nat.lt_of_mul_lt_mul_right hlt
  obtain ⟨a, t, e1, e2⟩ := hi_more (ls.getD i 0) (codeOf ls i) hlt2
  refine ⟨hle, a, t, e1, ?_⟩
  unfold codeS
  rw [hd, ← e2]
  have := hi_far (ls.getD j 0 - ls.getD i 0) (ls.getD i 0) (codeOf ls i + 1)
  rw [show ls.getD i 0 + (ls.getD j 0 - ls.getD i 0) = ls.getD j 0 by omega] at this
  exact this
end Go.Proofs.Ythpdcnjaodjjmaa.Cds

/- reliquaryref: rows of '0' and '1': OfNumber, BytesOf. -/
namespace Go.Proofs.Ythpdcnjaodjjmaa.Bits
open Go Go.RowKit Go.Proofs.Ythpdcnjaodjjmaa
set_option linter.unusedVariables false

def ch (b : Bool) : UInt8 := if b then 49 else 48
def rowS (l : List Bool) : List UInt8 := l.map ch
def rowV (l : List Bool) : Value := .string (strB (rowS l))
theorem strB_size (l : List UInt8) : (strB l).size = l.length := by simp [strB, ByteArray.size]
theorem rowS_length (l : List Bool) : (rowS l).length = l.length := by simp [rowS]
theorem strB_append (a b : List UInt8) : strB a ++ strB b = strB (a ++ b) := by
  apply ByteArray.ext
  simp [strB]
theorem rowS_append (a b : List Bool) : rowS (a ++ b) = rowS a ++ rowS b := by simp [rowS]
theorem one_ch (b : Bool) (m : Nat) (h : b = decide (m % 2 = 1)) : strOfNums [48 + (m : Int) % 2] = strB (rowS [b]) := by
  have : [48 + (m : Int) % 2] = ([ch b]).map n8 := by
    subst h
    by_cases h : m % 2 = 1
    · have : (m : Int) % 2 = 1 := by omega
      simp [h, this, ch, n8]
    · have : (m : Int) % 2 = 0 := by omega
      simp [h, this, ch, n8]
  rw [this, strB_nums]; rfl
theorem conv_one (c : Int) (w : World) : (convert 22 9 (.slice (some ⟨w.heap.size, 0, none⟩) 1 1)).run Try.prog (w.alloc (.cells #[.int .u8 c] 5)) = .ok (.string (strOfNums [c])) (w.alloc (.cells #[.int .u8 c] 5)) := by
  refine run_convert_bytes_arg _ _ _ Try.underlying22 Try.underlying5 _ _ _ _ [c] rfl (fun i hi => ?_) _ Try.underlying9
  have : i = 0 := by simpa using hi
  subst this
  have := (Blk.new w 5 #[.int .u8 c]).cell 0
  simp
theorem num_drop (l : List Bool) (k : Nat) (h : k < l.length) : num (l.drop k) = 2 * num (l.drop (k + 1)) + l[k].toNat := by
  rw [List.drop_eq_getElem_cons h]; simp [num]; omega
theorem num_bound (l : List Bool) (k : Nat) (h : l.length ≤ 60) : num (l.drop k) < 1152921504606846976 := by
  have h1 := num_lt (l.drop k)
  have h2 : 2 ^ (l.drop k).length ≤ 2 ^ 60 := Nat.pow_le_pow_right (by omega) (by simp; omega)
  omega
theorem ch_get (l : List Bool) (j : Nat) (h : j < l.length) {hs : j < (strB (rowS l)).size} : (((strB (rowS l))[j]'hs).toNat : Int) = 48 + (l[j].toNat : Int) := by
  have : (strB (rowS l))[j]'hs = ch l[j] := by
    show (strB (rowS l)).data[j]'hs = _
    simp [strB, rowS]
  rw [this]
  cases l[j] <;> simp [ch]
set_option maxHeartbeats 400000 in
theorem ofNumber_any (l : List Bool) (w : World) (hl : l.length ≤ 60) :
    Calls Try.prog 79 #[rowV l] w fun e w' => e = .returned (.int .i64 (num l : Nat)) ∧ w' = w := by
  unfold rowV
  have hsz : (strB (rowS l)).size ≤ 60 := by rw [strB_size, rowS_length]; exact hl
  go_enter Try.func79, Try.ntmps79
  go_wp2_with fail
  go_loopw [4, 3] (fun i m wr => ∃ k : Nat, k ≤ l.length ∧ i = .int .i64 ((k : Int) - 1) ∧ m = .int .i64 ((num (l.drop k) : Nat) : Int) ∧ wr = w) (fun i _ _ => ((intOf i) + 1).toNat)
  case atStart =>
    refine ⟨l.length, Nat.le_refl _, ?_, ?_, rfl⟩
    · rw [strB_size, rowS_length]
    · simp [num]
  case round =>
    obtain ⟨k, hk, rfl, rfl, rfl⟩ := hrel
    by_cases hlt : 0 < k
    · obtain ⟨j, rfl⟩ : ∃ j, k = j + 1 := ⟨k - 1, by omega⟩
      have Hn := Lib.hid (num_drop l j (by omega))
      have hb := num_bound l (j + 1) hl
      have hjs : j < (strB (rowS l)).size := by rw [strB_size, rowS_length]; omega
      generalize num (l.drop (j + 1)) = m at *
      have e : (((j + 1 : Nat) : Int) - 1) = (j : Int) := by omega
      rw [e]
      clear e
      go_wp2_with fail
      go_roundw
      case rel =>
        refine ⟨j, by omega, rfl, ?_, trivial⟩
        apply int_eq
        rw [Hn.out, ch_get l j (by omega)]
        have : l[j].toNat ≤ 1 := by cases l[j] <;> simp
        omega
      case measure => simp [intOf]
    · obtain rfl : k = 0 := by omega
      go_wp2_with fail
      go_ret
      exact ⟨by simp, rfl⟩
end Go.Proofs.Ythpdcnjaodjjmaa.Bits

/- strings.Repeat of "0", strings.LastIndexByte. -/
namespace Go.Proofs.Ythpdcnjaodjjmaa.Cds
open Go Go.RowKit Go.Proofs.Ythpdcnjaodjjmaa Go.Proofs.Ythpdcnjaodjjmaa.Bits
set_option linter.unusedVariables false
set_option linter.unusedSimpArgs false

set_option maxRecDepth 100000 in
set_option maxHeartbeats 1600000 in
theorem prefix_in (s : ByteArray) (w : World) (hs : s.size ≤ 1000) (h1 : 1 ≤ s.size) :
    Calls Try.prog 133 #[.string s, .string ⟨#[48]⟩] w fun e w' => (∃ b, e = .returned (.bool b) ∧ b = ((s.extract 0 1).toList == [48])) ∧ w' = w := by
  have hz : (⟨#[48]⟩ : ByteArray).size = 1 := rfl
  have i1 : (1 : Int) ≤ (s.size : Int) := by omega
  go_enter Try.func133, Try.ntmps133
  go_wp2_with fail
  go_ret
  exact ⟨⟨_, rfl, rfl⟩, rfl⟩
set_option maxRecDepth 100000 in
set_option maxHeartbeats 1600000 in
theorem hasPrefix_any (s : ByteArray) (w : World) (hs : s.size ≤ 1000) (h1 : 1 ≤ s.size) :
    Calls Try.prog 116 #[.string s, .string ⟨#[48]⟩] w fun e w' => (∃ b, e = .returned (.bool b) ∧ b = ((s.extract 0 1).toList == [48])) ∧ w' = w := by
  have HI := Lib.hid (prefix_in s w hs h1)
  go_enter Try.func116, Try.ntmps116
  go_wp2_with fail
  refine (HI.out).mono ?_
  rintro e w' ⟨⟨b, rfl, hb⟩, rfl⟩
  have Hb := Lib.hid hb
  clear hb
  go_wp2_with fail
  go_ret
  exact ⟨⟨_, rfl, Hb.out⟩, rfl⟩
theorem zeros_extract : ∀ k < 16, ByteArray.extract ⟨#[48, 48, 48, 48, 48, 48, 48, 48, 48, 48, 48, 48, 48, 48, 48, 48, 48, 48, 48, 48, 48, 48, 48, 48, 48, 48, 48, 48, 48, 48, 48, 48, 48, 48, 48, 48, 48, 48, 48, 48, 48, 48, 48, 48, 48, 48, 48, 48, 48, 48, 48, 48, 48, 48, 48, 48, 48, 48, 48, 48, 48, 48, 48, 48]⟩ 0 k = strB (List.replicate k 48) := by decide +kernel
set_option maxRecDepth 100000 in
set_option maxHeartbeats 1600000 in
/-- so many '0' -/
theorem repeat0_any (k : Nat) (w : World) (hk : k ≤ 15) :
    Calls Try.prog 105 #[.string ⟨#[48]⟩, .int .i64 (k : Int)] w fun e w' => e = .returned (.string (strB (List.replicate k 48))) ∧ w' = w := by
  rcases (by omega : k = 0 ∨ k = 1 ∨ 2 ≤ k) with h | h | h
  · subst h
    go_enter Try.func105, Try.ntmps105
    go_wp2_with fail
    go_ret
    exact ⟨rfl, rfl⟩
  · subst h
    go_enter Try.func105, Try.ntmps105
    go_wp2_with fail
    go_ret
    exact ⟨rfl, rfl⟩
  · have hv1 : k < 18446744073709551616 := by omega
    have HM : Hid (∀ W, Calls Try.prog 100 #[.int .u64 1, .int .u64 (k : Int)] W fun e w' => e = .returned (.tuple #[.int .u64 0, .int .u64 (k : Int)]) ∧ w' = W) := Lib.hid (fun W => by
      have h := Any.bits_Mul Ythpdcnjaodjjmaa.lays212 1 k (by omega) hv1 W
      rw [Nat.one_mul, Nat.div_eq_of_lt hv1, Nat.mod_eq_of_lt hv1] at h
      exact h)
    have hz : (⟨#[48]⟩ : ByteArray).size = 1 := rfl
    have e0 : ((k : Int) == 0) = false := by rw [beq_eq_false_iff_ne]; omega
    have e1 : ((k : Int) == 1) = false := by rw [beq_eq_false_iff_ne]; omega
    have i1 : (k : Int) ≤ 128 := by omega
    have i2 : (k : Int) ≤ 64 := by omega
    clear hv1
    go_enter Try.func105, Try.ntmps105
    go_wp2_with fail
    refine (HM.out _).mono ?_
    rintro e w2 ⟨rfl, hw2⟩
    cases hw2
    go_wp2_with fail
    refine (hasPrefix_any _ _ (by decide +kernel) (by decide +kernel)).mono ?_
    rintro e w3 ⟨⟨b, rfl, hb⟩, hw3⟩
    cases hw3
    obtain rfl : b = false := hb.trans (by decide +kernel)
    clear hb
    go_wp2_with fail
    refine (hasPrefix_any _ _ (by decide +kernel) (by decide +kernel)).mono ?_
    rintro e w4 ⟨⟨b, rfl, hb⟩, hw4⟩
    cases hw4
    obtain rfl : b = false := hb.trans (by decide +kernel)
    clear hb
    go_wp2_with fail
    refine (hasPrefix_any _ _ (by decide +kernel) (by decide +kernel)).mono ?_
    rintro e w5 ⟨⟨b, rfl, hb⟩, hw5⟩
    cases hw5
    obtain rfl : b = true := hb.trans (by decide +kernel)
    clear hb
    go_wp2_with fail
    go_ret
    exact ⟨congrArg (fun s => Ending.returned (.string s)) (zeros_extract k (by omega)), rfl⟩
/-- the last '0' of a row, and only true behind it -/
theorem last_zero (a : List Bool) (t : Nat) (j : Nat) (hj : j < (a ++ false :: List.replicate t true).length) : (a ++ false :: List.replicate t true)[j] = if j = a.length then false else if a.length < j then true else (a ++ false :: List.replicate t true)[j] := by
  split
  · subst_vars; simp
  · split
    · rw [List.getElem_append_right (by omega), List.getElem_cons, dif_neg (by omega), List.getElem_replicate]
    · rfl
set_option maxRecDepth 100000 in
set_option maxHeartbeats 1600000 in
theorem lastIn_any (a : List Bool) (t : Nat) (w : World) (hl : a.length + t ≤ 100) :
    Calls Try.prog 115 #[rowV (a ++ false :: List.replicate t true), .int .u8 48] w fun e w' => e = .returned (.int .i64 (a.length : Int)) ∧ w' = w := by
  obtain ⟨l, hl'⟩ : ∃ l, l = a ++ false :: List.replicate t true := ⟨_, rfl⟩
  have hlen : l.length = a.length + 1 + t := by rw [hl']; simp; omega
  have H1 : Hid (∀ (h : a.length < l.length), l[a.length] = false) := Lib.hid (fun h => by subst hl'; simp)
  have H2 : Hid (∀ j (h : j < l.length), a.length < j → l[j] = true) := Lib.hid (fun j h hj => by
    subst hl'
    rw [List.getElem_append_right (by omega), List.getElem_cons, dif_neg (by omega), List.getElem_replicate])
  rw [← hl']
  have hsz : (strB (rowS l)).size = l.length := by rw [strB_size, rowS_length]
  have hsz2 : (strB (rowS l)).size ≤ 101 := by omega
  have HSz := Lib.hid hsz
  have Hlen := Lib.hid hlen
  obtain ⟨n, hn⟩ : ∃ n, n = a.length := ⟨_, rfl⟩
  rw [← hn] at H1 H2 Hlen hl ⊢
  clear hl' hlen hsz hn
  unfold rowV
  go_enter Try.func115, Try.ntmps115
  go_wp2_with fail
  go_loopw [5] (fun i wr => ∃ k : Nat, n < k ∧ k ≤ l.length ∧ i = .int .i64 ((k : Int) - 1) ∧ wr = w) (fun i _ => ((intOf i) + 1).toNat)
  case atStart =>
    refine ⟨l.length, by have := Hlen.out; omega, Nat.le_refl _, ?_, rfl⟩
    rw [HSz.out]
  case round =>
    obtain ⟨k, hk1, hk2, rfl, rfl⟩ := hrel
    obtain ⟨j, rfl⟩ : ∃ j, k = j + 1 := ⟨k - 1, by omega⟩
    have e : (((j + 1 : Nat) : Int) - 1) = (j : Int) := by omega
    rw [e]
    clear e
    have hjs : j < (strB (rowS l)).size := by rw [HSz.out]; omega
    have hch := ch_get l j (by omega) (hs := hjs)
    have Hch := Lib.hid hch
    clear hch
    by_cases hjn : j = n
    · subst hjn
      have hb : l[j].toNat = 0 := by rw [H1.out (by omega)]; rfl
      have hc : (((strB (rowS l))[j]'hjs).toNat : Int) = 48 := by rw [Hch.out, hb]; rfl
      clear hb
      go_wp2_with fail
      go_ret
      exact ⟨rfl, rfl⟩
    · have hb : l[j].toNat = 1 := by rw [H2.out j (by omega) (by omega)]; rfl
      have hc : (((strB (rowS l))[j]'hjs).toNat : Int) = 49 := by rw [Hch.out, hb]; rfl
      have hw : IntKind.i64.wrap ((j : Int) - 1) = (j : Int) - 1 := IntWalk.i64_in _ (by omega)
      clear hb
      go_wp2_with fail
      go_roundw
      case rel => exact ⟨j, by omega, by omega, rfl, trivial⟩
      case measure => simp [intOf]
set_option maxRecDepth 100000 in
set_option maxHeartbeats 1600000 in
theorem last_any (a : List Bool) (t : Nat) (w : World) (hl : a.length + t ≤ 100) :
    Calls Try.prog 104 #[rowV (a ++ false :: List.replicate t true), .int .u8 48] w fun e w' => e = .returned (.int .i64 (a.length : Int)) ∧ w' = w := by
  have HI := Lib.hid (lastIn_any a t w hl)
  unfold rowV at *
  go_enter Try.func104, Try.ntmps104
  go_wp2_with fail
  refine (HI.out).mono ?_
  rintro e w' ⟨rfl, rfl⟩
  go_wp2_with fail
  go_ret
  exact ⟨rfl, rfl⟩
end Go.Proofs.Ythpdcnjaodjjmaa.Cds

/- rows of places, and what sort.SliceStable's functions are handed: less, swap. -/
namespace Go.Proofs.Ythpdcnjaodjjmaa.Slc
open Go Go.RowKit Go.Proofs.Ythpdcnjaodjjmaa
set_option linter.unusedVariables false

/-- a place: its length, where it stands -/
abbrev El := Nat × Nat
abbrev TE := El × Nat
def nv (n : Nat) : Value := .int .i64 (n : Int)
def cellsE (e : TE) : List Value := [nv e.1.1, nv e.1.2]
def ekey (e : El) : Nat := e.1
def PkAt (w : World) (g : Nat) (rest : List Value) (d : List TE) : Prop := Blk w g 163 (d.flatMap cellsE ++ rest).toArray
theorem flat_len (d : List TE) : (d.flatMap cellsE).length = d.length * 2 := by
  induction d with
  | nil => rfl
  | cons a d ih => rw [List.flatMap_cons, List.length_append, ih]; simp [cellsE]; omega
theorem PkAt.c0 {w : World} {g : Nat} {rest : List Value} {X Y : List TE} {u : TE} (h : PkAt w g rest (X ++ u :: Y)) {i : Nat} (hi : i = X.length) : w.cell? ⟨g, i * 2, none⟩ = some (nv u.1.1) := by
  subst hi
  rw [Blk.cell h, List.getElem?_toArray, List.flatMap_append, List.append_assoc, List.getElem?_append_right (by rw [flat_len]; exact Nat.le_refl _), flat_len, Nat.sub_self]
  rfl
theorem PkAt.c1 {w : World} {g : Nat} {rest : List Value} {X Y : List TE} {u : TE} (h : PkAt w g rest (X ++ u :: Y)) {i : Nat} (hi : i = X.length) : w.cell? ⟨g, i * 2 + 1, none⟩ = some (nv u.1.2) := by
  subst hi
  rw [Blk.cell h, List.getElem?_toArray, List.flatMap_append, List.append_assoc, List.getElem?_append_right (by rw [flat_len]; omega), flat_len, show X.length * 2 + 1 - X.length * 2 = 1 by omega]
  rfl
theorem PkAt.mid {w : World} {g : Nat} {rest : List Value} {X Y Z : List TE} {u v : TE} (h : PkAt w g rest (X ++ u :: (Y ++ v :: Z))) : PkAt w g rest ((X ++ u :: Y) ++ v :: Z) := by
  have e : (X ++ u :: Y) ++ v :: Z = X ++ u :: (Y ++ v :: Z) := by simp
  rw [e]; exact h
theorem mid_len (X Y : List TE) (u : TE) {j : Nat} (h : j = X.length + 1 + Y.length) : j = (X ++ u :: Y).length := by rw [h]; simp; omega
theorem set4 (A B C : List Value) (u0 u1 v0 v1 x0 x1 y0 y1 : Value) :
    ((((A ++ u0 :: u1 :: (B ++ v0 :: v1 :: C)).set A.length x0).set (A.length + 1) x1).set (A.length + 2 + B.length) y0).set (A.length + 2 + B.length + 1) y1 = A ++ x0 :: x1 :: (B ++ y0 :: y1 :: C) := by
  have s1 : ∀ (L : List Value) (M : List Value) (n : Nat) (x : Value), (L ++ M).set (L.length + n) x = L ++ M.set n x := by
    intro L M n x
    rw [List.set_append_right _ _ (Nat.le_add_right _ _), Nat.add_sub_cancel_left]
  have h1 := s1 A (u0 :: u1 :: (B ++ v0 :: v1 :: C)) 0 x0
  rw [Nat.add_zero] at h1
  rw [h1, s1 A _ 1 x1, Nat.add_assoc A.length 2 B.length, s1 A _ (2 + B.length) y0, Nat.add_assoc A.length, s1 A _ (2 + B.length + 1) y1]
  congr 1
  have h2 := s1 B (v0 :: v1 :: C) 0 y0
  rw [Nat.add_zero] at h2
  rw [show 2 + B.length + 1 = (B.length + 1) + 1 + 1 by omega, show 2 + B.length = B.length + 1 + 1 by omega]
  show x0 :: x1 :: (((B ++ v0 :: v1 :: C).set B.length y0).set (B.length + 1) y1) = _
  rw [h2, List.set_cons_zero, s1 B _ 1 y1]
  rfl
theorem comm4 (l : List Value) (a b c d : Nat) (x0 x1 y0 y1 : Value) (h1 : a ≠ c) (h2 : a ≠ d) (h3 : b ≠ c) (h4 : b ≠ d) : (((l.set c y0).set d y1).set a x0).set b x1 = (((l.set a x0).set b x1).set c y0).set d y1 := by
  rw [List.set_comm y1 x0 (Ne.symm h2), List.set_comm y0 x0 (Ne.symm h1), List.set_comm y1 x1 (Ne.symm h4), List.set_comm y0 x1 (Ne.symm h3)]
theorem flat2 (X Y Z : List TE) (u v : TE) (rest : List Value) : (X ++ u :: (Y ++ v :: Z)).flatMap cellsE ++ rest = X.flatMap cellsE ++ nv u.1.1 :: (nv u.1.2) :: (Y.flatMap cellsE ++ nv v.1.1 :: (nv v.1.2) :: (Z.flatMap cellsE ++ rest)) := by
  simp [List.flatMap_append, List.flatMap_cons, cellsE]
theorem blk_eq {w : World} {g : Nat} {t : TypeId} {cs ds : Array Value} (h : Blk w g t cs) (e : cs = ds) : Blk w g t ds := e ▸ h
/-- two packs change places: the one further ahead is written first -/
theorem PkAt.swapU {w : World} {g : Nat} {rest : List Value} {X Y Z : List TE} {u v : TE} (h : PkAt w g rest (X ++ u :: (Y ++ v :: Z))) {i j : Nat} (hi : i = X.length) (hj : j = X.length + 1 + Y.length) :
    PkAt ((((w.setCell ⟨g, i * 2, none⟩ (nv v.1.1)).setCell ⟨g, i * 2 + 1, none⟩ (nv v.1.2)).setCell ⟨g, j * 2, none⟩ (nv u.1.1)).setCell ⟨g, j * 2 + 1, none⟩ (nv u.1.2)) g rest (X ++ v :: (Y ++ u :: Z)) := by
  subst hi hj
  have := (((Blk.set_ h (X.length * 2) (nv v.1.1)).set_ (X.length * 2 + 1) (nv v.1.2)).set_ ((X.length + 1 + Y.length) * 2) (nv u.1.1)).set_ ((X.length + 1 + Y.length) * 2 + 1) (nv u.1.2)
  unfold PkAt
  refine blk_eq this ?_
  apply Array.ext'
  simp only [Array.toList_setIfInBounds]
  rw [flat2, flat2]
  have s := set4 (X.flatMap cellsE) (Y.flatMap cellsE) (Z.flatMap cellsE ++ rest) (nv u.1.1) (nv u.1.2) (nv v.1.1) (nv v.1.2) (nv v.1.1) (nv v.1.2) (nv u.1.1) (nv u.1.2)
  rw [flat_len, flat_len] at s
  rw [← s, show (X.length + 1 + Y.length) * 2 = X.length * 2 + 2 + Y.length * 2 by omega]
/-- .. the one further behind is written first -/
theorem PkAt.swapD {w : World} {g : Nat} {rest : List Value} {X Y Z : List TE} {u v : TE} (h : PkAt w g rest (X ++ u :: (Y ++ v :: Z))) {i j : Nat} (hi : i = X.length) (hj : j = X.length + 1 + Y.length) :
    PkAt ((((w.setCell ⟨g, j * 2, none⟩ (nv u.1.1)).setCell ⟨g, j * 2 + 1, none⟩ (nv u.1.2)).setCell ⟨g, i * 2, none⟩ (nv v.1.1)).setCell ⟨g, i * 2 + 1, none⟩ (nv v.1.2)) g rest (X ++ v :: (Y ++ u :: Z)) := by
  subst hi hj
  have := (((Blk.set_ h ((X.length + 1 + Y.length) * 2) (nv u.1.1)).set_ ((X.length + 1 + Y.length) * 2 + 1) (nv u.1.2)).set_ (X.length * 2) (nv v.1.1)).set_ (X.length * 2 + 1) (nv v.1.2)
  unfold PkAt
  refine blk_eq this ?_
  apply Array.ext'
  simp only [Array.toList_setIfInBounds]
  rw [flat2, flat2]
  have s := set4 (X.flatMap cellsE) (Y.flatMap cellsE) (Z.flatMap cellsE ++ rest) (nv u.1.1) (nv u.1.2) (nv v.1.1) (nv v.1.2) (nv v.1.1) (nv v.1.2) (nv u.1.1) (nv u.1.2)
  rw [flat_len, flat_len] at s
  rw [← s, show (X.length + 1 + Y.length) * 2 = X.length * 2 + 2 + Y.length * 2 by omega]
  exact comm4 _ _ _ _ _ _ _ _ _ (by omega) (by omega) (by omega) (by omega)
theorem PkAt.pair {w : World} {g : Nat} {rest : List Value} {X Y Z : List TE} {u v : TE} (h : PkAt w g rest (X ++ u :: (Y ++ v :: Z))) {i j : Nat} (hi : i = X.length) (hj : j = X.length + 1 + Y.length) :
    w.cell? ⟨g, i * 2, none⟩ = some (nv u.1.1) ∧ w.cell? ⟨g, i * 2 + 1, none⟩ = some (nv u.1.2) ∧ w.cell? ⟨g, j * 2, none⟩ = some (nv v.1.1) ∧ w.cell? ⟨g, j * 2 + 1, none⟩ = some (nv v.1.2) ∧
    w.frozen? ⟨g, i * 2, none⟩ = false ∧ w.frozen? ⟨g, i * 2 + 1, none⟩ = false ∧ w.frozen? ⟨g, j * 2, none⟩ = false ∧ w.frozen? ⟨g, j * 2 + 1, none⟩ = false :=
  ⟨h.c0 hi, h.c1 hi, h.mid.c0 (mid_len X Y _ hj), h.mid.c1 (mid_len X Y _ hj), Blk.frozen h _, Blk.frozen h _, Blk.frozen h _, Blk.frozen h _⟩
/-- what the exchange of two leaves: written one behind the other -/
def swW (w : World) (g i j : Nat) (u0 u1 v0 v1 : Value) : World := (((w.setCell ⟨g, i * 2, none⟩ u0).setCell ⟨g, i * 2 + 1, none⟩ u1).setCell ⟨g, j * 2, none⟩ v0).setCell ⟨g, j * 2 + 1, none⟩ v1
theorem grown_set {w w' : World} {g : Nat} (h : w.grownBy w' (some g)) (i : Nat) (u : Value) : w.grownBy (w'.setCell ⟨g, i, none⟩ u) (some g) :=
  ⟨h.os, h.tape, h.output, by simpa [World.setCell] using h.size, fun k hk hne => by rw [Below.heap_setCell _ _ _ _ (by intro e; exact hne (by rw [e]))]; exact h.block k hk hne⟩
theorem grown_drew {w w' : World} {r : Option Nat} (h : w.grownBy w' r) : w.grownBy w'.drew r := ⟨h.os, h.tape, h.output, h.size, h.block⟩
theorem grown_drewN {w w' : World} {r : Option Nat} (h : w.grownBy w' r) (n : Nat) : w.grownBy (w'.drewN n) r := ⟨h.os, h.tape, h.output, h.size, h.block⟩
theorem grown_below {w w' w'' : World} {r : Option Nat} (h : w.grownBy w' r) (hb : Below w'.heap.size w' w'') : w.grownBy w'' r :=
  ⟨hb.os.trans h.os, hb.tape.trans h.tape, hb.output.trans h.output, Nat.le_trans h.size hb.size, fun k hk hne => (hb.block k (Nat.lt_of_lt_of_le hk h.size)).trans (h.block k hk hne)⟩
theorem grown_sw0 {w w' : World} {g : Nat} (h : w.grownBy w' (some g)) (i j : Nat) (u0 u1 v0 v1 : Value) : w.grownBy (swW w' g i j u0 u1 v0 v1) (some g) := grown_set (grown_set (grown_set (grown_set h _ _) _ _) _ _) _ _
theorem grown_sw {w w' : World} {g : Nat} (h : w.grownBy w' (some g)) (i j : Nat) (u0 u1 v0 v1 : Value) : w.grownBy (swW w' g i j u0 u1 v0 v1).drew (some g) := grown_drew (grown_set (grown_set (grown_set (grown_set h _ _) _ _) _ _) _ _)

theorem grown_low {w w' : World} {r : Option Nat} (hg : w.grownBy w' r) {x : Nat} {t : TypeId} {cs : Array Value} (h : Blk w x t cs) (hne : r ≠ some x) : Blk w' x t cs := Blk.grown h hg hne
/-- the handle of the element's type -/
noncomputable def hdl : Value := typeHandle Try.prog 163
def lessV (gv : Nat) : Value := .func (.func 103) #[] #[.pointer (some ⟨gv, 0, none⟩)]
noncomputable def swapV (g N cap : Nat) : Value := .func (.func 130) #[] #[.slice (some ⟨g, 0, none⟩) N cap, hdl]
noncomputable def dataV (g gv N cap : Nat) : Value := .agg #[lessV gv, swapV g N cap]
/-- the variable that less reads -/
structure Var (w : World) (g gv N cap : Nat) : Prop where
  var : Blk w gv 161 #[.slice (some ⟨g, 0, none⟩) N cap]
  ne : gv ≠ g
/-- while a row is sorted -/
structure Mm (w1 w : World) (bx g gv N cap : Nat) (rest : List Value) (d : List TE) : Prop where
  pk : PkAt w g rest d
  grown : w1.grownBy w (some g)
  box : Blk w bx 183 #[lessV gv, swapV g N cap]
  var : Var w g gv N cap
  bg : bx ≠ g
  len : d.length = N
  few : N ≤ 1000000
theorem Mm.start {w : World} {g gv N cap : Nat} {rest : List Value} {d : List TE} (h : PkAt w g rest d) (hv : Var w g gv N cap) (hn : d.length = N) (hN : N ≤ 1000000) :
    Mm (w.alloc (.cells #[lessV gv, swapV g N cap] 183)) (w.alloc (.cells #[lessV gv, swapV g N cap] 183)) w.heap.size g gv N cap rest d :=
  ⟨Blk.alloc h _, World.grownBy.refl _ _, Blk.new _ _ _, ⟨hv.var.alloc _, hv.ne⟩, by have := Blk.lt h; omega, hn, hN⟩
theorem Mm.more {w1 w w' : World} {bx g gv N cap : Nat} {rest : List Value} {d d' : List TE} (h : Mm w1 w bx g gv N cap rest d) (hg : w.grownBy w' (some g)) (hp : PkAt w' g rest d') (hl : d'.length = d.length) : Mm w1 w' bx g gv N cap rest d' :=
  ⟨hp, h.grown.trans hg, Blk.grown h.box hg (fun e => h.bg (by injection e with e; exact e.symm)), ⟨Blk.grown h.var.var hg (fun e => h.var.ne (by injection e with e; exact e.symm)), h.var.ne⟩, h.bg, hl.trans h.len, h.few⟩
theorem Mm.drewN {w1 w : World} {bx g gv N cap : Nat} {rest : List Value} {d : List TE} (h : Mm w1 w bx g gv N cap rest d) (q : Nat) : Mm w1 (w.drewN q) bx g gv N cap rest d :=
  ⟨h.pk, grown_drewN h.grown q, h.box, ⟨h.var.var, h.var.ne⟩, h.bg, h.len, h.few⟩
theorem Mm.c0 {w1 w : World} {bx g gv N cap : Nat} {rest : List Value} {d : List TE} (h : Mm w1 w bx g gv N cap rest d) : w.cell? ⟨bx, 0, none⟩ = some (lessV gv) := (h.box.cell 0).trans rfl
theorem Mm.c1 {w1 w : World} {bx g gv N cap : Nat} {rest : List Value} {d : List TE} (h : Mm w1 w bx g gv N cap rest d) : w.cell? ⟨bx, 1, none⟩ = some (swapV g N cap) := (h.box.cell 1).trans rfl
theorem Mm.done {w w' : World} {bx g gv N cap : Nat} {rest : List Value} {d : List TE} {o : Obj} (h : Mm (w.alloc o) w' bx g gv N cap rest d) : w.grownBy w' (some g) :=
  (grown_below (World.grownBy.refl w (some g)) ((Below.refl w.heap.size w).alloc (Nat.le_refl _) o)).trans h.grown
set_option maxRecDepth 100000 in
set_option maxHeartbeats 1600000 in
theorem less_cells (g gv N cap i j x y : Nat) (w : World) (hv : w.cell? ⟨gv, 0, none⟩ = some (.slice (some ⟨g, 0, none⟩) N cap)) (hi : w.cell? ⟨g, i * 2, none⟩ = some (.int .i64 (x : Int))) (hj : w.cell? ⟨g, j * 2, none⟩ = some (.int .i64 (y : Int))) (hiN : i < N) (hjN : j < N) (hN : N ≤ 1000000) :
    Calls Try.prog 103 #[.int .i64 (i : Int), .int .i64 (j : Int), .pointer (some ⟨gv, 0, none⟩)] w fun e w' => e = .returned (.bool (decide (x < y))) ∧ ∃ q, w' = w.drewN q := by
  have hi0 : (0 : Int) ≤ (i : Int) := by omega
  have hj0 : (0 : Int) ≤ (j : Int) := by omega
  have hi1 : (i : Int) < (N : Int) := by omega
  have hj1 : (j : Int) < (N : Int) := by omega
  have hb : ((x : Int) < (y : Int)) ↔ x < y := by omega
  go_enter Try.func103, Try.ntmps103
  go_wp2_with fail
  go_quiet (fail)
  go_wp2_with fail
  go_ret
  exact ⟨by simp, _, rfl⟩
/-- less at two of the row -/
theorem Mm.less {w1 w : World} {bx g gv N cap : Nat} {rest : List Value} {X Y Z : List TE} {u v : TE} (h : Mm w1 w bx g gv N cap rest (X ++ u :: (Y ++ v :: Z))) {i j : Nat} (hi : i = X.length) (hj : j = X.length + 1 + Y.length) :
    Calls Try.prog 103 #[.int .i64 (i : Int), .int .i64 (j : Int), .pointer (some ⟨gv, 0, none⟩)] w fun e w' => e = .returned (.bool (decide (u.1.1 < v.1.1))) ∧ Mm w1 w' bx g gv N cap rest (X ++ u :: (Y ++ v :: Z)) := by
  obtain ⟨c0, c1, c2, c3, _⟩ := h.pk.pair hi hj
  have hl := h.len
  simp only [List.length_append, List.length_cons] at hl
  refine (less_cells g gv N cap i j u.1.1 v.1.1 w ((h.var.var.cell 0).trans rfl) c0 c2 (by omega) (by omega) h.few).mono ?_
  rintro e w' ⟨rfl, q, rfl⟩
  exact ⟨rfl, h.drewN q⟩
theorem Mm.less' {w1 w : World} {bx g gv N cap : Nat} {rest : List Value} {X Y Z : List TE} {u v : TE} (h : Mm w1 w bx g gv N cap rest (X ++ u :: (Y ++ v :: Z))) {i j : Nat} (hi : i = X.length) (hj : j = X.length + 1 + Y.length) :
    Calls Try.prog 103 #[.int .i64 (j : Int), .int .i64 (i : Int), .pointer (some ⟨gv, 0, none⟩)] w fun e w' => e = .returned (.bool (decide (v.1.1 < u.1.1))) ∧ Mm w1 w' bx g gv N cap rest (X ++ u :: (Y ++ v :: Z)) := by
  obtain ⟨c0, c1, c2, c3, _⟩ := h.pk.pair hi hj
  have hl := h.len
  simp only [List.length_append, List.length_cons] at hl
  refine (less_cells g gv N cap j i v.1.1 u.1.1 w ((h.var.var.cell 0).trans rfl) c2 c0 (by omega) (by omega) h.few).mono ?_
  rintro e w' ⟨rfl, q, rfl⟩
  exact ⟨rfl, h.drewN q⟩
theorem swap_fn (args : Array Value) (w : World) : (callFunc 130 args).run Try.prog w = ((Extern.ReflectliteSwapper.swap false args).run Try.prog w).andThen fun v w' => .ok (.value v) w' :=
  run_callFunc_extern Try.func130 (by kernel_rfl) (by kernel_rfl) (by kernel_rfl) (by kernel_rfl) args w
theorem info_place : ∃ ie, Try.prog.info? 163 = some ie ∧ ie.size = 2 := by
  have h : (Try.prog.info? 163).map (·.size) = some 2 := by kernel_rfl
  cases hi : Try.prog.info? 163 with
  | none => rw [hi] at h; cases h
  | some ie => rw [hi] at h; exact ⟨ie, rfl, by simpa using h⟩
theorem agg_place (w : World) : (isAgg 163).run Try.prog w = .ok true w := by
  simp [isAgg, run_underlying Try.underlying163, go_sem]
theorem two_at {w : World} {g o : Nat} {a b : Value} (h0 : w.cell? ⟨g, o, none⟩ = some a) (h1 : w.cell? ⟨g, o + 1, none⟩ = some b) : ∀ k v, [a, b][k]? = some v → w.cell? ⟨g, 0 + o + k, none⟩ = some v := by
  intro k v hk
  rw [Nat.zero_add]
  match k, hk with
  | 0, hk => simp at hk; rw [← hk]; exact h0
  | 1, hk => simp at hk; rw [← hk]; exact h1
theorem two_fr {w : World} {g o : Nat} (h0 : w.frozen? ⟨g, o, none⟩ = false) (h1 : w.frozen? ⟨g, o + 1, none⟩ = false) : ∀ k, k < 2 → w.frozen? ⟨g, 0 + o + k, none⟩ = false := by
  intro k hk
  rw [Nat.zero_add]
  match k, hk with
  | 0, _ => exact h0
  | 1, _ => exact h1
theorem swap_run {w : World} {g N cap : Nat} {rest : List Value} {X Y Z : List TE} {u v : TE} (h : PkAt w g rest (X ++ u :: (Y ++ v :: Z))) {i j : Nat} (hi : i = X.length) (hj : j = X.length + 1 + Y.length) (hN : (X ++ u :: (Y ++ v :: Z)).length = N) :
    (callFunc 130 #[.int .i64 (i : Int), .int .i64 (j : Int), .slice (some ⟨g, 0, none⟩) N cap, hdl]).run Try.prog w = .ok (.value (.tuple #[])) (swW w g i j (nv v.1.1) (nv v.1.2) (nv u.1.1) (nv u.1.2)) := by
  obtain ⟨c0, c1, c2, c3, f0, f1, f2, f3⟩ := h.pair hi hj
  obtain ⟨ie, hie, hs⟩ := info_place
  simp only [List.length_append, List.length_cons] at hN
  have := Lib.run_swap_cells (P := Try.prog) false 163 ie hie agg_place g 0 N cap i j (by omega) (by omega) (cellsE u) (cellsE v) (by rw [hs]; rfl) (by rw [hs]; rfl) (by simp [cellsE, nv, Value.oneCell']) (by simp [cellsE, nv, Value.oneCell']) w
    (by rw [hs]; exact two_at c0 c1) (by rw [hs]; exact two_at c2 c3) (by rw [hs]; exact two_fr f0 f1) (by rw [hs]; exact two_fr f2 f3)
  rw [swap_fn, show hdl = typeHandle Try.prog 163 from rfl, this, hs]
  simp [World.setCells, cellsE, swW]
theorem swap_run' {w : World} {g N cap : Nat} {rest : List Value} {X Y Z : List TE} {u v : TE} (h : PkAt w g rest (X ++ u :: (Y ++ v :: Z))) {i j : Nat} (hi : i = X.length) (hj : j = X.length + 1 + Y.length) (hN : (X ++ u :: (Y ++ v :: Z)).length = N) :
    (callFunc 130 #[.int .i64 (j : Int), .int .i64 (i : Int), .slice (some ⟨g, 0, none⟩) N cap, hdl]).run Try.prog w = .ok (.value (.tuple #[])) (swW w g j i (nv u.1.1) (nv u.1.2) (nv v.1.1) (nv v.1.2)) := by
  obtain ⟨c0, c1, c2, c3, f0, f1, f2, f3⟩ := h.pair hi hj
  obtain ⟨ie, hie, hs⟩ := info_place
  simp only [List.length_append, List.length_cons] at hN
  have := Lib.run_swap_cells (P := Try.prog) false 163 ie hie agg_place g 0 N cap j i (by omega) (by omega) (cellsE v) (cellsE u) (by rw [hs]; rfl) (by rw [hs]; rfl) (by simp [cellsE, nv, Value.oneCell']) (by simp [cellsE, nv, Value.oneCell']) w
    (by rw [hs]; exact two_at c2 c3) (by rw [hs]; exact two_at c0 c1) (by rw [hs]; exact two_fr f2 f3) (by rw [hs]; exact two_fr f0 f1)
  rw [swap_fn, show hdl = typeHandle Try.prog 163 from rfl, this, hs]
  simp [World.setCells, cellsE, swW]
/-- two of the row change places -/
theorem Mm.swap {w1 w : World} {bx g gv N cap : Nat} {rest : List Value} {X Y Z : List TE} {u v : TE} (h : Mm w1 w bx g gv N cap rest (X ++ u :: (Y ++ v :: Z))) {i j : Nat} (hi : i = X.length) (hj : j = X.length + 1 + Y.length) :
    ∃ w', (callFunc 130 #[.int .i64 (i : Int), .int .i64 (j : Int), .slice (some ⟨g, 0, none⟩) N cap, hdl]).run Try.prog w = .ok (.value (.tuple #[])) w' ∧ Mm w1 w' bx g gv N cap rest (X ++ v :: (Y ++ u :: Z)) :=
  ⟨_, swap_run h.pk hi hj h.len, h.more (grown_sw0 (World.grownBy.refl _ _) _ _ _ _ _ _) (h.pk.swapU hi hj) (by simp)⟩
theorem Mm.swap' {w1 w : World} {bx g gv N cap : Nat} {rest : List Value} {X Y Z : List TE} {u v : TE} (h : Mm w1 w bx g gv N cap rest (X ++ u :: (Y ++ v :: Z))) {i j : Nat} (hi : i = X.length) (hj : j = X.length + 1 + Y.length) :
    ∃ w', (callFunc 130 #[.int .i64 (j : Int), .int .i64 (i : Int), .slice (some ⟨g, 0, none⟩) N cap, hdl]).run Try.prog w = .ok (.value (.tuple #[])) w' ∧ Mm w1 w' bx g gv N cap rest (X ++ v :: (Y ++ u :: Z)) :=
  ⟨_, swap_run' h.pk hi hj h.len, h.more (grown_sw0 (World.grownBy.refl _ _) _ _ _ _ _ _) (h.pk.swapD hi hj) (by simp)⟩
end Go.Proofs.Ythpdcnjaodjjmaa.Slc

/- sort.swapRange_func, sort.rotate_func at rows of places. -/
namespace Go.Proofs.Ythpdcnjaodjjmaa.Slc
open Go Go.RowKit Go.Proofs.Ythpdcnjaodjjmaa
set_option linter.unusedVariables false

def srL (P U M V Q : List TE) (i : Nat) : List TE := P ++ V.take i ++ (U.drop i ++ (M ++ U.take i ++ (V.drop i ++ Q)))
theorem sr_here (P U M V Q : List TE) (i : Nat) (h1 : i < U.length) (h2 : i < V.length) : srL P U M V Q i = (P ++ V.take i) ++ U[i] :: ((U.drop (i + 1) ++ (M ++ U.take i)) ++ V[i] :: (V.drop (i + 1) ++ Q)) := by
  unfold srL
  rw [List.drop_eq_getElem_cons h1, List.drop_eq_getElem_cons h2]
  simp only [List.append_assoc, List.cons_append]
theorem sr_next (P U M V Q : List TE) (i : Nat) (h1 : i < U.length) (h2 : i < V.length) : srL P U M V Q (i + 1) = (P ++ V.take i) ++ V[i] :: ((U.drop (i + 1) ++ (M ++ U.take i)) ++ U[i] :: (V.drop (i + 1) ++ Q)) := by
  unfold srL
  rw [List.take_succ_eq_append_getElem h1, List.take_succ_eq_append_getElem h2]
  simp only [List.append_assoc, List.cons_append, List.nil_append]
theorem srL_len (P U M V Q : List TE) (i : Nat) (h : U.length = V.length) : (srL P U M V Q i).length = P.length + U.length + M.length + V.length + Q.length := by
  unfold srL; simp; omega
set_option maxRecDepth 100000 in
set_option maxHeartbeats 4000000 in
theorem swapRange_any (g gv N cap a b k : Nat) (rest : List Value) (P U M V Q : List TE) (w : World) (h : PkAt w g rest (P ++ U ++ (M ++ (V ++ Q)))) (hv : Var w g gv N cap) (hU : U.length = k) (hV : V.length = k) (ha : P.length = a) (hb : P.length + U.length + M.length = b)
    (hN : (P ++ U ++ (M ++ (V ++ Q))).length = N) (hN2 : N ≤ 1000000) :
    Calls Try.prog 139 #[dataV g gv N cap, .int .i64 (a : Int), .int .i64 (b : Int), .int .i64 (k : Int)] w fun e w' => e = .returned (.tuple #[]) ∧ PkAt w' g rest (P ++ V ++ (M ++ (U ++ Q))) ∧ w.grownBy w' (some g) := by
  have hN3 : P.length + U.length + M.length + V.length + Q.length = N := by rw [← hN]; simp; omega
  have h0 : srL P U M V Q 0 = P ++ U ++ (M ++ (V ++ Q)) := by simp [srL]
  have h1 : srL P U M V Q k = P ++ V ++ (M ++ (U ++ Q)) := by unfold srL; rw [List.take_of_length_le (by omega), List.take_of_length_le (by omega), List.drop_of_length_le (by omega), List.drop_of_length_le (by omega)]; simp
  have H := Lib.hid (Mm.start h hv hN hN2)
  rw [← h0] at H
  have H1 := Lib.hid h1
  have HU := Lib.hid hU
  have HV := Lib.hid hV
  have HP := Lib.hid ha
  have HB := Lib.hid hb
  have hbk : b + k ≤ N := by omega
  have hak : a + k ≤ b := by omega
  clear h h0 h1 hN hN3 hU hV ha hb hv
  unfold dataV
  go_enter Try.func139, Try.ntmps139
  go_wp2_with fail
  generalize hw1 : w.alloc (.cells #[lessV gv, swapV g N cap] 183) = w1 at *
  generalize hbx : w.heap.size = bx at *
  have Hw1 := Lib.hid hw1
  clear hw1 hbx
  go_loopw [8] (fun i wr => ∃ j : Nat, j ≤ k ∧ i = .int .i64 (j : Int) ∧ Mm w1 wr bx g gv N cap rest (srL P U M V Q j)) (fun i _ => k - (intOf i).toNat)
  case atStart => exact ⟨0, Nat.zero_le _, rfl, H.out⟩
  case round =>
    obtain ⟨j, hj, rfl, hm⟩ := hrel
    by_cases hlt : j < k
    · have e1 : j < U.length := by rw [HU.out]; exact hlt
      have e2 : j < V.length := by rw [HV.out]; exact hlt
      rw [sr_here P U M V Q j e1 e2] at hm
      have hX : a + j = (P ++ V.take j).length := by rw [List.length_append, List.length_take, HP.out, HV.out]; omega
      have hY : b + j = (P ++ V.take j).length + 1 + (U.drop (j + 1) ++ (M ++ U.take j)).length := by
        have := HU.out; have := HV.out; have := HP.out; have := HB.out
        simp; omega
      obtain ⟨w9, hsw, hm9⟩ := hm.swap hX hY
      rw [← sr_next P U M V Q j e1 e2] at hm9
      have c1 := hm.c1
      have HM9 := Lib.hid hm9
      have q1 : ((a + j : Nat) : Int) = (a : Int) + (j : Int) := by omega
      have q2 : ((b + j : Nat) : Int) = (b : Int) + (j : Int) := by omega
      rw [q1, q2] at hsw
      unfold swapV at c1
      clear hm hm9 hX hY e1 e2 q1 q2
      go_wp2_with fail
      go_roundw
      case rel => exact ⟨j + 1, by omega, by go_num, HM9.out⟩
      case measure => simp [intOf]; omega
    · obtain rfl : j = k := by omega
      have HM := Lib.hid hm
      clear hm
      go_wp2_with fail
      go_end0
      exact ⟨rfl, by rw [← H1.out]; exact HM.out.pk, (Hw1.out ▸ HM.out : Mm (w.alloc _) _ _ _ _ _ _ _ _).done⟩
def rtL (P A U V B Q : List TE) : List TE := (P ++ A) ++ U ++ ([] ++ (V ++ (B ++ Q)))
set_option maxRecDepth 100000 in
set_option maxHeartbeats 4000000 in
theorem rotate_any (g gv N cap a m b : Nat) (rest : List Value) (P X Y Q : List TE) (w : World) (h : PkAt w g rest (P ++ X ++ (Y ++ Q))) (hv : Var w g gv N cap) (ha : P.length = a) (hm : a + X.length = m) (hb : m + Y.length = b) (hX : 1 ≤ X.length) (hY : 1 ≤ Y.length)
    (hN : (P ++ X ++ (Y ++ Q)).length = N) (hN2 : N ≤ 1000000) :
    Calls Try.prog 136 #[dataV g gv N cap, .int .i64 (a : Int), .int .i64 (m : Int), .int .i64 (b : Int)] w fun e w' => e = .returned (.tuple #[]) ∧ PkAt w' g rest (P ++ Y ++ (X ++ Q)) ∧ w.grownBy w' (some g) := by
  have hN3 : P.length + X.length + Y.length + Q.length = N := by rw [← hN]; simp; omega
  have HN3 := Lib.hid hN3
  have H := Lib.hid (Mm.start h hv hN hN2)
  have HP := Lib.hid ha
  have ei : (m : Int) - (a : Int) = ((X.length : Nat) : Int) := by omega
  have ej : (b : Int) - (m : Int) = ((Y.length : Nat) : Int) := by omega
  have hmb : m ≤ b := by omega
  have hbN : b ≤ N := by omega
  have ham : a ≤ m := by omega
  have Hx := Lib.hid hX
  have Hy := Lib.hid hY
  have Hm := Lib.hid hm
  have Hb := Lib.hid hb
  clear h hN hN3 ha hX hY hm hb hv
  generalize hxl : X.length = xl at *
  generalize hyl : Y.length = yl at *
  have Hxl := Lib.hid hxl
  have Hyl := Lib.hid hyl
  clear hxl hyl
  unfold dataV
  go_enter Try.func136, Try.ntmps136
  go_wp2_with fail
  generalize hw1 : w.alloc (.cells #[lessV gv, swapV g N cap] 183) = w1 at *
  generalize hbx : w.heap.size = bx at *
  have Hw1 := Lib.hid hw1
  clear hw1 hbx
  go_loopw [8, 9] (fun i j wr => ∃ A U V B : List TE, i = .int .i64 (U.length : Int) ∧ j = .int .i64 (V.length : Int) ∧ 1 ≤ U.length ∧ 1 ≤ V.length ∧ (P ++ A).length + U.length = m ∧ m + V.length ≤ b ∧ (rtL P A U V B Q).length = N ∧ Y ++ X = A ++ (V ++ U) ++ B ∧ Mm w1 wr bx g gv N cap rest (rtL P A U V B Q)) (fun i j _ => (intOf i).toNat + (intOf j).toNat)
  case atStart =>
    refine ⟨[], X, Y, [], by rw [Hxl.out], by rw [Hyl.out], by rw [Hxl.out]; exact Hx.out, by rw [Hyl.out]; exact Hy.out, ?_, ?_, ?_, by simp, ?_⟩
    · rw [List.append_nil, HP.out, Hxl.out]; exact Hm.out
    · rw [Hyl.out]; exact Nat.le_of_eq Hb.out
    · have := HN3.out; have := Hxl.out; have := Hyl.out; simp [rtL]; omega
    · simpa [rtL] using H.out
  case round =>
    obtain ⟨A, U, V, B, rfl, rfl, hu, hv, hA, hV, hL, htgt, hpk⟩ := hrel
    have c0 := hpk.c0
    have c1 := hpk.c1
    have Hpk := Lib.hid hpk
    have Htgt := Lib.hid htgt
    have HL := Lib.hid hL
    have HA := Lib.hid hA
    clear hpk htgt hL
    obtain ⟨i, hi⟩ : ∃ i, U.length = i := ⟨_, rfl⟩
    obtain ⟨j, hj⟩ : ∃ j, V.length = j := ⟨_, rfl⟩
    obtain ⟨p, hp⟩ : ∃ p, (P ++ A).length = p := ⟨_, rfl⟩
    have Hi := Lib.hid hi
    have Hj := Lib.hid hj
    have Hp := Lib.hid hp
    rw [hi, hp] at hA
    rw [hi] at hu ⊢
    rw [hj] at hv hV ⊢
    clear hi hj hp
    have e1 : (m : Int) - (i : Int) = (p : Int) := by omega
    by_cases hij : i = j
    · have hne : ((i : Int) != (j : Int)) = false := by simp; omega
      have hc := swapRange_any g gv N cap p m i rest (P ++ A) U [] V (B ++ Q) wr Hpk.out.pk Hpk.out.var Hi.out (by rw [Hj.out]; exact hij.symm) Hp.out (by rw [Hp.out, Hi.out]; simpa using hA) HL.out hN2
      unfold dataV at hc
      have Hc := Lib.hid hc
      have Hfin : Hid ((P ++ A) ++ V ++ ([] ++ (U ++ (B ++ Q))) = P ++ Y ++ (X ++ Q)) := Lib.hid (by
        have := Htgt.out
        have h2 : P ++ (Y ++ X) ++ Q = P ++ (A ++ (V ++ U) ++ B) ++ Q := by rw [this]
        simp only [List.append_assoc, List.nil_append] at h2 ⊢
        exact h2.symm)
      clear hc hij
      go_wp2_with fail
      refine (Hc.out).mono ?_
      rintro e w2 ⟨rfl, hp2, hg2⟩
      rw [Hfin.out] at hp2
      have Hp2 := Lib.hid hp2
      have Hg2 := Lib.hid hg2
      clear hp2 hg2
      go_wp2_with fail
      go_end0
      exact ⟨rfl, Hp2.out, (Hw1.out ▸ (Hpk.out.more Hg2.out Hp2.out (by have a7 := HL.out; have h9 := congrArg List.length Hfin.out; unfold rtL; simp only [List.length_append, List.length_nil] at h9 ⊢; omega)) : Mm (w.alloc _) _ _ _ _ _ _ _ _).done⟩
    · have hne : ((i : Int) != (j : Int)) = true := by simp; omega
      by_cases hlt : j < i
      · have hU : U = U.take j ++ U.drop j := (List.take_append_drop _ _).symm
        have hc := swapRange_any g gv N cap p m j rest (P ++ A) (U.take j) (U.drop j) V (B ++ Q) wr (by have := Hpk.out.pk; unfold rtL at this; rw [hU] at this; simpa only [List.append_assoc, List.nil_append] using this) Hpk.out.var (by rw [List.length_take, Hi.out]; omega) Hj.out Hp.out
          (by rw [Hp.out, List.length_take, List.length_drop, Hi.out]; omega) (by have := HL.out; unfold rtL at this; rw [hU] at this; simpa only [List.append_assoc, List.nil_append] using this) hN2
        unfold dataV at hc
        have Hc := Lib.hid hc
        have e3 : (i : Int) - (j : Int) = (((U.drop j).length : Nat) : Int) := by rw [List.length_drop, Hi.out]; omega
        have Hd : Hid ((U.drop j).length = i - j) := Lib.hid (by rw [List.length_drop, Hi.out])
        have Ht : Hid ((U.take j).length = j) := Lib.hid (by rw [List.length_take, Hi.out]; omega)
        have Htg2 : Hid (Y ++ X = (A ++ V) ++ (U.take j ++ U.drop j) ++ B) := Lib.hid (by rw [Htgt.out, List.take_append_drop]; simp only [List.append_assoc])
        have hjI : (j : Int) < (i : Int) := by omega
        clear hc hij hU
        generalize U.drop j = U2 at *
        generalize U.take j = U1 at *
        generalize hd : U2.length = dd at *
        have Hdl := Lib.hid hd
        clear hd
        go_wp2_with fail
        refine (Hc.out).mono ?_
        rintro e w2 ⟨rfl, hp2, hg2⟩
        have Hp2 : Hid (Mm w1 w2 bx g gv N cap rest (rtL P (A ++ V) U2 U1 B Q)) := Lib.hid (Hpk.out.more hg2 (by unfold rtL; simpa only [List.append_assoc, List.nil_append] using hp2) (by have a1 := Hd.out; have a2 := Ht.out; (try have a3 := Hdl.out); have a7 := HL.out; have a8 := Hi.out; have a9 := Hj.out; unfold rtL at a7 ⊢; simp only [List.length_append, List.length_nil] at a7 ⊢; omega))
        clear hp2 hg2
        go_wp2_with fail
        go_roundw
        case rel =>
          have a1 := Hd.out; have a2 := Ht.out; have a3 := Hdl.out; have a4 := Hj.out; have a5 := Hi.out; have a6 := Hp.out; have a7 := HL.out
          refine ⟨A ++ V, U2, U1, B, by rw [a3], by rw [a2], by omega, by omega, ?_, by omega, ?_, Htg2.out, Hp2.out⟩
          · simp only [List.length_append] at a6 ⊢; omega
          · unfold rtL at a7 ⊢; simp only [List.length_append, List.length_nil] at a7 a6 ⊢; omega
        case measure =>
          have a1 := Hd.out
          simp [intOf]; omega
      · have hV' : V = V.take (j - i) ++ V.drop (j - i) := (List.take_append_drop _ _).symm
        have hc := swapRange_any g gv N cap p (m + (j - i)) i rest (P ++ A) U (V.take (j - i)) (V.drop (j - i)) (B ++ Q) wr (by have := Hpk.out.pk; unfold rtL at this; rw [hV'] at this; simpa only [List.append_assoc, List.nil_append] using this) Hpk.out.var Hi.out (by rw [List.length_drop, Hj.out]; omega) Hp.out
          (by rw [Hp.out, List.length_take, Hi.out, Hj.out]; omega) (by have := HL.out; unfold rtL at this; rw [hV'] at this; simpa only [List.append_assoc, List.nil_append] using this) hN2
        unfold dataV at hc
        have Hc := Lib.hid hc
        have Hd : Hid ((V.drop (j - i)).length = i) := Lib.hid (by rw [List.length_drop, Hj.out]; omega)
        have Ht : Hid ((V.take (j - i)).length = j - i) := Lib.hid (by rw [List.length_take, Hj.out]; omega)
        have Htg2 : Hid (Y ++ X = A ++ (V.take (j - i) ++ V.drop (j - i)) ++ (U ++ B)) := Lib.hid (by rw [Htgt.out, List.take_append_drop]; simp only [List.append_assoc])
        have hjI : ¬ ((j : Int) < (i : Int)) := by omega
        obtain ⟨q, hq⟩ : ∃ q, m + (j - i) = q := ⟨_, rfl⟩
        have e2 : (m : Int) + (j : Int) - (i : Int) = (q : Int) := by omega
        obtain ⟨r, hr⟩ : ∃ r, j - i = r := ⟨_, rfl⟩
        have e3 : (j : Int) - (i : Int) = (r : Int) := by omega
        rw [hq] at Hc
        rw [hr] at Ht Hd Htg2 Hc
        have hrij : r + i = j := by omega
        have hr1 : 1 ≤ r := by omega
        clear hc hij hV' hq hr
        generalize V.drop r = V2 at *
        generalize V.take r = V1 at *
        go_wp2_with fail
        refine (Hc.out).mono ?_
        rintro e w2 ⟨rfl, hp2, hg2⟩
        have Hp2 : Hid (Mm w1 w2 bx g gv N cap rest (rtL P A V2 V1 (U ++ B) Q)) := Lib.hid (Hpk.out.more hg2 (by unfold rtL; simpa only [List.append_assoc, List.nil_append] using hp2) (by have a1 := Hd.out; have a2 := Ht.out; (try have a3 := Hdl.out); have a7 := HL.out; have a8 := Hi.out; have a9 := Hj.out; unfold rtL at a7 ⊢; simp only [List.length_append, List.length_nil] at a7 ⊢; omega))
        clear hp2 hg2
        go_wp2_with fail
        go_roundw
        case rel =>
          have a1 := Hd.out; have a2 := Ht.out; have a4 := Hj.out; have a5 := Hi.out; have a6 := Hp.out; have a7 := HL.out
          refine ⟨A, V2, V1, U ++ B, by rw [a1], by rw [a2], by omega, by omega, by rw [a6, a1]; omega, by omega, ?_, Htg2.out, Hp2.out⟩
          unfold rtL at a7 ⊢; simp only [List.length_append, List.length_nil] at a7 a6 ⊢; omega
        case measure => simp [intOf]; omega
end Go.Proofs.Ythpdcnjaodjjmaa.Slc
