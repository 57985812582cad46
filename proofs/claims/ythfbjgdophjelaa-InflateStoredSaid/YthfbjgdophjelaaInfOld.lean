/- package inflate: reading while memory of the call's own turns; again. -/
import Derived.Test.YthfbjgdophjelaaInfFixed
import Derived.Test.YthfbjgdophjelaaInfRepeat
import Derived.Test.YthfbjgdophjelaaRegT
namespace Go.Proofs.Ythfbjgdophjelaa.Inf
open Go Go.RowKit Go.Proofs.Ythfbjgdophjelaa Go.Proofs.Ythfbjgdophjelaa.Bits Go.Proofs.Ythfbjgdophjelaa.Code
set_option linter.unusedVariables false
set_option linter.unusedSimpArgs false

/-- below 'base' nothing has turned, and of what lay below B0 nothing but blocks of the types T -/
structure OldK (base B0 : Nat) (T : List TypeId) (w w' : World) : Prop where
  os : w'.os = w.os
  tape : w'.tape = w.tape
  output : w'.output = w.output
  size : w.heap.size ≤ w'.heap.size
  block : ∀ k, k < base → w'.heap[k]? = w.heap[k]?
  other : ∀ (k : Nat) (o : Obj), k < B0 → w.heap[k]? = some o → (∀ cs t fr, o = Obj.cells cs t fr → t ∉ T) → w'.heap[k]? = some o
section
variable {base B0 : Nat} {T : List TypeId} {w w' w'' : World}
theorem OldK.refl (base B0 : Nat) (T : List TypeId) (w : World) : OldK base B0 T w w := ⟨rfl, rfl, rfl, Nat.le_refl _, fun _ _ => rfl, fun _ _ _ h _ => h⟩
theorem OldK.trans (h : OldK base B0 T w w') (k : OldK base B0 T w' w'') : OldK base B0 T w w'' :=
  ⟨k.os.trans h.os, k.tape.trans h.tape, k.output.trans h.output, Nat.le_trans h.size k.size, fun i hi => (k.block i hi).trans (h.block i hi), fun i o hi ho ht => k.other i o hi (h.other i o hi ho ht) ht⟩
theorem OldK.keeps (h : OldK base B0 T w w') (k : Keeps base T w' w'') : OldK base B0 T w w'' :=
  h.trans ⟨k.os, k.tape, k.output, k.size, k.block, fun i o _ ho ht => k.other i o ho ht⟩
theorem OldK.below (h : OldK base B0 T w w') (k : Below B0 w' w'') (hb : base ≤ B0) : OldK base B0 T w w'' :=
  h.trans ⟨k.os, k.tape, k.output, k.size, fun i hi => k.block i (by omega), fun i o hi ho _ => by rw [k.block i hi]; exact ho⟩
theorem OldK.toKeeps (h : OldK base w.heap.size T w w') : Keeps base T w w' :=
  ⟨h.os, h.tape, h.output, h.size, h.block, fun k o ho ht => h.other k o (by
    rcases Nat.lt_or_ge k w.heap.size with h | h
    · exact h
    · rw [Array.getElem?_eq_none h] at ho; cases ho) ho ht⟩
theorem OldK.blk (h : OldK base w.heap.size T w w') {g : Nat} {t : TypeId} {cs : Array Value} (hb : Blk w g t cs) (ht : t ∉ T) : Blk w' g t cs := h.toKeeps.blk hb ht
end
theorem step_app3 {P : Program} {ops : Array Oper} {o : Oper} {a : Act} {w : World} {K : Act → World → Prop} {Q : Exit → Act → World → Prop} {E : Prop} (hgd : o.guard = none) (s x : Operand) (t : TypeId)
    (hop : o.op = .call { callee := .builtin .append, args := #[s, x], argTypes := #[t, t] })
    (base : Nat) (e : TypeId) (z : Value) (size bytes : Nat) (hT : SliceTy P t e z size bytes)
    (v : Value) (n : Nat) (xs : List Value) (hs : a.eval s = v) (hown : w.ownsRow base e size v n xs)
    (A : Option Addr) (m c : Nat) (news : List Value) (hx : a.eval x = .slice A m c) (hl : news.length = m * size) (hr : SlAt w A news) (h1 : ∀ u ∈ news, u.oneCell' = true)
    (hA : A = none → m = 0) (h63 : n + m ≤ maxLen) (hbytes : (n + m) * bytes ≤ 140737488355328) (hbase : base ≤ w.heap.size)
    (hK : ∀ v' w', w'.ownsRow base e size v' (n + m) (xs ++ news) → w.grownBy w' v.ownBlock → (v'.ownBlock = v.ownBlock ∨ v'.ownBlock = some w.heap.size) → K (a.put o.dst v') w') :
    if Region.wanted o (yielded ops a.tmps) = true then Oper.wp P o a w K Q else E := by
  have hw : Region.wanted o (yielded ops a.tmps) = true := by simp [Region.wanted, hgd]
  rw [if_pos hw]
  obtain ⟨v', w', hrun, h2, h3, h4⟩ := run_app (P := P) w base t o.type e z size bytes hT v n xs hown A m c news hl hr h1 hA h63 hbytes hbase
  unfold Oper.wp
  simp [execOp, hop, resolve, invoke, builtin, hs, hx, hrun, Result.andThen]
  exact hK _ _ h2 h3 h4
theorem InAt_.old {w w' : World} {base B0 : Nat} {T : List TypeId} {A : Option Addr} {n : Nat} {xs : List UInt8} (h : InAt_ w base A n xs) (hk : OldK base B0 T w w') : InAt_ w' base A n xs :=
  ⟨h.len, h.few, fun hp => by
    obtain ⟨b, o, e, hc⟩ := h.at_ hp
    refine ⟨b, o, e, fun j v hj => ?_⟩
    rw [World.cell?_of_block (hk.block b (h.low b o e (by rw [← h.len]; simpa using hp)))]
    exact hc j v hj, h.low⟩
set_option maxRecDepth 100000 in
set_option maxHeartbeats 1600000 in
theorem get_k (base g q : Nat) (A : Option Addr) (n c pos size : Nat) (xs : List UInt8) (w : World) (hq : base ≤ q) (b0 : w.cell? ⟨g, 0, none⟩ = some (.pointer (some ⟨q, 0, none⟩))) (hsrc : SrcAt w q A n c pos) (hp : pos ≤ 8 * n) (hi : InAt_ w base A n xs) (hs : size ≤ 61) :
    Calls Try.prog 13 #[.pointer (some ⟨g, 0, none⟩), .int .i64 (size : Int)] w fun e w' =>
      RPost (getR (bitsL xs) pos size) (fun a e w' => e = .returned (.int .i64 (a.1 : Int)) ∧ SrcAt w' q A n c a.2 ∧ a.2 ≤ 8 * n) e w' ∧ Keeps q srcT w w' := by
  have Hrow : Hid ((bitsL xs).length = 8 * n) := Lib.hid (by rw [bitsL_length, hi.len])
  have HG := Lib.hid (get_any q A n c pos size xs w hsrc hi.len hi.at_ hs hp hi.few (fun b o e hp => by have := hi.low b o e hp; omega))
  clear hi hsrc
  go_enter Try.func13, Try.ntmps13
  go_wp2_with fail
  refine (HG.out).mono ?_
  rintro e w2 ⟨hcase, hk2⟩
  have HK2 := Lib.hid hk2
  clear hk2 b0 HG
  rcases hcase with ⟨h1, rfl, hs2⟩ | ⟨h1, rfl, _⟩
  · have HS2 := Lib.hid hs2
    clear hs2
    go_wp2_with fail
    go_ret
    exact ⟨ok_rpost (a := (num (((bitsL xs).drop pos).take size), pos + size)) (by unfold getR; rw [Hrow.out, if_pos h1]) ⟨rfl, HS2.out, h1⟩, HK2.out⟩
  · go_wp2_with fail
    refine (fail_any 7 _).mono ?_
    rintro e w3 ⟨rfl, rfl⟩
    unfold stopE
    go_wp2_with fail
    exact ⟨rfl, bad_rpost (by unfold getR; rw [Hrow.out, if_neg (by omega)]), HK2.out⟩
set_option maxRecDepth 100000 in
set_option maxHeartbeats 1600000 in
theorem sym_k (base tb g q tp : Nat) (A : Option Addr) (n c pos : Nat) (xs : List UInt8) (ls : List Nat) (w : World) (hq : base ≤ q) (b0 : w.cell? ⟨g, 0, none⟩ = some (.pointer (some ⟨q, 0, none⟩))) (hsrc : SrcAt w q A n c pos) (hp : pos ≤ 8 * n) (hi : InAt_ w base A n xs)
    (hT : TabAt w tb tp ls) (hl : ∀ x ∈ ls, x ≤ 15) (hr : room ls ≤ 32768) (hlen : ls.length ≤ 288) :
    Calls Try.prog 25 #[.pointer (some ⟨g, 0, none⟩), .pointer (some ⟨tp, 0, none⟩)] w fun e w' =>
      RPost (symR (bitsL xs) ls pos) (fun a e w' => e = .returned (.int .i64 (a.1 : Int)) ∧ SrcAt w' q A n c a.2 ∧ a.2 ≤ 8 * n) e w' ∧ Keeps q srcT w w' := by
  have HG := Lib.hid (tread_any tb tp q A n c pos xs ls w hT hsrc hi.len hi.at_ hp hi.few (fun b o e hp => by have := hi.low b o e hp; omega) hl hr hlen)
  clear hi hsrc hT hl hr hlen
  go_enter Try.func25, Try.ntmps25
  go_wp2_with fail
  refine (HG.out).mono ?_
  rintro e w2 ⟨⟨k, m, z, hn, rfl, hz⟩, hk2⟩
  have HK2 := Lib.hid hk2
  have HZ := Lib.hid hz
  have HN := Lib.hid hn
  clear hk2 hz hn b0 HG
  by_cases h0 : z = 0
  · subst h0
    go_wp2_with fail
    go_ret
    refine ⟨?_, HK2.out⟩
    unfold RPost symR
    rw [HN.out]
    exact ⟨rfl, (HZ.out (by simp)).1, (HZ.out (by simp)).2⟩
  · have hz1 : (z != 0) = true := by simpa using h0
    go_wp2_with fail
    refine (fail_any z _).mono ?_
    rintro e w3 ⟨rfl, rfl⟩
    unfold stopE
    go_wp2_with fail
    refine ⟨rfl, ?_, HK2.out⟩
    unfold RPost symR
    rw [HN.out, if_neg (show ¬ (k, m, z).2.2 = 0 from h0)]
    rfl
theorem natV_oneCell (l : List Nat) : ∀ u ∈ l.map natV, u.oneCell' = true := by
  intro u hu
  obtain ⟨x, _, rfl⟩ := List.mem_map.1 hu
  rfl
/-- what again leaves: the row of numbers in its cell, the number of all in another one -/
structure AgAt (w : World) (B gl gn n : Nat) (l : List Nat) : Prop where
  gle : B ≤ gl
  row : ∃ vl, Blk w gl 23 #[vl] ∧ w.ownsRow B 3 1 vl l.length (l.map natV) ∧ vl.ownBlock ≠ some gn
  num : Blk w gn 3 #[.int .i64 (n : Int)]
  fit : l.length ≤ n
  few : n ≤ 1000
set_option maxRecDepth 100000 in
set_option maxHeartbeats 1600000 in
theorem again_any (B gl gn n v k : Nat) (l : List Nat) (w : World) (h : AgAt w B gl gn n l) (h1 : 1 ≤ k) (hk : k ≤ 1000) (hB : B ≤ w.heap.size) :
    Calls Try.prog 30 #[.int .i64 (v : Int), .int .i64 (k : Int), .pointer (some ⟨gl, 0, none⟩), .pointer (some ⟨gn, 0, none⟩)] w fun e w' =>
      RPost (againR n l v k) (fun m e w' => e = .returned (.tuple #[]) ∧ AgAt w' B gl gn n m) e w' ∧ Below B w w' := by
  obtain ⟨hgl, ⟨vl, hbl, hol, hne⟩, hbn, hfit, hfew⟩ := h
  obtain ⟨Al, cl, rfl, _⟩ := own_slat hol
  obtain ⟨L, hL⟩ : ∃ L, L = l.length := ⟨_, rfl⟩
  rw [← hL] at hbl hol hfit hne
  have HL := Lib.hid hL
  have b0 : w.cell? ⟨gl, 0, none⟩ = some (.slice Al L cl) := by rw [hbl.cell]; rfl
  have b1 : w.cell? ⟨gn, 0, none⟩ = some (.int .i64 (n : Int)) := by rw [hbn.cell]; rfl
  have hlt := hbl.lt
  have hltn := hbn.lt
  have HBl := Lib.hid hbl
  have HBn := Lib.hid hbn
  have HOl := Lib.hid hol
  have HNe := Lib.hid hne
  clear hbl hol hbn hne hL
  have hw1 : IntKind.i64.wrap ((L : Int) + (k : Int)) = (L : Int) + (k : Int) := IntWalk.i64_in _ (by omega)
  by_cases hn : n < L + k
  · have hn' : (n : Int) < (L : Int) + (k : Int) := by omega
    have HU : Hid (againR n l v k = .bad 8) := Lib.hid (by unfold againR; rw [if_pos (by rw [← HL.out]; exact hn)])
    go_enter Try.func30, Try.ntmps30
    go_wp2_with fail
    refine (fail_any 8 _).mono ?_
    rintro e w3 ⟨rfl, rfl⟩
    unfold stopE
    go_wp2_with fail
    exact ⟨rfl, bad_rpost HU.out, Below.refl _ _⟩
  · have hn' : ¬ (n : Int) < (L : Int) + (k : Int) := by omega
    have HU : Hid (againR n l v k = .ok (l ++ List.replicate k v)) := Lib.hid (by unfold againR; rw [if_neg (by rw [← HL.out]; exact hn)])
    go_enter Try.func30, Try.ntmps30
    go_wp2_with fail
    refine wp_region_S (fun W => W.cell? ⟨gl, 0, none⟩ = some (.slice Al L cl)) 6 (by kernel_rfl) ?_
    have hHeld : w.drew.cell? ⟨gl, 0, none⟩ = some (.slice Al L cl) := b0
    obtain ⟨w2, hw2⟩ : ∃ w2, w2 = w.drew := ⟨_, rfl⟩
    have Hb2 : Hid (Below w.heap.size w w2) := Lib.hid (by rw [hw2]; exact (Below.refl _ _).drew)
    rw [← hw2] at hHeld ⊢
    clear hw2 b0 b1
    refine wpAnyS_takeT (i := 0) (v := ?va0) (by kernel_rfl) (by kernel_rfl) rfl (by kernel_rfl) (by kernel_rfl) (by kernel_rfl) (fun _ _ _ h => h) (by rfl) (by assumption) ?hya0 ?resta0
    case hya0 => (intro W hSW; (try dsimp only at hSW); go_simp; try with_reducible rfl)
    (try simp only [Act.put, List.getElem_toArray, List.getElem_cons_zero, List.getElem_cons_succ, List.setIfInBounds_toArray, List.set_cons_zero, List.set_cons_succ])
    refine wpAnyS_takeT (i := 1) (v := ?va1) (by kernel_rfl) (by kernel_rfl) rfl (by kernel_rfl) (by kernel_rfl) (by kernel_rfl) (fun _ _ _ h => h) (by rfl) (by assumption) ?hya1 ?resta1
    case hya1 => (intro W hSW; (try dsimp only at hSW); go_simp; try with_reducible rfl)
    (try simp only [Act.put, List.getElem_toArray, List.getElem_cons_zero, List.getElem_cons_succ, List.setIfInBounds_toArray, List.set_cons_zero, List.set_cons_succ])
    refine wpAnyS_takeT (i := 3) (v := ?va3) (by kernel_rfl) (by kernel_rfl) rfl (by kernel_rfl) (by kernel_rfl) (by kernel_rfl) (fun _ _ _ h => h) (by rfl) (by assumption) ?hya3 ?resta3
    case hya3 => (intro W hSW; (try dsimp only at hSW); go_simp; try with_reducible rfl)
    (try simp only [Act.put, List.getElem_toArray, List.getElem_cons_zero, List.getElem_cons_succ, List.setIfInBounds_toArray, List.set_cons_zero, List.set_cons_succ])
    refine wpAnyS_only (i := 2) rfl (by kernel_rfl) (fun K hK => ?_)
    go_simp
    clear hHeld
    have Hb3 := Lib.hid (Hb2.out.alloc Hb2.out.size (.cells #[.int .i64 (v : Int)] 3))
    have Hv3 : Hid (SlAt (w2.alloc (.cells #[.int .i64 (v : Int)] 3)) (some ⟨w2.heap.size, 0, none⟩) [.int .i64 (v : Int)]) := Lib.hid (SlAt.of_heap (heap_alloc_new _ _) rfl)
    refine hK.out _ _ ((Blk.below HBl.out Hb3.out hlt).cell 0) (fun hHeld => ?_)
    clear hK K
    (try simp only [Act.put, List.getElem_toArray, List.getElem_cons_zero, List.getElem_cons_succ, List.setIfInBounds_toArray, List.set_cons_zero, List.set_cons_succ])
    generalize w2.alloc (.cells #[.int .i64 (v : Int)] 3) = w3 at *
    generalize w2.heap.size = g3 at *
    refine wpAnyS_only (i := 4) rfl (by kernel_rfl) (fun K hK => ?_)
    go_simp
    go_at_call 31
    refine (repeat1_any (some ⟨g3, 0, none⟩) 1 k (v : Int) w3 Hv3.out h1 hk).mono ?_
    rintro e w4 ⟨⟨A4, rfl, hs4⟩, hb4⟩
    have Hb4 := Lib.hid (Hb3.out.trans (hb4.mono Hb3.out.size))
    have HS4 := Lib.hid hs4
    clear hb4 hs4 hHeld
    refine hK.out _ _ ((Blk.below HBl.out Hb4.out hlt).cell 0) (fun hHeld => ?_)
    clear hK K
    (try simp only [Act.put, List.getElem_toArray, List.getElem_cons_zero, List.getElem_cons_succ, List.setIfInBounds_toArray, List.set_cons_zero, List.set_cons_succ])
    have HOl4 := Lib.hid (own_keep HOl.out Hb4.out)
    have hBw4 : B ≤ w4.heap.size := Nat.le_trans hB Hb4.out.size
    obtain ⟨X, hX⟩ : ∃ X, X = List.replicate k (Value.int .i64 (v : Int)) := ⟨_, rfl⟩
    have HX := Lib.hid hX
    have hXl : X.length = k * 1 := by rw [hX]; simp
    have HXo : Hid (∀ u ∈ X, u.oneCell' = true) := Lib.hid (by rw [hX]; intro u hu; rw [List.eq_of_mem_replicate hu]; rfl)
    rw [← hX] at HS4
    clear hX
    have hA4 : A4 = none → k = 0 := fun e => by
      obtain ⟨b, o, e', _⟩ := HS4.out (by rw [hXl]; omega)
      rw [e] at e'
      cases e'
    refine wpAnyS_only (i := 5) rfl (by kernel_rfl) (fun K hK => ?_)
    refine step_app3 rfl (.tmp 13) (.tmp 17) _ rfl B 3 _ 1 8 tyI (.slice Al L cl) L (l.map natV) (by simp [Act.eval]) HOl4.out A4 k k X (by simp [Act.eval]) hXl HS4.out HXo.out hA4 (by unfold maxLen; omega) (by omega) hBw4 ?_
    intro v5 w5 hown5 hg5 hwhere5
    have HO5 := Lib.hid hown5
    have HG5 := Lib.hid hg5
    have HW5 := Lib.hid hwhere5
    clear hown5 hg5 hwhere5 hHeld
    have HB4 := Lib.hid (Blk.below HBl.out Hb4.out hlt)
    have HBn4 := Lib.hid (Blk.below HBn.out Hb4.out hltn)
    have HB5 := Lib.hid (HB4.out.grown HG5.out (own_ne HOl4.out HB4.out (by decide)))
    have HBn5 := Lib.hid (HBn4.out.grown HG5.out HNe.out)
    have hlt4 := HBn4.out.lt
    refine hK.out _ _ (HB5.out.cell 0) (fun hHeld => ?_)
    clear hK K
    (try simp only [Act.put, List.getElem_toArray, List.getElem_cons_zero, List.getElem_cons_succ, List.setIfInBounds_toArray, List.set_cons_zero, List.set_cons_succ])
    obtain ⟨A5, c5, rfl, _⟩ := own_slat HO5.out
    have f5 := HB5.out.frozen 0
    refine wpAnyS_last rfl (by kernel_rfl) (by kernel_rfl) (fun K hK => ?_)
    go_simp
    refine hK.out _ _ ?_
    clear hK K
    clear hHeld
    go_wp2_with fail
    go_end0
    have hb5 : Below B w4 w5 := ⟨HG5.out.os, HG5.out.tape, HG5.out.output, HG5.out.size, fun i hi => HG5.out.block i (by omega) (fun e => by have := (HOl4.out.lt i e.symm).1; omega)⟩
    refine ⟨ok_rpost HU.out ⟨rfl, hgl, ⟨_, HB5.out.set_ 0 _, ?_, ?_⟩, HBn5.out.far (p := ⟨gl, 0, none⟩) ?_ _, ?_, hfew⟩, ((Hb4.out.mono hB).trans hb5).setCell (p := ⟨gl, 0, none⟩) hgl _⟩
    · have h6 : (w5.setCell ⟨gl, 0, none⟩ (.slice A5 (L + k) c5)).ownsRow B 3 1 (.slice A5 (L + k) c5) (L + k) (l.map natV ++ X) := ((Keeps.refl B [23] w5).setBlk HB5.out (by simp) hgl 0 _).own HO5.out (by decide)
      rw [List.length_append, List.length_replicate, ← HL.out, List.map_append, List.map_replicate]
      rw [HX.out] at h6
      exact h6
    · intro e
      rcases HW5.out with h | h
      · exact HNe.out (h.symm.trans e)
      · rw [h] at e
        injection e with e
        omega
    · intro e
      have e : gn = gl := e
      subst e
      have h1 := HBl.out
      have h2 := HBn.out
      unfold Blk at h1 h2
      rw [h1] at h2
      cases h2
    · rw [List.length_append, List.length_replicate, ← HL.out]
      omega
end Go.Proofs.Ythfbjgdophjelaa.Inf
