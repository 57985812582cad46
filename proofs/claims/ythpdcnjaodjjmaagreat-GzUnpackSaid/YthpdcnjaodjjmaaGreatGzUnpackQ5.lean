/- texts joined: RegT InfOld InfBody InfLen InfOrd BlkHead RtBlock. -/
import Derived.Test.YthpdcnjaodjjmaaGreatGzUnpackQ4
import Derived.StillTailTactics
import Derived.Laws.Tables
import Derived.Laws.Rows
/- a region that draws its order and ends in one operation that waits for all others, be it through others. No program in sight. -/
namespace Go.Proofs.YthpdcnjaodjjmaaGreat
open Go
set_option linter.unusedVariables false

section
variable {P : Program} {ops : Array Oper} {Q : Exit → Act → World → Prop} {md : Region.Mode} {S : World → Prop} {n : Nat}
def reachB (md : Region.Mode) (ops : Array Oper) : Nat → Nat → Nat → Bool
 | 0, _, _ => false
 | f + 1, n, i => match ops[n]? with
  | none => false
  | some o => o.after.any fun e => Region.binds md e && (e.on == i || reachB md ops f e.on i)
def Closed (md : Region.Mode) (ops : Array Oper) (listed : Array Bool) : Prop := ∀ j o, ops[j]? = some o → listed.getD j false = true → ∀ e ∈ o.after, Region.binds md e = true → listed.getD e.on false = true
def closedB (md : Region.Mode) (ops : Array Oper) (listed : Array Bool) : Bool := (List.range ops.size).all fun j => match ops[j]? with
 | none => true
 | some o => !listed.getD j false || o.after.all fun e => !Region.binds md e || listed.getD e.on false
theorem closed_of {listed : Array Bool} (h : closedB md ops listed = true) : Closed md ops listed := by
 intro j o ho hl e he hb
 unfold closedB at h
 rw [List.all_eq_true] at h
 have hj : j < ops.size := by
  rcases Nat.lt_or_ge j ops.size with h1 | h1
  ·exact h1
  ·rw [Array.getElem?_eq_none h1] at ho; cases ho
 have h1 := h j (List.mem_range.2 hj)
 rw [ho] at h1
 simp only [hl, Bool.not_true, Bool.false_or, Array.all_eq_true] at h1
 obtain ⟨m, hm, rfl⟩ := Array.mem_iff_getElem.1 he
 have h2 := h1 m hm
 rw [hb] at h2
 simpa using h2
theorem closed_set {listed : Array Bool} (h : Closed md ops listed) {j : Nat} (hj : j ∈ Region.ready md ops listed) : Closed md ops (listed.setIfInBounds j true) := by
 intro k o ho hl e he hb
 by_cases hkj : k = j
 ·subst hkj
  obtain ⟨_, o', ho', hall⟩ := mem_ready.1 hj
  rw [ho] at ho'
  injection ho' with ho'
  subst ho'
  exact getD_set_true (hall e he hb)
 ·rw [getD_set_ne false (Ne.symm hkj)] at hl
  exact getD_set_true (h k o ho hl e he hb)
theorem reach_listed {listed : Array Bool} (h : Closed md ops listed) : ∀ (f n i : Nat), reachB md ops f n i = true → (∀ o, ops[n]? = some o → ∀ e ∈ o.after, Region.binds md e = true → listed.getD e.on false = true) → listed.getD i false = true
 | 0, n, i, hr, _ => by cases hr
 | f + 1, n, i, hr, hn => by
  unfold reachB at hr
  cases ho : ops[n]? with
  | none => rw [ho] at hr; cases hr
  | some o =>
   rw [ho] at hr
   simp only at hr
   rw [Array.any_eq_true] at hr
   obtain ⟨m, hm, he⟩ := hr
   simp only [Bool.and_eq_true, Bool.or_eq_true, beq_iff_eq] at he
   have hl := hn o ho _ (Array.getElem_mem hm) he.1
   rcases he.2 with h1 | h1
   ·rw [h1] at hl; exact hl
   ·exact reach_listed h f _ i h1 (fun o' ho' e' he' hb' => h _ o' ho' hl e' he' hb')
theorem not_ready {listed : Array Bool} (h : Closed md ops listed) {f i : Nat} (hl : reachB md ops f n i = true) (hr : i ∈ Region.ready md ops listed) : n ∉ Region.ready md ops listed := fun hn => by
 obtain ⟨_, o, ho, hall⟩ := mem_ready.1 hn
 have h1 := reach_listed h f n i hl (fun o' ho' e he hb => by
  rw [ho] at ho'
  injection ho' with ho'
  subst ho'
  exact hall e he hb)
 have h0 := (mem_ready.1 hr).1
 rcases Nat.lt_or_ge i listed.size with h' | h'
 ·simp [h'] at h0 h1
  rw [h0] at h1
  cases h1
 ·simp [Array.getElem?_eq_none h'] at h1
theorem wpAnyS_firstT {f i : Nat} {oi : Oper} {v : Value} (hl : reachB md ops f n i = true) (hi : ops[i]? = some oi) (hsel : ∀ (j : Nat) (o : Oper) cs b, ops[j]? = some o → o.op ≠ .select cs b)
  (hQ : ∀ c a w, Q (.panic c) (a.put oi.dst v) w → Q (.panic c) a w) :
  ∀ (fuel : Nat) (listed : Array Bool) (a : Act) (w : World), Closed md ops listed →
   (∀ j oj, ops[j]? = some oj → j ≠ i → listed.getD j true = false → (∀ e ∈ oj.after, Region.binds md e = true → e.on ≠ i) → oi.apart ops oj = true) →
   i ∈ Region.ready md ops listed → YieldsIf P ops S oi v a → S w →
   wpAnyS P md ops Q S n fuel (listed.setIfInBounds i true) (a.put oi.dst v) w → wpAnyS P md ops Q S n (fuel + 1) listed a w := by
 intro fuel
 induction fuel with
 | zero =>
  intro listed a w _ _ hr hy hS H
  refine ⟨fun h => (by rw [h] at hr; cases hr), fun j hj => ?_⟩
  by_cases hji : j = i
  ·subst hji; exact hy.wpOp hi hS ⟨fun _ => hS, H⟩
  ·have := ready_mono hj hji
   rw [H.1] at this
   cases this
 | succ fuel ih =>
  intro listed a w hc hfree hr hy hS H
  refine ⟨fun h => (by rw [h] at hr; cases hr), fun j hj => ?_⟩
  by_cases hji : j = i
  ·subst hji; exact hy.wpOp hi hS ⟨fun _ => hS, H⟩
  ·have h1 := H.2 j (ready_mono hj hji)
   obtain ⟨hjun, oj, hoj, hall⟩ := mem_ready.1 hj
   have hnot : ∀ e ∈ oj.after, Region.binds md e = true → e.on ≠ i := fun e he hb heq => by
    have h1 := hall e he hb
    have h0 := (mem_ready.1 hr).1
    rw [heq] at h1
    rcases Nat.lt_or_ge i listed.size with h' | h'
    ·simp [h'] at h0 h1; rw [h0] at h1; cases h1
    ·simp [Array.getElem?_eq_none h'] at h1
   have hjn : j ≠ n := fun e => by
    subst e
    exact not_ready hc hl hr hj
   have h2 := wpOp_putIf hoj (hfree j oj hoj hji hjun hnot) (fun cs b => hsel i oi cs b hi) (fun cs b => hsel j oj cs b hoj) hQ hy h1
   have hfree' : ∀ k ok, ops[k]? = some ok → k ≠ i → (listed.setIfInBounds j true).getD k true = false →
     (∀ e ∈ ok.after, Region.binds md e = true → e.on ≠ i) → oi.apart ops ok = true := fun k ok hk hki hun hno => by
    refine hfree k ok hk hki ?_ hno
    by_cases hjk : j = k
    ·subst hjk; exact hjun
    ·rw [getD_set_ne true hjk] at hun; exact hun
   refine wpOp_mono (fun a' w' h3 => ⟨h3.2.1, ih (listed.setIfInBounds j true) a' w' (closed_set hc hj) hfree' (ready_mono hr (Ne.symm hji)) h3.1 (h3.2.1 hjn) ?_⟩) h2
   rw [Array.setIfInBounds_comm _ _ hji]
   exact h3.2.2
theorem wpAnyS_takeT {i : Nat} {oi : Oper} {v : Value} {fuel : Nat} {listed : Array Bool} {a : Act} {w : World} (hl : reachB md ops ops.size n i = true) (hcl : closedB md ops listed = true) (hi : ops[i]? = some oi)
  (hs : Region.noSelect ops = true) (hf : Region.free md ops listed i = true) (hr : (Region.ready md ops listed).contains i = true)
  (hQ : ∀ c a w, Q (.panic c) (a.put oi.dst v) w → Q (.panic c) a w) (hw : Region.wanted oi (yielded ops a.tmps) = true) (hS : S w) (hy : ∀ w, S w → (execOp a.eval oi).run P w = .ok (.value v) w)
  (h : wpAnyS P md ops Q S n fuel (listed.setIfInBounds i true) (a.put oi.dst v) w) : wpAnyS P md ops Q S n (fuel + 1) listed a w :=
 wpAnyS_firstT hl hi (Region.noSelect_spec hs) hQ fuel listed a w (closed_of hcl) (Region.free_spec hi hf) (by simpa using hr) (.inl ⟨hw, hy⟩) hS h
end
end Go.Proofs.YthpdcnjaodjjmaaGreat

/- package inflate: reading while memory of the call's own turns; again. -/
namespace Go.Proofs.YthpdcnjaodjjmaaGreat.Inf
open Go Go.RowKit Go.Proofs.YthpdcnjaodjjmaaGreat Go.Proofs.YthpdcnjaodjjmaaGreat.Bits Go.Proofs.YthpdcnjaodjjmaaGreat.Code
set_option linter.unusedVariables false
set_option linter.unusedSimpArgs false

structure OldK (base B0 : Nat) (T : List TypeId) (w w' : World) : Prop where
 os : w'.os = w.os
 tape : w'.tape = w.tape
 output : w'.output = w.output
 size : w.heap.size ≤ w'.heap.size
 block : ∀ k, k < base → w'.heap[k]? = w.heap[k]?
 other : ∀ (k : Nat) (o : Obj), k < B0 → w.heap[k]? = some o → (∀ cs t fr, o = Obj.cells cs t fr → t ∉ T) → w'.heap[k]? = some o
section
variable {base B0 : Nat} {T : List TypeId} {w w' w'' : World}
theorem OldK.refl (base B0 : Nat) (T : List TypeId) (w : World) : OldK base B0 T w w := ⟨rfl, rfl, rfl, Nat.le_refl _, fun _ _ => rfl, fun _ _ _ h _ => h⟩
theorem OldK.trans (h : OldK base B0 T w w') (k : OldK base B0 T w' w'') : OldK base B0 T w w'' :=
 ⟨k.os.trans h.os, k.tape.trans h.tape, k.output.trans h.output, Nat.le_trans h.size k.size, fun i hi => (k.block i hi).trans (h.block i hi), fun i o hi ho ht => k.other i o hi (h.other i o hi ho ht) ht⟩
theorem OldK.keeps (h : OldK base B0 T w w') (k : Keeps base T w' w'') : OldK base B0 T w w'' :=
 h.trans ⟨k.os, k.tape, k.output, k.size, k.block, fun i o _ ho ht => k.other i o ho ht⟩
theorem OldK.below (h : OldK base B0 T w w') (k : Below B0 w' w'') (hb : base ≤ B0) : OldK base B0 T w w'' :=
 h.trans ⟨k.os, k.tape, k.output, k.size, fun i hi => k.block i (by omega), fun i o hi ho _ => by rw [k.block i hi]; exact ho⟩
theorem OldK.toKeeps (h : OldK base w.heap.size T w w') : Keeps base T w w' :=
 ⟨h.os, h.tape, h.output, h.size, h.block, fun k o ho ht => h.other k o (by
  rcases Nat.lt_or_ge k w.heap.size with h | h
  ·exact h
  ·rw [Array.getElem?_eq_none h] at ho; cases ho) ho ht⟩
theorem OldK.blk (h : OldK base w.heap.size T w w') {g : Nat} {t : TypeId} {cs : Array Value} (hb : Blk w g t cs) (ht : t ∉ T) : Blk w' g t cs := h.toKeeps.blk hb ht
end
theorem step_app3 {P : Program} {ops : Array Oper} {o : Oper} {a : Act} {w : World} {K : Act → World → Prop} {Q : Exit → Act → World → Prop} {E : Prop} (hgd : o.guard = none) (s x : Operand) (t : TypeId)
  (hop : o.op = .call { callee := .builtin .append, args := #[s, x], argTypes := #[t, t] })
  (base : Nat) (e : TypeId) (z : Value) (size bytes : Nat) (hT : SliceTy P t e z size bytes)
  (v : Value) (n : Nat) (xs : List Value) (hs : a.eval s = v) (hown : w.ownsRow base e size v n xs)
  (A : Option Addr) (m c : Nat) (news : List Value) (hx : a.eval x = .slice A m c) (hl : news.length = m * size) (hr : SlAt w A news) (h1 : ∀ u ∈ news, u.oneCell' = true)
  (hA : A = none → m = 0) (h63 : n + m ≤ maxLen) (hbytes : (n + m) * bytes ≤ 140737488355328) (hbase : base ≤ w.heap.size)
  (hK : ∀ v' w', w'.ownsRow base e size v' (n + m) (xs ++ news) → w.grownBy w' v.ownBlock → (v'.ownBlock = v.ownBlock ∨ v'.ownBlock = some w.heap.size) → K (a.put o.dst v') w') :
  if Region.wanted o (yielded ops a.tmps) = true then Oper.wp P o a w K Q else E := by
 have hw : Region.wanted o (yielded ops a.tmps) = true := by simp [Region.wanted, hgd]
 rw [if_pos hw]
 obtain ⟨v', w', hrun, h2, h3, h4⟩ := run_app (P := P) w base t o.type e z size bytes hT v n xs hown A m c news hl hr h1 hA h63 hbytes hbase
 unfold Oper.wp
 simp [execOp, hop, resolve, invoke, builtin, hs, hx, hrun, Result.andThen]
 exact hK _ _ h2 h3 h4
theorem InAt_.old {w w' : World} {base B0 : Nat} {T : List TypeId} {A : Option Addr} {n : Nat} {xs : List UInt8} (h : InAt_ w base A n xs) (hk : OldK base B0 T w w') : InAt_ w' base A n xs :=
 ⟨h.len, h.few, fun hp => by
  obtain ⟨b, o, e, hc⟩ := h.at_ hp
  refine ⟨b, o, e, fun j v hj => ?_⟩
  rw [World.cell?_of_block (hk.block b (h.low b o e (by rw [← h.len]; simpa using hp)))]
  exact hc j v hj, h.low⟩
set_option maxRecDepth 100000 in
set_option maxHeartbeats 1600000 in
theorem get_k (base g q : Nat) (A : Option Addr) (n c pos size : Nat) (xs : List UInt8) (w : World) (hq : base ≤ q) (b0 : w.cell? ⟨g, 0, none⟩ = some (.pointer (some ⟨q, 0, none⟩))) (hsrc : SrcAt w q A n c pos) (hp : pos ≤ 8 * n) (hi : InAt_ w base A n xs) (hs : size ≤ 61) :
  Calls Tryz.prog 66 #[.pointer (some ⟨g, 0, none⟩), .int .i64 (size : Int)] w fun e w' =>
   RPost (getR (bitsL xs) pos size) (fun a e w' => e = .returned (.int .i64 (a.1 : Int)) ∧ SrcAt w' q A n c a.2 ∧ a.2 ≤ 8 * n) e w' ∧ Keeps q srcT w w' := by
 have Hrow : Hid ((bitsL xs).length = 8 * n) := Lib.hid (by rw [bitsL_length, hi.len])
 have HG := Lib.hid (get_any q A n c pos size xs w hsrc hi.len hi.at_ hs hp hi.few (fun b o e hp => by have := hi.low b o e hp; omega))
 clear hi hsrc
 go_enter Tryz.func66, Tryz.ntmps66
 go_wp2_with fail
 refine (HG.out).mono ?_
 rintro e w2 ⟨hcase, hk2⟩
 have HK2 := Lib.hid hk2
 clear hk2 b0 HG
 rcases hcase with ⟨h1, rfl, hs2⟩ | ⟨h1, rfl, _⟩
 ·have HS2 := Lib.hid hs2
  clear hs2
  go_wp2_with fail
  go_ret
  exact ⟨ok_rpost (a := (num (((bitsL xs).drop pos).take size), pos + size)) (by unfold getR; rw [Hrow.out, if_pos h1]) ⟨rfl, HS2.out, h1⟩, HK2.out⟩
 ·go_wp2_with fail
  refine (fail_any 7 _).mono ?_
  rintro e w3 ⟨rfl, rfl⟩
  unfold stopE
  go_wp2_with fail
  exact ⟨rfl, bad_rpost (by unfold getR; rw [Hrow.out, if_neg (by omega)]), HK2.out⟩
set_option maxRecDepth 100000 in
set_option maxHeartbeats 1600000 in
theorem sym_k (base tb g q tp : Nat) (A : Option Addr) (n c pos : Nat) (xs : List UInt8) (ls : List Nat) (w : World) (hq : base ≤ q) (b0 : w.cell? ⟨g, 0, none⟩ = some (.pointer (some ⟨q, 0, none⟩))) (hsrc : SrcAt w q A n c pos) (hp : pos ≤ 8 * n) (hi : InAt_ w base A n xs)
  (hT : TabAt w tb tp ls) (hl : ∀ x ∈ ls, x ≤ 15) (hr : room ls ≤ 32768) (hlen : ls.length ≤ 288) :
  Calls Tryz.prog 94 #[.pointer (some ⟨g, 0, none⟩), .pointer (some ⟨tp, 0, none⟩)] w fun e w' =>
   RPost (symR (bitsL xs) ls pos) (fun a e w' => e = .returned (.int .i64 (a.1 : Int)) ∧ SrcAt w' q A n c a.2 ∧ a.2 ≤ 8 * n) e w' ∧ Keeps q srcT w w' := by
 have HG := Lib.hid (tread_any tb tp q A n c pos xs ls w hT hsrc hi.len hi.at_ hp hi.few (fun b o e hp => by have := hi.low b o e hp; omega) hl hr hlen)
 clear hi hsrc hT hl hr hlen
 go_enter Tryz.func94, Tryz.ntmps94
 go_wp2_with fail
 refine (HG.out).mono ?_
 rintro e w2 ⟨⟨k, m, z, hn, rfl, hz⟩, hk2⟩
 have HK2 := Lib.hid hk2
 have HZ := Lib.hid hz
 have HN := Lib.hid hn
 clear hk2 hz hn b0 HG
 by_cases h0 : z = 0
 ·subst h0
  go_wp2_with fail
  go_ret
  refine ⟨?_, HK2.out⟩
  unfold RPost symR
  rw [HN.out]
  exact ⟨rfl, (HZ.out (by simp)).1, (HZ.out (by simp)).2⟩
 ·have hz1 : (z != 0) = true := by simpa using h0
  go_wp2_with fail
  refine (fail_any z _).mono ?_
  rintro e w3 ⟨rfl, rfl⟩
  unfold stopE
  go_wp2_with fail
  refine ⟨rfl, ?_, HK2.out⟩
  unfold RPost symR
  rw [HN.out, if_neg (show ¬ (k, m, z).2.2 = 0 from h0)]
  rfl
structure AgAt (w : World) (B gl gn n : Nat) (l : List Nat) : Prop where
 gle : B ≤ gl
 row : ∃ vl, Blk w gl 23 #[vl] ∧ w.ownsRow B 3 1 vl l.length (l.map natV) ∧ vl.ownBlock ≠ some gn
 num : Blk w gn 3 #[.int .i64 (n : Int)]
 fit : l.length ≤ n
 few : n ≤ 1000
set_option maxRecDepth 100000 in
set_option maxHeartbeats 1600000 in
theorem again_any (B gl gn n v k : Nat) (l : List Nat) (w : World) (h : AgAt w B gl gn n l) (h1 : 1 ≤ k) (hk : k ≤ 1000) (hB : B ≤ w.heap.size) :
  Calls Tryz.prog 112 #[.int .i64 (v : Int), .int .i64 (k : Int), .pointer (some ⟨gl, 0, none⟩), .pointer (some ⟨gn, 0, none⟩)] w fun e w' =>
   RPost (againR n l v k) (fun m e w' => e = .returned (.tuple #[]) ∧ AgAt w' B gl gn n m) e w' ∧ Below B w w' := by
 obtain ⟨hgl, ⟨vl, hbl, hol, hne⟩, hbn, hfit, hfew⟩ := h
 obtain ⟨Al, cl, rfl, _⟩ := own_slat hol
 obtain ⟨L, hL⟩ : ∃ L, L = l.length := ⟨_, rfl⟩
 rw [← hL] at hbl hol hfit hne
 have HL := Lib.hid hL
 have b0 : w.cell? ⟨gl, 0, none⟩ = some (.slice Al L cl) := by rw [hbl.cell]; rfl
 have b1 : w.cell? ⟨gn, 0, none⟩ = some (.int .i64 (n : Int)) := by rw [hbn.cell]; rfl
 have hlt := hbl.lt
 have hltn := hbn.lt
 have HBl := Lib.hid hbl
 have HBn := Lib.hid hbn
 have HOl := Lib.hid hol
 have HNe := Lib.hid hne
 clear hbl hol hbn hne hL
 have hw1 : IntKind.i64.wrap ((L : Int) + (k : Int)) = (L : Int) + (k : Int) := IntWalk.i64_in _ (by omega)
 by_cases hn : n < L + k
 ·have hn' : (n : Int) < (L : Int) + (k : Int) := by omega
  have HU : Hid (againR n l v k = .bad 8) := Lib.hid (by unfold againR; rw [if_pos (by rw [← HL.out]; exact hn)])
  go_enter Tryz.func112, Tryz.ntmps112
  go_wp2_with fail
  refine (fail_any 8 _).mono ?_
  rintro e w3 ⟨rfl, rfl⟩
  unfold stopE
  go_wp2_with fail
  exact ⟨rfl, bad_rpost HU.out, Below.refl _ _⟩
 ·have hn' : ¬ (n : Int) < (L : Int) + (k : Int) := by omega
  have HU : Hid (againR n l v k = .ok (l ++ List.replicate k v)) := Lib.hid (by unfold againR; rw [if_neg (by rw [← HL.out]; exact hn)])
  go_enter Tryz.func112, Tryz.ntmps112
  go_wp2_with fail
  refine wp_region_S (fun W => W.cell? ⟨gl, 0, none⟩ = some (.slice Al L cl)) 6 (by kernel_rfl) ?_
  have hHeld : w.drew.cell? ⟨gl, 0, none⟩ = some (.slice Al L cl) := b0
  obtain ⟨w2, hw2⟩ : ∃ w2, w2 = w.drew := ⟨_, rfl⟩
  have Hb2 : Hid (Below w.heap.size w w2) := Lib.hid (by rw [hw2]; exact (Below.refl _ _).drew)
  rw [← hw2] at hHeld ⊢
  clear hw2 b0 b1
  refine wpAnyS_takeT (i := 0) (v := ?va0) (by kernel_rfl) (by kernel_rfl) rfl (by kernel_rfl) (by kernel_rfl) (by kernel_rfl) (fun _ _ _ h => h) (by rfl) (by assumption) ?hya0 ?resta0
  case hya0 => (intro W hSW; (try dsimp only at hSW); go_simp; try with_reducible rfl)
  (try simp only [Act.put, List.getElem_toArray, List.getElem_cons_zero, List.getElem_cons_succ, List.setIfInBounds_toArray, List.set_cons_zero, List.set_cons_succ])
  refine wpAnyS_takeT (i := 1) (v := ?va1) (by kernel_rfl) (by kernel_rfl) rfl (by kernel_rfl) (by kernel_rfl) (by kernel_rfl) (fun _ _ _ h => h) (by rfl) (by assumption) ?hya1 ?resta1
  case hya1 => (intro W hSW; (try dsimp only at hSW); go_simp; try with_reducible rfl)
  (try simp only [Act.put, List.getElem_toArray, List.getElem_cons_zero, List.getElem_cons_succ, List.setIfInBounds_toArray, List.set_cons_zero, List.set_cons_succ])
  refine wpAnyS_takeT (i := 3) (v := ?va3) (by kernel_rfl) (by kernel_rfl) rfl (by kernel_rfl) (by kernel_rfl) (by kernel_rfl) (fun _ _ _ h => h) (by rfl) (by assumption) ?hya3 ?resta3
  case hya3 => (intro W hSW; (try dsimp only at hSW); go_simp; try with_reducible rfl)
  (try simp only [Act.put, List.getElem_toArray, List.getElem_cons_zero, List.getElem_cons_succ, List.setIfInBounds_toArray, List.set_cons_zero, List.set_cons_succ])
  refine wpAnyS_only (i := 2) rfl (by kernel_rfl) (fun K hK => ?_)
  go_simp
  clear hHeld
  have Hb3 := Lib.hid (Hb2.out.alloc Hb2.out.size (.cells #[.int .i64 (v : Int)] 3))
  have Hv3 : Hid (SlAt (w2.alloc (.cells #[.int .i64 (v : Int)] 3)) (some ⟨w2.heap.size, 0, none⟩) [.int .i64 (v : Int)]) := Lib.hid (SlAt.of_heap (heap_alloc_new _ _) rfl)
  refine hK.out _ _ ((Blk.below HBl.out Hb3.out hlt).cell 0) (fun hHeld => ?_)
  clear hK K
  (try simp only [Act.put, List.getElem_toArray, List.getElem_cons_zero, List.getElem_cons_succ, List.setIfInBounds_toArray, List.set_cons_zero, List.set_cons_succ])
  generalize w2.alloc (.cells #[.int .i64 (v : Int)] 3) = w3 at *
  generalize w2.heap.size = g3 at *
  refine wpAnyS_only (i := 4) rfl (by kernel_rfl) (fun K hK => ?_)
  go_simp
  go_at_call 62
  refine (repeat1_any (some ⟨g3, 0, none⟩) 1 k (v : Int) w3 Hv3.out h1 hk).mono ?_
  rintro e w4 ⟨⟨A4, rfl, hs4⟩, hb4⟩
  have Hb4 := Lib.hid (Hb3.out.trans (hb4.mono Hb3.out.size))
  have HS4 := Lib.hid hs4
  clear hb4 hs4 hHeld
  refine hK.out _ _ ((Blk.below HBl.out Hb4.out hlt).cell 0) (fun hHeld => ?_)
  clear hK K
  (try simp only [Act.put, List.getElem_toArray, List.getElem_cons_zero, List.getElem_cons_succ, List.setIfInBounds_toArray, List.set_cons_zero, List.set_cons_succ])
  have HOl4 := Lib.hid (own_keep HOl.out Hb4.out)
  have hBw4 : B ≤ w4.heap.size := Nat.le_trans hB Hb4.out.size
  obtain ⟨X, hX⟩ : ∃ X, X = List.replicate k (Value.int .i64 (v : Int)) := ⟨_, rfl⟩
  have HX := Lib.hid hX
  have hXl : X.length = k * 1 := by rw [hX]; simp
  have HXo : Hid (∀ u ∈ X, u.oneCell' = true) := Lib.hid (by rw [hX]; intro u hu; rw [List.eq_of_mem_replicate hu]; rfl)
  rw [← hX] at HS4
  clear hX
  have hA4 : A4 = none → k = 0 := fun e => by
   obtain ⟨b, o, e', _⟩ := HS4.out (by rw [hXl]; omega)
   rw [e] at e'
   cases e'
  refine wpAnyS_only (i := 5) rfl (by kernel_rfl) (fun K hK => ?_)
  refine step_app3 rfl (.tmp 13) (.tmp 17) _ rfl B 3 _ 1 8 tyI (.slice Al L cl) L (l.map natV) (by simp [Act.eval]) HOl4.out A4 k k X (by simp [Act.eval]) hXl HS4.out HXo.out hA4 (by unfold maxLen; omega) (by omega) hBw4 ?_
  intro v5 w5 hown5 hg5 hwhere5
  have HO5 := Lib.hid hown5
  have HG5 := Lib.hid hg5
  have HW5 := Lib.hid hwhere5
  clear hown5 hg5 hwhere5 hHeld
  have HB4 := Lib.hid (Blk.below HBl.out Hb4.out hlt)
  have HBn4 := Lib.hid (Blk.below HBn.out Hb4.out hltn)
  have HB5 := Lib.hid (HB4.out.grown HG5.out (own_ne HOl4.out HB4.out (by decide)))
  have HBn5 := Lib.hid (HBn4.out.grown HG5.out HNe.out)
  have hlt4 := HBn4.out.lt
  refine hK.out _ _ (HB5.out.cell 0) (fun hHeld => ?_)
  clear hK K
  (try simp only [Act.put, List.getElem_toArray, List.getElem_cons_zero, List.getElem_cons_succ, List.setIfInBounds_toArray, List.set_cons_zero, List.set_cons_succ])
  obtain ⟨A5, c5, rfl, _⟩ := own_slat HO5.out
  have f5 := HB5.out.frozen 0
  refine wpAnyS_last rfl (by kernel_rfl) (by kernel_rfl) (fun K hK => ?_)
  go_simp
  refine hK.out _ _ ?_
  clear hK K
  clear hHeld
  go_wp2_with fail
  go_end0
  have hb5 : Below B w4 w5 := ⟨HG5.out.os, HG5.out.tape, HG5.out.output, HG5.out.size, fun i hi => HG5.out.block i (by omega) (fun e => by have := (HOl4.out.lt i e.symm).1; omega)⟩
  refine ⟨ok_rpost HU.out ⟨rfl, hgl, ⟨_, HB5.out.set_ 0 _, ?_, ?_⟩, HBn5.out.far (p := ⟨gl, 0, none⟩) ?_ _, ?_, hfew⟩, ((Hb4.out.mono hB).trans hb5).setCell (p := ⟨gl, 0, none⟩) hgl _⟩
  ·have h6 : (w5.setCell ⟨gl, 0, none⟩ (.slice A5 (L + k) c5)).ownsRow B 3 1 (.slice A5 (L + k) c5) (L + k) (l.map natV ++ X) := ((Keeps.refl B [23] w5).setBlk HB5.out (by simp) hgl 0 _).own HO5.out (by decide)
   rw [List.length_append, List.length_replicate, ← HL.out, List.map_append, List.map_replicate]
   rw [HX.out] at h6
   exact h6
  ·intro e
   rcases HW5.out with h | h
   ·exact HNe.out (h.symm.trans e)
   ·rw [h] at e
    injection e with e
    omega
  ·intro e
   have e : gn = gl := e
   subst e
   have h1 := HBl.out
   have h2 := HBn.out
   unfold Blk at h1 h2
   rw [h1] at h2
   cases h2
  ·rw [List.length_append, List.length_replicate, ← HL.out]
   omega
end Go.Proofs.YthpdcnjaodjjmaaGreat.Inf

/- package inflate: a block's body. -/
namespace Go.Proofs.YthpdcnjaodjjmaaGreat.Inf
open Go Go.RowKit Go.Proofs.YthpdcnjaodjjmaaGreat Go.Proofs.YthpdcnjaodjjmaaGreat.Bits Go.Proofs.YthpdcnjaodjjmaaGreat.Code
set_option linter.unusedVariables false
set_option linter.unusedSimpArgs false

def posOf (q : Nat) (w : World) : Nat := match w.cell? ⟨q, 1, none⟩ with
 | some (.int _ p) => p.toNat
 | _ => 0
theorem posOf_src {w : World} {q n c pos : Nat} {A : Option Addr} (h : SrcAt w q A n c pos) : posOf q w = pos := by
 unfold posOf
 rw [show w.cell? ⟨q, 1, none⟩ = some (.int .i64 (pos : Int)) by rw [Blk.cell h]; rfl]
 simp
theorem nxt_pos (ls : List Nat) (row : List Bool) : ∀ (k n i m : Nat), 1 ≤ n → nxt ls row k n = (i, m, 0) → n ≤ m ∧ m ≤ row.length := fun k n i m hn h => by
 have := nxt_take ls row row.length (Nat.le_refl _) k n i m hn h
 exact ⟨this.1, this.2.1⟩
theorem symR_lt {row : List Bool} {ls : List Nat} {p : Nat} {a : Nat × Nat} (h : symR row ls p = .ok a) (hp : p ≤ row.length) : p < a.2 ∧ a.2 ≤ row.length := by
 unfold symR at h
 split at h
 ·rename_i hz
  injection h with h
  obtain ⟨i, m, z, hn⟩ : ∃ i m z, next ls (row.drop p) = (i, m, z) := ⟨_, _, _, rfl⟩
  rw [hn] at h hz
  dsimp only at h hz
  subst hz h
  have := nxt_pos ls (row.drop p) 15 1 i m (Nat.le_refl _) hn
  rw [List.length_drop] at this
  dsimp only
  omega
 ·cases h
theorem symR_place {row : List Bool} {ls : List Nat} {p : Nat} {a : Nat × Nat} (h : symR row ls p = .ok a) : a.1 < ls.length := by
 unfold symR at h
 split at h
 ·rename_i hz
  injection h with h
  subst h
  dsimp only
  unfold next at hz ⊢
  have key : ∀ (k n : Nat), (nxt ls (row.drop p) k n).2.2 = 0 → (nxt ls (row.drop p) k n).1 < ls.length := by
   intro k
   induction k with
   | zero => intro n h; simp [nxt] at h
   | succ k ih =>
    intro n h
    by_cases h1 : (row.drop p).length < n
    ·rw [nxt_torn _ _ _ _ h1] at h
     simp at h
    ·cases hf : findC ls n (val ((row.drop p).take n)) with
     | some j =>
      rw [nxt_hit ls _ k n j (by omega) hf]
      exact (findC_inv ls n _ j hf).1
     | none =>
      rw [nxt_miss ls _ k n (by omega) hf] at h ⊢
      exact ih (n + 1) h
  exact key 15 1 hz
 ·cases h
structure TbAt (w : World) (base p : Nat) (ls : List Nat) : Prop where
 tab : TabAt w base p ls
 le : ∀ x ∈ ls, x ≤ 15
 room : room ls ≤ 32768
 len : ls.length ≤ 288
theorem TbAt.keeps {w w' : World} {base p : Nat} {ls : List Nat} (h : TbAt w base p ls) (hk : Keeps base infT w w') : TbAt w' base p ls := by
 obtain ⟨⟨h1, v, h2, h3⟩, h4, h5, h6⟩ := h
 exact ⟨⟨h1, v, hk.blk h2 (by decide), hk.own h3 (by decide)⟩, h4, h5, h6⟩
theorem ex_cells {w : World} {A : Option Addr} {l : List (Nat × Nat)} (h : SlAt w A (l.flatMap exC)) {k : Nat} (hk : k < l.length) : ∃ b o, A = some ⟨b, o, none⟩ ∧ w.cell? ⟨b, o + k * 2, none⟩ = some (.int .i64 (l[k].1 : Int)) ∧ w.cell? ⟨b, o + k * 2 + 1, none⟩ = some (.int .i64 (l[k].2 : Int)) := by
 have e : l.flatMap exC = (l.take k).flatMap exC ++ (exC l[k] ++ (l.drop (k + 1)).flatMap exC) := by
  rw [← List.flatMap_cons, ← List.flatMap_append, ← List.drop_eq_getElem_cons hk, List.take_append_drop]
 have hl : ((l.take k).flatMap exC).length = k * 2 := by rw [exC_len, List.length_take]; omega
 obtain ⟨b, o, ea, hc⟩ := h (by rw [exC_len]; omega)
 refine ⟨b, o, ea, hc (k * 2) _ ?_, hc (k * 2 + 1) _ ?_⟩
 ·rw [e, List.getElem?_append_right (by omega), hl, Nat.sub_self]
  rfl
 ·rw [e, List.getElem?_append_right (by omega), hl, show k * 2 + 1 - k * 2 = 1 by omega]
  rfl
theorem conv8 (k : Nat) (h : k < 256) : u8v (UInt8.ofNat k) = .int .u8 (k : Int) := by
 unfold u8v n8
 have : (UInt8.ofNat k).toNat = k := by show k % 2 ^ 8 = k; omega
 rw [this]
theorem sameL_bd : ∀ k < 29, (sameL.getD k (0, 0)).1 ≤ 258 ∧ (sameL.getD k (0, 0)).2 ≤ 5 := by decide
theorem farL_bd : ∀ k < 30, (1 ≤ (farL.getD k (0, 0)).1 ∧ (farL.getD k (0, 0)).1 ≤ 24577) ∧ (farL.getD k (0, 0)).2 ≤ 13 := by decide
theorem ex_at {w : World} {base n c : Nat} {A : Option Addr} {l : List (Nat × Nat)} (h : w.ownsRow base 112 2 (.slice A n c) n (l.flatMap exC)) {k : Nat} (hk : k < l.length) : ∃ b o, A = some ⟨b, o, none⟩ ∧ w.cell? ⟨b, o + k * 2, none⟩ = some (.int .i64 ((l.getD k (0, 0)).1 : Int)) ∧ w.cell? ⟨b, o + k * 2 + 1, none⟩ = some (.int .i64 ((l.getD k (0, 0)).2 : Int)) := by
 have hg : l.getD k (0, 0) = l[k] := by rw [List.getD_eq_getElem?_getD, List.getElem?_eq_getElem hk]; rfl
 rw [hg]
 obtain ⟨A', c', e, _, _, h3, _⟩ := own_slat h
 injection e with e1 e2 e3
 subst e1
 exact ex_cells h3 hk
structure Bd (w0 : World) (base : Nat) (A : Option Addr) (n : Nat) (xs : List UInt8) (tl tf : Nat) (lit far : List Nat) (As : Option Addr) (cs : Nat) (Af : Option Addr) (cf : Nat) (w : World) : Prop where
 keep : Keeps base infT w0 w
 inp : InAt_ w base A n xs
 tbl : TbAt w base tl lit
 tbf : TbAt w base tf far
 so : w.ownsRow base 112 2 (.slice As 29 cs) 29 (sameL.flatMap exC)
 fo : w.ownsRow base 112 2 (.slice Af 30 cf) 30 (farL.flatMap exC)
theorem Bd.keeps {w0 w w' : World} {base : Nat} {A : Option Addr} {n : Nat} {xs : List UInt8} {tl tf : Nat} {lit far : List Nat} {As Af : Option Addr} {cs cf : Nat} (h : Bd w0 base A n xs tl tf lit far As cs Af cf w) (hk : Keeps base infT w w') : Bd w0 base A n xs tl tf lit far As cs Af cf w' :=
 ⟨h.keep.trans hk, h.inp.keeps hk, h.tbl.keeps hk, h.tbf.keeps hk, hk.own h.so (by decide), hk.own h.fo (by decide)⟩
theorem getR_pos {row : List Bool} {p n : Nat} {a : Nat × Nat} (h : getR row p n = .ok a) : a.2 = p + n ∧ p + n ≤ row.length := by
 unfold getR at h
 split at h
 ·injection h with h
  subst h
  exact ⟨rfl, by assumption⟩
 ·cases h
theorem pushR_len {o o2 : List UInt8} {x : UInt8} (h : pushR o x = .ok o2) : o2.length = o.length + 1 := by
 unfold pushR at h
 split at h
 ·cases h
 ·injection h with h
  subst h
  simp
theorem RdAt.out1 {w : World} {base g q : Nat} {A : Option Addr} {n c pos : Nat} {out : List UInt8} {ks : List Nat} (h : RdAt w base g q A n c pos out ks) : ∃ Ao ol co, ol = out.length ∧ w.cell? ⟨g, 1, none⟩ = some (.slice Ao ol co) ∧ ol ≤ 3000 ∧ SlAt w Ao (out.map u8v) := by
 obtain ⟨hg, hq, hp, hfew, ⟨vo, vk, hb, ho, hk⟩, hsrc⟩ := h
 obtain ⟨Ao, co, rfl, _, _, h3, _⟩ := own_slat ho
 exact ⟨Ao, _, co, rfl, by rw [hb.cell]; rfl, hfew, h3⟩
theorem RdAt.outd {w : World} {base g q : Nat} {A : Option Addr} {n c pos : Nat} {out : List UInt8} {ks : List Nat} (h : RdAt w base g q A n c pos out ks) (h0 : 0 < out.length) : ∃ b o ol co, ol = out.length ∧ w.cell? ⟨g, 1, none⟩ = some (.slice (some ⟨b, o, none⟩) ol co) ∧ ∀ i, i < ol → w.cell? ⟨b, o + i, none⟩ = some (u8v (out.getD i 0)) := by
 obtain ⟨Ao, ol, co, e, h1, _, h3⟩ := h.out1
 obtain ⟨b, o, rfl, hc⟩ := h3 (by rw [List.length_map]; exact h0)
 refine ⟨b, o, ol, co, e, h1, fun i hi => hc i _ ?_⟩
 rw [List.getElem?_map, List.getD_eq_getElem?_getD, List.getElem?_eq_getElem (by omega)]
 rfl
set_option maxRecDepth 100000 in
set_option maxHeartbeats 8000000 in
theorem body_r (base g q tl tf : Nat) (A : Option Addr) (n c pos : Nat) (xs : List UInt8) (out : List UInt8) (ks lit far : List Nat) (w : World) (h : RdAt w base g q A n c pos out ks) (hi : InAt_ w base A n xs) (hl : TbAt w base tl lit) (hf : TbAt w base tf far) (hn : n ≤ 1000000) :
  Calls Tryz.prog 68 #[.pointer (some ⟨g, 0, none⟩), .pointer (some ⟨tl, 0, none⟩), .pointer (some ⟨tf, 0, none⟩)] w fun e w' =>
   RPost (bodyR (bitsL xs) lit far ((bitsL xs).length + 1) pos out) (fun a e w' => e = .returned (.tuple #[]) ∧ RdAt w' base g q A n c a.1 a.2 ks) e w' ∧ Keeps base infT w w' := by
 obtain ⟨R, hR⟩ : ∃ R, R = bodyR (bitsL xs) lit far ((bitsL xs).length + 1) pos out := ⟨_, rfl⟩
 have hrow : (bitsL xs).length = 8 * n := by rw [bitsL_length, hi.len]
 have Hrow := Lib.hid hrow
 rw [← hR]
 rw [hrow] at hR
 have HU := Lib.hid hR
 have H := Lib.hid h
 have HI := Lib.hid hi
 have HL := Lib.hid hl
 have HFr := Lib.hid hf
 have HS := Lib.hid (sames_any w)
 have hp := h.ple
 have hbw := h.bw
 clear h hi hl hf hR hrow
 go_enter Tryz.func68, Tryz.ntmps68
 go_wp2_with fail
 refine (HS.out).mono ?_
 rintro e w2 ⟨As, cs, rfl, hs, hb2⟩
 have HFa := Lib.hid (fars_any w2)
 have HSo := Lib.hid hs
 have Hb2 := Lib.hid hb2
 clear hs hb2 HS
 go_wp2_with fail
 refine (HFa.out).mono ?_
 rintro e w3 ⟨Af, cf, rfl, hfo, hb3⟩
 have HSo := Lib.hid (own_base (own_keep HSo.out hb3) hbw)
 have HFo := Lib.hid (own_base hfo (Nat.le_trans hbw Hb2.out.size))
 have Hb3 := Lib.hid (Hb2.out.trans (hb3.mono Hb2.out.size))
 have HK3 : Hid (Keeps base infT w w3) := Lib.hid (Keeps.of_below Hb3.out hbw)
 have H3 := Lib.hid (H.out.below Hb3.out)
 have HI3 := Lib.hid (HI.out.keeps HK3.out)
 have HL3 := Lib.hid (HL.out.keeps HK3.out)
 have HF3 := Lib.hid (HFr.out.keeps HK3.out)
 clear hfo hb3 HFa H HI HL HFr Hb2 Hb3
 go_wp2_with fail
 go_loopw [] (fun wr => ∃ (f p : Nat) (o : List UInt8), 8 * n + 1 ≤ p + f ∧ R = bodyR (bitsL xs) lit far f p o ∧ RdAt wr base g q A n c p o ks ∧ Keeps base infT w wr ∧ InAt_ wr base A n xs ∧ TbAt wr base tl lit ∧ TbAt wr base tf far ∧ wr.ownsRow base 112 2 (.slice As 29 cs) 29 (sameL.flatMap exC) ∧ wr.ownsRow base 112 2 (.slice Af 30 cf) 30 (farL.flatMap exC)) (fun wr => 8 * n - posOf q wr)
 case atStart => exact ⟨8 * n + 1, pos, out, by omega, HU.out, H3.out, HK3.out, HI3.out, HL3.out, HF3.out, HSo.out, HFo.out⟩
 case round =>
  obtain ⟨f, p, o, hpf, hR, hrd, hk, hin, hlt, hft, hso, hfo⟩ := hrel
  have hple := hrd.ple
  obtain ⟨f, rfl⟩ : ∃ f', f = f' + 1 := ⟨f - 1, by omega⟩
  have HU := Lib.hid (show R = (bodyStep (bitsL xs) lit far p o).then_ fun x => if x.1 = true then .ok x.2 else bodyR (bitsL xs) lit far f x.2.1 x.2.2 from hR)
  have Hpos : Hid (posOf q wr = p) := Lib.hid (posOf_src hrd.src)
  have HK := Lib.hid hk
  have HL := Lib.hid hlt
  have HF := Lib.hid hft
  have HSo := Lib.hid hso
  have HFo := Lib.hid hfo
  have HG := Lib.hid (sym_r base g q tl A n c p xs o ks lit wr hrd hin hlt.tab hlt.le hlt.room hlt.len)
  have HIn := Lib.hid hin
  clear hR hrd hk hin hlt hft hso hfo H3 HK3 HI3 HL3 HF3
  go_wp2_with fail
  refine (HG.out).mono ?_
  rintro e w4 ⟨hr4, hk4⟩
  have HK4 := Lib.hid (HK.out.trans hk4)
  have HI4 := Lib.hid (HIn.out.keeps hk4)
  have HL4 := Lib.hid (HL.out.keeps hk4)
  have HF4 := Lib.hid (HF.out.keeps hk4)
  have HSo4 := Lib.hid (hk4.own HSo.out (by decide))
  have HFo4 := Lib.hid (hk4.own HFo.out (by decide))
  cases hg4 : symR (bitsL xs) lit p with
  | bad z =>
   have he := rpost_bad hr4 hg4
   subst he
   have HU := Lib.hid (show R = .bad z by rw [HU.out]; unfold bodyStep; rw [hg4]; rfl)
   clear hr4 hk4 hg4
   unfold stopE
   go_wp2_with fail
   exact ⟨rfl, bad_rpost HU.out, HK4.out⟩
  | ok a =>
   obtain ⟨he, hrd4⟩ := rpost_ok hr4 hg4
   subst he
   have hp4 := symR_lt hg4 (by rw [Hrow.out]; exact hple)
   rw [Hrow.out] at hp4
   have hpl := symR_place hg4
   have hl288 := HL.out.len
   have Hst := Lib.hid (show bodyStep (bitsL xs) lit far p o = _ by unfold bodyStep; rw [hg4, then_ok])
   have H4 := Lib.hid hrd4
   obtain ⟨k, p4⟩ := a
   dsimp only at hp4 hpl Hst H4 ⊢
   clear hr4 hk4 hg4 hrd4 HG HIn HL HF HSo HFo
   rcases (by omega : k < 256 ∨ k = 256 ∨ 256 < k) with hc | hc | hc
   ·have HP := Lib.hid (put_r base g q A n c p4 (UInt8.ofNat k) o ks w4 H4.out)
    rw [conv8 k hc] at HP
    have Hst := Lib.hid (show bodyStep (bitsL xs) lit far p o = (pushR o (UInt8.ofNat k)).then_ fun o => .ok (false, p4, o) by rw [Hst.out, if_pos hc])
    have hc' : (k : Int) < 256 := by omega
    have hc8 : k < 2 ^ 8 := hc
    clear hc
    go_wp2_with fail
    refine (HP.out).mono ?_
    rintro e w5 ⟨hr5, hk5⟩
    have HK5 := Lib.hid (HK4.out.trans hk5)
    have HI5 := Lib.hid (HI4.out.keeps hk5)
    have HL5 := Lib.hid (HL4.out.keeps hk5)
    have HF5 := Lib.hid (HF4.out.keeps hk5)
    have HSo5 := Lib.hid (hk5.own HSo4.out (by decide))
    have HFo5 := Lib.hid (hk5.own HFo4.out (by decide))
    cases hg5 : pushR o (UInt8.ofNat k) with
    | bad z =>
     have he := rpost_bad hr5 hg5
     subst he
     have HU := Lib.hid (show R = .bad z by rw [HU.out, Hst.out, hg5]; rfl)
     clear hr5 hk5 hg5
     unfold stopE
     go_wp2_with fail
     exact ⟨rfl, bad_rpost HU.out, HK5.out⟩
    | ok o2 =>
     obtain ⟨he, hrd5⟩ := rpost_ok hr5 hg5
     subst he
     have HU := Lib.hid (show R = bodyR (bitsL xs) lit far f p4 o2 by rw [HU.out, Hst.out, hg5]; rfl)
     have H5 := Lib.hid hrd5
     clear hr5 hk5 hg5 hrd5 HP
     go_wp2_with fail
     go_roundw
     case rel => exact ⟨f, p4, o2, by omega, HU.out, H5.out, HK5.out, HI5.out, HL5.out, HF5.out, HSo5.out, HFo5.out⟩
     case measure =>
      rw [Hpos.out, posOf_src H5.out.src]
      omega
   ·have HU := Lib.hid (show R = .ok (p4, o) by rw [HU.out, Hst.out, if_neg (by omega), if_pos hc]; rfl)
    subst hc
    go_wp2_with fail
    refine bodyPost_ret (results_none rfl _ _ _) rfl ?_
    exact ⟨ok_rpost HU.out ⟨rfl, H4.out⟩, HK4.out⟩
   ·obtain ⟨j, rfl⟩ : ∃ j, k = j + 257 := ⟨k - 257, by omega⟩
    have hc1 : ¬ ((j + 257 : Nat) : Int) < 256 := by omega
    have hc2 : (((j + 257 : Nat) : Int) == 256) = false := by rw [beq_eq_false_iff_ne]; omega
    have hc3 : ((j + 257 : Nat) : Int) - 257 = (j : Int) := by omega
    have hw3 : IntKind.i64.wrap (j : Int) = (j : Int) := IntWalk.i64_in _ (by omega)
    by_cases h29 : 29 ≤ j
    ·have HU := Lib.hid (show R = .bad 8 by rw [HU.out, Hst.out, if_neg (by omega), if_neg (by omega), if_pos (by omega)]; rfl)
     have h29' : (29 : Int) ≤ (j : Int) := by omega
     clear hc
     go_wp2_with fail
     refine (fail_any 8 _).mono ?_
     rintro e w5 ⟨rfl, rfl⟩
     unfold stopE
     go_wp2_with fail
     exact ⟨rfl, bad_rpost HU.out, HK4.out⟩
    ·obtain ⟨bs, os, hAs, hc0, hc1⟩ := ex_at HSo4.out (k := j) (by show j < 29; omega)
     have hSS : Hid (∀ W : World, W.ownsRow base 112 2 (.slice As 29 cs) 29 (sameL.flatMap exC) → W.cell? ⟨bs, os + j * 2, none⟩ = some (.int .i64 ((sameL.getD j (0, 0)).1 : Int)) ∧ W.cell? ⟨bs, os + j * 2 + 1, none⟩ = some (.int .i64 ((sameL.getD j (0, 0)).2 : Int))) := Lib.hid (fun (W : World) hW => by
      obtain ⟨b', o', e, h1, h2⟩ := ex_at hW (k := j) (by show j < 29; omega)
      rw [hAs] at e
      injection e with e
      injection e with e1 e2
      subst e1 e2
      exact ⟨h1, h2⟩)
     obtain ⟨hfr, hbt⟩ := sameL_bd j (by omega)
     have Hst := Lib.hid (show bodyStep (bitsL xs) lit far p o = (getR (bitsL xs) p4 (sameL.getD j (0, 0)).2).then_ fun x => (symR (bitsL xs) far x.2).then_ fun f =>
        if 30 ≤ f.1 then .bad 8
        else (getR (bitsL xs) f.2 (farL.getD f.1 (0, 0)).2).then_ fun y =>
         if o.length < (farL.getD f.1 (0, 0)).1 + y.1 then .bad 9
         else (copyR ((farL.getD f.1 (0, 0)).1 + y.1) ((sameL.getD j (0, 0)).1 + x.1) o).then_ fun o => .ok (false, y.2, o) by
      rw [Hst.out, if_neg (by omega), if_neg (by omega), if_neg (by omega), show j + 257 - 257 = j by omega])
     generalize sameL.getD j (0, 0) = ex at *
     obtain ⟨fr, bt⟩ := ex
     dsimp only at hc0 hc1 hfr hbt hSS Hst
     subst hAs
     have HG := Lib.hid (fun W (hr : RdAt W base g q A n c p4 o ks) (hi : InAt_ W base A n xs) => get_r base g q A n c p4 bt xs o ks W hr hi (by omega))
     have hj0 : (0 : Int) ≤ (j : Int) := by omega
     have hj29 : (j : Int) < 29 := by omega
     have h29n : ¬ (29 : Int) ≤ (j : Int) := by omega
     have HB4 := Lib.hid (show Bd w base A n xs tl tf lit far (some ⟨bs, os, none⟩) cs Af cf w4 from ⟨HK4.out, HI4.out, HL4.out, HF4.out, HSo4.out, HFo4.out⟩)
     have hbw4 : base ≤ w4.heap.size := H4.out.bw
     clear hc h29 HK4 HI4 HL4 HF4 HSo4 HFo4
     go_wp2_with fail
     refine wp_region_S (fun W => W.cell? ⟨bs, os + j * 2, none⟩ = some (.int .i64 (fr : Int)) ∧ W.cell? ⟨bs, os + j * 2 + 1, none⟩ = some (.int .i64 (bt : Int))) 13 (by kernel_rfl) ?_
     obtain ⟨w5, hw5⟩ : ∃ w5, w5 = w4.drew := ⟨_, rfl⟩
     have hb5 : Below w4.heap.size w4 w5 := by rw [hw5]; exact (Below.refl _ _).drew
     have H5 := Lib.hid (H4.out.below hb5)
     have HB5 := Lib.hid (HB4.out.keeps (Keeps.of_below hb5 hbw4))
     rw [← hw5]
     have hHeld := hSS.out w5 HB5.out.so
     clear hw5 hb5 hc0 hc1
     refine wpAnyS_take (i := 0) (v := ?va0) (by kernel_rfl) rfl (by kernel_rfl) (by kernel_rfl) (by kernel_rfl) (fun _ _ _ h => h) (by rfl) (by assumption) ?hya0 ?resta0
     case hya0 => (intro W hSW; (try dsimp only at hSW); go_simp; try with_reducible rfl)
     (try simp only [Act.put, List.getElem_toArray, List.getElem_cons_zero, List.getElem_cons_succ, List.setIfInBounds_toArray, List.set_cons_zero, List.set_cons_succ])
     refine wpAnyS_take (i := 1) (v := ?va1) (by kernel_rfl) rfl (by kernel_rfl) (by kernel_rfl) (by kernel_rfl) (fun _ _ _ h => h) (by rfl) (by assumption) ?hya1 ?resta1
     case hya1 => (intro W hSW; (try dsimp only at hSW); go_simp; try with_reducible rfl)
     (try simp only [Act.put, List.getElem_toArray, List.getElem_cons_zero, List.getElem_cons_succ, List.setIfInBounds_toArray, List.set_cons_zero, List.set_cons_succ])
     refine wpAnyS_take (i := 2) (v := ?va2) (by kernel_rfl) rfl (by kernel_rfl) (by kernel_rfl) (by kernel_rfl) (fun _ _ _ h => h) (by rfl) (by assumption) ?hya2 ?resta2
     case hya2 => (intro W hSW; (try dsimp only at hSW); go_simp; try with_reducible rfl)
     (try simp only [Act.put, List.getElem_toArray, List.getElem_cons_zero, List.getElem_cons_succ, List.setIfInBounds_toArray, List.set_cons_zero, List.set_cons_succ])
     refine wpAnyS_take (i := 3) (v := ?va3) (by kernel_rfl) rfl (by kernel_rfl) (by kernel_rfl) (by kernel_rfl) (fun _ _ _ h => h) (by rfl) (by assumption) ?hya3 ?resta3
     case hya3 => (intro W hSW; (try dsimp only at hSW); go_simp; try with_reducible rfl)
     (try simp only [Act.put, List.getElem_toArray, List.getElem_cons_zero, List.getElem_cons_succ, List.setIfInBounds_toArray, List.set_cons_zero, List.set_cons_succ])
     refine wpAnyS_take (i := 4) (v := ?va4) (by kernel_rfl) rfl (by kernel_rfl) (by kernel_rfl) (by kernel_rfl) (fun _ _ _ h => h) (by rfl) (by assumption) ?hya4 ?resta4
     case hya4 => (intro W hSW; (try dsimp only at hSW); go_simp; try with_reducible rfl)
     (try simp only [Act.put, List.getElem_toArray, List.getElem_cons_zero, List.getElem_cons_succ, List.setIfInBounds_toArray, List.set_cons_zero, List.set_cons_succ])
     refine wpAnyS_take (i := 5) (v := ?va5) (by kernel_rfl) rfl (by kernel_rfl) (by kernel_rfl) (by kernel_rfl) (fun _ _ _ h => h) (by rfl) (by assumption) ?hya5 ?resta5
     case hya5 => (intro W hSW; (try dsimp only at hSW); go_simp; try with_reducible rfl)
     (try simp only [Act.put, List.getElem_toArray, List.getElem_cons_zero, List.getElem_cons_succ, List.setIfInBounds_toArray, List.set_cons_zero, List.set_cons_succ])
     refine wpAnyS_take (i := 6) (v := ?va6) (by kernel_rfl) rfl (by kernel_rfl) (by kernel_rfl) (by kernel_rfl) (fun _ _ _ h => h) (by rfl) (by assumption) ?hya6 ?resta6
     case hya6 => (intro W hSW; (try dsimp only at hSW); go_simp; try with_reducible rfl)
     (try simp only [Act.put, List.getElem_toArray, List.getElem_cons_zero, List.getElem_cons_succ, List.setIfInBounds_toArray, List.set_cons_zero, List.set_cons_succ])
     refine wpAnyS_take (i := 7) (v := ?va7) (by kernel_rfl) rfl (by kernel_rfl) (by kernel_rfl) (by kernel_rfl) (fun _ _ _ h => h) (by rfl) (by assumption) ?hya7 ?resta7
     case hya7 => (intro W hSW; (try dsimp only at hSW); go_simp; try with_reducible rfl)
     (try simp only [Act.put, List.getElem_toArray, List.getElem_cons_zero, List.getElem_cons_succ, List.setIfInBounds_toArray, List.set_cons_zero, List.set_cons_succ])
     refine wpAnyS_take (i := 8) (v := ?va8) (by kernel_rfl) rfl (by kernel_rfl) (by kernel_rfl) (by kernel_rfl) (fun _ _ _ h => h) (by rfl) (by assumption) ?hya8 ?resta8
     case hya8 => (intro W hSW; (try dsimp only at hSW); go_simp; try with_reducible rfl)
     (try simp only [Act.put, List.getElem_toArray, List.getElem_cons_zero, List.getElem_cons_succ, List.setIfInBounds_toArray, List.set_cons_zero, List.set_cons_succ])
     refine wpAnyS_take (i := 9) (v := ?va9) (by kernel_rfl) rfl (by kernel_rfl) (by kernel_rfl) (by kernel_rfl) (fun _ _ _ h => h) (by rfl) (by assumption) ?hya9 ?resta9
     case hya9 => (intro W hSW; (try dsimp only at hSW); go_simp; try with_reducible rfl)
     (try simp only [Act.put, List.getElem_toArray, List.getElem_cons_zero, List.getElem_cons_succ, List.setIfInBounds_toArray, List.set_cons_zero, List.set_cons_succ])
     refine wpAnyS_take (i := 10) (v := ?va10) (by kernel_rfl) rfl (by kernel_rfl) (by kernel_rfl) (by kernel_rfl) (fun _ _ _ h => h) (by rfl) (by assumption) ?hya10 ?resta10
     case hya10 => (intro W hSW; (try dsimp only at hSW); go_simp; try with_reducible rfl)
     (try simp only [Act.put, List.getElem_toArray, List.getElem_cons_zero, List.getElem_cons_succ, List.setIfInBounds_toArray, List.set_cons_zero, List.set_cons_succ])
     refine wpAnyS_only (i := 11) rfl (by kernel_rfl) (fun K hK => ?_)
     go_simp
     clear hHeld
     go_at_call 66
     refine (HG.out w5 H5.out HB5.out.inp).mono ?_
     rintro e w6 ⟨hr6, hk6⟩
     have HB6 := Lib.hid (HB5.out.keeps hk6)
     cases hg6 : getR (bitsL xs) p4 bt with
     | bad z =>
      have he := rpost_bad hr6 hg6
      subst he
      have HU := Lib.hid (show R = .bad z by rw [HU.out, Hst.out, hg6]; rfl)
      clear hr6 hk6 hg6
      unfold stopE
      go_wp2_with fail
      exact ⟨rfl, bad_rpost HU.out, HB6.out.keep⟩
     | ok a =>
      obtain ⟨he, hrd6⟩ := rpost_ok hr6 hg6
      subst he
      have hx := getR_lt hg6
      have hq6 := getR_pos hg6
      replace Hst := Lib.hid (Hst.out.trans (by rw [hg6, then_ok]))
      have H6 := Lib.hid hrd6
      obtain ⟨x, p6⟩ := a
      dsimp only at hx hq6 Hst H6 ⊢
      have hx32 : x < 32 := Nat.lt_of_lt_of_le hx (Nat.le_trans (Nat.pow_le_pow_right (by omega) hbt) (by decide))
      have hwx : IntKind.i64.wrap ((fr : Int) + (x : Int)) = ((fr + x : Nat) : Int) := by rw [show (fr : Int) + (x : Int) = ((fr + x : Nat) : Int) by omega]; exact IntWalk.i64_in _ (by omega)
      have hm300 : fr + x ≤ 300 := by omega
      clear hr6 hk6 hg6 hrd6 hx HG
      refine hK.out _ _ (hSS.out w6 HB6.out.so) (fun hHeld => ?_)
      clear hK K
      (try simp only [Act.put, List.getElem_toArray, List.getElem_cons_zero, List.getElem_cons_succ, List.setIfInBounds_toArray, List.set_cons_zero, List.set_cons_succ])
      refine wpAnyS_only (i := 12) rfl (by kernel_rfl) (fun K hK => ?_)
      go_simp
      rw [show (fr : Int) + (x : Int) = ((fr + x : Nat) : Int) by omega]
      refine hK.out _ _ (hSS.out w6 HB6.out.so) (fun hHeld => ?_)
      clear hK K hHeld
      (try simp only [Act.put, List.getElem_toArray, List.getElem_cons_zero, List.getElem_cons_succ, List.setIfInBounds_toArray, List.set_cons_zero, List.set_cons_succ])
      generalize hmm : fr + x = m at *
      refine wpAnyS_last rfl (by kernel_rfl) (by kernel_rfl) (fun K hK => ?_)
      go_simp
      refine hK.out _ _ ?_
      clear hK K
      have HY := Lib.hid (sym_r base g q tf A n c p6 xs o ks far w6 H6.out HB6.out.inp HB6.out.tbf.tab HB6.out.tbf.le HB6.out.tbf.room HB6.out.tbf.len)
      have hf288 := HB6.out.tbf.len
      have hple6 := H6.out.ple
      go_wp2_with fail
      refine (HY.out).mono ?_
      rintro e w7 ⟨hr7, hk7⟩
      have HB7 := Lib.hid (HB6.out.keeps hk7)
      cases hg7 : symR (bitsL xs) far p6 with
      | bad z =>
       have he := rpost_bad hr7 hg7
       subst he
       have HU := Lib.hid (show R = .bad z by rw [HU.out, Hst.out, hg7]; rfl)
       clear hr7 hk7 hg7
       unfold stopE
       go_wp2_with fail
       exact ⟨rfl, bad_rpost HU.out, HB7.out.keep⟩
      | ok a =>
       obtain ⟨he, hrd7⟩ := rpost_ok hr7 hg7
       subst he
       have hp7 := symR_lt hg7 (by rw [Hrow.out]; exact hple6)
       rw [Hrow.out] at hp7
       have hpl7 := symR_place hg7
       replace Hst := Lib.hid (Hst.out.trans (by rw [hg7, then_ok]))
       have H7 := Lib.hid hrd7
       obtain ⟨j2, p7⟩ := a
       dsimp only at hp7 hpl7 Hst H7 ⊢
       clear hr7 hk7 hg7 hrd7 HY
       have hj20 : (0 : Int) ≤ (j2 : Int) := by omega
       by_cases h30 : 30 ≤ j2
       ·have HU := Lib.hid (show R = .bad 8 by rw [HU.out, Hst.out, if_pos h30]; rfl)
        have h30' : (30 : Int) ≤ (j2 : Int) := by omega
        go_wp2_with fail
        refine (fail_any 8 _).mono ?_
        rintro e w8 ⟨rfl, rfl⟩
        unfold stopE
        go_wp2_with fail
        exact ⟨rfl, bad_rpost HU.out, HB7.out.keep⟩
       ·replace Hst := Lib.hid (Hst.out.trans (if_neg h30))
        obtain ⟨bf, of, hAf, _, _⟩ := ex_at HB7.out.fo (k := j2) (by show j2 < 30; omega)
        have hSF : Hid (∀ W : World, W.ownsRow base 112 2 (.slice Af 30 cf) 30 (farL.flatMap exC) → W.cell? ⟨bf, of + j2 * 2, none⟩ = some (.int .i64 ((farL.getD j2 (0, 0)).1 : Int)) ∧ W.cell? ⟨bf, of + j2 * 2 + 1, none⟩ = some (.int .i64 ((farL.getD j2 (0, 0)).2 : Int))) := Lib.hid (fun (W : World) hW => by
         obtain ⟨b', o', e, h1, h2⟩ := ex_at hW (k := j2) (by show j2 < 30; omega)
         rw [hAf] at e
         injection e with e
         injection e with e1 e2
         subst e1 e2
         exact ⟨h1, h2⟩)
        obtain ⟨hfr2, hbt2⟩ := farL_bd j2 (by omega)
        generalize farL.getD j2 (0, 0) = ex at Hst hSF hfr2 hbt2
        obtain ⟨fr2, bt2⟩ := ex
        dsimp only at hfr2 hbt2 hSF Hst
        subst hAf
        have HG := Lib.hid (fun W (hr : RdAt W base g q A n c p7 o ks) (hi : InAt_ W base A n xs) => get_r base g q A n c p7 bt2 xs o ks W hr hi (by omega))
        have hj230 : (j2 : Int) < 30 := by omega
        have h30n : ¬ (30 : Int) ≤ (j2 : Int) := by omega
        have hbw7 : base ≤ w7.heap.size := H7.out.bw
        clear h30
        go_wp2_with fail
        refine wp_region_S (fun W => W.cell? ⟨bf, of + j2 * 2, none⟩ = some (.int .i64 (fr2 : Int)) ∧ W.cell? ⟨bf, of + j2 * 2 + 1, none⟩ = some (.int .i64 (bt2 : Int))) 13 (by kernel_rfl) ?_
        obtain ⟨w8, hw8⟩ : ∃ w8, w8 = w7.drew := ⟨_, rfl⟩
        have hb8 : Below w7.heap.size w7 w8 := by rw [hw8]; exact (Below.refl _ _).drew
        have H8 := Lib.hid (H7.out.below hb8)
        have HB8 := Lib.hid (HB7.out.keeps (Keeps.of_below hb8 hbw7))
        rw [← hw8]
        have hHeld := hSF.out w8 HB8.out.fo
        clear hw8 hb8
        refine wpAnyS_take (i := 0) (v := ?vb0) (by kernel_rfl) rfl (by kernel_rfl) (by kernel_rfl) (by kernel_rfl) (fun _ _ _ h => h) (by rfl) (by assumption) ?hyb0 ?restb0
        case hyb0 => (intro W hSW; (try dsimp only at hSW); go_simp; try with_reducible rfl)
        (try simp only [Act.put, List.getElem_toArray, List.getElem_cons_zero, List.getElem_cons_succ, List.setIfInBounds_toArray, List.set_cons_zero, List.set_cons_succ])
        refine wpAnyS_take (i := 1) (v := ?vb1) (by kernel_rfl) rfl (by kernel_rfl) (by kernel_rfl) (by kernel_rfl) (fun _ _ _ h => h) (by rfl) (by assumption) ?hyb1 ?restb1
        case hyb1 => (intro W hSW; (try dsimp only at hSW); go_simp; try with_reducible rfl)
        (try simp only [Act.put, List.getElem_toArray, List.getElem_cons_zero, List.getElem_cons_succ, List.setIfInBounds_toArray, List.set_cons_zero, List.set_cons_succ])
        refine wpAnyS_take (i := 2) (v := ?vb2) (by kernel_rfl) rfl (by kernel_rfl) (by kernel_rfl) (by kernel_rfl) (fun _ _ _ h => h) (by rfl) (by assumption) ?hyb2 ?restb2
        case hyb2 => (intro W hSW; (try dsimp only at hSW); go_simp; try with_reducible rfl)
        (try simp only [Act.put, List.getElem_toArray, List.getElem_cons_zero, List.getElem_cons_succ, List.setIfInBounds_toArray, List.set_cons_zero, List.set_cons_succ])
        refine wpAnyS_take (i := 3) (v := ?vb3) (by kernel_rfl) rfl (by kernel_rfl) (by kernel_rfl) (by kernel_rfl) (fun _ _ _ h => h) (by rfl) (by assumption) ?hyb3 ?restb3
        case hyb3 => (intro W hSW; (try dsimp only at hSW); go_simp; try with_reducible rfl)
        (try simp only [Act.put, List.getElem_toArray, List.getElem_cons_zero, List.getElem_cons_succ, List.setIfInBounds_toArray, List.set_cons_zero, List.set_cons_succ])
        refine wpAnyS_take (i := 4) (v := ?vb4) (by kernel_rfl) rfl (by kernel_rfl) (by kernel_rfl) (by kernel_rfl) (fun _ _ _ h => h) (by rfl) (by assumption) ?hyb4 ?restb4
        case hyb4 => (intro W hSW; (try dsimp only at hSW); go_simp; try with_reducible rfl)
        (try simp only [Act.put, List.getElem_toArray, List.getElem_cons_zero, List.getElem_cons_succ, List.setIfInBounds_toArray, List.set_cons_zero, List.set_cons_succ])
        refine wpAnyS_take (i := 5) (v := ?vb5) (by kernel_rfl) rfl (by kernel_rfl) (by kernel_rfl) (by kernel_rfl) (fun _ _ _ h => h) (by rfl) (by assumption) ?hyb5 ?restb5
        case hyb5 => (intro W hSW; (try dsimp only at hSW); go_simp; try with_reducible rfl)
        (try simp only [Act.put, List.getElem_toArray, List.getElem_cons_zero, List.getElem_cons_succ, List.setIfInBounds_toArray, List.set_cons_zero, List.set_cons_succ])
        refine wpAnyS_take (i := 6) (v := ?vb6) (by kernel_rfl) rfl (by kernel_rfl) (by kernel_rfl) (by kernel_rfl) (fun _ _ _ h => h) (by rfl) (by assumption) ?hyb6 ?restb6
        case hyb6 => (intro W hSW; (try dsimp only at hSW); go_simp; try with_reducible rfl)
        (try simp only [Act.put, List.getElem_toArray, List.getElem_cons_zero, List.getElem_cons_succ, List.setIfInBounds_toArray, List.set_cons_zero, List.set_cons_succ])
        refine wpAnyS_take (i := 7) (v := ?vb7) (by kernel_rfl) rfl (by kernel_rfl) (by kernel_rfl) (by kernel_rfl) (fun _ _ _ h => h) (by rfl) (by assumption) ?hyb7 ?restb7
        case hyb7 => (intro W hSW; (try dsimp only at hSW); go_simp; try with_reducible rfl)
        (try simp only [Act.put, List.getElem_toArray, List.getElem_cons_zero, List.getElem_cons_succ, List.setIfInBounds_toArray, List.set_cons_zero, List.set_cons_succ])
        refine wpAnyS_take (i := 8) (v := ?vb8) (by kernel_rfl) rfl (by kernel_rfl) (by kernel_rfl) (by kernel_rfl) (fun _ _ _ h => h) (by rfl) (by assumption) ?hyb8 ?restb8
        case hyb8 => (intro W hSW; (try dsimp only at hSW); go_simp; try with_reducible rfl)
        (try simp only [Act.put, List.getElem_toArray, List.getElem_cons_zero, List.getElem_cons_succ, List.setIfInBounds_toArray, List.set_cons_zero, List.set_cons_succ])
        refine wpAnyS_take (i := 9) (v := ?vb9) (by kernel_rfl) rfl (by kernel_rfl) (by kernel_rfl) (by kernel_rfl) (fun _ _ _ h => h) (by rfl) (by assumption) ?hyb9 ?restb9
        case hyb9 => (intro W hSW; (try dsimp only at hSW); go_simp; try with_reducible rfl)
        (try simp only [Act.put, List.getElem_toArray, List.getElem_cons_zero, List.getElem_cons_succ, List.setIfInBounds_toArray, List.set_cons_zero, List.set_cons_succ])
        refine wpAnyS_take (i := 10) (v := ?vb10) (by kernel_rfl) rfl (by kernel_rfl) (by kernel_rfl) (by kernel_rfl) (fun _ _ _ h => h) (by rfl) (by assumption) ?hyb10 ?restb10
        case hyb10 => (intro W hSW; (try dsimp only at hSW); go_simp; try with_reducible rfl)
        (try simp only [Act.put, List.getElem_toArray, List.getElem_cons_zero, List.getElem_cons_succ, List.setIfInBounds_toArray, List.set_cons_zero, List.set_cons_succ])
        refine wpAnyS_only (i := 11) rfl (by kernel_rfl) (fun K hK => ?_)
        go_simp
        clear hHeld
        go_at_call 66
        refine (HG.out w8 H8.out HB8.out.inp).mono ?_
        rintro e w9 ⟨hr9, hk9⟩
        have HB9 := Lib.hid (HB8.out.keeps hk9)
        cases hg9 : getR (bitsL xs) p7 bt2 with
        | bad z =>
         have he := rpost_bad hr9 hg9
         subst he
         have HU := Lib.hid (show R = .bad z by rw [HU.out, Hst.out, hg9]; rfl)
         clear hr9 hk9 hg9
         unfold stopE
         go_wp2_with fail
         exact ⟨rfl, bad_rpost HU.out, HB9.out.keep⟩
        | ok a =>
         obtain ⟨he, hrd9⟩ := rpost_ok hr9 hg9
         subst he
         have hy := getR_lt hg9
         have hq9 := getR_pos hg9
         replace Hst := Lib.hid (Hst.out.trans (by rw [hg9, then_ok]))
         have H9 := Lib.hid hrd9
         obtain ⟨y, p9⟩ := a
         dsimp only at hy hq9 Hst H9 ⊢
         have hy8k : y < 8192 := Nat.lt_of_lt_of_le hy (Nat.le_trans (Nat.pow_le_pow_right (by omega) hbt2) (by decide))
         have hwy : IntKind.i64.wrap ((fr2 : Int) + (y : Int)) = ((fr2 + y : Nat) : Int) := by rw [show (fr2 : Int) + (y : Int) = ((fr2 + y : Nat) : Int) by omega]; exact IntWalk.i64_in _ (by omega)
         have hd0 : 1 ≤ fr2 + y := by have := hfr2.1; omega
         have hd1 : fr2 + y ≤ 40000 := by omega
         clear hr9 hk9 hg9 hrd9 hy HG
         refine hK.out _ _ (hSF.out w9 HB9.out.fo) (fun hHeld => ?_)
         clear hK K
         (try simp only [Act.put, List.getElem_toArray, List.getElem_cons_zero, List.getElem_cons_succ, List.setIfInBounds_toArray, List.set_cons_zero, List.set_cons_succ])
         refine wpAnyS_only (i := 12) rfl (by kernel_rfl) (fun K hK => ?_)
         go_simp
         rw [show (fr2 : Int) + (y : Int) = ((fr2 + y : Nat) : Int) by omega]
         refine hK.out _ _ (hSF.out w9 HB9.out.fo) (fun hHeld => ?_)
         clear hK K hHeld
         (try simp only [Act.put, List.getElem_toArray, List.getElem_cons_zero, List.getElem_cons_succ, List.setIfInBounds_toArray, List.set_cons_zero, List.set_cons_succ])
         generalize hdd : fr2 + y = d at *
         refine wpAnyS_last rfl (by kernel_rfl) (by kernel_rfl) (fun K hK => ?_)
         go_simp
         refine hK.out _ _ ?_
         clear hK K hSS hSF
         obtain ⟨Ao, ol, co, hol, b1, ho3, _⟩ := H9.out.out1
         have Hol := Lib.hid hol
         by_cases hd : ol < d
         ·have HU := Lib.hid (show R = .bad 9 by rw [HU.out, Hst.out, if_pos (by rw [← hol]; exact hd)]; rfl)
          have hd' : (ol : Int) < (d : Int) := by omega
          clear hol
          go_wp2_with fail
          refine (fail_any 9 _).mono ?_
          rintro e w10 ⟨rfl, rfl⟩
          unfold stopE
          go_wp2_with fail
          exact ⟨rfl, bad_rpost HU.out, HB9.out.keep⟩
         ·have hst : bodyStep (bitsL xs) lit far p o = (copyR d m o).then_ fun o => .ok (false, p9, o) := Hst.out.trans (if_neg (by rw [← hol]; exact hd))
          have HU := Lib.hid (show R = (copyR d m o).then_ fun o => bodyR (bitsL xs) lit far f p9 o by rw [HU.out, hst]; cases copyR d m o <;> rfl)
          have hd' : ¬ (ol : Int) < (d : Int) := by omega
          have hdo : d ≤ o.length := by rw [← hol]; omega
          clear hol hst
          go_wp2_with fail
          go_loopw [77] (fun vi wr => ∃ (k r : Nat) (o' : List UInt8), k + r = m ∧ vi = .int .i64 (k : Int) ∧ d ≤ o'.length ∧ R = (copyR d r o').then_ (fun o => bodyR (bitsL xs) lit far f p9 o) ∧ RdAt wr base g q A n c p9 o' ks ∧ Bd w base A n xs tl tf lit far (some ⟨bs, os, none⟩) cs (some ⟨bf, of, none⟩) cf wr) (fun vi _ => m - (intOf vi).toNat)
          case atStart => exact ⟨0, m, o, by omega, rfl, hdo, HU.out, H9.out, HB9.out⟩
          case round =>
           obtain ⟨k, r, o', hkr, rfl, hdo', hR, hrd, hbd⟩ := hrel
           have HU := Lib.hid hR
           have HR := Lib.hid hrd
           have HB := Lib.hid hbd
           clear hR hrd hbd HB9 H9 HB8 H8
           by_cases hlt : k < m
           ·obtain ⟨r, rfl⟩ : ∃ r', r = r' + 1 := ⟨r - 1, by omega⟩
            obtain ⟨b, oo, ol, co, hol, hb1, hsl⟩ := HR.out.outd (by omega)
            have hbwr : base ≤ wr.heap.size := HR.out.bw
            have hfew := HR.out.few
            obtain ⟨ix, hix⟩ : ∃ ix, ix = ol - d := ⟨_, rfl⟩
            have hcx := hsl ix (by omega)
            have HU := Lib.hid (show R = (pushR o' (o'.getD ix 0)).then_ fun o => (copyR d r o).then_ (fun o => bodyR (bitsL xs) lit far f p9 o) by
             rw [HU.out, hix, hol]
             show ((pushR o' (o'.getD (o'.length - d) 0)).then_ fun o => copyR d r o).then_ _ = _
             cases pushR o' (o'.getD (o'.length - d) 0) <;> rfl)
            have hwi : IntKind.i64.wrap ((ol : Int) - (d : Int)) = (ix : Int) := by rw [show (ol : Int) - (d : Int) = (ix : Int) by omega]; exact IntWalk.i64_in _ (by omega)
            have hki : IntKind.i64.wrap ((k : Int) + 1) = ((k + 1 : Nat) : Int) := by rw [show (k : Int) + 1 = ((k + 1 : Nat) : Int) by omega]; exact IntWalk.i64_in _ (by omega)
            have hix1 : (ix : Int) < (ol : Int) := by omega
            have hix0 : (0 : Int) ≤ (ix : Int) := by omega
            have hlt' : (k : Int) < (m : Int) := by omega
            generalize o'.getD ix 0 = bx at *
            have HP := Lib.hid (fun W (hr : RdAt W base g q A n c p9 o' ks) => put_r base g q A n c p9 bx o' ks W hr)
            clear hix hol hsl
            go_wp2_with fail
            go_still_tail 14, (by kernel_rfl)
            obtain ⟨w10, hw10⟩ : ∃ w10, w10 = wr.drew := ⟨_, rfl⟩
            have hb10 : Below wr.heap.size wr w10 := by rw [hw10]; exact (Below.refl _ _).drew
            have H10 := Lib.hid (HR.out.below hb10)
            have HB10 := Lib.hid (HB.out.keeps (Keeps.of_below hb10 hbwr))
            change wpList _ _ _ _ _ wr.drew
            rw [← hw10]
            clear hw10 hb10 hb1 hcx
            go_wp2_with fail
            refine (HP.out w10 H10.out).mono ?_
            rintro e w11 ⟨hr11, hk11⟩
            have HB11 := Lib.hid (HB10.out.keeps hk11)
            cases hg11 : pushR o' bx with
            | bad z =>
             have he := rpost_bad hr11 hg11
             subst he
             have HU := Lib.hid (show R = .bad z by rw [HU.out, hg11]; rfl)
             clear hr11 hk11 hg11
             unfold stopE
             go_wp2_with fail
             exact ⟨rfl, bad_rpost HU.out, HB11.out.keep⟩
            | ok o2 =>
             obtain ⟨he, hrd11⟩ := rpost_ok hr11 hg11
             subst he
             have ho2 := pushR_len hg11
             have HU := Lib.hid (show R = (copyR d r o2).then_ (fun o => bodyR (bitsL xs) lit far f p9 o) by rw [HU.out, hg11]; rfl)
             have H11 := Lib.hid hrd11
             clear hr11 hk11 hg11 hrd11 HP
             go_wp2_with fail
             go_roundw
             case rel => exact ⟨k + 1, r, o2, by omega, rfl, by omega, HU.out, H11.out, HB11.out⟩
             case measure =>
              show m - (k + 1) < m - k
              omega
           ·have hlt' : ¬ (k : Int) < (m : Int) := by omega
            have HU := Lib.hid (show R = bodyR (bitsL xs) lit far f p9 o' by rw [HU.out, show r = 0 by omega]; rfl)
            go_wp2_with fail
            go_roundw
            case rel => exact ⟨f, p9, o', by omega, HU.out, HR.out, HB.out.keep, HB.out.inp, HB.out.tbl, HB.out.tbf, HB.out.so, HB.out.fo⟩
            case measure =>
             rw [Hpos.out, posOf_src HR.out.src]
             omega
end Go.Proofs.YthpdcnjaodjjmaaGreat.Inf

/- package inflate: lengths that are told. -/
namespace Go.Proofs.YthpdcnjaodjjmaaGreat.Inf
open Go Go.RowKit Go.Proofs.YthpdcnjaodjjmaaGreat Go.Proofs.YthpdcnjaodjjmaaGreat.Bits Go.Proofs.YthpdcnjaodjjmaaGreat.Code
set_option linter.unusedVariables false
set_option linter.unusedSimpArgs false

theorem AgAt.keeps {w w' : World} {B gl gn n : Nat} {l : List Nat} {base : Nat} (h : AgAt w B gl gn n l) (hk : Keeps base srcT w w') : AgAt w' B gl gn n l := by
 obtain ⟨hgl, ⟨vl, hbl, hol, hne⟩, hbn, hfit, hfew⟩ := h
 exact ⟨hgl, ⟨vl, hk.blk hbl (by decide), hk.own hol (by decide), hne⟩, hk.blk hbn (by decide), hfit, hfew⟩
theorem AgAt.at_ {w : World} {B gl gn n : Nat} {l : List Nat} (h : AgAt w B gl gn n l) : ∃ Al cl, w.cell? ⟨gl, 0, none⟩ = some (.slice Al l.length cl) ∧ w.cell? ⟨gn, 0, none⟩ = some (.int .i64 (n : Int)) := by
 obtain ⟨hgl, ⟨vl, hbl, hol, hne⟩, hbn, hfit, hfew⟩ := h
 obtain ⟨Al, cl, rfl, _⟩ := own_slat hol
 exact ⟨Al, cl, by rw [hbl.cell]; rfl, by rw [hbn.cell]; rfl⟩
def lenAt (gl : Nat) (w : World) : Nat := match w.cell? ⟨gl, 0, none⟩ with
 | some (.slice _ L _) => L
 | _ => 0
theorem lenAt_ag {w : World} {B gl gn n : Nat} {l : List Nat} (h : AgAt w B gl gn n l) : lenAt gl w = l.length := by
 obtain ⟨Al, cl, h1, _⟩ := h.at_
 unfold lenAt
 rw [h1]
theorem AgAt.last {w : World} {B gl gn n : Nat} {l : List Nat} (h : AgAt w B gl gn n l) (h0 : l ≠ []) : ∃ b o cl, (∀ W T base, Keeps base T w W → 23 ∉ T → 3 ∉ T → W.cell? ⟨gl, 0, none⟩ = some (.slice (some ⟨b, o, none⟩) l.length cl) ∧ W.cell? ⟨b, o + (l.length - 1), none⟩ = some (.int .i64 (l.getLastD 0 : Int))) := by
 obtain ⟨hgl, ⟨vl, hbl, hol, hne⟩, hbn, hfit, hfew⟩ := h
 obtain ⟨Al, cl, rfl, _, _, hsl, _⟩ := own_slat hol
 have hp : 0 < l.length := List.length_pos_iff.2 h0
 obtain ⟨b, o, rfl, _⟩ := hsl (by rw [List.length_map]; exact hp)
 refine ⟨b, o, cl, fun W T base hk h1 h2 => ⟨by rw [(hk.blk hbl h1).cell]; rfl, ?_⟩⟩
 obtain ⟨A', c', e, _, _, hs', _⟩ := own_slat (hk.own hol h2)
 injection e with e1 e2 e3
 subst e1
 obtain ⟨b', o', e, hc⟩ := hs' (by rw [List.length_map]; exact hp)
 injection e with e
 injection e with e1 e2 e3
 subst e1 e2
 refine hc (l.length - 1) _ ?_
 rw [List.getElem?_map, List.getElem?_eq_getElem (by omega)]
 have e : l[l.length - 1]'(by omega) = l.getLastD 0 := by
  rw [List.getLastD_eq_getLast?, List.getLast?_eq_getElem?, List.getElem?_eq_getElem (by omega)]; rfl
 rw [e]
 rfl
theorem againR_len {n : Nat} {l m : List Nat} {v k : Nat} (h : againR n l v k = .ok m) : m.length = l.length + k ∧ m.length ≤ n := by
 unfold againR at h
 split at h
 ·cases h
 ·injection h with h
  subst h
  simp
  omega
set_option maxRecDepth 100000 in
set_option maxHeartbeats 4000000 in
theorem lengths_r (base tb g q tp : Nat) (A : Option Addr) (n c pos N : Nat) (xs : List UInt8) (ls : List Nat) (vo vk : Value) (w : World) (hq : base ≤ q) (hbw : base ≤ w.heap.size)
  (hb : Blk w g 86 #[.pointer (some ⟨q, 0, none⟩), vo, vk]) (hsrc : SrcAt w q A n c pos) (hp : pos ≤ 8 * n) (hi : InAt_ w base A n xs) (hT : TbAt w tb tp ls) (hN : N ≤ 316) :
  Calls Tryz.prog 95 #[.pointer (some ⟨g, 0, none⟩), .pointer (some ⟨tp, 0, none⟩), .int .i64 (N : Int)] w fun e w' =>
   RPost (lenR (bitsL xs) ls N N pos []) (fun a e w' => ∃ A' c', e = .returned (.slice A' N c') ∧ a.2.length = N ∧ w'.ownsRow w.heap.size 3 1 (.slice A' N c') N (a.2.map natV) ∧ SrcAt w' q A n c a.1 ∧ a.1 ≤ 8 * n) e w' ∧ OldK base w.heap.size srcT w w' := by
 obtain ⟨R, hR⟩ : ∃ R, R = lenR (bitsL xs) ls N N pos [] := ⟨_, rfl⟩
 rw [← hR]
 have HU := Lib.hid hR
 have HB := Lib.hid hb
 have HS := Lib.hid hsrc
 have HI := Lib.hid hi
 have HT := Lib.hid hT
 clear hb hsrc hi hT hR
 go_enter Tryz.func95, Tryz.ntmps95
 go_wp2_with fail
 generalize hg : w.heap.size = gn at *
 have Hgn := Lib.hid hg
 have HOld : Hid (OldK base gn srcT w w) := Lib.hid (OldK.refl _ _ _ _)
 have hb2 : Below gn w ((w.alloc (.cells #[.int .i64 (N : Int)] 3)).alloc (.cells #[.slice none 0 0] 23)) := by
  have h1 : Below gn w (w.alloc (.cells #[.int .i64 (N : Int)] 3)) := (Below.refl _ _).alloc (by omega) _
  exact h1.alloc (by rw [← hg]; simp) _
 have hqgn : q < gn := by have := Blk.lt HS.out; omega
 have HO2 := Lib.hid (HOld.out.below hb2 hbw)
 have HS2 := Lib.hid (Blk.below HS.out hb2 hqgn)
 have HG2 : Hid (AgAt ((w.alloc (.cells #[.int .i64 (N : Int)] 3)).alloc (.cells #[.slice none 0 0] 23)) gn (gn + 1) gn N []) := Lib.hid (by
  refine ⟨by omega, ⟨.slice none 0 0, ?_, ⟨rfl, .inl ⟨rfl, rfl⟩⟩, by simp [Value.ownBlock]⟩, ?_, Nat.zero_le _, by omega⟩
  ·have := Blk.new (w.alloc (.cells #[.int .i64 (N : Int)] 3)) 23 #[.slice none 0 0]
   simpa [hg] using this
  ·have := (Blk.new w 3 #[.int .i64 (N : Int)]).alloc (.cells #[.slice none 0 0] 23)
   rw [hg] at this
   exact this)
 clear hg hb2 HOld
 generalize ((w.alloc (.cells #[.int .i64 (N : Int)] 3)).alloc (.cells #[.slice none 0 0] 23)) = w2 at *
 go_loopw [] (fun wr => ∃ (f p : Nat) (l : List Nat), N ≤ l.length + f ∧ R = lenR (bitsL xs) ls N f p l ∧ AgAt wr gn (gn + 1) gn N l ∧ SrcAt wr q A n c p ∧ p ≤ 8 * n ∧ OldK base gn srcT w wr) (fun wr => N - lenAt (gn + 1) wr)
 case atStart => exact ⟨N, pos, [], by simp, HU.out, HG2.out, HS2.out, hp, HO2.out⟩
 case round =>
  obtain ⟨f, p, l, hf, hR, hag, hsrc, hple, hold⟩ := hrel
  have hla : Hid (lenAt (gn + 1) wr = l.length) := Lib.hid (lenAt_ag hag)
  obtain ⟨Al, cl, hcl, hcn⟩ := hag.at_
  have HA := Lib.hid hag
  have HS := Lib.hid hsrc
  have HO := Lib.hid hold
  have HU := Lib.hid hR
  clear hag hsrc hold hR HO2 HS2 HG2
  obtain ⟨L, hL⟩ : ∃ L, L = l.length := ⟨_, rfl⟩
  rw [← hL] at hf hla hcl
  have HLl := Lib.hid hL
  clear hL
  by_cases hlt : L < N
  ·have hlt' : (L : Int) < (N : Int) := by omega
   obtain ⟨f, rfl⟩ : ∃ f', f = f' + 1 := ⟨f - 1, by omega⟩
   have HU := Lib.hid (show R = (lenStep (bitsL xs) ls N p l).then_ fun x => lenR (bitsL xs) ls N f x.1 x.2 by
    rw [HU.out]
    show (if N ≤ l.length then _ else _) = _
    rw [if_neg (by rw [← HLl.out]; omega)])
   have HIr := Lib.hid (HI.out.old HO.out)
   have HBr : Hid (Blk wr g 86 #[.pointer (some ⟨q, 0, none⟩), vo, vk]) := Lib.hid ((Hgn.out ▸ HO.out : OldK base w.heap.size srcT w wr).blk HB.out (by decide))
   have HTr : Hid (TabAt wr tb tp ls) := Lib.hid (by
    obtain ⟨⟨t1, v, t2, t3⟩, _⟩ := HT.out
    have hk := (Hgn.out ▸ HO.out : OldK base w.heap.size srcT w wr).toKeeps
    exact ⟨t1, v, hk.blk t2 (by decide), hk.own t3 (by decide)⟩)
   have HY := Lib.hid (sym_k base tb g q tp A n c p xs ls wr hq (by rw [HBr.out.cell]; rfl) HS.out hple HIr.out HTr.out HT.out.le HT.out.room HT.out.len)
   have hls := HT.out.len
   go_wp2_with fail
   refine (HY.out).mono ?_
   rintro e w4 ⟨hr4, hk4⟩
   have HK4 := Lib.hid hk4
   have HO4 := Lib.hid (HO.out.keeps (hk4.mono hq (fun _ h => h)))
   have HA4 := Lib.hid (HA.out.keeps hk4)
   cases hg4 : symR (bitsL xs) ls p with
   | bad z =>
    have he := rpost_bad hr4 hg4
    subst he
    have HU := Lib.hid (show R = .bad z by rw [HU.out]; unfold lenStep; rw [hg4]; rfl)
    clear hr4 hk4 hg4
    unfold stopE
    go_wp2_with fail
    exact ⟨rfl, bad_rpost HU.out, Hgn.out.symm ▸ HO4.out⟩
   | ok a =>
    obtain ⟨he, hs4, hp4⟩ := rpost_ok hr4 hg4
    subst he
    have hpl := symR_place hg4
    have Hst := Lib.hid (show lenStep (bitsL xs) ls N p l = _ by unfold lenStep; rw [hg4, then_ok])
    have HS4 := Lib.hid hs4
    obtain ⟨k, p4⟩ := a
    dsimp only at hp4 hpl Hst HS4 ⊢
    clear hr4 hk4 hg4 hs4 HY
    have HB4 : Hid (Blk w4 g 86 #[.pointer (some ⟨q, 0, none⟩), vo, vk]) := Lib.hid (HK4.out.blk HBr.out (by decide))
    have HI4 := Lib.hid (HI.out.old HO4.out)
    have hB4 : gn ≤ w4.heap.size := by have := HO4.out.size; have := Hgn.out; omega
    by_cases h16 : k = 16
    ·subst h16
     replace Hst := Lib.hid (Hst.out.trans (if_pos rfl))
     by_cases hl0 : l = []
     ·have hL0 : L = 0 := by rw [HLl.out, hl0]; rfl
      have HU := Lib.hid (show R = .bad 8 by rw [HU.out, Hst.out, if_pos hl0]; rfl)
      subst hL0
      obtain ⟨Al4, cl4, hcl4, _⟩ := HA4.out.at_
      rw [← HLl.out] at hcl4
      go_wp2_with fail
      refine (fail_any 8 _).mono ?_
      rintro e w5 ⟨rfl, rfl⟩
      unfold stopE
      go_wp2_with fail
      exact ⟨rfl, bad_rpost HU.out, Hgn.out.symm ▸ HO4.out⟩
     ·replace Hst := Lib.hid (Hst.out.trans (if_neg hl0))
      have hL1 : 1 ≤ L := by
       rw [HLl.out]
       exact List.length_pos_iff.2 hl0
      obtain ⟨bl, ol, cl4, hSS⟩ := HA4.out.last hl0
      rw [← HLl.out] at hSS
      obtain ⟨ix, hix⟩ : ∃ ix, ix = L - 1 := ⟨_, rfl⟩
      rw [← hix] at hSS
      have HSS := Lib.hid hSS
      have hwi : IntKind.i64.wrap ((L : Int) - 1) = (ix : Int) := by rw [show (L : Int) - 1 = (ix : Int) by omega]; exact IntWalk.i64_in _ (by omega)
      have hix0 : (0 : Int) ≤ (ix : Int) := by omega
      have hix1 : (ix : Int) < (L : Int) := by omega
      clear hix
      have hLb : ((L : Int) == 0) = false := by rw [beq_eq_false_iff_ne]; omega
      have hcl4 := (hSS w4 [] 0 (Keeps.refl _ _ _) (by simp) (by simp)).1
      generalize l.getLastD 0 = la at Hst HSS hcl4
      have HG := Lib.hid (get_k base g q A n c p4 2 xs w4.drew hq (by show w4.cell? _ = _; rw [HB4.out.cell]; rfl) HS4.out hp4 (HI4.out.keeps ((Keeps.refl base [] w4).drew)) (by omega))
      clear hSS
      go_wp2_with fail
      refine wp_region_S (fun W => W.cell? ⟨gn + 1, 0, none⟩ = some (.slice (some ⟨bl, ol, none⟩) L cl4) ∧ W.cell? ⟨bl, ol + ix, none⟩ = some (.int .i64 (la : Int))) 10 (by kernel_rfl) ?_
      have hHeld := HSS.out w4.drew [] 0 ((Keeps.refl _ _ _).drew) (by simp) (by simp)
      have HA4 := Lib.hid (HA4.out.keeps (base := 0) ((Keeps.refl _ _ _).drew))
      have HO4 : Hid (OldK base gn srcT w w4.drew) := Lib.hid (HO4.out.keeps ((Keeps.refl _ _ _).drew))
      have HSS : Hid (∀ W base, Keeps base srcT w4.drew W → W.cell? ⟨gn + 1, 0, none⟩ = some (.slice (some ⟨bl, ol, none⟩) L cl4) ∧ W.cell? ⟨bl, ol + ix, none⟩ = some (.int .i64 (la : Int))) := Lib.hid (fun W B' hk => HSS.out W srcT 0 (((Keeps.refl 0 srcT w4).drew).trans (hk.mono (Nat.zero_le _) (fun _ h => h))) (by decide) (by decide))
      have hB4 : gn ≤ w4.drew.heap.size := hB4
      clear hcl4 HK4 HS4 HB4 HI4
      generalize w4.drew = w4 at *
      refine wpAnyS_takeT (i := 0) (v := ?va0) (by kernel_rfl) (by kernel_rfl) rfl (by kernel_rfl) (by kernel_rfl) (by kernel_rfl) (fun _ _ _ h => h) (by rfl) (by assumption) ?hya0 ?resta0
      case hya0 => (intro W hSW; (try dsimp only at hSW); go_simp; try with_reducible rfl)
      (try simp only [Act.put, List.getElem_toArray, List.getElem_cons_zero, List.getElem_cons_succ, List.setIfInBounds_toArray, List.set_cons_zero, List.set_cons_succ])
      refine wpAnyS_takeT (i := 1) (v := ?va1) (by kernel_rfl) (by kernel_rfl) rfl (by kernel_rfl) (by kernel_rfl) (by kernel_rfl) (fun _ _ _ h => h) (by rfl) (by assumption) ?hya1 ?resta1
      case hya1 => (intro W hSW; (try dsimp only at hSW); go_simp; try with_reducible rfl)
      (try simp only [Act.put, List.getElem_toArray, List.getElem_cons_zero, List.getElem_cons_succ, List.setIfInBounds_toArray, List.set_cons_zero, List.set_cons_succ])
      refine wpAnyS_takeT (i := 2) (v := ?va2) (by kernel_rfl) (by kernel_rfl) rfl (by kernel_rfl) (by kernel_rfl) (by kernel_rfl) (fun _ _ _ h => h) (by rfl) (by assumption) ?hya2 ?resta2
      case hya2 => (intro W hSW; (try dsimp only at hSW); go_simp; try with_reducible rfl)
      (try simp only [Act.put, List.getElem_toArray, List.getElem_cons_zero, List.getElem_cons_succ, List.setIfInBounds_toArray, List.set_cons_zero, List.set_cons_succ])
      refine wpAnyS_takeT (i := 3) (v := ?va3) (by kernel_rfl) (by kernel_rfl) rfl (by kernel_rfl) (by kernel_rfl) (by kernel_rfl) (fun _ _ _ h => h) (by rfl) (by assumption) ?hya3 ?resta3
      case hya3 => (intro W hSW; (try dsimp only at hSW); go_simp; try with_reducible rfl)
      (try simp only [Act.put, List.getElem_toArray, List.getElem_cons_zero, List.getElem_cons_succ, List.setIfInBounds_toArray, List.set_cons_zero, List.set_cons_succ])
      refine wpAnyS_takeT (i := 4) (v := ?va4) (by kernel_rfl) (by kernel_rfl) rfl (by kernel_rfl) (by kernel_rfl) (by kernel_rfl) (fun _ _ _ h => h) (by rfl) (by assumption) ?hya4 ?resta4
      case hya4 => (intro W hSW; (try dsimp only at hSW); go_simp; try with_reducible rfl)
      (try simp only [Act.put, List.getElem_toArray, List.getElem_cons_zero, List.getElem_cons_succ, List.setIfInBounds_toArray, List.set_cons_zero, List.set_cons_succ])
      refine wpAnyS_takeT (i := 5) (v := ?va5) (by kernel_rfl) (by kernel_rfl) rfl (by kernel_rfl) (by kernel_rfl) (by kernel_rfl) (fun _ _ _ h => h) (by rfl) (by assumption) ?hya5 ?resta5
      case hya5 => (intro W hSW; (try dsimp only at hSW); go_simp; try with_reducible rfl)
      (try simp only [Act.put, List.getElem_toArray, List.getElem_cons_zero, List.getElem_cons_succ, List.setIfInBounds_toArray, List.set_cons_zero, List.set_cons_succ])
      refine wpAnyS_takeT (i := 6) (v := ?va6) (by kernel_rfl) (by kernel_rfl) rfl (by kernel_rfl) (by kernel_rfl) (by kernel_rfl) (fun _ _ _ h => h) (by rfl) (by assumption) ?hya6 ?resta6
      case hya6 => (intro W hSW; (try dsimp only at hSW); go_simp; try with_reducible rfl)
      (try simp only [Act.put, List.getElem_toArray, List.getElem_cons_zero, List.getElem_cons_succ, List.setIfInBounds_toArray, List.set_cons_zero, List.set_cons_succ])
      refine wpAnyS_takeT (i := 7) (v := ?va7) (by kernel_rfl) (by kernel_rfl) rfl (by kernel_rfl) (by kernel_rfl) (by kernel_rfl) (fun _ _ _ h => h) (by rfl) (by assumption) ?hya7 ?resta7
      case hya7 => (intro W hSW; (try dsimp only at hSW); go_simp; try with_reducible rfl)
      (try simp only [Act.put, List.getElem_toArray, List.getElem_cons_zero, List.getElem_cons_succ, List.setIfInBounds_toArray, List.set_cons_zero, List.set_cons_succ])
      refine wpAnyS_only (i := 8) rfl (by kernel_rfl) (fun K hK => ?_)
      go_simp
      clear hHeld
      go_at_call 66
      refine (HG.out).mono ?_
      rintro e w6 ⟨hr6, hk6⟩
      have HO6 := Lib.hid (HO4.out.keeps (hk6.mono hq (fun _ h => h)))
      have HA6 := Lib.hid (HA4.out.keeps hk6)
      have HK6 := Lib.hid hk6
      have hB6 : gn ≤ w6.heap.size := Nat.le_trans hB4 hk6.size
      cases hg6 : getR (bitsL xs) p4 2 with
      | bad z =>
       have he := rpost_bad hr6 hg6
       subst he
       have HU := Lib.hid (show R = .bad z by rw [HU.out, Hst.out, hg6]; rfl)
       clear hr6 hk6 hg6
       unfold stopE
       go_wp2_with fail
       exact ⟨rfl, bad_rpost HU.out, Hgn.out.symm ▸ HO6.out⟩
      | ok a =>
       obtain ⟨he, hs6, hp6⟩ := rpost_ok hr6 hg6
       subst he
       have hx := getR_lt hg6
       replace Hst := Lib.hid (Hst.out.trans (by rw [hg6, then_ok]))
       have HS6 := Lib.hid hs6
       obtain ⟨x, p6⟩ := a
       dsimp only at hp6 hx Hst HS6 ⊢
       have hx' : x < 4 := hx
       obtain ⟨y, hy⟩ : ∃ y, y = 3 + x := ⟨_, rfl⟩
       rw [← hy] at Hst
       have hwx : IntKind.i64.wrap ((3 : Int) + (x : Int)) = (y : Int) := by rw [show (3 : Int) + (x : Int) = (y : Int) by omega]; exact IntWalk.i64_in _ (by omega)
       have hy1 : 1 ≤ y := by omega
       have hy2 : y ≤ 1000 := by omega
       clear hr6 hk6 hg6 hs6 HG hy hx hx'
       refine hK.out _ _ (HSS.out w6 q HK6.out) (fun hHeld => ?_)
       clear hK K
       (try simp only [Act.put, List.getElem_toArray, List.getElem_cons_zero, List.getElem_cons_succ, List.setIfInBounds_toArray, List.set_cons_zero, List.set_cons_succ])
       refine wpAnyS_only (i := 9) rfl (by kernel_rfl) (fun K hK => ?_)
       go_simp
       refine hK.out _ _ (HSS.out w6 q HK6.out) (fun hHeld => ?_)
       clear hK K hHeld
       (try simp only [Act.put, List.getElem_toArray, List.getElem_cons_zero, List.getElem_cons_succ, List.setIfInBounds_toArray, List.set_cons_zero, List.set_cons_succ])
       refine wpAnyS_last rfl (by kernel_rfl) (by kernel_rfl) (fun K hK => ?_)
       go_simp
       go_at_call 112
       refine (again_any gn (gn + 1) gn N la y l w6 HA6.out (by omega) (by omega) hB6).mono ?_
       rintro e w7 ⟨hr7, hb7⟩
       have HO7 := Lib.hid (HO6.out.below hb7 hbw)
       have HS7 := Lib.hid (Blk.below HS6.out hb7 hqgn)
       cases hg7 : againR N l la y with
       | bad z =>
        have he := rpost_bad hr7 hg7
        subst he
        have HU := Lib.hid (show R = .bad z by rw [HU.out, Hst.out, hg7]; rfl)
        clear hr7 hb7 hg7
        unfold stopE
        go_wp2_with fail
        exact ⟨rfl, bad_rpost HU.out, Hgn.out.symm ▸ HO7.out⟩
       | ok m =>
        obtain ⟨he, ha7⟩ := rpost_ok hr7 hg7
        subst he
        have hm7 := againR_len hg7
        have Hl7 : Hid (lenAt (gn + 1) w7 = m.length) := Lib.hid (lenAt_ag ha7)
        have HU := Lib.hid (show R = lenR (bitsL xs) ls N f p6 m by rw [HU.out, Hst.out, hg7]; rfl)
        have HA7 := Lib.hid ha7
        clear hr7 hb7 hg7 ha7
        refine hK.out _ _ ?_
        clear hK K
        go_wp2_with fail
        go_roundw
        case rel => exact ⟨f, p6, m, by have := HLl.out; omega, HU.out, HA7.out, HS7.out, hp6, HO7.out⟩
        case measure => rw [hla.out, Hl7.out]; have := HLl.out; omega
    ·replace Hst := Lib.hid (Hst.out.trans (if_neg h16))
     have hb16 : ((k : Int) == 16) = false := by rw [beq_eq_false_iff_ne]; omega
     by_cases h17 : k = 17
     ·subst h17
      replace Hst := Lib.hid (Hst.out.trans (if_pos rfl))
      have HG := Lib.hid (get_k base g q A n c p4 3 xs w4 hq (by rw [HB4.out.cell]; rfl) HS4.out hp4 HI4.out (by omega))
      go_wp2_with fail
      refine (HG.out).mono ?_
      rintro e w6 ⟨hr6, hk6⟩
      have HO6 := Lib.hid (HO4.out.keeps (hk6.mono hq (fun _ h => h)))
      have HA6 := Lib.hid (HA4.out.keeps hk6)
      have HK6 := Lib.hid hk6
      have hB6 : gn ≤ w6.heap.size := Nat.le_trans hB4 hk6.size
      cases hg6 : getR (bitsL xs) p4 3 with
      | bad z =>
       have he := rpost_bad hr6 hg6
       subst he
       have HU := Lib.hid (show R = .bad z by rw [HU.out, Hst.out, hg6]; rfl)
       clear hr6 hk6 hg6
       unfold stopE
       go_wp2_with fail
       exact ⟨rfl, bad_rpost HU.out, Hgn.out.symm ▸ HO6.out⟩
      | ok a =>
       obtain ⟨he, hs6, hp6⟩ := rpost_ok hr6 hg6
       subst he
       have hx := getR_lt hg6
       replace Hst := Lib.hid (Hst.out.trans (by rw [hg6, then_ok]))
       have HS6 := Lib.hid hs6
       obtain ⟨x, p6⟩ := a
       dsimp only at hp6 hx Hst HS6 ⊢
       have hx' : x < 8 := hx
       obtain ⟨y, hy⟩ : ∃ y, y = 3 + x := ⟨_, rfl⟩
       rw [← hy] at Hst
       have hwx : IntKind.i64.wrap ((3 : Int) + (x : Int)) = (y : Int) := by rw [show (3 : Int) + (x : Int) = (y : Int) by omega]; exact IntWalk.i64_in _ (by omega)
       have hy1 : 1 ≤ y := by omega
       have hy2 : y ≤ 1000 := by omega
       clear hr6 hk6 hg6 hs6 HG hy hx hx'
       go_wp2_with fail
       refine (again_any gn (gn + 1) gn N 0 y l w6 HA6.out (by omega) (by omega) hB6).mono ?_
       rintro e w7 ⟨hr7, hb7⟩
       have HO7 := Lib.hid (HO6.out.below hb7 hbw)
       have HS7 := Lib.hid (Blk.below HS6.out hb7 hqgn)
       cases hg7 : againR N l 0 y with
       | bad z =>
        have he := rpost_bad hr7 hg7
        subst he
        have HU := Lib.hid (show R = .bad z by rw [HU.out, Hst.out, hg7]; rfl)
        clear hr7 hb7 hg7
        unfold stopE
        go_wp2_with fail
        exact ⟨rfl, bad_rpost HU.out, Hgn.out.symm ▸ HO7.out⟩
       | ok m =>
        obtain ⟨he, ha7⟩ := rpost_ok hr7 hg7
        subst he
        have hm7 := againR_len hg7
        have Hl7 : Hid (lenAt (gn + 1) w7 = m.length) := Lib.hid (lenAt_ag ha7)
        have HU := Lib.hid (show R = lenR (bitsL xs) ls N f p6 m by rw [HU.out, Hst.out, hg7]; rfl)
        have HA7 := Lib.hid ha7
        clear hr7 hb7 hg7 ha7
        go_wp2_with fail
        go_roundw
        case rel => exact ⟨f, p6, m, by have := HLl.out; omega, HU.out, HA7.out, HS7.out, hp6, HO7.out⟩
        case measure => rw [hla.out, Hl7.out]; have := HLl.out; omega
     ·replace Hst := Lib.hid (Hst.out.trans (if_neg h17))
      have hb17 : ((k : Int) == 17) = false := by rw [beq_eq_false_iff_ne]; omega
      by_cases h18 : k = 18
      ·subst h18
       replace Hst := Lib.hid (Hst.out.trans (if_pos rfl))
       have HG := Lib.hid (get_k base g q A n c p4 7 xs w4 hq (by rw [HB4.out.cell]; rfl) HS4.out hp4 HI4.out (by omega))
       go_wp2_with fail
       refine (HG.out).mono ?_
       rintro e w6 ⟨hr6, hk6⟩
       have HO6 := Lib.hid (HO4.out.keeps (hk6.mono hq (fun _ h => h)))
       have HA6 := Lib.hid (HA4.out.keeps hk6)
       have HK6 := Lib.hid hk6
       have hB6 : gn ≤ w6.heap.size := Nat.le_trans hB4 hk6.size
       cases hg6 : getR (bitsL xs) p4 7 with
       | bad z =>
        have he := rpost_bad hr6 hg6
        subst he
        have HU := Lib.hid (show R = .bad z by rw [HU.out, Hst.out, hg6]; rfl)
        clear hr6 hk6 hg6
        unfold stopE
        go_wp2_with fail
        exact ⟨rfl, bad_rpost HU.out, Hgn.out.symm ▸ HO6.out⟩
       | ok a =>
        obtain ⟨he, hs6, hp6⟩ := rpost_ok hr6 hg6
        subst he
        have hx := getR_lt hg6
        replace Hst := Lib.hid (Hst.out.trans (by rw [hg6, then_ok]))
        have HS6 := Lib.hid hs6
        obtain ⟨x, p6⟩ := a
        dsimp only at hp6 hx Hst HS6 ⊢
        have hx' : x < 128 := hx
        obtain ⟨y, hy⟩ : ∃ y, y = 11 + x := ⟨_, rfl⟩
        rw [← hy] at Hst
        have hwx : IntKind.i64.wrap ((11 : Int) + (x : Int)) = (y : Int) := by rw [show (11 : Int) + (x : Int) = (y : Int) by omega]; exact IntWalk.i64_in _ (by omega)
        have hy1 : 1 ≤ y := by omega
        have hy2 : y ≤ 1000 := by omega
        clear hr6 hk6 hg6 hs6 HG hy hx hx'
        go_wp2_with fail
        refine (again_any gn (gn + 1) gn N 0 y l w6 HA6.out (by omega) (by omega) hB6).mono ?_
        rintro e w7 ⟨hr7, hb7⟩
        have HO7 := Lib.hid (HO6.out.below hb7 hbw)
        have HS7 := Lib.hid (Blk.below HS6.out hb7 hqgn)
        cases hg7 : againR N l 0 y with
        | bad z =>
         have he := rpost_bad hr7 hg7
         subst he
         have HU := Lib.hid (show R = .bad z by rw [HU.out, Hst.out, hg7]; rfl)
         clear hr7 hb7 hg7
         unfold stopE
         go_wp2_with fail
         exact ⟨rfl, bad_rpost HU.out, Hgn.out.symm ▸ HO7.out⟩
        | ok m =>
         obtain ⟨he, ha7⟩ := rpost_ok hr7 hg7
         subst he
         have hm7 := againR_len hg7
         have Hl7 : Hid (lenAt (gn + 1) w7 = m.length) := Lib.hid (lenAt_ag ha7)
         have HU := Lib.hid (show R = lenR (bitsL xs) ls N f p6 m by rw [HU.out, Hst.out, hg7]; rfl)
         have HA7 := Lib.hid ha7
         clear hr7 hb7 hg7 ha7
         go_wp2_with fail
         go_roundw
         case rel => exact ⟨f, p6, m, by have := HLl.out; omega, HU.out, HA7.out, HS7.out, hp6, HO7.out⟩
         case measure => rw [hla.out, Hl7.out]; have := HLl.out; omega
      ·replace Hst := Lib.hid (Hst.out.trans (if_neg h18))
       have hb18 : ((k : Int) == 18) = false := by rw [beq_eq_false_iff_ne]; omega
       go_wp2_with fail
       refine (again_any gn (gn + 1) gn N k 1 l w4 HA4.out (by omega) (by omega) hB4).mono ?_
       rintro e w7 ⟨hr7, hb7⟩
       have HO7 := Lib.hid (HO4.out.below hb7 hbw)
       have HS7 := Lib.hid (Blk.below HS4.out hb7 hqgn)
       cases hg7 : againR N l k 1 with
       | bad z =>
        have he := rpost_bad hr7 hg7
        subst he
        have HU := Lib.hid (show R = .bad z by rw [HU.out, Hst.out, hg7]; rfl)
        clear hr7 hb7 hg7
        unfold stopE
        go_wp2_with fail
        exact ⟨rfl, bad_rpost HU.out, Hgn.out.symm ▸ HO7.out⟩
       | ok m =>
        obtain ⟨he, ha7⟩ := rpost_ok hr7 hg7
        subst he
        have hm7 := againR_len hg7
        have Hl7 : Hid (lenAt (gn + 1) w7 = m.length) := Lib.hid (lenAt_ag ha7)
        have HU := Lib.hid (show R = lenR (bitsL xs) ls N f p4 m by rw [HU.out, Hst.out, hg7]; rfl)
        have HA7 := Lib.hid ha7
        clear hr7 hb7 hg7 ha7
        go_wp2_with fail
        go_roundw
        case rel => exact ⟨f, p4, m, by have := HLl.out; omega, HU.out, HA7.out, HS7.out, hp4, HO7.out⟩
        case measure => rw [hla.out, Hl7.out]; have := HLl.out; omega
  ·have hlt' : ¬ (L : Int) < (N : Int) := by omega
   have hfit := HA.out.fit
   rw [← HLl.out] at hfit
   obtain rfl : L = N := by omega
   go_wp2_with fail
   go_ret
   refine ⟨ok_rpost (a := (p, l)) ?_ ⟨Al, cl, rfl, HLl.out.symm, ?_, HS.out, hple⟩, Hgn.out.symm ▸ HO.out⟩
   ·rw [HU.out]
    cases f with
    | zero => rfl
    | succ f =>
     show (if L ≤ l.length then _ else _) = _
     rw [if_pos (by rw [← HLl.out]; exact Nat.le_refl _)]
   ·obtain ⟨vl, hbl, hol, _⟩ := HA.out.row
    rw [hbl.cell] at hcl
    have e : vl = .slice Al L cl := by simpa using hcl
    rw [e, ← HLl.out] at hol
    rw [Hgn.out]
    exact hol
end Go.Proofs.YthpdcnjaodjjmaaGreat.Inf

/- package block: the order in which the lengths of the code of lengths stand. -/
namespace Go.Proofs.YthpdcnjaodjjmaaGreat.Inf
open Go Go.RowKit Go.Proofs.YthpdcnjaodjjmaaGreat Go.Proofs.YthpdcnjaodjjmaaGreat.Bits Go.Proofs.YthpdcnjaodjjmaaGreat.Code
set_option linter.unusedVariables false
set_option linter.unusedSimpArgs false

theorem wpList_build' {P : Program} {ops : Array Oper} {rest : List Oper} {o : Oper} {a : Act} {w : World} {Q : Exit → Act → World → Prop} (hg : o.guard = none) (t : TypeId) (parts : Array (Nat × Operand)) (ho : o.op = .build t parts) (cells : Array Value)
  (hf : P.built t (parts.map fun (i, x) => (i, a.eval x)).toList = some cells) (h : wpList P ops Q rest (a.put o.dst (.agg cells)) w) : wpList P ops Q (o :: rest) a w :=
 wpList_build hg t parts ho (by rw [hf]; rfl) (by rw [hf]; exact h)
theorem OldK.setRow {base B0 : Nat} {T : List TypeId} {w w' : World} (h : OldK base B0 T w w') {g : Nat} (hb : base ≤ g) (hB : B0 ≤ g) (cs : Array Value) : OldK base B0 T w (w'.setRow g cs) :=
 ⟨h.os, h.tape, h.output, by rw [setRow_size]; exact h.size, fun k hk => (setRow_other w' g k cs (by omega)).trans (h.block k hk), fun k o hk ho ht => (setRow_other w' g k cs (by omega)).trans (h.other k o hk ho ht)⟩
theorem below_setRow {B : Nat} {w w' : World} (h : Below B w w') {g : Nat} (hB : B ≤ g) (cs : Array Value) : Below B w (w'.setRow g cs) :=
 ⟨h.os, h.tape, h.output, by rw [setRow_size]; exact h.size, fun k hk => (setRow_other w' g k cs (by omega)).trans (h.block k hk)⟩
theorem OldK.mono {base B0 B1 : Nat} {T : List TypeId} {w w' : World} (h : OldK base B0 T w w') (hB : B1 ≤ B0) : OldK base B1 T w w' := ⟨h.os, h.tape, h.output, h.size, h.block, fun k o hk ho ht => h.other k o (by omega) ho ht⟩
def ordA : Array Value := #[.int .i64 16, .int .i64 17, .int .i64 18, .int .i64 0, .int .i64 8, .int .i64 7, .int .i64 9, .int .i64 6, .int .i64 10, .int .i64 5, .int .i64 11, .int .i64 4, .int .i64 12, .int .i64 3, .int .i64 13, .int .i64 2, .int .i64 14, .int .i64 1, .int .i64 15]
theorem ordA_eq : ordA = (orderL.map natV).toArray := rfl
theorem store_ord (W : World) (old : Array Value) (h : old.size = 19) : (storeCells ⟨W.heap.size, 0, none⟩ ordA.toList).run Tryz.prog (W.alloc (.cells old 104)) = .ok () ((W.alloc (.cells old 104)).setRow W.heap.size ordA) := by
 have := run_storeCells_from (P := Tryz.prog) W.heap.size 104 ordA.toList 0 old (W.alloc (.cells old 104)) (heap_alloc_new _ _) (by rw [h]; rfl) (by decide)
 rw [this]
 congr 2
set_option maxRecDepth 100000 in
set_option maxHeartbeats 1600000 in
theorem order_any (w : World) : Calls Tryz.prog 52 #[] w fun e w' => e = .returned (.agg ordA) ∧ Below w.heap.size w w' := by
 go_enter Tryz.func52, Tryz.ntmps52
 have hst := store_ord w
 go_wp2_with (refine wpList_build' rfl _ _ rfl ordA (by kernel_rfl) ?_)
 refine bodyPost_ret (results_cell_row rfl _ _ w.heap.size 104 ordA (0, 0) _ rfl (setRow_heap _ _ _ _ _ _ (heap_alloc_new _ _)) Tryz.underlying104 rfl (by kernel_rfl)) rfl ?_
 exact ⟨rfl, below_setRow ((Below.refl _ _).alloc (Nat.le_refl _) _) (Nat.le_refl _) _⟩
end Go.Proofs.YthpdcnjaodjjmaaGreat.Inf

/- package block: head: the walk. -/
namespace Go.Proofs.YthpdcnjaodjjmaaGreat.Blk
open Go Go.RowKit Go.Proofs.YthpdcnjaodjjmaaGreat Go.Proofs.YthpdcnjaodjjmaaGreat.Bits Go.Proofs.YthpdcnjaodjjmaaGreat.Code Go.Proofs.YthpdcnjaodjjmaaGreat.Inf Go.Proofs.YthpdcnjaodjjmaaGreat.Match Go.Proofs.YthpdcnjaodjjmaaGreat.SP Go.Proofs.YthpdcnjaodjjmaaGreat.Rt
set_option linter.unusedVariables false

theorem ord_index (k : Nat) (h : k < 19) (W : World) : (Instr.index 104 (.agg ordA) (.int .i64 (k : Int))).run Tryz.prog W = .ok (.int .i64 (orderL.getD k 0 : Int)) W := by
 have hu := run_underlying (P := Tryz.prog) Tryz.underlying104
 have hk : ordA[k]? = some (.int .i64 (orderL.getD k 0 : Int)) := by
  rw [ordA_eq, List.getElem?_toArray, List.getElem?_map, List.getD_eq_getElem?_getD, List.getElem?_eq_getElem (show k < orderL.length from h)]; rfl
 simp [Instr.index, hu, asIntOf, go_sem, hk]
 intro h19
 omega
theorem ord_get (k : Nat) (h : k < 19) : orderL.getD k 0 < 19 := by
 rw [List.getD_eq_getElem?_getD, List.getElem?_eq_getElem (show k < orderL.length from h)]
 exact order_lt _ (List.getElem_mem _)
theorem ord_take (S : List Nat) (k : Nat) (h : k < 19) : ((orderL.take (k + 1)).map fun j => S.getD j 0) = ((orderL.take k).map fun j => S.getD j 0) ++ [S.getD (orderL.getD k 0) 0] := by
 rw [take_snoc orderL k h, List.map_append, List.getD_eq_getElem?_getD (l := orderL), List.getElem?_eq_getElem (show k < orderL.length from h)]; rfl
theorem getD_le (S : List Nat) (c i : Nat) (h : ∀ x ∈ S, x ≤ c) : S.getD i 0 ≤ c := by
 rw [List.getD_eq_getElem?_getD]
 rcases Nat.lt_or_ge i S.length with h1 | h1
 ·rw [List.getElem?_eq_getElem h1]; exact h _ (List.getElem_mem h1)
 ·rw [List.getElem?_eq_none h1]; exact Nat.zero_le _
theorem codeOf_small (ls : List Nat) (i : Nat) (h : Cd ls) : codeOf ls i ≤ 32768 := by
 by_cases h0 : ls.getD i 0 = 0
 ·unfold codeOf; rw [if_pos h0]; omega
 ·have h1 := codeOf_lt ls i (getD_lt h0) h0 h.le h.room
  have h2 : (2 : Nat) ^ ls.getD i 0 ≤ 2 ^ 15 := Nat.pow_le_pow_right (by omega) h.bits
  omega
theorem codesL_getD (ls : List Nat) (i : Nat) (h : i < ls.length) : (codesL ls).getD i 0 = codeOf ls i := by
 unfold codesL
 rw [List.getD_eq_getElem?_getD, List.getElem?_map, List.getElem?_range h]; rfl
theorem runB_len (S : List Nat) (x : Nat × Nat × Nat) (hS : ∀ i, S.getD i 0 ≤ 7) (h : RunOk x) : (runB S x).length ≤ 14 := by
 have := hS x.1
 unfold runB
 unfold RunOk at h
 rw [List.length_append, codeB_length, numBits_length]; omega
theorem kat_cell {w : World} {A : Option Addr} {l : List Nat} (h : KAt w 3 A (l.map natV)) {i : Nat} (hi : i < l.length) : ∃ b o, A = some ⟨b, o, none⟩ ∧ w.cell? ⟨b, o + i, none⟩ = some (.int .i64 (l.getD i 0 : Int)) := by
 obtain ⟨b, o, e, hc⟩ := h.slat.get (k := i) (by rw [List.length_map]; exact hi)
 refine ⟨b, o, e, ?_⟩
 rw [hc, List.getElem_map, List.getD_eq_getElem?_getD, List.getElem?_eq_getElem hi]; rfl
theorem manyP_take (rs : List (Nat × Nat × Nat)) (k : Nat) (h : k < rs.length) : manyP (rs.take (k + 1)) = bump (manyP (rs.take k)) rs[k].1 := by
 unfold manyP; rw [take_snoc rs k h, List.foldl_append]; rfl
theorem manyP_sum (rs : List (Nat × Nat × Nat)) : (manyP rs).sum ≤ rs.length := by
 have key : ∀ (rs : List (Nat × Nat × Nat)) (m : List Nat), (rs.foldl (fun m x => bump m x.1) m).sum ≤ m.sum + rs.length := by
  intro rs
  induction rs with
  | nil => intro m; exact Nat.le_refl _
  | cons x rs ih =>
   intro m
   have h1 := ih (bump m x.1)
   have h2 := bump_sum_le m x.1
   rw [List.foldl_cons, List.length_cons]; omega
 have h := key rs (List.replicate 19 0)
 have z : (List.replicate 19 0 : List Nat).sum = 0 := by simp
 rw [z] at h
 unfold manyP; omega
theorem flat_le {α : Type} (f : α → List Bool) (c : Nat) : ∀ l : List α, (∀ x ∈ l, (f x).length ≤ c) → (l.flatMap f).length ≤ c * l.length
 | [], _ => by simp
 | a :: l, h => by
  have h1 := h a List.mem_cons_self
  have h2 := flat_le f c l (fun x hx => h x (List.mem_cons_of_mem _ hx))
  rw [List.flatMap_cons, List.length_append, List.length_cons, Nat.mul_succ]; omega
theorem kat_take {w : World} {A : Option Addr} {l : List Nat} (h : KAt w 3 A (l.map natV)) (n : Nat) : KAt w 3 A ((l.take n).map natV) := by
 rw [List.map_take]; exact h.take n
theorem natV_one (l : List Nat) : ∀ u ∈ l.map natV, u.oneCell' = true := by
 intro u hu; obtain ⟨x, _, rfl⟩ := List.mem_map.1 hu; rfl
set_option maxRecDepth 100000 in
set_option maxHeartbeats 8000000 in
theorem head_any (base p : Nat) (r : List Bool) (bA oA ca bB oB cb : Nat) (lit far : List Nat) (w : World) (hr : RowAt w base p r) (hA : KAt w 3 (some ⟨bA, oA, none⟩) (lit.map natV)) (hB : KAt w 3 (some ⟨bB, oB, none⟩) (far.map natV))
  (l1 : lit.length = 286) (l2 : far.length = 30) (hca : 286 ≤ ca) (hcb : 30 ≤ cb) (c1 : Cd lit) (c2 : Cd far) (hrl : r.length ≤ 60000000) :
  Calls Tryz.prog 29 #[.pointer (some ⟨p, 0, none⟩), .slice (some ⟨bA, oA, none⟩) 286 ca, .slice (some ⟨bB, oB, none⟩) 30 cb] w fun e w' => e = .returned (.tuple #[]) ∧ RowAt w' base p (r ++ headB lit far) ∧ Keeps base rowT w w' := by
 obtain ⟨a, ha⟩ : ∃ a, a = trimN lit 257 286 := ⟨_, rfl⟩
 obtain ⟨b, hb⟩ : ∃ b, b = trimN far 1 30 := ⟨_, rfl⟩
 have ha1 : 257 ≤ a ∧ a ≤ 286 := by rw [ha]; exact ⟨trimN_ge lit 257 286 (by omega), trimN_le lit 257 286⟩
 have hb1 : 1 ≤ b ∧ b ≤ 30 := by rw [hb]; exact ⟨trimN_ge far 1 30 (by omega), trimN_le far 1 30⟩
 have eA : trimP lit 257 = lit.take a := by unfold trimP; rw [l1, ← ha]
 have eB : trimP far 1 = far.take b := by unfold trimP; rw [l2, ← hb]
 have hHd := headB_eq lit far
 have cA := trim_cd lit 257 c1
 have cB := trim_cd far 1 c2
 rw [eA, eB] at hHd
 rw [eA] at cA
 rw [eB] at cB
 have HT1 := Lib.hid (trimmed_any bA oA 286 ca lit 257 w l1 hca (by omega) hA.slat (by omega))
 have HT2 := Lib.hid (trimmed_any bB oB 30 cb far 1 w l2 hcb (by omega) hB.slat (by omega))
 rw [← ha] at HT1
 rw [← hb] at HT2
 have HA := Lib.hid (kat_take hA a)
 have HB := Lib.hid (kat_take hB b)
 have lA : (lit.take a).length = a := by rw [List.length_take]; omega
 have lB : (far.take b).length = b := by rw [List.length_take]; omega
 have HR := Lib.hid hr
 have HHd := Lib.hid hHd
 have hbw : base ≤ w.heap.size := Nat.le_trans hr.1 (Nat.le_of_lt hr.lt)
 clear hHd hr hA hB ha hb eA eB c1 c2 l1 l2
 generalize headB lit far = HB0 at *
 generalize lit.take a = A at *
 generalize far.take b = B at *
 have h15 : ∀ y ∈ A ++ B, y ≤ 15 := fun y hy => by
  rcases List.mem_append.1 hy with hy | hy
  ·exact cA.le y hy
  ·exact cB.le y hy
 have HOk := Lib.hid (runs_ok (A ++ B) h15)
 have HRl := Lib.hid (runsP_len (A ++ B))
 have H15 := Lib.hid h15
 have LA := Lib.hid lA
 have LB := Lib.hid lB
 clear h15 lA lB cA cB
 go_enter Tryz.func29, Tryz.ntmps29
 go_wp2_with fail
 refine (HT1.out).mono ?_
 rintro e w1 ⟨rfl, rfl⟩
 go_wp2_with fail
 refine (HT2.out).mono ?_
 rintro e w2 ⟨rfl, rfl⟩
 have Hown0 : Hid ((w2.alloc (.cells #[] 3)).ownsRow w2.heap.size 3 1 (.slice (some ⟨w2.heap.size, 0, none⟩) 0 0) 0 []) := Lib.hid (own_zero _ _ _ _ w2.heap.size 0 #[] (Nat.le_refl _) (heap_alloc_new w2 _) (by unfold maxLen; omega) (by simp))
 have Hb0 := Lib.hid ((Below.refl w2.heap.size w2).alloc (Nat.le_refl _) (.cells #[] 3))
 have HAs := Lib.hid (HA.out.below Hb0.out).slat
 have HN1 : Hid ((A.map natV).length = a * 1) := Lib.hid (by rw [List.length_map, LA.out]; omega)
 have HN2 : Hid ((B.map natV).length = b * 1) := Lib.hid (by rw [List.length_map, LB.out]; omega)
 have HO1 := Lib.hid (natV_one A)
 have HO2 := Lib.hid (natV_one B)
 clear HT1 HT2
 go_wp2_with (at_builtin; first
  | (refine wpList_app _ rfl (.tmp 27) (.tmp 28) _ rfl w2.heap.size 3 _ 1 8 Inf.tyI _ 0 [] rfl Hown0.out (some ⟨bA, oA, none⟩) a ca (A.map natV) rfl HN1.out HAs.out HO1.out (by simp) (by unfold maxLen; omega) (by omega) Hb0.out.size ?_; intro v3 w3 hown3 hg3 _; have Hb3 := Lib.hid (own_below Hown0.out hg3 Hb0.out Hb0.out.size); rw [List.nil_append, Nat.zero_add] at hown3; have Ho3 := Lib.hid hown3; have HBs := Lib.hid (HB.out.below Hb3.out).slat; clear hown3 hg3)
  | (refine wpList_app _ rfl (.tmp 29) (.tmp 30) _ rfl w2.heap.size 3 _ 1 8 Inf.tyI _ a (A.map natV) rfl Ho3.out (some ⟨bB, oB, none⟩) b cb (B.map natV) rfl HN2.out HBs.out HO2.out (by simp) (by unfold maxLen; omega) (by omega) Hb3.out.size ?_; intro v4 w4 hown4 hg4 _; have Hb4 := Lib.hid (own_below Ho3.out hg4 Hb3.out Hb3.out.size); have Ho4 := Lib.hid hown4; clear hown4 hg4))
 obtain ⟨A4, c4, rfl, hc4, _, hs4, _⟩ := own_slat Ho4.out
 have HRun := Lib.hid (runs_any A4 (a + b) c4 (A ++ B) w4 (by rw [List.length_append, LA.out, LB.out]) (by omega) (by rw [List.map_append]; exact hs4) (fun x hx => Nat.le_trans (H15.out x hx) (by omega)))
 have Hb4' := Lib.hid Hb4.out
 clear hs4 Ho4 Ho3 Hown0 Hb0 HAs HBs HN1 HN2 HO1 HO2 Hb3 HA HB
 go_wp2_with fail
 refine (HRun.out).mono ?_
 rintro e w5 ⟨⟨v5, rfl, ho5⟩, hb5⟩
 have Hb5 := Lib.hid (Hb4.out.trans (hb5.mono Hb4.out.size))
 obtain ⟨nR, hnR⟩ : ∃ n, n = (runsP (A ++ B)).length := ⟨_, rfl⟩
 have hnR2 : nR ≤ 316 := by have h1 := HRl.out; rw [List.length_append, LA.out, LB.out] at h1; omega
 rw [← hnR] at ho5
 obtain ⟨A5, c5, rfl, hc5, _, hs5, _⟩ := own_kat ho5
 have HnR := Lib.hid hnR.symm
 have HS5 := Lib.hid hs5
 clear ho5 hb5 hs5 HRun Hb4 Hb4' hnR HRl
 generalize runsP (A ++ B) = R at *
 have hmk : ∀ u : World, (Instr.makeSlice 23 (.int .i64 19) (.int .i64 19)).run Tryz.prog u = .ok (.slice (some ⟨u.heap.size, 0, none⟩) 19 19) (u.alloc (.cells (nats (List.replicate 19 0)) 3)) := fun u => by rw [← nats_zero]; exact make_ints 19 (by omega) u
 have Hm0 : Hid (Blk (w5.alloc (.cells (nats (List.replicate 19 0)) 3)) w5.heap.size 3 (nats (manyP (R.take 0)))) := Lib.hid (Blk.new _ _ _)
 have Hb6 := Lib.hid ((Below.refl w5.heap.size w5).alloc (Nat.le_refl _) (.cells (nats (List.replicate 19 0)) 3))
 obtain ⟨zz, hzz⟩ : ∃ z, z = nats (List.replicate 19 0) := ⟨_, rfl⟩
 rw [← hzz] at hmk Hm0 Hb6
 clear hzz
 go_wp2_with fail
 clear hmk
 go_loopw [37] (fun i wr => ∃ k : Nat, k ≤ nR ∧ i = .int .i64 (k : Int) ∧ Blk wr w5.heap.size 3 (nats (manyP (R.take k))) ∧ Below w5.heap.size w5 wr) (fun i _ => nR - (intOf i).toNat)
 case atStart => exact ⟨0, Nat.zero_le _, rfl, Hm0.out, Hb6.out⟩
 case round =>
  clear Hm0 Hb6
  obtain ⟨k, hk, rfl, hm, hb⟩ := hrel
  have Hm := Lib.hid hm
  have Hb := Lib.hid hb
  clear hm hb
  by_cases hlt : k < nR
  ·have hkl : k < R.length := by rw [HnR.out]; exact hlt
   obtain ⟨b5, o5, rfl, hc⟩ := slat_elem (size := 3) (fun _ => rfl) (by omega) (HS5.out.below Hb.out).slat hkl
   have hc0 := hc 0 _ rfl
   have hc1 := hc 1 _ rfl
   have hc2 := hc 2 _ rfl
   simp only [Nat.add_zero] at hc0
   have Htk := Lib.hid (manyP_take R k hkl)
   have hok := HOk.out _ (List.getElem_mem hkl)
   have hml := many_len (R.take k)
   have hms := manyP_sum (R.take k)
   have htl : (R.take k).length ≤ k := by simp; omega
   clear hc
   generalize R[k] = x at *
   obtain ⟨x0, x1, x2⟩ := x
   unfold RunOk at hok
   dsimp only at hc0 hc1 hc2 Htk hok
   generalize manyP (R.take k) = M at *
   have hcell := nats_cell Hm.out (i := x0) (by omega)
   have hfr := Hm.out.frozen x0
   have hle := getD_le_sum M x0
   have Hm2 := Lib.hid ((nats_bump Hm.out x0).alloc (.cells #[.int .i64 (x0 : Int), .int .i64 (x1 : Int), .int .i64 (x2 : Int)] 103))
   have Hb2 := Lib.hid ((Hb.out.setCell (p := ⟨w5.heap.size, x0, none⟩) (Nat.le_refl _) (.int .i64 ((M.getD x0 0 : Int) + 1))).alloc (by rw [World.size_setCell]; exact Hb.out.size) (.cells #[.int .i64 (x0 : Int), .int .i64 (x1 : Int), .int .i64 (x2 : Int)] 103))
   have hlt5 := Hm.out.lt
   generalize M.getD x0 0 = y at *
   have hy : y ≤ 1000 := by omega
   clear hms
   go_wp2_with fail
   go_roundw
   case rel => exact ⟨k + 1, by omega, by go_num, by rw [Htk.out]; exact Hm2.out, Hb2.out⟩
   case measure => simp [intOf]; omega
  ·obtain rfl : nR = k := by omega
   have Hal : Hid (R.take nR = R) := Lib.hid (List.take_of_length_le (by rw [HnR.out]; exact Nat.le_refl _))
   rw [Hal.out] at Hm
   have hsum := manyP_sum R
   rw [HnR.out] at hsum
   have HW := Lib.hid (wlen_any (some ⟨w5.heap.size, 0, none⟩) 19 19 (manyP R) 7 wr (many_len R) (by omega) (nats_kat Hm.out).slat (fun x hx => by have := le_sum _ x hx; omega) (by omega) (by omega) (by have := Weigh.ones_le (manyP R); rw [many_len] at this; have p7 : (2 : Nat) ^ 7 = 128 := rfl; omega))
   clear hlt hsum Hal Hm
   go_wp2_with fail
   refine (HW.out).mono ?_
   rintro e w7 ⟨⟨v7, rfl, ho7⟩, hb7⟩
   have HS := sizes_fine R
   have e7 : lengthsP (manyP R) 7 = sizesP R := rfl
   rw [e7] at ho7
   obtain ⟨A7, c7, rfl, hc7, _, hs7, _⟩ := own_kat ho7
   have HS7 := Lib.hid hs7
   have Hb7 := Lib.hid (Hb.out.trans (hb7.mono Hb.out.size))
   clear HW ho7 hb7 hs7 e7 Hb
   have HOr := Lib.hid (order_any w7)
   go_wp2_with fail
   refine (HOr.out).mono ?_
   rintro e w8 ⟨rfl, hb8⟩
   have HS8 := Lib.hid (HS7.out.below hb8)
   have Hb8 := Lib.hid (Hb7.out.trans (hb8.mono Hb7.out.size))
   have hst := store_ord w8
   have hb9 : Below w8.heap.size w8 ((w8.alloc (.cells #[.int .i64 0, .int .i64 0, .int .i64 0, .int .i64 0, .int .i64 0, .int .i64 0, .int .i64 0, .int .i64 0, .int .i64 0, .int .i64 0, .int .i64 0, .int .i64 0, .int .i64 0, .int .i64 0, .int .i64 0, .int .i64 0, .int .i64 0, .int .i64 0, .int .i64 0] 104)).setRow w8.heap.size ordA) := below_setRow ((Below.refl _ _).alloc (Nat.le_refl _) _) (Nat.le_refl _) _
   have HS9 := Lib.hid (HS8.out.below hb9)
   have Hb9 := Lib.hid (Hb8.out.trans (hb9.mono Hb8.out.size))
   have Hor9 : Hid (Blk ((w8.alloc (.cells #[.int .i64 0, .int .i64 0, .int .i64 0, .int .i64 0, .int .i64 0, .int .i64 0, .int .i64 0, .int .i64 0, .int .i64 0, .int .i64 0, .int .i64 0, .int .i64 0, .int .i64 0, .int .i64 0, .int .i64 0, .int .i64 0, .int .i64 0, .int .i64 0, .int .i64 0] 104)).setRow w8.heap.size ordA) w8.heap.size 104 ordA) := Lib.hid ((Blk.new _ _ _).setRow ordA)
   clear hb8 HOr HS7 Hb7 hb9 HS8 Hb8
   go_wp2_with (refine wpList_load_row rfl 104 (.tmp 13) rfl w8.heap.size rfl 104 ordA (0, 0) _ Hor9.out Tryz.underlying104 rfl (by kernel_rfl) ?_)
   generalize ((w8.alloc (.cells #[.int .i64 0, .int .i64 0, .int .i64 0, .int .i64 0, .int .i64 0, .int .i64 0, .int .i64 0, .int .i64 0, .int .i64 0, .int .i64 0, .int .i64 0, .int .i64 0, .int .i64 0, .int .i64 0, .int .i64 0, .int .i64 0, .int .i64 0, .int .i64 0, .int .i64 0] 104)).setRow w8.heap.size ordA) = w9 at *
   clear Hor9 hst
   go_loopw [14, 56] (fun vt i wr => ∃ k : Nat, k ≤ 19 ∧ i = .int .i64 (k : Int) ∧ wr.ownsRow w9.heap.size 3 1 vt k (((orderL.take k).map fun j => (sizesP R).getD j 0).map natV) ∧ Below w9.heap.size w9 wr) (fun _ i _ => 19 - (intOf i).toNat)
   case atStart => exact ⟨0, Nat.zero_le _, rfl, World.ownsRow_nil .., Below.refl _ _⟩
   case round =>
    obtain ⟨k, hk, rfl, ho, hb⟩ := hrel
    have HO := Lib.hid ho
    have Hb := Lib.hid hb
    clear ho hb
    by_cases hlt : k < 19
    ·have hidx := ord_index k hlt
     obtain ⟨q, hq⟩ : ∃ q, q = orderL.getD k 0 := ⟨_, rfl⟩
     have hq19 : q < 19 := by rw [hq]; exact ord_get k hlt
     have Htk := Lib.hid (ord_take (sizesP R) k hlt)
     rw [← hq] at hidx Htk
     clear hq
     obtain ⟨b7, o7, rfl, hc7'⟩ := kat_cell (HS9.out.below Hb.out) (i := q) (by rw [HS.1]; exact hq19)
     have Hc7 := Lib.hid hc7'
     generalize hv : (sizesP R).getD q 0 = v at *
     have hcell := Hc7.out
     have hba : Below wr.heap.size wr (wr.alloc (.cells #[.int .i64 (v : Int)] 3)) := (Below.refl _ _).alloc (Nat.le_refl _) _
     have HO2 := Lib.hid (own_keep HO.out hba)
     have Hb2 := Lib.hid (Hb.out.trans (hba.mono Hb.out.size))
     have HZ : Hid (SlAt (wr.alloc (.cells #[.int .i64 (v : Int)] 3)) (some ⟨wr.heap.size, 0, none⟩) [.int .i64 (v : Int)]) := Lib.hid (SlAt.of_heap (heap_alloc_new _ _) rfl)
     clear hba hv hc7' Hc7
     go_wp2_with (at_builtin; refine wpList_app _ rfl (.tmp 59) (.tmp 64) _ rfl w9.heap.size 3 _ 1 8 Inf.tyI _ k (((orderL.take k).map fun j => (sizesP R).getD j 0).map natV) rfl HO2.out (some ⟨wr.heap.size, 0, none⟩) 1 1 [.int .i64 (v : Int)] rfl rfl HZ.out (by simp [Value.oneCell']) (by simp) (by unfold maxLen; omega) (by omega) Hb2.out.size ?_; intro v8 w8 hown8 hg8 _; have Hb8 := Lib.hid (own_below HO2.out hg8 Hb2.out Hb2.out.size); have Ho8 := Lib.hid hown8; clear hown8 hg8)
     go_roundw
     case rel => exact ⟨k + 1, by omega, by go_num, by rw [Htk.out, List.map_append]; exact Ho8.out, Hb8.out⟩
     case measure => simp [intOf]; omega
    ·obtain rfl : k = 19 := by omega
     have e19 : (orderL.take 19).map (fun j => (sizesP R).getD j 0) = orderL.map fun j => (sizesP R).getD j 0 := rfl
     obtain ⟨s1, s2, s3, s4⟩ := HS
     have hHd := HHd.out
     have hSle : ∀ i, (sizesP R).getD i 0 ≤ 7 := fun i => getD_le _ 7 i s3
     have HSr := Lib.hid (HS9.out.below Hb.out)
     have hho := HO.out
     rw [e19] at hho
     generalize sizesP R = S at *
     generalize hT0 : (orderL.map fun j => S.getD j 0) = T0 at *
     have lT0 : T0.length = 19 := by rw [← hT0, List.length_map]; rfl
     have hT7 : ∀ x ∈ T0, x ≤ 7 := fun x hx => by
      rw [← hT0] at hx
      obtain ⟨y, _, rfl⟩ := List.mem_map.1 hx
      exact hSle y
     obtain ⟨A8, c8, rfl, hc8, _, hk8, _⟩ := own_kat hho
     obtain ⟨b8, o8, cur8, rfl, _, _⟩ := hk8 (by rw [List.length_map]; omega)
     obtain ⟨m, hm⟩ : ∃ m, m = trimN T0 4 19 := ⟨_, rfl⟩
     have hm1 : 4 ≤ m ∧ m ≤ 19 := by rw [hm]; exact ⟨trimN_ge T0 4 19 (by omega), trimN_le T0 4 19⟩
     have HT := Lib.hid (trimmed_any b8 o8 19 c8 T0 4 wr lT0 hc8 (by omega) hk8.slat (by omega))
     rw [← hm] at HT
     have eT : trimP T0 4 = T0.take m := by unfold trimP; rw [lT0, ← hm]
     rw [eT] at hHd
     have lT : (T0.take m).length = m := by rw [List.length_take]; omega
     have hTt : ∀ x ∈ T0.take m, x ≤ 7 := fun x hx => hT7 x (List.mem_of_mem_take hx)
     have HKT := Lib.hid (kat_take hk8 m)
     generalize T0.take m = T at *
     have HHd2 := Lib.hid hHd
     have LT := Lib.hid lT
     have HT7 := Lib.hid hTt
     have HSle := Lib.hid hSle
     have HS1 := Lib.hid s1
     have HS2 := Lib.hid s2
     have Hbb := Lib.hid (Hb5.out.trans ((Hb9.out.trans (Hb.out.mono Hb9.out.size)).mono Hb5.out.size))
     have HRow := Lib.hid (HR.out.below Hbb.out)
     have HK := Lib.hid (Keeps.of_below (T := rowT) Hbb.out hbw)
     have HSR := Lib.hid (HS5.out.below (Hb9.out.trans (Hb.out.mono Hb9.out.size)))
     clear hHd s1 s2 s3 s4 hT0 lT0 hT7 hk8 hho hm eT lT hTt HO e19 hSle HS9 Hb9 HS5 Hb5 Hbb Hb HR HHd
     go_wp2_with fail
     refine (HT.out).mono ?_
     rintro e w10 ⟨rfl, rfl⟩
     obtain ⟨x1, hx1⟩ : ∃ x, x = a - 257 := ⟨_, rfl⟩
     obtain ⟨x2, hx2⟩ : ∃ x, x = b - 1 := ⟨_, rfl⟩
     obtain ⟨x3, hx3⟩ : ∃ x, x = m - 4 := ⟨_, rfl⟩
     have hs1 : IntKind.i64.wrap ((a : Int) - 257) = (x1 : Int) := by rw [show (a : Int) - 257 = (x1 : Int) by omega]; exact IntWalk.i64_in _ (by omega)
     have hs2 : IntKind.i64.wrap ((b : Int) - 1) = (x2 : Int) := by rw [show (b : Int) - 1 = (x2 : Int) by omega]; exact IntWalk.i64_in _ (by omega)
     have hs3 : IntKind.i64.wrap ((m : Int) - 4) = (x3 : Int) := by rw [show (m : Int) - 4 = (x3 : Int) by omega]; exact IntWalk.i64_in _ (by omega)
     have Hx1 : Hid (A.length - 257 = x1 ∧ B.length - 1 = x2 ∧ T.length - 4 = x3) := Lib.hid (by rw [LA.out, LB.out, LT.out]; omega)
     have hx1' : x1 ≤ 29 := by omega
     have hx2' : x2 ≤ 29 := by omega
     have hx3' : x3 ≤ 15 := by omega
     clear hx1 hx2 hx3 HT
     have HP := Lib.hid (put_any base p x1 5 r w10 HRow.out (by omega) (by omega) (by omega))
     obtain ⟨r1, hr1⟩ : ∃ z, z = r ++ numBits x1 5 := ⟨_, rfl⟩
     have hl1 : r1.length ≤ 60000100 := by rw [hr1, List.length_append, numBits_length]; omega
     rw [← hr1] at HP
     have Hr1 := Lib.hid hr1
     clear hr1 HRow
     go_wp2_with fail
     refine (HP.out).mono ?_
     rintro e w11 ⟨rfl, hrow, hkp⟩
     have HRow := Lib.hid hrow
     have HKT2 := Lib.hid (HKT.out.keeps hkp (by decide))
     have HSr2 := Lib.hid (HSr.out.keeps hkp (by decide))
     have HSR2 := Lib.hid (HSR.out.keeps hkp (by decide))
     have HK2 := Lib.hid (HK.out.trans hkp)
     clear hrow hkp HKT HSr HSR HK HP
     have HP := Lib.hid (put_any base p x2 5 r1 w11 HRow.out (by omega) (by omega) (by omega))
     obtain ⟨r2, hr2⟩ : ∃ z, z = r1 ++ numBits x2 5 := ⟨_, rfl⟩
     have hl2 : r2.length ≤ 60000200 := by rw [hr2, List.length_append, numBits_length]; omega
     rw [← hr2] at HP
     have Hr2 := Lib.hid hr2
     clear hr2 HRow
     go_wp2_with fail
     refine (HP.out).mono ?_
     rintro e w12 ⟨rfl, hrow, hkp⟩
     have HRow := Lib.hid hrow
     have HKT := Lib.hid (HKT2.out.keeps hkp (by decide))
     have HSr := Lib.hid (HSr2.out.keeps hkp (by decide))
     have HSR := Lib.hid (HSR2.out.keeps hkp (by decide))
     have HK := Lib.hid (HK2.out.trans hkp)
     clear hrow hkp HKT2 HSr2 HSR2 HK2 HP
     have HP := Lib.hid (put_any base p x3 4 r2 w12 HRow.out (by omega) (by omega) (by omega))
     obtain ⟨r3, hr3⟩ : ∃ z, z = r2 ++ numBits x3 4 := ⟨_, rfl⟩
     have hl3 : r3.length ≤ 60000300 := by rw [hr3, List.length_append, numBits_length]; omega
     rw [← hr3] at HP
     have Hr3 := Lib.hid hr3
     clear hr3 HRow
     go_wp2_with fail
     refine (HP.out).mono ?_
     rintro e w13 ⟨rfl, hrow, hkp⟩
     have HRow := Lib.hid hrow
     have HKT2 := Lib.hid (HKT.out.keeps hkp (by decide))
     have HSr2 := Lib.hid (HSr.out.keeps hkp (by decide))
     have HSR2 := Lib.hid (HSR.out.keeps hkp (by decide))
     have HK2 := Lib.hid (HK.out.trans hkp)
     clear hrow hkp HKT HSr HSR HK HP hs1 hs2 hs3
     go_wp2_with fail
     go_loopw [86] (fun i wr => ∃ k : Nat, k ≤ m ∧ i = .int .i64 (k : Int) ∧ RowAt wr base p (r3 ++ (T.take k).flatMap fun n => numBits n 3) ∧ Keeps base rowT w13 wr) (fun i _ => m - (intOf i).toNat)
     case atStart => exact ⟨0, Nat.zero_le _, rfl, by rw [List.take_zero, List.flatMap_nil, List.append_nil]; exact HRow.out, Keeps.refl _ _ _⟩
     case round =>
      clear HRow
      obtain ⟨k, hk, rfl, hrow, hkp⟩ := hrel
      have HRow := Lib.hid hrow
      have HKp := Lib.hid hkp
      clear hrow hkp
      by_cases hlt : k < m
      ·have hkl : k < T.length := by rw [LT.out]; exact hlt
       obtain ⟨bT, oT, hAT, hcell⟩ := kat_cell (HKT2.out.keeps HKp.out (by decide)) hkl
       injection hAT with hAT; injection hAT with e1 e2 e3; subst e1 e2
       have hv7 : T.getD k 0 ≤ 7 := getD_le T 7 k HT7.out
       have Htk : Hid ((T.take (k + 1)).flatMap (fun n => numBits n 3) = ((T.take k).flatMap fun n => numBits n 3) ++ numBits (T.getD k 0) 3) := Lib.hid (by
        rw [take_snoc T k hkl, List.flatMap_append, List.getD_eq_getElem?_getD, List.getElem?_eq_getElem hkl]; simp)
       have hfl := flat_le (fun n => numBits n 3) 3 (T.take k) (fun x _ => by rw [numBits_length]; exact Nat.le_refl _)
       have htl : (T.take k).length ≤ k := by simp; omega
       generalize T.getD k 0 = v at *
       have HP := Lib.hid (put_any base p v 3 _ wr HRow.out (by omega) (by omega) (by rw [List.length_append]; omega))
       rw [List.append_assoc, ← Htk.out] at HP
       clear HRow hfl htl
       go_wp2_with fail
       refine (HP.out).mono ?_
       rintro e w14 ⟨rfl, hrow, hkp⟩
       have HRow := Lib.hid hrow
       have HKp2 := Lib.hid (HKp.out.trans hkp)
       clear hrow hkp HKp HP hcell
       go_wp2_with fail
       go_roundw
       case rel => exact ⟨k + 1, by omega, by go_num, HRow.out, HKp2.out⟩
       case measure => simp [intOf]; omega
      ·obtain rfl : m = k := by omega
       have Hal : Hid (T.take m = T) := Lib.hid (List.take_of_length_le (by rw [LT.out]; exact Nat.le_refl _))
       rw [Hal.out] at HRow
       have hfl := flat_le (fun n => numBits n 3) 3 T (fun x _ => by rw [numBits_length]; exact Nat.le_refl _)
       rw [LT.out] at hfl
       obtain ⟨r4, hr4⟩ : ∃ z, z = r3 ++ T.flatMap (fun n => numBits n 3) := ⟨_, rfl⟩
       have hl4 : r4.length ≤ 60000400 := by rw [hr4, List.length_append]; omega
       rw [← hr4] at HRow
       have Hr4 := Lib.hid hr4
       have HSr := Lib.hid (HSr2.out.keeps HKp.out (by decide))
       have HSR := Lib.hid (HSR2.out.keeps HKp.out (by decide))
       have HK := Lib.hid (HK2.out.trans HKp.out)
       have HCd := Lib.hid (ccodes_any A7 19 c7 S wr HS1.out (by omega) HSr.out.slat HS2.out)
       clear hr4 hfl Hal HKp HK2 HSr2 HSR2 HKT2 hlt
       go_wp2_with fail
       refine (HCd.out).mono ?_
       rintro e w15 ⟨⟨g, rfl, hg, hBg⟩, hb15⟩
       have HRow2 := Lib.hid (HRow.out.below hb15)
       have hbr := Nat.le_trans HRow.out.1 (Nat.le_of_lt HRow.out.lt)
       have HSr2 := Lib.hid (HSr.out.below hb15)
       have HSR2 := Lib.hid (HSR.out.below hb15)
       have HK2 := Lib.hid (HK.out.trans (Keeps.of_below hb15 hbr))
       have HG := Lib.hid (nats_kat hBg)
       clear HCd hb15 hBg HRow HSr HSR HK hg hbr
       go_wp2_with fail
       have HFin : Hid (r ++ HB0 = r4 ++ R.flatMap (runB S)) := Lib.hid (by
        rw [HHd2.out, Hx1.out.1, Hx1.out.2.1, Hx1.out.2.2, Hr4.out, Hr3.out, Hr2.out, Hr1.out]
        simp only [List.append_assoc])
       clear HHd2 Hx1 Hr1 Hr2 Hr3 Hr4 HT7 LT
       go_loopw [101] (fun i wr => ∃ k : Nat, k ≤ nR ∧ i = .int .i64 (k : Int) ∧ RowAt wr base p (r4 ++ (R.take k).flatMap (runB S)) ∧ Keeps base rowT w15 wr) (fun i _ => nR - (intOf i).toNat)
       case atStart => exact ⟨0, Nat.zero_le _, rfl, by rw [List.take_zero, List.flatMap_nil, List.append_nil]; exact HRow2.out, Keeps.refl _ _ _⟩
       case round =>
        clear HRow2
        obtain ⟨k, hk, rfl, hrow, hkp⟩ := hrel
        have HRow := Lib.hid hrow
        have HKp := Lib.hid hkp
        clear hrow hkp
        by_cases hlt : k < nR
        ·have hkl : k < R.length := by rw [HnR.out]; exact hlt
         obtain ⟨b5, o5, rfl, hc⟩ := slat_elem (size := 3) (fun _ => rfl) (by omega) (HSR2.out.keeps HKp.out (by decide)).slat hkl
         have hc0 := hc 0 _ rfl
         have hc1 := hc 1 _ rfl
         have hc2 := hc 2 _ rfl
         simp only [Nat.add_zero] at hc0
         have hok := HOk.out _ (List.getElem_mem hkl)
         have hfl := flat_le (runB S) 14 (R.take k) (fun x hx => runB_len S x HSle.out (HOk.out x (List.mem_of_mem_take hx)))
         have htl : (R.take k).length ≤ k := by simp; omega
         have Htk : Hid ((R.take (k + 1)).flatMap (runB S) = (R.take k).flatMap (runB S) ++ runB S R[k]) := Lib.hid (by
          rw [take_snoc R k hkl, List.flatMap_append]; simp)
         clear hc
         generalize R[k] = x at *
         obtain ⟨x0, y1, y2⟩ := x
         unfold RunOk at hok
         dsimp only at hc0 hc1 hc2 hok
         have hbr : base ≤ wr.heap.size := Nat.le_trans HRow.out.1 (Nat.le_of_lt HRow.out.lt)
         have hba : Below wr.heap.size wr (wr.alloc (.cells #[.int .i64 (x0 : Int), .int .i64 (y1 : Int), .int .i64 (y2 : Int)] 103)) := (Below.refl _ _).alloc (Nat.le_refl _) _
         have HRowA := Lib.hid (HRow.out.below hba)
         have HKpA := Lib.hid (HKp.out.trans (Keeps.of_below hba hbr))
         have HNew : Hid (Blk (wr.alloc (.cells #[.int .i64 (x0 : Int), .int .i64 (y1 : Int), .int .i64 (y2 : Int)] 103)) wr.heap.size 103 #[.int .i64 (x0 : Int), .int .i64 (y1 : Int), .int .i64 (y2 : Int)]) := Lib.hid (Blk.new _ _ _)
         obtain ⟨bS, oS, rfl, hcS⟩ := kat_cell (HSr2.out.keeps HKpA.out (by decide)) (i := x0) (by rw [HS1.out]; exact hok.1)
         obtain ⟨bG, oG, hAG, hcG⟩ := kat_cell (HG.out.keeps HKpA.out (by decide)) (i := x0) (by unfold codesL; rw [List.length_map, List.length_range, HS1.out]; exact hok.1)
         injection hAG with hAG; injection hAG with e1 e2 e3; subst e1 e2
         rw [codesL_getD S x0 (by rw [HS1.out]; exact hok.1)] at hcG
         have hcd := codeOf_small S x0 HS2.out
         have hsz := HSle.out x0
         have Hcb : Hid (runB S (x0, y1, y2) = hi (S.getD x0 0) (codeOf S x0) ++ numBits y1 y2) := Lib.hid rfl
         generalize codeOf S x0 = cd at *
         generalize S.getD x0 0 = sz at *
         have n0 : (wr.alloc (.cells #[.int .i64 (x0 : Int), .int .i64 (y1 : Int), .int .i64 (y2 : Int)] 103)).cell? ⟨wr.heap.size, 0, none⟩ = some (.int .i64 (x0 : Int)) := by rw [HNew.out.cell]; rfl
         clear hba HKp HRow
         go_wp2_with fail
         generalize wr.alloc (.cells #[.int .i64 (x0 : Int), .int .i64 (y1 : Int), .int .i64 (y2 : Int)] 103) = wa at *
         generalize wr.heap.size = gx at *
         have hx0 : x0 < 19 := hok.1
         have hx0' : (x0 : Int) < 19 := by omega
         have hcS' := hcS
         have hcG' := hcG
         simp only [Nat.zero_add] at hcS' hcG'
         go_still_tail 11, (by kernel_rfl)
         change wpList _ _ _ _ _ wa.drew
         have HRow : Hid (RowAt wa.drew base p (r4 ++ (R.take k).flatMap (runB S))) := HRowA
         have HKd := Lib.hid (HKpA.out.drew)
         have HNew2 : Hid (Blk wa.drew gx 103 #[.int .i64 (x0 : Int), .int .i64 (y1 : Int), .int .i64 (y2 : Int)]) := HNew
         clear HRowA HKpA HNew hcS hcG n0 hc0 hc1 hc2
         generalize wa.drew = wd at *
         have HP := Lib.hid (code_any base p cd sz _ wd HRow.out (by omega) (by omega) (by rw [List.length_append]; omega))
         clear HRow
         go_wp2_with fail
         refine (HP.out).mono ?_
         rintro e w17 ⟨rfl, hrow, hkp⟩
         have HRow := Lib.hid hrow
         have HK17 := Lib.hid (HKd.out.trans hkp)
         have HN17 := Lib.hid (hkp.blk HNew2.out (by decide))
         have n1 : w17.cell? ⟨gx, 1, none⟩ = some (.int .i64 (y1 : Int)) := by rw [HN17.out.cell]; rfl
         have n2 : w17.cell? ⟨gx, 2, none⟩ = some (.int .i64 (y2 : Int)) := by rw [HN17.out.cell]; rfl
         clear hrow hkp HP HKd HNew2
         have HP := Lib.hid (put_any base p y1 y2 _ w17 HRow.out (by omega) (by omega) (by rw [List.length_append, List.length_append, hi_length]; omega))
         rw [List.append_assoc, List.append_assoc, ← Hcb.out, ← Htk.out] at HP
         clear HRow
         go_wp2_with fail
         refine (HP.out).mono ?_
         rintro e w18 ⟨rfl, hrow, hkp⟩
         have HRow := Lib.hid hrow
         have HK18 := Lib.hid (HK17.out.trans hkp)
         clear hrow hkp HP HK17 HN17 n1 n2
         go_wp2_with fail
         go_roundw
         case rel => exact ⟨k + 1, by omega, by go_num, HRow.out, HK18.out⟩
         case measure => simp [intOf]; omega
        ·obtain rfl : nR = k := by omega
         have Hal : Hid (R.take nR = R) := Lib.hid (List.take_of_length_le (by rw [HnR.out]; exact Nat.le_refl _))
         rw [Hal.out, ← HFin.out] at HRow
         have HKf := Lib.hid (HK2.out.trans HKp.out)
         go_wp2_with fail
         go_end0
         exact ⟨rfl, HRow.out, HKf.out⟩
end Go.Proofs.YthpdcnjaodjjmaaGreat.Blk

/- what is packed is unpacked, whatever stands behind it; the plain law. No program in sight. -/
namespace Go.Proofs.YthpdcnjaodjjmaaGreat.Rt
open Go.Proofs.YthpdcnjaodjjmaaGreat.Bits Go.Proofs.YthpdcnjaodjjmaaGreat.Code Go.Proofs.YthpdcnjaodjjmaaGreat.Match Go.Proofs.YthpdcnjaodjjmaaGreat.SP Go.Proofs.YthpdcnjaodjjmaaGreat.Inf Go.Proofs.YthpdcnjaodjjmaaGreat.Blk
set_option linter.unusedVariables false

def oneS (n : Nat) (b : List UInt8) (kind : Nat) (last : Bool) : List Bool :=
 if kind = 0 then [last] ++ numBits 0 2 ++ List.replicate (8 * ((n + 3 + 7) / 8) - (n + 3)) false ++ numBits b.length 16 ++ numBits (65535 - b.length) 16 ++ bitsL b
 else if kind = 1 then [last] ++ numBits 1 2 ++ bodyB (toks b) fixedA fixedB
 else [last] ++ numBits kind 2 ++ headB (lensP (toks b)).1 (lensP (toks b)).2 ++ bodyB (toks b) (lensP (toks b)).1 (lensP (toks b)).2
theorem oneB_eq (r : List Bool) (b : List UInt8) (kind : Nat) (last : Bool) : oneB r b kind last = r ++ oneS r.length b kind last := by
 unfold oneB oneS
 by_cases h0 : kind = 0
 ·rw [if_pos h0, if_pos h0]
  unfold pad
  have e : (r ++ [last] ++ numBits 0 2).length = r.length + 3 := by simp [numBits_length]
  rw [e]
  simp only [List.append_assoc]
 ·rw [if_neg h0, if_neg h0]
  by_cases h1 : kind = 1
  ·rw [if_pos h1, if_pos h1]; simp only [List.append_assoc]
  ·rw [if_neg h1, if_neg h1]; simp only [List.append_assoc]
theorem cstep_get (s : List Nat × List Nat) (t : Tok) (j : Nat) : s.1.getD j 0 ≤ (cstep s t).1.getD j 0 ∧ s.2.getD j 0 ≤ (cstep s t).2.getD j 0 := by
 unfold cstep
 split
 ·dsimp only; rw [bump_get]; omega
 ·dsimp only; rw [bump_get, bump_get]; omega
theorem counts_fold : ∀ (ts : List Tok) (s : List Nat × List Nat) (j : Nat), s.1.getD j 0 ≤ (ts.foldl cstep s).1.getD j 0 ∧ s.2.getD j 0 ≤ (ts.foldl cstep s).2.getD j 0
 | [], s, j => ⟨Nat.le_refl _, Nat.le_refl _⟩
 | t :: ts, s, j => by
  have h1 := counts_fold ts (cstep s t) j
  have h2 := cstep_get s t j
  rw [List.foldl_cons]; omega
def TokR (t : Tok) : Prop := t.2.1 = 0 ∨ (3 ≤ t.2.1 ∧ t.2.1 ≤ 258 ∧ 1 ≤ t.2.2)
theorem chk_tokR : ∀ (ts : List Tok) (n : Int), (chkAll ts n).1 = 0 → ∀ t ∈ ts, TokR t
 | [], _, _, t, h => by cases h
 | x :: ts, n, hk, t, h => by
  simp only [chkAll] at hk
  have hx : (chkTok n x).1 = 0 := by
   by_cases h1 : (chkTok n x).1 = 0
   ·exact h1
   ·rw [if_neg h1] at hk; exact hk
  rw [if_pos hx] at hk
  rcases List.mem_cons.1 h with rfl | h
  ·unfold chkTok at hx
   unfold TokR
   by_cases h1 : t.2.1 = 0
   ·exact Or.inl h1
   ·rw [if_neg h1] at hx
    by_cases h2 : t.1 ≠ 0
    ·rw [if_pos h2] at hx; simp at hx
    ·rw [if_neg h2] at hx
     by_cases h3 : t.2.1 < 3 ∨ 258 < t.2.1 ∨ t.2.2 < 1
     ·rw [if_pos h3] at hx; simp at hx
     ·exact Or.inr ⟨by omega, by omega, by omega⟩
  ·exact chk_tokR ts _ hk t h
theorem toks_chk (b : List UInt8) : (chkAll (toks b) 0).1 = 0 := by unfold toks; rw [chkAll_titer]
theorem cstep_hit (s : List Nat × List Nat) (t : Tok) (h1 : s.1.length = 286) (h2 : s.2.length = 30) : TokFit (cstep s t).1 (cstep s t).2 t := by
 have k1 : symS sameL t.2.1.toNat < 29 := symS_lt sameL _ (by decide)
 have k2 : symS farL t.2.2.toNat < 30 := symS_lt farL _ (by decide)
 have hx := t.1.toNat_lt
 unfold TokFit cstep
 by_cases h : t.2.1 = 0
 ·rw [if_pos h, if_pos h]
  dsimp only
  rw [bump_get, if_pos ⟨rfl, by omega⟩]; omega
 ·rw [if_neg h, if_neg h]
  dsimp only
  rw [bump_get, bump_get, if_pos ⟨rfl, by omega⟩, if_pos ⟨rfl, by omega⟩]; omega
theorem fit_mono {a b c d : List Nat} (h1 : ∀ j, a.getD j 0 ≠ 0 → c.getD j 0 ≠ 0) (h2 : ∀ j, b.getD j 0 ≠ 0 → d.getD j 0 ≠ 0) {t : Tok} (h : TokFit a b t) : TokFit c d t := by
 unfold TokFit at h ⊢
 split
 ·rename_i h0; rw [if_pos h0] at h; exact h1 _ h
 ·rename_i h0; rw [if_neg h0] at h; exact ⟨h1 _ h.1, h2 _ h.2⟩
theorem counts_fit_from : ∀ (ts : List Tok) (s : List Nat × List Nat), s.1.length = 286 → s.2.length = 30 → ∀ t ∈ ts, TokFit (ts.foldl cstep s).1 (ts.foldl cstep s).2 t
 | [], _, _, _, t, h => by cases h
 | x :: ts, s, h1, h2, t, h => by
  have hl := cstep_len s x
  rw [List.foldl_cons]
  rcases List.mem_cons.1 h with rfl | h
  ·refine fit_mono (fun j hj => ?_) (fun j hj => ?_) (cstep_hit s t h1 h2)
   ·have := (counts_fold ts (cstep s t) j).1; omega
   ·have := (counts_fold ts (cstep s t) j).2; omega
  ·exact counts_fit_from ts _ (hl.1.trans h1) (hl.2.trans h2) t h
theorem counts_fit (ts : List Tok) : ∀ t ∈ ts, TokFit (countsP ts).1 (countsP ts).2 t := fun t h => by
 have h1 := counts_fit_from ts (List.replicate 286 0, List.replicate 30 0) List.length_replicate List.length_replicate t h
 refine fit_mono (fun j hj => ?_) (fun j hj => hj) h1
 have e : (countsP ts).1.getD j 0 = (countsK ts).1.getD j 0 + if 256 = j ∧ j < (countsK ts).1.length then 1 else 0 := bump_get _ _ _
 have e2 : (countsK ts).1.getD j 0 = (List.foldl cstep (List.replicate 286 0, List.replicate 30 0) ts).1.getD j 0 := rfl
 omega
theorem lens_all (ts : List Tok) : (lensP ts).1.length = 286 ∧ (lensP ts).2.length = 30 ∧ Cd (lensP ts).1 ∧ Cd (lensP ts).2 ∧ (lensP ts).1.getD 256 0 ≠ 0 ∧ ∀ t ∈ ts, TokFit (lensP ts).1 (lensP ts).2 t := by
 obtain ⟨c1, c2⟩ := counts_len ts
 have o1 := Weigh.ones_le (countsP ts).1
 have o2 := Weigh.ones_le (countsP ts).2
 have p15 : (2 : Nat) ^ 15 = 32768 := rfl
 obtain ⟨a1, a2, _, a4⟩ := lens_fine (countsP ts).1 15 (by omega) (by omega) (by omega)
 obtain ⟨b1, b2, _, b4⟩ := lens_fine (countsP ts).2 15 (by omega) (by omega) (by omega)
 refine ⟨a1.trans c1, b1.trans c2, a2, b2, fun h => ?_, fun t ht => ?_⟩
 ·have h1 := (a4 256).1 h
  have e : (countsP ts).1.getD 256 0 = (countsK ts).1.getD 256 0 + if 256 = 256 ∧ 256 < (countsK ts).1.length then 1 else 0 := bump_get _ _ _
  rw [if_pos ⟨rfl, by rw [(countsK_len ts).1]; omega⟩] at e
  omega
 ·exact fit_mono (fun j hj h => hj ((a4 j).1 h)) (fun j hj h => hj ((b4 j).1 h)) (counts_fit ts t ht)
theorem fixA_cd : Cd fixedA := ⟨by decide +kernel, by decide +kernel⟩
theorem fixB_cd : Cd fixedB := ⟨by decide +kernel, by decide +kernel⟩
theorem fixA_get : ∀ k < 288, fixedA.getD k 0 ≠ 0 := by decide +kernel
theorem fixB_get : ∀ k < 32, fixedB.getD k 0 ≠ 0 := by decide +kernel
theorem fix_fit (t : Tok) : TokFit fixedA fixedB t := by
 have k1 : symS sameL t.2.1.toNat < 29 := symS_lt sameL _ (by decide)
 have k2 : symS farL t.2.2.toNat < 30 := symS_lt farL _ (by decide)
 have hx := t.1.toNat_lt
 unfold TokFit
 split
 ·exact fixA_get _ (by omega)
 ·exact ⟨fixA_get _ (by omega), fixB_get _ (by omega)⟩
theorem tokB_pos (lit far : List Nat) (t : Tok) (h : TokFit lit far t) : 1 ≤ (tokB lit far t).length := by
 unfold TokFit at h
 unfold tokB
 split
 ·rename_i h0; rw [if_pos h0] at h; rw [codeB_length]; omega
 ·rename_i h0; rw [if_neg h0] at h
  simp only [List.length_append, codeB_length]; omega
theorem body_long (lit far : List Nat) : ∀ ts : List Tok, (∀ t ∈ ts, TokFit lit far t) → ts.length ≤ (bodyB ts lit far).length
 | [], _ => Nat.zero_le _
 | t :: ts, h => by
  have h1 := tokB_pos lit far t (h t List.mem_cons_self)
  have h2 := body_long lit far ts (fun x hx => h x (List.mem_cons_of_mem _ hx))
  rw [bodyB_cons, List.length_append, List.length_cons]; omega
theorem toks_has {row : List Bool} {lit far : List Nat} {p : Nat} {b out : List UInt8} (hc : Cd lit) (hd : Cd far) (he : lit.getD 256 0 ≠ 0) (hf : ∀ t ∈ toks b, TokFit lit far t) (h : Has row p (bodyB (toks b) lit far)) (hl : out.length + b.length ≤ 3000) :
  bodyR row lit far (row.length + 1) p out = .ok (p + (bodyB (toks b) lit far).length, out ++ b) := by
 have hs : (toks b).foldl putTok out = out ++ b := by
  have := say_front out (toks b) [] (toks_chk b)
  rw [List.append_nil] at this
  rw [this]
  have e : (toks b).foldl putTok [] = b := expand_toks b
  rw [e]
 have hlen := body_long lit far (toks b) hf
 have hle := h.le
 have := body_has hc hd he (toks b) p out (row.length + 1) 0 h hf (toks_chk b) (Int.le_refl _) (by omega) (by rw [hs, List.length_append]; exact hl) (by omega)
 rw [hs] at this
 exact this
theorem one_get {row : List Bool} {p : Nat} {l : Bool} (h : Has row p [l]) : getR row p 1 = .ok (l.toNat, p + 1) := by
 have e : [l] = numBits l.toNat 1 := by cases l <;> rfl
 rw [e] at h
 exact get_has h (by cases l <;> decide)
theorem last_beq (l : Bool) : (l.toNat == 1) = l := by cases l <;> rfl
theorem block_has {row : List Bool} {p kind : Nat} {b out : List UInt8} {last : Bool} (h : Has row p (oneS p b kind last)) (hk : kind ≤ 2) (hl : out.length + b.length ≤ 3000) :
  blockR row p out = .ok (last, kind, p + (oneS p b kind last).length, out ++ b) := by
 unfold oneS at h ⊢
 by_cases h0 : kind = 0
 ·subst h0
  rw [if_pos rfl] at h ⊢
  have a1 := h.left.left.left.left.left
  have a2 := h.left.left.left.left.right
  have a4 := h.left.left.right
  have a5 := h.left.right
  have a6 := h.right
  simp only [List.length_append, numBits_length, List.length_singleton, List.length_replicate] at a2 a4 a5 a6 ⊢
  have ef : fillP (p + 1 + 2) = p + (1 + 2 + (8 * ((p + 3 + 7) / 8) - (p + 3))) := by unfold fillP; omega
  have hb16 : b.length < 2 ^ 16 := by have : (2 : Nat) ^ 16 = 65536 := rfl; omega
  have hc16 : 65535 - b.length < 2 ^ 16 := by have : (2 : Nat) ^ 16 = 65536 := rfl; omega
  unfold blockR
  rw [one_get a1, thn]
  dsimp only
  rw [get_has a2 (by decide), thn]
  dsimp only
  rw [if_pos rfl]
  unfold storedR
  rw [ef, get_has a4 hb16, thn]
  dsimp only
  rw [get_has (by rw [Nat.add_assoc]; exact a5) hc16, thn]
  dsimp only
  rw [if_neg (by omega), raw_has b _ out (by simp only [Nat.add_assoc] at a6 ⊢; exact a6) hl, thn, last_beq, bitsL_length]
  simp only [Nat.add_assoc]
 ·rw [if_neg h0] at h ⊢
  by_cases h1 : kind = 1
  ·subst h1
   rw [if_pos rfl] at h ⊢
   have a1 := h.left.left
   have a2 := h.left.right
   have a3 := h.right
   simp only [List.length_append, numBits_length, List.length_singleton] at a2 a3 ⊢
   unfold blockR
   rw [one_get a1, thn]
   dsimp only
   rw [get_has a2 (by decide), thn]
   dsimp only
   rw [if_neg (by omega), if_pos rfl, toks_has fixA_cd fixB_cd (fixA_get 256 (by omega)) (fun t _ => fix_fit t) (by rw [Nat.add_assoc]; exact a3) hl, thn, last_beq]
   simp only [Nat.add_assoc]
  ·obtain rfl : kind = 2 := by omega
   rw [if_neg h1] at h ⊢
   obtain ⟨l1, l2, l3, l4, l5, l6⟩ := lens_all (toks b)
   generalize (lensP (toks b)).1 = lit at *
   generalize (lensP (toks b)).2 = far at *
   have a1 := h.left.left.left
   have a2 := h.left.left.right
   have a3 := h.left.right
   have a4 := h.right
   simp only [List.length_append, numBits_length, List.length_singleton] at a2 a3 a4 ⊢
   unfold blockR
   rw [one_get a1, thn]
   dsimp only
   rw [get_has a2 (by decide), thn]
   dsimp only
   rw [if_neg (by omega), if_neg (by omega), if_pos rfl, head_has l3 l4 l1 l2 l5 (by rw [Nat.add_assoc]; exact a3), thn]
   dsimp only
   rw [← trim_body (toks b) lit far 257 1] at a4 ⊢
   rw [toks_has (trim_cd lit 257 l3) (trim_cd far 1 l4) (by rw [trim_getD]; exact l5) (fun t ht => trim_fit lit far 257 1 t (l6 t ht)) (by simp only [Nat.add_assoc] at a4 ⊢; exact a4) hl, thn, last_beq]
   simp only [Nat.add_assoc]
theorem packK_succ (parts : List (List UInt8)) (kinds : List Nat) (i : Nat) : packK parts kinds (i + 1) = packK parts kinds i ++ oneS (packK parts kinds i).length (parts.getD i []) (kinds.getD i 0) (decide (i + 1 = parts.length)) := oneB_eq _ _ _ _
theorem packK_more (parts : List (List UInt8)) (kinds : List Nat) (i : Nat) : ∀ d, ∃ t, packK parts kinds (i + d) = packK parts kinds i ++ t
 | 0 => ⟨[], by simp⟩
 | d + 1 => by
  obtain ⟨t, ht⟩ := packK_more parts kinds i d
  exact ⟨t ++ _, by rw [← Nat.add_assoc, packK_succ, ht, List.append_assoc]⟩
theorem oneS_long (n : Nat) (b : List UInt8) (kind : Nat) (last : Bool) : 1 ≤ (oneS n b kind last).length := by
 unfold oneS
 (repeat' split) <;> simp only [List.length_append, List.length_singleton] <;> omega
theorem packK_long (parts : List (List UInt8)) (kinds : List Nat) : ∀ i, i ≤ (packK parts kinds i).length
 | 0 => Nat.zero_le _
 | i + 1 => by
  have h1 := packK_long parts kinds i
  have h2 := oneS_long (packK parts kinds i).length (parts.getD i []) (kinds.getD i 0) (decide (i + 1 = parts.length))
  rw [packK_succ, List.length_append]; omega
theorem flat_take (parts : List (List UInt8)) (i : Nat) (h : i < parts.length) : (parts.take (i + 1)).flatten = (parts.take i).flatten ++ parts.getD i [] := by
 rw [List.take_succ_eq_append_getElem h, List.flatten_append, List.getD_eq_getElem?_getD, List.getElem?_eq_getElem h]
 simp
theorem flat_len (parts : List (List UInt8)) : ∀ i, (parts.take i).flatten.length ≤ parts.flatten.length := fun i => by
 have : parts.flatten = (parts.take i).flatten ++ (parts.drop i).flatten := by rw [← List.flatten_append, List.take_append_drop]
 rw [this, List.length_append]; omega
theorem blocks_has {row : List Bool} {parts : List (List UInt8)} {kinds : List Nat} (hr : Has row 0 (packK parts kinds parts.length)) (hk : kinds.length = parts.length) (hkk : ∀ k ∈ kinds, k ≤ 2) (hl : parts.flatten.length ≤ 3000) :
  ∀ (m i fuel : Nat), i + m + 1 = parts.length → m < fuel → blocksR row fuel (packK parts kinds i).length (parts.take i).flatten (kinds.take i) = .ok ((packK parts kinds parts.length).length, parts.flatten, kinds)
 | m, i, 0, _, hf => absurd hf (by omega)
 | m, i, f + 1, hi, hf => by
  have hil : i < parts.length := by omega
  have hik : i < kinds.length := by omega
  obtain ⟨t, ht⟩ := packK_more parts kinds (i + 1) m
  rw [show i + 1 + m = parts.length by omega, packK_succ, List.append_assoc] at ht
  have hb : Has row (packK parts kinds i).length (oneS (packK parts kinds i).length (parts.getD i []) (kinds.getD i 0) (decide (i + 1 = parts.length))) := by
   rw [ht] at hr
   have := hr.right.left
   rw [Nat.zero_add] at this
   exact this
  have hkind : kinds.getD i 0 ≤ 2 := by
   rw [List.getD_eq_getElem?_getD, List.getElem?_eq_getElem hik]
   exact hkk _ (List.getElem_mem hik)
  have hfl := flat_take parts i hil
  have hfl2 := flat_len parts (i + 1)
  rw [hfl, List.length_append] at hfl2
  have hB := block_has (out := (parts.take i).flatten) hb hkind (by omega)
  show (blockR row _ _).then_ _ = _
  rw [hB, thn]
  dsimp only
  have hks : kinds.take i ++ [kinds.getD i 0] = kinds.take (i + 1) := by
   rw [List.take_succ_eq_append_getElem hik, List.getD_eq_getElem?_getD, List.getElem?_eq_getElem hik]; rfl
  have hp : (packK parts kinds i).length + (oneS (packK parts kinds i).length (parts.getD i []) (kinds.getD i 0) (decide (i + 1 = parts.length))).length = (packK parts kinds (i + 1)).length := by
   rw [packK_succ, List.length_append]
  rw [hp, hks, ← hfl]
  by_cases hlast : i + 1 = parts.length
  ·rw [if_pos (by simpa using hlast), hlast, List.take_length, ← hk, List.take_length]
  ·rw [if_neg (by simpa using hlast)]
   exact blocks_has hr hk hkk hl (m - 1) (i + 1) f (by omega) (by omega)
theorem has_pack (l : List Bool) (more : List UInt8) : Has (bitsL (pack l ++ more)) 0 l := by
 refine ⟨Nat.zero_le _, List.replicate (8 * ((l.length + 7) / 8) - l.length) false ++ bitsL more, ?_⟩
 rw [List.drop_zero, bitsL_append, bitsL_pack, List.append_assoc]
theorem unpack_pack (parts : List (List UInt8)) (kinds : List Nat) (more : List UInt8) (h0 : parts ≠ []) (hk : kinds.length = parts.length) (hkk : ∀ k ∈ kinds, k ≤ 2) (hl : parts.flatten.length ≤ 3000) (h6 : (packB parts kinds ++ more).length ≤ 6000) :
  unpackR (packB parts kinds ++ more) = .ok (parts.flatten, (packB parts kinds).length, kinds) := by
 have hpos : 0 < parts.length := List.length_pos_iff.2 h0
 have hlong := packK_long parts kinds parts.length
 have hlen : (packB parts kinds).length = ((packK parts kinds parts.length).length + 7) / 8 := pack_length _
 have hb := blocks_has (has_pack (packK parts kinds parts.length) more) hk hkk hl (parts.length - 1) 0 (8 * (packB parts kinds ++ more).length + 1) (by omega) (by rw [List.length_append]; omega)
 unfold unpackR
 rw [if_neg (by omega)]
 have e0 : (packK parts kinds 0).length = 0 := rfl
 rw [e0, List.take_zero, List.take_zero] at hb
 have hb' : blocksR (bitsL (packB parts kinds ++ more)) (8 * (packB parts kinds ++ more).length + 1) 0 [] [] = .ok ((packK parts kinds parts.length).length, parts.flatten, kinds) := hb
 rw [hb', thn]
 dsimp only
 rw [hlen]
end Go.Proofs.YthpdcnjaodjjmaaGreat.Rt
