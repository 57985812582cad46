/- package match: the index: a map from three bytes to the places where they stood. -/
import Derived.Test.YtoncjlbgheaabaaMatchPure
import Derived.Test.YtoncjlbgheaabaaKeep
import Derived.Test.YtoncjlbgheaabaaEqual
import Derived.DeepKeys4
import Derived.WideKeyEntry
namespace Go.Proofs.Ytoncjlbgheaabaa.Match
open Go Go.RowKit Go.Proofs.Ytoncjlbgheaabaa Go.MapKept
open Go.ChangeMaps (setBlock heap_setBlock_same heap_setBlock_other)
open Go.WideMaps (KeyLaw)
set_option linter.unusedVariables false

abbrev Tri := UInt8 × UInt8 × UInt8
def kv (t : Tri) : Value := .agg #[u8v t.1, u8v t.2.1, u8v t.2.2]
theorem kv_inj {s t : Tri} (h : kv s = kv t) : s = t := by
  obtain ⟨a, b, c⟩ := s
  obtain ⟨a', b', c'⟩ := t
  simp only [kv, u8v, Value.agg.injEq, Array.mk.injEq, List.cons.injEq, Value.int.injEq, true_and, and_true] at h
  obtain ⟨h1, h2, h3⟩ := h
  rw [n8_inj h1, n8_inj h2, n8_inj h3]
theorem lawK : KeyLaw Try.prog 109 := deep_law_laid (m := 2) (by kernel_rfl) (by omega) (of_decide_eq_true (by kernel_rfl)) (by kernel_rfl) (by kernel_rfl)
theorem kv_cells (t : Tri) : (kv t).cells.toList = [u8v t.1, u8v t.2.1, u8v t.2.2] := by simp [kv, Value.cells]
theorem u8_lit (x : UInt8) (d : Nat) : Try.prog.keyLits (d + 1) 5 [u8v x] = some [.int .u8 (n8 x)] := by
  have hx := n8_bd x
  have hw : (Lit.int .u8 (n8 x)).wf = true := by simp [Lit.wf, IntKind.min, IntKind.max, IntKind.signed, IntKind.bits]; omega
  simp [Program.keyLits, Try.underlying5, u8v, hw]
theorem tri_lits (t : Tri) (d : Nat) : Try.prog.keyLits (d + 2) 109 [u8v t.1, u8v t.2.1, u8v t.2.2] = some [.int .u8 (n8 t.1), .int .u8 (n8 t.2.1), .int .u8 (n8 t.2.2)] := by
  have e1 : Try.prog.cellsOf 109 = 3 := by kernel_rfl
  have e2 : Try.prog.cellsOf 5 = 1 := by kernel_rfl
  rw [Program.keyLits.eq_def]
  simp only [Try.underlying109, e1, e2]
  rw [show List.range 3 = [0, 1, 2] from rfl]
  simp [u8_lit]
theorem tri_types : ∃ d, Try.prog.types.size + 1 = d + 2 := by
  have : 1 ≤ Try.prog.types.size := of_decide_eq_true (by kernel_rfl)
  exact ⟨Try.prog.types.size - 1, by omega⟩
theorem kv_key (t : Tri) : ∃ kl, keyOf Try.prog 109 (kv t) = some kl := by
  have h1 : Try.prog.keyType 109 = true := by kernel_rfl
  have h2 : (kv t).formed Try.prog 109 = true := by
    have : Try.prog.cellsOf 109 = 3 := by kernel_rfl
    simp [kv, Value.formed, Try.underlying109, this]
  obtain ⟨d, hd⟩ := tri_types
  have h3 := tri_lits t d
  rw [← hd, ← kv_cells] at h3
  refine ⟨.string (keyBytes [.int .u8 (n8 t.1), .int .u8 (n8 t.2.1), .int .u8 (n8 t.2.2)]), ?_⟩
  rw [keyOf, Try.underlying109]
  show (if (Try.prog.keyType 109 && (kv t).formed Try.prog 109) = true then _ else _) = _
  rw [h1, h2, h3]
  rfl
theorem zeroI (w : World) : (zeroValue 24).run Try.prog w = .ok (.slice none 0 0) w := by rw [Try.zeroValue24]
def natV (n : Nat) : Value := .int .i64 (n : Int)
theorem tyI : SliceTy Try.prog 24 3 (.int .i64 0) 1 8 := ⟨Try.underlying24, by kernel_rfl, rfl, by omega⟩

/-- block b is a map whose slice at t holds the numbers F t, in a row of its own from block 'base' on -/
def GAt (w : World) (base b : Nat) (F : Tri → List Nat) : Prop :=
  base ≤ b ∧ ∃ es clock, w.heap[b]? = some (.map es clock) ∧ Stamped es clock ∧ (∀ x ∈ es.toList, ∃ t, x.key = kv t ∧ w.ownsRow base 3 1 x.val (F t).length ((F t).map natV)) ∧
    (∀ t, (∀ x ∈ es.toList, x.key ≠ kv t) → F t = []) ∧ (∀ x ∈ es.toList, ∀ y ∈ es.toList, x.key ≠ y.key → x.val.ownBlock = none ∨ x.val.ownBlock ≠ y.val.ownBlock)
theorem GAt.lt {w : World} {base b : Nat} {F : Tri → List Nat} (h : GAt w base b F) : b < w.heap.size := by
  obtain ⟨_, es, clock, hb, _⟩ := h
  exact (Array.getElem?_eq_some_iff.1 hb).1
theorem GAt.made (w : World) {base : Nat} (hb : base ≤ w.heap.size) : GAt (w.alloc (.map #[] 0)) base w.heap.size (fun _ => []) :=
  ⟨hb, #[], 0, heap_alloc_new w _, ⟨by simp, by simp, by simp⟩, by simp, fun _ _ => rfl, by simp⟩
/-- what changes no map and no row of ints leaves it as it was -/
theorem GAt.keep {w w' : World} {base b : Nat} {F : Tri → List Nat} (h : GAt w base b F) (hk : ∀ (k : Nat) (o : Obj), w.heap[k]? = some o → (∀ cs t fr, o = Obj.cells cs t fr → t = 3) → w'.heap[k]? = some o) : GAt w' base b F := by
  obtain ⟨h0, es, clock, hb, hs, h1, h2, h3⟩ := h
  refine ⟨h0, es, clock, hk _ _ hb (fun cs t fr e => by cases e), hs, fun x hx => ?_, h2, h3⟩
  obtain ⟨t, ht, hl, ho⟩ := h1 x hx
  refine ⟨t, ht, hl, ?_⟩
  rcases ho with ho | ⟨g, cap, cur, e1, e2, e3, e4⟩
  · exact Or.inl ho
  · exact Or.inr ⟨g, cap, cur, e1, e2, hk _ _ e3 (fun cs t fr e => by cases e; rfl), e4⟩
theorem GAt.below {w w' : World} {base b : Nat} {F : Tri → List Nat} (h : GAt w base b F) (hb : Below w.heap.size w w') : GAt w' base b F :=
  h.keep fun k o ho _ => by rw [hb.block k (Array.getElem?_eq_some_iff.1 ho).1]; exact ho
theorem GAt.alloc {w : World} {base b : Nat} {F : Tri → List Nat} (h : GAt w base b F) (o : Obj) : GAt (w.alloc o) base b F := h.below ((Below.refl _ _).alloc (Nat.le_refl _) _)
theorem GAt.keeps {w w' : World} {base base' b : Nat} {T : List TypeId} {F : Tri → List Nat} (h : GAt w base b F) (hk : Keeps base' T w w') (hT : 3 ∉ T) : GAt w' base b F :=
  h.keep fun k o ho ht => hk.other k o ho (fun cs t fr e => by rw [ht cs t fr e]; exact hT)
/-- the slice at a key -/
theorem GAt.look {w : World} {base b : Nat} {F : Tri → List Nat} (h : GAt w base b F) (t : Tri) :
    ∃ v, (Instr.lookup 100 (.map (some b)) (kv t) false).run Try.prog w = .ok v w ∧ w.ownsRow base 3 1 v (F t).length ((F t).map natV) := by
  obtain ⟨h0, es, clock, hb, hs, h1, h2, h3⟩ := h
  obtain ⟨kl, hkl⟩ := kv_key t
  have ht : Try.prog.underlying 100 = some (.map 109 24) := Try.underlying100
  have hkeys : ∀ x ∈ es.toList, ∃ l, keyOf Try.prog 109 x.key = some l := fun x hx => by
    obtain ⟨u, hu, _⟩ := h1 x hx
    rw [hu]; exact kv_key u
  rcases lawK.find w hkl es.toList hkeys with ⟨g1, g2⟩ | ⟨j, e0, g1, g2, g3⟩
  · refine ⟨.slice none 0 0, by simp [Instr.lookup, run_underlying ht, MapKept.run_getObj_map hb, lawK.check w _ hkl, g1, Result.andThen], ?_⟩
    rw [h2 t g2]
    exact World.ownsRow_nil _ _ _ _
  · refine ⟨e0.val, by simp [Instr.lookup, run_underlying ht, MapKept.run_getObj_map hb, lawK.check w _ hkl, g1, Result.andThen], ?_⟩
    obtain ⟨u, hu, ho⟩ := h1 e0 (List.mem_of_getElem? g2)
    have : t = u := kv_inj (by rw [← g3, hu])
    rw [this]; exact ho
def upd (F : Tri → List Nat) (t : Tri) (l : List Nat) : Tri → List Nat := fun u => if u = t then l else F u
/-- an own row of ints lies in a block of ints, so in no map -/
theorem row_not_map {w : World} {base b n : Nat} {v : Value} {xs : List Value} {es : Array MapEntry} {clock : Nat} (h : w.ownsRow base 3 1 v n xs) (hb : w.heap[b]? = some (.map es clock)) : v.ownBlock ≠ some b := by
  rcases h.2 with ⟨rfl, _⟩ | ⟨g, cap, cur, rfl, _, hg, _⟩
  · simp [Value.ownBlock]
  · intro e
    simp only [Value.ownBlock, Option.some.injEq] at e
    subst e
    rw [hb] at hg; cases hg
theorem row_lt {w : World} {base n g : Nat} {v : Value} {xs : List Value} (h : w.ownsRow base 3 1 v n xs) (hb : v.ownBlock = some g) : g < w.heap.size := by
  rcases h.2 with ⟨rfl, _⟩ | ⟨g', cap, cur, rfl, _, hg, _⟩
  · simp [Value.ownBlock] at hb
  · simp only [Value.ownBlock, Option.some.injEq] at hb
    subst hb
    exact (Array.getElem?_eq_some_iff.1 hg).1
theorem row_stay2 {w w' : World} {base b n : Nat} {v : Value} {xs : List Value} (h : w.ownsRow base 3 1 v n xs) (hk : ∀ (k : Nat), k < w.heap.size → v.ownBlock = some k → k ≠ b → w'.heap[k]? = w.heap[k]?) (hne : v.ownBlock ≠ some b) : w'.ownsRow base 3 1 v n xs := by
  refine ⟨h.1, ?_⟩
  rcases h.2 with h | ⟨g, cap, cur, rfl, h2, h3, h4⟩
  · exact Or.inl h
  · refine Or.inr ⟨g, cap, cur, rfl, h2, ?_, h4⟩
    rw [hk g (Array.getElem?_eq_some_iff.1 h3).1 rfl (fun e => hne (by simp [Value.ownBlock, e]))]
    exact h3
theorem row_stay {w w' : World} {base b n : Nat} {v : Value} {xs : List Value} (h : w.ownsRow base 3 1 v n xs) (hk : ∀ (k : Nat), k < w.heap.size → k ≠ b → w'.heap[k]? = w.heap[k]?) (hne : v.ownBlock ≠ some b) : w'.ownsRow base 3 1 v n xs :=
  row_stay2 h (fun k hk1 _ hkb => hk k hk1 hkb) hne
/-- x[t] = append(x[t], n): the entry, what may be done meanwhile, the store -/
theorem GAt.entry {w : World} {base b : Nat} {F : Tri → List Nat} (h : GAt w base b F) (t : Tri) :
    ∃ v st w1, (Instr.mapEntry 100 (.map (some b)) (kv t)).run Try.prog w = .ok (.tuple #[v, goInt st]) w1 ∧ w1.ownsRow base 3 1 v (F t).length ((F t).map natV) ∧ w.grownBy w1 (some b) ∧ w1.heap.size = w.heap.size ∧ v.ownBlock ≠ some b ∧
      ∀ (w2 : World) (v2 : Value) (l : List Nat), w1.grownBy w2 v.ownBlock → w2.ownsRow base 3 1 v2 l.length (l.map natV) → (v2.ownBlock = v.ownBlock ∨ v2.ownBlock = some w.heap.size) →
        ∃ w3, (Instr.entryStore 100 (.map (some b)) (goInt st) v2).run Try.prog w2 = .ok () w3 ∧ GAt w3 base b (upd F t l) ∧ w2.grownBy w3 (some b) := by
  obtain ⟨h0, es, clock, hb, ⟨s1, s2, s3⟩, h1, h2, h3⟩ := h
  obtain ⟨kl, hkl⟩ := kv_key t
  have ht : Try.prog.underlying 100 = some (.map 109 24) := Try.underlying100
  have hkeys : ∀ x ∈ es.toList, ∃ l, keyOf Try.prog 109 x.key = some l := fun x hx => by
    obtain ⟨u, hu, _⟩ := h1 x hx
    rw [hu]; exact kv_key u
  have hblt : b < w.heap.size := (Array.getElem?_eq_some_iff.1 hb).1
  have grow : ∀ (u : World) (o : Obj) (es' : Array MapEntry) (c' : Nat), u.heap[b]? = some (.map es' c') → u.grownBy (setBlock u b o) (some b) := fun u o es' c' hu =>
    ⟨rfl, rfl, rfl, by simp [setBlock], fun i _ hi => heap_setBlock_other hu _ (fun e1 => hi (by rw [e1]))⟩
  rcases lawK.find w hkl es.toList hkeys with ⟨g1, g2⟩ | ⟨j, e0, g1, g2, g3⟩
  · have hF := h2 t g2
    have hb1 : (setBlock w b (.map (es.push ⟨kv t, .slice none 0 0, clock⟩) (clock + 1))).heap[b]? = some (.map (es.push ⟨kv t, .slice none 0 0, clock⟩) (clock + 1)) := heap_setBlock_same hb _
    refine ⟨.slice none 0 0, clock, setBlock w b (.map (es.push ⟨kv t, .slice none 0 0, clock⟩) (clock + 1)), ?_, ?_, grow _ _ _ _ hb, by simp [setBlock], by simp [Value.ownBlock], ?_⟩
    · simp [Instr.mapEntry, run_underlying ht, MapKept.run_getObj_map hb, lawK.check w false hkl, g1, MapKept.run_setObj_map _ hb, Result.andThen, setBlock]
    · rw [hF]; exact World.ownsRow_nil _ _ _ _
    · intro w2 v2 l hg ho hv
      have hw2 : w2.heap[b]? = some (.map (es.push ⟨kv t, .slice none 0 0, clock⟩) (clock + 1)) := (hg.block b (by simpa [setBlock] using hblt) (by simp [Value.ownBlock])).trans hb1
      have hidx : (es.push ⟨kv t, .slice none 0 0, clock⟩).findIdx? (fun e => ((e.born : Nat) : Int) == ((clock : Nat) : Int)) = some es.size := by
        rw [WideElems.findIdx_arr]
        have := WideElems.findIdx_born (l := (es.push ⟨kv t, .slice none 0 0, clock⟩).toList) (j := es.size) (e0 := ⟨kv t, .slice none 0 0, clock⟩) (by
          simp only [Array.toList_push, List.map_append, List.map_cons, List.map_nil]
          refine List.nodup_append.2 ⟨s2, by simp, fun a ha c hc e1 => ?_⟩
          simp only [List.mem_singleton] at hc
          obtain ⟨x, hx, rfl⟩ := List.mem_map.1 ha
          have := s1 x hx
          omega) (by simp)
        exact this
      have hmod : (es.push ⟨kv t, .slice none 0 0, clock⟩).modify es.size (fun e => { e with val := v2 }) = es.push ⟨kv t, v2, clock⟩ := by
        apply Array.ext'
        rw [Array.toList_modify, Array.toList_push, Array.toList_push, ← Array.length_toList, WideElems.modify_last]
      refine ⟨setBlock w2 b (.map (es.push ⟨kv t, v2, clock⟩) (clock + 1)), by simp [Instr.entryStore, MapKept.run_getObj_map hw2, asInt, asIntOf, goInt, hidx, hmod, MapKept.run_setObj_map _ hw2, Result.andThen, setBlock], ?_, grow _ _ _ _ hw2⟩
      have hkeep : ∀ (k : Nat), k < w.heap.size → k ≠ b → w2.heap[k]? = w.heap[k]? := fun k hk hkb => by
        rw [hg.block k (by simpa [setBlock] using hk) (by simp [Value.ownBlock]), heap_setBlock_other hb _ hkb]
      refine ⟨h0, es.push ⟨kv t, v2, clock⟩, clock + 1, heap_setBlock_same hw2 _, ⟨?_, ?_, ?_⟩, ?_, ?_, ?_⟩
      · intro x hx
        simp at hx
        rcases hx with hx | rfl
        · have := s1 x (by simpa using hx); omega
        · exact Nat.lt_succ_self _
      · simp only [Array.toList_push, List.map_append, List.map_cons, List.map_nil]
        refine List.nodup_append.2 ⟨s2, by simp, fun a ha c hc e1 => ?_⟩
        simp only [List.mem_singleton] at hc
        obtain ⟨x, hx, rfl⟩ := List.mem_map.1 ha
        have := s1 x hx
        omega
      · simp only [Array.toList_push, List.map_append, List.map_cons, List.map_nil]
        refine List.nodup_append.2 ⟨s3, by simp, fun a ha c hc e1 => ?_⟩
        simp only [List.mem_singleton] at hc
        obtain ⟨x, hx, rfl⟩ := List.mem_map.1 ha
        exact g2 x hx (e1.trans hc)
      · intro x hx
        simp at hx
        rcases hx with hx | rfl
        · obtain ⟨u, hu, ho1⟩ := h1 x (by simpa using hx)
          have hne : u ≠ t := fun e => g2 x (by simpa using hx) (by rw [hu, e])
          refine ⟨u, hu, ?_⟩
          unfold upd; rw [if_neg hne]
          exact row_stay ho1 (fun k hk hkb => by rw [heap_setBlock_other hw2 _ hkb, hkeep k hk hkb]) (row_not_map ho1 hb)
        · refine ⟨t, rfl, ?_⟩
          unfold upd; rw [if_pos rfl]
          exact row_stay ho (fun k hk hkb => heap_setBlock_other hw2 _ hkb) (row_not_map ho hw2)
      · intro u hu
        have hne : u ≠ t := fun e => hu ⟨kv t, v2, clock⟩ (by simp) (by rw [e])
        unfold upd; rw [if_neg hne]
        exact h2 u (fun x hx => hu x (by simp; exact Or.inl (by simpa using hx)))
      · have far : ∀ x ∈ es.toList, x.val.ownBlock = none ∨ x.val.ownBlock ≠ v2.ownBlock := fun x hx => by
          rcases hv with e | e
          · rcases hq : x.val.ownBlock with _ | g
            · exact Or.inl rfl
            · right; rw [e]; simp [Value.ownBlock]
          · obtain ⟨u, hu, ho1⟩ := h1 x hx
            rcases hq : x.val.ownBlock with _ | g
            · exact Or.inl rfl
            · right; rw [e]; have := row_lt ho1 hq; simp; omega
        intro x hx y hy hxy
        simp at hx hy
        rcases hx with hx | rfl <;> rcases hy with hy | rfl
        · exact h3 x (by simpa using hx) y (by simpa using hy) hxy
        · exact far x (by simpa using hx)
        · rcases far y (by simpa using hy) with e | e
          · rcases hq : v2.ownBlock with _ | g
            · exact Or.inl rfl
            · right; rw [e]; simp
          · exact Or.inr (fun e1 => e e1.symm)
        · exact absurd rfl hxy
  · have hj : es[j]? = some e0 := by simpa using g2
    have he0 : e0 ∈ es.toList := List.mem_of_getElem? g2
    have hsame : es.modify j (fun e => { e with key := kv t }) = es := by
      apply Array.ext'
      rw [Array.toList_modify, ChangeMaps.modify_eq_set _ _ _ _ g2]
      have : ({ e0 with key := kv t } : MapEntry) = e0 := by rw [← g3]
      rw [this]
      exact WideElems.set_self _ _ _ g2
    obtain ⟨u0, hu0, ho0⟩ := h1 e0 he0
    have hut : t = u0 := kv_inj (by rw [← g3, hu0])
    subst hut
    have hbs : setBlock w b (.map es clock) = w := by
      unfold setBlock
      have : w.heap.setIfInBounds b (.map es clock) = w.heap := by
        apply Array.ext_getElem?
        intro i
        rw [Array.getElem?_setIfInBounds]
        split
        · rename_i e; subst e; exact hb.symm
        · rfl
      rw [this]
    refine ⟨e0.val, e0.born, w, ?_, ho0, ⟨rfl, rfl, rfl, Nat.le_refl _, fun _ _ _ => rfl⟩, rfl, row_not_map ho0 hb, ?_⟩
    · have hr : (Instr.mapEntry 100 (.map (some b)) (kv t)).run Try.prog w = .ok (.tuple #[e0.val, goInt e0.born]) (setBlock w b (.map es clock)) := by
        simp [Instr.mapEntry, run_underlying ht, MapKept.run_getObj_map hb, lawK.check w false hkl, g1, hj, g3, lawK.stays w hkl, hsame, MapKept.run_setObj_map _ hb, Result.andThen, setBlock]
      rw [hr, hbs]
    · intro w2 v2 l hg ho hv
      have hw2 : w2.heap[b]? = some (.map es clock) := (hg.block b hblt (fun e => row_not_map ho0 hb e.symm)).trans hb
      have hidx : es.findIdx? (fun e => ((e.born : Nat) : Int) == ((e0.born : Nat) : Int)) = some j := by
        rw [WideElems.findIdx_arr]
        exact WideElems.findIdx_born s2 g2
      refine ⟨setBlock w2 b (.map (es.modify j (fun e => { e with val := v2 })) clock), by simp [Instr.entryStore, MapKept.run_getObj_map hw2, asInt, asIntOf, goInt, hidx, MapKept.run_setObj_map _ hw2, Result.andThen, setBlock], ?_, grow _ _ _ _ hw2⟩
      have hl : (es.modify j (fun e => { e with val := v2 })).toList = es.toList.set j { e0 with val := v2 } := by
        rw [Array.toList_modify, ChangeMaps.modify_eq_set _ _ _ _ g2]
      have hjl : j < es.toList.length := by
        rcases Nat.lt_or_ge j es.toList.length with h | h
        · exact h
        · rw [List.getElem?_eq_none h] at g2; cases g2
      have hmem : ∀ x, x ∈ es.toList.set j { e0 with val := v2 } → x = { e0 with val := v2 } ∨ (x ∈ es.toList ∧ x.key ≠ kv t) := fun x hx => by
        obtain ⟨i, hi, rfl⟩ := List.mem_iff_getElem.1 hx
        by_cases hij : i = j
        · subst hij; left; simp
        · right
          have hil : i < es.toList.length := by simpa using hi
          rw [List.getElem_set_ne (fun e => hij e.symm)]
          refine ⟨List.getElem_mem hil, fun e => hij ?_⟩
          refine (List.getElem?_inj (l := es.toList.map (·.key)) (by simpa using hil) s3).1 ?_
          rw [List.getElem?_map, List.getElem?_map, g2, List.getElem?_eq_getElem hil]
          simp only [Option.map_some]
          rw [e, g3]
      have hmaps : ∀ {β : Type} (f : MapEntry → β), (f { e0 with val := v2 } = f e0) → (es.toList.set j { e0 with val := v2 }).map f = es.toList.map f := fun {β} f hf => by
        rw [List.map_set, hf]
        have := WideElems.set_self (es.toList.map f) j (f e0) (by rw [List.getElem?_map, g2]; rfl)
        exact this
      have hkeep : ∀ (k : Nat), k < w.heap.size → some k ≠ e0.val.ownBlock → w2.heap[k]? = w.heap[k]? := fun k hk hkb => hg.block k hk hkb
      have hsame2 : ∀ (u : Tri), kv u = kv t → u = t := fun u e => kv_inj e
      refine ⟨h0, es.modify j (fun e => { e with val := v2 }), clock, heap_setBlock_same hw2 _, ⟨?_, ?_, ?_⟩, ?_, ?_, ?_⟩
      · rw [hl]; intro x hx
        rcases hmem x hx with rfl | ⟨hx, _⟩
        · exact s1 e0 he0
        · exact s1 x hx
      · rw [hl, hmaps _ (by rfl)]; exact s2
      · rw [hl, hmaps _ (by rfl)]; exact s3
      · rw [hl]; intro x hx
        rcases hmem x hx with rfl | ⟨hx, hne⟩
        · refine ⟨t, g3, ?_⟩
          unfold upd; rw [if_pos rfl]
          exact row_stay ho (fun k hk hkb => heap_setBlock_other hw2 _ hkb) (row_not_map ho hw2)
        · obtain ⟨u, hu, ho1⟩ := h1 x hx
          have hut : u ≠ t := fun e => hne (by rw [hu, e])
          refine ⟨u, hu, ?_⟩
          unfold upd; rw [if_neg hut]
          have hap : x.val.ownBlock = none ∨ x.val.ownBlock ≠ e0.val.ownBlock := h3 x hx e0 he0 (by rw [g3]; exact hne)
          refine row_stay2 ho1 (fun k hk hkx hkb => ?_) (row_not_map ho1 hb)
          rw [heap_setBlock_other hw2 _ hkb]
          refine hkeep k hk (fun e => ?_)
          rcases hap with e1 | e1
          · rw [e1] at hkx; cases hkx
          · exact e1 (hkx.trans e)
      · rw [hl]; intro u hu
        have hut : u ≠ t := fun e => hu { e0 with val := v2 } (List.mem_iff_getElem.2 ⟨j, by simpa using hjl, by simp⟩) (by rw [e]; exact g3)
        unfold upd; rw [if_neg hut]
        refine h2 u (fun x hx e => ?_)
        obtain ⟨i, hi, rfl⟩ := List.mem_iff_getElem.1 hx
        have hij : j ≠ i := fun e1 => by
          subst e1
          rw [List.getElem?_eq_getElem hi] at g2
          injection g2 with g2
          rw [g2, g3] at e
          exact hut (kv_inj e).symm
        exact hu es.toList[i] (List.mem_iff_getElem.2 ⟨i, by simpa using hi, by rw [List.getElem_set_ne hij]⟩) e
      · have far : ∀ x ∈ es.toList, x.key ≠ kv t → x.val.ownBlock = none ∨ x.val.ownBlock ≠ v2.ownBlock := fun x hx hne => by
          rcases hv with e | e
          · rw [e]; exact h3 x hx e0 he0 (by rw [g3]; exact hne)
          · obtain ⟨u, hu, ho1⟩ := h1 x hx
            rcases hq : x.val.ownBlock with _ | g
            · exact Or.inl rfl
            · right; rw [e]; have := row_lt ho1 hq; simp; omega
        rw [hl]; intro x hx y hy hxy
        rcases hmem x hx with rfl | ⟨hx, hnx⟩ <;> rcases hmem y hy with rfl | ⟨hy, hny⟩
        · exact absurd rfl hxy
        · rcases far y hy hny with e | e
          · rcases hq : v2.ownBlock with _ | g
            · exact Or.inl rfl
            · right; rw [e]; simp
          · exact Or.inr (fun e1 => e e1.symm)
        · exact far x hx hnx
        · exact h3 x hx y hy hxy
end Go.Proofs.Ytoncjlbgheaabaa.Match
