/- maps of the call's own whose keys are strings or bools: told as an association list (Refs' first part, alone). No program in sight. -/
import Derived.Test.YtfgkfakhlcbdbaaKeep
import Derived.Maps.OwnOps
namespace Go.Proofs.Ytfgkfakhlcbdbaa
open Go Go.RowKit Go.MapKept
open Go.ChangeMaps (setBlock heap_setBlock_same heap_setBlock_other)
set_option linter.unusedVariables false

section
variable {α : Type} [DecidableEq α]
/-- what stands at a key -/
def mget : List (α × Value) → α → Option Value
  | [], _ => none
  | p :: l, k => if p.1 = k then some p.2 else mget l k
/-- .. stored there -/
def mput : List (α × Value) → α → Value → List (α × Value)
  | [], k, v => [(k, v)]
  | p :: l, k, v => if p.1 = k then (k, v) :: l else p :: mput l k v
theorem mput_none {al : List (α × Value)} {k : α} (h : mget al k = none) (v : Value) : mput al k v = al ++ [(k, v)] := by
  induction al with
  | nil => rfl
  | cons p l ih =>
    unfold mget at h
    unfold mput
    by_cases e : p.1 = k
    · rw [if_pos e] at h; cases h
    · rw [if_neg e] at h ⊢; rw [ih h]; rfl
theorem mget_put (al : List (α × Value)) (k : α) (v : Value) (j : α) : mget (mput al k v) j = if k = j then some v else mget al j := by
  induction al with
  | nil => rfl
  | cons p l ih =>
    unfold mput
    by_cases e : p.1 = k
    · rw [if_pos e]
      subst e
      unfold mget
      by_cases e2 : p.1 = j
      · simp only [if_pos e2]
      · simp only [if_neg e2]
    · rw [if_neg e]
      unfold mget
      by_cases e2 : p.1 = j
      · have : ¬ k = j := fun h => e (by rw [e2, h])
        simp only [if_pos e2, if_neg this]
      · simp only [if_neg e2]
        exact ih
theorem mput_len (al : List (α × Value)) (k : α) (v : Value) : (mput al k v).length ≤ al.length + 1 := by
  induction al with
  | nil => simp [mput]
  | cons p l ih =>
    unfold mput
    split
    · simp
    · simp; omega
def pairE (e : MapEntry) : Value × Value := (e.key, e.val)
def pairK (f : α → Value) (p : α × Value) : Value × Value := (f p.1, p.2)
/-- block b is a map that reads so -/
def KM (f : α → Value) (w : World) (b : Nat) (al : List (α × Value)) : Prop := ∃ es clock, w.heap[b]? = some (.map es clock) ∧ es.toList.map pairE = al.map (pairK f)
/-- keys of a plain kind -/
structure KeyF (d : TypeDesc) (f : α → Value) : Prop where
  key : ∀ a, IsKey d (f a)
  inj : ∀ a b, f a = f b → a = b
theorem find_km {d : TypeDesc} {f : α → Value} (hf : KeyF d f) (k : α) : ∀ (l : List MapEntry) (al : List (α × Value)) (i : Nat), l.map pairE = al.map (pairK f) →
    (mget al k = none ∧ Instr.findNow d (f k) l i = some none) ∨
    ∃ j e, mget al k = some e.val ∧ Instr.findNow d (f k) l i = some (some (i + j, e.val)) ∧ l[j]? = some e ∧ e.key = f k ∧ ∀ v, (l.modify j fun e => { e with key := f k, val := v }).map pairE = (mput al k v).map (pairK f)
  | [], [], i, _ => .inl ⟨rfl, rfl⟩
  | [], p :: al, i, h => by simp at h
  | e :: l, [], i, h => by simp at h
  | e :: l, p :: al, i, h => by
    simp only [List.map_cons, List.cons.injEq] at h
    obtain ⟨h1, h2⟩ := h
    obtain ⟨e1, e2⟩ : e.key = f p.1 ∧ e.val = p.2 := by simpa [pairE, pairK] using h1
    obtain ⟨r, hr, hiff⟩ := sameNow_of_keys (hf.key k) (show IsKey d e.key by rw [e1]; exact hf.key _)
    cases r with
    | true =>
      have hk : p.1 = k := hf.inj _ _ (by rw [← e1]; exact (hiff.1 rfl).symm)
      refine .inr ⟨0, e, ?_, by simp [Instr.findNow, hr], rfl, (hiff.1 rfl).symm, fun v => ?_⟩
      · unfold mget; rw [if_pos hk, e2]
      · unfold mput; rw [if_pos hk]; simpa [pairE, pairK] using h2
    | false =>
      have hk : ¬ p.1 = k := fun h => by
        have := hiff.2 (by rw [e1, h])
        cases this
      rcases find_km hf k l al (i + 1) h2 with ⟨g1, g2⟩ | ⟨j, e', g1, g2, g3, g4, g5⟩
      · refine .inl ⟨?_, by simp [Instr.findNow, hr, g2]⟩
        unfold mget; rw [if_neg hk]; exact g1
      · refine .inr ⟨j + 1, e', ?_, ?_, by simpa using g3, g4, fun v => ?_⟩
        · unfold mget; rw [if_neg hk]; exact g1
        · simp only [Instr.findNow, hr, g2]; congr 3; omega
        · unfold mput; rw [if_neg hk]
          simp only [List.modify_succ_cons, List.map_cons, h1, g5 v]

variable {P : Program} {t K E : TypeId} {d : TypeDesc} {f : α → Value} {w : World} {b : Nat} {al : List (α × Value)}
omit [DecidableEq α] in
theorem KM.made (f : α → Value) (w : World) : KM f (w.alloc (.map #[] 0)) w.heap.size [] := ⟨#[], 0, heap_alloc_new w _, rfl⟩
omit [DecidableEq α] in
theorem KM.below {w' : World} (h : KM f w b al) (hb : Below w.heap.size w w') : KM f w' b al := by
  obtain ⟨es, c, h1, h2⟩ := h
  exact ⟨es, c, by rw [hb.block b (Array.getElem?_eq_some_iff.1 h1).1]; exact h1, h2⟩
omit [DecidableEq α] in
theorem KM.lt (h : KM f w b al) : b < w.heap.size := by
  obtain ⟨es, c, h1, h2⟩ := h
  exact (Array.getElem?_eq_some_iff.1 h1).1
omit [DecidableEq α] in
theorem KM.grown {w' : World} {row : Option Nat} (h : KM f w b al) (hg : w.grownBy w' row) (hr : row ≠ some b) : KM f w' b al := by
  have hl := h.lt
  obtain ⟨es, c, h1, h2⟩ := h
  exact ⟨es, c, by rw [hg.block b hl (fun e => hr e.symm)]; exact h1, h2⟩
omit [DecidableEq α] in
theorem KM.keeps {w' : World} {base : Nat} {T : List TypeId} (h : KM f w b al) (hk : Keeps base T w w') : KM f w' b al := by
  obtain ⟨es, c, h1, h2⟩ := h
  exact ⟨es, c, hk.other b _ h1 (fun cs t fr e => by cases e), h2⟩
omit [DecidableEq α] in
/-- a row lies in no map -/
theorem own_no_map {base n size : Nat} {e : TypeId} {v : Value} {xs : List Value} (h : w.ownsRow base e size v n xs) (hm : KM f w b al) : v.ownBlock ≠ some b := by
  obtain ⟨es, c, hb, _⟩ := hm
  rcases h.2 with ⟨rfl, _⟩ | ⟨g, cap, cur, rfl, _, hg, _⟩
  · simp [Value.ownBlock]
  · intro e
    simp only [Value.ownBlock, Option.some.injEq] at e
    subst e
    rw [hb] at hg; cases hg
theorem KM.look (h : KM f w b al) (ht : P.underlying t = some (.map K E)) (hk : P.underlying K = some d) (hf : KeyF d f) {z : Value} (hz : (zeroValue E).run P w = .ok z w) (k : α) :
    (Instr.lookup t (.map (some b)) (f k) false).run P w = .ok ((mget al k).getD z) w ∧ (Instr.lookup t (.map (some b)) (f k) true).run P w = .ok (.tuple #[(mget al k).getD z, .bool (mget al k).isSome]) w := by
  obtain ⟨es, c, h1, h2⟩ := h
  have hc := fun em => run_checkKey (w := w) hk (hf.key k) em 9999
  rcases find_km hf k es.toList al 0 h2 with ⟨g1, g2⟩ | ⟨j, e', g1, g2, _⟩
  · have hr := run_findKey (w := w) hk g2
    constructor <;> simp [Instr.lookup, run_underlying ht, MapKept.run_getObj_map h1, hc, hr, hz, g1, Result.andThen]
  · have hr := run_findKey (w := w) hk g2
    constructor <;> simp [Instr.lookup, run_underlying ht, MapKept.run_getObj_map h1, hc, hr, g1, Result.andThen]
theorem KM.put (h : KM f w b al) (ht : P.underlying t = some (.map K E)) (hk : P.underlying K = some d) (hf : KeyF d f) (k : α) (v : Value) :
    ∃ w', (Instr.mapUpdate t (.map (some b)) (f k) v).run P w = .ok () w' ∧ KM f w' b (mput al k v) ∧ w.grownBy w' (some b) ∧ w'.heap.size = w.heap.size := by
  obtain ⟨es, c, h1, h2⟩ := h
  have hc := fun em => run_checkKey (w := w) hk (hf.key k) em 9999
  have grow : ∀ (o : Obj), w.grownBy (setBlock w b o) (some b) := fun o =>
    ⟨rfl, rfl, rfl, by simp [setBlock], fun i _ hi => heap_setBlock_other h1 _ (fun e1 => hi (by rw [e1]))⟩
  rcases find_km hf k es.toList al 0 h2 with ⟨g1, g2⟩ | ⟨j, e', g1, g2, g3, g4, g5⟩
  · have hr := run_findKey (w := w) hk g2
    refine ⟨setBlock w b (.map (es.push ⟨f k, v, c⟩) (c + 1)), ?_, ⟨_, _, heap_setBlock_same h1 _, ?_⟩, grow _, by simp [setBlock]⟩
    · simp [Instr.mapUpdate, run_underlying ht, MapKept.run_getObj_map h1, hc, hr, MapKept.run_setObj_map _ h1, Result.andThen, setBlock]
    · rw [mput_none g1]
      simp [h2, pairE, pairK]
  · have hr := run_findKey (w := w) hk g2
    rw [Nat.zero_add] at hr
    have hks := run_keyThatStays (P := P) (w := w) (hf.key k)
    have hej : es[j]? = some e' := by simpa using g3
    refine ⟨setBlock w b (.map (es.modify j fun e => { e with key := f k, val := v }) c), ?_, ⟨_, _, heap_setBlock_same h1 _, ?_⟩, grow _, by simp [setBlock]⟩
    · simp [Instr.mapUpdate, run_underlying ht, MapKept.run_getObj_map h1, hc, hr, hej, g4, hks, MapKept.run_setObj_map _ h1, Result.andThen, setBlock]
    · rw [← g5 v]
      simp
/-- 'v, ok := m[k]', 'm[k]', 'm[k] = v' at the operation, for the walk -/
theorem wpList_kmlook {w : World} {ops : Array Oper} {rest : List Oper} {o : Oper} {a : Act} {Q : Exit → Act → World → Prop} (hg : o.guard = none) (m x : Operand) (t : TypeId) (hop : o.op = Op.lookup t m x false)
    (b : Nat) (al : List (α × Value)) (h : KM f w b al) (ht : P.underlying t = some (.map K E)) (hk : P.underlying K = some d) (hf : KeyF d f) {z : Value} (hz : (zeroValue E).run P w = .ok z w) (k : α)
    (hm : a.eval m = .map (some b)) (hx : a.eval x = f k) (hK : wpList P ops Q rest (a.put o.dst ((mget al k).getD z)) w) : wpList P ops Q (o :: rest) a w := by
  refine wpList_plain hg fun K' hK' => ?_
  have hrun := (h.look ht hk hf hz k).1
  unfold Oper.wp
  simp [execOp, hop, hm, hx, hrun, Result.andThen]
  exact hK' _ _ hK
theorem wpList_kmlook_ok {w : World} {ops : Array Oper} {rest : List Oper} {o : Oper} {a : Act} {Q : Exit → Act → World → Prop} (hg : o.guard = none) (m x : Operand) (t : TypeId) (hop : o.op = Op.lookup t m x true)
    (b : Nat) (al : List (α × Value)) (h : KM f w b al) (ht : P.underlying t = some (.map K E)) (hk : P.underlying K = some d) (hf : KeyF d f) {z : Value} (hz : (zeroValue E).run P w = .ok z w) (k : α)
    (hm : a.eval m = .map (some b)) (hx : a.eval x = f k) (hK : wpList P ops Q rest (a.put o.dst (.tuple #[(mget al k).getD z, .bool (mget al k).isSome])) w) : wpList P ops Q (o :: rest) a w := by
  refine wpList_plain hg fun K' hK' => ?_
  have hrun := (h.look ht hk hf hz k).2
  unfold Oper.wp
  simp [execOp, hop, hm, hx, hrun, Result.andThen]
  exact hK' _ _ hK
theorem wpList_kmlook_ok' {w : World} {ops : Array Oper} {rest : List Oper} {o : Oper} {a : Act} {Q : Exit → Act → World → Prop} (hg : o.guard = none) (m x : Operand) (t : TypeId) (hop : o.op = Op.lookup t m x true)
    (b : Nat) (al : List (α × Value)) (h : KM f w b al) (ht : P.underlying t = some (.map K E)) (hk : P.underlying K = some d) (hf : KeyF d f) {z : Value} (hz : (zeroValue E).run P w = .ok z w) (k : α)
    (hm : a.eval m = .map (some b)) (hx : a.eval x = f k) (r : Value) (c : Bool) (hr : (mget al k).getD z = r) (hc : (mget al k).isSome = c) (hK : wpList P ops Q rest (a.put o.dst (.tuple #[r, .bool c])) w) : wpList P ops Q (o :: rest) a w := by
  subst hr hc
  exact wpList_kmlook_ok hg m x t hop b al h ht hk hf hz k hm hx hK
theorem wpList_kmlook' {w : World} {ops : Array Oper} {rest : List Oper} {o : Oper} {a : Act} {Q : Exit → Act → World → Prop} (hg : o.guard = none) (m x : Operand) (t : TypeId) (hop : o.op = Op.lookup t m x false)
    (b : Nat) (al : List (α × Value)) (h : KM f w b al) (ht : P.underlying t = some (.map K E)) (hk : P.underlying K = some d) (hf : KeyF d f) {z : Value} (hz : (zeroValue E).run P w = .ok z w) (k : α)
    (hm : a.eval m = .map (some b)) (hx : a.eval x = f k) (r : Value) (hr : (mget al k).getD z = r) (hK : wpList P ops Q rest (a.put o.dst r) w) : wpList P ops Q (o :: rest) a w := by
  subst hr
  exact wpList_kmlook hg m x t hop b al h ht hk hf hz k hm hx hK
theorem wpList_kmput {w : World} {ops : Array Oper} {rest : List Oper} {o : Oper} {a : Act} {Q : Exit → Act → World → Prop} (hg : o.guard = none) (m x v : Operand) (t : TypeId) (hop : o.op = Op.mapUpdate t m x v)
    (b : Nat) (al : List (α × Value)) (h : KM f w b al) (ht : P.underlying t = some (.map K E)) (hk : P.underlying K = some d) (hf : KeyF d f) (k : α) (val : Value)
    (hm : a.eval m = .map (some b)) (hx : a.eval x = f k) (hv : a.eval v = val) (hK : ∀ w', KM f w' b (mput al k val) → w.grownBy w' (some b) → wpList P ops Q rest (a.put o.dst undef) w') : wpList P ops Q (o :: rest) a w := by
  refine wpList_plain hg fun K' hK' => ?_
  obtain ⟨w', hrun, r1, r2, _⟩ := h.put ht hk hf k val
  unfold Oper.wp
  simp [execOp, hop, hm, hx, hv, hrun, Result.andThen]
  exact hK' _ _ (hK w' r1 r2)
theorem wpList_kmins {w : World} {ops : Array Oper} {rest : List Oper} {o : Oper} {a : Act} {Q : Exit → Act → World → Prop} (hg : o.guard = none) (m x v : Operand) (t : TypeId) (hop : o.op = Op.insert t m x v)
    (b : Nat) (al : List (α × Value)) (h : KM f w b al) (ht : P.underlying t = some (.map K E)) (hk : P.underlying K = some d) (hf : KeyF d f) (k : α) (val : Value)
    (hm : a.eval m = .map (some b)) (hx : a.eval x = f k) (hv : a.eval v = val) (hK : ∀ w', KM f w' b (mput al k val) → w.grownBy w' (some b) → wpList P ops Q rest (a.put o.dst undef) w') : wpList P ops Q (o :: rest) a w := by
  refine wpList_plain hg fun K' hK' => ?_
  obtain ⟨w', hrun, r1, r2, _⟩ := h.put ht hk hf k val
  unfold Oper.wp
  simp [execOp, hop, hm, hx, hv, hrun, Result.andThen]
  exact hK' _ _ (hK w' r1 r2)
end
theorem keyF_bool : KeyF .bool (fun x : Bool => Value.bool x) := ⟨fun a => trivial, fun a b h => by injection h⟩
end Go.Proofs.Ytfgkfakhlcbdbaa

