/- the document's answers: maps of one's own; Later, CheckFiles, Together, OwnFiles; what the reach gives. -/
import Derived.Test.YtdoegpklephelaaGreatDoorKeep
import Derived.Maps.OwnOps
import Derived.Test.YtdoegpklephelaaGreatDoorWorldMem
import Derived.SizedLaws
import Derived.Test.YtdoegpklephelaaGreatDoorMergeChk4
import Derived.Test.YtdoegpklephelaaGreatDoorNameRef
import Derived.Test.YtdoegpklephelaaGreatDoorFile
import Derived.Test.YtdoegpklephelaaGreatDoorShelfSortS
import Derived.Test.YtdoegpklephelaaGreatDoorName0
import Derived.Sort.OwnSorted
import Derived.Shelf.Slices.In.SortNone2
import Derived.Test.YtdoegpklephelaaGreatDoorWorldChk3
import Derived.Test.YtdoegpklephelaaGreatDoorMergeBoth3
/- maps of the call's own whose keys are strings or bools: told as an association list. No program in sight. -/
namespace Go.Proofs.YtdoegpklephelaaGreatDoor
open Go Go.RowKit Go.MapKept
open Go.ChangeMaps (setBlock heap_setBlock_same heap_setBlock_other)
set_option linter.unusedVariables false

section
variable {α : Type} [DecidableEq α]
/-- what stands at a key -/
def mget : List (α × Value) → α → Option Value
  | [], _ => none
  | p :: l, k => if p.1 = k then some p.2 else mget l k
/-- .. stored there -/
def mput : List (α × Value) → α → Value → List (α × Value)
  | [], k, v => [(k, v)]
  | p :: l, k, v => if p.1 = k then (k, v) :: l else p :: mput l k v
theorem mput_none {al : List (α × Value)} {k : α} (h : mget al k = none) (v : Value) : mput al k v = al ++ [(k, v)] := by
  induction al with
  | nil => rfl
  | cons p l ih =>
    unfold mget at h
    unfold mput
    by_cases e : p.1 = k
    · rw [if_pos e] at h; cases h
    · rw [if_neg e] at h ⊢; rw [ih h]; rfl
theorem mget_put (al : List (α × Value)) (k : α) (v : Value) (j : α) : mget (mput al k v) j = if k = j then some v else mget al j := by
  induction al with
  | nil => rfl
  | cons p l ih =>
    unfold mput
    by_cases e : p.1 = k
    · rw [if_pos e]
      subst e
      unfold mget
      by_cases e2 : p.1 = j
      · simp only [if_pos e2]
      · simp only [if_neg e2]
    · rw [if_neg e]
      unfold mget
      by_cases e2 : p.1 = j
      · have : ¬ k = j := fun h => e (by rw [e2, h])
        simp only [if_pos e2, if_neg this]
      · simp only [if_neg e2]
        exact ih
theorem mput_len (al : List (α × Value)) (k : α) (v : Value) : (mput al k v).length ≤ al.length + 1 := by
  induction al with
  | nil => simp [mput]
  | cons p l ih =>
    unfold mput
    split
    · simp
    · simp; omega
def pairE (e : MapEntry) : Value × Value := (e.key, e.val)
def pairK (f : α → Value) (p : α × Value) : Value × Value := (f p.1, p.2)
/-- block b is a map that reads so -/
def KM (f : α → Value) (w : World) (b : Nat) (al : List (α × Value)) : Prop := ∃ es clock, w.heap[b]? = some (.map es clock) ∧ es.toList.map pairE = al.map (pairK f)
/-- keys of a plain kind -/
structure KeyF (d : TypeDesc) (f : α → Value) : Prop where
  key : ∀ a, IsKey d (f a)
  inj : ∀ a b, f a = f b → a = b
theorem find_km {d : TypeDesc} {f : α → Value} (hf : KeyF d f) (k : α) : ∀ (l : List MapEntry) (al : List (α × Value)) (i : Nat), l.map pairE = al.map (pairK f) →
    (mget al k = none ∧ Instr.findNow d (f k) l i = some none) ∨
    ∃ j e, mget al k = some e.val ∧ Instr.findNow d (f k) l i = some (some (i + j, e.val)) ∧ l[j]? = some e ∧ e.key = f k ∧ ∀ v, (l.modify j fun e => { e with key := f k, val := v }).map pairE = (mput al k v).map (pairK f)
  | [], [], i, _ => .inl ⟨rfl, rfl⟩
  | [], p :: al, i, h => by simp at h
  | e :: l, [], i, h => by simp at h
  | e :: l, p :: al, i, h => by
    simp only [List.map_cons, List.cons.injEq] at h
    obtain ⟨h1, h2⟩ := h
    obtain ⟨e1, e2⟩ : e.key = f p.1 ∧ e.val = p.2 := by simpa [pairE, pairK] using h1
    obtain ⟨r, hr, hiff⟩ := sameNow_of_keys (hf.key k) (show IsKey d e.key by rw [e1]; exact hf.key _)
    cases r with
    | true =>
      have hk : p.1 = k := hf.inj _ _ (by rw [← e1]; exact (hiff.1 rfl).symm)
      refine .inr ⟨0, e, ?_, by simp [Instr.findNow, hr], rfl, (hiff.1 rfl).symm, fun v => ?_⟩
      · unfold mget; rw [if_pos hk, e2]
      · unfold mput; rw [if_pos hk]; simpa [pairE, pairK] using h2
    | false =>
      have hk : ¬ p.1 = k := fun h => by
        have := hiff.2 (by rw [e1, h])
        cases this
      rcases find_km hf k l al (i + 1) h2 with ⟨g1, g2⟩ | ⟨j, e', g1, g2, g3, g4, g5⟩
      · refine .inl ⟨?_, by simp [Instr.findNow, hr, g2]⟩
        unfold mget; rw [if_neg hk]; exact g1
      · refine .inr ⟨j + 1, e', ?_, ?_, by simpa using g3, g4, fun v => ?_⟩
        · unfold mget; rw [if_neg hk]; exact g1
        · simp only [Instr.findNow, hr, g2]; congr 3; omega
        · unfold mput; rw [if_neg hk]
          simp only [List.modify_succ_cons, List.map_cons, h1, g5 v]

variable {P : Program} {t K E : TypeId} {d : TypeDesc} {f : α → Value} {w : World} {b : Nat} {al : List (α × Value)}
omit [DecidableEq α] in
theorem KM.made (f : α → Value) (w : World) : KM f (w.alloc (.map #[] 0)) w.heap.size [] := ⟨#[], 0, heap_alloc_new w _, rfl⟩
omit [DecidableEq α] in
theorem KM.below {w' : World} (h : KM f w b al) (hb : Below w.heap.size w w') : KM f w' b al := by
  obtain ⟨es, c, h1, h2⟩ := h
  exact ⟨es, c, by rw [hb.block b (Array.getElem?_eq_some_iff.1 h1).1]; exact h1, h2⟩
omit [DecidableEq α] in
theorem KM.lt (h : KM f w b al) : b < w.heap.size := by
  obtain ⟨es, c, h1, h2⟩ := h
  exact (Array.getElem?_eq_some_iff.1 h1).1
omit [DecidableEq α] in
theorem KM.grown {w' : World} {row : Option Nat} (h : KM f w b al) (hg : w.grownBy w' row) (hr : row ≠ some b) : KM f w' b al := by
  have hl := h.lt
  obtain ⟨es, c, h1, h2⟩ := h
  exact ⟨es, c, by rw [hg.block b hl (fun e => hr e.symm)]; exact h1, h2⟩
omit [DecidableEq α] in
theorem KM.keeps {w' : World} {base : Nat} {T : List TypeId} (h : KM f w b al) (hk : Keeps base T w w') : KM f w' b al := by
  obtain ⟨es, c, h1, h2⟩ := h
  exact ⟨es, c, hk.other b _ h1 (fun cs t fr e => by cases e), h2⟩
omit [DecidableEq α] in
/-- a row lies in no map -/
theorem own_no_map {base n size : Nat} {e : TypeId} {v : Value} {xs : List Value} (h : w.ownsRow base e size v n xs) (hm : KM f w b al) : v.ownBlock ≠ some b := by
  obtain ⟨es, c, hb, _⟩ := hm
  rcases h.2 with ⟨rfl, _⟩ | ⟨g, cap, cur, rfl, _, hg, _⟩
  · simp [Value.ownBlock]
  · intro e
    simp only [Value.ownBlock, Option.some.injEq] at e
    subst e
    rw [hb] at hg; cases hg
theorem KM.look (h : KM f w b al) (ht : P.underlying t = some (.map K E)) (hk : P.underlying K = some d) (hf : KeyF d f) {z : Value} (hz : (zeroValue E).run P w = .ok z w) (k : α) :
    (Instr.lookup t (.map (some b)) (f k) false).run P w = .ok ((mget al k).getD z) w ∧ (Instr.lookup t (.map (some b)) (f k) true).run P w = .ok (.tuple #[(mget al k).getD z, .bool (mget al k).isSome]) w := by
  obtain ⟨es, c, h1, h2⟩ := h
  have hc := fun em => run_checkKey (w := w) hk (hf.key k) em 9999
  rcases find_km hf k es.toList al 0 h2 with ⟨g1, g2⟩ | ⟨j, e', g1, g2, _⟩
  · have hr := run_findKey (w := w) hk g2
    constructor <;> simp [Instr.lookup, run_underlying ht, MapKept.run_getObj_map h1, hc, hr, hz, g1, Result.andThen]
  · have hr := run_findKey (w := w) hk g2
    constructor <;> simp [Instr.lookup, run_underlying ht, MapKept.run_getObj_map h1, hc, hr, g1, Result.andThen]
theorem KM.put (h : KM f w b al) (ht : P.underlying t = some (.map K E)) (hk : P.underlying K = some d) (hf : KeyF d f) (k : α) (v : Value) :
    ∃ w', (Instr.mapUpdate t (.map (some b)) (f k) v).run P w = .ok () w' ∧ KM f w' b (mput al k v) ∧ w.grownBy w' (some b) ∧ w'.heap.size = w.heap.size := by
  obtain ⟨es, c, h1, h2⟩ := h
  have hc := fun em => run_checkKey (w := w) hk (hf.key k) em 9999
  have grow : ∀ (o : Obj), w.grownBy (setBlock w b o) (some b) := fun o =>
    ⟨rfl, rfl, rfl, by simp [setBlock], fun i _ hi => heap_setBlock_other h1 _ (fun e1 => hi (by rw [e1]))⟩
  rcases find_km hf k es.toList al 0 h2 with ⟨g1, g2⟩ | ⟨j, e', g1, g2, g3, g4, g5⟩
  · have hr := run_findKey (w := w) hk g2
    refine ⟨setBlock w b (.map (es.push ⟨f k, v, c⟩) (c + 1)), ?_, ⟨_, _, heap_setBlock_same h1 _, ?_⟩, grow _, by simp [setBlock]⟩
    · simp [Instr.mapUpdate, run_underlying ht, MapKept.run_getObj_map h1, hc, hr, MapKept.run_setObj_map _ h1, Result.andThen, setBlock]
    · rw [mput_none g1]
      simp [h2, pairE, pairK]
  · have hr := run_findKey (w := w) hk g2
    rw [Nat.zero_add] at hr
    have hks := run_keyThatStays (P := P) (w := w) (hf.key k)
    have hej : es[j]? = some e' := by simpa using g3
    refine ⟨setBlock w b (.map (es.modify j fun e => { e with key := f k, val := v }) c), ?_, ⟨_, _, heap_setBlock_same h1 _, ?_⟩, grow _, by simp [setBlock]⟩
    · simp [Instr.mapUpdate, run_underlying ht, MapKept.run_getObj_map h1, hc, hr, hej, g4, hks, MapKept.run_setObj_map _ h1, Result.andThen, setBlock]
    · rw [← g5 v]
      simp
/-- 'v, ok := m[k]', 'm[k]', 'm[k] = v' at the operation, for the walk -/
theorem wpList_kmlook {w : World} {ops : Array Oper} {rest : List Oper} {o : Oper} {a : Act} {Q : Exit → Act → World → Prop} (hg : o.guard = none) (m x : Operand) (t : TypeId) (hop : o.op = Op.lookup t m x false)
    (b : Nat) (al : List (α × Value)) (h : KM f w b al) (ht : P.underlying t = some (.map K E)) (hk : P.underlying K = some d) (hf : KeyF d f) {z : Value} (hz : (zeroValue E).run P w = .ok z w) (k : α)
    (hm : a.eval m = .map (some b)) (hx : a.eval x = f k) (hK : wpList P ops Q rest (a.put o.dst ((mget al k).getD z)) w) : wpList P ops Q (o :: rest) a w := by
  refine wpList_plain hg fun K' hK' => ?_
  have hrun := (h.look ht hk hf hz k).1
  unfold Oper.wp
  simp [execOp, hop, hm, hx, hrun, Result.andThen]
  exact hK' _ _ hK
theorem wpList_kmlook_ok {w : World} {ops : Array Oper} {rest : List Oper} {o : Oper} {a : Act} {Q : Exit → Act → World → Prop} (hg : o.guard = none) (m x : Operand) (t : TypeId) (hop : o.op = Op.lookup t m x true)
    (b : Nat) (al : List (α × Value)) (h : KM f w b al) (ht : P.underlying t = some (.map K E)) (hk : P.underlying K = some d) (hf : KeyF d f) {z : Value} (hz : (zeroValue E).run P w = .ok z w) (k : α)
    (hm : a.eval m = .map (some b)) (hx : a.eval x = f k) (hK : wpList P ops Q rest (a.put o.dst (.tuple #[(mget al k).getD z, .bool (mget al k).isSome])) w) : wpList P ops Q (o :: rest) a w := by
  refine wpList_plain hg fun K' hK' => ?_
  have hrun := (h.look ht hk hf hz k).2
  unfold Oper.wp
  simp [execOp, hop, hm, hx, hrun, Result.andThen]
  exact hK' _ _ hK
theorem wpList_kmlook_ok' {w : World} {ops : Array Oper} {rest : List Oper} {o : Oper} {a : Act} {Q : Exit → Act → World → Prop} (hg : o.guard = none) (m x : Operand) (t : TypeId) (hop : o.op = Op.lookup t m x true)
    (b : Nat) (al : List (α × Value)) (h : KM f w b al) (ht : P.underlying t = some (.map K E)) (hk : P.underlying K = some d) (hf : KeyF d f) {z : Value} (hz : (zeroValue E).run P w = .ok z w) (k : α)
    (hm : a.eval m = .map (some b)) (hx : a.eval x = f k) (r : Value) (c : Bool) (hr : (mget al k).getD z = r) (hc : (mget al k).isSome = c) (hK : wpList P ops Q rest (a.put o.dst (.tuple #[r, .bool c])) w) : wpList P ops Q (o :: rest) a w := by
  subst hr hc
  exact wpList_kmlook_ok hg m x t hop b al h ht hk hf hz k hm hx hK
theorem wpList_kmlook' {w : World} {ops : Array Oper} {rest : List Oper} {o : Oper} {a : Act} {Q : Exit → Act → World → Prop} (hg : o.guard = none) (m x : Operand) (t : TypeId) (hop : o.op = Op.lookup t m x false)
    (b : Nat) (al : List (α × Value)) (h : KM f w b al) (ht : P.underlying t = some (.map K E)) (hk : P.underlying K = some d) (hf : KeyF d f) {z : Value} (hz : (zeroValue E).run P w = .ok z w) (k : α)
    (hm : a.eval m = .map (some b)) (hx : a.eval x = f k) (r : Value) (hr : (mget al k).getD z = r) (hK : wpList P ops Q rest (a.put o.dst r) w) : wpList P ops Q (o :: rest) a w := by
  subst hr
  exact wpList_kmlook hg m x t hop b al h ht hk hf hz k hm hx hK
theorem wpList_kmput {w : World} {ops : Array Oper} {rest : List Oper} {o : Oper} {a : Act} {Q : Exit → Act → World → Prop} (hg : o.guard = none) (m x v : Operand) (t : TypeId) (hop : o.op = Op.mapUpdate t m x v)
    (b : Nat) (al : List (α × Value)) (h : KM f w b al) (ht : P.underlying t = some (.map K E)) (hk : P.underlying K = some d) (hf : KeyF d f) (k : α) (val : Value)
    (hm : a.eval m = .map (some b)) (hx : a.eval x = f k) (hv : a.eval v = val) (hK : ∀ w', KM f w' b (mput al k val) → w.grownBy w' (some b) → wpList P ops Q rest (a.put o.dst undef) w') : wpList P ops Q (o :: rest) a w := by
  refine wpList_plain hg fun K' hK' => ?_
  obtain ⟨w', hrun, r1, r2, _⟩ := h.put ht hk hf k val
  unfold Oper.wp
  simp [execOp, hop, hm, hx, hv, hrun, Result.andThen]
  exact hK' _ _ (hK w' r1 r2)
theorem wpList_kmins {w : World} {ops : Array Oper} {rest : List Oper} {o : Oper} {a : Act} {Q : Exit → Act → World → Prop} (hg : o.guard = none) (m x v : Operand) (t : TypeId) (hop : o.op = Op.insert t m x v)
    (b : Nat) (al : List (α × Value)) (h : KM f w b al) (ht : P.underlying t = some (.map K E)) (hk : P.underlying K = some d) (hf : KeyF d f) (k : α) (val : Value)
    (hm : a.eval m = .map (some b)) (hx : a.eval x = f k) (hv : a.eval v = val) (hK : ∀ w', KM f w' b (mput al k val) → w.grownBy w' (some b) → wpList P ops Q rest (a.put o.dst undef) w') : wpList P ops Q (o :: rest) a w := by
  refine wpList_plain hg fun K' hK' => ?_
  obtain ⟨w', hrun, r1, r2, _⟩ := h.put ht hk hf k val
  unfold Oper.wp
  simp [execOp, hop, hm, hx, hv, hrun, Result.andThen]
  exact hK' _ _ (hK w' r1 r2)
end
theorem keyF_bool : KeyF .bool (fun x : Bool => Value.bool x) := ⟨fun a => trivial, fun a b h => by injection h⟩
end Go.Proofs.YtdoegpklephelaaGreatDoor

/- reading, with what the form's reach (or a bulk) gives of whatever lies deeper. -/
namespace Go.Proofs.YtdoegpklephelaaGreatDoor
open Go Go.RowKit Go.ChangeShapes Go.WideShapes Go.ChangeAt Go.Proofs.YtdoegpklephelaaGreatDoor.Name Go.Proofs.YtdoegpklephelaaGreatDoor.Merge
set_option linter.unusedVariables false

/-- what is inherited: M holds of what lies in what M holds of; K: so many of so many bytes -/
structure Her {H : Type} (P : Program) (M : TypeId → DataW H → Prop) (K : Nat → Nat → Prop) : Prop where
  slice : ∀ {t e : TypeId} {es sp : List (DataW H)}, P.underlying t = some (.slice e) → M t (.slice es sp) → (∀ d ∈ es, M e d) ∧ K es.length (P.bytesOf e)
  agg : ∀ {t : TypeId} {fs : Array Field} {ps : List (DataW H)}, P.underlying t = some (.struct fs) → M t (.agg ps) → ∀ (j : Nat) (f : Field) (d : DataW H), fs[j]? = some f → ps[j]? = some d → M f.type d
  zero : ∀ b, K 0 b
def sizedM {H : Type} (P : Program) (t : TypeId) (d : DataW H) : Prop := (d.weights P t).all (· ≤ reachBytes) = true
def sizedK (n b : Nat) : Prop := n * b ≤ 140737488351232
theorem weights_all {H : Type} {P : Program} {e : TypeId} : ∀ {es : List (DataW H)} {d : DataW H}, d ∈ es → ∀ n ∈ d.weights P e, n ∈ DataW.weightsAll P e es
  | x :: es, d, hd, n, hn => by
    simp only [DataW.weightsAll, List.mem_append]
    rcases List.mem_cons.1 hd with rfl | hd
    · exact .inl hn
    · exact .inr (weights_all hd n hn)
theorem her_sized {H : Type} (P : Program) : Her (H := H) P (sizedM P) sizedK where
  slice := by
    intro t e es sp ht h
    unfold sizedM at *
    rw [List.all_eq_true] at h
    refine ⟨fun d hd => ?_, ?_⟩
    · rw [List.all_eq_true]
      intro n hn
      exact h n (by simp only [DataW.weights, ht, List.mem_cons, List.mem_append]; exact .inr (.inl (weights_all hd n hn)))
    · have := h ((es.length + sp.length) * P.bytesOf e) (by simp [DataW.weights, ht])
      rw [decide_eq_true_iff, Nat.add_mul] at this
      have hr : reachBytes = 140737488351232 := by decide
      unfold sizedK
      omega
  agg := by
    intro t fs ps ht h j f d hj hd
    unfold sizedM at *
    rw [List.all_eq_true] at h ⊢
    intro n hn
    refine h n ?_
    simp only [DataW.weights, ht]
    exact DataW.weights_mem_each (ts := fs.toList.map (·.type)) (j := j) (by simp [hj]) hd n hn
  zero := fun b => by unfold sizedK; omega
/-- reading, under M -/
def RdM {α : Type} (H : Type) (enc : TypeId × Value → H) (P : Program) (w : World) (M : TypeId → DataW H → Prop) (t : TypeId) (cells : α → List Value) (deep : α → Prop) : Prop :=
  ∀ (base : Nat) (spare : Nat → Bool) (held : Bool) (fuel : Nat) (cs : List Value) (x : DataW H × List MemPlace), DataW.trod enc P w base spare held fuel t cs = some x → M t x.1 → ∃ a, cs = cells a ∧ deep a
theorem Rd.m {α : Type} {H : Type} {enc : TypeId × Value → H} {P : Program} {w : World} {M : TypeId → DataW H → Prop} {t : TypeId} {cells : α → List Value} {deep : α → Prop} (h : Rd H enc P w t cells deep) : RdM H enc P w M t cells deep :=
  fun base spare held fuel cs x hx _ => h base spare held fuel cs x hx
section
variable {H : Type} {enc : TypeId × Value → H} {P : Program} {w : World} {M : TypeId → DataW H → Prop} {K : Nat → Nat → Prop}
theorem rdM_slice {α : Type} [Inhabited α] {t e : TypeId} {cells : α → List Value} {deep : α → Prop} {size : Nat} (ht : P.underlying t = some (.slice e)) (hsz : P.cellsOf e = size) (hpos : 0 < size) (hc : ∀ a, (cells a).length = size) (hH : Her P M K) (he : RdM H enc P w M e cells deep)
    {base : Nat} {spare : Nat → Bool} {held : Bool} {fuel : Nat} {cs : List Value} {x : DataW H × List MemPlace} (h : DataW.trod enc P w base spare held fuel t cs = some x) (hM : M t x.1) :
    ∃ s : SlV α, cs = slCells s ∧ slDeep w cells deep s ∧ K s.l.length (P.bytesOf e) := by
  rcases Deep.open_slice ht h with ⟨rfl, rfl⟩ | ⟨a, len, cap, m, n, D, Pl, rfl, hb, hl, hm, hmm, rfl, hel⟩
  · exact ⟨⟨none, 0, []⟩, rfl, ⟨Nat.le_refl _, (by show (0 : Nat) ≤ maxLen; unfold maxLen; omega), SlAt.nil, fun _ => rfl, fun a ha => by simp at ha⟩, hH.zero _⟩
  · rw [hsz] at hel
    have hlm : len ≤ m := by rw [hmm]; split <;> omega
    obtain ⟨f, hf⟩ := Deep.choose_lt (α := α) (p := fun i a => w.cells? base (Addr.add ‹Addr› (i * size)) size = some (cells a) ∧ deep a) (n := len) (fun i hi => by
      obtain ⟨cs', h1, h2⟩ := hel i (by omega)
      obtain ⟨a', rfl, hd⟩ := he _ _ _ _ _ _ h2 ((hH.slice ht hM).1 _ (List.mem_map_of_mem (List.mem_range.2 hi)))
      exact ⟨a', h1, hd⟩)
    refine ⟨⟨some a, cap, (List.range len).map f⟩, by simp [slCells], ⟨by simpa using hl, hm, ?_, by simp, ?_⟩, by have := (hH.slice ht hM).2; simpa using this⟩
    · intro hp
      have hlen : 0 < len := by
        rcases Nat.eq_zero_or_pos len with h0 | h0
        · subst h0; simp at hp
        · exact h0
      obtain ⟨b, o, s⟩ := a
      have hs : s = none := by
        obtain ⟨h1, _⟩ := hf 0 hlen
        obtain ⟨h2, h3⟩ := cells_some h1
        have := h3 0 ((cells (f 0))[0]'(by rw [hc]; exact hpos)) (by simp)
        simp [Addr.add] at this
        exact cell_spot this
      subst hs
      refine ⟨b, o, rfl, fun j v hj => ?_⟩
      obtain ⟨a', h1, h2⟩ := flat_get cells size hc hpos _ _ _ hj
      have hjl : j / size < len := by
        have : j / size < ((List.range len).map f).length := by
          rcases Nat.lt_or_ge (j / size) ((List.range len).map f).length with h | h
          · exact h
          · rw [List.getElem?_eq_none h] at h1; cases h1
        simpa using this
      have ha' : f (j / size) = a' := by simpa [hjl] using h1
      obtain ⟨h3, _⟩ := hf _ hjl
      rw [ha', addr_add] at h3
      obtain ⟨_, h4⟩ := cells_some h3
      have h5 := h4 _ _ h2
      rw [addr_add] at h5
      rw [← h5]
      congr 2
      have := Nat.div_add_mod j size
      rw [Nat.mul_comm] at this
      omega
    · intro a' ha'
      simp at ha'
      obtain ⟨i, hi, rfl⟩ := ha'
      exact (hf i hi).2
theorem rdM_bytes {t e : TypeId} (hH : Her P M K) (ht : P.underlying t = some (.slice e)) (he : P.underlying e = some (.int .u8)) (hc : P.cellsOf e = 1) :
    RdM H enc P w M t (fun p : Value × List UInt8 => [p.1]) (fun p => IsBytes w p.1 p.2 ∧ K p.2.length (P.bytesOf e)) := by
  intro base spare held fuel cs x h hM
  obtain ⟨A, len, cap, hcs⟩ : ∃ A len cap, cs = [Value.slice A len cap] := by
    rcases open_ints ht he hc h with ⟨hcs, _⟩ | ⟨x, l, c, zs, hcs, _⟩
    · exact ⟨_, _, _, hcs⟩
    · exact ⟨_, _, _, hcs⟩
  subst hcs
  obtain ⟨d, ps⟩ := x
  obtain ⟨xs, hx, hl⟩ := open_bytes_dlen (enc := enc) ht he hc h
  refine ⟨(_, xs), rfl, hx, ?_⟩
  rw [← hl]
  dsimp only at hM
  cases d with
  | slice es sp => exact (hH.slice ht hM).2
  | _ => exact hH.zero _
end
namespace Worlds
/-- how many files, how many bytes of each -/
def FsK (K : Nat → Nat → Prop) (l : List Fx) : Prop := K l.length 64 ∧ ∀ x ∈ l, K x.1.bytes.length 1
structure WdK (K : Nat → Nat → Prop) (x : Wx) : Prop where
  nodes : K x.nodes.length 24
  node : ∀ n ∈ x.nodes, FsK K n.2
  clock : K x.clock.length 8
  net : K x.net.length 32
  ms : ∀ m ∈ x.net, FsK K m.2.2
section
variable {H : Type} {enc : TypeId × Value → H} {w : World} {M : TypeId → DataW H → Prop} {K : Nat → Nat → Prop}
set_option maxRecDepth 100000 in
theorem rdM_file (hH : Her Tryz.prog M K) : RdM H enc Tryz.prog w M 49 fC (fun x => FileAt w x ∧ K x.1.bytes.length 1) := by
  intro base spare held fuel cs x h hM
  obtain ⟨xs, m, _, hxx, hl, hxl, hf⟩ := DataW.trod_struct Tryz.underlying49 h
  rw [hxx] at hM
  have hc : Tryz.prog.cellsOf 49 = 5 := by kernel_rfl
  have c1 : Tryz.prog.cellsOf 9 = 1 := by kernel_rfl
  have c2 : Tryz.prog.cellsOf 27 = 1 := by kernel_rfl
  have c3 : Tryz.prog.cellsOf 3 = 1 := by kernel_rfl
  have c4 : Tryz.prog.cellsOf 4 = 1 := by kernel_rfl
  have c5 : Tryz.prog.cellsOf 5 = 1 := by kernel_rfl
  rw [hc] at hl
  obtain ⟨a, b, c, d, e, rfl⟩ := len5 hl
  obtain ⟨y0, y1, y2, y3, y4, rfl⟩ := len5 (show xs.length = 5 from hxl)
  have h0 : DataW.trod enc Tryz.prog w base spare held m 9 (List.take (Tryz.prog.cellsOf 9) (List.drop 0 [a, b, c, d, e])) = some y0 := hf 0 _ rfl
  have h1 : DataW.trod enc Tryz.prog w base spare held m 27 (List.take (Tryz.prog.cellsOf 27) (List.drop 1 [a, b, c, d, e])) = some y1 := hf 1 _ rfl
  have h2 : DataW.trod enc Tryz.prog w base spare held m 3 (List.take (Tryz.prog.cellsOf 3) (List.drop 2 [a, b, c, d, e])) = some y2 := hf 2 _ rfl
  have h3 : DataW.trod enc Tryz.prog w base spare held m 3 (List.take (Tryz.prog.cellsOf 3) (List.drop 3 [a, b, c, d, e])) = some y3 := hf 3 _ rfl
  have h4 : DataW.trod enc Tryz.prog w base spare held m 4 (List.take (Tryz.prog.cellsOf 4) (List.drop 4 [a, b, c, d, e])) = some y4 := hf 4 _ rfl
  rw [c1] at h0
  rw [c2] at h1
  rw [c3] at h2 h3
  rw [c4] at h4
  simp only [List.drop_zero, List.drop_succ_cons, List.take_succ_cons, List.take_zero] at h0 h1 h2 h3 h4
  obtain ⟨s, q0, w0⟩ := rd_string Tryz.underlying9 _ _ _ _ _ _ h0
  obtain ⟨p, q1, w1, k1⟩ := rdM_bytes hH Tryz.underlying27 Tryz.underlying5 c5 _ _ _ _ _ _ h1 (hH.agg Tryz.underlying49 hM 1 _ _ rfl rfl)
  obtain ⟨n2, q2, w2⟩ := rd_int Tryz.underlying3 _ _ _ _ _ _ h2
  obtain ⟨n3, q3, w3⟩ := rd_int Tryz.underlying3 _ _ _ _ _ _ h3
  obtain ⟨n4, q4, _⟩ := rd_bool Tryz.underlying4 _ _ _ _ _ _ h4
  injection q0 with q0 _
  injection q1 with q1 _
  injection q2 with q2 _
  injection q3 with q3 _
  injection q4 with q4 _
  obtain ⟨v, bs⟩ := p
  obtain ⟨sl, hv, s1, s2, s3, s4⟩ := bytes_slice w1
  simp only at q1 hv
  subst q0 q1 q2 q3 q4 hv
  exact ⟨(⟨s.data.toList, bs, n2, n3, n4⟩, sl), by simp [fC, strB_back], ⟨s1, s2, s3, s4, by simpa using w0, w2, w3⟩, (by have hb : Tryz.prog.bytesOf 5 = 1 := (by kernel_rfl); rw [hb] at k1; exact k1)⟩
set_option maxRecDepth 100000 in
theorem rdM_files (hH : Her Tryz.prog M K) : RdM H enc Tryz.prog w M 46 nC (fun x => NodeAt w x ∧ FsK K x.2) := by
  intro base spare held fuel cs x h hM
  obtain ⟨s, h1, ⟨g1, g2, g3, g4, g5⟩, h3⟩ := rdM_slice Tryz.underlying46 (show Tryz.prog.cellsOf 49 = 5 by kernel_rfl) (by omega) fC_len hH (rdM_file (w := w) hH) h hM
  have hb : Tryz.prog.bytesOf 49 = 64 := by kernel_rfl
  rw [hb] at h3
  exact ⟨((s.A, s.l.length, s.cap), s.l), by rw [h1]; rfl, ⟨s.A, s.cap, rfl, g1, g2, g3, g4, fun a ha => (g5 a ha).1⟩, h3, fun a ha => (g5 a ha).2⟩
set_option maxRecDepth 100000 in
theorem rdM_msg (hH : Her Tryz.prog M K) : RdM H enc Tryz.prog w M 54 mC (fun x => MsAt w x ∧ FsK K x.2.2) := by
  intro base spare held fuel cs x h hM
  obtain ⟨xs, m, _, hxx, hl, hxl, hf⟩ := DataW.trod_struct Tryz.underlying54 h
  rw [hxx] at hM
  have hc : Tryz.prog.cellsOf 54 = 2 := by kernel_rfl
  have c1 : Tryz.prog.cellsOf 3 = 1 := by kernel_rfl
  have c2 : Tryz.prog.cellsOf 46 = 1 := by kernel_rfl
  rw [hc] at hl
  match cs, xs, hl, (show xs.length = 2 from hxl) with
  | [a, b], [y0, y1], _, _ =>
    have h0 : DataW.trod enc Tryz.prog w base spare held m 3 (List.take (Tryz.prog.cellsOf 3) (List.drop 0 [a, b])) = some y0 := hf 0 _ rfl
    have h1 : DataW.trod enc Tryz.prog w base spare held m 46 (List.take (Tryz.prog.cellsOf 46) (List.drop 1 [a, b])) = some y1 := hf 1 _ rfl
    rw [c1] at h0
    rw [c2] at h1
    simp only [List.drop_zero, List.drop_succ_cons, List.take_succ_cons, List.take_zero] at h0 h1
    obtain ⟨n, q0, w0⟩ := rd_int Tryz.underlying3 _ _ _ _ _ _ h0
    obtain ⟨p, q1, w1, k1⟩ := rdM_files hH _ _ _ _ _ _ h1 (hH.agg Tryz.underlying54 hM 1 _ _ rfl rfl)
    injection q0 with q0 _
    injection q1 with q1 _
    subst q0 q1
    exact ⟨(n, p), rfl, ⟨w0, w1⟩, k1⟩
set_option maxRecDepth 100000 in
theorem rdM_isL {α : Type} [Inhabited α] {t e : TypeId} {cells : α → List Value} {deep : α → Prop} {size : Nat} (ht : Tryz.prog.underlying t = some (.slice e)) (hsz : Tryz.prog.cellsOf e = size) (hpos : 0 < size) (hc : ∀ a, (cells a).length = size) (hH : Her Tryz.prog M K) (he : RdM H enc Tryz.prog w M e cells deep) :
    RdM H enc Tryz.prog w M t (fun p : Value × List α => [p.1]) (fun p => IsL w cells deep p.1 p.2 ∧ K p.2.length (Tryz.prog.bytesOf e)) := by
  intro base spare held fuel cs x h hM
  obtain ⟨s, h1, h2, h3⟩ := rdM_slice ht hsz hpos hc hH he h hM
  exact ⟨(.slice s.A s.l.length s.cap, s.l), by rw [h1]; rfl, ⟨s.A, s.cap, rfl, h2⟩, h3⟩
set_option maxRecDepth 100000 in
theorem rdM_world (hH : Her Tryz.prog M K) : RdM H enc Tryz.prog w M 26 wC (fun x => IsWorld w x ∧ WdK K x) := by
  intro base spare held fuel cs x h hM
  obtain ⟨xs, m, _, hxx, hl, hxl, hf⟩ := DataW.trod_struct Tryz.underlying26 h
  rw [hxx] at hM
  have hc : Tryz.prog.cellsOf 26 = 3 := by kernel_rfl
  have c1 : Tryz.prog.cellsOf 22 = 1 := by kernel_rfl
  have c2 : Tryz.prog.cellsOf 23 = 1 := by kernel_rfl
  have c3 : Tryz.prog.cellsOf 24 = 1 := by kernel_rfl
  rw [hc] at hl
  match cs, xs, hl, (show xs.length = 3 from hxl) with
  | [a, b, c], [y0, y1, y2], _, _ =>
    have h0 : DataW.trod enc Tryz.prog w base spare held m 22 (List.take (Tryz.prog.cellsOf 22) (List.drop 0 [a, b, c])) = some y0 := hf 0 _ rfl
    have h1 : DataW.trod enc Tryz.prog w base spare held m 23 (List.take (Tryz.prog.cellsOf 23) (List.drop 1 [a, b, c])) = some y1 := hf 1 _ rfl
    have h2 : DataW.trod enc Tryz.prog w base spare held m 24 (List.take (Tryz.prog.cellsOf 24) (List.drop 2 [a, b, c])) = some y2 := hf 2 _ rfl
    rw [c1] at h0
    rw [c2] at h1
    rw [c3] at h2
    simp only [List.drop_zero, List.drop_succ_cons, List.take_succ_cons, List.take_zero] at h0 h1 h2
    obtain ⟨p, q0, ⟨A0, c0, e0, u01, u02, u03, u04, u05⟩, k0⟩ := rdM_isL Tryz.underlying22 (by kernel_rfl) (by omega) nC_len hH (rdM_files hH) _ _ _ _ _ _ h0 (hH.agg Tryz.underlying26 hM 0 _ _ rfl rfl)
    obtain ⟨q, q1, w1, k1⟩ := rdM_isL Tryz.underlying23 (by kernel_rfl) (by omega) intC_len hH (Rd.m (rd_i64 Tryz.underlying3)) _ _ _ _ _ _ h1 (hH.agg Tryz.underlying26 hM 1 _ _ rfl rfl)
    obtain ⟨r, q2, ⟨A2, c2', e2, u21, u22, u23, u24, u25⟩, k2⟩ := rdM_isL Tryz.underlying24 (by kernel_rfl) (by omega) mC_len hH (rdM_msg hH) _ _ _ _ _ _ h2 (hH.agg Tryz.underlying26 hM 2 _ _ rfl rfl)
    injection q0 with q0 _
    injection q1 with q1 _
    injection q2 with q2 _
    subst q0 q1 q2
    have b0 : Tryz.prog.bytesOf 46 = 24 := by kernel_rfl
    have b1 : Tryz.prog.bytesOf 3 = 8 := by kernel_rfl
    have b2 : Tryz.prog.bytesOf 54 = 32 := by kernel_rfl
    rw [b0] at k0
    rw [b1] at k1
    rw [b2] at k2
    exact ⟨⟨p.1, p.2, q.1, q.2, r.1, r.2⟩, rfl, ⟨⟨A0, c0, e0, u01, u02, u03, u04, fun a ha => (u05 a ha).1⟩, w1, ⟨A2, c2', e2, u21, u22, u23, u24, fun a ha => (u25 a ha).1⟩⟩, ⟨k0, fun a ha => (u05 a ha).2, k1, k2, fun a ha => (u25 a ha).2⟩⟩
set_option maxRecDepth 100000 in
theorem openM_files (hH : Her Tryz.prog M K) {base b0 : Nat} {spare : Nat → Bool} {held : Bool} {r : Reach} {v : Value} {d : DataW H} {ps : List MemPlace} (hv : Value.okWide Tryz.prog w r b0 46 v) (h : DataW.Trod enc Tryz.prog w base spare held 46 v d ps) (hM : M 46 d) :
    ∃ l : List Fx, IsFiles w v l ∧ FsK K l := by
  obtain ⟨A, len, cap, rfl⟩ := okWide_slice Tryz.underlying46 hv
  obtain ⟨fuel, hf⟩ := h
  obtain ⟨⟨s, l⟩, h1, h2, h3⟩ := rdM_files hH _ _ _ _ _ _ hf hM
  refine ⟨l, ?_, h3⟩
  have : Value.slice A len cap = slv s := by simpa [Value.cells, nC] using h1
  rw [this]; exact h2
set_option maxRecDepth 100000 in
theorem openM_world (hH : Her Tryz.prog M K) {base b0 : Nat} {spare : Nat → Bool} {held : Bool} {r : Reach} {v : Value} {d : DataW H} {ps : List MemPlace} (hv : Value.okWide Tryz.prog w r b0 26 v) (h : DataW.Trod enc Tryz.prog w base spare held 26 v d ps) (hM : M 26 d) :
    ∃ a : Wx, v = wV a ∧ IsWorld w a ∧ WdK K a := by
  have hv2 := hv
  simp only [Value.okWide, Tryz.underlying26] at hv2
  obtain ⟨cs, rfl, _, _⟩ := hv2
  obtain ⟨fuel, hf⟩ := h
  obtain ⟨a, h1, h2, h3⟩ := rdM_world hH _ _ _ _ _ _ hf hM
  refine ⟨a, ?_, h2, h3⟩
  simp only [Value.cells] at h1
  unfold wV
  unfold wC at h1
  rw [show cs = #[a.vn, a.vc, a.vt] from by rw [← h1]]
end
/-- of an argument -/
theorem sizedM_arg {H : Type} {P : Program} {ts : List TypeId} {ds : List (DataW H)} (h : (DataW.weightsEach P ts ds).all (· ≤ reachBytes) = true) {j : Nat} {t : TypeId} {d : DataW H} (ht : ts[j]? = some t) (hd : ds[j]? = some d) : sizedM P t d := by
  unfold sizedM
  rw [List.all_eq_true] at h ⊢
  exact fun n hn => h n (DataW.weights_mem_each ht hd n hn)
end Worlds
end Go.Proofs.YtdoegpklephelaaGreatDoor

/- reliquaryref: Later. -/
namespace Go.Proofs.YtdoegpklephelaaGreatDoor.Merge
open Go Go.RowKit Go.Proofs.YtdoegpklephelaaGreatDoor Go.Proofs.YtdoegpklephelaaGreatDoor.Name
set_option linter.unusedVariables false

theorem ci_gt' {x y : Int} (h : y < x) : ci x y = 1 := by unfold ci Lib.compareInt; rw [if_neg (by omega), if_pos (by omega)]
theorem ci_lt' {x y : Int} (h : x < y) : ci x y = -1 := by unfold ci Lib.compareInt; rw [if_pos h]
theorem later_1 {a b : Fl} {z : Int} (h : ci a.stamp b.stamp = z) (hz : z ≠ 0) : later a b = z := by unfold later orI; rw [if_pos (by rw [h]; exact hz), h]
theorem later_2 {a b : Fl} {z : Int} (h1 : a.stamp = b.stamp) (h : ci a.node b.node = z) (hz : z ≠ 0) : later a b = z := by
  unfold later orI; rw [if_neg (by rw [ci_zero.2 h1]; simp), if_pos (by rw [h]; exact hz), h]
theorem later_3 {a b : Fl} {z : Int} (h1 : a.stamp = b.stamp) (h2 : a.node = b.node) (h : ci (gi a.gone) (gi b.gone) = z) (hz : z ≠ 0) : later a b = z := by
  unfold later orI; rw [if_neg (by rw [ci_zero.2 h1]; simp), if_neg (by rw [ci_zero.2 h2]; simp), if_pos (by rw [h]; exact hz), h]
theorem later_4 {a b : Fl} (h1 : a.stamp = b.stamp) (h2 : a.node = b.node) (h3 : gi a.gone = gi b.gone) : later a b = cb a.bytes b.bytes := by
  unfold later orI; rw [if_neg (by rw [ci_zero.2 h1]; simp), if_neg (by rw [ci_zero.2 h2]; simp), if_neg (by rw [ci_zero.2 h3]; simp)]
theorem mget_gone (g : Bool) : (mget (mput ([] : List (Bool × Value)) true (.int .i64 1)) g).getD (.int .i64 0) = .int .i64 (gi g) := by cases g <;> rfl
theorem zeroB (w : World) : (zeroValue 3).run Tryz.prog w = .ok (.int .i64 0) w := by kernel_rfl
set_option maxRecDepth 100000 in
set_option maxHeartbeats 4000000 in
theorem refLater_any (x y : Fx) (w : World) (hx : FileAt w x) (hy : FileAt w y) :
    Calls Tryz.prog 36 #[fV x, fV y] w fun e w' => e = .returned (.int .i64 (later x.1 y.1)) ∧ Below w.heap.size w w' := by
  obtain ⟨⟨n1, b1, s1, d1, g1⟩, A1, l1, c1⟩ := x
  obtain ⟨⟨n2, b2, s2, d2, g2⟩, A2, l2, c2⟩ := y
  have Hx := Lib.hid hx
  have Hy := Lib.hid hy
  clear hx hy
  unfold fV slv
  dsimp only
  obtain ⟨R, hR⟩ : ∃ R, R = later (⟨n1, b1, s1, d1, g1⟩ : Fl) ⟨n2, b2, s2, d2, g2⟩ := ⟨_, rfl⟩
  have HR := Lib.hid hR
  rw [← hR]
  have hl1 : l1 = b1.length := Hx.out.len
  have hl2 : l2 = b2.length := Hy.out.len
  have Hl1 := Lib.hid hl1
  have Hl2 := Lib.hid hl2
  obtain ⟨w2, hw2⟩ : ∃ w2, w2 = (w.alloc (.cells #[.string (strB n1), .slice A1 l1 c1, .int .i64 s1, .int .i64 d1, .bool g1] 49)).alloc (.cells #[.string (strB n2), .slice A2 l2 c2, .int .i64 s2, .int .i64 d2, .bool g2] 49) := ⟨_, rfl⟩
  obtain ⟨gx, hgx⟩ : ∃ g, g = w.heap.size := ⟨_, rfl⟩
  have hb2 : Below w.heap.size w w2 := by rw [hw2]; exact ((Below.refl _ _).alloc (Nat.le_refl _) _).alloc (by simp) _
  have B1 : Blk w2 gx 49 #[.string (strB n1), .slice A1 l1 c1, .int .i64 s1, .int .i64 d1, .bool g1] := by rw [hw2, hgx]; exact (Blk.new _ _ _).alloc _
  have B2 : Blk w2 (gx + 1) 49 #[.string (strB n2), .slice A2 l2 c2, .int .i64 s2, .int .i64 d2, .bool g2] := by
    rw [hw2, hgx]
    have := Blk.new (w.alloc (.cells #[.string (strB n1), .slice A1 l1 c1, .int .i64 s1, .int .i64 d1, .bool g1] 49)) 49 #[.string (strB n2), .slice A2 l2 c2, .int .i64 s2, .int .i64 d2, .bool g2]
    simpa using this
  obtain ⟨w3, hw3⟩ : ∃ w3, w3 = w2.alloc (.map #[] 0) := ⟨_, rfl⟩
  obtain ⟨gm, hgm⟩ : ∃ g, g = w2.heap.size := ⟨_, rfl⟩
  have hb3 : Below w2.heap.size w2 w3 := by rw [hw3]; exact (Below.refl _ _).alloc (Nat.le_refl _) _
  have hgmx : gm = gx + 2 := by rw [hgm, hgx, hw2]; simp
  have HK3 : Hid (KM (fun x : Bool => Value.bool x) w3 gm []) := Lib.hid (by rw [hw3, hgm]; exact KM.made _ _)
  have Hb3 : Hid (Below w.heap.size w w3) := Lib.hid (hb2.trans (hb3.mono hb2.size))
  have HB1 := Lib.hid (B1.below hb3 B1.lt)
  have HB2 := Lib.hid (B2.below hb3 B2.lt)
  have Hw3 : Hid (((w.alloc (.cells #[.string (strB n1), .slice A1 l1 c1, .int .i64 s1, .int .i64 d1, .bool g1] 49)).alloc (.cells #[.string (strB n2), .slice A2 l2 c2, .int .i64 s2, .int .i64 d2, .bool g2] 49)).alloc (.map #[] 0) = w3) := Lib.hid (by rw [hw3, hw2])
  have Hgx := Lib.hid hgx.symm
  have Hgm : Hid (gx + 2 = gm) := Lib.hid hgmx.symm
  have Hgg : Hid (gm ≠ gx ∧ gm ≠ gx + 1) := Lib.hid (by omega)
  clear hl1 hl2 hw2 hw3 hgm hb2 hb3 B1 B2 hgx hgmx hR
  obtain ⟨w4, hrun, hk4, hg4, hsz4⟩ := HK3.out.put (P := Tryz.prog) (t := 91) Tryz.underlying91 Tryz.underlying4 keyF_bool true (.int .i64 1)
  have Hrun := Lib.hid hrun
  have Hb4 : Hid (Below w.heap.size w w4) := Lib.hid (Hb3.out.trans ⟨hg4.os, hg4.tape, hg4.output, hg4.size, fun k hk => hg4.block k (by have := Hb3.out.size; omega) (by have h1 := Hgx.out; have h2 := Hgm.out; intro e; injection e with e; omega)⟩)
  have HB14 := Lib.hid (HB1.out.grown hg4 (by intro e; injection e with e; exact Hgg.out.1 e))
  have HB24 := Lib.hid (HB2.out.grown hg4 (by intro e; injection e with e; exact Hgg.out.2 e))
  have hlo1 := (hk4.look (P := Tryz.prog) (t := 91) Tryz.underlying91 Tryz.underlying4 keyF_bool (zeroB _) g1).1
  have hlo2 := (hk4.look (P := Tryz.prog) (t := 91) Tryz.underlying91 Tryz.underlying4 keyF_bool (zeroB _) g2).1
  rw [mget_gone] at hlo1 hlo2
  have a2 : w4.cell? ⟨gx, 2, none⟩ = some (.int .i64 s1) := by rw [HB14.out.cell]; rfl
  have a3 : w4.cell? ⟨gx, 3, none⟩ = some (.int .i64 d1) := by rw [HB14.out.cell]; rfl
  have a4 : w4.cell? ⟨gx, 4, none⟩ = some (.bool g1) := by rw [HB14.out.cell]; rfl
  have b2_ : w4.cell? ⟨gx + 1, 2, none⟩ = some (.int .i64 s2) := by rw [HB24.out.cell]; rfl
  have b3_ : w4.cell? ⟨gx + 1, 3, none⟩ = some (.int .i64 d2) := by rw [HB24.out.cell]; rfl
  have b4_ : w4.cell? ⟨gx + 1, 4, none⟩ = some (.bool g2) := by rw [HB24.out.cell]; rfl
  obtain ⟨z1, hz1⟩ : ∃ z, z = gi g1 := ⟨_, rfl⟩
  obtain ⟨z2, hz2⟩ : ∃ z, z = gi g2 := ⟨_, rfl⟩
  rw [← hz1] at hlo1
  rw [← hz2] at hlo2
  have Hz1 := Lib.hid hz1
  have Hz2 := Lib.hid hz2
  obtain ⟨w5, hw5⟩ : ∃ w5, w5 = w4.alloc (.cells #[.int .i64 s1, .int .i64 s2, .int .i64 d1, .int .i64 d2, .int .i64 z1, .int .i64 z2] 92) := ⟨_, rfl⟩
  obtain ⟨gs, hgs⟩ : ∃ g, g = w4.heap.size := ⟨_, rfl⟩
  have hb5 : Below w4.heap.size w4 w5 := by rw [hw5]; exact (Below.refl _ _).alloc (Nat.le_refl _) _
  have HB5 := Lib.hid (show Blk w5 gs 92 #[.int .i64 s1, .int .i64 s2, .int .i64 d1, .int .i64 d2, .int .i64 z1, .int .i64 z2] by rw [hw5, hgs]; exact Blk.new _ _ _)
  have Hb5 := Lib.hid (Hb4.out.trans (hb5.mono Hb4.out.size))
  have HB15 := Lib.hid (HB14.out.below hb5 HB14.out.lt)
  have HB25 := Lib.hid (HB24.out.below hb5 HB24.out.lt)
  have Hw5 := Lib.hid hw5.symm
  have Hgs := Lib.hid hgs.symm
  have Hx5 := Lib.hid (Hx.out.below Hb5.out)
  have Hy5 := Lib.hid (Hy.out.below Hb5.out)
  clear hrun hk4 hg4 hsz4 hz1 hz2 hw5 hgs hb5 Hx Hy
  have hmm := @run_makeMap Tryz.prog
  go_enter Tryz.func36, Tryz.ntmps36
  go_wp2_with fail
  rw [Hw3.out, Hgx.out, show gx + 1 + 1 = gm from Hgm.out, Hrun.out]
  clear hmm
  go_wp2_with fail
  rw [Hw5.out, Hgs.out]
  clear a2 a3 a4 b2_ b3_ b4_ hlo1 hlo2
  go_loopw [31] (fun vi wr => ∃ k : Nat, k ≤ 3 ∧ vi = .int .i64 (k : Int) ∧ (1 ≤ k → s1 = s2) ∧ (2 ≤ k → d1 = d2) ∧ (3 ≤ k → z1 = z2) ∧ Below w5.heap.size w5 wr) (fun vi _ => 3 - (intOf vi).toNat)
  case atStart => exact ⟨0, Nat.zero_le _, rfl, by omega, by omega, by omega, Below.refl _ _⟩
  case round =>
    obtain ⟨k, hk, rfl, h1, h2, h3, hb⟩ := hrel
    have H1 := Lib.hid h1
    have H2 := Lib.hid h2
    have H3 := Lib.hid h3
    have Hb := Lib.hid hb
    have HBr := Lib.hid (HB5.out.below hb HB5.out.lt)
    have cc0 : wr.cell? ⟨gs, 0, none⟩ = some (.int .i64 s1) := by rw [HBr.out.cell]; rfl
    have cc1 : wr.cell? ⟨gs, 1, none⟩ = some (.int .i64 s2) := by rw [HBr.out.cell]; rfl
    have cc2 : wr.cell? ⟨gs, 2, none⟩ = some (.int .i64 d1) := by rw [HBr.out.cell]; rfl
    have cc3 : wr.cell? ⟨gs, 3, none⟩ = some (.int .i64 d2) := by rw [HBr.out.cell]; rfl
    have cc4 : wr.cell? ⟨gs, 4, none⟩ = some (.int .i64 z1) := by rw [HBr.out.cell]; rfl
    have cc5 : wr.cell? ⟨gs, 5, none⟩ = some (.int .i64 z2) := by rw [HBr.out.cell]; rfl
    clear h1 h2 h3 hb
    rcases (by omega : k = 0 ∨ k = 1 ∨ k = 2 ∨ k = 3) with rfl | rfl | rfl | rfl
    · rcases Int.lt_trichotomy s1 s2 with hlt | heq | hgt
      · have HF : Hid (R = -1) := Lib.hid (by rw [HR.out]; exact later_1 (ci_lt' hlt) (by decide))
        have hngt : ¬ s2 < s1 := by omega
        go_wp2_with fail
        go_ret
        exact ⟨ret_int HF.out.symm, Hb5.out.trans ((Hb.out.alloc Hb.out.size _).mono Hb5.out.size)⟩
      · have hn1 : ¬ s1 < s2 := by omega
        have hn2 : ¬ s2 < s1 := by omega
        have Heq := Lib.hid heq
        clear heq
        go_wp2_with fail
        go_roundw
        case rel => exact ⟨1, by omega, by go_num, fun _ => Heq.out, by omega, by omega, Hb.out.alloc Hb.out.size _⟩
        case measure => simp [intOf]
      · have HF : Hid (R = 1) := Lib.hid (by rw [HR.out]; exact later_1 (ci_gt' hgt) (by decide))
        go_wp2_with fail
        go_ret
        exact ⟨ret_int HF.out.symm, Hb5.out.trans ((Hb.out.alloc Hb.out.size _).mono Hb5.out.size)⟩
    · rcases Int.lt_trichotomy d1 d2 with hlt | heq | hgt
      · have HF : Hid (R = -1) := Lib.hid (by rw [HR.out]; exact later_2 (H1.out (by omega)) (ci_lt' hlt) (by decide))
        have hngt : ¬ d2 < d1 := by omega
        go_wp2_with fail
        go_ret
        exact ⟨ret_int HF.out.symm, Hb5.out.trans ((Hb.out.alloc Hb.out.size _).mono Hb5.out.size)⟩
      · have hn1 : ¬ d1 < d2 := by omega
        have hn2 : ¬ d2 < d1 := by omega
        have Heq := Lib.hid heq
        clear heq
        go_wp2_with fail
        go_roundw
        case rel => exact ⟨2, by omega, by go_num, fun _ => H1.out (by omega), fun _ => Heq.out, by omega, Hb.out.alloc Hb.out.size _⟩
        case measure => simp [intOf]
      · have HF : Hid (R = 1) := Lib.hid (by rw [HR.out]; exact later_2 (H1.out (by omega)) (ci_gt' hgt) (by decide))
        go_wp2_with fail
        go_ret
        exact ⟨ret_int HF.out.symm, Hb5.out.trans ((Hb.out.alloc Hb.out.size _).mono Hb5.out.size)⟩
    · rcases Int.lt_trichotomy z1 z2 with hlt | heq | hgt
      · have HF : Hid (R = -1) := Lib.hid (by rw [HR.out]; exact later_3 (H1.out (by omega)) (H2.out (by omega)) (by rw [← Hz1.out, ← Hz2.out]; exact ci_lt' hlt) (by decide))
        have hngt : ¬ z2 < z1 := by omega
        go_wp2_with fail
        go_ret
        exact ⟨ret_int HF.out.symm, Hb5.out.trans ((Hb.out.alloc Hb.out.size _).mono Hb5.out.size)⟩
      · have hn1 : ¬ z1 < z2 := by omega
        have hn2 : ¬ z2 < z1 := by omega
        have Heq := Lib.hid heq
        clear heq
        go_wp2_with fail
        go_roundw
        case rel => exact ⟨3, by omega, by go_num, fun _ => H1.out (by omega), fun _ => H2.out (by omega), fun _ => Heq.out, Hb.out.alloc Hb.out.size _⟩
        case measure => simp [intOf]
      · have HF : Hid (R = 1) := Lib.hid (by rw [HR.out]; exact later_3 (H1.out (by omega)) (H2.out (by omega)) (by rw [← Hz1.out, ← Hz2.out]; exact ci_gt' hgt) (by decide))
        go_wp2_with fail
        go_ret
        exact ⟨ret_int HF.out.symm, Hb5.out.trans ((Hb.out.alloc Hb.out.size _).mono Hb5.out.size)⟩
    · have HF : Hid (R = cb b1 b2) := Lib.hid (by rw [HR.out]; exact later_4 (H1.out (by omega)) (H2.out (by omega)) (by have := H3.out (by omega); rw [Hz1.out, Hz2.out] at this; exact this))
      have Hx6 := Hx5.out.below Hb.out
      have Hy6 := Hy5.out.below Hb.out
      have k1 := conv_bytes A1 l1 c1 b1 wr Hl1.out.symm Hx6.at_
      have k2 := conv_bytes A2 l2 c2 b2 wr Hl2.out.symm Hy6.at_
      have HB16 := HB15.out.below Hb.out HB15.out.lt
      have HB26 := HB25.out.below Hb.out HB25.out.lt
      have a1 : wr.cell? ⟨gx, 1, none⟩ = some (.slice A1 l1 c1) := by rw [HB16.cell]; rfl
      have b1_ : wr.cell? ⟨gx + 1, 1, none⟩ = some (.slice A2 l2 c2) := by rw [HB26.cell]; rfl
      clear cc0 cc1 cc2 cc3 cc4 cc5 Hx6 Hy6 HB16 HB26
      go_wp2_with fail
      refine (stringsCompare_any b1 b2 _).mono ?_
      rintro e w9 ⟨rfl, hw⟩
      have hw := hw.symm
      subst hw
      go_wp2_with fail
      go_ret
      exact ⟨ret_int HF.out.symm, Hb5.out.trans (Hb.out.mono Hb5.out.size)⟩
end Go.Proofs.YtdoegpklephelaaGreatDoor.Merge

/- reliquaryref: CheckFiles. -/
namespace Go.Proofs.YtdoegpklephelaaGreatDoor.Merge
open Go Go.RowKit Go.Proofs.YtdoegpklephelaaGreatDoor Go.Proofs.YtdoegpklephelaaGreatDoor.Name
set_option linter.unusedVariables false

theorem less_flip {q nm : List UInt8} (h : Op.bytesLess q nm = true) : Op.bytesLess nm q = false ∧ (nm == q) = false := by
  rw [less_cb, decide_eq_true_iff] at h
  have hn := cb_neg q nm
  rw [less_cb]
  refine ⟨decide_eq_false (by omega), ?_⟩
  rw [beq_eq_false_iff_ne]
  rintro rfl
  rw [cb_refl] at h; omega
theorem less_not {q nm : List UInt8} (h : Op.bytesLess q nm = false) : Op.bytesLess nm q = true ∨ q = nm := by
  rw [less_cb, decide_eq_false_iff_not] at h
  have hn := cb_neg q nm
  rw [less_cb, decide_eq_true_iff]
  by_cases h0 : cb q nm = 0
  · exact .inr (cb_eq h0)
  · exact .inl (by omega)
set_option maxRecDepth 100000 in
set_option maxHeartbeats 2000000 in
theorem refCheck_any (v : Value) (l : List Fx) (w : World) (hm : ML w) (h : IsFiles w v l) :
    Calls Tryz.prog 22 #[v] w fun e w' => e = .returned (.int .i64 (chkF (l.map Prod.fst))) ∧ Below w.heap.size w w' := by
  obtain ⟨A, cap, rfl, hcap, hcm, hA, hA0, hdeep⟩ := h
  have HA := Lib.hid hA
  have Hd := Lib.hid hdeep
  have Hm := Lib.hid hm
  clear hA hA0 hdeep hm
  have hcm' : cap ≤ 9223372036854775807 := by unfold maxLen at hcm; omega
  clear hcm
  obtain ⟨n, hn⟩ : ∃ n, n = l.length := ⟨_, rfl⟩
  have Hn := Lib.hid hn.symm
  rw [← hn] at hcap ⊢
  clear hn
  by_cases h12 : 12 < n
  · have Hc : Hid (chkF (l.map Prod.fst) = 2) := Lib.hid (by unfold chkF; rw [List.length_map, Hn.out, if_pos h12])
    have h12i : (12 : Int) < (n : Int) := by omega
    go_enter Tryz.func22, Tryz.ntmps22
    go_wp2_with fail
    go_ret
    exact ⟨by rw [Hc.out]; rfl, Below.refl _ _⟩
  · have h12i : ¬ (12 : Int) < (n : Int) := by omega
    have H0 := Lib.hid (rest_zero (l.map Prod.fst) (by rw [List.length_map, Hn.out]; omega))
    have Hnext := Lib.hid (rest_next (l.map Prod.fst))
    have Hend := Lib.hid (rest_end (l.map Prod.fst))
    have Hbad := Lib.hid (rest_bad (l.map Prod.fst))
    have Hdown := Lib.hid (rest_down (l.map Prod.fst))
    have HL : Hid ((l.map Prod.fst).length = n) := Lib.hid (by rw [List.length_map, Hn.out])
    have Hget : Hid (∀ k (hk : k < l.length) (hk2 : k < (l.map Prod.fst).length), (l.map Prod.fst)[k] = l[k].1) := Lib.hid (fun k hk hk2 => by rw [List.getElem_map])
    generalize l.map Prod.fst = m at *
    go_enter Tryz.func22, Tryz.ntmps22
    go_wp2_with fail
    go_loopw [3, 13] (fun vl i wr => ∃ k : Nat, k ≤ n ∧ i = .int .i64 (k : Int) ∧ (∃ q, vl = .string (strB q) ∧ (k ≠ 0 → lastN m k = some q)) ∧ RestOk m k ∧ Below w.heap.size w wr) (fun _ i _ => n - (intOf i).toNat)
    case atStart => exact ⟨0, Nat.zero_le _, rfl, ⟨[], rfl, by simp⟩, H0.out, Below.refl _ _⟩
    case round =>
      obtain ⟨k, hk, rfl, ⟨q, rfl, hq⟩, hr, hb⟩ := hrel
      have Hq := Lib.hid hq
      have Hb := Lib.hid hb
      have Hr := Lib.hid hr
      clear hb hr hq
      by_cases hlt : k < n
      · have hkl : k < l.length := by rw [Hn.out]; exact hlt
        have hkm : k < m.length := by rw [HL.out]; exact hlt
        obtain ⟨b, o, rfl, hc0, hc1, hc2, hc3, hc4⟩ := files_cells (HA.out.below Hb.out) hkl
        have hfd := Hd.out l[k] (List.getElem_mem hkl)
        have HNx : Hid (fileE l[k].1 = 0 → upB (lastN m k) l[k].1.name = true → RestOk m (k + 1)) := Lib.hid (fun h1 h2 => Hnext.out k hkm Hr.out (by rw [Hget.out k hkl hkm]; exact h1) (by rw [Hget.out k hkl hkm]; exact h2))
        have HBd : Hid (fileE l[k].1 ≠ 0 → chkF m = fileE l[k].1) := Lib.hid (fun h1 => by rw [Hbad.out k hkm Hr.out (by rw [Hget.out k hkl hkm]; exact h1), Hget.out k hkl hkm])
        have HDn : Hid (fileE l[k].1 = 0 → upB (lastN m k) l[k].1.name = false → chkF m = 4) := Lib.hid (fun h1 h2 => Hdown.out k hkm Hr.out (by rw [Hget.out k hkl hkm]; exact h1) (by rw [Hget.out k hkl hkm]; exact h2))
        have HLast : Hid (lastN m (k + 1) = some l[k].1.name) := Lib.hid (by
          unfold lastN
          rw [if_neg (by omega)]
          have := Hget.out k hkl hkm
          simp [List.getD_eq_getElem?_getD, hkm, this])
        generalize l[k] = x at *
        obtain ⟨⟨nm, bs, st, nd, gn⟩, As, ln, cp⟩ := x
        simp only [slv] at hc0 hc1 hc2 hc3 hc4 HNx HBd HDn hfd HLast
        have Hln : Hid (ln = bs.length) := Lib.hid hfd.len
        have hnm : nm.length ≤ maxLen := hfd.name
        clear hfd
        have HC := Lib.hid (fun w' (hb : Below w.heap.size w w') => parted_any nm w' hnm (Hm.out.below hb))
        clear hnm
        go_wp2_with fail
        refine (HC.out _ (Hb.out.alloc Hb.out.size _)).mono ?_
        intro e w2 hp
        obtain ⟨A', n', rfl, _, _⟩ := parts_tuple hp
        have hb2 := hp.2
        clear hp
        have Hb2 := Lib.hid (stepN (Hb.out.alloc Hb.out.size (.cells #[.string (strB nm), .slice As ln cp, .int .i64 st, .int .i64 nd, .bool gn] 49)) hb2)
        have BX : Hid (Blk w2 wr.heap.size 49 #[.string (strB nm), .slice As ln cp, .int .i64 st, .int .i64 nd, .bool gn]) := Lib.hid ((Blk.new wr _ _).below hb2 (by simp))
        have e0 : w2.cell? ⟨wr.heap.size, 0, none⟩ = some (.string (strB nm)) := by rw [BX.out.cell]; rfl
        have e1 : w2.cell? ⟨wr.heap.size, 1, none⟩ = some (.slice As ln cp) := by rw [BX.out.cell]; rfl
        have e2 : w2.cell? ⟨wr.heap.size, 2, none⟩ = some (.int .i64 st) := by rw [BX.out.cell]; rfl
        have e3 : w2.cell? ⟨wr.heap.size, 3, none⟩ = some (.int .i64 nd) := by rw [BX.out.cell]; rfl
        have e4 : w2.cell? ⟨wr.heap.size, 4, none⟩ = some (.bool gn) := by rw [BX.out.cell]; rfl
        have HF : Hid (fileE ⟨nm, bs, st, nd, gn⟩ = if nameE nm ≠ 0 then nameE nm else if 3000 < bs.length then 2 else if st < 0 ∨ 1000000 < st ∨ nd < 0 ∨ 4 ≤ nd then 3 else if gn = true ∧ bs ≠ [] then 4 else 0) := Lib.hid rfl
        generalize fileE ⟨nm, bs, st, nd, gn⟩ = fe at *
        clear hb2 hc0 hc1 hc2 hc3 hc4 HC
        by_cases g1 : nameE nm = 0
        · rw [g1] at HF ⊢
          by_cases g2 : 3000 < ln
          · have Hfe : Hid (fe = 2) := Lib.hid (by rw [HF.out, if_neg (by simp), if_pos (by rw [← Hln.out]; exact g2)])
            have Hc : Hid (chkF m = 2) := Lib.hid (by rw [HBd.out (by rw [Hfe.out]; decide), Hfe.out])
            have g2i : (3000 : Int) < (ln : Int) := by omega
            go_wp2_with fail
            go_ret
            exact ⟨by rw [Hc.out]; rfl, Hb2.out⟩
          · have g2i : ¬ (3000 : Int) < (ln : Int) := by omega
            have G2 : Hid (¬ 3000 < bs.length) := Lib.hid (by rw [← Hln.out]; exact g2)
            by_cases g3 : st < 0 ∨ 1000000 < st ∨ nd < 0 ∨ 4 ≤ nd
            · have Hfe : Hid (fe = 3) := Lib.hid (by rw [HF.out, if_neg (by simp), if_neg G2.out, if_pos g3])
              have Hc : Hid (chkF m = 3) := Lib.hid (by rw [HBd.out (by rw [Hfe.out]; decide), Hfe.out])
              by_cases k1 : st < 0
              · go_wp2_with fail
                go_ret
                exact ⟨by rw [Hc.out]; rfl, Hb2.out⟩
              · by_cases k2 : 1000000 < st
                · go_wp2_with fail
                  go_ret
                  exact ⟨by rw [Hc.out]; rfl, Hb2.out⟩
                · by_cases k3 : nd < 0
                  · go_wp2_with fail
                    go_ret
                    exact ⟨by rw [Hc.out]; rfl, Hb2.out⟩
                  · have k4 : 4 ≤ nd := by omega
                    go_wp2_with fail
                    go_ret
                    exact ⟨by rw [Hc.out]; rfl, Hb2.out⟩
            · have k1 : ¬ st < 0 := by omega
              have k2 : ¬ 1000000 < st := by omega
              have k3 : ¬ nd < 0 := by omega
              have k4 : ¬ 4 ≤ nd := by omega
              have HF2 : Hid (fe = if gn = true ∧ bs ≠ [] then 4 else 0) := Lib.hid (by rw [HF.out, if_neg (by simp), if_neg G2.out, if_neg g3])
              clear g3
              by_cases g5 : gn = true ∧ bs ≠ []
              · obtain ⟨rfl, g6⟩ := g5
                have Hfe : Hid (fe = 4) := Lib.hid (by rw [HF2.out, if_pos ⟨rfl, g6⟩])
                have Hc : Hid (chkF m = 4) := Lib.hid (by rw [HBd.out (by rw [Hfe.out]; decide), Hfe.out])
                have g5n : 0 < ln := by rw [Hln.out]; exact List.length_pos_iff.2 g6
                have g5i : (0 : Int) < (ln : Int) := by omega
                have g5d : decide ((0 : Int) < (ln : Int)) = true := by simpa using g5i
                clear HNx HBd HDn
                go_wp2_with fail
                go_ret
                exact ⟨by rw [Hc.out]; rfl, Hb2.out⟩
              · have Hfe : Hid (fe = 0) := Lib.hid (by rw [HF2.out, if_neg g5])
                cases gn with
                | true =>
                  obtain rfl : ln = 0 := by
                    rw [Hln.out, List.length_eq_zero_iff]
                    exact Classical.byContradiction fun e => g5 ⟨rfl, e⟩
                  clear g5
                  by_cases hk0 : k = 0
                  · have Hnx : Hid (RestOk m (k + 1)) := Lib.hid (HNx.out Hfe.out (by rw [hk0]; rfl))
                    subst hk0
                    clear HNx HBd HDn
                    go_wp2_with fail
                    go_roundw
                    case rel => exact ⟨1, by omega, by go_num, ⟨nm, rfl, fun _ => HLast.out⟩, Hnx.out, Hb2.out⟩
                    case measure => simp [intOf]; omega
                  · have hkp : 0 < k := by omega
                    have hq1 := Hq.out hk0
                    have hkd : decide ((0 : Int) < (k : Int)) = true := by simpa using hkp
                    have HNx2 := HNx.out Hfe.out
                    have HDn2 := HDn.out Hfe.out
                    rw [hq1] at HNx2 HDn2
                    cases hle : Op.bytesLess q nm with
                    | true =>
                      have Hnx : Hid (RestOk m (k + 1)) := Lib.hid (HNx2 (by show decide (cb q nm < 0) = _; rw [← less_cb]; exact hle))
                      clear HNx HBd HDn HNx2 HDn2 hq1
                      obtain ⟨hle1, hle2⟩ := less_flip hle
                      go_wp2_with fail
                      go_roundw
                      case rel => exact ⟨k + 1, by omega, by go_num, ⟨nm, rfl, fun _ => HLast.out⟩, Hnx.out, Hb2.out⟩
                      case measure => simp [intOf]; omega
                    | false =>
                      have Hc : Hid (chkF m = 4) := Lib.hid (HDn2 (by show decide (cb q nm < 0) = _; rw [← less_cb]; exact hle))
                      clear HNx HBd HDn HNx2 HDn2 hq1
                      rcases less_not hle with hle1 | rfl
                      · go_wp2_with fail
                        go_ret
                        exact ⟨by rw [Hc.out]; rfl, Hb2.out⟩
                      · go_wp2_with fail
                        go_ret
                        exact ⟨by rw [Hc.out]; rfl, Hb2.out⟩
                | false =>
                  clear g5
                  by_cases hk0 : k = 0
                  · have Hnx : Hid (RestOk m (k + 1)) := Lib.hid (HNx.out Hfe.out (by rw [hk0]; rfl))
                    subst hk0
                    clear HNx HBd HDn
                    go_wp2_with fail
                    go_roundw
                    case rel => exact ⟨1, by omega, by go_num, ⟨nm, rfl, fun _ => HLast.out⟩, Hnx.out, Hb2.out⟩
                    case measure => simp [intOf]; omega
                  · have hkp : 0 < k := by omega
                    have hq1 := Hq.out hk0
                    have hkd : decide ((0 : Int) < (k : Int)) = true := by simpa using hkp
                    have HNx2 := HNx.out Hfe.out
                    have HDn2 := HDn.out Hfe.out
                    rw [hq1] at HNx2 HDn2
                    cases hle : Op.bytesLess q nm with
                    | true =>
                      have Hnx : Hid (RestOk m (k + 1)) := Lib.hid (HNx2 (by show decide (cb q nm < 0) = _; rw [← less_cb]; exact hle))
                      clear HNx HBd HDn HNx2 HDn2 hq1
                      obtain ⟨hle1, hle2⟩ := less_flip hle
                      go_wp2_with fail
                      go_roundw
                      case rel => exact ⟨k + 1, by omega, by go_num, ⟨nm, rfl, fun _ => HLast.out⟩, Hnx.out, Hb2.out⟩
                      case measure => simp [intOf]; omega
                    | false =>
                      have Hc : Hid (chkF m = 4) := Lib.hid (HDn2 (by show decide (cb q nm < 0) = _; rw [← less_cb]; exact hle))
                      clear HNx HBd HDn HNx2 HDn2 hq1
                      rcases less_not hle with hle1 | rfl
                      · go_wp2_with fail
                        go_ret
                        exact ⟨by rw [Hc.out]; rfl, Hb2.out⟩
                      · go_wp2_with fail
                        go_ret
                        exact ⟨by rw [Hc.out]; rfl, Hb2.out⟩
        · have Hfe : Hid (fe = nameE nm) := Lib.hid (by rw [HF.out, if_pos g1])
          have Hc : Hid (chkF m = nameE nm) := Lib.hid (by rw [HBd.out (by rw [Hfe.out]; exact g1), Hfe.out])
          generalize nameE nm = z at *
          have hz1 : (z != 0) = true := by simpa using g1
          go_wp2_with fail
          go_ret
          exact ⟨by rw [Hc.out]; rfl, Hb2.out⟩
      · obtain rfl : k = n := by omega
        have He : Hid (chkF m = 0) := Lib.hid (Hend.out k (by rw [HL.out]) Hr.out)
        go_wp2_with fail
        go_ret
        exact ⟨by rw [He.out]; rfl, Hb.out⟩
end Go.Proofs.YtdoegpklephelaaGreatDoor.Merge

/- reliquaryref: Together: the plain law. -/
namespace Go.Proofs.YtdoegpklephelaaGreatDoor.Merge
open Go Go.RowKit Go.Proofs.YtdoegpklephelaaGreatDoor Go.Proofs.YtdoegpklephelaaGreatDoor.Name
set_option linter.unusedVariables false

/-- what is had of a name, in the order in which names came -/
def stGet : List Fx → List UInt8 → Option Fx
  | [], _ => none
  | y :: l, n => if y.1.name = n then some y else stGet l n
def stPut : List Fx → Fx → List Fx
  | [], x => [x]
  | y :: l, x => if y.1.name = x.1.name then x :: l else y :: stPut l x
def stNew (st : List Fx) (x : Fx) : Bool := match stGet st x.1.name with | none => true | some o => decide (0 < later x.1 o.1)
def stepT (st : List Fx) (x : Fx) : List Fx := if stNew st x = true then stPut st x else st
def alT (st : List Fx) : List (List UInt8 × Value) := st.map fun x => (x.1.name, fV x)
def nmT (st : List Fx) : List (List UInt8) := st.map fun x => x.1.name
theorem al_get (st : List Fx) (n : List UInt8) : mget (alT st) n = (stGet st n).map fV := by
  induction st with
  | nil => rfl
  | cons y l ih =>
    unfold alT at ih ⊢
    rw [List.map_cons]
    unfold mget stGet
    by_cases h : y.1.name = n
    · rw [if_pos h, if_pos h]; rfl
    · rw [if_neg h, if_neg h]; exact ih
theorem al_put (st : List Fx) (x : Fx) : mput (alT st) x.1.name (fV x) = alT (stPut st x) := by
  induction st with
  | nil => rfl
  | cons y l ih =>
    unfold alT at ih ⊢
    rw [List.map_cons]
    unfold mput stPut
    by_cases h : y.1.name = x.1.name
    · rw [if_pos h, if_pos h]; rfl
    · rw [if_neg h, if_neg h, List.map_cons, ih]
theorem put_none {st : List Fx} {x : Fx} (h : stGet st x.1.name = none) : stPut st x = st ++ [x] := by
  induction st with
  | nil => rfl
  | cons y l ih =>
    unfold stGet at h
    unfold stPut
    by_cases e : y.1.name = x.1.name
    · rw [if_pos e] at h; cases h
    · rw [if_neg e] at h ⊢; rw [ih h]; rfl
theorem put_some {st : List Fx} {x o : Fx} (h : stGet st x.1.name = some o) : nmT (stPut st x) = nmT st := by
  induction st with
  | nil => cases h
  | cons y l ih =>
    unfold stGet at h
    unfold nmT at ih ⊢
    unfold stPut
    by_cases e : y.1.name = x.1.name
    · rw [if_pos e, List.map_cons, List.map_cons, e]
    · rw [if_neg e] at h ⊢; rw [List.map_cons, List.map_cons, ih h]
theorem stGet_lk (st : List Fx) (n : List UInt8) : lk (st.map Prod.fst) n = (stGet st n).map Prod.fst := by
  induction st with
  | nil => rfl
  | cons y l ih =>
    rw [List.map_cons, lk_cons]
    unfold stGet
    by_cases h : y.1.name = n
    · rw [if_pos h, if_pos h]; rfl
    · rw [if_neg h, if_neg h]; exact ih
theorem stGet_mem {st : List Fx} {n : List UInt8} {x : Fx} (h : stGet st n = some x) : x ∈ st ∧ x.1.name = n := by
  induction st with
  | nil => cases h
  | cons y l ih =>
    unfold stGet at h
    by_cases e : y.1.name = n
    · rw [if_pos e] at h; injection h with h; subst h; exact ⟨by simp, e⟩
    · rw [if_neg e] at h; exact ⟨by simp [(ih h).1], (ih h).2⟩
theorem stGet_none {st : List Fx} {n : List UInt8} : stGet st n = none ↔ n ∉ nmT st := by
  induction st with
  | nil => simp [stGet, nmT]
  | cons y l ih =>
    unfold stGet
    unfold nmT at ih ⊢
    by_cases e : y.1.name = n
    · rw [if_pos e]; simp [e]
    · rw [if_neg e, ih, List.map_cons, List.mem_cons]
      simp [Ne.symm e]
theorem stPut_mem {st : List Fx} {x y : Fx} (h : y ∈ stPut st x) : y ∈ st ∨ y = x := by
  induction st with
  | nil => simp [stPut] at h; exact .inr h
  | cons z l ih =>
    unfold stPut at h
    by_cases e : z.1.name = x.1.name
    · rw [if_pos e] at h
      rcases List.mem_cons.1 h with h | h
      · exact .inr h
      · exact .inl (by simp [h])
    · rw [if_neg e] at h
      rcases List.mem_cons.1 h with h | h
      · exact .inl (by simp [h])
      · rcases ih h with h | h
        · exact .inl (by simp [h])
        · exact .inr h
theorem step_mem {st : List Fx} {x y : Fx} (h : y ∈ stepT st x) : y ∈ st ∨ y = x := by
  unfold stepT at h
  split at h
  · exact stPut_mem h
  · exact .inl h
theorem step_nm (st : List Fx) (x : Fx) : nmT (stepT st x) = if stGet st x.1.name = none then nmT st ++ [x.1.name] else nmT st := by
  cases h : stGet st x.1.name with
  | none =>
    have hn : stNew st x = true := by unfold stNew; rw [h]
    unfold stepT
    rw [if_pos hn, put_none h, if_pos rfl]
    simp [nmT]
  | some o =>
    rw [if_neg (by simp)]
    unfold stepT
    split
    · exact put_some h
    · rfl
theorem step_nodup {st : List Fx} (h : (nmT st).Nodup) (x : Fx) : (nmT (stepT st x)).Nodup := by
  rw [step_nm]
  split
  · rename_i hn
    rw [List.nodup_append]
    refine ⟨h, by simp, fun a ha b hb => ?_⟩
    simp at hb
    subst hb
    intro e; subst e
    exact stGet_none.1 hn ha
  · exact h
theorem step_len (st : List Fx) (x : Fx) : (stepT st x).length ≤ st.length + 1 := by
  have : (stepT st x).length = (nmT (stepT st x)).length := by simp [nmT]
  rw [this, step_nm]
  split <;> simp [nmT]
theorem lk_put (st : List Fx) (x : Fx) (n : List UInt8) : lk ((stPut st x).map Prod.fst) n = if x.1.name = n then some x.1 else lk (st.map Prod.fst) n := by
  induction st with
  | nil => simp [stPut, lk_cons]
  | cons y l ih =>
    unfold stPut
    by_cases e : y.1.name = x.1.name
    · rw [if_pos e, List.map_cons, List.map_cons, lk_cons, lk_cons, e]
      by_cases e2 : x.1.name = n
      · rw [if_pos e2, if_pos e2]
      · rw [if_neg e2, if_neg e2, if_neg e2]
    · rw [if_neg e, List.map_cons, List.map_cons, lk_cons, lk_cons, ih]
      by_cases e2 : y.1.name = n
      · rw [if_pos e2, if_pos e2, if_neg (fun h => e (by rw [e2, h]))]
      · rw [if_neg e2, if_neg e2]
def hitT (x : Fl) (n : List UInt8) : Option Fl := if x.name = n then some x else none
theorem lk_step (st : List Fx) (x : Fx) (n : List UInt8) : lk ((stepT st x).map Prod.fst) n = jo (lk (st.map Prod.fst) n) (hitT x.1 n) := by
  unfold hitT
  by_cases e : x.1.name = n
  · subst e
    rw [if_pos rfl]
    cases h : stGet st x.1.name with
    | none =>
      have hn : stNew st x = true := by unfold stNew; rw [h]
      have h1 : lk (st.map Prod.fst) x.1.name = none := by rw [stGet_lk, h]; rfl
      unfold stepT
      rw [if_pos hn, lk_put, if_pos rfl, h1]; rfl
    | some o =>
      have h1 : lk (st.map Prod.fst) x.1.name = some o.1 := by rw [stGet_lk, h]; rfl
      have hl := cmp_later.neg x.1 o.1
      have hm : jo (some o.1) (some x.1) = some (maxF o.1 x.1) := rfl
      rw [h1, hm]
      unfold maxF stepT
      by_cases h0 : 0 < later x.1 o.1
      · have hn : stNew st x = true := by unfold stNew; rw [h]; exact decide_eq_true h0
        rw [if_pos hn, lk_put, if_pos rfl, if_pos (by omega)]
      · have hn : ¬ stNew st x = true := by unfold stNew; rw [h]; simp [h0]
        rw [if_neg hn, h1, if_neg (by omega)]
  · rw [if_neg e, jo_none]
    unfold stepT
    split
    · rw [lk_put, if_neg e]
    · rfl
theorem jo_some_none (a : Option Fl) : jo a none = a := jo_none a
theorem jo_assoc_hit {a : Option Fl} {x : Fl} {l : List Fl} (hs : Srt (x :: l)) (n : List UInt8) : jo (jo a (hitT x n)) (lk l n) = jo a (lk (x :: l) n) := by
  unfold hitT
  rw [lk_cons]
  by_cases e : x.name = n
  · rw [if_pos e, if_pos e]
    have : lk l n = none := by
      rw [lk_none]
      intro f hf he
      have := (List.pairwise_cons.1 hs).1 f hf
      exact cb_ne this (by rw [e, he])
    rw [this, jo_none]
  · rw [if_neg e, if_neg e, jo_none]
theorem lk_fold (l : List Fx) (hs : Srt (l.map Prod.fst)) (st : List Fx) (n : List UInt8) : lk ((l.foldl stepT st).map Prod.fst) n = jo (lk (st.map Prod.fst) n) (lk (l.map Prod.fst) n) := by
  induction l generalizing st with
  | nil => simp [lk_nil, jo_none]
  | cons x l ih =>
    rw [List.foldl_cons, ih (List.pairwise_cons.1 hs).2, lk_step, jo_assoc_hit hs]
    rfl
/-- all lists together -/
def togS (ls : List (List Fx)) : List Fx := ls.foldl (fun st l => l.foldl stepT st) []
def allB (ls : List (List Fl)) : List Fl := ls.foldl bothL []
theorem allB_srt (ls : List (List Fl)) (a : List Fl) (ha : Srt a) (h : ∀ l ∈ ls, Srt l) : Srt (ls.foldl bothL a) := by
  induction ls generalizing a with
  | nil => exact ha
  | cons l ls ih => exact ih _ (srt_both ha (h l (by simp))) (fun m hm => h m (by simp [hm]))
theorem lk_tog (ls : List (List Fx)) (st : List Fx) (a : List Fl) (ha : Srt a) (h : ∀ l ∈ ls, Srt (l.map Prod.fst)) (hst : ∀ n, lk (st.map Prod.fst) n = lk a n) (n : List UInt8) :
    lk ((ls.foldl (fun st l => l.foldl stepT st) st).map Prod.fst) n = lk ((ls.map (fun l => l.map Prod.fst)).foldl bothL a) n := by
  induction ls generalizing st a with
  | nil => exact hst n
  | cons l ls ih =>
    rw [List.map_cons, List.foldl_cons, List.foldl_cons]
    refine ih _ _ (srt_both ha (h l (by simp))) (fun m hm => h m (by simp [hm])) (fun n => ?_)
    rw [lk_fold l (h l (by simp)), lk_both ha (h l (by simp)), hst]
theorem cb_lt_list (a b : List UInt8) : a < b ↔ cb a b < 0 := by
  have h := less_cb a b
  rw [← decide_eq_true_iff (p := cb a b < 0), ← h]
  clear h
  induction a generalizing b with
  | nil => cases b <;> simp [Op.bytesLess]
  | cons x l ih =>
    cases b with
    | nil => simp [Op.bytesLess]
    | cons y m =>
      rw [List.cons_lt_cons_iff]
      simp only [Op.bytesLess, Bool.or_eq_true, Bool.and_eq_true, decide_eq_true_iff, beq_iff_eq, ih]
theorem le_cb (a b : List UInt8) : a ≤ b ↔ cb a b ≤ 0 := by
  have h := cb_lt_list b a
  have hn := cb_neg a b
  constructor
  · intro h1
    have : ¬ b < a := fun h2 => (List.not_lt.2 h1) h2
    rw [h] at this; omega
  · intro h1
    refine List.not_lt.1 (fun h2 => ?_)
    rw [h] at h2; omega
/-- what is told at the end -/
def outT (st : List Fx) (ts : List (List UInt8)) : List Fx := ts.filterMap (stGet st)
theorem lk_out (st : List Fx) (ts : List (List UInt8)) (h : ∀ t ∈ ts, ∃ x, stGet st t = some x) (n : List UInt8) (hn : n ∈ ts) : lk ((outT st ts).map Prod.fst) n = lk (st.map Prod.fst) n := by
  induction ts with
  | nil => cases hn
  | cons t ts ih =>
    obtain ⟨x, hx⟩ := h t (by simp)
    have hxn := (stGet_mem hx).2
    unfold outT
    rw [List.filterMap_cons_some hx, List.map_cons, lk_cons]
    by_cases e : x.1.name = n
    · rw [if_pos e, stGet_lk, ← e, hxn, hx]; rfl
    · rw [if_neg e]
      refine ih (fun t' ht' => h t' (by simp [ht'])) ?_
      rcases List.mem_cons.1 hn with e2 | e2
      · exact absurd (by rw [hxn, e2]) e
      · exact e2
theorem out_names (st : List Fx) (ts : List (List UInt8)) (h : ∀ t ∈ ts, ∃ x, stGet st t = some x) : (outT st ts).map (fun x => x.1.name) = ts := by
  induction ts with
  | nil => rfl
  | cons t ts ih =>
    obtain ⟨x, hx⟩ := h t (by simp)
    unfold outT
    rw [List.filterMap_cons_some hx, List.map_cons, (stGet_mem hx).2]
    congr 1
    exact ih (fun t' ht' => h t' (by simp [ht']))
theorem out_mem {st : List Fx} {ts : List (List UInt8)} {x : Fx} (h : x ∈ outT st ts) : x ∈ st := by
  obtain ⟨t, _, ht⟩ := List.mem_filterMap.1 h
  exact (stGet_mem ht).1
theorem out_is (st : List Fx) (ts : List (List UInt8)) (a : List Fl) (ha : Srt a) (hst : ∀ n, lk (st.map Prod.fst) n = lk a n) (hnd : (nmT st).Nodup) (hp : ts.Perm (nmT st)) (hle : ts.Pairwise (fun x y => cb x y ≤ 0)) : (outT st ts).map Prod.fst = a := by
  have hget : ∀ t ∈ ts, ∃ x, stGet st t = some x := fun t ht => by
    cases h : stGet st t with
    | none => exact absurd (hp.mem_iff.1 ht) (stGet_none.1 h)
    | some x => exact ⟨x, rfl⟩
  have hnd' : ts.Nodup := hp.nodup_iff.2 hnd
  have hlt : ts.Pairwise (fun x y => cb x y < 0) := by
    refine List.Pairwise.imp₂ ?_ hle hnd'
    intro x y h1 h2
    by_cases h0 : cb x y = 0
    · exact absurd (cb_eq h0) h2
    · omega
  have hsrt : Srt ((outT st ts).map Prod.fst) := by
    have := out_names st ts hget
    rw [← this] at hlt
    unfold Srt
    rw [List.pairwise_map] at hlt ⊢
    exact hlt
  refine srt_ext hsrt ha (fun n => ?_)
  rw [← hst]
  by_cases hn : n ∈ ts
  · exact lk_out st ts hget n hn
  · have h1 : lk (st.map Prod.fst) n = none := by
      rw [stGet_lk, stGet_none.2 (fun h => hn (hp.mem_iff.2 h))]; rfl
    rw [h1, lk_none]
    intro f hf he
    obtain ⟨x, hx, rfl⟩ := List.mem_map.1 hf
    have := out_names st ts hget
    apply hn
    rw [← this, ← he]
    exact List.mem_map_of_mem (f := fun x : Fx => x.1.name) hx
theorem fold_nodup (l : List Fx) (st : List Fx) (h : (nmT st).Nodup) : (nmT (l.foldl stepT st)).Nodup := by
  induction l generalizing st with
  | nil => exact h
  | cons x l ih => exact ih _ (step_nodup h x)
theorem tog_nodup (ls : List (List Fx)) : (nmT (togS ls)).Nodup := by
  have : ∀ st, (nmT st).Nodup → (nmT (ls.foldl (fun st l => l.foldl stepT st) st)).Nodup := by
    induction ls with
    | nil => intro st h; exact h
    | cons l ls ih => intro st h; exact ih _ (fold_nodup l st h)
  exact this [] (by simp [nmT])
end Go.Proofs.YtdoegpklephelaaGreatDoor.Merge

/- sort.Strings, by the kit's contract. -/
namespace Go.Proofs.YtdoegpklephelaaGreatDoor.Name
open Go Go.RowKit Go.Sort Go.Proofs Go.Proofs.YtdoegpklephelaaGreatDoor
set_option linter.unusedVariables false

theorem sortStrs_own (base g n cap : Nat) (ks : List (List UInt8)) (w : World) (h : w.ownsRow base 9 1 (.slice (some ⟨g, 0, none⟩) n cap) n (ks.map sv)) (hn : n < 4611686018427387904) :
    Calls Tryz.prog 37 #[.slice (some ⟨g, 0, none⟩) n cap] w fun e w' => e = .returned (.tuple #[]) ∧ (∃ ts : List (List UInt8), ts.Perm ks ∧ ts.Pairwise (· ≤ ·) ∧ w'.ownsRow base 9 1 (.slice (some ⟨g, 0, none⟩) n cap) n (ts.map sv)) ∧ w.grownBy w' (some g) := by
  have hl : ks.length = n := by have := h.1; simpa using this
  rcases h.2 with ⟨h1, _⟩ | ⟨g', cap', cur, hv, hbg, hgb, hnc, hcm, hcs, htk⟩
  · cases h1
  injection hv with v1 v2 v3
  injection v1 with v1
  injection v1 with v1
  subst v1 v3
  have hH := holds_of_block (ss := ks) hgb (by rw [hl]; rw [Nat.mul_one] at htk; exact htk)
  have hc := Any.sort_Strings YtdoegpklephelaaGreatDoor.lays192 g 0 cap ks w hH (lt_of_block hgb) (by omega)
  rw [hl] at hc
  refine hc.mono ?_
  rintro e w' ⟨rfl, m, os, rfl⟩
  have hp := List.mergeSort_perm ks (fun x y => decide (x ≤ y))
  have hs := List.pairwise_mergeSort (le := fun x y : List UInt8 => decide (x ≤ y)) (fun a b c h1 h2 => by
    simp only [decide_eq_true_iff] at *
    exact List.le_trans h1 h2) (fun a b => by
    rcases List.le_total a b with h | h <;> simp [h]) ks
  generalize ks.mergeSort (fun x y => decide (x ≤ y)) = ts at *
  refine ⟨rfl, ⟨ts, hp, hs.imp (fun h => by simpa using h), ?_⟩, grownBy_sorted _⟩
  have := ownsRow_sorted (ss := ks) (ts := ts) (os := os) (n := m) hp.length_eq hbg hgb (by rw [hl]; exact hnc) hcm hcs
  rw [hl] at this
  exact this
theorem sortStrs_any (base n : Nat) (v : Value) (ks : List (List UInt8)) (w : World) (h : w.ownsRow base 9 1 v n (ks.map sv)) (hn : n < 4611686018427387904) :
    Calls Tryz.prog 37 #[v] w fun e w' => e = .returned (.tuple #[]) ∧ (∃ ts : List (List UInt8), ts.Perm ks ∧ ts.Pairwise (· ≤ ·) ∧ w'.ownsRow base 9 1 v n (ts.map sv)) ∧ w.grownBy w' v.ownBlock := by
  rcases h.2 with ⟨rfl, h0⟩ | ⟨g, cap, cur, rfl, _⟩
  · have hk : ks = [] := List.eq_nil_of_length_eq_zero (by have := h.1; simp at this; omega)
    subst hk
    subst h0
    refine (Any.sort_Strings_none YtdoegpklephelaaGreatDoor.lays192 none 0 w).mono ?_
    rintro e w' ⟨rfl, rfl⟩
    exact ⟨rfl, ⟨[], List.Perm.refl _, List.Pairwise.nil, h⟩, World.grownBy.refl _ _⟩
  · exact sortStrs_own base g n cap ks w h hn
end Go.Proofs.YtdoegpklephelaaGreatDoor.Name

/- reliquaryref: Together. -/
namespace Go.Proofs.YtdoegpklephelaaGreatDoor.Merge
open Go Go.RowKit Go.Proofs.YtdoegpklephelaaGreatDoor Go.Proofs.YtdoegpklephelaaGreatDoor.Name Go.Proofs.YtdoegpklephelaaGreatDoor.Worlds
set_option linter.unusedVariables false

theorem keyF_str : KeyF .string sv := ⟨fun a => trivial, fun a b h => by unfold sv at h; injection h with h; exact Name.strB_inj h⟩
theorem tyS_ : SliceTy Tryz.prog 65 9 (.string ByteArray.empty) 1 16 := ⟨Tryz.underlying65, by kernel_rfl, rfl, by omega⟩
def zF : Value := .agg #[.string ⟨#[]⟩, .slice none 0 0, .int .i64 0, .int .i64 0, .bool false]
theorem zeroF (w : World) : (zeroValue 49).run Tryz.prog w = .ok zF w := by kernel_rfl
/-- rows of two element types lie apart -/
theorem own_apart_ty {w : World} {base base' s1 s2 n1 n2 : Nat} {e1 e2 : TypeId} {v1 v2 : Value} {x1 x2 : List Value} (h1 : w.ownsRow base e1 s1 v1 n1 x1) (h2 : w.ownsRow base' e2 s2 v2 n2 x2) (hne : e1 ≠ e2) : v1.ownBlock = none ∨ v1.ownBlock ≠ v2.ownBlock := by
  rcases h1.2 with ⟨rfl, _⟩ | ⟨g, cap, cur, rfl, _, hg, _⟩
  · exact .inl rfl
  · right
    intro e
    rcases h2.2 with ⟨rfl, _⟩ | ⟨g', cap', cur', rfl, _, hg', _⟩
    · simp [Value.ownBlock] at e
    · simp only [Value.ownBlock, Option.some.injEq] at e
      subst e
      rw [hg] at hg'
      injection hg' with hg'
      injection hg' with _ ht
      exact hne ht
def preN (xs : List Nx) (k : Nat) : Nat := ((xs.take k).map fun x => x.2.length).sum
def totN (xs : List Nx) : Nat := (xs.map fun x => x.2.length).sum
theorem pre_succ (xs : List Nx) (k : Nat) (h : k < xs.length) : preN xs (k + 1) = preN xs k + xs[k].2.length := by
  unfold preN; rw [take_snoc _ _ h, List.map_append, List.sum_append]; simp
theorem pre_tot (xs : List Nx) (k : Nat) : preN xs k ≤ totN xs := by
  unfold preN totN
  conv => rhs; rw [← List.take_append_drop k xs, List.map_append, List.sum_append]
  omega
def togP (st : List Fx) (l : Nx) : List Fx := l.2.foldl stepT st
theorem tog_take (xs : List Nx) (k : Nat) (h : k < xs.length) (st : List Fx) : (xs.take (k + 1)).foldl togP st = togP ((xs.take k).foldl togP st) xs[k] := by
  rw [take_snoc _ _ h, List.foldl_append]; rfl
theorem fold_take (l : List Fx) (j : Nat) (h : j < l.length) (st : List Fx) : (l.take (j + 1)).foldl stepT st = stepT ((l.take j).foldl stepT st) l[j] := by
  rw [take_snoc _ _ h, List.foldl_append]; rfl
theorem fold_mem (l : List Fx) (st : List Fx) (P : Fx → Prop) (h1 : ∀ x ∈ st, P x) (h2 : ∀ x ∈ l, P x) : ∀ x ∈ l.foldl stepT st, P x := by
  induction l generalizing st with
  | nil => exact h1
  | cons y l ih =>
    refine ih _ (fun x hx => ?_) (fun x hx => h2 x (by simp [hx]))
    rcases step_mem hx with h | rfl
    · exact h1 x h
    · exact h2 _ (by simp)
theorem togP_mem (xs : List Nx) (st : List Fx) (P : Fx → Prop) (h1 : ∀ x ∈ st, P x) (h2 : ∀ n ∈ xs, ∀ x ∈ n.2, P x) : ∀ x ∈ xs.foldl togP st, P x := by
  induction xs generalizing st with
  | nil => exact h1
  | cons y l ih => exact ih _ (fold_mem _ _ P h1 (h2 y (by simp))) (fun n hn => h2 n (by simp [hn]))
theorem togP_nodup (xs : List Nx) (st : List Fx) (h : (nmT st).Nodup) : (nmT (xs.foldl togP st)).Nodup := by
  induction xs generalizing st with
  | nil => exact h
  | cons y l ih => exact ih _ (fold_nodup _ _ h)
theorem togP_lk (xs : List Nx) (h : ∀ n ∈ xs, Srt (flOf n.2)) (n : List UInt8) : lk ((xs.foldl togP []).map Prod.fst) n = lk (allB (xs.map fun x => flOf x.2)) n := by
  have := lk_tog (xs.map fun x => x.2) [] [] (by simp [Srt]) (fun l hl => by obtain ⟨m, hm, rfl⟩ := List.mem_map.1 hl; exact h m hm) (fun n => rfl) n
  rw [List.foldl_map, List.map_map] at this
  exact this
/-- what stands behind so many files -/
structure TogI (w wr : World) (gm : Nat) (V : Value) (st : List Fx) : Prop where
  below : Below w.heap.size w wr
  row : wr.ownsRow w.heap.size 9 1 V st.length ((nmT st).map sv)
  km : KM sv wr gm (alT st)
  le : w.heap.size ≤ gm
theorem TogI.step {w wr w' : World} {gm : Nat} {V : Value} {st : List Fx} (h : TogI w wr gm V st) (hb : Below wr.heap.size wr w') : TogI w w' gm V st :=
  ⟨h.below.trans (hb.mono h.below.size), own_keep h.row hb, h.km.below hb, h.le⟩
def TogPost (xs : List Nx) (w : World) (e : Ending) (w' : World) : Prop :=
  ∃ (v' : Value) (l' : List Fx), e = .returned v' ∧ w'.ownsRow w.heap.size 49 5 v' l'.length (l'.flatMap fC) ∧ (∀ x ∈ l', ∃ n ∈ xs, x ∈ n.2) ∧ ((∀ n ∈ xs, Srt (flOf n.2)) → l'.map Prod.fst = allB (xs.map fun x => flOf x.2)) ∧ Below w.heap.size w w'
set_option maxRecDepth 100000 in
set_option maxHeartbeats 8000000 in
theorem together_any (v : Value) (xs : List Nx) (w : World) (h : IsL w nC (NodeAt w) v xs) (hsz : totN xs * 64 ≤ 140737488355328) :
    Calls Tryz.prog 17 #[v] w (TogPost xs w) := by
  obtain ⟨A, c, rfl, hn1, hn2, hA, _, hdeep⟩ := h
  have HA := Lib.hid hA
  have Hdeep := Lib.hid hdeep
  obtain ⟨n, hn⟩ : ∃ n, n = xs.length := ⟨_, rfl⟩
  have Hn := Lib.hid hn
  rw [← hn]
  unfold maxLen at hn2
  have hn63 : n ≤ 9223372036854775807 := by omega
  obtain ⟨T, hT⟩ : ∃ T, T = totN xs := ⟨_, rfl⟩
  have HT := Lib.hid hT
  rw [← hT] at hsz
  obtain ⟨w1, hw1⟩ : ∃ w1, w1 = w.alloc (.map #[] 0) := ⟨_, rfl⟩
  obtain ⟨gm, hgm⟩ : ∃ g, g = w.heap.size := ⟨_, rfl⟩
  have HI1 : Hid (TogI w w1 gm (.slice none 0 0) []) := Lib.hid ⟨by rw [hw1]; exact (Below.refl _ _).alloc (Nat.le_refl _) _, World.ownsRow_nil _ _ _ _, by rw [hw1, hgm]; exact KM.made _ _, by omega⟩
  have Hw1 := Lib.hid hw1.symm
  have Hgm := Lib.hid hgm.symm
  have hmm := @run_makeMap Tryz.prog
  clear hA hdeep hn hn1 hn2 hT hw1 hgm
  go_enter Tryz.func17, Tryz.ntmps17
  go_wp2_with fail
  rw [Hw1.out, Hgm.out]
  clear hmm
  go_loopw [4, 17] (fun p4 vi wr => ∃ k : Nat, k ≤ n ∧ vi = .int .i64 (k : Int) ∧ ∃ V : Value, V = p4 ∧ ∃ st : List Fx, st = (xs.take k).foldl togP [] ∧ st.length ≤ preN xs k ∧ TogI w wr gm V st) (fun _ vi _ => n - (intOf vi).toNat)
  case atStart => exact ⟨0, Nat.zero_le _, rfl, _, rfl, [], rfl, by simp, HI1.out⟩
  case round =>
    obtain ⟨k, hk, rfl, V, rfl, st, hst, hsl, hI⟩ := hrel
    obtain ⟨wo, rfl⟩ : ∃ wo, wo = wr := ⟨_, rfl⟩
    have Hst := Lib.hid hst
    have HI := Lib.hid hI
    have HPst : Hid (∀ y ∈ st, FileAt w y) := Lib.hid (by rw [hst]; exact togP_mem _ _ _ (by simp) (fun nd hnd y hy => by
      have h1 := Hdeep.out nd (List.mem_of_mem_take hnd)
      obtain ⟨_, _, _, _, _, _, _, h2⟩ := h1
      exact h2 y hy))
    clear hst hI
    by_cases hlt : k < n
    · have hkx : k < xs.length := by rw [← Hn.out]; exact hlt
      obtain ⟨b1, o1, rfl, nc1⟩ := node_cell (HA.out.below HI.out.below) hkx
      have HND := Lib.hid (Hdeep.out _ (List.getElem_mem hkx))
      have HTk := Lib.hid (tog_take xs k hkx [])
      have hps := pre_succ xs k hkx
      have hpt := pre_tot xs (k + 1)
      rw [← HT.out] at hpt
      obtain ⟨nd, hnd⟩ : ∃ nd, nd = xs[k] := ⟨_, rfl⟩
      rw [← hnd] at nc1 HND HTk hps
      clear hnd hkx
      obtain ⟨⟨A', n', c'⟩, fl⟩ := nd
      unfold NodeAt at HND
      simp only [slv] at nc1 HND
      (try dsimp only at HND hps)
      obtain ⟨A'', c'', e0, f1, f2, f3, f4, f5⟩ := HND.out
      injection e0 with e1 e2 e3
      subst e1 e2 e3
      have Hf3 := Lib.hid f3
      have Hf5 := Lib.hid f5
      obtain ⟨m, hm⟩ : ∃ m, m = fl.length := ⟨_, rfl⟩
      have hm63 : m ≤ 9223372036854775807 := by unfold maxLen at f2; omega
      rw [← hm] at nc1 hps
      have Hm := Lib.hid hm
      obtain ⟨P0, hP0⟩ : ∃ P, P = preN xs k := ⟨_, rfl⟩
      obtain ⟨P1, hP1⟩ : ∃ P, P = preN xs (k + 1) := ⟨_, rfl⟩
      rw [← hP0] at hsl hps
      rw [← hP1] at hps hpt
      have HP1 := Lib.hid hP1
      have hpm : P0 + m ≤ T := by omega
      have Hps := Lib.hid hps
      clear f1 f2 f3 f4 f5 hm HND hP0 hP1 hps
      go_wp2_with fail
      go_loopw [4, 23] (fun p4 vi wr => ∃ j : Nat, j ≤ m ∧ vi = .int .i64 (j : Int) ∧ ∃ V : Value, V = p4 ∧ ∃ s : List Fx, s = (fl.take j).foldl stepT st ∧ s.length ≤ P0 + j ∧ TogI w wr gm V s) (fun _ vi _ => m - (intOf vi).toNat)
      case atStart => exact ⟨0, Nat.zero_le _, rfl, _, rfl, st, rfl, by omega, HI.out⟩
      case round =>
        obtain ⟨j, hj, rfl, V', rfl, s, hs, hsl', hI'⟩ := hrel
        have Hs := Lib.hid hs
        have HI' := Lib.hid hI'
        clear hs hI' nc1
        by_cases hjl : j < m
        · have hjf : j < fl.length := by rw [← Hm.out]; exact hjl
          obtain ⟨b5, o5, rfl, hc5⟩ := slat_elem (size := 5) fC_len (by omega) Hf3.out hjf
          have HFa := Lib.hid (Hf5.out fl[j] (List.getElem_mem hjf))
          have HsS := Lib.hid (fold_take fl j hjf st)
          have HPs : Hid (∀ y ∈ s, FileAt w y) := Lib.hid (by rw [Hs.out]; exact fold_mem _ _ _ HPst.out (fun y hy => Hf5.out y (List.mem_of_mem_take hy)))
          rw [← Hs.out] at HsS
          obtain ⟨x, hx⟩ : ∃ x, x = fl[j] := ⟨_, rfl⟩
          rw [← hx] at hc5 HFa HsS
          obtain ⟨⟨nm, bs, sp, nd, gn⟩, As, ln, cp⟩ := x
          have t0 : wr.cell? ⟨b5, o5 + j * 5, none⟩ = some (.string (strB nm)) := cell_below HI'.out.below (hc5 0 _ rfl)
          have t1 : wr.cell? ⟨b5, o5 + j * 5 + 1, none⟩ = some (.slice As ln cp) := cell_below HI'.out.below (hc5 1 _ rfl)
          have t2 : wr.cell? ⟨b5, o5 + j * 5 + 2, none⟩ = some (.int .i64 sp) := cell_below HI'.out.below (hc5 2 _ rfl)
          have t3 : wr.cell? ⟨b5, o5 + j * 5 + 3, none⟩ = some (.int .i64 nd) := cell_below HI'.out.below (hc5 3 _ rfl)
          have t4 : wr.cell? ⟨b5, o5 + j * 5 + 4, none⟩ = some (.bool gn) := cell_below HI'.out.below (hc5 4 _ rfl)
          obtain ⟨wf, hwf⟩ : ∃ wf, wf = wr.alloc (.cells #[.string (strB nm), .slice As ln cp, .int .i64 sp, .int .i64 nd, .bool gn] 49) := ⟨_, rfl⟩
          obtain ⟨gf, hgf⟩ : ∃ gf, gf = wr.heap.size := ⟨_, rfl⟩
          have hbf : Below wr.heap.size wr wf := by rw [hwf]; exact (Below.refl _ _).alloc (Nat.le_refl _) _
          have HBf := Lib.hid (show Blk wf gf 49 #[.string (strB nm), .slice As ln cp, .int .i64 sp, .int .i64 nd, .bool gn] by rw [hwf, hgf]; exact Blk.new _ _ _)
          have HIf := Lib.hid (HI'.out.step hbf)
          have Hgf := Lib.hid hgf.symm
          have Hwf := Lib.hid hwf.symm
          have hgl := HBf.out.lt
          have hs1 : (s.length + 1) * 16 ≤ 140737488355328 := by omega
          clear hjf hc5 hx hwf hgf hbf
          cases hg : stGet s nm with
          | none =>
            have HG1 : Hid ((mget (alT s) nm).getD zF = .agg #[.string ⟨#[]⟩, .slice none 0 0, .int .i64 0, .int .i64 0, .bool false]) := Lib.hid (by rw [al_get, hg]; rfl)
            have HG2 : Hid ((mget (alT s) nm).isSome = false) := Lib.hid (by rw [al_get, hg]; rfl)
            have HsN : Hid ((fl.take (j + 1)).foldl stepT st = stPut s (⟨nm, bs, sp, nd, gn⟩, As, ln, cp)) := Lib.hid (by
              rw [HsS.out]
              have hn : stNew s (⟨nm, bs, sp, nd, gn⟩, As, ln, cp) = true := by unfold stNew; rw [hg]
              unfold stepT; rw [if_pos hn])
            have HpN := Lib.hid (put_none (x := (⟨nm, bs, sp, nd, gn⟩, As, ln, cp)) hg)
            obtain ⟨w9, hw9⟩ : ∃ w9, w9 = wf.alloc (.cells #[.string ⟨#[]⟩, .slice none 0 0, .int .i64 0, .int .i64 0, .bool false] 49) := ⟨_, rfl⟩
            obtain ⟨w10, hw10⟩ : ∃ w10, w10 = w9.alloc (.cells #[.string (strB nm)] 9) := ⟨_, rfl⟩
            have hb9 : Below wf.heap.size wf w9 := by rw [hw9]; exact (Below.refl _ _).alloc (Nat.le_refl _) _
            have hb10 : Below wf.heap.size wf w10 := by rw [hw10]; exact hb9.alloc hb9.size _
            have HI10 := Lib.hid (HIf.out.step hb10)
            have HB10 := Lib.hid (HBf.out.below hb10 HBf.out.lt)
            have Hsl10 : Hid (SlAt w10 (some ⟨wf.heap.size + 1, 0, none⟩) [.string (strB nm)]) := Lib.hid (by
              have e : wf.heap.size + 1 = w9.heap.size := by rw [hw9]; simp
              rw [hw10, e]; exact SlAt.of_heap (heap_alloc_new w9 _) rfl)
            have Hw10 : Hid ((wf.alloc (.cells #[.string ⟨#[]⟩, .slice none 0 0, .int .i64 0, .int .i64 0, .bool false] 49)).alloc (.cells #[.string (strB nm)] 9) = w10) := Lib.hid (by rw [hw10, hw9])
            have HVl : Hid (∀ g, V'.ownBlock = some g → g < gf) := Lib.hid (fun g hg => by
              have := (HI'.out.row.lt g hg).2
              have h2 := Hgf.out
              omega)
            obtain ⟨ex0, ex1, ex2, ex3, ex4⟩ := blk5 HBf.out
            clear hw9 hw10 hb9 hb10 hg
            go_wp2_with (first
              | (at_lookup; rw [Hwf.out, Hgf.out]; refine wpList_kmlook_ok' rfl (.tmp 28) (.tmp 30) 72 rfl gm (alT s) HIf.out.km Tryz.underlying72 Tryz.underlying9 keyF_str (zeroF _) nm rfl rfl _ _ HG1.out HG2.out ?_)
              | (at_builtin; rw [Hw10.out]; refine wpList_app _ rfl (.tmp 36) (.tmp 39) _ rfl w.heap.size 9 _ 1 16 tyS_ _ s.length ((nmT s).map sv) rfl HI10.out.row (some ⟨wf.heap.size + 1, 0, none⟩) 1 1 [.string (strB nm)] rfl rfl Hsl10.out (by simp [Value.oneCell']) (by simp) (by unfold maxLen; omega) (by omega) HI10.out.below.size ?_; intro v11 w11 hown11 hg11 _; have Ho11 := Lib.hid hown11; have Hg11 := Lib.hid hg11; have HK11 := Lib.hid (HI10.out.km.grown hg11 (own_no_map HI10.out.row HI10.out.km)); have HB11 := Lib.hid (HB10.out.grown hg11 (fun e => by have := HVl.out _ e; omega)); have hgl11 := HB11.out.lt; obtain ⟨ey0, ey1, ey2, ey3, ey4⟩ := blk5 HB11.out; clear hown11 hg11)
              | (at_mapUpdate; refine wpList_kmput rfl (.tmp 49) (.tmp 51) (.tmp 52) _ rfl gm (alT s) HK11.out Tryz.underlying72 Tryz.underlying9 keyF_str nm (fV (⟨nm, bs, sp, nd, gn⟩, As, ln, cp)) rfl rfl rfl ?_; intro w12 hk12 hg12; have Hk12 := Lib.hid hk12; have Hg12 := Lib.hid hg12; clear hk12 hg12))
            have HI12 : Hid (TogI w w12 gm v11 (stPut s (⟨nm, bs, sp, nd, gn⟩, As, ln, cp))) := Lib.hid ⟨(own_below HI10.out.row Hg11.out HI10.out.below HI10.out.below.size).grown Hg12.out (Nat.le_trans HI10.out.below.size Hg11.out.size) (fun q hq => by injection hq with hq; rw [← hq]; exact HI'.out.le), by
              rw [HpN.out, List.length_append]
              have := Ho11.out.kept Hg12.out (.inr (own_no_map Ho11.out HK11.out))
              simpa [nmT, sv] using this, by rw [← al_put]; exact Hk12.out, HI'.out.le⟩
            clear ex0 ex1 ex2 ex3 ex4 ey0 ey1 ey2 ey3 ey4
            go_roundw
            case rel => exact ⟨j + 1, by omega, by go_num, _, rfl, _, HsN.out.symm, by rw [HpN.out, List.length_append]; simp; omega, HI12.out⟩
            case measure => simp [intOf]; omega
          | some o =>
            have HG1 : Hid ((mget (alT s) nm).getD zF = fV o) := Lib.hid (by rw [al_get, hg]; rfl)
            have HG2 : Hid ((mget (alT s) nm).isSome = true) := Lib.hid (by rw [al_get, hg]; rfl)
            have Ho := Lib.hid (HPs.out o (stGet_mem hg).1)
            have HNew : Hid (stNew s (⟨nm, bs, sp, nd, gn⟩, As, ln, cp) = decide (0 < later (⟨nm, bs, sp, nd, gn⟩ : Fl) o.1)) := Lib.hid (by unfold stNew; rw [hg])
            have HpS := Lib.hid (put_some (x := (⟨nm, bs, sp, nd, gn⟩, As, ln, cp)) hg)
            obtain ⟨⟨n2, b2, s2, d2, g2⟩, A2, l2, c2⟩ := o
            unfold fV slv at HG1
            dsimp only at HG1 HNew
            obtain ⟨w9, hw9⟩ : ∃ w9, w9 = wf.alloc (.cells #[.string (strB n2), .slice A2 l2 c2, .int .i64 s2, .int .i64 d2, .bool g2] 49) := ⟨_, rfl⟩
            have hb9 : Below wf.heap.size wf w9 := by rw [hw9]; exact (Below.refl _ _).alloc (Nat.le_refl _) _
            have HI9 := Lib.hid (HIf.out.step hb9)
            have HB9 := Lib.hid (HBf.out.below hb9 HBf.out.lt)
            have Hw9 := Lib.hid hw9.symm
            obtain ⟨ex0, ex1, ex2, ex3, ex4⟩ := blk5 HBf.out
            have HLa := Lib.hid (refLater_any (⟨nm, bs, sp, nd, gn⟩, As, ln, cp) (⟨n2, b2, s2, d2, g2⟩, A2, l2, c2) w9 (HFa.out.below HI9.out.below) (Ho.out.below HI9.out.below))
            unfold fV slv at HLa
            dsimp only at HLa
            clear hw9 hb9 hg
            go_wp2_with (at_lookup; rw [Hwf.out, Hgf.out]; refine wpList_kmlook_ok' rfl (.tmp 28) (.tmp 30) 72 rfl gm (alT s) HIf.out.km Tryz.underlying72 Tryz.underlying9 keyF_str (zeroF _) nm rfl rfl _ _ HG1.out HG2.out ?_)
            rw [Hw9.out]
            refine (HLa.out).mono ?_
            rintro e w10 ⟨rfl, hb10⟩
            have HI10 := Lib.hid (HI9.out.step hb10)
            have HB10 := Lib.hid (HB9.out.below hb10 HB9.out.lt)
            obtain ⟨z, hz⟩ : ∃ z, later (⟨nm, bs, sp, nd, gn⟩ : Fl) ⟨n2, b2, s2, d2, g2⟩ = z := ⟨_, rfl⟩
            rw [hz] at HNew ⊢
            have hgl10 := HB10.out.lt
            clear hb10 hz ex0 ex1 ex2 ex3 ex4 HLa
            obtain ⟨ex0, ex1, ex2, ex3, ex4⟩ := blk5 HB10.out
            by_cases h0 : 0 < z
            · have HsN : Hid ((fl.take (j + 1)).foldl stepT st = stPut s (⟨nm, bs, sp, nd, gn⟩, As, ln, cp)) := Lib.hid (by
                rw [HsS.out]; unfold stepT; rw [if_pos (by rw [HNew.out]; exact decide_eq_true h0)])
              have HsL : Hid ((stPut s (⟨nm, bs, sp, nd, gn⟩, As, ln, cp)).length = s.length) := Lib.hid (by
                have := congrArg List.length HpS.out
                simpa [nmT] using this)
              go_wp2_with (at_mapUpdate; refine wpList_kmput rfl (.tmp 49) (.tmp 51) (.tmp 52) _ rfl gm (alT s) HI10.out.km Tryz.underlying72 Tryz.underlying9 keyF_str nm (fV (⟨nm, bs, sp, nd, gn⟩, As, ln, cp)) rfl rfl rfl ?_; intro w12 hk12 hg12; have Hk12 := Lib.hid hk12; have Hg12 := Lib.hid hg12; clear hk12 hg12)
              have HI12 : Hid (TogI w w12 gm V' (stPut s (⟨nm, bs, sp, nd, gn⟩, As, ln, cp))) := Lib.hid ⟨HI10.out.below.grown Hg12.out HI10.out.below.size (fun q hq => by injection hq with hq; rw [← hq]; exact HI'.out.le), by
                rw [HsL.out, HpS.out]
                exact HI10.out.row.kept Hg12.out (.inr (own_no_map HI10.out.row HI10.out.km)), by rw [← al_put]; exact Hk12.out, HI'.out.le⟩
              clear ex0 ex1 ex2 ex3 ex4
              go_roundw
              case rel => exact ⟨j + 1, by omega, by go_num, _, rfl, _, HsN.out.symm, by rw [HsL.out]; omega, HI12.out⟩
              case measure => simp [intOf]; omega
            · have HsN : Hid ((fl.take (j + 1)).foldl stepT st = s) := Lib.hid (by
                rw [HsS.out]; unfold stepT; rw [if_neg (by rw [HNew.out]; simp [h0])])
              go_wp2_with fail
              clear ex0 ex1 ex2 ex3 ex4
              go_roundw
              case rel => exact ⟨j + 1, by omega, by go_num, _, rfl, _, HsN.out.symm, by omega, HI10.out⟩
              case measure => simp [intOf]; omega
        · obtain rfl : m = j := by omega
          have HstN : Hid ((xs.take (k + 1)).foldl togP [] = s) := Lib.hid (by
            rw [HTk.out, ← Hst.out, Hs.out]
            unfold togP
            dsimp only
            rw [List.take_of_length_le (by rw [← Hm.out]; exact Nat.le_refl _)])
          go_wp2_with fail
          go_roundw
          case rel => exact ⟨k + 1, by omega, by go_num, _, rfl, s, HstN.out.symm, by rw [← HP1.out, Hps.out]; omega, HI'.out⟩
          case measure => simp [intOf]; omega
    · obtain rfl : n = k := by omega
      have HstA : Hid (st = xs.foldl togP []) := Lib.hid (by rw [Hst.out, List.take_of_length_le (by rw [← Hn.out]; exact Nat.le_refl _)])
      have hpt := pre_tot xs n
      rw [← HT.out] at hpt
      have hsT : st.length ≤ T := by omega
      have HPst2 : Hid (∀ y ∈ st, FileAt w y) := HPst
      clear hsl hpt
      have HSo := Lib.hid (sortStrs_any w.heap.size st.length V (nmT st) wo HI.out.row (by omega))
      go_wp2_with fail
      refine (HSo.out).mono ?_
      rintro e w2 ⟨rfl, ⟨ts, hp, hle, hrow⟩, hg⟩
      have HK2 := Lib.hid (HI.out.km.grown hg (own_no_map HI.out.row HI.out.km))
      have Hb2 := Lib.hid (own_below HI.out.row hg HI.out.below HI.out.below.size)
      obtain ⟨N, hN⟩ : ∃ N, N = st.length := ⟨_, rfl⟩
      have HN := Lib.hid hN
      have HtsL : Hid (ts.length = N) := Lib.hid (by rw [hN, hp.length_eq]; simp [nmT])
      rw [← hN] at hrow hsT
      obtain ⟨Av, cv, hVs, _, _, hsv, _⟩ := own_slat hrow
      have Hrow := Lib.hid hrow
      have Hp := Lib.hid hp
      have Hle := Lib.hid hle
      have HGet : Hid (∀ t ∈ ts, ∃ x, stGet st t = some x) := Lib.hid (fun t ht => by
        cases h : stGet st t with
        | none => exact absurd (hp.mem_iff.1 ht) (stGet_none.1 h)
        | some x => exact ⟨x, rfl⟩)
      subst hVs
      clear hrow hp hle hg hsv hN HSo
      go_wp2_with fail
      go_loopw [11, 59] (fun p11 vi wr => ∃ k : Nat, k ≤ N ∧ vi = .int .i64 (k : Int) ∧ ∃ V : Value, V = p11 ∧ ∃ os : List Fx, os = outT st (ts.take k) ∧ os.length ≤ k ∧ wr.ownsRow w.heap.size 49 5 V os.length (os.flatMap fC) ∧ wr.ownsRow w.heap.size 9 1 (.slice Av N cv) N (ts.map sv) ∧ KM sv wr gm (alT st) ∧ Below w.heap.size w wr) (fun _ vi _ => N - (intOf vi).toNat)
      case atStart => exact ⟨0, Nat.zero_le _, rfl, _, rfl, [], rfl, by simp, World.ownsRow_nil _ _ _ _, Hrow.out, HK2.out, Hb2.out⟩
      case round =>
        obtain ⟨k, hk, rfl, V, rfl, os, hos, hol, hown, hnr, hkm, hb⟩ := hrel
        have Hos := Lib.hid hos
        have Hown := Lib.hid hown
        have Hnr := Lib.hid hnr
        have Hkm := Lib.hid hkm
        have Hb := Lib.hid hb
        clear hos hown hnr hkm hb
        by_cases hlt : k < N
        · have hkt : k < ts.length := by rw [HtsL.out]; exact hlt
          obtain ⟨Av', cv', e0, _, _, hsv, _⟩ := own_slat Hnr.out
          injection e0 with e1 e2 e3
          subst e1 e3
          obtain ⟨bn, on, rfl, hcn⟩ := SlAt.get hsv (k := k) (by rw [List.length_map]; exact hkt)
          rw [List.getElem_map] at hcn
          obtain ⟨x, hx⟩ := HGet.out ts[k] (List.getElem_mem hkt)
          have HosN : Hid (outT st (ts.take (k + 1)) = os ++ [x]) := Lib.hid (by
            rw [take_snoc _ _ hkt, Hos.out]
            unfold outT
            rw [List.filterMap_append]
            simp [hx])
          obtain ⟨t, ht⟩ : ∃ t, t = ts[k] := ⟨_, rfl⟩
          rw [← ht] at hcn hx
          have HG1 : Hid ((mget (alT st) t).getD zF = fV x) := Lib.hid (by rw [al_get, hx]; rfl)
          obtain ⟨⟨n2, b2, s2, d2, g2⟩, A2, l2, c2⟩ := x
          unfold fV slv at HG1
          dsimp only at HG1
          unfold sv at hcn
          obtain ⟨w9, hw9⟩ : ∃ w9, w9 = wr.alloc (.cells #[.string (strB n2), .slice A2 l2 c2, .int .i64 s2, .int .i64 d2, .bool g2] 49) := ⟨_, rfl⟩
          have hb9 : Below wr.heap.size wr w9 := by rw [hw9]; exact (Below.refl _ _).alloc (Nat.le_refl _) _
          have Hown9 := Lib.hid (own_keep Hown.out hb9)
          have Hnr9 := Lib.hid (own_keep Hnr.out hb9)
          have Hkm9 := Lib.hid (Hkm.out.below hb9)
          have Hb9 := Lib.hid (Hb.out.trans (hb9.mono Hb.out.size))
          have Hsl9 : Hid (SlAt w9 (some ⟨wr.heap.size, 0, none⟩) [.string (strB n2), .slice A2 l2 c2, .int .i64 s2, .int .i64 d2, .bool g2]) := Lib.hid (by rw [hw9]; exact SlAt.of_heap (heap_alloc_new wr _) rfl)
          have Hw9 := Lib.hid hw9.symm
          have hs1 : (os.length + 1) * 64 ≤ 140737488355328 := by omega
          clear hkt hsv ht hx hw9 hb9
          go_wp2_with (first
            | (at_lookup; refine wpList_kmlook' rfl (.tmp 64) (.tmp 65) 72 rfl gm (alT st) Hkm.out Tryz.underlying72 Tryz.underlying9 keyF_str (zeroF _) t rfl rfl _ HG1.out ?_)
            | (at_builtin; rw [Hw9.out]; refine wpList_app _ rfl (.tmp 63) (.tmp 67) _ rfl w.heap.size 49 _ 5 64 tyF _ os.length (os.flatMap fC) rfl Hown9.out (some ⟨wr.heap.size, 0, none⟩) 1 1 [.string (strB n2), .slice A2 l2 c2, .int .i64 s2, .int .i64 d2, .bool g2] rfl rfl Hsl9.out (by simp [Value.oneCell']) (by simp) (by unfold maxLen; omega) (by omega) Hb9.out.size ?_; intro v10 w10 hown10 hg10 _; have Ho10 := Lib.hid hown10; have Hg10 := Lib.hid hg10; clear hown10 hg10))
          have Hnr10 := Lib.hid (Hnr9.out.kept Hg10.out (own_apart_ty Hnr9.out Hown9.out (by decide)))
          have Hkm10 := Lib.hid (Hkm9.out.grown Hg10.out (own_no_map Hown9.out Hkm9.out))
          have Hb10 := Lib.hid (own_below Hown9.out Hg10.out Hb9.out Hb9.out.size)
          go_roundw
          case rel => exact ⟨k + 1, by omega, by go_num, _, rfl, _, HosN.out.symm, by simp; omega, by rw [List.length_append, List.flatMap_append]; exact Ho10.out, Hnr10.out, Hkm10.out, Hb10.out⟩
          case measure => simp [intOf]; omega
        · obtain rfl : N = k := by omega
          have HoA : Hid (os = outT st ts) := Lib.hid (by rw [Hos.out, List.take_of_length_le (by rw [HtsL.out]; exact Nat.le_refl _)])
          go_wp2_with fail
          go_ret
          refine ⟨_, os, rfl, Hown.out, ?_, ?_, Hb.out⟩
          · intro x hx
            rw [HoA.out] at hx
            have := togP_mem xs [] (fun x => ∃ n ∈ xs, x ∈ n.2) (by simp) (fun n hn x hx => ⟨n, hn, hx⟩) x (by rw [← HstA.out]; exact out_mem hx)
            exact this
          · intro hsr
            rw [HoA.out]
            refine out_is st ts _ ?_ (fun n => ?_) ?_ Hp.out (Hle.out.imp (fun h => (le_cb _ _).1 h))
            · exact allB_srt _ _ (by simp [Srt]) (fun l hl => by obtain ⟨m, hm, rfl⟩ := List.mem_map.1 hl; exact hsr m hm)
            · rw [HstA.out]; exact togP_lk xs hsr n
            · rw [HstA.out]; exact togP_nodup xs [] (by simp [nmT])
end Go.Proofs.YtdoegpklephelaaGreatDoor.Merge

/- reliquaryref: OwnFiles. -/
namespace Go.Proofs.YtdoegpklephelaaGreatDoor.Merge
open Go Go.RowKit Go.Proofs.YtdoegpklephelaaGreatDoor Go.Proofs.YtdoegpklephelaaGreatDoor.Name Go.Proofs.YtdoegpklephelaaGreatDoor.Worlds
set_option linter.unusedVariables false

theorem tyU : SliceTy Tryz.prog 27 5 (.int .u8 0) 1 1 := ⟨Tryz.underlying27, by kernel_rfl, rfl, by omega⟩
/-- one more file -/
theorem OwnFs.snoc_ {w w' : World} {base : Nat} {v v' : Value} {ps : List Fx} {f : Fx} (h : OwnFs w base v ps) (hf : OwnF w base f) (ho : w'.ownsRow base 49 5 v' (ps.length + 1) (ps.flatMap fC ++ fC f)) (hg : w.grownBy w' v.ownBlock) (hb : base ≤ w.heap.size) : OwnFs w' base v' (ps ++ [f]) := by
  have hk : Keeps base [49] w w' := (Keeps.refl base _ w).grown h.row hg (by simp) hb
  refine ⟨?_, fun x hx => ?_⟩
  · rw [List.length_append, List.flatMap_append]
    simpa using ho
  · rcases List.mem_append.1 hx with hx | hx
    · exact ⟨hk.own (h.each x hx).own (by decide), (h.each x hx).name, (h.each x hx).stamp, (h.each x hx).node⟩
    · simp at hx; subst hx
      exact ⟨hk.own hf.own (by decide), hf.name, hf.stamp, hf.node⟩
def OwnPost (l : List Fl) (w : World) (e : Ending) (w' : World) : Prop :=
  ∃ (v' : Value) (l' : List Fx), e = .returned v' ∧ OwnFs w' w.heap.size v' l' ∧ l'.map Prod.fst = l ∧ Below w.heap.size w w'
set_option maxRecDepth 100000 in
set_option maxHeartbeats 4000000 in
theorem ownFiles_any (v : Value) (l : List Fx) (w : World) (h : IsFiles w v l) (hk : FsK sizedK l) :
    Calls Tryz.prog 19 #[v] w (OwnPost (l.map Prod.fst) w) := by
  obtain ⟨A, c, rfl, hn1, hn2, hA, _, hda⟩ := h
  obtain ⟨hk1, hk2⟩ := hk
  unfold sizedK at hk1
  have HA := Lib.hid hA
  have Hda := Lib.hid hda
  have HK2 := Lib.hid hk2
  obtain ⟨n, hn⟩ : ∃ n, n = l.length := ⟨_, rfl⟩
  have Hn := Lib.hid hn
  rw [← hn] at hk1 ⊢
  have hn63 : n ≤ 9223372036854775807 := by omega
  clear hA hda hk2 hn hn1 hn2
  go_enter Tryz.func19, Tryz.ntmps19
  go_wp2_with fail
  go_loopw [3, 8] (fun p3 vi wr => ∃ k : Nat, k ≤ n ∧ vi = .int .i64 (k : Int) ∧ ∃ V : Value, V = p3 ∧ ∃ os : List Fx, os.map Prod.fst = (l.take k).map Prod.fst ∧ os.length = k ∧ OwnFs wr w.heap.size V os ∧ Below w.heap.size w wr) (fun _ vi _ => n - (intOf vi).toNat)
  case atStart => exact ⟨0, Nat.zero_le _, rfl, _, rfl, [], rfl, rfl, OwnFs.nil _ _, Below.refl _ _⟩
  case round =>
    obtain ⟨k, hk, rfl, V, rfl, os, hos, hol, hown, hb⟩ := hrel
    have Hos := Lib.hid hos
    have Hol := Lib.hid hol
    have Hown := Lib.hid hown
    have Hb := Lib.hid hb
    clear hos hol hown hb
    by_cases hlt : k < n
    · have hkl : k < l.length := by rw [← Hn.out]; exact hlt
      obtain ⟨ba, oa, rfl, ca0, ca1, ca2, ca3, ca4⟩ := files_cells (HA.out.below Hb.out) hkl
      have Hfx := Lib.hid ((Hda.out l[k] (List.getElem_mem hkl)).below Hb.out)
      have hkb := HK2.out l[k] (List.getElem_mem hkl)
      have Htk : Hid ((l.take (k + 1)).map Prod.fst = os.map Prod.fst ++ [l[k].1]) := Lib.hid (by rw [take_snoc _ _ hkl, List.map_append, Hos.out]; rfl)
      generalize l[k] = x at *
      obtain ⟨⟨nm, bs, st, nd, gn⟩, As, ln, cp⟩ := x
      simp only [slv] at ca0 ca1 ca2 ca3 ca4
      dsimp only at hkb Htk
      have hlb := Hfx.out.len
      dsimp only at hlb
      have Hlb := Lib.hid hlb
      unfold sizedK at hkb
      rw [← hlb] at hkb
      have HByt := Lib.hid Hfx.out.at_
      have HAn : Hid (As = none → ln = 0) := Lib.hid (fun e => by
        rcases Nat.eq_zero_or_pos ln with h | h
        · exact h
        · obtain ⟨_, _, e2, _⟩ := Hfx.out.at_ (by simp; omega)
          rw [e] at e2; cases e2)
      obtain ⟨wf, hwf⟩ : ∃ wf, wf = wr.alloc (.cells #[.string (strB nm), .slice As ln cp, .int .i64 st, .int .i64 nd, .bool gn] 49) := ⟨_, rfl⟩
      obtain ⟨gf, hgf⟩ : ∃ gf, gf = wr.heap.size := ⟨_, rfl⟩
      have hbf : Below wr.heap.size wr wf := by rw [hwf]; exact (Below.refl _ _).alloc (Nat.le_refl _) _
      have HBf := Lib.hid (show Blk wf gf 49 #[.string (strB nm), .slice As ln cp, .int .i64 st, .int .i64 nd, .bool gn] by rw [hwf, hgf]; exact Blk.new _ _ _)
      obtain ⟨w1, hw1⟩ : ∃ w1, w1 = wf.alloc (.cells #[] 5) := ⟨_, rfl⟩
      have hb1 : Below wr.heap.size wr w1 := by rw [hw1]; exact hbf.alloc hbf.size _
      have hwz : wf.heap.size = wr.heap.size + 1 := by rw [hwf]; simp
      have Hz1 : Hid (w1.ownsRow wr.heap.size 5 1 (.slice (some ⟨wr.heap.size + 1, 0, none⟩) 0 0) 0 []) := Lib.hid (own_zero w1 wr.heap.size 5 1 (wr.heap.size + 1) 0 #[] (by omega) (by rw [hw1, ← hwz]; exact heap_alloc_new wf _) (by unfold maxLen; omega) rfl)
      have Hb1 := Lib.hid hb1
      have HB1 := Lib.hid (HBf.out.below (show Below wf.heap.size wf w1 by rw [hw1]; exact (Below.refl _ _).alloc (Nat.le_refl _) _) HBf.out.lt)
      have HBy1 := Lib.hid (HByt.out.below hb1)
      have Hw1 : Hid ((wr.alloc (.cells #[.string (strB nm), .slice As ln cp, .int .i64 st, .int .i64 nd, .bool gn] 49)).alloc (.cells #[] 5) = w1) := Lib.hid (by rw [hw1, hwf])
      have Hgf := Lib.hid hgf.symm
      have hVl : Hid (∀ g, V.ownBlock = some g → g < wr.heap.size) := Lib.hid (fun g hg => (Hown.out.row.lt g hg).2)
      have Hne : Hid ((Value.slice (some ⟨wr.heap.size + 1, 0, none⟩) 0 0).ownBlock ≠ some gf) := Lib.hid (fun e => by
        have : wr.heap.size + 1 = gf := by simpa [Value.ownBlock] using e
        omega)
      clear hlb hwf hgf hbf hw1 hb1 hwz
      go_wp2_with (first
        | (at_builtin; rw [Hw1.out]; refine wpList_app _ rfl (.tmp 12) (.tmp 14) _ rfl wr.heap.size 5 _ 1 1 tyU _ 0 [] rfl Hz1.out As ln cp (bs.map u8v) rfl (by rw [List.length_map, Nat.mul_one]; exact Hlb.out.symm) HBy1.out (u8s_one _) HAn.out (by unfold maxLen; omega) (by omega) Hb1.out.size ?_; intro v2 w2 hown2 hg2 hl2; clear hl2; rw [Nat.zero_add, List.nil_append] at hown2; have Hb2 := Lib.hid (own_below Hz1.out hg2 Hb1.out Hb1.out.size); have HB2 := Lib.hid (HB1.out.grown hg2 Hne.out); obtain ⟨A2, c2, hv2, _, _, _, _⟩ := own_slat hown2; subst hv2; have HF2 : Hid (OwnF w2 wr.heap.size (⟨nm, bs, st, nd, gn⟩, A2, ln, c2)) := Lib.hid ⟨by rw [Hlb.out] at hown2; rw [Hlb.out]; exact hown2, Hfx.out.name, Hfx.out.stamp, Hfx.out.node⟩; clear hown2 hg2; have hgl := HB2.out.lt; have hf2 := HB2.out.frozen 1; obtain ⟨e0, e1, e2, e3, e4⟩ := blk5 HB2.out; obtain ⟨w3, hw3⟩ : ∃ w3, w3 = w2.setCell ⟨gf, 1, none⟩ (.slice A2 ln c2) := ⟨_, rfl⟩; obtain ⟨w4, hw4⟩ : ∃ w4, w4 = w3.alloc (.cells #[.string (strB nm), .slice A2 ln c2, .int .i64 st, .int .i64 nd, .bool gn] 49) := ⟨_, rfl⟩; have hb3 : Below wr.heap.size wr w3 := (by rw [hw3]; exact Hb2.out.setCell (p := ⟨gf, 1, none⟩) (Nat.le_of_eq Hgf.out) _); have hb4 : Below wr.heap.size wr w4 := (by rw [hw4]; exact hb3.alloc hb3.size _); have h34 : Below w3.heap.size w3 w4 := (by rw [hw4]; exact (Below.refl _ _).alloc (Nat.le_refl _) _); have HF4 : Hid (OwnF w4 w.heap.size (⟨nm, bs, st, nd, gn⟩, A2, ln, c2)) := Lib.hid (((by rw [hw3]; exact HF2.out.set_ HB2.out 1 _ : OwnF w3 wr.heap.size (⟨nm, bs, st, nd, gn⟩, A2, ln, c2)).below h34).base_ Hb.out.size); have HO4 := Lib.hid (Hown.out.below hb4); have Hb4 := Lib.hid (Hb.out.trans (hb4.mono Hb.out.size)); have hz3 : w3.heap.size = w2.heap.size := (by rw [hw3]; simp [World.setCell]); have Hsl4 : Hid (SlAt w4 (some ⟨w2.heap.size, 0, none⟩) [.string (strB nm), .slice A2 ln c2, .int .i64 st, .int .i64 nd, .bool gn]) := Lib.hid (by rw [hw4, ← hz3]; exact SlAt.of_heap (heap_alloc_new w3 _) rfl); have Hw4 : Hid ((w2.setCell ⟨gf, 1, none⟩ (.slice A2 ln c2)).alloc (.cells #[.string (strB nm), .slice A2 ln c2, .int .i64 st, .int .i64 nd, .bool gn] 49) = w4) := Lib.hid (by rw [hw4, hw3]); clear hw3 hw4 hb3 hb4 h34 hz3; (try rw [Hgf.out]))
        | (at_builtin; rw [Hw4.out]; refine wpList_app _ rfl (.tmp 17) (.tmp 19) _ rfl w.heap.size 49 _ 5 64 tyF _ os.length (os.flatMap fC) rfl HO4.out.row (some ⟨w2.heap.size, 0, none⟩) 1 1 [.string (strB nm), .slice A2 ln c2, .int .i64 st, .int .i64 nd, .bool gn] rfl rfl Hsl4.out (by simp [Value.oneCell']) (by simp) (by have := Hol.out; unfold maxLen; omega) (by have := Hol.out; omega) Hb4.out.size ?_; intro v5 w5 hown5 hg5 hl5; have Ho5 := Lib.hid hown5; have Hg5 := Lib.hid hg5; clear hown5 hg5 hl5))
      have HO5 := Lib.hid (OwnFs.snoc_ HO4.out HF4.out Ho5.out Hg5.out Hb4.out.size)
      have Hb5 := Lib.hid (own_below HO4.out.row Hg5.out Hb4.out Hb4.out.size)
      go_roundw
      case rel => exact ⟨k + 1, by omega, by go_num, _, rfl, _, by rw [Htk.out, List.map_append]; rfl, by rw [List.length_append, Hol.out]; rfl, HO5.out, Hb5.out⟩
      case measure => simp [intOf]; omega
    · obtain rfl : n = k := by omega
      go_wp2_with fail
      go_ret
      exact ⟨_, os, rfl, Hown.out, by rw [Hos.out, List.take_of_length_le (by rw [← Hn.out]; exact Nat.le_refl _)], Hb.out⟩
end Go.Proofs.YtdoegpklephelaaGreatDoor.Merge
