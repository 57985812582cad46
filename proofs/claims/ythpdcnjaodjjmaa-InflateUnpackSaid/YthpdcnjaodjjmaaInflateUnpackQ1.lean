/- texts joined: Mem App BitsPure CodePure InfPure InAt Open CodeCheck Keep Nats Row0 Src CodeTable CodeNext InfFail. -/
import Derived.Test.YthpdcnjaodjjmaaWords
import Derived.Lib.Hide
import Derived.Deep.Draws
import Derived.Maps.AppendAt
import Derived.Deep.AppendLies
import Derived.Laws.MakeOwn
import Derived.Laws.OwnMore
import Derived.Test.YthpdcnjaodjjmaaProg
import Derived.WalkSpells
import Derived.Deep.QuietTactic
import Derived.BigQuiet
import Derived.ProofKit
import Derived.OpenShut
import Derived.ShutString
import Derived.ChangeOld
import Derived.JoinedCond
import Derived.WalkSmall
/- memory: a slice that is read; a block known whole; what is kept. No program in sight. -/
namespace Go.Proofs.Ythpdcnjaodjjmaa
open Go Go.RowKit

/-- the cells of a slice that is read, from its address on -/
def SlAt (w : World) (A : Option Addr) (cs : List Value) : Prop :=
  0 < cs.length → ∃ b o, A = some ⟨b, o, none⟩ ∧ ∀ j v, cs[j]? = some v → w.cell? ⟨b, o + j, none⟩ = some v

theorem SlAt.keep {w w' : World} {A : Option Addr} {cs : List Value} (h : SlAt w A cs)
    (hk : ∀ p v, w.cell? p = some v → w'.cell? p = some v) : SlAt w' A cs := fun hp => by
  obtain ⟨b, o, e, hc⟩ := h hp
  exact ⟨b, o, e, fun j v hj => hk _ _ (hc j v hj)⟩
theorem cell_below {w w' : World} (hb : Below w.heap.size w w') {p : Addr} {v : Value} (h : w.cell? p = some v) : w'.cell? p = some v := by
  rw [hb.cell (block_lt_of_cell h)]; exact h
theorem SlAt.below {w w' : World} {A : Option Addr} {cs : List Value} (h : SlAt w A cs) (hb : Below w.heap.size w w') : SlAt w' A cs :=
  h.keep fun _ _ hc => cell_below hb hc
theorem SlAt.alloc {w : World} {A : Option Addr} {cs : List Value} (h : SlAt w A cs) (o : Obj) : SlAt (w.alloc o) A cs := h.below ((Below.refl _ _).alloc (Nat.le_refl _) _)
theorem SlAt.drewN {w : World} {A : Option Addr} {cs : List Value} (h : SlAt w A cs) (n : Nat) : SlAt (w.drewN n) A cs := h
theorem SlAt.nil {w : World} {A : Option Addr} : SlAt w A [] := fun h => absurd h (by simp)
theorem SlAt.get {w : World} {A : Option Addr} {cs : List Value} (h : SlAt w A cs) {k : Nat} (hk : k < cs.length) :
    ∃ b o, A = some ⟨b, o, none⟩ ∧ w.cell? ⟨b, o + k, none⟩ = some cs[k] := by
  obtain ⟨b, o, e, hc⟩ := h (by omega)
  exact ⟨b, o, e, hc k _ (by simp [hk])⟩

def u8v (x : UInt8) : Value := .int .u8 (n8 x)
/-- bytes that are read -/
def ByAt (w : World) (A : Option Addr) (xs : List UInt8) : Prop := SlAt w A (xs.map u8v)
theorem ByAt.below {w w' : World} {A : Option Addr} {xs : List UInt8} (h : ByAt w A xs) (hb : Below w.heap.size w w') : ByAt w' A xs := SlAt.below h hb
theorem SlAt.take {w : World} {A : Option Addr} {cs : List Value} (h : SlAt w A cs) (n : Nat) : SlAt w A (cs.take n) := fun hp => by
  obtain ⟨b, o, e, hc⟩ := h (by simp at hp; omega)
  refine ⟨b, o, e, fun j v hj => hc j v ?_⟩
  rw [List.getElem?_take] at hj
  split at hj
  · exact hj
  · cases hj
theorem SlAt.drop {w : World} {b o : Nat} {cs : List Value} (h : SlAt w (some ⟨b, o, none⟩) cs) (n : Nat) : SlAt w (some ⟨b, o + n, none⟩) (cs.drop n) := fun hp => by
  obtain ⟨b', o', e, hc⟩ := h (by simp at hp; omega)
  injection e with e; injection e with e1 e2 e3
  subst e1 e2
  refine ⟨b, o + n, rfl, fun j v hj => ?_⟩
  rw [List.getElem?_drop] at hj
  rw [Nat.add_assoc]
  exact hc _ _ hj
theorem ByAt.take {w : World} {A : Option Addr} {xs : List UInt8} (h : ByAt w A xs) (n : Nat) : ByAt w A (xs.take n) := by
  unfold ByAt; rw [List.map_take]; exact SlAt.take h n
theorem ByAt.drop {w : World} {b o : Nat} {xs : List UInt8} (h : ByAt w (some ⟨b, o, none⟩) xs) (n : Nat) : ByAt w (some ⟨b, o + n, none⟩) (xs.drop n) := by
  unfold ByAt; rw [List.map_drop]; exact SlAt.drop h n
theorem ByAt.get {w : World} {A : Option Addr} {xs : List UInt8} (h : ByAt w A xs) {k : Nat} (hk : k < xs.length) :
    ∃ b o, A = some ⟨b, o, none⟩ ∧ w.cell? ⟨b, o + k, none⟩ = some (.int .u8 (n8 xs[k])) := by
  obtain ⟨b, o, e, hc⟩ := SlAt.get h (k := k) (by simpa using hk)
  exact ⟨b, o, e, by rw [hc]; simp [u8v]⟩

theorem ret_int {k : IntKind} {a b : Int} (h : a = b) : Ending.returned (.int k a) = .returned (.int k b) := by rw [h]
theorem ret_bool {a b : Bool} (h : a = b) : Ending.returned (.bool a) = .returned (.bool b) := by rw [h]
theorem ret_ints {k l : IntKind} {a b c d : Int} (h : a = b) (h' : c = d) : Ending.returned (.tuple #[.int k a, .int l c]) = .returned (.tuple #[.int k b, .int l d]) := by rw [h, h']
theorem int_eq {k : IntKind} {a b : Int} (h : a = b) : Value.int k a = Value.int k b := by rw [h]
theorem take_snoc {α : Type} (l : List α) (k : Nat) (h : k < l.length) : l.take (k + 1) = l.take k ++ [l[k]] := by
  rw [List.take_succ_eq_append_getElem h]

/-- a block known whole -/
def Blk (w : World) (g : Nat) (t : TypeId) (cs : Array Value) : Prop := w.heap[g]? = some (.cells cs t (0, 0))
section
variable {w w' : World} {g : Nat} {t : TypeId} {cs : Array Value}
theorem Blk.lt (h : Blk w g t cs) : g < w.heap.size := lt_of_block h
theorem Blk.cell (h : Blk w g t cs) (i : Nat) : w.cell? ⟨g, i, none⟩ = cs[i]? := cell_of_row w g i cs t (0, 0) h
theorem Blk.frozen (h : Blk w g t cs) (i : Nat) : w.frozen? ⟨g, i, none⟩ = false := by unfold Blk at h; simp [World.frozen?, h]
theorem Blk.new (w : World) (t : TypeId) (cs : Array Value) : Blk (w.alloc (.cells cs t)) w.heap.size t cs := heap_alloc_new w _
theorem Blk.drew (h : Blk w g t cs) : Blk w.drew g t cs := h
theorem Blk.drewN (h : Blk w g t cs) (n : Nat) : Blk (w.drewN n) g t cs := h
theorem Blk.alloc (h : Blk w g t cs) (o : Obj) : Blk (w.alloc o) g t cs := (Below.heap_alloc w o g h.lt).trans h
theorem Blk.set_ (h : Blk w g t cs) (i : Nat) (u : Value) : Blk (w.setCell ⟨g, i, none⟩ u) g t (cs.setIfInBounds i u) := by
  unfold Blk at h ⊢; simp [World.setCell, Array.getElem?_modify, h]
theorem Blk.far (h : Blk w g t cs) {p : Addr} (hp : g ≠ p.block) (u : Value) : Blk (w.setCell p u) g t cs := (Below.heap_setCell w p u g hp).trans h
theorem Blk.below {B : Nat} (h : Blk w g t cs) (hb : Below B w w') (hg : g < B) : Blk w' g t cs := (hb.block g hg).trans h
theorem Blk.setRow (h : Blk w g t cs) (ds : Array Value) : Blk (w.setRow g ds) g t ds := setRow_heap w g cs ds t _ h
end

theorem run_min4 {P : Program} (ts : Array TypeId) (t : TypeId) (a b c d : Nat) (w : World) :
    (Builtin.min_ ts t #[.int .i64 (a : Int), .int .i64 (b : Int), .int .i64 (c : Int), .int .i64 (d : Int)]).run P w = .ok (.int .i64 ((min (min (min a b) c) d : Nat) : Int)) w := by
  simp [Builtin.min_, Builtin.min2]
  (repeat' split) <;> omega
/-- bytes laid in a block of one's own -/
theorem SlAt.of_heap {w : World} {g : Nat} {t : TypeId} {cs : Array Value} {fr : Nat × Nat} {xs : List Value} (h : w.heap[g]? = some (.cells cs t fr)) (e : cs.toList = xs) : SlAt w (some ⟨g, 0, none⟩) xs := fun _ =>
  ⟨g, 0, rfl, fun j v hj => by rw [cell_of_row w g _ cs t fr h, ← hj, ← e]; simp⟩
theorem ByAt.of_blk {w : World} {g : Nat} {t : TypeId} {cs : Array Value} {xs : List UInt8} (h : Blk w g t cs) (e : cs.toList = xs.map u8v) : ByAt w (some ⟨g, 0, none⟩) xs := SlAt.of_heap h e
theorem ByAt.of_new (w : World) (t : TypeId) (cs : Array Value) (fr : Nat × Nat) {xs : List UInt8} (e : cs.toList = xs.map u8v) : ByAt (w.alloc (.cells cs t fr)) (some ⟨w.heap.size, 0, none⟩) xs :=
  SlAt.of_heap (heap_alloc_new w _) e
end Go.Proofs.Ythpdcnjaodjjmaa

/- appending onto a row of the call's own; what a slice's type is; own rows read as slices. No program in sight. -/
namespace Go.Proofs.Ythpdcnjaodjjmaa
open Go Go.RowKit

/-- t is the type of slices of e; an element is so many cells, so many bytes -/
def SliceTy (P : Program) (t e : TypeId) (z : Value) (size bytes : Nat) : Prop :=
  P.underlying t = some (.slice e) ∧ (P.info? e).map (fun i => (i.zero, i.size, i.bytes)) = some (some z, size, bytes) ∧ z.cells.size = size ∧ 0 < size
theorem SliceTy.parts {P : Program} {t e : TypeId} {z : Value} {size bytes : Nat} (h : SliceTy P t e z size bytes) :
    P.underlying t = some (.slice e) ∧ ∃ i, P.info? e = some i ∧ i.zero = some z ∧ i.size = size ∧ i.bytes = bytes ∧ z.cells.size = size ∧ 0 < size := by
  obtain ⟨h1, h2, h3, h4⟩ := h
  obtain ⟨i, hi, hz, hs, hb⟩ := info_parts h2
  exact ⟨h1, i, hi, hz, hs, hb, h3, h4⟩

section
variable {P : Program} (w : World)
theorem run_append_of_nil (base : Nat) (t ty e : TypeId) (i : TypeInfo) (size : Nat) (ht : P.underlying t = some (.slice e)) (hi : P.info? e = some i)
    (v : Value) (n : Nat) (xs : List Value) (hown : w.ownsRow base e size v n xs) (c : Nat) : (Builtin.append_ #[t, t] ty #[v, .slice none 0 c]).run P w = .ok v w := by
  rcases hown.2 with ⟨rfl, rfl⟩ | ⟨g, cap, cur, rfl, _, _, hnc, _⟩
  · simp [Builtin.append_, run_underlying ht, sizeOf, typeInfo, hi, Builtin.lenOf, Builtin.firstCells]
  · simp [Builtin.append_, run_underlying ht, sizeOf, typeInfo, hi, Builtin.lenOf, Builtin.firstCells, hnc, storeCells]
theorem run_app (base : Nat) (t ty e : TypeId) (z : Value) (size bytes : Nat) (hT : SliceTy P t e z size bytes)
    (v : Value) (n : Nat) (xs : List Value) (hown : w.ownsRow base e size v n xs)
    (A : Option Addr) (m c : Nat) (news : List Value) (hl : news.length = m * size) (hr : SlAt w A news) (h1 : ∀ u ∈ news, u.oneCell' = true)
    (hA : A = none → m = 0) (h63 : n + m ≤ maxLen) (hbytes : (n + m) * bytes ≤ 140737488355328) (hbase : base ≤ w.heap.size) :
    ∃ v' w', (Builtin.append_ #[t, t] ty #[v, .slice A m c]).run P w = .ok v' w' ∧ w'.ownsRow base e size v' (n + m) (xs ++ news) ∧ w.grownBy w' v.ownBlock ∧
      (v'.ownBlock = v.ownBlock ∨ v'.ownBlock = some w.heap.size) := by
  obtain ⟨ht, i, hi, hz, hsize, hby, hzs, hsz⟩ := hT.parts
  rcases A with _ | ad
  · have hm := hA rfl
    subst hm
    have hn : news = [] := List.eq_nil_of_length_eq_zero (by simpa using hl)
    subst hn
    exact ⟨v, w, run_append_of_nil w base t ty e i size ht hi v n xs hown c, by simpa using hown, World.grownBy.refl w _, .inl rfl⟩
  · have hcells : ∀ j u, news[j]? = some u → w.cell? (ad.add j) = some u := by
      intro j u hu
      have hj : j < news.length := by
        rcases Nat.lt_or_ge j news.length with h | h
        · exact h
        · rw [List.getElem?_eq_none h] at hu; cases hu
      obtain ⟨b, o, e, hc⟩ := hr (by omega)
      injection e with e
      subst e
      have := hc j u hu
      unfold Addr.add
      split
      · subst_vars; exact this
      · exact this
    obtain ⟨v', w', hrun, h2, h3, _, h5⟩ := run_append_own_at (P := P) w base t ty e i z size bytes ht hi hz hsize hby hzs hsz v n xs hown ad m c news hl hcells h1 h63 hbytes hbase
    exact ⟨v', w', hrun, h2, h3, h5⟩

theorem wpList_app {ops : Array Oper} {rest : List Oper} {o : Oper} {a : Act} {Q : Exit → Act → World → Prop} (hgd : o.guard = none) (s x : Operand) (t : TypeId)
    (ho : o.op = .call { callee := .builtin .append, args := #[s, x], argTypes := #[t, t] })
    (base : Nat) (e : TypeId) (z : Value) (size bytes : Nat) (hT : SliceTy P t e z size bytes)
    (v : Value) (n : Nat) (xs : List Value) (hs : a.eval s = v) (hown : w.ownsRow base e size v n xs)
    (A : Option Addr) (m c : Nat) (news : List Value) (hx : a.eval x = .slice A m c) (hl : news.length = m * size) (hr : SlAt w A news) (h1 : ∀ u ∈ news, u.oneCell' = true)
    (hA : A = none → m = 0) (h63 : n + m ≤ maxLen) (hbytes : (n + m) * bytes ≤ 140737488355328) (hbase : base ≤ w.heap.size)
    (h : ∀ v' w', w'.ownsRow base e size v' (n + m) (xs ++ news) → w.grownBy w' v.ownBlock → (v'.ownBlock = v.ownBlock ∨ v'.ownBlock = some w.heap.size) → wpList P ops Q rest (a.put o.dst v') w') : wpList P ops Q (o :: rest) a w :=
  wpList_plain hgd fun _ hK => by
    obtain ⟨v', w', hrun, h2, h3, h4⟩ := run_app (P := P) w base t o.type e z size bytes hT v n xs hown A m c news hl hr h1 hA h63 hbytes hbase
    unfold Oper.wp execOp
    simp only [ho, resolve, invoke, builtin, Sem.run_bind, Sem.run_pure, Result.andThen_ok, List.map_toArray, List.map_cons, List.map_nil, hs, hx, hrun]
    exact hK _ _ (h v' w' h2 h3 h4)
end

section
variable {w w' : World} {base : Nat} {e : TypeId} {size n : Nat} {v : Value} {xs : List Value}
/-- the frame behind an append onto an own row -/
theorem own_below {w0 : World} (hown : w.ownsRow base e size v n xs) (hg : w.grownBy w' v.ownBlock) (hb : Below base w0 w) (hB : base ≤ w.heap.size) : Below base w0 w' :=
  hb.grown hg hB fun k hk => (hown.lt k hk).1
theorem own_len (hown : w.ownsRow base e size v n xs) : xs.length = n * size := hown.1
/-- an own row reads as a slice -/
theorem own_slat (hown : w.ownsRow base e size v n xs) : ∃ A cap, v = .slice A n cap ∧ n ≤ cap ∧ cap ≤ maxLen ∧ SlAt w A xs ∧ (A = none → n = 0) := by
  rcases hown.2 with ⟨rfl, rfl⟩ | ⟨g, cap, cur, rfl, hbg, hg, hnc, hcm, hcs, htake⟩
  · have : xs = [] := List.eq_nil_of_length_eq_zero (by simpa using hown.1)
    subst this
    exact ⟨none, 0, rfl, Nat.le_refl _, by unfold maxLen; omega, SlAt.nil, fun _ => rfl⟩
  · refine ⟨_, cap, rfl, hnc, hcm, fun _ => ⟨g, 0, rfl, fun j u hu => ?_⟩, by simp⟩
    rw [cell_of_row w g _ cur e (0, 0) hg]
    rw [← htake, List.getElem?_take] at hu
    split at hu
    · simpa using hu
    · cases hu
theorem own_bytes {ys : List UInt8} (hown : w.ownsRow base e 1 v n (ys.map u8v)) : ∃ A cap, v = .slice A ys.length cap ∧ ys.length ≤ cap ∧ cap ≤ maxLen ∧ ByAt w A ys := by
  obtain ⟨A, cap, rfl, h1, h2, h3, _⟩ := own_slat hown
  have hn : n = ys.length := by have := own_len hown; simp at this; omega
  subst hn
  exact ⟨A, cap, rfl, h1, h2, h3⟩
/-- an own row, kept where nothing below the heap's size of then has turned -/
theorem own_keep (hown : w.ownsRow base e size v n xs) (hb : Below w.heap.size w w') : w'.ownsRow base e size v n xs := by
  refine ⟨hown.1, ?_⟩
  rcases hown.2 with h | ⟨g, cap, cur, rfl, hbg, hg, r⟩
  · exact .inl h
  · exact .inr ⟨g, cap, cur, rfl, hbg, by rw [hb.block g (lt_of_block hg)]; exact hg, r⟩
theorem own_drew (hown : w.ownsRow base e size v n xs) : w.drew.ownsRow base e size v n xs := hown
theorem own_base {base' : Nat} (hown : w.ownsRow base e size v n xs) (h : base' ≤ base) : w.ownsRow base' e size v n xs := by
  refine ⟨hown.1, ?_⟩
  rcases hown.2 with h | ⟨g, cap, cur, rfl, hbg, r⟩
  · exact .inl h
  · exact .inr ⟨g, cap, cur, rfl, by omega, r⟩
end
/-- at the operation: what goes on behind an append onto a row of the call's own, the call's own frame carried along -/
theorem wpList_appb {P : Program} {w0 w : World} {ops : Array Oper} {rest : List Oper} {o : Oper} {a : Act} {Q : Exit → Act → World → Prop} (hgd : o.guard = none) (s x : Operand) (t : TypeId)
    (ho : o.op = .call { callee := .builtin .append, args := #[s, x], argTypes := #[t, t] })
    (e : TypeId) (z : Value) (size bytes : Nat) (hT : SliceTy P t e z size bytes)
    (v : Value) (n : Nat) (xs : List Value) (hs : a.eval s = v) (hown : w.ownsRow w0.heap.size e size v n xs) (hb : Below w0.heap.size w0 w)
    (A : Option Addr) (m c : Nat) (news : List Value) (hx : a.eval x = .slice A m c) (hl : news.length = m * size) (hr : SlAt w A news) (h1 : ∀ u ∈ news, u.oneCell' = true)
    (hA : A = none → m = 0) (h63 : n + m ≤ maxLen) (hbytes : (n + m) * bytes ≤ 140737488355328)
    (h : ∀ v' w', w'.ownsRow w0.heap.size e size v' (n + m) (xs ++ news) → Below w0.heap.size w0 w' → w.grownBy w' v.ownBlock → (v'.ownBlock = v.ownBlock ∨ v'.ownBlock = some w.heap.size) → wpList P ops Q rest (a.put o.dst v') w') : wpList P ops Q (o :: rest) a w :=
  wpList_app w hgd s x t ho w0.heap.size e z size bytes hT v n xs hs hown A m c news hx hl hr h1 hA h63 hbytes hb.size
    fun v' w' h2 h3 h4 => h v' w' h2 (own_below hown h3 hb hb.size) h3 h4
/-- a slice that is read: its value, how many, its cells -/
def IsSl (w : World) (size : Nat) (v : Value) (n : Nat) (cs : List Value) : Prop :=
  ∃ A cap, v = .slice A n cap ∧ n ≤ cap ∧ cap ≤ maxLen ∧ cs.length = n * size ∧ SlAt w A cs ∧ (A = none → n = 0)
theorem IsSl.keep {w w' : World} {size n : Nat} {v : Value} {cs : List Value} (h : IsSl w size v n cs) (hk : ∀ p u, w.cell? p = some u → w'.cell? p = some u) : IsSl w' size v n cs := by
  obtain ⟨A, cap, e, h1, h2, h3, h4, h5⟩ := h
  exact ⟨A, cap, e, h1, h2, h3, h4.keep hk, h5⟩
theorem IsSl.below {w w' : World} {size n : Nat} {v : Value} {cs : List Value} (h : IsSl w size v n cs) (hb : Below w.heap.size w w') : IsSl w' size v n cs := h.keep fun _ _ hc => cell_below hb hc
theorem own_issl {w : World} {base : Nat} {e : TypeId} {size n : Nat} {v : Value} {xs : List Value} (hown : w.ownsRow base e size v n xs) : IsSl w size v n xs := by
  obtain ⟨A, cap, hv, h1, h2, h3, h4⟩ := own_slat hown
  exact ⟨A, cap, hv, h1, h2, hown.1, h3, h4⟩
theorem own_zero (w : World) (base : Nat) (e : TypeId) (size g cap : Nat) (cs : Array Value) (hb : base ≤ g) (hg : w.heap[g]? = some (.cells cs e (0, 0))) (hc : cap ≤ maxLen) (hs : cs.size = cap * size) :
    w.ownsRow base e size (.slice (some ⟨g, 0, none⟩) 0 cap) 0 [] := ⟨by simp, .inr ⟨g, cap, cs, rfl, hb, hg, Nat.zero_le _, hc, hs, by simp⟩⟩
theorem slat_one (w : World) (t : TypeId) (u : Value) : SlAt (w.alloc (.cells #[u] t)) (some ⟨w.heap.size, 0, none⟩) [u] := SlAt.of_heap (heap_alloc_new w _) rfl
theorem u8v_one (x : UInt8) : (u8v x).oneCell' = true := rfl
theorem u8s_one (xs : List UInt8) : ∀ u ∈ xs.map u8v, u.oneCell' = true := by
  intro u hu; simp at hu; obtain ⟨x, _, rfl⟩ := hu; rfl
end Go.Proofs.Ythpdcnjaodjjmaa

/- rows of bits in bytes: the plain law. No program in sight. -/
namespace Go.Proofs.Ythpdcnjaodjjmaa.Bits
open Go Go.RowKit Go.Proofs.Ythpdcnjaodjjmaa
set_option linter.unusedVariables false

/-- a number by its bits, the lowest first -/
def num : List Bool → Nat
  | [] => 0
  | b :: l => b.toNat + 2 * num l
def byteOf (l : List Bool) : UInt8 := UInt8.ofNat (num l)
/-- a row of bits in bytes -/
def pack (l : List Bool) : List UInt8 := (List.range ((l.length + 7) / 8)).map fun i => byteOf ((l.drop (8 * i)).take 8)
/-- the lowest bits of a number, the lowest first -/
def numBits (n size : Nat) : List Bool := (List.range size).map fun k => n.testBit k
/-- the bits of a byte, of bytes -/
def bitsOf (x : UInt8) : List Bool := numBits x.toNat 8
def bitsL (l : List UInt8) : List Bool := l.flatMap bitsOf

theorem num_lt (l : List Bool) : num l < 2 ^ l.length := by
  induction l with
  | nil => simp [num]
  | cons b l ih =>
    unfold num
    simp only [List.length_cons, Nat.pow_succ]
    cases b <;> simp <;> omega
theorem num_append (l m : List Bool) : num (l ++ m) = num l + 2 ^ l.length * num m := by
  induction l with
  | nil => simp [num]
  | cons b l ih =>
    simp only [List.cons_append, num, ih, List.length_cons, Nat.pow_succ]
    rw [Nat.mul_add, Nat.mul_comm (2 ^ l.length) 2, Nat.mul_assoc]; omega
theorem num_testBit (l : List Bool) (k : Nat) : (num l).testBit k = l.getD k false := by
  induction l generalizing k with
  | nil => simp [num]
  | cons b l ih =>
    cases k with
    | zero =>
      unfold num; rw [Nat.testBit_zero]
      cases b <;> simp [Nat.add_mod]
    | succ k =>
      unfold num
      rw [Nat.testBit_succ]
      have : (b.toNat + 2 * num l) / 2 = num l := by cases b <;> simp <;> omega
      rw [this, ih]; simp
theorem numBits_length (n size : Nat) : (numBits n size).length = size := by simp [numBits]
theorem numBits_num (l : List Bool) : numBits (num l) l.length = l := by
  apply List.ext_getElem
  · simp [numBits]
  · intro i h1 h2
    simp [numBits, num_testBit, List.getD, h2]
theorem num_numBits (n size : Nat) : num (numBits n size) = n % 2 ^ size := by
  apply Nat.eq_of_testBit_eq
  intro i
  rw [num_testBit, Nat.testBit_mod_two_pow]
  by_cases h : i < size
  · simp [numBits, h]
  · simp [numBits, h]
theorem numBits_succ (n k : Nat) : numBits n (k + 1) = numBits n k ++ [n.testBit k] := by
  simp [numBits, List.range_succ]
theorem bitsOf_length (x : UInt8) : (bitsOf x).length = 8 := numBits_length _ _
theorem bitsL_length (l : List UInt8) : (bitsL l).length = 8 * l.length := by
  induction l with
  | nil => rfl
  | cons x l ih => simp only [bitsL, List.flatMap_cons, List.length_append, bitsOf_length, List.length_cons] at *; omega
theorem bitsL_append (l m : List UInt8) : bitsL (l ++ m) = bitsL l ++ bitsL m := by simp [bitsL]
theorem bitsL_cons (x : UInt8) (l : List UInt8) : bitsL (x :: l) = bitsOf x ++ bitsL l := rfl
theorem byteOf_num (l : List Bool) (h : l.length ≤ 8) : (byteOf l).toNat = num l := by
  unfold byteOf; rw [UInt8.toNat_ofNat']
  have := num_lt l
  have h2 : 2 ^ l.length ≤ 2 ^ 8 := Nat.pow_le_pow_right (by omega) h
  exact Nat.mod_eq_of_lt (by omega)
theorem pack_length (l : List Bool) : (pack l).length = (l.length + 7) / 8 := by simp [pack]
theorem pack_nil : pack [] = [] := rfl
theorem pack_get (l : List Bool) (i : Nat) (h : i < (l.length + 7) / 8) : (pack l)[i]'(by rw [pack_length]; exact h) = byteOf ((l.drop (8 * i)).take 8) := by simp [pack]
/-- a bit onto a row that ends with a whole byte -/
theorem pack_new (l : List Bool) (b : Bool) (h : l.length % 8 = 0) : pack (l ++ [b]) = pack l ++ [byteOf [b]] := by
  apply List.ext_getElem
  · simp [pack_length]; omega
  · intro i h1 h2
    rw [pack_length] at h1
    simp at h1
    rw [pack_get _ _ (by simpa using h1)]
    by_cases hi : i < (l.length + 7) / 8
    · rw [List.getElem_append_left (by rw [pack_length]; exact hi), pack_get _ _ hi]
      rw [List.drop_append_of_le_length (by omega), List.take_append_of_le_length (by simp; omega)]
    · rw [List.getElem_append_right (by rw [pack_length]; omega)]
      have : i = (l.length + 7) / 8 := by omega
      subst this
      simp [pack_length]
      have e : 8 * ((l.length + 7) / 8) = l.length := by omega
      rw [e]; simp
/-- a bit onto a row whose last byte has room -/
theorem pack_more (l : List Bool) (b : Bool) (h : l.length % 8 ≠ 0) :
    pack (l ++ [b]) = (pack l).set (l.length / 8) ((pack l).getD (l.length / 8) 0 ||| UInt8.ofNat (b.toNat * 2 ^ (l.length % 8))) := by
  have hl : (l.length + 7) / 8 = l.length / 8 + 1 := by omega
  have h8 : (l.length + 1 + 7) / 8 = l.length / 8 + 1 := by omega
  apply List.ext_getElem
  · simp [pack_length]; omega
  · intro i h1 h2
    rw [pack_length] at h1
    simp at h1
    rw [pack_get _ _ (by simpa using h1), List.getElem_set]
    by_cases hi : i = l.length / 8
    · subst hi
      rw [if_pos rfl]
      have hg : (pack l).getD (l.length / 8) 0 = byteOf ((l.drop (8 * (l.length / 8))).take 8) := by
        rw [List.getD_eq_getElem?_getD, List.getElem?_eq_getElem (by rw [pack_length]; omega), Option.getD_some, pack_get _ _ (by omega)]
      rw [hg, List.drop_append_of_le_length (by omega)]
      have hd : (l.drop (8 * (l.length / 8))).length = l.length % 8 := by simp; omega
      generalize l.drop (8 * (l.length / 8)) = m at *
      have hm8 : m.length < 8 := by omega
      rw [List.take_of_length_le (by simp; omega), List.take_of_length_le (by omega)]
      apply UInt8.toNat_inj.1
      rw [UInt8.toNat_or, byteOf_num _ (by simp; omega), byteOf_num _ (by omega), UInt8.toNat_ofNat', ← hd, num_append]
      have hn := num_lt m
      have h2 : 2 ^ m.length ≤ 2 ^ 7 := Nat.pow_le_pow_right (by omega) (by omega)
      have hb : b.toNat ≤ 1 := by cases b <;> simp
      have hbb : b.toNat * 2 ^ m.length ≤ 1 * 2 ^ m.length := Nat.mul_le_mul_right _ hb
      have hmod : b.toNat * 2 ^ m.length % 2 ^ 8 = b.toNat * 2 ^ m.length := Nat.mod_eq_of_lt (by omega)
      rw [hmod, Nat.or_comm, nat_join m.length (b.toNat * 2 ^ m.length) (num m) (Nat.mul_mod_left _ _) hn]
      simp [num]
      rw [Nat.mul_comm]; omega
    · rw [if_neg (by omega), pack_get _ _ (by omega)]
      rw [List.drop_append_of_le_length (by omega), List.take_append_of_le_length (by simp; omega)]
/-- what is left of the last byte is 0 -/
theorem bitsL_get (l : List UInt8) (i : Nat) (h : i < 8 * l.length) : (bitsL l)[i]? = some ((l.getD (i / 8) 0).toNat.testBit (i % 8)) := by
  induction l generalizing i with
  | nil => simp at h
  | cons x l ih =>
    rw [bitsL_cons]
    by_cases h8 : i < 8
    · rw [List.getElem?_append_left (by rw [bitsOf_length]; exact h8)]
      simp [bitsOf, numBits, h8, Nat.div_eq_of_lt h8, Nat.mod_eq_of_lt h8]
    · rw [List.getElem?_append_right (by rw [bitsOf_length]; omega), bitsOf_length, ih _ (by simp at h; omega)]
      have h1 : i / 8 = (i - 8) / 8 + 1 := by omega
      have h2 : i % 8 = (i - 8) % 8 := by omega
      rw [h1, h2]; simp
theorem bitsL_pack (l : List Bool) : bitsL (pack l) = l ++ List.replicate (8 * ((l.length + 7) / 8) - l.length) false := by
  apply List.ext_getElem?
  intro i
  by_cases hi : i < 8 * ((l.length + 7) / 8)
  · rw [bitsL_get _ _ (by rw [pack_length]; exact hi)]
    have hd : i / 8 < (l.length + 7) / 8 := by omega
    have hg : (pack l).getD (i / 8) 0 = byteOf ((l.drop (8 * (i / 8))).take 8) := by
      rw [List.getD_eq_getElem?_getD, List.getElem?_eq_getElem (by rw [pack_length]; exact hd), Option.getD_some, pack_get _ _ hd]
    rw [hg, byteOf_num _ (by simp; omega), num_testBit]
    have hx : 8 * (i / 8) + i % 8 = i := by omega
    rw [List.getD_eq_getElem?_getD, List.getElem?_take, if_pos (by omega), List.getElem?_drop, hx]
    by_cases hl : i < l.length
    · rw [List.getElem?_append_left hl, List.getElem?_eq_getElem hl]; simp
    · rw [List.getElem?_append_right (by omega), List.getElem?_replicate, if_pos (by omega), List.getElem?_eq_none (by omega)]; simp
  · rw [List.getElem?_eq_none (by rw [bitsL_length, pack_length]; omega), List.getElem?_eq_none (by simp; omega)]
/-- a row of whole bytes -/
theorem pack_bitsL (l : List UInt8) : pack (bitsL l) = l := by
  apply List.ext_getElem
  · rw [pack_length, bitsL_length]; omega
  · intro i h1 h2
    rw [pack_get _ _ (by rw [bitsL_length]; omega)]
    apply UInt8.toNat_inj.1
    rw [byteOf_num _ (by simp; omega)]
    apply Nat.eq_of_testBit_eq
    intro j
    rw [num_testBit, List.getD_eq_getElem?_getD, List.getElem?_take]
    by_cases hj : j < 8
    · rw [if_pos hj, List.getElem?_drop, bitsL_get _ _ (by omega)]
      have e1 : (8 * i + j) / 8 = i := by omega
      have e2 : (8 * i + j) % 8 = j := by omega
      rw [e1, e2]; simp [List.getD, h2]
    · rw [if_neg hj]
      have : l[i].toNat < 2 ^ j := Nat.lt_of_lt_of_le l[i].toNat_lt (Nat.pow_le_pow_right (by omega) (by omega))
      rw [Nat.testBit_lt_two_pow this]; simp
/-- whole bytes ahead of a row -/
theorem pack_append (l m : List Bool) (h : l.length % 8 = 0) : pack (l ++ m) = pack l ++ pack m := by
  apply List.ext_getElem
  · simp [pack_length]; omega
  · intro i h1 h2
    rw [pack_length] at h1
    simp at h1
    rw [pack_get _ _ (by simpa using h1)]
    by_cases hi : i < (l.length + 7) / 8
    · rw [List.getElem_append_left (by rw [pack_length]; exact hi), pack_get _ _ hi]
      rw [List.drop_append_of_le_length (by omega), List.take_append_of_le_length (by simp; omega)]
    · rw [List.getElem_append_right (by rw [pack_length]; omega), pack_get _ _ (by rw [pack_length]; omega)]
      rw [List.drop_append, List.drop_of_length_le (by omega), List.nil_append, pack_length]
      congr 3
      omega
/-- noughts up to a whole byte -/
def pad (l : List Bool) : List Bool := l ++ List.replicate (8 * ((l.length + 7) / 8) - l.length) false
theorem pad_length (l : List Bool) : (pad l).length = 8 * ((l.length + 7) / 8) := by simp [pad]; omega
theorem pack_pad (l : List Bool) : pack (pad l) = pack l := by
  have h := bitsL_pack l
  rw [show l ++ List.replicate (8 * ((l.length + 7) / 8) - l.length) false = pad l from rfl] at h
  rw [← h, pack_bitsL]
end Go.Proofs.Ythpdcnjaodjjmaa.Bits

/- package code: codes that are told by how long they are; the plain law. No program in sight. -/
namespace Go.Proofs.Ythpdcnjaodjjmaa.Code
open Go.Proofs.Ythpdcnjaodjjmaa.Bits
set_option linter.unusedVariables false


/-- the places of one length, in order -/
def ordN (ls : List Nat) (n : Nat) : List Nat := (List.range ls.length).filter fun i => ls.getD i 0 == n
def cnt (ls : List Nat) (n : Nat) : Nat := if n = 0 then 0 else (ordN ls n).length
/-- the first code of a length -/
def first (ls : List Nat) : Nat → Nat
  | 0 => 0
  | n + 1 => 2 * (first ls n + cnt ls n)
def rank (ls : List Nat) (i : Nat) : Nat := (ordN (ls.take i) (ls.getD i 0)).length
def codeOf (ls : List Nat) (i : Nat) : Nat := if ls.getD i 0 = 0 then 0 else first ls (ls.getD i 0) + rank ls i
def room (ls : List Nat) : Nat := (ls.map fun n => if n = 0 then 0 else 2 ^ (15 - n)).sum

theorem ordN_snoc (ls : List Nat) (x n : Nat) : ordN (ls ++ [x]) n = ordN ls n ++ if x = n then [ls.length] else [] := by
  unfold ordN
  rw [List.length_append, List.length_singleton, List.range_succ, List.filter_append]
  congr 1
  · apply List.filter_congr
    intro i hi
    simp at hi
    simp only [List.getD_eq_getElem?_getD]
    rw [List.getElem?_append_left hi]
  · simp only [List.filter_cons, List.filter_nil, List.getD_eq_getElem?_getD]
    rw [List.getElem?_append_right (Nat.le_refl _)]
    simp
theorem ordN_mem (ls : List Nat) (n i : Nat) : i ∈ ordN ls n ↔ i < ls.length ∧ ls.getD i 0 = n := by
  unfold ordN; simp
theorem ordN_take (ls : List Nat) (i n : Nat) (h : i < ls.length) : ordN (ls.take (i + 1)) n = ordN (ls.take i) n ++ if ls.getD i 0 = n then [i] else [] := by
  rw [List.take_succ_eq_append_getElem h, ordN_snoc]
  have : (ls.take i).length = i := by simp; omega
  rw [this]
  simp [List.getD_eq_getElem?_getD, List.getElem?_eq_getElem h]
theorem ordN_prefix (ls : List Nat) (i n : Nat) (h : i ≤ ls.length) : ∃ t, ordN ls n = ordN (ls.take i) n ++ t := by
  have key : ∀ d, i + d ≤ ls.length → ∃ t, ordN (ls.take (i + d)) n = ordN (ls.take i) n ++ t := by
    intro d
    induction d with
    | zero => intro _; exact ⟨[], by simp⟩
    | succ d ih =>
      intro hd
      obtain ⟨t, ht⟩ := ih (by omega)
      rw [← Nat.add_assoc, ordN_take ls (i + d) n (by omega), ht]
      exact ⟨t ++ _, by rw [List.append_assoc]⟩
  obtain ⟨t, ht⟩ := key (ls.length - i) (by omega)
  rw [show i + (ls.length - i) = ls.length by omega, List.take_length] at ht
  exact ⟨t, ht⟩
/-- a place stands among those of its length at its rank -/
theorem ordN_rank (ls : List Nat) (i : Nat) (h : i < ls.length) : (ordN ls (ls.getD i 0))[rank ls i]? = some i := by
  obtain ⟨t, ht⟩ := ordN_prefix ls (i + 1) (ls.getD i 0) (by omega)
  rw [ht, ordN_take ls i _ h, if_pos rfl]
  unfold rank
  rw [List.append_assoc, List.getElem?_append_right (Nat.le_refl _)]
  simp
theorem rank_lt (ls : List Nat) (i : Nat) (h : i < ls.length) : rank ls i < (ordN ls (ls.getD i 0)).length := by
  have := ordN_rank ls i h
  exact (List.getElem?_eq_some_iff.1 this).1
theorem rank_inj (ls : List Nat) (i k : Nat) (hi : i < ls.length) (hk : k < ls.length) (hl : ls.getD i 0 = ls.getD k 0) (h : rank ls i = rank ls k) : i = k := by
  have h1 := ordN_rank ls i hi
  have h2 := ordN_rank ls k hk
  rw [h, hl, h2] at h1
  injection h1 with h1; exact h1.symm
theorem codeOf_bd (ls : List Nat) (i : Nat) (h : i < ls.length) (h0 : ls.getD i 0 ≠ 0) : first ls (ls.getD i 0) ≤ codeOf ls i ∧ codeOf ls i < first ls (ls.getD i 0) + cnt ls (ls.getD i 0) := by
  have := rank_lt ls i h
  unfold codeOf cnt
  rw [if_neg h0, if_neg h0]; omega
/-- what is behind a length lies beyond all codes of it -/
theorem first_far (ls : List Nat) (m d : Nat) : 2 ^ (d + 1) * (first ls m + cnt ls m) ≤ first ls (m + d + 1) := by
  induction d with
  | zero => simp [first]
  | succ d ih =>
    have e : first ls (m + (d + 1) + 1) = 2 * (first ls (m + d + 1) + cnt ls (m + d + 1)) := rfl
    rw [e]
    have : 2 ^ (d + 1 + 1) * (first ls m + cnt ls m) = 2 * (2 ^ (d + 1) * (first ls m + cnt ls m)) := by rw [Nat.pow_succ 2 (d + 1), Nat.mul_comm (2 ^ (d + 1)) 2, Nat.mul_assoc]
    omega
theorem code_far (ls : List Nat) (k m : Nat) (hk : k < ls.length) (hm : m < ls.getD k 0) : first ls m + cnt ls m ≤ codeOf ls k / 2 ^ (ls.getD k 0 - m) := by
  obtain ⟨h1, h2⟩ := codeOf_bd ls k hk (by omega)
  have h3 := first_far ls m (ls.getD k 0 - m - 1)
  rw [show m + (ls.getD k 0 - m - 1) + 1 = ls.getD k 0 by omega, show ls.getD k 0 - m - 1 + 1 = ls.getD k 0 - m by omega] at h3
  rw [Nat.le_div_iff_mul_le (Nat.pow_pos (by omega)), Nat.mul_comm]
  omega
/-- no code begins another one -/
theorem prefix_free (ls : List Nat) (i k : Nat) (hi : i < ls.length) (hk : k < ls.length) (hik : i ≠ k) (h0 : ls.getD i 0 ≠ 0) (hn : ls.getD i 0 ≤ ls.getD k 0) : codeOf ls k / 2 ^ (ls.getD k 0 - ls.getD i 0) ≠ codeOf ls i := by
  obtain ⟨h1, h2⟩ := codeOf_bd ls i hi h0
  rcases Nat.lt_or_ge (ls.getD i 0) (ls.getD k 0) with h | h
  · have := code_far ls k (ls.getD i 0) hk h
    omega
  · have e : ls.getD i 0 = ls.getD k 0 := by omega
    rw [show ls.getD k 0 - ls.getD i 0 = 0 by omega]
    simp only [Nat.pow_zero, Nat.div_one]
    intro hc
    unfold codeOf at hc
    rw [if_neg (by omega), if_neg h0, ← e] at hc
    exact hik (rank_inj ls i k hi hk e (by omega))

/-! room -/
def wsum (ls : List Nat) (n : Nat) : Nat := ((List.range n).map fun k => cnt ls (k + 1) * 2 ^ (15 - (k + 1))).sum
theorem acc_eq (ls : List Nat) (n : Nat) (hn : n ≤ 15) : (first ls n + cnt ls n) * 2 ^ (15 - n) = wsum ls n := by
  induction n with
  | zero => simp [first, cnt, wsum]
  | succ n ih =>
    have ih := ih (by omega)
    unfold wsum at ih ⊢
    rw [List.range_succ, List.map_append, List.sum_append, ← ih]
    simp only [List.map_cons, List.map_nil, List.sum_cons, List.sum_nil, Nat.add_zero]
    have e : first ls (n + 1) = 2 * (first ls n + cnt ls n) := rfl
    rw [e, Nat.add_mul]
    congr 1
    have : 2 ^ (15 - n) = 2 * 2 ^ (15 - (n + 1)) := by rw [show 15 - n = (15 - (n + 1)) + 1 by omega, Nat.pow_succ, Nat.mul_comm]
    rw [this, Nat.mul_comm 2 (first ls n + cnt ls n), Nat.mul_assoc]
theorem wsum_snoc (ls : List Nat) (x n : Nat) : wsum (ls ++ [x]) n = wsum ls n + if 1 ≤ x ∧ x ≤ n then 2 ^ (15 - x) else 0 := by
  have hc : ∀ k, cnt (ls ++ [x]) (k + 1) = cnt ls (k + 1) + if x = k + 1 then 1 else 0 := by
    intro k
    unfold cnt
    rw [if_neg (by omega), if_neg (by omega), ordN_snoc]
    split <;> simp
  induction n with
  | zero => simp [wsum]; omega
  | succ n ih =>
    unfold wsum at ih ⊢
    rw [List.range_succ, List.map_append, List.sum_append, List.map_append, List.sum_append, ih]
    simp only [List.map_cons, List.map_nil, List.sum_cons, List.sum_nil, Nat.add_zero]
    rw [hc n]
    by_cases h1 : x = n + 1
    · subst h1
      rw [if_neg (by omega), if_pos rfl, if_pos ⟨by omega, by omega⟩, Nat.add_mul]; omega
    · rw [if_neg h1]
      by_cases h2 : 1 ≤ x ∧ x ≤ n
      · rw [if_pos h2, if_pos ⟨by omega, by omega⟩]; simp only [Nat.add_zero]; omega
      · rw [if_neg h2, if_neg (by omega)]; simp only [Nat.add_zero]
theorem wsum_nil (n : Nat) : wsum [] n = 0 := by
  induction n with
  | zero => rfl
  | succ n ih =>
    unfold wsum at ih ⊢
    rw [List.range_succ, List.map_append, List.sum_append, ih]
    simp [cnt, ordN]
theorem snoc_ind {P : List Nat → Prop} (h0 : P []) (hs : ∀ l x, P l → P (l ++ [x])) : ∀ l, P l := by
  intro l
  have : ∀ n, ∀ l : List Nat, l.length = n → P l := by
    intro n
    induction n with
    | zero => intro l hl; rw [List.eq_nil_of_length_eq_zero hl]; exact h0
    | succ n ih =>
      intro l hl
      have hne : l ≠ [] := fun h => by rw [h] at hl; simp at hl
      rw [← List.dropLast_concat_getLast hne]
      exact hs _ _ (ih _ (by simp [hl]))
  exact this _ l rfl
theorem room_wsum (ls : List Nat) : (∀ x ∈ ls, x ≤ 15) → room ls = wsum ls 15 := by
  refine snoc_ind (P := fun ls => (∀ x ∈ ls, x ≤ 15) → room ls = wsum ls 15) (fun _ => by rw [wsum_nil]; rfl) ?_ ls
  intro l x ih h
  have h1 := ih (fun y hy => h y (by simp [hy]))
  have h2 := h x (by simp)
  rw [wsum_snoc, ← h1]
  unfold room
  rw [List.map_append, List.sum_append]
  simp only [List.map_cons, List.map_nil, List.sum_cons, List.sum_nil, Nat.add_zero]
  by_cases h3 : x = 0
  · rw [if_pos h3, if_neg (by omega)]
  · rw [if_neg h3, if_pos ⟨by omega, h2⟩]
theorem wsum_mono (ls : List Nat) (n d : Nat) : wsum ls n ≤ wsum ls (n + d) := by
  induction d with
  | zero => exact Nat.le_refl _
  | succ d ih =>
    refine Nat.le_trans ih ?_
    unfold wsum
    rw [← Nat.add_assoc, List.range_succ, List.map_append, List.sum_append]
    exact Nat.le_add_right _ _
theorem acc_le (ls : List Nat) (n : Nat) (hn : n ≤ 15) (hl : ∀ x ∈ ls, x ≤ 15) (hr : room ls ≤ 32768) : first ls n + cnt ls n ≤ 2 ^ n := by
  have h1 := acc_eq ls n hn
  have h2 := wsum_mono ls n (15 - n)
  rw [show n + (15 - n) = 15 by omega, ← room_wsum ls hl, ← h1] at h2
  have h3 : (2 : Nat) ^ 15 = 2 ^ n * 2 ^ (15 - n) := by rw [← Nat.pow_add]; congr 1; omega
  have h4 : (first ls n + cnt ls n) * 2 ^ (15 - n) ≤ 2 ^ n * 2 ^ (15 - n) := by rw [← h3]; omega
  exact Nat.le_of_mul_le_mul_right h4 (Nat.pow_pos (by omega))
theorem acc_full (ls : List Nat) (hl : ∀ x ∈ ls, x ≤ 15) (hr : room ls = 32768) : first ls 15 + cnt ls 15 = 32768 := by
  have h1 := acc_eq ls 15 (by omega)
  rw [← room_wsum ls hl, hr] at h1
  simpa using h1
theorem codeOf_lt (ls : List Nat) (i : Nat) (h : i < ls.length) (h0 : ls.getD i 0 ≠ 0) (hl : ∀ x ∈ ls, x ≤ 15) (hr : room ls ≤ 32768) : codeOf ls i < 2 ^ ls.getD i 0 := by
  obtain ⟨h1, h2⟩ := codeOf_bd ls i h h0
  have h3 : ls.getD i 0 ≤ 15 := by
    rw [List.getD_eq_getElem?_getD, List.getElem?_eq_getElem h]
    exact hl _ (List.getElem_mem h)
  have := acc_le ls _ h3 hl hr
  omega


/-- the number of a row whose highest bit stands first -/
def val (l : List Bool) : Nat := num l.reverse
/-- so many bits of a number, the highest first -/
def hi (n c : Nat) : List Bool := (numBits c n).reverse
theorem hi_length (n c : Nat) : (hi n c).length = n := by simp [hi, numBits_length]
theorem val_hi (n c : Nat) (h : c < 2 ^ n) : val (hi n c) = c := by
  unfold val hi; rw [List.reverse_reverse, num_numBits, Nat.mod_eq_of_lt h]
theorem val_snoc (l : List Bool) (b : Bool) : val (l ++ [b]) = 2 * val l + b.toNat := by
  unfold val; rw [List.reverse_append]; simp [num]; omega
theorem val_lt (l : List Bool) : val l < 2 ^ l.length := by
  have := num_lt l.reverse
  simpa [val] using this
theorem val_nil : val [] = 0 := rfl
theorem hi_take (n c m : Nat) (h : m ≤ n) : (hi n c).take m = hi m (c / 2 ^ (n - m)) := by
  unfold hi
  rw [List.take_reverse, numBits_length]
  congr 1
  unfold numBits
  rw [List.map_drop.symm]
  apply List.ext_getElem
  · simp; omega
  · intro j h1 h2
    simp at h1 h2 ⊢
    rw [Nat.testBit_div_two_pow]
    congr 1; omega
/-- the place whose code of n bits is c -/
def findC (ls : List Nat) (n c : Nat) : Option Nat := if first ls n ≤ c ∧ c < first ls n + cnt ls n then (ordN ls n)[c - first ls n]? else none
theorem findC_none (ls : List Nat) (n c : Nat) (h : ¬ (first ls n ≤ c ∧ c < first ls n + cnt ls n)) : findC ls n c = none := by unfold findC; rw [if_neg h]
theorem cnt_pos (ls : List Nat) (n : Nat) (h : 0 < cnt ls n) : cnt ls n = (ordN ls n).length ∧ n ≠ 0 := by
  unfold cnt at h ⊢
  by_cases h0 : n = 0
  · rw [if_pos h0] at h; omega
  · rw [if_neg h0]; exact ⟨rfl, h0⟩
theorem findC_some (ls : List Nat) (n c : Nat) (h : first ls n ≤ c ∧ c < first ls n + cnt ls n) : ∃ i, findC ls n c = some i ∧ (ordN ls n)[c - first ls n]? = some i := by
  have h1 := cnt_pos ls n (by omega)
  have hlt : c - first ls n < (ordN ls n).length := by omega
  refine ⟨_, ?_, List.getElem?_eq_getElem hlt⟩
  unfold findC; rw [if_pos h, List.getElem?_eq_getElem hlt]
theorem findC_code (ls : List Nat) (i : Nat) (hi : i < ls.length) (h0 : ls.getD i 0 ≠ 0) : findC ls (ls.getD i 0) (codeOf ls i) = some i := by
  obtain ⟨h1, h2⟩ := codeOf_bd ls i hi h0
  unfold findC
  rw [if_pos ⟨h1, h2⟩]
  have : codeOf ls i - first ls (ls.getD i 0) = rank ls i := by unfold codeOf; rw [if_neg h0]; omega
  rw [this]; exact ordN_rank ls i hi
theorem findC_inv (ls : List Nat) (n c i : Nat) (h : findC ls n c = some i) : i < ls.length ∧ ls.getD i 0 = n ∧ n ≠ 0 ∧ codeOf ls i = c := by
  unfold findC at h
  split at h
  · rename_i h1
    have hm := List.mem_of_getElem? h
    rw [ordN_mem] at hm
    have hn := (cnt_pos ls n (by omega)).2
    refine ⟨hm.1, hm.2, hn, ?_⟩
    have h3 := ordN_rank ls i hm.1
    rw [hm.2] at h3
    have hnd : (ordN ls n).Nodup := List.Pairwise.filter _ List.nodup_range
    have h4 : (ordN ls n)[rank ls i]? = (ordN ls n)[c - first ls n]? := by rw [h3, h]
    have h5 := (List.getElem?_inj (by exact (List.getElem?_eq_some_iff.1 h3).1) hnd).1 h4
    unfold codeOf; rw [hm.2, if_neg hn]; omega
  · cases h
/-- from n bits on: a place, how many bits it takes, what is wrong (7: too few bits, 8: none) -/
def nxt (ls : List Nat) (row : List Bool) : Nat → Nat → Nat × Nat × Int
  | 0, _ => (0, 0, 8)
  | k + 1, n => if row.length < n then (0, 0, 7) else match findC ls n (val (row.take n)) with
    | some i => (i, n, 0)
    | none => nxt ls row k (n + 1)
def next (ls : List Nat) (row : List Bool) : Nat × Nat × Int := nxt ls row 15 1
theorem nxt_torn (ls : List Nat) (row : List Bool) (k n : Nat) (h : row.length < n) : nxt ls row (k + 1) n = (0, 0, 7) := by unfold nxt; rw [if_pos h]
theorem nxt_hit (ls : List Nat) (row : List Bool) (k n i : Nat) (h : n ≤ row.length) (hf : findC ls n (val (row.take n)) = some i) : nxt ls row (k + 1) n = (i, n, 0) := by
  unfold nxt; rw [if_neg (by omega), hf]
theorem nxt_miss (ls : List Nat) (row : List Bool) (k n : Nat) (h : n ≤ row.length) (hf : findC ls n (val (row.take n)) = none) : nxt ls row (k + 1) n = nxt ls row k (n + 1) := by
  conv => lhs; unfold nxt
  rw [if_neg (by omega), hf]
/-- what is written is read -/
theorem next_code (ls : List Nat) (i : Nat) (rest : List Bool) (hi' : i < ls.length) (h0 : ls.getD i 0 ≠ 0) (hl : ∀ x ∈ ls, x ≤ 15) (hr : room ls ≤ 32768) : next ls (hi (ls.getD i 0) (codeOf ls i) ++ rest) = (i, ls.getD i 0, 0) := by
  have hlt := codeOf_lt ls i hi' h0 hl hr
  have h15 : ls.getD i 0 ≤ 15 := by
    rw [List.getD_eq_getElem?_getD, List.getElem?_eq_getElem hi']
    exact hl _ (List.getElem_mem hi')
  have key : ∀ d k, d < ls.getD i 0 → k + (ls.getD i 0 - d) = 16 → 1 ≤ ls.getD i 0 - d → nxt ls (hi (ls.getD i 0) (codeOf ls i) ++ rest) k (ls.getD i 0 - d) = (i, ls.getD i 0, 0) := by
    intro d
    induction d with
    | zero =>
      intro k h1 h2 h3
      obtain ⟨k, rfl⟩ : ∃ j, k = j + 1 := ⟨k - 1, by omega⟩
      rw [Nat.sub_zero]
      refine nxt_hit ls _ k _ i (by simp [hi_length]) ?_
      rw [List.take_append_of_le_length (by rw [hi_length]; exact Nat.le_refl _), List.take_of_length_le (by rw [hi_length]; exact Nat.le_refl _), val_hi _ _ hlt]
      exact findC_code ls i hi' h0
    | succ d ih =>
      intro k h1 h2 h3
      obtain ⟨k, rfl⟩ : ∃ j, k = j + 1 := ⟨k - 1, by omega⟩
      rw [nxt_miss ls _ k _ (by simp [hi_length]; omega)]
      · rw [show ls.getD i 0 - (d + 1) + 1 = ls.getD i 0 - d by omega]
        exact ih k (by omega) (by omega) (by omega)
      · rw [List.take_append_of_le_length (by rw [hi_length]; omega), hi_take _ _ _ (by omega)]
        have hd : codeOf ls i / 2 ^ (ls.getD i 0 - (ls.getD i 0 - (d + 1))) < 2 ^ (ls.getD i 0 - (d + 1)) := by
          rw [Nat.div_lt_iff_lt_mul (Nat.pow_pos (by omega)), ← Nat.pow_add]
          rw [show ls.getD i 0 - (d + 1) + (ls.getD i 0 - (ls.getD i 0 - (d + 1))) = ls.getD i 0 by omega]
          exact hlt
        rw [val_hi _ _ hd]
        refine findC_none ls _ _ (fun h => ?_)
        have := code_far ls i (ls.getD i 0 - (d + 1)) hi' (by omega)
        omega
  have := key (ls.getD i 0 - 1) 15 (by omega) (by omega) (by omega)
  rw [show ls.getD i 0 - (ls.getD i 0 - 1) = 1 by omega] at this
  exact this
/-- a code that leaves no room always says something -/
theorem next_full (ls : List Nat) (row : List Bool) (hl : ∀ x ∈ ls, x ≤ 15) (hr : room ls = 32768) : (next ls row).2.2 ≠ 8 := by
  have hacc := acc_full ls hl hr
  have key : ∀ k n, 1 ≤ n → k + n = 16 → n ≤ row.length + 1 → first ls (n - 1) + cnt ls (n - 1) ≤ val (row.take (n - 1)) → (nxt ls row k n).2.2 ≠ 8 := by
    intro k
    induction k with
    | zero =>
      intro n h1 h2 hrow h4
      have hn : n = 16 := by omega
      subst hn
      exfalso
      have h5 := val_lt (row.take 15)
      have h6 : (row.take 15).length = 15 := by simp; omega
      rw [h6] at h5
      simp only [Nat.reduceSub] at h4
      omega
    | succ k ih =>
      intro n h1 h2 hr1 h4
      by_cases hrow : row.length < n
      · rw [nxt_torn _ _ _ _ hrow]; simp
      · by_cases hf : first ls n ≤ val (row.take n) ∧ val (row.take n) < first ls n + cnt ls n
        · obtain ⟨i, hi, _⟩ := findC_some ls n _ hf
          rw [nxt_hit ls row k n i (by omega) hi]; simp
        · rw [nxt_miss ls row k n (by omega) (findC_none ls n _ hf)]
          refine ih (n + 1) (by omega) (by omega) (by omega) ?_
          rw [Nat.add_sub_cancel]
          have h5 : ∃ b : Bool, val (row.take n) = 2 * val (row.take (n - 1)) + b.toNat := by
            obtain ⟨m, rfl⟩ : ∃ m, n = m + 1 := ⟨n - 1, by omega⟩
            exact ⟨row[m]'(by omega), by rw [List.take_succ_eq_append_getElem (by omega), val_snoc, Nat.add_sub_cancel]⟩
          obtain ⟨b, h5⟩ := h5
          have h6 : first ls n = 2 * (first ls (n - 1) + cnt ls (n - 1)) := by
            obtain ⟨m, rfl⟩ : ∃ m, n = m + 1 := ⟨n - 1, by omega⟩
            rfl
          omega
  refine key 15 1 (by omega) (by omega) (by omega) ?_
  simp [first, cnt]


/-- so many places read one behind the other: the places, the rest, what is wrong -/
def rstep (ls : List Nat) (s : List Nat × List Bool × Int) : List Nat × List Bool × Int :=
  if s.2.2 ≠ 0 then s else if (next ls s.2.1).2.2 ≠ 0 then (s.1, s.2.1, (next ls s.2.1).2.2) else (s.1 ++ [(next ls s.2.1).1], s.2.1.drop (next ls s.2.1).2.1, 0)
def riter (ls : List Nat) (row : List Bool) : Nat → List Nat × List Bool × Int
  | 0 => ([], row, 0)
  | m + 1 => rstep ls (riter ls row m)
theorem riter_ok (ls : List Nat) (row r : List Bool) (m k n : Nat) (o : List Nat) (h : riter ls row m = (o, r, 0)) (hn : next ls r = (k, n, 0)) : riter ls row (m + 1) = (o ++ [k], r.drop n, 0) := by
  show rstep ls (riter ls row m) = _
  rw [h]; unfold rstep; simp [hn]
theorem riter_bad (ls : List Nat) (row r : List Bool) (m k n : Nat) (e : Int) (o : List Nat) (h : riter ls row m = (o, r, 0)) (hn : next ls r = (k, n, e)) (he : e ≠ 0) : riter ls row (m + 1) = (o, r, e) := by
  show rstep ls (riter ls row m) = _
  rw [h]; unfold rstep; simp [hn, he]
theorem riter_stays (ls : List Nat) (row : List Bool) (m j : Nat) (h : (riter ls row m).2.2 ≠ 0) : riter ls row (m + j) = riter ls row m := by
  induction j with
  | zero => rfl
  | succ j ih => show rstep ls (riter ls row (m + j)) = _; rw [ih]; unfold rstep; rw [if_pos h]
theorem riter_len (ls : List Nat) (row : List Bool) (m : Nat) (h : (riter ls row m).2.2 = 0) : (riter ls row m).1.length = m := by
  induction m with
  | zero => rfl
  | succ m ih =>
    have h0 : (riter ls row m).2.2 = 0 := by
      rcases Int.decEq (riter ls row m).2.2 0 with g | g
      · have := riter_stays ls row m 1 g
        rw [this] at h; exact absurd h g
      · exact g
    have h1 := ih h0
    have e : riter ls row (m + 1) = rstep ls (riter ls row m) := rfl
    rw [e] at h ⊢
    unfold rstep at h ⊢
    rw [if_neg (by simpa using h0)] at h ⊢
    by_cases h2 : (next ls (riter ls row m).2.1).2.2 ≠ 0
    · rw [if_pos h2] at h; exact absurd h h2
    · rw [if_neg h2]; simp [h1]
/-- the bits of places -/
def wbits (ls : List Nat) (ps : List Nat) : List Bool := ps.flatMap fun k => hi (ls.getD k 0) (codeOf ls k)
theorem riter_wbits (ls : List Nat) (ps : List Nat) (rest : List Bool) (hp : ∀ k ∈ ps, k < ls.length ∧ ls.getD k 0 ≠ 0) (hl : ∀ x ∈ ls, x ≤ 15) (hr : room ls ≤ 32768) (m : Nat) (hm : m ≤ ps.length) :
    riter ls (wbits ls ps ++ rest) m = (ps.take m, wbits ls (ps.drop m) ++ rest, 0) := by
  induction m with
  | zero => simp [riter]
  | succ m ih =>
    have hm' : m < ps.length := by omega
    have h1 := hp ps[m] (List.getElem_mem hm')
    have e : wbits ls (ps.drop m) ++ rest = hi (ls.getD ps[m] 0) (codeOf ls ps[m]) ++ (wbits ls (ps.drop (m + 1)) ++ rest) := by
      rw [List.drop_eq_getElem_cons hm']
      unfold wbits
      rw [List.flatMap_cons, List.append_assoc]
    have h2 := next_code ls ps[m] (wbits ls (ps.drop (m + 1)) ++ rest) h1.1 h1.2 hl hr
    rw [← e] at h2
    rw [riter_ok ls _ _ m _ _ _ (ih (by omega)) h2, e, List.drop_append_of_le_length (by rw [hi_length]; exact Nat.le_refl _), List.drop_of_length_le (by rw [hi_length]; exact Nat.le_refl _), List.nil_append, List.take_succ_eq_append_getElem hm']
/-- what was written is read -/
theorem riter_back (ls : List Nat) (ps : List Nat) (hp : ∀ k ∈ ps, k < ls.length ∧ ls.getD k 0 ≠ 0) (hl : ∀ x ∈ ls, x ≤ 15) (hr : room ls ≤ 32768) : ∃ r, riter ls (bitsL (pack (wbits ls ps))) ps.length = (ps, r, 0) := by
  rw [bitsL_pack]
  exact ⟨_, by rw [riter_wbits ls ps _ hp hl hr ps.length (Nat.le_refl _), List.take_length]⟩
theorem nxt_err (ls : List Nat) (row : List Bool) (k n : Nat) : (nxt ls row k n).2.2 = 0 ∨ (nxt ls row k n).2.2 = 7 ∨ (nxt ls row k n).2.2 = 8 := by
  induction k generalizing n with
  | zero => simp [nxt]
  | succ k ih =>
    unfold nxt
    split
    · simp
    · split
      · simp
      · exact ih _
theorem riter_err (ls : List Nat) (row : List Bool) (m : Nat) : (riter ls row m).2.2 = 0 ∨ (riter ls row m).2.2 = 7 ∨ (riter ls row m).2.2 = 8 := by
  induction m with
  | zero => simp [riter]
  | succ m ih =>
    have e : riter ls row (m + 1) = rstep ls (riter ls row m) := rfl
    rw [e]
    unfold rstep
    split
    · exact ih
    · split
      · exact nxt_err ls _ 15 1
      · simp
theorem riter_full (ls : List Nat) (row : List Bool) (m : Nat) (hl : ∀ x ∈ ls, x ≤ 15) (hr : room ls = 32768) : (riter ls row m).2.2 ≠ 8 := by
  induction m with
  | zero => simp [riter]
  | succ m ih =>
    show (rstep ls (riter ls row m)).2.2 ≠ 8
    unfold rstep
    split
    · exact ih
    · split
      · exact next_full ls _ hl hr
      · simp
/-! what the code keeps while it goes -/
def cst (ls : List Nat) (s i : Nat) : List Nat := (List.range ls.length).map fun j => if ls.getD j 0 ≠ 0 ∧ (ls.getD j 0 < s ∨ (ls.getD j 0 = s ∧ j < i)) then codeOf ls j else 0
theorem cst_length (ls : List Nat) (s i : Nat) : (cst ls s i).length = ls.length := by simp [cst]
theorem cst_zero (ls : List Nat) : cst ls 1 0 = List.replicate ls.length 0 := by
  unfold cst
  apply List.ext_getElem
  · simp
  · intro j h1 h2
    simp only [List.getElem_map, List.getElem_range, List.getElem_replicate]
    rw [if_neg (by omega)]
theorem cst_hit (ls : List Nat) (s i : Nat) (hi : i < ls.length) (hs : ls.getD i 0 = s) (h0 : s ≠ 0) : cst ls s (i + 1) = (cst ls s i).set i (first ls s + (ordN (ls.take i) s).length) := by
  apply List.ext_getElem
  · simp [cst]
  · intro j h1 h2
    rw [List.getElem_set]
    simp only [cst, List.getElem_map, List.getElem_range]
    by_cases hij : i = j
    · subst hij
      rw [if_pos rfl, if_pos (by omega)]
      unfold codeOf rank
      rw [if_neg (by omega), hs]
    · rw [if_neg hij]
      by_cases hc : ls.getD j 0 ≠ 0 ∧ (ls.getD j 0 < s ∨ (ls.getD j 0 = s ∧ j < i))
      · rw [if_pos hc, if_pos (by omega)]
      · rw [if_neg hc, if_neg (by omega)]
theorem cst_miss (ls : List Nat) (s i : Nat) (hs : ls.getD i 0 ≠ s) : cst ls s (i + 1) = cst ls s i := by
  unfold cst
  apply List.map_congr_left
  intro j hj
  by_cases hij : i = j
  · subst hij
    by_cases hc : ls.getD i 0 ≠ 0 ∧ (ls.getD i 0 < s ∨ (ls.getD i 0 = s ∧ i < i))
    · rw [if_pos hc, if_pos (by omega)]
    · rw [if_neg hc, if_neg (by omega)]
  · by_cases hc : ls.getD j 0 ≠ 0 ∧ (ls.getD j 0 < s ∨ (ls.getD j 0 = s ∧ j < i))
    · rw [if_pos hc, if_pos (by omega)]
    · rw [if_neg hc, if_neg (by omega)]
theorem cst_next (ls : List Nat) (s : Nat) : cst ls s ls.length = cst ls (s + 1) 0 := by
  unfold cst
  apply List.map_congr_left
  intro j hj
  simp at hj
  by_cases hc : ls.getD j 0 ≠ 0 ∧ (ls.getD j 0 < s ∨ (ls.getD j 0 = s ∧ j < ls.length))
  · rw [if_pos hc, if_pos (by omega)]
  · rw [if_neg hc, if_neg (by omega)]
def codesL (ls : List Nat) : List Nat := (List.range ls.length).map (codeOf ls)
theorem cst_end (ls : List Nat) (hl : ∀ x ∈ ls, x ≤ 15) : cst ls 16 0 = codesL ls := by
  unfold cst codesL
  apply List.map_congr_left
  intro j hj
  simp at hj
  have : ls.getD j 0 ≤ 15 := by
    rw [List.getD_eq_getElem?_getD, List.getElem?_eq_getElem hj]; exact hl _ (List.getElem_mem hj)
  by_cases h0 : ls.getD j 0 = 0
  · rw [if_neg (by omega)]; unfold codeOf; rw [if_pos h0]
  · rw [if_pos (by omega)]
/-- the places by length, up to one length -/
def ordUp (ls : List Nat) (s : Nat) : List Nat := (List.range s).flatMap fun k => ordN ls (k + 1)
theorem ordUp_succ (ls : List Nat) (s : Nat) : ordUp ls (s + 1) = ordUp ls s ++ ordN ls (s + 1) := by
  unfold ordUp; rw [List.range_succ, List.flatMap_append]; simp
theorem ordUp_len (ls : List Nat) (s : Nat) : (ordUp ls s).length = ((List.range s).map fun k => cnt ls (k + 1)).sum := by
  induction s with
  | zero => rfl
  | succ s ih => rw [ordUp_succ, List.length_append, ih, List.range_succ, List.map_append, List.sum_append]; simp [cnt]
theorem ordUp_prefix (ls : List Nat) (s d : Nat) : ∃ t, ordUp ls (s + d) = ordUp ls s ++ t := by
  induction d with
  | zero => exact ⟨[], by simp⟩
  | succ d ih =>
    obtain ⟨t, ht⟩ := ih
    rw [← Nat.add_assoc, ordUp_succ, ht]
    exact ⟨t ++ _, by rw [List.append_assoc]⟩
/-- the place that a table tells -/
theorem ordUp_get (ls : List Nat) (n c i : Nat) (hn : n < 15) (hf : findC ls (n + 1) c = some i) : (ordUp ls 15)[(ordUp ls n).length + (c - first ls (n + 1))]? = some i := by
  have h1 : first ls (n + 1) ≤ c ∧ c < first ls (n + 1) + cnt ls (n + 1) := by
    rcases Classical.em (first ls (n + 1) ≤ c ∧ c < first ls (n + 1) + cnt ls (n + 1)) with h | h
    · exact h
    · rw [findC_none ls _ _ h] at hf; cases hf
  have h2 : (ordN ls (n + 1))[c - first ls (n + 1)]? = some i := by
    unfold findC at hf; rw [if_pos h1] at hf; exact hf
  have h3 := (List.getElem?_eq_some_iff.1 h2).1
  obtain ⟨t, ht⟩ := ordUp_prefix ls (n + 1) (14 - n)
  rw [show n + 1 + (14 - n) = 15 by omega] at ht
  rw [ht, ordUp_succ, List.append_assoc, List.getElem?_append_right (by omega), List.getElem?_append_left (by omega)]
  rw [← h2]; congr 1; omega
theorem ordN_len_le (ls : List Nat) (n : Nat) : (ordN ls n).length ≤ ls.length := by
  have := List.length_filter_le (fun i => ls.getD i 0 == n) (List.range ls.length)
  simpa [ordN] using this

/-! lengths as they come in -/
def badLen (x : Int) : Bool := decide (x < 0) || decide (15 < x)
def lsOf (zs : List Int) : List Nat := zs.map Int.toNat
/-- what is wrong with lengths -/
def chkL (zs : List Int) : Int := if 288 < zs.length then 2 else if zs.any badLen = true then 3 else if 32768 < room (lsOf zs) then 8 else 0
theorem room_snoc (ls : List Nat) (x : Nat) : room (ls ++ [x]) = room ls + if x = 0 then 0 else 2 ^ (15 - x) := by
  unfold room; rw [List.map_append, List.sum_append]; simp
theorem lsOf_take (zs : List Int) (k : Nat) (h : k < zs.length) : lsOf (zs.take (k + 1)) = lsOf (zs.take k) ++ [zs[k].toNat] := by
  unfold lsOf; rw [List.take_succ_eq_append_getElem h, List.map_append]; rfl
theorem room_take (zs : List Int) (k : Nat) (h : k < zs.length) : room (lsOf (zs.take (k + 1))) = room (lsOf (zs.take k)) + if zs[k].toNat = 0 then 0 else 2 ^ (15 - zs[k].toNat) := by
  rw [lsOf_take zs k h, room_snoc]
theorem room_le (ls : List Nat) : room ls ≤ 32768 * ls.length := by
  induction ls with
  | nil => simp [room]
  | cons x ls ih =>
    have e : room (x :: ls) = (if x = 0 then 0 else 2 ^ (15 - x)) + room ls := by simp [room]
    have h : (if x = 0 then 0 else 2 ^ (15 - x)) ≤ 32768 := by
      split
      · omega
      · exact Nat.le_trans (Nat.pow_le_pow_right (by omega) (by omega : 15 - x ≤ 15)) (by decide)
    rw [e, List.length_cons]; omega
theorem chk_fine (zs : List Int) (h : chkL zs = 0) : zs.length ≤ 288 ∧ zs.any badLen = false ∧ room (lsOf zs) ≤ 32768 ∧ (∀ x ∈ lsOf zs, x ≤ 15) ∧ ∀ x ∈ zs, 0 ≤ x ∧ x ≤ 15 := by
  unfold chkL at h
  by_cases h1 : 288 < zs.length
  · rw [if_pos h1] at h; simp at h
  · rw [if_neg h1] at h
    by_cases h2 : zs.any badLen = true
    · rw [if_pos h2] at h; simp at h
    · rw [if_neg h2] at h
      by_cases h3 : 32768 < room (lsOf zs)
      · rw [if_pos h3] at h; simp at h
      · have hb : zs.any badLen = false := by simpa using h2
        have hall : ∀ x ∈ zs, 0 ≤ x ∧ x ≤ 15 := fun x hx => by
          have := (List.any_eq_false.1 hb) x hx
          simp [badLen] at this; omega
        refine ⟨by omega, hb, by omega, ?_, hall⟩
        intro x hx
        obtain ⟨z, hz, rfl⟩ := List.mem_map.1 hx
        have := hall z hz; omega
end Go.Proofs.Ythpdcnjaodjjmaa.Code

/- package inflate: what blocks of bits say; the plain law. No program in sight. -/
namespace Go.Proofs.Ythpdcnjaodjjmaa.Inf
open Go.Proofs.Ythpdcnjaodjjmaa.Bits Go.Proofs.Ythpdcnjaodjjmaa.Code
set_option linter.unusedVariables false

/-- what reading gives: a value, or what is wrong -/
inductive Rd (α : Type) where
  | bad (e : Int)
  | ok (a : α)
def Rd.then_ {α β : Type} (r : Rd α) (f : α → Rd β) : Rd β := match r with | .bad e => .bad e | .ok a => f a
theorem then_ok {α β : Type} (a : α) (f : α → Rd β) : (Rd.ok a).then_ f = f a := rfl
theorem then_bad {α β : Type} (e : Int) (f : α → Rd β) : (Rd.bad e : Rd α).then_ f = .bad e := rfl
/-- a number of n bits -/
def getR (row : List Bool) (p n : Nat) : Rd (Nat × Nat) := if p + n ≤ row.length then .ok (num ((row.drop p).take n), p + n) else .bad 7
def symR (row : List Bool) (ls : List Nat) (p : Nat) : Rd (Nat × Nat) :=
  if (next ls (row.drop p)).2.2 = 0 then .ok ((next ls (row.drop p)).1, p + (next ls (row.drop p)).2.1) else .bad (next ls (row.drop p)).2.2
def pushR (out : List UInt8) (x : UInt8) : Rd (List UInt8) := if out.length = 3000 then .bad 2 else .ok (out ++ [x])
def fillP (p : Nat) : Nat := (p + 7) / 8 * 8
/-- so many bytes, as they stand -/
def rawR (row : List Bool) : Nat → Nat → List UInt8 → Rd (Nat × List UInt8)
  | 0, p, out => .ok (p, out)
  | n + 1, p, out => (getR row p 8).then_ fun x => (pushR out (UInt8.ofNat x.1)).then_ fun o => rawR row n x.2 o
def storedR (row : List Bool) (p : Nat) (out : List UInt8) : Rd (Nat × List UInt8) :=
  (getR row (fillP p) 16).then_ fun x => (getR row x.2 16).then_ fun y => if x.1 + y.1 ≠ 65535 then .bad 4 else rawR row x.1 y.2 out
def tableR (zs : List Int) : Rd (List Nat) := if chkL zs = 0 then .ok (lsOf zs) else .bad 8
/-- the same length so many times -/
def againR (n : Nat) (l : List Nat) (v k : Nat) : Rd (List Nat) := if n < l.length + k then .bad 8 else .ok (l ++ List.replicate k v)
def lenStep (row : List Bool) (ls : List Nat) (n p : Nat) (l : List Nat) : Rd (Nat × List Nat) :=
  (symR row ls p).then_ fun k =>
    if k.1 = 16 then (if l = [] then .bad 8 else (getR row k.2 2).then_ fun x => (againR n l (l.getLastD 0) (3 + x.1)).then_ fun m => .ok (x.2, m))
    else if k.1 = 17 then (getR row k.2 3).then_ fun x => (againR n l 0 (3 + x.1)).then_ fun m => .ok (x.2, m)
    else if k.1 = 18 then (getR row k.2 7).then_ fun x => (againR n l 0 (11 + x.1)).then_ fun m => .ok (x.2, m)
    else (againR n l k.1 1).then_ fun m => .ok (k.2, m)
def lenR (row : List Bool) (ls : List Nat) (n : Nat) : Nat → Nat → List Nat → Rd (Nat × List Nat)
  | 0, p, l => .ok (p, l)
  | f + 1, p, l => if n ≤ l.length then .ok (p, l) else (lenStep row ls n p l).then_ fun x => lenR row ls n f x.1 x.2
def orderL : List Nat := [16, 17, 18, 0, 8, 7, 9, 6, 10, 5, 11, 4, 12, 3, 13, 2, 14, 1, 15]
def sizesR (row : List Bool) : List Nat → Nat → List Nat → Rd (Nat × List Nat)
  | [], p, s => .ok (p, s)
  | k :: ks, p, s => (getR row p 3).then_ fun x => sizesR row ks x.2 (s.set k x.1)
def zsOf (l : List Nat) : List Int := l.map Int.ofNat
def headR (row : List Bool) (p : Nat) : Rd (Nat × List Nat × List Nat) :=
  (getR row p 5).then_ fun a => (getR row a.2 5).then_ fun b => (getR row b.2 4).then_ fun c =>
    if 286 < a.1 + 257 ∨ 30 < b.1 + 1 then .bad 8
    else (sizesR row (orderL.take (c.1 + 4)) c.2 (List.replicate 19 0)).then_ fun s => (tableR (zsOf s.2)).then_ fun t =>
      (lenR row t (a.1 + 257 + (b.1 + 1)) (a.1 + 257 + (b.1 + 1)) s.1 []).then_ fun l =>
        if l.2.getD 256 0 = 0 then .bad 8
        else (tableR (zsOf (l.2.take (a.1 + 257)))).then_ fun x => (tableR (zsOf (l.2.drop (a.1 + 257)))).then_ fun y => .ok (l.1, x, y)
def sameL : List (Nat × Nat) := [(3, 0), (4, 0), (5, 0), (6, 0), (7, 0), (8, 0), (9, 0), (10, 0), (11, 1), (13, 1), (15, 1), (17, 1), (19, 2), (23, 2), (27, 2), (31, 2), (35, 3), (43, 3), (51, 3), (59, 3), (67, 4), (83, 4), (99, 4), (115, 4), (131, 5), (163, 5), (195, 5), (227, 5), (258, 0)]
def farL : List (Nat × Nat) := [(1, 0), (2, 0), (3, 0), (4, 0), (5, 1), (7, 1), (9, 2), (13, 2), (17, 3), (25, 3), (33, 4), (49, 4), (65, 5), (97, 5), (129, 6), (193, 6), (257, 7), (385, 7), (513, 8), (769, 8), (1025, 9), (1537, 9), (2049, 10), (3073, 10), (4097, 11), (6145, 11), (8193, 12), (12289, 12), (16385, 13), (24577, 13)]
def copyR (d : Nat) : Nat → List UInt8 → Rd (List UInt8)
  | 0, out => .ok out
  | n + 1, out => (pushR out (out.getD (out.length - d) 0)).then_ fun o => copyR d n o
/-- one symbol of a block's body: none: it ends -/
def bodyStep (row : List Bool) (lit far : List Nat) (p : Nat) (out : List UInt8) : Rd (Bool × Nat × List UInt8) :=
  (symR row lit p).then_ fun k =>
    if k.1 < 256 then (pushR out (UInt8.ofNat k.1)).then_ fun o => .ok (false, k.2, o)
    else if k.1 = 256 then .ok (true, k.2, out)
    else if 29 ≤ k.1 - 257 then .bad 8
    else (getR row k.2 (sameL.getD (k.1 - 257) (0, 0)).2).then_ fun x => (symR row far x.2).then_ fun f =>
      if 30 ≤ f.1 then .bad 8
      else (getR row f.2 (farL.getD f.1 (0, 0)).2).then_ fun y =>
        if out.length < (farL.getD f.1 (0, 0)).1 + y.1 then .bad 9
        else (copyR ((farL.getD f.1 (0, 0)).1 + y.1) ((sameL.getD (k.1 - 257) (0, 0)).1 + x.1) out).then_ fun o => .ok (false, y.2, o)
def bodyR (row : List Bool) (lit far : List Nat) : Nat → Nat → List UInt8 → Rd (Nat × List UInt8)
  | 0, p, out => .bad 7
  | f + 1, p, out => (bodyStep row lit far p out).then_ fun x => if x.1 = true then .ok x.2 else bodyR row lit far f x.2.1 x.2.2
def fixedA : List Nat := (List.range 288).map fun k => if 144 ≤ k ∧ k < 256 then 9 else if 256 ≤ k ∧ k < 280 then 7 else 8
def fixedB : List Nat := List.replicate 32 5
def blockR (row : List Bool) (p : Nat) (out : List UInt8) : Rd (Bool × Nat × Nat × List UInt8) :=
  (getR row p 1).then_ fun l => (getR row l.2 2).then_ fun k =>
    if k.1 = 0 then (storedR row k.2 out).then_ fun x => .ok (l.1 == 1, k.1, x.1, x.2)
    else if k.1 = 1 then (bodyR row fixedA fixedB (row.length + 1) k.2 out).then_ fun x => .ok (l.1 == 1, k.1, x.1, x.2)
    else if k.1 = 2 then (headR row k.2).then_ fun h => (bodyR row h.2.1 h.2.2 (row.length + 1) h.1 out).then_ fun x => .ok (l.1 == 1, k.1, x.1, x.2)
    else .bad 4
def blocksR (row : List Bool) : Nat → Nat → List UInt8 → List Nat → Rd (Nat × List UInt8 × List Nat)
  | 0, p, out, ks => .bad 7
  | f + 1, p, out, ks => (blockR row p out).then_ fun x => if x.1 = true then .ok (x.2.2.1, x.2.2.2, ks ++ [x.2.1]) else blocksR row f x.2.2.1 x.2.2.2 (ks ++ [x.2.1])
/-- what Unpack gives -/
def unpackR (b : List UInt8) : Rd (List UInt8 × Nat × List Nat) :=
  if 6000 < b.length then .bad 2 else (blocksR (bitsL b) (8 * b.length + 1) 0 [] []).then_ fun x => .ok (x.2.1, (x.1 + 7) / 8, x.2.2)

/-! ### a beginning of the row says the same, as far as it goes -/
/-- of a shorter row: the same, if what is read lies in it; else it ends too soon -/
def Cut {α : Type} (L : Nat) (pos : α → Nat) (r r' : Rd α) : Prop := ∀ a, r = .ok a → if pos a ≤ L then r' = .ok a else r' = .bad 7
theorem cut_get {row : List Bool} {L p n : Nat} (hp : p ≤ L) (hL : L ≤ row.length) : Cut L (fun x : Nat × Nat => x.2) (getR row p n) (getR (row.take L) p n) := by
  intro a ha
  unfold getR at ha
  split at ha
  · rename_i h
    injection ha with ha
    subst ha
    dsimp only
    unfold getR
    rw [List.length_take, Nat.min_eq_left hL]
    by_cases h2 : p + n ≤ L
    · rw [if_pos h2, if_pos h2]
      congr 3
      rw [List.drop_take, List.take_take, Nat.min_eq_left (by omega)]
    · rw [if_neg h2, if_neg h2]
  · cases ha
theorem cut_then {α β : Type} {L : Nat} {pa : α → Nat} {pb : β → Nat} {r r' : Rd α} {f f' : α → Rd β} (h : Cut L pa r r')
    (hf : ∀ a, r = .ok a → pa a ≤ L → Cut L pb (f a) (f' a)) (hm : ∀ a b, r = .ok a → f a = .ok b → pa a ≤ pb b) : Cut L pb (r.then_ f) (r'.then_ f') := by
  intro b hb
  cases hr : r with
  | bad e => rw [hr] at hb; cases hb
  | ok a =>
    rw [hr] at hb
    have h1 := h a hr
    by_cases hl : pa a ≤ L
    · rw [if_pos hl] at h1
      rw [h1, then_ok]
      exact hf a hr hl b hb
    · rw [if_neg hl] at h1
      have := hm a b hr hb
      rw [if_neg (by omega), h1]
      rfl
theorem nxt_take (ls : List Nat) (row : List Bool) (L : Nat) (hL : L ≤ row.length) : ∀ (k n i m : Nat), 1 ≤ n → nxt ls row k n = (i, m, 0) → n ≤ m ∧ m ≤ row.length ∧ (if m ≤ L then nxt ls (row.take L) k n = (i, m, 0) else nxt ls (row.take L) k n = (0, 0, 7))
  | 0, n, i, m, _, h => by simp [nxt] at h
  | k + 1, n, i, m, hn, h => by
    by_cases h1 : row.length < n
    · rw [nxt_torn _ _ _ _ h1] at h
      simp at h
    · cases hf : findC ls n (val (row.take n)) with
      | some j =>
        rw [nxt_hit ls row k n j (by omega) hf] at h
        simp only [Prod.mk.injEq] at h
        obtain ⟨rfl, rfl, _⟩ := h
        refine ⟨Nat.le_refl _, by omega, ?_⟩
        by_cases h2 : n ≤ L
        · rw [if_pos h2]
          refine nxt_hit ls _ k n j (by rw [List.length_take]; omega) ?_
          rw [List.take_take, Nat.min_eq_left h2]
          exact hf
        · rw [if_neg h2]
          exact nxt_torn _ _ _ _ (by rw [List.length_take]; omega)
      | none =>
        rw [nxt_miss ls row k n (by omega) hf] at h
        obtain ⟨h3, h4, h5⟩ := nxt_take ls row L hL k (n + 1) i m (by omega) h
        refine ⟨by omega, h4, ?_⟩
        by_cases h2 : n ≤ L
        · have e : nxt ls (row.take L) (k + 1) n = nxt ls (row.take L) k (n + 1) := by
            refine nxt_miss ls _ k n (by rw [List.length_take]; omega) ?_
            rw [List.take_take, Nat.min_eq_left h2]
            exact hf
          rw [e]
          exact h5
        · rw [if_neg (by omega)]
          exact nxt_torn _ _ _ _ (by rw [List.length_take]; omega)
theorem cut_sym {row : List Bool} {L p : Nat} {ls : List Nat} (hp : p ≤ L) (hL : L ≤ row.length) : Cut L (fun x : Nat × Nat => x.2) (symR row ls p) (symR (row.take L) ls p) := by
  intro a ha
  unfold symR at ha
  split at ha
  · rename_i h
    injection ha with ha
    obtain ⟨i, m, z, hn⟩ : ∃ i m z, next ls (row.drop p) = (i, m, z) := ⟨_, _, _, rfl⟩
    rw [hn] at h ha
    dsimp only at h ha
    subst h ha
    unfold next at hn
    obtain ⟨h1, h2, h3⟩ := nxt_take ls (row.drop p) (L - p) (by rw [List.length_drop]; omega) 15 1 i m (Nat.le_refl _) hn
    unfold symR next
    rw [List.drop_take]
    dsimp only
    by_cases h4 : m ≤ L - p
    · rw [if_pos h4] at h3
      rw [if_pos (by omega), h3]
      rfl
    · rw [if_neg h4] at h3
      rw [if_neg (by omega), h3]
      rfl
  · cases ha
end Go.Proofs.Ythpdcnjaodjjmaa.Inf

/- numbers that are read. -/
namespace Go.Proofs.Ythpdcnjaodjjmaa
open Go Go.RowKit
set_option linter.unusedVariables false

def iv (x : Int) : Value := .int .i64 x
def InAt (w : World) (A : Option Addr) (xs : List Int) : Prop := SlAt w A (xs.map iv)
theorem InAt.below {w w' : World} {A : Option Addr} {xs : List Int} (h : InAt w A xs) (hb : Below w.heap.size w w') : InAt w' A xs := SlAt.below h hb
theorem InAt.get {w : World} {A : Option Addr} {xs : List Int} (h : InAt w A xs) {k : Nat} (hk : k < xs.length) :
    ∃ b o, A = some ⟨b, o, none⟩ ∧ w.cell? ⟨b, o + k, none⟩ = some (.int .i64 xs[k]) := by
  obtain ⟨b, o, e, hc⟩ := SlAt.get h (k := k) (by simpa using hk)
  exact ⟨b, o, e, by rw [hc]; simp [iv]⟩

theorem below_drewN' {B : Nat} {a w : World} (h : Below B a w) (n : Nat) : Below B a (w.drewN n) := ⟨h.os, h.tape, h.output, h.size, h.block⟩
theorem take_eq_succ {α : Type} [DecidableEq α] (xs ys : List α) (k : Nat) (h1 : k < xs.length) (h2 : k < ys.length) (h : xs.take k = ys.take k) (he : xs[k] = ys[k]) : xs.take (k + 1) = ys.take (k + 1) := by
  rw [take_snoc _ _ h1, take_snoc _ _ h2, h, he]
theorem ne_of_get {α : Type} (xs ys : List α) (k : Nat) (h1 : k < xs.length) (h2 : k < ys.length) (he : xs[k] ≠ ys[k]) : xs ≠ ys := by
  intro h; subst h; exact he rfl
end Go.Proofs.Ythpdcnjaodjjmaa

/- opening: what an argument that came in is to the walks. -/
namespace Go.Proofs.Ythpdcnjaodjjmaa
open Go Go.ChangeShapes Go.WideShapes Go.ChangeAt Go.RowKit

/-- a []byte that came in -/
def IsBytes (w : World) (v : Value) (xs : List UInt8) : Prop :=
  ∃ A cap, v = .slice A xs.length cap ∧ xs.length ≤ cap ∧ cap ≤ maxLen ∧ ByAt w A xs
theorem cell_spot {w : World} {b o : Nat} {s : Option Nat} {v : Value} (h : w.cell? ⟨b, o, s⟩ = some v) : s = none := World.cell?_spot h

/-- how many elements a datum has, if it is a slice -/
def dlen {H : Type} : DataW H → Nat
  | .slice e _ => e.length
  | _ => 0
theorem open_bytes_dlen {H : Type} {enc : TypeId × Value → H} {P : Program} {w : World} {base fuel : Nat} {spare : Nat → Bool} {held : Bool} {t e : TypeId} {A : Option Addr} {len cap : Nat} {d : DataW H} {ps : List MemPlace}
    (ht : P.underlying t = some (.slice e)) (he : P.underlying e = some (.int .u8)) (hc : P.cellsOf e = 1)
    (hf : DataW.trod enc P w base spare held fuel t [.slice A len cap] = some (d, ps)) : ∃ xs, IsBytes w (.slice A len cap) xs ∧ dlen d = xs.length := by
  rcases open_ints ht he hc hf with ⟨hcs, hd⟩ | ⟨x, l, c, zs, hcs, _, hl, hm, hz, hd, hcell, hwz⟩
  · simp at hcs
    obtain ⟨rfl, rfl, rfl⟩ := hcs
    simp only [Prod.mk.injEq] at hd
    obtain ⟨rfl, _⟩ := hd
    exact ⟨[], ⟨none, 0, rfl, Nat.le_refl _, by unfold maxLen; omega, SlAt.nil⟩, rfl⟩
  · simp at hcs
    obtain ⟨rfl, rfl, rfl⟩ := hcs
    have hlen : len ≤ zs.length := by rw [hz]; split <;> omega
    have hb : ∀ i, i < zs.length → zs.getD i 0 = n8 (UInt8.ofNat (zs.getD i 0).toNat) := by
      intro i hi
      have eg : zs.getD i 0 = zs[i] := by simp [List.getD, hi]
      have hw := hwz (zs.getD i 0) (by rw [eg]; exact List.getElem_mem hi)
      have : 0 ≤ zs.getD i 0 ∧ zs.getD i 0 ≤ 255 := by simpa [Lit.wf, IntKind.min, IntKind.max, IntKind.signed, IntKind.bits] using hw
      unfold n8; rw [UInt8.toNat_ofNat']; omega
    simp only [Prod.mk.injEq] at hd
    obtain ⟨rfl, _⟩ := hd
    refine ⟨(zs.take len).map fun z => UInt8.ofNat z.toNat, ⟨some x, cap, ?_, ?_, hm, ?_⟩, by simp [dlen, lits]⟩
    · simp; omega
    · simp; omega
    · intro hp
      obtain ⟨b, o, s⟩ := x
      have h0 : 0 < zs.length := by simp at hp; omega
      have hs : s = none := by have := hcell 0 h0; simp [Addr.add] at this; exact cell_spot this
      subst hs
      refine ⟨b, o, rfl, fun j u hj => ?_⟩
      simp only [List.getElem?_map] at hj
      by_cases hjl : j < (zs.take len).length
      · have hjz : j < zs.length := by simp at hjl; omega
        have hc1 := hcell j hjz
        have e1 : (Addr.add ⟨b, o, none⟩ j) = ⟨b, o + j, none⟩ := by
          unfold Addr.add; split
          · subst_vars; rfl
          · rfl
        rw [e1] at hc1
        rw [hc1, hb j hjz]
        rw [List.getElem?_eq_getElem hjl] at hj
        simp at hj
        rw [← hj]
        have eg : zs.getD j 0 = zs[j] := by simp [List.getD, hjz]
        rw [eg]; rfl
      · rw [List.getElem?_eq_none (by omega)] at hj
        simp at hj
theorem open_bytes_trod {H : Type} {enc : TypeId × Value → H} {P : Program} {w : World} {base fuel : Nat} {spare : Nat → Bool} {held : Bool} {t e : TypeId} {A : Option Addr} {len cap : Nat} {x : DataW H × List MemPlace}
    (ht : P.underlying t = some (.slice e)) (he : P.underlying e = some (.int .u8)) (hc : P.cellsOf e = 1)
    (hf : DataW.trod enc P w base spare held fuel t [.slice A len cap] = some x) : ∃ xs, IsBytes w (.slice A len cap) xs := by
  obtain ⟨d, ps⟩ := x
  obtain ⟨xs, h, _⟩ := open_bytes_dlen ht he hc hf
  exact ⟨xs, h⟩
theorem open_bytes {H : Type} {enc : TypeId × Value → H} {P : Program} {w : World} {base b0 : Nat} {spare : Nat → Bool} {held : Bool} {r : Reach} {t e : TypeId} {v : Value} {d : DataW H} {ps : List MemPlace}
    (ht : P.underlying t = some (.slice e)) (he : P.underlying e = some (.int .u8)) (hc : P.cellsOf e = 1) (hv : Value.okWide P w r b0 t v)
    (h : DataW.Trod enc P w base spare held t v d ps) : ∃ xs, IsBytes w v xs ∧ dlen d = xs.length := by
  obtain ⟨A, len, cap, rfl⟩ := okWide_slice ht hv
  obtain ⟨fuel, hf⟩ := h
  exact open_bytes_dlen ht he hc hf
theorem wf_u32 {x : Int} (h : (Lit.int .u32 x).wf = true) : ∃ c : BitVec 32, x = n32 c := by
  have : 0 ≤ x ∧ x ≤ 4294967295 := by simpa [Lit.wf, IntKind.min, IntKind.max, IntKind.signed, IntKind.bits] using h
  exact ⟨BitVec.ofNat 32 x.toNat, by unfold n32; simp; omega⟩
theorem wf_u8 {x : Int} (h : (Lit.int .u8 x).wf = true) : ∃ c : UInt8, x = n8 c := by
  have : 0 ≤ x ∧ x ≤ 255 := by simpa [Lit.wf, IntKind.min, IntKind.max, IntKind.signed, IntKind.bits] using h
  exact ⟨UInt8.ofNat x.toNat, by unfold n8; rw [UInt8.toNat_ofNat']; omega⟩
theorem wf_i64 {x : Int} (h : (Lit.int .i64 x).wf = true) : -9223372036854775808 ≤ x ∧ x ≤ 9223372036854775807 := by
  simpa [Lit.wf, IntKind.min, IntKind.max, IntKind.signed, IntKind.bits] using h
end Go.Proofs.Ythpdcnjaodjjmaa

/- package code: Check. -/
namespace Go.Proofs.Ythpdcnjaodjjmaa.Code
open Go Go.RowKit Go.Proofs.Ythpdcnjaodjjmaa
set_option linter.unusedVariables false

theorem any_take (zs : List Int) (k : Nat) (h : k < zs.length) (h1 : (zs.take k).any badLen = false) (h2 : badLen zs[k] = false) : (zs.take (k + 1)).any badLen = false := by
  rw [take_snoc _ _ h, List.any_append, h1]; simp [h2]
theorem chk_range (zs : List Int) (k : Nat) (h : k < zs.length) (hl : zs.length ≤ 288) (h2 : badLen zs[k] = true) : chkL zs = 3 := by
  unfold chkL
  rw [if_neg (by omega), if_pos (List.any_eq_true.2 ⟨_, List.getElem_mem h, h2⟩)]
theorem chk_done (zs : List Int) (hl : zs.length ≤ 288) (h : zs.any badLen = false) : chkL zs = if 32768 < room (lsOf zs) then 8 else 0 := by
  unfold chkL
  rw [if_neg (by omega), if_neg (by rw [h]; simp)]
theorem two_up (m : Nat) : (2 : Int) ^ m = ((2 ^ m : Nat) : Int) := by simp
set_option maxRecDepth 100000 in
set_option maxHeartbeats 1600000 in
theorem check_few (A : Option Addr) (n c : Nat) (zs : List Int) (w : World) (hn : zs.length = n) (hx : n ≤ 288) (hA : InAt w A zs) :
    Calls Try.prog 94 #[.slice A n c] w fun e w' => e = .returned (.int .i64 (chkL zs)) ∧ w' = w := by
  have Hn := Lib.hid hn
  have HA := Lib.hid hA
  clear hn hA
  have hnm : ¬ (288 < (n : Int)) := by omega
  go_enter Try.func94, Try.ntmps94
  go_wp2_with fail
  go_loop [3, 11] (fun r i => ∃ k : Nat, k ≤ n ∧ i = .int .i64 (k : Int) ∧ (zs.take k).any badLen = false ∧ r = .int .i64 ((room (lsOf (zs.take k)) : Nat) : Int)) (fun _ i => n - (intOf i).toNat)
  case atStart => exact ⟨0, Nat.zero_le _, rfl, rfl, rfl⟩
  case round =>
    obtain ⟨k, hk, rfl, hany, rfl⟩ := hrel
    have Hany := Lib.hid hany
    clear hany
    have hroom : room (lsOf (zs.take k)) ≤ 9437184 := by
      have h1 := room_le (lsOf (zs.take k))
      have h2 : (lsOf (zs.take k)).length ≤ 288 := by unfold lsOf; rw [List.length_map, List.length_take]; omega
      omega
    by_cases hlt : k < n
    · have hkl : k < zs.length := by rw [Hn.out]; exact hlt
      obtain ⟨b, o, rfl, hc⟩ := HA.out.get hkl
      have Hr := Lib.hid (room_take zs k hkl)
      have Hany2 := Lib.hid (any_take zs k hkl Hany.out)
      have Hbad := Lib.hid (chk_range zs k hkl (by rw [Hn.out]; exact hx))
      generalize room (lsOf (zs.take k)) = r at *
      generalize zs[k] = z at *
      by_cases h1 : z < 0
      · have Hf := Lib.hid (Hbad.out (by simp [badLen, h1]))
        clear Hbad Hany2 Hr
        go_wp2_with fail
        go_ret
        exact ⟨ret_int Hf.out.symm, rfl⟩
      · by_cases h2 : 15 < z
        · have Hf := Lib.hid (Hbad.out (by simp [badLen, h2]))
          clear Hbad Hany2 Hr
          go_wp2_with fail
          go_ret
          exact ⟨ret_int Hf.out.symm, rfl⟩
        · obtain ⟨x, rfl⟩ := Int.eq_ofNat_of_zero_le (by omega : 0 ≤ z)
          have Ha := Lib.hid (Hany2.out (by simp [badLen]; omega))
          rw [Int.toNat_natCast] at Hr
          clear Hbad Hany2
          by_cases h0 : x = 0
          · subst h0
            have Hr' : Hid (room (lsOf (zs.take (k + 1))) = r) := Lib.hid (by rw [Hr.out]; rfl)
            go_wp2_with fail
            go_round
            case rel => exact ⟨k + 1, by omega, by go_num, Ha.out, by rw [Hr'.out]⟩
            case measure => simp [intOf]; omega
          · have hx1 : 1 ≤ x := by omega
            have h0i : (0 : Int) < (x : Int) := by omega
            have Hr' : Hid (room (lsOf (zs.take (k + 1))) = r + 2 ^ (15 - x)) := Lib.hid (by rw [Hr.out, if_neg h0])
            have h3 : (2 : Nat) ^ (15 - x) ≤ 2 ^ 15 := Nat.pow_le_pow_right (by omega) (by omega)
            have ht := two_up (15 - x)
            generalize 2 ^ (15 - x) = y at *
            go_wp2_with fail
            go_round
            case rel => exact ⟨k + 1, by omega, by go_num, Ha.out, by rw [Hr'.out]; go_num⟩
            case measure => simp [intOf]; omega
    · obtain rfl : k = n := by omega
      have hal := Hany.out
      have Htk := Lib.hid (List.take_of_length_le (by rw [Hn.out]; omega : zs.length ≤ k))
      rw [Htk.out] at hal hroom ⊢
      have Hf := Lib.hid (chk_done zs (by rw [Hn.out]; exact hx) hal)
      clear hal
      generalize room (lsOf zs) = r at *
      by_cases h3 : 32768 < r
      · have Hr : Hid (chkL zs = 8) := Lib.hid (by rw [Hf.out, if_pos h3])
        go_wp2_with fail
        go_ret
        exact ⟨ret_int Hr.out.symm, rfl⟩
      · have Hr : Hid (chkL zs = 0) := Lib.hid (by rw [Hf.out, if_neg h3])
        go_wp2_with fail
        go_ret
        exact ⟨ret_int Hr.out.symm, rfl⟩
theorem check_any (A : Option Addr) (n c : Nat) (zs : List Int) (w : World) (hn : zs.length = n) (hx : n ≤ maxLen) (hA : InAt w A zs) :
    Calls Try.prog 94 #[.slice A n c] w fun e w' => e = .returned (.int .i64 (chkL zs)) ∧ w' = w := by
  by_cases h : n ≤ 288
  · exact check_few A n c zs w hn h hA
  · have Hc : Hid (chkL zs = 2) := Lib.hid (by unfold chkL; rw [if_pos (by omega)])
    have hnm : 288 < (n : Int) := by omega
    unfold maxLen at hx
    clear hn hA
    go_enter Try.func94, Try.ntmps94
    go_wp2_with fail
    go_ret
    exact ⟨ret_int Hc.out.symm, rfl⟩
end Go.Proofs.Ythpdcnjaodjjmaa.Code

/- what is kept while objects of certain types are written. No program in sight. -/
namespace Go.Proofs.Ythpdcnjaodjjmaa
open Go Go.RowKit
set_option linter.unusedVariables false

/-- below 'base' nothing has turned, and no block but those of the element types T -/
structure Keeps (base : Nat) (T : List TypeId) (w w' : World) : Prop where
  os : w'.os = w.os
  tape : w'.tape = w.tape
  output : w'.output = w.output
  size : w.heap.size ≤ w'.heap.size
  block : ∀ k, k < base → w'.heap[k]? = w.heap[k]?
  other : ∀ (k : Nat) (o : Obj), w.heap[k]? = some o → (∀ cs t fr, o = Obj.cells cs t fr → t ∉ T) → w'.heap[k]? = some o

section
variable {base : Nat} {T : List TypeId} {w w' w'' : World}
theorem Keeps.refl (base : Nat) (T : List TypeId) (w : World) : Keeps base T w w := ⟨rfl, rfl, rfl, Nat.le_refl _, fun _ _ => rfl, fun _ _ h _ => h⟩
theorem Keeps.trans (h : Keeps base T w w') (k : Keeps base T w' w'') : Keeps base T w w'' :=
  ⟨k.os.trans h.os, k.tape.trans h.tape, k.output.trans h.output, Nat.le_trans h.size k.size, fun i hi => (k.block i hi).trans (h.block i hi), fun i o ho ht => k.other i o (h.other i o ho ht) ht⟩
theorem Keeps.mono (h : Keeps base T w w') {base' : Nat} {T' : List TypeId} (hb : base' ≤ base) (hT : ∀ t, t ∈ T → t ∈ T') : Keeps base' T' w w' :=
  ⟨h.os, h.tape, h.output, h.size, fun i hi => h.block i (by omega), fun i o ho ht => h.other i o ho fun cs t fr e ht' => ht cs t fr e (hT t ht')⟩
theorem Keeps.drew (h : Keeps base T w w') : Keeps base T w w'.drew := ⟨h.os, h.tape, h.output, h.size, h.block, h.other⟩
theorem Keeps.drewN (h : Keeps base T w w') (n : Nat) : Keeps base T w (w'.drewN n) := ⟨h.os, h.tape, h.output, h.size, h.block, h.other⟩
theorem Keeps.alloc (h : Keeps base T w w') (hb : base ≤ w'.heap.size) (o : Obj) : Keeps base T w (w'.alloc o) :=
  h.trans ⟨rfl, rfl, rfl, by simp, fun k hk => Below.heap_alloc _ _ _ (by omega), fun k x hx _ => by
    have hlt : k < w'.heap.size := by
      rcases Nat.lt_or_ge k w'.heap.size with h | h
      · exact h
      · rw [Array.getElem?_eq_none h] at hx; cases hx
    rw [Below.heap_alloc _ _ _ hlt]; exact hx⟩
/-- what turns nothing that was there -/
theorem Keeps.of_below (h : Below w.heap.size w w') (hb : base ≤ w.heap.size) : Keeps base T w w' :=
  ⟨h.os, h.tape, h.output, h.size, fun k hk => h.block k (by omega), fun k x hx _ => by
    have hlt : k < w.heap.size := by
      rcases Nat.lt_or_ge k w.heap.size with h | h
      · exact h
      · rw [Array.getElem?_eq_none h] at hx; cases hx
    rw [h.block k hlt]; exact hx⟩
theorem Keeps.setCell (h : Keeps base T w w') {p : Addr} {t : TypeId} {cs : Array Value} {fr : Nat × Nat} (hp : w'.heap[p.block]? = some (.cells cs t fr)) (ht : t ∈ T) (hb : base ≤ p.block) (u : Value) : Keeps base T w (w'.setCell p u) :=
  h.trans ⟨rfl, rfl, rfl, by simp [World.setCell], fun k hk => Below.heap_setCell _ _ _ _ (by omega), fun k x hx hn => by
    have hne : k ≠ p.block := by
      rintro rfl
      rw [hp] at hx
      injection hx with hx
      exact hn _ _ _ hx.symm ht
    rw [Below.heap_setCell _ _ _ _ hne]; exact hx⟩
theorem Keeps.grown (h : Keeps base T w w') {e : TypeId} {size n : Nat} {v : Value} {xs : List Value} (hown : w'.ownsRow base e size v n xs) (hg : w'.grownBy w'' v.ownBlock) (ht : e ∈ T) (hB : base ≤ w'.heap.size) : Keeps base T w w'' := by
  refine h.trans ⟨hg.os, hg.tape, hg.output, hg.size, fun k hk => hg.block k (by omega) (fun e => by have := (hown.lt k e.symm).1; omega), fun k x hx hn => ?_⟩
  have hlt : k < w'.heap.size := by
    rcases Nat.lt_or_ge k w'.heap.size with h | h
    · exact h
    · rw [Array.getElem?_eq_none h] at hx; cases hx
  rw [hg.block k hlt ?_]
  · exact hx
  · intro he
    rcases hown.2 with ⟨rfl, _⟩ | ⟨g, cap, cur, rfl, hbg, hgb, r⟩
    · simp [Value.ownBlock] at he
    · have : k = g := by simpa [Value.ownBlock] using he
      subst this
      rw [hgb] at hx
      injection hx with hx
      exact hn _ _ _ hx.symm ht
theorem Keeps.setBlk (h : Keeps base T w w') {g : Nat} {t : TypeId} {cs : Array Value} (hp : Blk w' g t cs) (ht : t ∈ T) (hb : base ≤ g) (i : Nat) (u : Value) : Keeps base T w (w'.setCell ⟨g, i, none⟩ u) :=
  h.setCell (p := ⟨g, i, none⟩) hp ht hb u
theorem Keeps.stored (h : Keeps base T w w') {e : TypeId} {size n m cap g : Nat} {xs : List Value} (hown : w'.ownsRow base e size (.slice (some ⟨g, 0, none⟩) m cap) n xs) (ht : e ∈ T) (i : Nat) (u : Value) : Keeps base T w (w'.setCell ⟨g, i, none⟩ u) := by
  rcases hown.2 with ⟨hv, _⟩ | ⟨g', cap', cur, hv, hbg, hg, r⟩
  · cases hv
  · injection hv with hv
    injection hv with hv
    injection hv with hv
    subst hv
    exact h.setCell (p := ⟨g, i, none⟩) hg ht hbg u
theorem Keeps.below (h : Keeps base T w w') : Below base w w' := ⟨h.os, h.tape, h.output, h.size, h.block⟩
theorem Keeps.blk (h : Keeps base T w w') {g : Nat} {t : TypeId} {cs : Array Value} (hb : Blk w g t cs) (ht : t ∉ T) : Blk w' g t cs :=
  h.other g _ hb fun cs' t' fr e => by injection e with e1 e2; rw [← e2]; exact ht
theorem Keeps.own (h : Keeps base T w w') {B : Nat} {e : TypeId} {size n : Nat} {v : Value} {xs : List Value} (hown : w.ownsRow B e size v n xs) (ht : e ∉ T) : w'.ownsRow B e size v n xs := by
  refine ⟨hown.1, ?_⟩
  rcases hown.2 with h1 | ⟨g, cap, cur, rfl, hbg, hg, r⟩
  · exact .inl h1
  · exact .inr ⟨g, cap, cur, rfl, hbg, h.other g _ hg fun cs' t' fr e => by injection e with e1 e2; rw [← e2]; exact ht, r⟩
end
theorem own_ne {w : World} {base : Nat} {e : TypeId} {size n : Nat} {v : Value} {xs : List Value} {g : Nat} {t : TypeId} {cs : Array Value} (h : w.ownsRow base e size v n xs) (hg : Blk w g t cs) (hne : e ≠ t) : v.ownBlock ≠ some g := by
  rcases h.2 with ⟨rfl, _⟩ | ⟨g', cap, cur, rfl, _, hh, _⟩
  · simp [Value.ownBlock]
  · intro he
    have : g' = g := by simpa [Value.ownBlock] using he
    subst this
    unfold Blk at hg
    rw [hh] at hg
    injection hg with hg
    injection hg with _ ht
    exact hne ht
theorem Blk.c0 {w : World} {g : Nat} {t : TypeId} {a b : Value} (h : Blk w g t #[a, b]) : w.cell? ⟨g, 0, none⟩ = some a := by rw [h.cell]; rfl
theorem Blk.c1 {w : World} {g : Nat} {t : TypeId} {a b : Value} (h : Blk w g t #[a, b]) : w.cell? ⟨g, 1, none⟩ = some b := by rw [h.cell]; rfl
theorem Blk.s0 {w : World} {g : Nat} {t : TypeId} {a b : Value} (h : Blk w g t #[a, b]) (u : Value) : Blk (w.setCell ⟨g, 0, none⟩ u) g t #[u, b] := h.set_ 0 u
theorem Blk.s1 {w : World} {g : Nat} {t : TypeId} {a b : Value} (h : Blk w g t #[a, b]) (u : Value) : Blk (w.setCell ⟨g, 1, none⟩ u) g t #[a, u] := h.set_ 1 u
/-- a block, kept while an own row of another element type grows -/
theorem Blk.grown {w w' : World} {g : Nat} {t : TypeId} {cs : Array Value} (hg : Blk w g t cs) {row : Option Nat} (h : w.grownBy w' row) (hne : row ≠ some g) : Blk w' g t cs := (h.block g hg.lt (fun e => hne e.symm)).trans hg
end Go.Proofs.Ythpdcnjaodjjmaa

/- rows of natural numbers. -/
namespace Go.Proofs.Ythpdcnjaodjjmaa.Code
open Go Go.RowKit Go.Proofs.Ythpdcnjaodjjmaa
set_option linter.unusedVariables false

def natV (n : Nat) : Value := .int .i64 (n : Int)
theorem infoI : (Try.prog.info? 3).map (fun i => (i.zero, i.size, i.bytes)) = some (some (.int .i64 0), 1, 8) := by kernel_rfl
/-- make([]int, n) -/
theorem make_ints (n : Nat) (hn : n ≤ 1000000) (u : World) : (Instr.makeSlice 30 (.int .i64 (n : Int)) (.int .i64 (n : Int))).run Try.prog u =
      .ok (.slice (some ⟨u.heap.size, 0, none⟩) n n) (u.alloc (.cells (madeCells #[.int .i64 0] n) 3)) := by
  obtain ⟨i0, hi, hz0, hz1, hz2⟩ := info_parts infoI
  have h := run_make (P := Try.prog) u 30 3 i0 (.int .i64 0) Try.underlying30 hi hz0 .i64 .i64 (n : Int) (n : Int) (by omega) (Int.le_refl _) (by rw [hz2]; omega) (by omega)
  simpa [hz1, Value.cells] using h
/-- a block of numbers -/
def nats (l : List Nat) : Array Value := (l.map natV).toArray
theorem nats_zero (n : Nat) : madeCells #[.int .i64 0] n = nats (List.replicate n 0) := by
  unfold madeCells nats
  apply Array.ext'
  simp
  apply List.ext_getElem
  · simp
  · intro i h1 h2
    simp [natV, Nat.mod_one]
theorem nats_set (l : List Nat) (i x : Nat) : (nats l).setIfInBounds i (.int .i64 (x : Int)) = nats (l.set i x) := by
  unfold nats
  apply Array.ext'
  simp [List.map_set, natV]
theorem nats_get (l : List Nat) (i : Nat) (h : i < l.length) : (nats l)[i]? = some (.int .i64 (l[i] : Int)) := by
  simp [nats, h, natV]
theorem nats_own {w : World} {base g : Nat} {l : List Nat} (hb : base ≤ g) (h : Blk w g 3 (nats l)) (hl : l.length ≤ 1000000) : w.ownsRow base 3 1 (.slice (some ⟨g, 0, none⟩) l.length l.length) l.length (l.map natV) :=
  ⟨by simp, .inr ⟨g, l.length, nats l, rfl, hb, h, Nat.le_refl _, by unfold maxLen; omega, by simp [nats], by simp [nats, List.take_of_length_le]⟩⟩
theorem getD_of (zs : List Int) (k : Nat) (h : k < zs.length) : (lsOf zs).getD k 0 = zs[k].toNat := by
  simp [lsOf, List.getD_eq_getElem?_getD, h]
theorem lsOf_len (zs : List Int) : (lsOf zs).length = zs.length := by simp [lsOf]
end Go.Proofs.Ythpdcnjaodjjmaa.Code

/- bits of numbers, as the machine reckons them. No program's text in sight. -/
namespace Go.Proofs.Ythpdcnjaodjjmaa.Bits
open Go Go.RowKit Go.Proofs.Ythpdcnjaodjjmaa
set_option linter.unusedVariables false

theorem ty8 : SliceTy Try.prog 22 5 (.int .u8 0) 1 1 := ⟨Try.underlying22, by kernel_rfl, rfl, by omega⟩
theorem and_bit64 (n k : Nat) (h : n < 9223372036854775808) : bits .and .i64 ((n : Int) / 2 ^ k) 1 = ((n.testBit k).toNat : Int) := by
  have h2 : (n : Int) / 2 ^ k = ((n / 2 ^ k : Nat) : Int) := by simp
  have hlt : n / 2 ^ k < 9223372036854775808 := Nat.lt_of_le_of_lt (Nat.div_le_self _ _) h
  have hx : BitVec.ofInt 64 ((n / 2 ^ k : Nat) : Int) = BitVec.ofNat 64 (n / 2 ^ k) := by rw [BitVec.ofInt_natCast]
  rw [h2]
  show IntKind.i64.wrap ((BitVec.ofInt 64 ((n / 2 ^ k : Nat) : Int) &&& BitVec.ofInt 64 (1 : Int)).toNat : Int) = _
  have h1 : (BitVec.ofInt 64 ((n / 2 ^ k : Nat) : Int) &&& BitVec.ofInt 64 (1 : Int)).toNat = (n / 2 ^ k) % 2 := by
    rw [hx, BitVec.toNat_and, BitVec.toNat_ofNat, Nat.mod_eq_of_lt (by omega), show (BitVec.ofInt 64 (1 : Int)).toNat = 1 from rfl, nat_mask1]
  rw [h1, Nat.toNat_testBit]; exact IntWalk.i64_in _ (by omega)
/-- one bit, closed to simp -/
def bitI (b : Bool) : Int := (b.toNat : Int)
theorem and_bitI (n k : Nat) (h : n < 9223372036854775808) : bits .and .i64 ((n : Int) / 2 ^ k) 1 = bitI (n.testBit k) := and_bit64 n k h

end Go.Proofs.Ythpdcnjaodjjmaa.Bits

/- package bits: bits that are read. -/
namespace Go.Proofs.Ythpdcnjaodjjmaa.Bits
open Go Go.RowKit Go.Proofs.Ythpdcnjaodjjmaa
set_option linter.unusedVariables false

/-- a source at p: its bytes' place, which bit is next -/
def SrcAt (w : World) (p : Nat) (A : Option Addr) (n c : Nat) (pos : Nat) : Prop := Blk w p 76 #[.slice A n c, .int .i64 (pos : Int)]
def srcT : List TypeId := [76]

theorem u8_and_bitI (x : UInt8) (r : Nat) : bits .and .u8 (n8 x / 2 ^ r) 1 = bitI (x.toNat.testBit r) := by
  have hx := x.toNat_lt
  have hlt : x.toNat / 2 ^ r < 256 := Nat.lt_of_le_of_lt (Nat.div_le_self _ _) hx
  have h2 : n8 x / 2 ^ r = ((x.toNat / 2 ^ r : Nat) : Int) := by unfold n8; simp
  rw [h2, show (1 : Int) = ((1 : Nat) : Int) from rfl, u8_and_nat _ _ hlt (by omega), nat_mask1]
  unfold bitI; rw [Nat.toNat_testBit]
theorem bitI_bd (b : Bool) : 0 ≤ bitI b ∧ bitI b ≤ 1 := by cases b <;> decide
theorem or64 (a b i : Nat) (ha : a % 2 ^ i = 0) (hb : b < 2 ^ i) (hs : a + b < 9223372036854775808) : bits .or .i64 (a : Int) (b : Int) = ((a + b : Nat) : Int) := by
  have h1 : BitVec.ofInt 64 (a : Int) = BitVec.ofNat 64 a := by rw [BitVec.ofInt_natCast]
  have h2 : BitVec.ofInt 64 (b : Int) = BitVec.ofNat 64 b := by rw [BitVec.ofInt_natCast]
  show IntKind.i64.wrap ((BitVec.ofInt 64 (a : Int) ||| BitVec.ofInt 64 (b : Int)).toNat : Int) = _
  rw [h1, h2, BitVec.toNat_or, BitVec.toNat_ofNat, BitVec.toNat_ofNat, Nat.mod_eq_of_lt (by omega), Nat.mod_eq_of_lt (by omega), nat_join i a b ha hb]
  exact IntWalk.i64_in _ (by omega)
theorem or_comm64 (a b : Int) : bits .or .i64 a b = bits .or .i64 b a := by
  show IntKind.i64.wrap ((BitVec.ofInt 64 a ||| BitVec.ofInt 64 b).toNat : Int) = IntKind.i64.wrap ((BitVec.ofInt 64 b ||| BitVec.ofInt 64 a).toNat : Int)
  rw [BitVec.or_comm]
theorem or_bit64 (n k : Nat) (b : Bool) (hn : n < 2 ^ k) (hk : k ≤ 61) : bits .or .i64 (n : Int) (wrap64 (bitI b * 2 ^ k)) = ((n + b.toNat * 2 ^ k : Nat) : Int) := by
  have h2 : 2 ^ k ≤ 2 ^ 61 := Nat.pow_le_pow_right (by omega) hk
  have hb : b.toNat ≤ 1 := by cases b <;> simp
  have hbb : b.toNat * 2 ^ k ≤ 1 * 2 ^ k := Nat.mul_le_mul_right _ hb
  have e : bitI b * 2 ^ k = ((b.toNat * 2 ^ k : Nat) : Int) := by unfold bitI; simp
  have e2 : wrap64 ((b.toNat * 2 ^ k : Nat) : Int) = ((b.toNat * 2 ^ k : Nat) : Int) := by unfold wrap64; omega
  rw [e, e2, or_comm64, or64 _ _ k (Nat.mul_mod_left _ _) hn (by omega), Nat.add_comm]
theorem slat_setCell {w : World} {A : Option Addr} {cs : List Value} (h : SlAt w A cs) {p : Addr} (hne : ∀ b o, A = some ⟨b, o, none⟩ → 0 < cs.length → b ≠ p.block) (u : Value) : SlAt (w.setCell p u) A cs := fun hp => by
  obtain ⟨b, o, e, hc⟩ := h hp
  refine ⟨b, o, e, fun j v hj => ?_⟩
  rw [World.cell?_of_block (Below.heap_setCell w p u b (hne b o e hp))]
  exact hc j v hj
theorem num_take_snoc (l : List Bool) (k : Nat) (h : k < l.length) : num (l.take (k + 1)) = num (l.take k) + l[k].toNat * 2 ^ k := by
  rw [take_snoc _ _ h, num_append]
  simp [num, Nat.min_eq_left (Nat.le_of_lt h)]
  exact Nat.mul_comm _ _

theorem of_any (A : Option Addr) (n c : Nat) (w : World) :
    Calls Try.prog 25 #[.slice A n c] w fun e w' => e = .returned (.pointer (some ⟨w.heap.size, 0, none⟩)) ∧ SrcAt w' w.heap.size A n c 0 ∧ Below w.heap.size w w' := by
  go_enter Try.func25, Try.ntmps25
  go_wp2
  go_ret
  exact ⟨rfl, Blk.new w _ _, (Below.refl _ _).alloc (Nat.le_refl _) _⟩

/-- what Get hands back: a number and true, or nothing and false -/
def GetPost (p : Nat) (A : Option Addr) (n c pos size : Nat) (xs : List UInt8) (w : World) (e : Ending) (w' : World) : Prop :=
  (pos + size ≤ 8 * n ∧ e = .returned (.tuple #[.int .i64 (num (((bitsL xs).drop pos).take size) : Nat), .bool true]) ∧ SrcAt w' p A n c (pos + size) ∨
   8 * n < pos + size ∧ e = .returned (.tuple #[.int .i64 0, .bool false]) ∧ ∃ q, SrcAt w' p A n c q) ∧ Keeps p srcT w w'

set_option maxRecDepth 100000 in
set_option maxHeartbeats 1600000 in
theorem get_any (p : Nat) (A : Option Addr) (n c pos size : Nat) (xs : List UInt8) (w : World) (h : SrcAt w p A n c pos) (hn : xs.length = n) (hA : ByAt w A xs) (hs : size ≤ 61) (hp : pos ≤ 8 * n) (hnn : n ≤ 1099511627776) (hbx : ∀ b o, A = some ⟨b, o, none⟩ → 0 < n → b ≠ p) :
    Calls Try.prog 72 #[.pointer (some ⟨p, 0, none⟩), .int .i64 (size : Int)] w (GetPost p A n c pos size xs w) := by
  have H := Lib.hid h
  have Hn := Lib.hid hn
  have HA := Lib.hid hA
  have Hbx := Lib.hid hbx
  clear h hn hA hbx
  go_enter Try.func72, Try.ntmps72
  go_wp2_with fail
  go_loopw [6, 9] (fun a i wr => ∃ k : Nat, k ≤ size ∧ pos + k ≤ 8 * n ∧ i = .int .i64 k ∧ a = .int .i64 (num (((bitsL xs).drop pos).take k) : Nat) ∧ SrcAt wr p A n c (pos + k) ∧ Keeps p srcT w wr ∧ ByAt wr A xs) (fun _ i _ => size - (intOf i).toNat)
  case atStart => exact ⟨0, Nat.zero_le _, hp, rfl, rfl, H.out, Keeps.refl _ _ _, HA.out⟩
  case round =>
    obtain ⟨k, hk, hpk, rfl, rfl, hsrc, hkeep, hby⟩ := hrel
    have Hsrc := Lib.hid hsrc
    have Hkeep := Lib.hid hkeep
    have Hby := Lib.hid hby
    have e0 := hsrc.c0
    have e1 := hsrc.c1
    have z1 := hsrc.frozen 1
    obtain ⟨q, hq⟩ : ∃ q, q = pos + k := ⟨_, rfl⟩
    rw [← hq] at e1 hpk Hsrc
    have Hq := Lib.hid hq
    clear hsrc hkeep hby hq
    by_cases hlt : k < size
    · by_cases hin : q < 8 * n
      · have hql : q < (bitsL xs).length := by rw [bitsL_length, Hn.out]; exact hin
        have hkd : k < ((bitsL xs).drop pos).length := by rw [List.length_drop]; have := Hq.out; omega
        have hx : q / 8 < xs.length := by rw [Hn.out]; omega
        obtain ⟨b, o, rfl, hc⟩ := Hby.out.get hx
        have Hnum := Lib.hid (num_take_snoc ((bitsL xs).drop pos) k hkd)
        have hbit : ((bitsL xs).drop pos)[k] = xs[q / 8].toNat.testBit (q % 8) := by
          have h1 := bitsL_get xs q (by rw [Hn.out]; exact hin)
          rw [List.getElem_drop]
          have h2 : (bitsL xs)[pos + k]? = (bitsL xs)[q]? := by rw [Hq.out]
          rw [h1] at h2
          have h3 : (bitsL xs)[pos + k]'(by have := Hq.out; omega) = xs[q / 8].toNat.testBit (q % 8) := by
            have h4 := List.getElem?_eq_getElem (l := bitsL xs) (i := pos + k) (by have := Hq.out; omega)
            rw [h4] at h2
            injection h2 with h2
            rw [h2]; simp [List.getD, hx]
          exact h3
        rw [hbit] at Hnum
        have hnlt : num (((bitsL xs).drop pos).take k) < 2 ^ k := by
          have := num_lt (((bitsL xs).drop pos).take k)
          rwa [List.length_take, Nat.min_eq_left (by omega)] at this
        have hor := or_bit64 _ k (xs[q / 8].toNat.testBit (q % 8)) hnlt (by omega)
        have hand := u8_and_bitI xs[q / 8] (q % 8)
        generalize num (((bitsL xs).drop pos).take k) = m at *
        generalize xs[q / 8] = x at *
        generalize x.toNat.testBit (q % 8) = bb at *
        have hbb := bitI_bd bb
        have hr8 : q % 8 < 8 := by omega
        have hge : ¬ (8 * (n : Int) ≤ (q : Int)) := by omega
        clear hbit hx
        go_wp2_with fail
        go_quiet (fail)
        go_wp2_with fail
        go_quiet (fail)
        go_wp2_with fail
        go_roundw
        case rel =>
          refine ⟨k + 1, by omega, by have := Hq.out; omega, by go_num, int_eq (by rw [Hnum.out]; simp), ?_, ?_, ?_⟩
          · have h2 : ((pos + (k + 1) : Nat) : Int) = (q : Int) + 1 := by have := Hq.out; omega
            unfold SrcAt
            rw [h2]; exact Blk.s1 (Blk.drewN Hsrc.out _) _
          · exact (Hkeep.out.drewN _).setBlk (Hsrc.out.drewN _) (by simp [srcT]) (Nat.le_refl _) 1 _
          · exact slat_setCell (Hby.out) (fun b' o' e _ => Hbx.out b' o' e (by omega)) _
        case measure => simp [intOf]; omega
      · have hge : 8 * (n : Int) ≤ (q : Int) := by omega
        go_wp2_with fail
        go_quiet (fail)
        go_wp2_with fail
        go_ret2
        exact ⟨.inr ⟨by have := Hq.out; omega, rfl, q, Hsrc.out⟩, Hkeep.out.drewN _⟩
    · have hk2 : k = size := by omega
      have Hk2 := Lib.hid hk2
      clear hk2
      go_wp2_with fail
      go_ret2
      refine ⟨.inl ⟨by have := Hq.out; have := Hk2.out; omega, by rw [← Hk2.out]; rfl, ?_⟩, Hkeep.out⟩
      have h1 := Hsrc.out
      rw [Hq.out, Hk2.out] at h1
      exact h1
end Go.Proofs.Ythpdcnjaodjjmaa.Bits

/- package code: Make. -/
namespace Go.Proofs.Ythpdcnjaodjjmaa.Code
open Go Go.RowKit Go.Proofs.Ythpdcnjaodjjmaa Go.Proofs.Ythpdcnjaodjjmaa.Bits
set_option linter.unusedVariables false

theorem tyI : SliceTy Try.prog 30 3 (.int .i64 0) 1 8 := ⟨Try.underlying30, by kernel_rfl, rfl, by omega⟩
/-- a table's cells: how many of each length, the places -/
def tab (cs : List Nat) (v : Value) : Array Value := (cs.map natV ++ [v]).toArray
theorem tab_get (cs : List Nat) (v : Value) (i : Nat) (h : i < cs.length) : (tab cs v)[i]? = some (.int .i64 (cs[i] : Int)) := by
  simp [tab, List.getElem?_append_left, h, natV]
theorem tab_last (cs : List Nat) (v : Value) : (tab cs v)[cs.length]? = some v := by
  simp [tab]
theorem tab_set (cs : List Nat) (v : Value) (i x : Nat) (h : i < cs.length) : (tab cs v).setIfInBounds i (.int .i64 (x : Int)) = tab (cs.set i x) v := by
  unfold tab
  apply Array.ext'
  simp [natV, h]
theorem tab_setv (cs : List Nat) (v u : Value) : (tab cs v).setIfInBounds cs.length u = tab cs u := by
  unfold tab
  apply Array.ext'
  simp
/-- how many of each length are among the first k -/
def cnk (ls : List Nat) (k : Nat) : List Nat := (List.range 16).map fun s => (ordN (ls.take k) s).length
theorem cnk_length (ls : List Nat) (k : Nat) : (cnk ls k).length = 16 := by simp [cnk]
theorem cnk_zero (ls : List Nat) : cnk ls 0 = List.replicate 16 0 := by simp [cnk, ordN]; decide
theorem cnk_get (ls : List Nat) (k s : Nat) (h : s < 16) : (cnk ls k)[s]'(by rw [cnk_length]; exact h) = (ordN (ls.take k) s).length := by simp [cnk]
theorem cnk_next (ls : List Nat) (k : Nat) (h : k < ls.length) (h15 : ls.getD k 0 < 16) : cnk ls (k + 1) = (cnk ls k).set (ls.getD k 0) ((ordN (ls.take k) (ls.getD k 0)).length + 1) := by
  apply List.ext_getElem
  · simp [cnk]
  · intro i h1 h2
    have hi : i < 16 := by simpa [cnk] using h1
    rw [cnk_get _ _ _ hi, ordN_take ls k i h, List.getElem_set]
    by_cases hx : ls.getD k 0 = i
    · rw [if_pos hx, if_pos hx, hx]; simp
    · rw [if_neg hx, if_neg hx, cnk_get _ _ _ hi]; simp
def cntL (ls : List Nat) : List Nat := (List.range 16).map (cnt ls)
theorem cntL_of (ls : List Nat) : (cnk ls ls.length).set 0 0 = cntL ls := by
  apply List.ext_getElem
  · simp [cnk, cntL]
  · intro i h1 h2
    have hi : i < 16 := by simpa [cnk] using h1
    rw [List.getElem_set]
    simp only [cntL, List.getElem_map, List.getElem_range]
    by_cases hx : 0 = i
    · rw [if_pos hx, ← hx]; rfl
    · rw [if_neg hx, cnk_get _ _ _ hi, List.take_length]; unfold cnt; rw [if_neg (by omega)]
theorem cntL_length (ls : List Nat) : (cntL ls).length = 16 := by simp [cntL]
theorem cntL_get (ls : List Nat) (s : Nat) (h : s < 16) : (cntL ls)[s]'(by rw [cntL_length]; exact h) = cnt ls s := by simp [cntL]
/-- a table of a code -/
def TabAt (w : World) (base p : Nat) (ls : List Nat) : Prop := base ≤ p ∧ ∃ v, Blk w p 129 (tab (cntL ls) v) ∧ w.ownsRow base 3 1 v (ordUp ls 15).length ((ordUp ls 15).map natV)
theorem ordUp_le (ls : List Nat) (t : Nat) : (ordUp ls t).length ≤ t * ls.length := by
  induction t with
  | zero => simp [ordUp]
  | succ t ih =>
    rw [ordUp_succ, List.length_append, Nat.succ_mul]
    have := ordN_len_le ls (t + 1)
    omega
set_option maxRecDepth 100000 in
set_option maxHeartbeats 1600000 in
theorem make_any (A : Option Addr) (n c : Nat) (zs : List Int) (w : World) (hn : zs.length = n) (hA : InAt w A zs) (hc : chkL zs = 0) :
    Calls Try.prog 44 #[.slice A n c] w fun e w' => (∃ p, e = .returned (.pointer (some ⟨p, 0, none⟩)) ∧ TabAt w' w.heap.size p (lsOf zs)) ∧ Below w.heap.size w w' := by
  obtain ⟨f1, f2, f3, f4, f5⟩ := chk_fine zs hc
  have hx : n ≤ 288 := by omega
  have Hl := Lib.hid (lsOf_len zs)
  rw [hn] at Hl
  have H5 := Lib.hid f5
  have Hn := Lib.hid hn
  have HA := Lib.hid hA
  have Hcz := Lib.hid (cnk_zero (lsOf zs))
  clear hn hA hc f1 f2 f3 f4 f5
  go_enter Try.func44, Try.ntmps44
  go_wp2_with fail
  generalize hg : w.heap.size = g at *
  have Hg := Lib.hid hg
  clear hg
  go_loopw [13] (fun i wr => ∃ k : Nat, k ≤ n ∧ i = .int .i64 (k : Int) ∧ Blk wr g 129 (tab (cnk (lsOf zs) k) (.slice none 0 0)) ∧ Below w.heap.size w wr) (fun i _ => n - (intOf i).toNat)
  case atStart =>
    refine ⟨0, Nat.zero_le _, rfl, ?_, (Below.refl _ _).alloc (Nat.le_refl _) _⟩
    rw [Hcz.out, ← Hg.out]; exact Blk.new w _ _
  case round =>
    obtain ⟨k, hk, rfl, hblk, hb⟩ := hrel
    have Hblk := Lib.hid hblk
    have Hb := Lib.hid hb
    clear hblk hb
    by_cases hlt : k < n
    · have hkl : k < zs.length := by rw [Hn.out]; exact hlt
      have hkl2 : k < (lsOf zs).length := by rw [Hl.out]; exact hlt
      obtain ⟨b, o, rfl, hcell⟩ := (HA.out.below Hb.out).get hkl
      have hz := H5.out zs[k] (List.getElem_mem hkl)
      have Hd := Lib.hid (getD_of zs k hkl)
      have Hs := Lib.hid (cnk_next (lsOf zs) k hkl2)
      rw [Hd.out] at Hs
      generalize zs[k] = z at *
      obtain ⟨x, rfl⟩ := Int.eq_ofNat_of_zero_le hz.1
      rw [Int.toNat_natCast] at Hs
      have hx16 : x < 16 := by omega
      have hxl : x < (cnk (lsOf zs) k).length := by rw [cnk_length]; exact hx16
      have hcc : wr.cell? ⟨g, x, none⟩ = some (.int .i64 ((ordN ((lsOf zs).take k) x).length : Int)) := by rw [Hblk.out.cell, tab_get _ _ _ hxl, cnk_get _ _ _ hx16]
      have hfz := Hblk.out.frozen x
      have hq : (ordN ((lsOf zs).take k) x).length ≤ 288 := by
        have h1 := ordN_len_le ((lsOf zs).take k) x
        have h2 : ((lsOf zs).take k).length ≤ k := by simp; omega
        omega
      generalize (ordN ((lsOf zs).take k) x).length = q at *
      go_wp2_with fail
      go_region
      go_wp2_with fail
      go_roundw
      case rel =>
        refine ⟨k + 1, by omega, by go_num, ?_, ?_⟩
        · rw [Hs.out hx16, ← tab_set _ _ _ _ hxl]; exact (Hblk.out.set_ x _).drew
        · exact (Hb.out.setCell (by show w.heap.size ≤ g; rw [Hg.out]; exact Nat.le_refl _) _).drew
      case measure => simp [intOf]; omega
    · obtain rfl : k = n := by omega
      have h0l : 0 < (cnk (lsOf zs) k).length := by rw [cnk_length]; omega
      have Hlen := Lib.hid (cnk_length (lsOf zs) k)
      have Hcf : Hid ((cnk (lsOf zs) k).set 0 0 = cntL (lsOf zs)) := Lib.hid (by rw [← cntL_of, Hl.out])
      have hfz := Hblk.out.frozen 0
      have hcc : wr.cell? ⟨g, 0, none⟩ = some (.int .i64 (((cnk (lsOf zs) k)[0]'h0l : Nat) : Int)) := by rw [Hblk.out.cell, tab_get _ _ _ h0l]
      generalize (cnk (lsOf zs) k)[0]'h0l = q at *
      have Hb1 := Lib.hid (Hb.out.setCell (p := ⟨g, 0, none⟩) (by show w.heap.size ≤ g; rw [Hg.out]; exact Nat.le_refl _) (.int .i64 0))
      have Hblk1 : Hid (Blk (wr.setCell ⟨g, 0, none⟩ (.int .i64 0)) g 129 (tab (cntL (lsOf zs)) (.slice none 0 0))) := Lib.hid (by
        rw [← Hcf.out]
        have := tab_set (cnk (lsOf zs) k) (.slice none 0 0) 0 0 h0l
        rw [← this]; exact Hblk.out.set_ 0 _)
      go_wp2_with fail
      clear hcc hfz
      generalize wr.setCell ⟨g, 0, none⟩ (.int .i64 0) = wz at *
      clear Hb Hblk Hcf
      go_loopw [6] (fun s wo => ∃ t : Nat, t ≤ 15 ∧ s = .int .i64 ((t : Int) + 1) ∧ (∃ v, Blk wo g 129 (tab (cntL (lsOf zs)) v) ∧ wo.ownsRow w.heap.size 3 1 v (ordUp (lsOf zs) t).length ((ordUp (lsOf zs) t).map natV)) ∧ Below w.heap.size w wo) (fun s _ => 17 - (intOf s).toNat)
      case atStart => exact ⟨0, Nat.zero_le _, rfl, ⟨_, Hblk1.out, ⟨rfl, .inl ⟨rfl, rfl⟩⟩⟩, Hb1.out⟩
      case round =>
        obtain ⟨t, ht, rfl, ⟨v, hblk, hown⟩, hb⟩ := hrel
        have Hblk := Lib.hid hblk
        have Hown := Lib.hid hown
        have Hb := Lib.hid hb
        clear hblk hb hown
        by_cases hlt : t < 15
        · have e15 : decide ((t : Int) + 1 ≤ 15) = true := by simp; omega
          go_wp2_with fail
          clear e15
          go_loopw [38] (fun i wx => ∃ j : Nat, j ≤ k ∧ i = .int .i64 (j : Int) ∧ (∃ v, Blk wx g 129 (tab (cntL (lsOf zs)) v) ∧ wx.ownsRow w.heap.size 3 1 v (ordUp (lsOf zs) t ++ ordN ((lsOf zs).take j) (t + 1)).length ((ordUp (lsOf zs) t ++ ordN ((lsOf zs).take j) (t + 1)).map natV)) ∧ Below w.heap.size w wx) (fun i _ => k - (intOf i).toNat)
          case atStart => exact ⟨0, Nat.zero_le _, rfl, ⟨v, Hblk.out, by simpa [ordN] using Hown.out⟩, Hb.out⟩
          case round =>
            obtain ⟨j, hj, rfl, ⟨v2, hblk, hown⟩, hb⟩ := hrel
            by_cases hjk : j < k
            · have hjl : j < zs.length := by rw [Hn.out]; exact hjk
              have hjl2 : j < (lsOf zs).length := by rw [Hl.out]; exact hjk
              obtain ⟨b, o, rfl, hcell⟩ := (HA.out.below hb).get hjl
              have hz := H5.out zs[j] (List.getElem_mem hjl)
              have Hd := Lib.hid (getD_of zs j hjl)
              have Ht := Lib.hid (ordN_take (lsOf zs) j (t + 1) hjl2)
              rw [Hd.out] at Ht
              have hN : (ordUp (lsOf zs) t ++ ordN ((lsOf zs).take j) (t + 1)).length ≤ 100000 := by
                rw [List.length_append]
                have h1 := ordUp_le (lsOf zs) t
                have h2 := ordN_len_le ((lsOf zs).take j) (t + 1)
                have h3 : ((lsOf zs).take j).length ≤ j := by simp; omega
                rw [Hl.out] at h1
                have h4 : t * k ≤ 15 * k := Nat.mul_le_mul_right _ ht
                omega
              generalize zs[j] = z at *
              obtain ⟨x, rfl⟩ := Int.eq_ofNat_of_zero_le hz.1
              rw [Int.toNat_natCast] at Ht
              generalize hys : ordUp (lsOf zs) t ++ ordN ((lsOf zs).take j) (t + 1) = ys at *
              have Hys := Lib.hid hys
              clear hys
              generalize hNN : ys.length = N at *
              have HN := Lib.hid hNN
              clear hNN
              by_cases hxt : x = t + 1
              · have e1 : ((x : Int) == (t : Int) + 1) = true := by simp; omega
                have Hr : Hid (ordUp (lsOf zs) t ++ ordN ((lsOf zs).take (j + 1)) (t + 1) = ys ++ [j]) := Lib.hid (by rw [Ht.out, if_pos hxt, ← List.append_assoc, Hys.out])
                clear Ht hxt
                have hc16 : wr.cell? ⟨g, 16, none⟩ = some v2 := by rw [hblk.cell, ← cntL_length (lsOf zs), tab_last]
                have Hown2 := Lib.hid (hown.alloc (.cells #[.int .i64 (j : Int)] 3))
                have Hsl := Lib.hid (slat_one wr 3 (.int .i64 (j : Int)))
                have Hblk2 := Lib.hid (hblk.alloc (.cells #[.int .i64 (j : Int)] 3))
                have Hb2 := Lib.hid (hb.alloc hb.size (.cells #[.int .i64 (j : Int)] 3))
                have Hbs := Lib.hid Hb2.out.size
                clear hblk hown hb
                go_wp2_with (at_builtin; refine wpList_app _ rfl (.tmp 50) (.tmp 52) _ rfl w.heap.size 3 _ 1 8 tyI v2 N (ys.map natV) rfl Hown2.out (some ⟨wr.heap.size, 0, none⟩) 1 1 [.int .i64 (j : Int)] rfl rfl Hsl.out (by simp [Value.oneCell']) (by simp) (by unfold maxLen; omega) (by omega) Hbs.out ?_; intro v3 w3 hown3 hg3 _; obtain ⟨g3, c3, hv3, _, _⟩ := hown3.form (by omega); subst hv3; have Ho3 := Lib.hid hown3; have Hb3 := Lib.hid (Hblk2.out.grown hg3 (own_ne Hown2.out Hblk2.out (by decide))); have Hk3 := Lib.hid (own_below Hown2.out hg3 Hb2.out Hbs.out); clear hown3 hg3; have hy16 := Hb3.out.frozen 16; have hd16 : w3.cell? ⟨g, 16, none⟩ = some v2 := (by rw [Hb3.out.cell, ← cntL_length (lsOf zs), tab_last]))
                go_roundw
                case rel =>
                  refine ⟨j + 1, by omega, by go_num, ⟨Go.Value.slice (some ⟨g3, 0, none⟩) (N + 1) c3, ?_, ?_⟩, ?_⟩
                  · have := tab_setv (cntL (lsOf zs)) v2 (Go.Value.slice (some ⟨g3, 0, none⟩) (N + 1) c3)
                    rw [cntL_length] at this
                    rw [← this]; exact Hb3.out.set_ 16 _
                  · rw [Hr.out, List.length_append, HN.out, List.map_append]
                    exact ownsRow_setCell_other Ho3.out (a := ⟨g, 16, none⟩) (by exact own_ne Ho3.out Hb3.out (by decide)) _
                  · exact Hk3.out.setCell (by show w.heap.size ≤ g; rw [Hg.out]; exact Nat.le_refl _) _
                case measure => simp [intOf]; omega
              · have e1 : ((x : Int) == (t : Int) + 1) = false := by simp; omega
                have Hr : Hid (ordUp (lsOf zs) t ++ ordN ((lsOf zs).take (j + 1)) (t + 1) = ys) := Lib.hid (by rw [Ht.out, if_neg hxt, List.append_nil, Hys.out])
                have Hblk := Lib.hid hblk
                have Hown := Lib.hid hown
                have Hb := Lib.hid hb
                clear Ht hxt hblk hown hb
                go_wp2_with fail
                go_roundw
                case rel => exact ⟨j + 1, by omega, by go_num, ⟨v2, Hblk.out, by rw [Hr.out, HN.out]; exact Hown.out⟩, Hb.out⟩
                case measure => simp [intOf]; omega
            · obtain rfl : j = k := by omega
              have Hall : Hid ((lsOf zs).take j = lsOf zs) := Lib.hid (List.take_of_length_le (by rw [Hl.out]; omega))
              have Hblk := Lib.hid hblk
              have Hown := Lib.hid hown
              have Hb := Lib.hid hb
              clear hblk hown hb
              rw [Hall.out, ← ordUp_succ] at Hown
              go_wp2_with fail
              go_roundw
              case rel => exact ⟨t + 1, by omega, by go_num, ⟨v2, Hblk.out, Hown.out⟩, Hb.out⟩
              case measure => simp [intOf]; omega
        · obtain rfl : t = 15 := by omega
          go_wp2_with fail
          go_ret
          exact ⟨⟨g, rfl, by rw [Hg.out]; exact Nat.le_refl _, v, Hblk.out, Hown.out⟩, Hb.out⟩
end Go.Proofs.Ythpdcnjaodjjmaa.Code

/- package code: Table.Read. -/
namespace Go.Proofs.Ythpdcnjaodjjmaa.Code
open Go Go.RowKit Go.Proofs.Ythpdcnjaodjjmaa Go.Proofs.Ythpdcnjaodjjmaa.Bits
set_option linter.unusedVariables false

theorem val_next (row : List Bool) (t : Nat) (h : t < row.length) : val (row.take (t + 1)) = 2 * val (row.take t) + num ((row.drop t).take 1) := by
  rw [take_snoc _ _ h, val_snoc, List.drop_eq_getElem_cons h]
  show 2 * _ + _ = 2 * _ + num [row[t]]
  simp [num]
theorem one_bit (l : List Bool) : num (l.take 1) ≤ 1 := by
  have := num_lt (l.take 1)
  have h2 : (l.take 1).length ≤ 1 := by rw [List.length_take]; omega
  have h3 : 2 ^ (l.take 1).length ≤ 2 ^ 1 := Nat.pow_le_pow_right (by omega) h2
  omega
theorem or_next (v b : Nat) (hv : v ≤ 1000000) (hb : b ≤ 1) : Go.bits .or .i64 (2 * (v : Int)) (b : Int) = ((2 * v + b : Nat) : Int) := by
  have := or64 (2 * v) b 1 (by omega) (by omega) (by omega)
  rwa [Int.natCast_mul] at this
theorem SlAt.keepsB {w w' : World} {A : Option Addr} {cs : List Value} {q : Nat} {T : List TypeId} (h : SlAt w A cs) (hk : Keeps q T w w') (hlt : ∀ b o, A = some ⟨b, o, none⟩ → 0 < cs.length → b < q) : SlAt w' A cs := fun hp => by
  obtain ⟨b, o, e, hc⟩ := h hp
  refine ⟨b, o, e, fun j v hj => ?_⟩
  rw [World.cell?_of_block (hk.block b (hlt b o e hp))]
  exact hc j v hj
/-- what Read of a table hands back -/
def NextPost (q : Nat) (A : Option Addr) (n c pos : Nat) (xs : List UInt8) (ls : List Nat) (w : World) (e : Ending) (w' : World) : Prop :=
  (∃ k m x, next ls ((bitsL xs).drop pos) = (k, m, x) ∧ e = .returned (.tuple #[.int .i64 (k : Int), .int .i64 x]) ∧ (x = 0 → SrcAt w' q A n c (pos + m) ∧ pos + m ≤ 8 * n)) ∧ Keeps q srcT w w'
theorem TabAt.keeps {w w' : World} {base p q : Nat} {ls : List Nat} (h : TabAt w base p ls) (hk : Keeps q srcT w w') : TabAt w' base p ls := by
  obtain ⟨h1, v, h2, h3⟩ := h
  exact ⟨h1, v, hk.blk h2 (by simp [srcT]), hk.own h3 (by simp [srcT])⟩
theorem TabAt.cnt {w : World} {base p : Nat} {ls : List Nat} (h : TabAt w base p ls) (s : Nat) (hs : s < 16) : w.cell? ⟨p, s, none⟩ = some (.int .i64 (cnt ls s : Int)) := by
  obtain ⟨h1, v, h2, h3⟩ := h
  rw [h2.cell, tab_get _ _ _ (by rw [cntL_length]; exact hs), cntL_get _ _ hs]
theorem TabAt.ord {w : World} {base p : Nat} {ls : List Nat} (h : TabAt w base p ls) : ∃ A cap, w.cell? ⟨p, 16, none⟩ = some (.slice A (ordUp ls 15).length cap) ∧ SlAt w A ((ordUp ls 15).map natV) := by
  obtain ⟨h1, v, h2, h3⟩ := h
  obtain ⟨A, cap, rfl, _, _, h4, _⟩ := own_slat h3
  exact ⟨A, cap, by rw [h2.cell, ← cntL_length ls, tab_last], h4⟩
set_option maxRecDepth 100000 in
set_option maxHeartbeats 1600000 in
theorem tread_any (base p q : Nat) (A : Option Addr) (n c pos : Nat) (xs : List UInt8) (ls : List Nat) (w : World) (hT : TabAt w base p ls) (hS : SrcAt w q A n c pos) (hn : xs.length = n) (hA : ByAt w A xs) (hp : pos ≤ 8 * n) (hnn : n ≤ 1099511627776)
    (hbx : ∀ b o, A = some ⟨b, o, none⟩ → 0 < n → b < q) (hl : ∀ x ∈ ls, x ≤ 15) (hr : room ls ≤ 32768) (hlen : ls.length ≤ 288) :
    Calls Try.prog 96 #[.pointer (some ⟨p, 0, none⟩), .pointer (some ⟨q, 0, none⟩)] w (NextPost q A n c pos xs ls w) := by
  have HT := Lib.hid hT
  have HS := Lib.hid hS
  have Hn := Lib.hid hn
  have HA := Lib.hid hA
  have Hbx := Lib.hid hbx
  have Hacc : Hid (∀ s, s ≤ 15 → first ls s + cnt ls s ≤ 32768) := Lib.hid (fun s hs => by
    have h1 := acc_le ls s hs hl hr
    have h2 : (2 : Nat) ^ s ≤ 2 ^ 15 := Nat.pow_le_pow_right (by omega) hs
    omega)
  have Hlen := Lib.hid hlen
  clear hT hS hn hA hbx hl hr
  go_enter Try.func96, Try.ntmps96
  go_wp2_with fail
  go_loopw [6, 7, 8, 9] (fun cd ft at_ sz wr => ∃ t : Nat, t ≤ 15 ∧ sz = .int .i64 ((t : Int) + 1) ∧ cd = .int .i64 ((2 * val (((bitsL xs).drop pos).take t) : Nat) : Int) ∧ ft = .int .i64 ((first ls (t + 1) : Nat) : Int) ∧ at_ = .int .i64 ((ordUp ls t).length : Int) ∧
    first ls (t + 1) ≤ 2 * val (((bitsL xs).drop pos).take t) ∧ pos + t ≤ 8 * n ∧ next ls ((bitsL xs).drop pos) = nxt ls ((bitsL xs).drop pos) (15 - t) (t + 1) ∧ SrcAt wr q A n c (pos + t) ∧ TabAt wr base p ls ∧ ByAt wr A xs ∧ Keeps q srcT w wr) (fun _ _ _ sz _ => 17 - (intOf sz).toNat)
  case atStart => exact ⟨0, Nat.zero_le _, rfl, rfl, rfl, rfl, by simp [first, cnt, val_nil], hp, rfl, HS.out, HT.out, HA.out, Keeps.refl _ _ _⟩
  case round =>
    obtain ⟨t, ht, rfl, rfl, rfl, rfl, hfi, hpt, hnx, hsrc, htab, hby, hk⟩ := hrel
    have Hnx := Lib.hid hnx
    have Htab := Lib.hid htab
    have Hk := Lib.hid hk
    have hrl : ((bitsL xs).drop pos).length = 8 * n - pos := by rw [List.length_drop, bitsL_length, Hn.out]
    have Hrl := Lib.hid hrl
    by_cases hlt : t < 15
    · have Hget := Lib.hid (get_any q A n c (pos + t) 1 xs wr hsrc Hn.out hby (by omega) hpt hnn (fun b o e h => Nat.ne_of_lt (Hbx.out b o e h)))
      have Hbyr := Lib.hid hby
      clear hsrc htab hby hk hnx hrl
      go_wp2_with fail
      refine (Hget.out).mono ?_
      rintro e w1 ⟨hg, hk1⟩
      have Hk1 := Lib.hid (Hk.out.trans hk1)
      have Htab1 := Lib.hid (Htab.out.keeps hk1)
      have Hby : Hid (ByAt w1 A xs) := Lib.hid (SlAt.keepsB Hbyr.out hk1 (fun b o e h => Hbx.out b o e (by rw [List.length_map, Hn.out] at h; exact h)))
      clear Hbyr
      clear hk1
      rcases hg with ⟨hfit, rfl, hs3⟩ | ⟨hno, rfl, q3, hs3⟩
      · have Hs3 := Lib.hid hs3
        clear hs3
        have htl : t < ((bitsL xs).drop pos).length := by rw [Hrl.out]; omega
        have Hval := Lib.hid (val_next _ t htl)
        rw [List.drop_drop] at Hval
        have hb1 := one_bit ((bitsL xs).drop (pos + t))
        have hvl := val_lt (((bitsL xs).drop pos).take t)
        have hv2 : val (((bitsL xs).drop pos).take t) ≤ 32768 := by
          have h1 : (((bitsL xs).drop pos).take t).length ≤ 15 := by rw [List.length_take]; omega
          have h2 : (2 : Nat) ^ (((bitsL xs).drop pos).take t).length ≤ 2 ^ 15 := Nat.pow_le_pow_right (by omega) h1
          omega
        generalize num (((bitsL xs).drop (pos + t)).take 1) = b at *
        generalize val (((bitsL xs).drop pos).take t) = v at *
        have hor := or_next v b (by omega) hb1
        have hcn := Htab1.out.cnt (t + 1) (by omega)
        have ha1 := Hacc.out (t + 1) (by omega)
        have hup : (ordUp ls t).length ≤ 5000 := by
          have h1 := ordUp_le ls t
          have h2 := Nat.mul_le_mul ht Hlen.out
          omega
        have Hff : Hid (first ls (t + 1 + 1) = 2 * (first ls (t + 1) + cnt ls (t + 1))) := Lib.hid rfl
        have Hupn : Hid ((ordUp ls (t + 1)).length = (ordUp ls t).length + cnt ls (t + 1)) := Lib.hid (by rw [ordUp_succ, List.length_append]; simp [cnt])
        clear hvl
        by_cases hit : 2 * v + b < first ls (t + 1) + cnt ls (t + 1)
        · obtain ⟨i, hi1, hi2⟩ := findC_some ls (t + 1) (val (((bitsL xs).drop pos).take (t + 1))) (by rw [Hval.out]; omega)
          have Hhit := Lib.hid (nxt_hit ls ((bitsL xs).drop pos) (14 - t) (t + 1) i (by omega) hi1)
          have Hpl := Lib.hid (ordUp_get ls t _ i hlt hi1)
          rw [Hval.out] at Hpl
          obtain ⟨B, cap, hB1, hB2⟩ := Htab1.out.ord
          have Hnn := Hnx.out
          rw [show 15 - t = 14 - t + 1 by omega, Hhit.out] at Hnn
          have hlk := (List.getElem?_eq_some_iff.1 Hpl.out).1
          obtain ⟨b2, o2, hBe, hBc⟩ := SlAt.get hB2 (k := (ordUp ls t).length + (2 * v + b - first ls (t + 1))) (by simpa using hlk)
          subst hBe
          have hcell : w1.cell? ⟨b2, o2 + ((ordUp ls t).length + (2 * v + b - first ls (t + 1))), none⟩ = some (.int .i64 (i : Int)) := by
            rw [hBc]
            have h1 := Hpl.out
            rw [List.getElem?_eq_getElem hlk] at h1
            injection h1 with h1
            simp [natV, h1]
          have Hdone := Lib.hid Hnn
          clear hBc hB2 hi1 hi2 Hnn Hhit Hpl Hval Hupn Hff
          generalize hix : (ordUp ls t).length + (2 * v + b - first ls (t + 1)) = ix at *
          have hixI : (((ordUp ls t).length : Nat) : Int) + ((2 * v + b : Nat) : Int) - ((first ls (t + 1) : Nat) : Int) = (ix : Int) := by omega
          generalize (ordUp ls 15).length = m15 at *
          generalize (ordUp ls t).length = ut at *
          generalize first ls (t + 1) = ff at *
          generalize cnt ls (t + 1) = cc at *
          generalize hvb : 2 * v + b = vb at *
          have hlt1 : ((vb : Nat) : Int) - (ff : Int) < (cc : Int) := by omega
          go_wp2_with fail
          go_ret2
          refine ⟨⟨i, t + 1, 0, Hdone.out, rfl, fun _ => ⟨?_, by omega⟩⟩, Hk1.out⟩
          rw [← Nat.add_assoc]; exact Hs3.out
        · have hno : ¬ (first ls (t + 1) ≤ val (((bitsL xs).drop pos).take (t + 1)) ∧ val (((bitsL xs).drop pos).take (t + 1)) < first ls (t + 1) + cnt ls (t + 1)) := by rw [Hval.out]; omega
          have Hmiss := Lib.hid (nxt_miss ls ((bitsL xs).drop pos) (14 - t) (t + 1) (by omega) (findC_none ls _ _ hno))
          have Hnn := Hnx.out
          rw [show 15 - t = 14 - t + 1 by omega, Hmiss.out] at Hnn
          have Hnx2 := Lib.hid Hnn
          clear hno Hmiss Hnn Hnx
          generalize hut : (ordUp ls t).length = ut at *
          generalize hff : first ls (t + 1) = ff at *
          generalize hcc : cnt ls (t + 1) = cc at *
          generalize hvb : 2 * v + b = vb at *
          have Hcc := Lib.hid hcc
          clear hcc hut hff
          have hlt1 : ¬ (((vb : Nat) : Int) - (ff : Int) < (cc : Int)) := by omega
          go_wp2_with fail
          go_roundw
          case rel =>
            refine ⟨t + 1, by omega, by go_num, int_eq (by rw [Hval.out]; omega), int_eq (by rw [Hff.out]; omega), int_eq (by rw [Hupn.out]; omega), by rw [Hval.out, Hff.out]; omega, by omega, ?_, ?_, Htab1.out, Hby.out, Hk1.out⟩
            · rw [Hnx2.out, show 15 - (t + 1) = 14 - t by omega]
            · rw [← Nat.add_assoc]; exact Hs3.out
          case measure => simp [intOf]; omega
      · have Ht := Lib.hid (nxt_torn ls ((bitsL xs).drop pos) (14 - t) (t + 1) (by rw [Hrl.out]; omega))
        have Hnn := Hnx.out
        rw [show 15 - t = 14 - t + 1 by omega, Ht.out] at Hnn
        have Hdone := Lib.hid Hnn
        clear Hnn Ht hs3
        go_wp2_with fail
        go_ret2
        exact ⟨⟨0, 0, 7, Hdone.out, rfl, fun h => by omega⟩, Hk1.out⟩
    · obtain rfl : t = 15 := by omega
      clear hsrc htab hby hk hnx hrl
      go_wp2_with fail
      go_ret2
      exact ⟨⟨0, 0, 8, by rw [Hnx.out]; rfl, rfl, fun h => by omega⟩, Hk.out⟩
end Go.Proofs.Ythpdcnjaodjjmaa.Code

/- package inflate: what reading ends with; the reader; a number of bits, a symbol, a byte behind what is unpacked, a table. -/
namespace Go.Proofs.Ythpdcnjaodjjmaa.Inf
open Go Go.RowKit Go.Proofs.Ythpdcnjaodjjmaa Go.Proofs.Ythpdcnjaodjjmaa.Bits Go.Proofs.Ythpdcnjaodjjmaa.Code
set_option linter.unusedVariables false

/-- the end of a call that stops with what is wrong -/
def stopE (x : Int) : Ending := .panicked [{ v := .iface 50 (.agg #[.int .i64 x]), recovered := false }]
set_option maxRecDepth 100000 in
theorem fail_any (x : Int) (w : World) : Calls Try.prog 46 #[.int .i64 x] w fun e w' => e = stopE x ∧ w' = w := by
  go_enter Try.func46, Try.ntmps46
  go_wp2_with fail
  exact ⟨rfl, rfl, rfl⟩
/-- the types of blocks that reading turns -/
def infT : List TypeId := [56, 76, 5]
/-- the input: bytes that lie below base -/
structure InAt_ (w : World) (base : Nat) (A : Option Addr) (n : Nat) (xs : List UInt8) : Prop where
  len : xs.length = n
  few : n ≤ 1099511627776
  at_ : ByAt w A xs
  low : ∀ b o, A = some ⟨b, o, none⟩ → 0 < n → b < base
theorem InAt_.keeps {w w' : World} {base : Nat} {T : List TypeId} {A : Option Addr} {n : Nat} {xs : List UInt8} (h : InAt_ w base A n xs) (hk : Keeps base T w w') : InAt_ w' base A n xs :=
  ⟨h.len, h.few, SlAt.keepsB h.at_ hk (fun b o e hp => h.low b o e (by rw [← h.len]; simpa using hp)), h.low⟩
/-- a reader at g: its source at q, at so many bits, what is unpacked, the kinds -/
structure RdAt (w : World) (base g q : Nat) (A : Option Addr) (n c pos : Nat) (out : List UInt8) (ks : List Nat) : Prop where
  gle : base ≤ g
  qle : base ≤ q
  ple : pos ≤ 8 * n
  few : out.length ≤ 3000
  blk : ∃ vo vk, Blk w g 56 #[.pointer (some ⟨q, 0, none⟩), vo, vk] ∧ w.ownsRow base 5 1 vo out.length (out.map u8v) ∧ w.ownsRow base 3 1 vk ks.length (ks.map natV)
  src : SrcAt w q A n c pos
theorem RdAt.below {w w' : World} {base g q : Nat} {A : Option Addr} {n c pos : Nat} {out : List UInt8} {ks : List Nat} (h : RdAt w base g q A n c pos out ks) (hb : Below w.heap.size w w') : RdAt w' base g q A n c pos out ks := by
  obtain ⟨h1, h2, h3, h8, ⟨vo, vk, h4, h5, h6⟩, h7⟩ := h
  exact ⟨h1, h2, h3, h8, ⟨vo, vk, h4.below hb h4.lt, own_keep h5 hb, own_keep h6 hb⟩, Blk.below h7 hb h7.lt⟩
/-- what a call gives that may stop -/
def RPost {α : Type} (r : Rd α) (ok : α → Ending → World → Prop) (e : Ending) (w' : World) : Prop := match r with | .bad x => e = stopE x | .ok a => ok a e w'
theorem kT {base q : Nat} {w w' : World} (hk : Keeps q srcT w w') (hq : base ≤ q) : Keeps base infT w w' :=
  hk.mono hq (fun t ht => by simp only [srcT, List.mem_singleton] at ht; subst ht; simp [infT])
set_option maxRecDepth 100000 in
set_option maxHeartbeats 1600000 in
theorem get_r (base g q : Nat) (A : Option Addr) (n c pos size : Nat) (xs : List UInt8) (out : List UInt8) (ks : List Nat) (w : World) (h : RdAt w base g q A n c pos out ks) (hi : InAt_ w base A n xs) (hs : size ≤ 61) :
    Calls Try.prog 41 #[.pointer (some ⟨g, 0, none⟩), .int .i64 (size : Int)] w fun e w' =>
      RPost (getR (bitsL xs) pos size) (fun a e w' => e = .returned (.int .i64 (a.1 : Int)) ∧ RdAt w' base g q A n c a.2 out ks) e w' ∧ Keeps base infT w w' := by
  have HI := Lib.hid hi
  have Hrow : Hid ((bitsL xs).length = 8 * n) := Lib.hid (by rw [bitsL_length, hi.len])
  have HG := Lib.hid (get_any q A n c pos size xs w h.src hi.len hi.at_ hs h.ple hi.few (fun b o e hp => by have := hi.low b o e hp; have := h.qle; omega))
  have HR := Lib.hid h
  obtain ⟨hg, hq, hp, hfew, ⟨vo, vk, hb, ho, hk⟩, hsrc⟩ := h
  have b0 : w.cell? ⟨g, 0, none⟩ = some (.pointer (some ⟨q, 0, none⟩)) := by rw [hb.cell]; rfl
  have HB := Lib.hid hb
  have HO := Lib.hid ho
  have HK := Lib.hid hk
  clear hi hb ho hk hsrc
  go_enter Try.func41, Try.ntmps41
  go_wp2_with fail
  refine (HG.out).mono ?_
  rintro e w2 ⟨hcase, hk2⟩
  have HK2 := Lib.hid hk2
  clear hk2 b0 HG
  rcases hcase with ⟨h1, rfl, hs2⟩ | ⟨h1, rfl, _⟩
  · have HS2 := Lib.hid hs2
    clear hs2
    go_wp2_with fail
    go_ret
    refine ⟨?_, kT HK2.out hq⟩
    unfold RPost getR
    rw [Hrow.out, if_pos h1]
    exact ⟨rfl, hg, hq, h1, hfew, ⟨vo, vk, HK2.out.blk HB.out (by decide), HK2.out.own HO.out (by decide), HK2.out.own HK.out (by decide)⟩, HS2.out⟩
  · go_wp2_with fail
    refine (fail_any 7 _).mono ?_
    rintro e w3 ⟨rfl, rfl⟩
    unfold stopE
    go_wp2_with fail
    refine ⟨rfl, ?_, kT HK2.out hq⟩
    unfold RPost getR
    rw [Hrow.out, if_neg (by omega)]
    rfl
set_option maxRecDepth 100000 in
set_option maxHeartbeats 1600000 in
theorem sym_r (base g q tp : Nat) (A : Option Addr) (n c pos : Nat) (xs : List UInt8) (out : List UInt8) (ks ls : List Nat) (w : World) (h : RdAt w base g q A n c pos out ks) (hi : InAt_ w base A n xs)
    (hT : TabAt w base tp ls) (hl : ∀ x ∈ ls, x ≤ 15) (hr : room ls ≤ 32768) (hlen : ls.length ≤ 288) :
    Calls Try.prog 75 #[.pointer (some ⟨g, 0, none⟩), .pointer (some ⟨tp, 0, none⟩)] w fun e w' =>
      RPost (symR (bitsL xs) ls pos) (fun a e w' => e = .returned (.int .i64 (a.1 : Int)) ∧ RdAt w' base g q A n c a.2 out ks) e w' ∧ Keeps base infT w w' := by
  have HG := Lib.hid (tread_any base tp q A n c pos xs ls w hT h.src hi.len hi.at_ h.ple hi.few (fun b o e hp => by have := hi.low b o e hp; have := h.qle; omega) hl hr hlen)
  obtain ⟨hg, hq, hp, hfew, ⟨vo, vk, hb, ho, hk⟩, hsrc⟩ := h
  have b0 : w.cell? ⟨g, 0, none⟩ = some (.pointer (some ⟨q, 0, none⟩)) := by rw [hb.cell]; rfl
  have HB := Lib.hid hb
  have HO := Lib.hid ho
  have HK := Lib.hid hk
  clear hi hb ho hk hsrc hT hl hr hlen
  go_enter Try.func75, Try.ntmps75
  go_wp2_with fail
  refine (HG.out).mono ?_
  rintro e w2 ⟨⟨k, m, z, hn, rfl, hz⟩, hk2⟩
  have HK2 := Lib.hid hk2
  have HZ := Lib.hid hz
  have HN := Lib.hid hn
  clear hk2 hz hn b0 HG
  by_cases h0 : z = 0
  · subst h0
    go_wp2_with fail
    go_ret
    refine ⟨?_, kT HK2.out hq⟩
    unfold RPost symR
    rw [HN.out]
    exact ⟨rfl, hg, hq, (HZ.out (by simp)).2, hfew, ⟨vo, vk, HK2.out.blk HB.out (by decide), HK2.out.own HO.out (by decide), HK2.out.own HK.out (by decide)⟩, (HZ.out (by simp)).1⟩
  · have hz1 : (z != 0) = true := by simpa using h0
    go_wp2_with fail
    refine (fail_any z _).mono ?_
    rintro e w3 ⟨rfl, rfl⟩
    unfold stopE
    go_wp2_with fail
    refine ⟨rfl, ?_, kT HK2.out hq⟩
    unfold RPost symR
    rw [HN.out, if_neg (show ¬ (k, m, z).2.2 = 0 from h0)]
    rfl
theorem ty8' : SliceTy Try.prog 22 5 (.int .u8 0) 1 1 := ⟨Try.underlying22, by kernel_rfl, rfl, by omega⟩
set_option maxRecDepth 100000 in
set_option maxHeartbeats 1600000 in
theorem put_r (base g q : Nat) (A : Option Addr) (n c pos : Nat) (x : UInt8) (out : List UInt8) (ks : List Nat) (w : World) (h : RdAt w base g q A n c pos out ks) :
    Calls Try.prog 74 #[.pointer (some ⟨g, 0, none⟩), u8v x] w fun e w' =>
      RPost (pushR out x) (fun o e w' => e = .returned (.tuple #[]) ∧ RdAt w' base g q A n c pos o ks) e w' ∧ Keeps base infT w w' := by
  obtain ⟨hg, hq, hp, hfew, ⟨vo, vk, hb, ho, hk⟩, hsrc⟩ := h
  obtain ⟨Ao, co, rfl, _⟩ := own_slat ho
  obtain ⟨ol, hol⟩ : ∃ ol, ol = out.length := ⟨_, rfl⟩
  have hout := hfew
  rw [← hol] at hb ho hout
  have hbw : base ≤ w.heap.size := by have := hb.lt; omega
  have Hol := Lib.hid hol
  have b1 : w.cell? ⟨g, 1, none⟩ = some (.slice Ao ol co) := by rw [hb.cell]; rfl
  have f1 := hb.frozen 1
  have hlt := hb.lt
  have HB := Lib.hid hb
  have HO := Lib.hid ho
  have HK := Lib.hid hk
  have HS := Lib.hid hsrc
  clear hb ho hk hsrc hol
  unfold u8v
  by_cases h3 : ol = 3000
  · have h3' : (ol : Int) = 3000 := by omega
    have h3b : ((ol : Int) == 3000) = true := by simpa using h3'
    go_enter Try.func74, Try.ntmps74
    go_wp2_with fail
    refine (fail_any 2 _).mono ?_
    rintro e w3 ⟨rfl, rfl⟩
    unfold stopE
    go_wp2_with fail
    refine ⟨rfl, ?_, Keeps.refl _ _ _⟩
    unfold RPost pushR
    rw [if_pos (by rw [← Hol.out]; exact h3)]
    rfl
  · have h3' : ¬ (ol : Int) = 3000 := by omega
    have h3b : ((ol : Int) == 3000) = false := by simpa using h3'
    go_enter Try.func74, Try.ntmps74
    have hbA : Below w.heap.size w (w.alloc (.cells #[.int .u8 (n8 x)] 5)) := (Below.refl _ _).alloc (Nat.le_refl _) _
    have HO2 := Lib.hid (own_keep HO.out hbA)
    have HB2 := Lib.hid (HB.out.below hbA HB.out.lt)
    have HKA : Hid (Keeps base infT w (w.alloc (.cells #[.int .u8 (n8 x)] 5))) := Lib.hid (Keeps.of_below hbA hbw)
    have hbw2 : base ≤ (w.alloc (.cells #[.int .u8 (n8 x)] 5)).heap.size := Nat.le_trans hbw hbA.size
    have HZ : Hid (SlAt (w.alloc (.cells #[.int .u8 (n8 x)] 5)) (some ⟨w.heap.size, 0, none⟩) [.int .u8 (n8 x)]) := Lib.hid (SlAt.of_heap (heap_alloc_new _ _) rfl)
    clear hbA
    go_wp2_with (at_builtin; refine wpList_app _ rfl (.tmp 15) (.tmp 17) _ rfl base 5 _ 1 1 ty8' _ ol (out.map u8v) rfl HO2.out (some ⟨w.heap.size, 0, none⟩) 1 1 [.int .u8 (n8 x)] rfl rfl HZ.out (by simp [Value.oneCell']) (by simp) (by unfold maxLen; omega) (by omega) hbw2 ?_; intro v8 w8 hown8 hg8 _; obtain ⟨A8, d8, rfl, _⟩ := own_slat hown8; have hkp : Keeps base [5] (w.alloc (.cells #[.int .u8 (n8 x)] 5)) w8 := (Keeps.refl _ _ _).grown HO2.out hg8 (by simp) hbw2; have HB8 := Lib.hid (hkp.blk HB2.out (by decide)); have HK8 := Lib.hid hkp; have Ho8 := Lib.hid hown8; have c8 : w8.cell? ⟨g, 1, none⟩ = some (.slice Ao ol co) := (HB8.out.cell 1).trans rfl; have f8 := HB8.out.frozen 1; clear hown8 hg8 hkp)
    go_end0
    have k8 : Keeps base infT w w8 := HKA.out.trans (HK8.out.mono (Nat.le_refl _) (fun t ht => by rw [List.mem_singleton] at ht; subst ht; simp [infT]))
    refine ⟨?_, k8.setBlk HB8.out (by simp [infT]) hg 1 _⟩
    unfold RPost pushR
    rw [if_neg (by rw [← Hol.out]; exact h3)]
    have hw9 : Keeps base [56] w8 (w8.setCell ⟨g, 1, none⟩ (.slice A8 (ol + 1) d8)) := (Keeps.refl _ _ _).setBlk HB8.out (by simp) hg 1 _
    have hkk : Keeps base [5, 56] w (w8.setCell ⟨g, 1, none⟩ (.slice A8 (ol + 1) d8)) := ((Keeps.of_below ((Below.refl _ _).alloc (Nat.le_refl _) _) hbw).trans (HK8.out.mono (Nat.le_refl _) (by simp))).trans (hw9.mono (Nat.le_refl _) (by simp))
    refine ⟨rfl, hg, hq, hp, by rw [List.length_append, ← Hol.out]; simp; omega, ⟨_, vk, HB8.out.set_ 1 _, ?_, hkk.own HK.out (by decide)⟩, hkk.blk HS.out (by decide)⟩
    have h9 := hw9.own Ho8.out (by decide)
    rw [List.length_append, ← Hol.out, List.map_append]
    exact h9
end Go.Proofs.Ythpdcnjaodjjmaa.Inf
