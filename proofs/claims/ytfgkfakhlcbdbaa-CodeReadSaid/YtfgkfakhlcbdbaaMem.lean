/- memory: a slice that is read; a block known whole; what is kept. No program in sight. -/
import Derived.Test.YtfgkfakhlcbdbaaWords
import Derived.Lib.Hide
import Derived.Deep.Draws
import Derived.Maps.AppendAt
import Derived.Deep.AppendLies
namespace Go.Proofs.Ytfgkfakhlcbdbaa
open Go Go.RowKit

/-- the cells of a slice that is read, from its address on -/
def SlAt (w : World) (A : Option Addr) (cs : List Value) : Prop :=
  0 < cs.length → ∃ b o, A = some ⟨b, o, none⟩ ∧ ∀ j v, cs[j]? = some v → w.cell? ⟨b, o + j, none⟩ = some v

theorem SlAt.keep {w w' : World} {A : Option Addr} {cs : List Value} (h : SlAt w A cs)
    (hk : ∀ p v, w.cell? p = some v → w'.cell? p = some v) : SlAt w' A cs := fun hp => by
  obtain ⟨b, o, e, hc⟩ := h hp
  exact ⟨b, o, e, fun j v hj => hk _ _ (hc j v hj)⟩
theorem cell_below {w w' : World} (hb : Below w.heap.size w w') {p : Addr} {v : Value} (h : w.cell? p = some v) : w'.cell? p = some v := by
  rw [hb.cell (block_lt_of_cell h)]; exact h
theorem SlAt.below {w w' : World} {A : Option Addr} {cs : List Value} (h : SlAt w A cs) (hb : Below w.heap.size w w') : SlAt w' A cs :=
  h.keep fun _ _ hc => cell_below hb hc
theorem SlAt.alloc {w : World} {A : Option Addr} {cs : List Value} (h : SlAt w A cs) (o : Obj) : SlAt (w.alloc o) A cs := h.below ((Below.refl _ _).alloc (Nat.le_refl _) _)
theorem SlAt.drewN {w : World} {A : Option Addr} {cs : List Value} (h : SlAt w A cs) (n : Nat) : SlAt (w.drewN n) A cs := h
theorem SlAt.nil {w : World} {A : Option Addr} : SlAt w A [] := fun h => absurd h (by simp)
theorem SlAt.get {w : World} {A : Option Addr} {cs : List Value} (h : SlAt w A cs) {k : Nat} (hk : k < cs.length) :
    ∃ b o, A = some ⟨b, o, none⟩ ∧ w.cell? ⟨b, o + k, none⟩ = some cs[k] := by
  obtain ⟨b, o, e, hc⟩ := h (by omega)
  exact ⟨b, o, e, hc k _ (by simp [hk])⟩

def u8v (x : UInt8) : Value := .int .u8 (n8 x)
/-- bytes that are read -/
def ByAt (w : World) (A : Option Addr) (xs : List UInt8) : Prop := SlAt w A (xs.map u8v)
theorem ByAt.below {w w' : World} {A : Option Addr} {xs : List UInt8} (h : ByAt w A xs) (hb : Below w.heap.size w w') : ByAt w' A xs := SlAt.below h hb
theorem SlAt.take {w : World} {A : Option Addr} {cs : List Value} (h : SlAt w A cs) (n : Nat) : SlAt w A (cs.take n) := fun hp => by
  obtain ⟨b, o, e, hc⟩ := h (by simp at hp; omega)
  refine ⟨b, o, e, fun j v hj => hc j v ?_⟩
  rw [List.getElem?_take] at hj
  split at hj
  · exact hj
  · cases hj
theorem SlAt.drop {w : World} {b o : Nat} {cs : List Value} (h : SlAt w (some ⟨b, o, none⟩) cs) (n : Nat) : SlAt w (some ⟨b, o + n, none⟩) (cs.drop n) := fun hp => by
  obtain ⟨b', o', e, hc⟩ := h (by simp at hp; omega)
  injection e with e; injection e with e1 e2 e3
  subst e1 e2
  refine ⟨b, o + n, rfl, fun j v hj => ?_⟩
  rw [List.getElem?_drop] at hj
  rw [Nat.add_assoc]
  exact hc _ _ hj
theorem ByAt.take {w : World} {A : Option Addr} {xs : List UInt8} (h : ByAt w A xs) (n : Nat) : ByAt w A (xs.take n) := by
  unfold ByAt; rw [List.map_take]; exact SlAt.take h n
theorem ByAt.drop {w : World} {b o : Nat} {xs : List UInt8} (h : ByAt w (some ⟨b, o, none⟩) xs) (n : Nat) : ByAt w (some ⟨b, o + n, none⟩) (xs.drop n) := by
  unfold ByAt; rw [List.map_drop]; exact SlAt.drop h n
theorem ByAt.get {w : World} {A : Option Addr} {xs : List UInt8} (h : ByAt w A xs) {k : Nat} (hk : k < xs.length) :
    ∃ b o, A = some ⟨b, o, none⟩ ∧ w.cell? ⟨b, o + k, none⟩ = some (.int .u8 (n8 xs[k])) := by
  obtain ⟨b, o, e, hc⟩ := SlAt.get h (k := k) (by simpa using hk)
  exact ⟨b, o, e, by rw [hc]; simp [u8v]⟩

theorem ret_int {k : IntKind} {a b : Int} (h : a = b) : Ending.returned (.int k a) = .returned (.int k b) := by rw [h]
theorem ret_bool {a b : Bool} (h : a = b) : Ending.returned (.bool a) = .returned (.bool b) := by rw [h]
theorem ret_ints {k l : IntKind} {a b c d : Int} (h : a = b) (h' : c = d) : Ending.returned (.tuple #[.int k a, .int l c]) = .returned (.tuple #[.int k b, .int l d]) := by rw [h, h']
theorem int_eq {k : IntKind} {a b : Int} (h : a = b) : Value.int k a = Value.int k b := by rw [h]
theorem take_snoc {α : Type} (l : List α) (k : Nat) (h : k < l.length) : l.take (k + 1) = l.take k ++ [l[k]] := by
  rw [List.take_succ_eq_append_getElem h]

/-- a block known whole -/
def Blk (w : World) (g : Nat) (t : TypeId) (cs : Array Value) : Prop := w.heap[g]? = some (.cells cs t (0, 0))
section
variable {w w' : World} {g : Nat} {t : TypeId} {cs : Array Value}
theorem Blk.lt (h : Blk w g t cs) : g < w.heap.size := lt_of_block h
theorem Blk.cell (h : Blk w g t cs) (i : Nat) : w.cell? ⟨g, i, none⟩ = cs[i]? := cell_of_row w g i cs t (0, 0) h
theorem Blk.frozen (h : Blk w g t cs) (i : Nat) : w.frozen? ⟨g, i, none⟩ = false := by unfold Blk at h; simp [World.frozen?, h]
theorem Blk.new (w : World) (t : TypeId) (cs : Array Value) : Blk (w.alloc (.cells cs t)) w.heap.size t cs := heap_alloc_new w _
theorem Blk.drew (h : Blk w g t cs) : Blk w.drew g t cs := h
theorem Blk.drewN (h : Blk w g t cs) (n : Nat) : Blk (w.drewN n) g t cs := h
theorem Blk.alloc (h : Blk w g t cs) (o : Obj) : Blk (w.alloc o) g t cs := (Below.heap_alloc w o g h.lt).trans h
theorem Blk.set_ (h : Blk w g t cs) (i : Nat) (u : Value) : Blk (w.setCell ⟨g, i, none⟩ u) g t (cs.setIfInBounds i u) := by
  unfold Blk at h ⊢; simp [World.setCell, Array.getElem?_modify, h]
theorem Blk.far (h : Blk w g t cs) {p : Addr} (hp : g ≠ p.block) (u : Value) : Blk (w.setCell p u) g t cs := (Below.heap_setCell w p u g hp).trans h
theorem Blk.below {B : Nat} (h : Blk w g t cs) (hb : Below B w w') (hg : g < B) : Blk w' g t cs := (hb.block g hg).trans h
theorem Blk.setRow (h : Blk w g t cs) (ds : Array Value) : Blk (w.setRow g ds) g t ds := setRow_heap w g cs ds t _ h
end

theorem run_min4 {P : Program} (ts : Array TypeId) (t : TypeId) (a b c d : Nat) (w : World) :
    (Builtin.min_ ts t #[.int .i64 (a : Int), .int .i64 (b : Int), .int .i64 (c : Int), .int .i64 (d : Int)]).run P w = .ok (.int .i64 ((min (min (min a b) c) d : Nat) : Int)) w := by
  simp [Builtin.min_, Builtin.min2]
  (repeat' split) <;> omega
/-- bytes laid in a block of one's own -/
theorem SlAt.of_heap {w : World} {g : Nat} {t : TypeId} {cs : Array Value} {fr : Nat × Nat} {xs : List Value} (h : w.heap[g]? = some (.cells cs t fr)) (e : cs.toList = xs) : SlAt w (some ⟨g, 0, none⟩) xs := fun _ =>
  ⟨g, 0, rfl, fun j v hj => by rw [cell_of_row w g _ cs t fr h, ← hj, ← e]; simp⟩
theorem ByAt.of_blk {w : World} {g : Nat} {t : TypeId} {cs : Array Value} {xs : List UInt8} (h : Blk w g t cs) (e : cs.toList = xs.map u8v) : ByAt w (some ⟨g, 0, none⟩) xs := SlAt.of_heap h e
theorem ByAt.of_new (w : World) (t : TypeId) (cs : Array Value) (fr : Nat × Nat) {xs : List UInt8} (e : cs.toList = xs.map u8v) : ByAt (w.alloc (.cells cs t fr)) (some ⟨w.heap.size, 0, none⟩) xs :=
  SlAt.of_heap (heap_alloc_new w _) e
end Go.Proofs.Ytfgkfakhlcbdbaa
