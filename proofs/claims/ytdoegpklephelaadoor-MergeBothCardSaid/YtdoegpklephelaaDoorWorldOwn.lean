/- worlds in memory of one's own. -/
import Derived.Test.YtdoegpklephelaaDoorWorldMem
import Derived.Test.YtdoegpklephelaaDoorLay
namespace Go.Proofs.YtdoegpklephelaaDoor.Worlds
open Go Go.RowKit Go.Proofs.YtdoegpklephelaaDoor Go.Proofs.YtdoegpklephelaaDoor.Name Go.Proofs.YtdoegpklephelaaDoor.Merge
set_option linter.unusedVariables false

theorem _root_.Go.Proofs.YtdoegpklephelaaDoor.Merge.OwnFs.keeps {w w' : World} {base B : Nat} {T : List TypeId} {v : Value} {l : List Fx} (h : OwnFs w base v l) (hk : Keeps B T w w') (h1 : 33 ∉ T) (h2 : 5 ∉ T) : OwnFs w' base v l :=
  ⟨hk.own h.row h1, fun x hx => ⟨hk.own (h.each x hx).own h2, (h.each x hx).name, (h.each x hx).stamp, (h.each x hx).node⟩⟩
theorem _root_.Go.Proofs.YtdoegpklephelaaDoor.Merge.OwnFs.set_ {w : World} {base g : Nat} {t : TypeId} {cs : Array Value} {v : Value} {l : List Fx} (h : OwnFs w base v l) (hg : Blk w g t cs) (h1 : 33 ≠ t) (h2 : 5 ≠ t) (i : Nat) (u : Value) : OwnFs (w.setCell ⟨g, i, none⟩ u) base v l :=
  ⟨ownsRow_setCell_other h.row (a := ⟨g, i, none⟩) (own_ne h.row hg h1) u, fun x hx => ⟨ownsRow_setCell_other (h.each x hx).own (a := ⟨g, i, none⟩) (own_ne (h.each x hx).own hg h2) u, (h.each x hx).name, (h.each x hx).stamp, (h.each x hx).node⟩⟩
/-- a world whose rows lie in blocks of one's own -/
structure OwnW (w : World) (base : Nat) (x : Wx) : Prop where
  nodes : w.ownsRow base 22 1 x.vn x.nodes.length (x.nodes.flatMap nC)
  node : ∀ n ∈ x.nodes, OwnFs w base (slv n.1) n.2
  clock : w.ownsRow base 3 1 x.vc x.clock.length (x.clock.flatMap intC)
  clk : ∀ c ∈ x.clock, wfI c
  net : w.ownsRow base 95 2 x.vt x.net.length (x.net.flatMap mC)
  ms : ∀ m ∈ x.net, wfI m.1 ∧ OwnFs w base (slv m.2.1) m.2.2
theorem OwnW.below {w w' : World} {base : Nat} {x : Wx} (h : OwnW w base x) (hb : Below w.heap.size w w') : OwnW w' base x :=
  ⟨own_keep h.nodes hb, fun n hn => (h.node n hn).below hb, own_keep h.clock hb, h.clk, own_keep h.net hb, fun m hm => ⟨(h.ms m hm).1, (h.ms m hm).2.below hb⟩⟩
theorem OwnW.base_ {w : World} {base base' : Nat} {x : Wx} (h : OwnW w base x) (hb : base' ≤ base) : OwnW w base' x :=
  ⟨own_base h.nodes hb, fun n hn => (h.node n hn).base_ hb, own_base h.clock hb, h.clk, own_base h.net hb, fun m hm => ⟨(h.ms m hm).1, (h.ms m hm).2.base_ hb⟩⟩
theorem own_isL {α : Type} {w : World} {base size n : Nat} {e : TypeId} {cells : α → List Value} {deep : α → Prop} {v : Value} {l : List α} (h : w.ownsRow base e size v n (l.flatMap cells)) (hn : l.length = n) (hd : ∀ a ∈ l, deep a) : IsL w cells deep v l := by
  obtain ⟨A, cap, rfl, h1, h2, h3, h4⟩ := own_slat h
  subst hn
  exact ⟨A, cap, rfl, h1, h2, h3, fun e => List.eq_nil_of_length_eq_zero (h4 e), hd⟩
theorem OwnW.isWorld {w : World} {base : Nat} {x : Wx} (h : OwnW w base x) : IsWorld w x :=
  ⟨own_isL h.nodes rfl fun n hn => (h.node n hn).files, own_isL h.clock rfl h.clk, own_isL h.net rfl fun m hm => ⟨(h.ms m hm).1, (h.ms m hm).2.files⟩⟩
theorem nCs (l : List Nx) : l.flatMap nC = l.map fun x => slv x.1 := by
  induction l with
  | nil => rfl
  | cons a l ih => rw [List.flatMap_cons, ih]; rfl
theorem cCs (l : List Int) : l.flatMap intC = l.map fun x => Value.int .i64 x := by
  induction l with
  | nil => rfl
  | cons a l ih => rw [List.flatMap_cons, ih]; rfl
theorem mCs_len (l : List Mx) : (l.flatMap mC).length = l.length * 2 := by
  induction l with
  | nil => rfl
  | cons a l ih => rw [List.flatMap_cons, List.length_append, ih, mC_len, List.length_cons]; omega
/-- where an own row lies -/
theorem own_at {w : World} {base size n : Nat} {e : TypeId} {v : Value} {xs : List Value} (h : w.ownsRow base e size v n xs) (h0 : 0 < n) : ∃ g c, v = .slice (some ⟨g, 0, none⟩) n c ∧ base ≤ g ∧ n ≤ c ∧ c ≤ maxLen ∧ ∃ cs, Blk w g e cs := by
  obtain ⟨A, c, rfl, h1, h2, _, _⟩ := own_slat h
  rcases h.2 with ⟨h1', _⟩ | ⟨g, cap', cur, hv, hb, hg, _⟩
  · injection h1' with h1' h2'; omega
  · injection hv with hv; exact ⟨g, c, by rw [hv], hb, h1, h2, cur, hg⟩
theorem OwnW.set_ {w : World} {base g : Nat} {t : TypeId} {cs : Array Value} {x : Wx} (h : OwnW w base x) (hg : Blk w g t cs) (h1 : 33 ≠ t) (h2 : 5 ≠ t) (h3 : 22 ≠ t) (h4 : 3 ≠ t) (h5 : 95 ≠ t) (i : Nat) (u : Value) : OwnW (w.setCell ⟨g, i, none⟩ u) base x :=
  ⟨ownsRow_setCell_other h.nodes (a := ⟨g, i, none⟩) (own_ne h.nodes hg h3) u, fun n hn => (h.node n hn).set_ hg h1 h2 i u, ownsRow_setCell_other h.clock (a := ⟨g, i, none⟩) (own_ne h.clock hg h4) u, h.clk,
    ownsRow_setCell_other h.net (a := ⟨g, i, none⟩) (own_ne h.net hg h5) u, fun m hm => ⟨(h.ms m hm).1, (h.ms m hm).2.set_ hg h1 h2 i u⟩⟩
theorem OwnW.setNode {w : World} {base k g n c : Nat} {x : Wx} (h : OwnW w base x) (hv : x.vn = .slice (some ⟨g, 0, none⟩) n c) (hn : x.nodes.length = n) (s : Sl3) (l : List Fx) (hl : OwnFs w base (slv s) l) : OwnW (w.setCell ⟨g, k, none⟩ (slv s)) base { x with nodes := x.nodes.set k (s, l) } := by
  have hown := h.nodes
  rw [hv, hn] at hown
  obtain ⟨_, cs, hblk⟩ := own_blk hown
  refine ⟨?_, ?_, ownsRow_setCell_other h.clock (a := ⟨g, k, none⟩) (own_ne h.clock hblk (by decide)) _, h.clk, ownsRow_setCell_other h.net (a := ⟨g, k, none⟩) (own_ne h.net hblk (by decide)) _,
    fun m hm => ⟨(h.ms m hm).1, (h.ms m hm).2.set_ hblk (by decide) (by decide) _ _⟩⟩
  · have h1 := (hown.stored k (slv s)).1
    simp only [List.length_set, hn, hv]
    have e : (x.nodes.set k (s, l)).flatMap nC = (x.nodes.flatMap nC).set k (slv s) := by rw [nCs, nCs, List.map_set]
    rw [e]
    exact h1
  · intro a ha
    rcases List.mem_or_eq_of_mem_set ha with ha | rfl
    · exact (h.node a ha).set_ hblk (by decide) (by decide) _ _
    · exact hl.set_ hblk (by decide) (by decide) _ _
theorem OwnW.setClock {w : World} {base k g n c : Nat} {x : Wx} (h : OwnW w base x) (hv : x.vc = .slice (some ⟨g, 0, none⟩) n c) (hn : x.clock.length = n) (z : Int) (hz : wfI z) : OwnW (w.setCell ⟨g, k, none⟩ (.int .i64 z)) base { x with clock := x.clock.set k z } := by
  have hown := h.clock
  rw [hv, hn] at hown
  obtain ⟨_, cs, hblk⟩ := own_blk hown
  refine ⟨ownsRow_setCell_other h.nodes (a := ⟨g, k, none⟩) (own_ne h.nodes hblk (by decide)) _, fun m hm => (h.node m hm).set_ hblk (by decide) (by decide) _ _, ?_, ?_, ownsRow_setCell_other h.net (a := ⟨g, k, none⟩) (own_ne h.net hblk (by decide)) _,
    fun m hm => ⟨(h.ms m hm).1, (h.ms m hm).2.set_ hblk (by decide) (by decide) _ _⟩⟩
  · have h1 := (hown.stored k (.int .i64 z)).1
    simp only [List.length_set, hn, hv]
    have e : (x.clock.set k z).flatMap intC = (x.clock.flatMap intC).set k (.int .i64 z) := by rw [cCs, cCs, List.map_set]
    rw [e]
    exact h1
  · intro a ha
    rcases List.mem_or_eq_of_mem_set ha with ha | rfl
    · exact h.clk a ha
    · exact hz
/-- the cells of an own row -/
theorem own_cell {α : Type} {w : World} {base size n c g : Nat} {e : TypeId} {cells : α → List Value} {l : List α} (h : w.ownsRow base e size (.slice (some ⟨g, 0, none⟩) n c) n (l.flatMap cells)) (hs : ∀ a, (cells a).length = size) (hn : l.length = n) {k j : Nat} (hk : k < l.length) (hj : j < size) : w.cell? ⟨g, k * size + j, none⟩ = (cells l[k])[j]? := by
  have hlt : k * size + j < n * size := by
    have : k + 1 ≤ n := by omega
    have := Nat.mul_le_mul_right size this
    rw [Nat.succ_mul] at this
    omega
  rw [h.cellAt (k * size + j) hlt, flat_at cells size hs l k j hk hj]
theorem own_node {w : World} {base n c g : Nat} {l : List Nx} (h : w.ownsRow base 22 1 (.slice (some ⟨g, 0, none⟩) n c) n (l.flatMap nC)) (hn : l.length = n) {k : Nat} (hk : k < l.length) : w.cell? ⟨g, k, none⟩ = some (slv l[k].1) := by
  have := own_cell (j := 0) h nC_len hn hk (by omega)
  rw [Nat.mul_one, Nat.add_zero] at this
  exact this
theorem own_clock {w : World} {base n c g : Nat} {l : List Int} (h : w.ownsRow base 3 1 (.slice (some ⟨g, 0, none⟩) n c) n (l.flatMap intC)) (hn : l.length = n) {k : Nat} (hk : k < l.length) : w.cell? ⟨g, k, none⟩ = some (.int .i64 l[k]) := by
  have := own_cell (j := 0) h intC_len hn hk (by omega)
  rw [Nat.mul_one, Nat.add_zero] at this
  exact this
theorem own_msg {w : World} {base n c g : Nat} {l : List Mx} (h : w.ownsRow base 95 2 (.slice (some ⟨g, 0, none⟩) n c) n (l.flatMap mC)) (hn : l.length = n) {k : Nat} (hk : k < l.length) : w.cell? ⟨g, k * 2, none⟩ = some (.int .i64 l[k].1) ∧ w.cell? ⟨g, k * 2 + 1, none⟩ = some (slv l[k].2.1) := by
  refine ⟨?_, ?_⟩
  · have := own_cell (j := 0) h mC_len hn hk (by omega)
    rw [Nat.add_zero] at this
    exact this
  · exact own_cell (j := 1) h mC_len hn hk (by omega)
theorem blk3 {w : World} {g : Nat} {t : TypeId} {v0 v1 v2 : Value} (h : Blk w g t #[v0, v1, v2]) : w.cell? ⟨g, 0, none⟩ = some v0 ∧ w.cell? ⟨g, 1, none⟩ = some v1 ∧ w.cell? ⟨g, 2, none⟩ = some v2 :=
  ⟨by rw [h.cell]; rfl, by rw [h.cell]; rfl, by rw [h.cell]; rfl⟩
end Go.Proofs.YtdoegpklephelaaDoor.Worlds
