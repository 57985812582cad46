/- worlds in own rows, functions on files, world.Check -/
import Derived.Test.YtdoegpklephelaaGreatDoorWorldMem
import Derived.Test.YtdoegpklephelaaGreatDoorLay
import Derived.Test.YtdoegpklephelaaGreatDoorCloneFB
import Derived.Test.YtdoegpklephelaaGreatDoorFuncS
import Derived.Test.YtdoegpklephelaaGreatDoorMergeChk4
/- worlds in memory of one's own. -/
namespace Go.Proofs.YtdoegpklephelaaGreatDoor.Worlds
open Go Go.RowKit Go.Proofs.YtdoegpklephelaaGreatDoor Go.Proofs.YtdoegpklephelaaGreatDoor.Name Go.Proofs.YtdoegpklephelaaGreatDoor.Merge
set_option linter.unusedVariables false

theorem _root_.Go.Proofs.YtdoegpklephelaaGreatDoor.Merge.OwnFs.keeps {w w' : World} {base B : Nat} {T : List TypeId} {v : Value} {l : List Fx} (h : OwnFs w base v l) (hk : Keeps B T w w') (h1 : 49 ∉ T) (h2 : 5 ∉ T) : OwnFs w' base v l :=
  ⟨hk.own h.row h1, fun x hx => ⟨hk.own (h.each x hx).own h2, (h.each x hx).name, (h.each x hx).stamp, (h.each x hx).node⟩⟩
theorem _root_.Go.Proofs.YtdoegpklephelaaGreatDoor.Merge.OwnFs.set_ {w : World} {base g : Nat} {t : TypeId} {cs : Array Value} {v : Value} {l : List Fx} (h : OwnFs w base v l) (hg : Blk w g t cs) (h1 : 49 ≠ t) (h2 : 5 ≠ t) (i : Nat) (u : Value) : OwnFs (w.setCell ⟨g, i, none⟩ u) base v l :=
  ⟨ownsRow_setCell_other h.row (a := ⟨g, i, none⟩) (own_ne h.row hg h1) u, fun x hx => ⟨ownsRow_setCell_other (h.each x hx).own (a := ⟨g, i, none⟩) (own_ne (h.each x hx).own hg h2) u, (h.each x hx).name, (h.each x hx).stamp, (h.each x hx).node⟩⟩
/-- a world whose rows lie in blocks of one's own -/
structure OwnW (w : World) (base : Nat) (x : Wx) : Prop where
  nodes : w.ownsRow base 46 1 x.vn x.nodes.length (x.nodes.flatMap nC)
  node : ∀ n ∈ x.nodes, OwnFs w base (slv n.1) n.2
  clock : w.ownsRow base 3 1 x.vc x.clock.length (x.clock.flatMap intC)
  clk : ∀ c ∈ x.clock, wfI c
  net : w.ownsRow base 54 2 x.vt x.net.length (x.net.flatMap mC)
  ms : ∀ m ∈ x.net, wfI m.1 ∧ OwnFs w base (slv m.2.1) m.2.2
theorem OwnW.below {w w' : World} {base : Nat} {x : Wx} (h : OwnW w base x) (hb : Below w.heap.size w w') : OwnW w' base x :=
  ⟨own_keep h.nodes hb, fun n hn => (h.node n hn).below hb, own_keep h.clock hb, h.clk, own_keep h.net hb, fun m hm => ⟨(h.ms m hm).1, (h.ms m hm).2.below hb⟩⟩
theorem OwnW.base_ {w : World} {base base' : Nat} {x : Wx} (h : OwnW w base x) (hb : base' ≤ base) : OwnW w base' x :=
  ⟨own_base h.nodes hb, fun n hn => (h.node n hn).base_ hb, own_base h.clock hb, h.clk, own_base h.net hb, fun m hm => ⟨(h.ms m hm).1, (h.ms m hm).2.base_ hb⟩⟩
theorem own_isL {α : Type} {w : World} {base size n : Nat} {e : TypeId} {cells : α → List Value} {deep : α → Prop} {v : Value} {l : List α} (h : w.ownsRow base e size v n (l.flatMap cells)) (hn : l.length = n) (hd : ∀ a ∈ l, deep a) : IsL w cells deep v l := by
  obtain ⟨A, cap, rfl, h1, h2, h3, h4⟩ := own_slat h
  subst hn
  exact ⟨A, cap, rfl, h1, h2, h3, fun e => List.eq_nil_of_length_eq_zero (h4 e), hd⟩
theorem OwnW.isWorld {w : World} {base : Nat} {x : Wx} (h : OwnW w base x) : IsWorld w x :=
  ⟨own_isL h.nodes rfl fun n hn => (h.node n hn).files, own_isL h.clock rfl h.clk, own_isL h.net rfl fun m hm => ⟨(h.ms m hm).1, (h.ms m hm).2.files⟩⟩
theorem nCs (l : List Nx) : l.flatMap nC = l.map fun x => slv x.1 := by
  induction l with
  | nil => rfl
  | cons a l ih => rw [List.flatMap_cons, ih]; rfl
theorem cCs (l : List Int) : l.flatMap intC = l.map fun x => Value.int .i64 x := by
  induction l with
  | nil => rfl
  | cons a l ih => rw [List.flatMap_cons, ih]; rfl
theorem mCs_len (l : List Mx) : (l.flatMap mC).length = l.length * 2 := by
  induction l with
  | nil => rfl
  | cons a l ih => rw [List.flatMap_cons, List.length_append, ih, mC_len, List.length_cons]; omega
/-- where an own row lies -/
theorem own_at {w : World} {base size n : Nat} {e : TypeId} {v : Value} {xs : List Value} (h : w.ownsRow base e size v n xs) (h0 : 0 < n) : ∃ g c, v = .slice (some ⟨g, 0, none⟩) n c ∧ base ≤ g ∧ n ≤ c ∧ c ≤ maxLen ∧ ∃ cs, Blk w g e cs := by
  obtain ⟨A, c, rfl, h1, h2, _, _⟩ := own_slat h
  rcases h.2 with ⟨h1', _⟩ | ⟨g, cap', cur, hv, hb, hg, _⟩
  · injection h1' with h1' h2'; omega
  · injection hv with hv; exact ⟨g, c, by rw [hv], hb, h1, h2, cur, hg⟩
theorem OwnW.set_ {w : World} {base g : Nat} {t : TypeId} {cs : Array Value} {x : Wx} (h : OwnW w base x) (hg : Blk w g t cs) (h1 : 49 ≠ t) (h2 : 5 ≠ t) (h3 : 46 ≠ t) (h4 : 3 ≠ t) (h5 : 54 ≠ t) (i : Nat) (u : Value) : OwnW (w.setCell ⟨g, i, none⟩ u) base x :=
  ⟨ownsRow_setCell_other h.nodes (a := ⟨g, i, none⟩) (own_ne h.nodes hg h3) u, fun n hn => (h.node n hn).set_ hg h1 h2 i u, ownsRow_setCell_other h.clock (a := ⟨g, i, none⟩) (own_ne h.clock hg h4) u, h.clk,
    ownsRow_setCell_other h.net (a := ⟨g, i, none⟩) (own_ne h.net hg h5) u, fun m hm => ⟨(h.ms m hm).1, (h.ms m hm).2.set_ hg h1 h2 i u⟩⟩
theorem OwnW.setNode {w : World} {base k g n c : Nat} {x : Wx} (h : OwnW w base x) (hv : x.vn = .slice (some ⟨g, 0, none⟩) n c) (hn : x.nodes.length = n) (s : Sl3) (l : List Fx) (hl : OwnFs w base (slv s) l) : OwnW (w.setCell ⟨g, k, none⟩ (slv s)) base { x with nodes := x.nodes.set k (s, l) } := by
  have hown := h.nodes
  rw [hv, hn] at hown
  obtain ⟨_, cs, hblk⟩ := own_blk hown
  refine ⟨?_, ?_, ownsRow_setCell_other h.clock (a := ⟨g, k, none⟩) (own_ne h.clock hblk (by decide)) _, h.clk, ownsRow_setCell_other h.net (a := ⟨g, k, none⟩) (own_ne h.net hblk (by decide)) _,
    fun m hm => ⟨(h.ms m hm).1, (h.ms m hm).2.set_ hblk (by decide) (by decide) _ _⟩⟩
  · have h1 := (hown.stored k (slv s)).1
    simp only [List.length_set, hn, hv]
    have e : (x.nodes.set k (s, l)).flatMap nC = (x.nodes.flatMap nC).set k (slv s) := by rw [nCs, nCs, List.map_set]
    rw [e]
    exact h1
  · intro a ha
    rcases List.mem_or_eq_of_mem_set ha with ha | rfl
    · exact (h.node a ha).set_ hblk (by decide) (by decide) _ _
    · exact hl.set_ hblk (by decide) (by decide) _ _
theorem OwnW.setClock {w : World} {base k g n c : Nat} {x : Wx} (h : OwnW w base x) (hv : x.vc = .slice (some ⟨g, 0, none⟩) n c) (hn : x.clock.length = n) (z : Int) (hz : wfI z) : OwnW (w.setCell ⟨g, k, none⟩ (.int .i64 z)) base { x with clock := x.clock.set k z } := by
  have hown := h.clock
  rw [hv, hn] at hown
  obtain ⟨_, cs, hblk⟩ := own_blk hown
  refine ⟨ownsRow_setCell_other h.nodes (a := ⟨g, k, none⟩) (own_ne h.nodes hblk (by decide)) _, fun m hm => (h.node m hm).set_ hblk (by decide) (by decide) _ _, ?_, ?_, ownsRow_setCell_other h.net (a := ⟨g, k, none⟩) (own_ne h.net hblk (by decide)) _,
    fun m hm => ⟨(h.ms m hm).1, (h.ms m hm).2.set_ hblk (by decide) (by decide) _ _⟩⟩
  · have h1 := (hown.stored k (.int .i64 z)).1
    simp only [List.length_set, hn, hv]
    have e : (x.clock.set k z).flatMap intC = (x.clock.flatMap intC).set k (.int .i64 z) := by rw [cCs, cCs, List.map_set]
    rw [e]
    exact h1
  · intro a ha
    rcases List.mem_or_eq_of_mem_set ha with ha | rfl
    · exact h.clk a ha
    · exact hz
/-- the cells of an own row -/
theorem own_cell {α : Type} {w : World} {base size n c g : Nat} {e : TypeId} {cells : α → List Value} {l : List α} (h : w.ownsRow base e size (.slice (some ⟨g, 0, none⟩) n c) n (l.flatMap cells)) (hs : ∀ a, (cells a).length = size) (hn : l.length = n) {k j : Nat} (hk : k < l.length) (hj : j < size) : w.cell? ⟨g, k * size + j, none⟩ = (cells l[k])[j]? := by
  have hlt : k * size + j < n * size := by
    have : k + 1 ≤ n := by omega
    have := Nat.mul_le_mul_right size this
    rw [Nat.succ_mul] at this
    omega
  rw [h.cellAt (k * size + j) hlt, flat_at cells size hs l k j hk hj]
theorem own_node {w : World} {base n c g : Nat} {l : List Nx} (h : w.ownsRow base 46 1 (.slice (some ⟨g, 0, none⟩) n c) n (l.flatMap nC)) (hn : l.length = n) {k : Nat} (hk : k < l.length) : w.cell? ⟨g, k, none⟩ = some (slv l[k].1) := by
  have := own_cell (j := 0) h nC_len hn hk (by omega)
  rw [Nat.mul_one, Nat.add_zero] at this
  exact this
theorem own_clock {w : World} {base n c g : Nat} {l : List Int} (h : w.ownsRow base 3 1 (.slice (some ⟨g, 0, none⟩) n c) n (l.flatMap intC)) (hn : l.length = n) {k : Nat} (hk : k < l.length) : w.cell? ⟨g, k, none⟩ = some (.int .i64 l[k]) := by
  have := own_cell (j := 0) h intC_len hn hk (by omega)
  rw [Nat.mul_one, Nat.add_zero] at this
  exact this
theorem own_msg {w : World} {base n c g : Nat} {l : List Mx} (h : w.ownsRow base 54 2 (.slice (some ⟨g, 0, none⟩) n c) n (l.flatMap mC)) (hn : l.length = n) {k : Nat} (hk : k < l.length) : w.cell? ⟨g, k * 2, none⟩ = some (.int .i64 l[k].1) ∧ w.cell? ⟨g, k * 2 + 1, none⟩ = some (slv l[k].2.1) := by
  refine ⟨?_, ?_⟩
  · have := own_cell (j := 0) h mC_len hn hk (by omega)
    rw [Nat.add_zero] at this
    exact this
  · exact own_cell (j := 1) h mC_len hn hk (by omega)
theorem blk3 {w : World} {g : Nat} {t : TypeId} {v0 v1 v2 : Value} (h : Blk w g t #[v0, v1, v2]) : w.cell? ⟨g, 0, none⟩ = some v0 ∧ w.cell? ⟨g, 1, none⟩ = some v1 ∧ w.cell? ⟨g, 2, none⟩ = some v2 :=
  ⟨by rw [h.cell]; rfl, by rw [h.cell]; rfl, by rw [h.cell]; rfl⟩
end Go.Proofs.YtdoegpklephelaaGreatDoor.Worlds

/- slices.IndexFunc, slices.ContainsFunc at []api.File. -/
namespace Go.Proofs.YtdoegpklephelaaGreatDoor.Merge
open Go Go.RowKit Go.Proofs.YtdoegpklephelaaGreatDoor Go.Proofs.YtdoegpklephelaaGreatDoor.Name
set_option linter.unusedVariables false

theorem idxI_of {α : Type} (p : α → Bool) (l : List α) : (∃ k : Nat, ∃ h : k < l.length, idxI p l = (k : Int) ∧ p l[k] = true ∧ ∀ x ∈ l.take k, p x = false) ∨ (idxI p l = -1 ∧ ∀ x ∈ l, p x = false) := by
  unfold idxI
  cases h : l.findIdx? p with
  | none => rw [List.findIdx?_eq_none_iff] at h; exact .inr ⟨rfl, h⟩
  | some i =>
    rw [List.findIdx?_eq_some_iff_getElem] at h
    obtain ⟨h1, h2, h3⟩ := h
    refine .inl ⟨i, h1, rfl, h2, fun x hx => ?_⟩
    obtain ⟨j, hj, e⟩ := List.mem_take_iff_getElem.1 hx
    subst e
    have := h3 j (by omega)
    simpa using this
set_option maxRecDepth 100000 in
set_option maxHeartbeats 400000 in
theorem indexFunc_files (A : Option Addr) (n c : Nat) (xs : List Fx) (g : FuncId) (cap : Array Value) (p : Fx → Bool) (w : World) (hn : xs.length = n) (hx : n ≤ maxLen) (ha : SlAt w A (xs.flatMap fC))
    (hcf : ∀ args w', (callFunc g args).run Tryz.prog w' = .ok (.enter g args) w')
    (hf : ∀ x ∈ xs, ∀ w', Below w.heap.size w w' → Calls Tryz.prog g (#[fV x] ++ cap) w' fun e w'' => e = .returned (.bool (p x)) ∧ Below w'.heap.size w' w'') :
    Calls Tryz.prog 32 #[.slice A n c, .func (.func g) #[] cap] w fun e w' => e = .returned (.int .i64 (idxI p xs)) ∧ Below w.heap.size w w' := by
  unfold maxLen at hx
  have Hn := Lib.hid hn
  have Ha := Lib.hid ha
  have Hf := Lib.hid hf
  clear hn ha hf
  go_enter Tryz.func32, Tryz.ntmps32
  go_wp2_with fail
  go_loopw [8] (fun i wr => ∃ k : Nat, k ≤ n ∧ i = .int .i64 k ∧ (∀ x ∈ xs.take k, p x = false) ∧ Below w.heap.size w wr) (fun i _ => n - (intOf i).toNat)
  case atStart => exact ⟨0, Nat.zero_le _, rfl, by simp, Below.refl _ _⟩
  case round =>
    obtain ⟨k, hk, rfl, hno, hbr⟩ := hrel
    have Hno := Lib.hid hno
    have Hbr := Lib.hid hbr
    clear hno
    by_cases hlt : k < n
    · have hkx : k < xs.length := by rw [Hn.out]; exact hlt
      obtain ⟨b, o, rfl, hc⟩ := slat_elem (size := 5) fC_len (by omega) (Ha.out.below hbr) hkx
      have Hcall := Lib.hid (Hf.out xs[k] (List.getElem_mem hkx) wr hbr)
      have Hy := Lib.hid (idxI_here p xs k hkx Hno.out)
      have Hz := Lib.hid (not_take_succ p xs k hkx Hno.out)
      generalize xs[k] = x at *
      obtain ⟨⟨n1, b1, s1, d1, g1⟩, A1, l1, c1⟩ := x
      have c0 : wr.cell? ⟨b, o + k * 5, none⟩ = some (.string (strB n1)) := hc 0 _ rfl
      have c1' : wr.cell? ⟨b, o + k * 5 + 1, none⟩ = some (.slice A1 l1 c1) := hc 1 _ rfl
      have c2 : wr.cell? ⟨b, o + k * 5 + 2, none⟩ = some (.int .i64 s1) := hc 2 _ rfl
      have c3 : wr.cell? ⟨b, o + k * 5 + 3, none⟩ = some (.int .i64 d1) := hc 3 _ rfl
      have c4 : wr.cell? ⟨b, o + k * 5 + 4, none⟩ = some (.bool g1) := hc 4 _ rfl
      obtain ⟨pv, hpv⟩ : ∃ pv, p (⟨n1, b1, s1, d1, g1⟩, A1, l1, c1) = pv := ⟨_, rfl⟩
      rw [hpv] at Hcall Hy Hz
      clear hbr hc hpv
      go_wp2_with fail
      refine (Hcall.out).mono ?_
      rintro e w1 ⟨rfl, hb1⟩
      have Hb1 := Lib.hid (Hbr.out.trans (hb1.mono Hbr.out.size))
      clear hb1
      cases pv with
      | true =>
        have Hi := Lib.hid (Hy.out rfl)
        go_wp2_with fail
        go_ret
        exact ⟨ret_int Hi.out.symm, Hb1.out⟩
      | false =>
        have Hi := Lib.hid (Hz.out rfl)
        go_wp2_with fail
        go_roundw
        case rel => exact ⟨k + 1, by omega, by go_num, Hi.out, Hb1.out⟩
        case measure => simp [intOf]; omega
    · have Hi := Lib.hid (idxI_none p xs (by have := Hno.out; rwa [List.take_of_length_le (by rw [Hn.out]; omega)] at this))
      clear hbr
      go_wp2_with fail
      go_ret
      exact ⟨ret_int Hi.out.symm, Hbr.out⟩
theorem containsFunc_files (A : Option Addr) (n c : Nat) (xs : List Fx) (g : FuncId) (cap : Array Value) (p : Fx → Bool) (w : World) (hn : xs.length = n) (hx : n ≤ maxLen) (ha : SlAt w A (xs.flatMap fC))
    (hcf : ∀ args w', (callFunc g args).run Tryz.prog w' = .ok (.enter g args) w')
    (hf : ∀ x ∈ xs, ∀ w', Below w.heap.size w w' → Calls Tryz.prog g (#[fV x] ++ cap) w' fun e w'' => e = .returned (.bool (p x)) ∧ Below w'.heap.size w' w'') :
    Calls Tryz.prog 47 #[.slice A n c, .func (.func g) #[] cap] w fun e w' => e = .returned (.bool (xs.any p)) ∧ Below w.heap.size w w' := by
  have Hany := Lib.hid (idxI_any p xs)
  have Hcon := Lib.hid (indexFunc_files A n c xs g cap p w hn hx ha hcf hf)
  clear hn hx ha hcf hf
  go_enter Tryz.func47, Tryz.ntmps47
  go_wp2_with fail
  refine (Hcon.out).mono ?_
  rintro e w1 ⟨rfl, hb1⟩
  have Hb1 := Lib.hid hb1
  clear hb1
  go_wp2_with fail
  go_ret
  exact ⟨ret_bool (by rw [← Hany.out]), Hb1.out⟩
end Go.Proofs.YtdoegpklephelaaGreatDoor.Merge

/- package world: behind, Check. -/
namespace Go.Proofs.YtdoegpklephelaaGreatDoor.Worlds
open Go Go.RowKit Go.Proofs.YtdoegpklephelaaGreatDoor Go.Proofs.YtdoegpklephelaaGreatDoor.Name Go.Proofs.YtdoegpklephelaaGreatDoor.Merge
set_option linter.unusedVariables false

set_option maxHeartbeats 400000 in
theorem late1_any (x : Fx) (c : Int) (g : Nat) (w : World) (hg : w.cell? ⟨g, 0, none⟩ = some (.int .i64 c)) :
    Calls Tryz.prog 48 #[fV x, .pointer (some ⟨g, 0, none⟩)] w fun e w' => e = .returned (.bool (decide (c < x.1.stamp))) ∧ Below w.heap.size w w' := by
  obtain ⟨⟨nm, bs, st, nd, gn⟩, A, n, cp⟩ := x
  unfold fV slv
  dsimp only
  have hz := block_lt_of_cell hg
  simp only at hz
  go_enter Tryz.func48, Tryz.ntmps48
  go_wp2
  go_ret
  exact ⟨rfl, (Below.refl _ _).alloc (Nat.le_refl _) _⟩
theorem elate : ∀ args w', (callFunc 48 args).run Tryz.prog w' = .ok (.enter 48 args) w' := enters_of Tryz.func48 (by kernel_rfl) rfl
set_option maxHeartbeats 400000 in
theorem behind_any (A : Option Addr) (n k : Nat) (l : List Fx) (c : Int) (w : World) (hn : l.length = n) (hx : n ≤ maxLen) (ha : SlAt w A (l.flatMap fC)) :
    Calls Tryz.prog 25 #[.slice A n k, .int .i64 c] w fun e w' => e = .returned (.bool (!lateB (flOf l) c)) ∧ Below w.heap.size w w' := by
  have Hany : Hid (l.any (fun x => decide (c < x.1.stamp)) = lateB (flOf l) c) := Lib.hid (by unfold lateB flOf; rw [List.any_map]; rfl)
  have B1 := Blk.new w 3 #[.int .i64 c]
  have hb1 : Below w.heap.size w (w.alloc (.cells #[.int .i64 c] 3)) := (Below.refl _ _).alloc (Nat.le_refl _) _
  have HC := Lib.hid (containsFunc_files A n k l 48 #[.pointer (some ⟨w.heap.size, 0, none⟩)] (fun x => decide (c < x.1.stamp)) _ hn hx (ha.below hb1) elate (fun x hx w' hb => late1_any x c w.heap.size w' (by rw [(B1.below hb B1.lt).cell]; rfl)))
  have Hb1 := Lib.hid hb1
  clear hn hx ha B1 hb1
  go_enter Tryz.func25, Tryz.ntmps25
  go_wp2_with fail
  refine (HC.out).mono ?_
  rintro e w1 ⟨rfl, hb⟩
  have Hb := Lib.hid (stepN Hb1.out hb)
  clear hb HC
  rw [Hany.out]
  go_wp2_with fail
  go_ret
  exact ⟨rfl, Hb.out⟩
theorem chkW_1 {x : Wd} (h : x.nodes.length < 1 ∨ 4 < x.nodes.length ∨ x.clock.length ≠ x.nodes.length) : chkW x = 3 := by unfold chkW; rw [if_pos h]
theorem chkW_2 {x : Wd} (h : ¬ (x.nodes.length < 1 ∨ 4 < x.nodes.length ∨ x.clock.length ≠ x.nodes.length)) (h2 : 20 < x.net.length) : chkW x = 2 := by unfold chkW; rw [if_neg h, if_pos h2]
theorem chkW_3 {x : Wd} (h : ¬ (x.nodes.length < 1 ∨ 4 < x.nodes.length ∨ x.clock.length ≠ x.nodes.length)) (h2 : ¬ 20 < x.net.length) (h3 : chkNodes x.nodes x.clock ≠ 0) : chkW x = chkNodes x.nodes x.clock := by unfold chkW; rw [if_neg h, if_neg h2, if_pos h3]
theorem chkW_4 {x : Wd} (h : ¬ (x.nodes.length < 1 ∨ 4 < x.nodes.length ∨ x.clock.length ≠ x.nodes.length)) (h2 : ¬ 20 < x.net.length) (h3 : chkNodes x.nodes x.clock = 0) : chkW x = chkNet x.nodes.length x.net := by unfold chkW; rw [if_neg h, if_neg h2, if_neg (by simpa using h3)]
theorem nodes_1 {l : List Fl} {c : Int} (ls : List (List Fl)) (cs : List Int) (h : chkF l ≠ 0) : chkNodes (l :: ls) (c :: cs) = chkF l := by simp only [chkNodes]; rw [if_pos h]
theorem nodes_2 {l : List Fl} {c : Int} (ls : List (List Fl)) (cs : List Int) (h : chkF l = 0) (h2 : c < 0 ∨ 1000000 < c ∨ lateB l c = true) : chkNodes (l :: ls) (c :: cs) = 3 := by simp only [chkNodes]; rw [if_neg (by simpa using h), if_pos h2]
theorem nodes_3 {l : List Fl} {c : Int} (ls : List (List Fl)) (cs : List Int) (h : chkF l = 0) (h2 : ¬ (c < 0 ∨ 1000000 < c ∨ lateB l c = true)) : chkNodes (l :: ls) (c :: cs) = chkNodes ls cs := by simp only [chkNodes]; rw [if_neg (by simpa using h), if_neg h2]
theorem net_1 {n : Nat} {m : Ms} (ms : List Ms) (h : chkF m.files ≠ 0) : chkNet n (m :: ms) = chkF m.files := by simp only [chkNet]; rw [if_pos h]
theorem net_2 {n : Nat} {m : Ms} (ms : List Ms) (h : chkF m.files = 0) (h2 : m.to_ < 0 ∨ (n : Int) ≤ m.to_) : chkNet n (m :: ms) = 5 := by simp only [chkNet]; rw [if_neg (by simpa using h), if_pos h2]
theorem net_3 {n : Nat} {m : Ms} (ms : List Ms) (h : chkF m.files = 0) (h2 : ¬ (m.to_ < 0 ∨ (n : Int) ≤ m.to_)) : chkNet n (m :: ms) = chkNet n ms := by simp only [chkNet]; rw [if_neg (by simpa using h), if_neg h2]
theorem map_drop_cons {α β : Type} (f : α → β) (l : List α) {k : Nat} (hk : k < l.length) : (l.map f).drop k = f l[k] :: (l.map f).drop (k + 1) := by
  rw [List.drop_eq_getElem_cons (by simpa using hk), List.getElem_map]
/-- the cells of a row of nodes, of clocks, of messages that is read -/
theorem node_cell {w : World} {A : Option Addr} {l : List Nx} (h : SlAt w A (l.flatMap nC)) {k : Nat} (hk : k < l.length) : ∃ b o, A = some ⟨b, o, none⟩ ∧ w.cell? ⟨b, o + k, none⟩ = some (slv l[k].1) := by
  obtain ⟨b, o, e, hc⟩ := slat_elem (size := 1) nC_len (by omega) h hk
  exact ⟨b, o, e, by have := hc 0 _ rfl; rwa [Nat.mul_one, Nat.add_zero] at this⟩
theorem clock_cell {w : World} {A : Option Addr} {l : List Int} (h : SlAt w A (l.flatMap intC)) {k : Nat} (hk : k < l.length) : ∃ b o, A = some ⟨b, o, none⟩ ∧ w.cell? ⟨b, o + k, none⟩ = some (.int .i64 l[k]) := by
  obtain ⟨b, o, e, hc⟩ := slat_elem (size := 1) intC_len (by omega) h hk
  exact ⟨b, o, e, by have := hc 0 _ rfl; rwa [Nat.mul_one, Nat.add_zero] at this⟩
theorem msg_cell {w : World} {A : Option Addr} {l : List Mx} (h : SlAt w A (l.flatMap mC)) {k : Nat} (hk : k < l.length) : ∃ b o, A = some ⟨b, o, none⟩ ∧ w.cell? ⟨b, o + k * 2, none⟩ = some (.int .i64 l[k].1) ∧ w.cell? ⟨b, o + k * 2 + 1, none⟩ = some (slv l[k].2.1) := by
  obtain ⟨b, o, e, hc⟩ := slat_elem (size := 2) mC_len (by omega) h hk
  exact ⟨b, o, e, hc 0 _ rfl, hc 1 _ rfl⟩
set_option maxRecDepth 100000 in
set_option maxHeartbeats 4000000 in
theorem check_world (x : Wx) (w : World) (hm : ML w) (h : IsWorld w x) :
    Calls Tryz.prog 10 #[wV x] w fun e w' => e = .returned (.int .i64 (chkW x.wd)) ∧ Below w.heap.size w w' := by
  obtain ⟨hN, hC, hT⟩ := h
  obtain ⟨R, hR⟩ : ∃ R, R = chkW x.wd := ⟨_, rfl⟩
  have HR1 := Lib.hid (chkW_1 (x := x.wd))
  have HR2 := Lib.hid (chkW_2 (x := x.wd))
  have HR3 := Lib.hid (chkW_3 (x := x.wd))
  have HR4 := Lib.hid (chkW_4 (x := x.wd))
  rw [← hR] at HR1 HR2 HR3 HR4 ⊢
  clear hR
  unfold Wx.wd at HR1 HR2 HR3 HR4
  obtain ⟨vn, nodes, vc, clock, vt, net⟩ := x
  dsimp only at hN hC hT HR1 HR2 HR3 HR4
  simp only [List.length_map] at HR1 HR2 HR3 HR4
  obtain ⟨An, cn, rfl, n1, n2, n3, n4, n5⟩ := hN
  obtain ⟨Ac, cc, rfl, c1, c2, c3, c4, c5⟩ := hC
  obtain ⟨At, ct, rfl, t1, t2, t3, t4, t5⟩ := hT
  have HN3 := Lib.hid n3
  have HN5 := Lib.hid n5
  have HC3 := Lib.hid c3
  have HT3 := Lib.hid t3
  have HT5 := Lib.hid t5
  unfold wV
  dsimp only
  obtain ⟨n, hn⟩ : ∃ n, n = nodes.length := ⟨_, rfl⟩
  obtain ⟨m, hm'⟩ : ∃ m, m = clock.length := ⟨_, rfl⟩
  obtain ⟨q, hq⟩ : ∃ q, q = net.length := ⟨_, rfl⟩
  rw [← hn] at n1 HR1 HR2 HR3 HR4 ⊢
  rw [← hm'] at c1 HR1 HR2 HR3 HR4 ⊢
  rw [← hq] at t1 HR2 HR3 HR4 ⊢
  have Hn := Lib.hid hn
  have Hm := Lib.hid hm'
  have Hq := Lib.hid hq
  have HM := Lib.hid hm
  unfold maxLen at n2 c2 t2
  have hq63 : q ≤ 9223372036854775807 := by omega
  clear hn hm' hq hm n3 n4 n5 c3 c4 c5 t3 t4 t5
  by_cases hbad : n < 1 ∨ 4 < n ∨ m ≠ n
  · have HU := Lib.hid (HR1.out hbad)
    rcases (by omega : n < 1 ∨ (¬ n < 1 ∧ 4 < n) ∨ (¬ n < 1 ∧ ¬ 4 < n ∧ m ≠ n)) with h | ⟨h, h2⟩ | ⟨h, h2, h3⟩
    · have g1 : (n : Int) < 1 := by omega
      clear hbad
      go_enter Tryz.func10, Tryz.ntmps10
      go_wp2_with fail
      go_ret
      exact ⟨ret_int HU.out.symm, (Below.refl _ _).alloc (Nat.le_refl _) _⟩
    · have g1 : ¬ (n : Int) < 1 := by omega
      have g2 : (4 : Int) < (n : Int) := by omega
      clear hbad
      go_enter Tryz.func10, Tryz.ntmps10
      go_wp2_with fail
      go_ret
      exact ⟨ret_int HU.out.symm, (Below.refl _ _).alloc (Nat.le_refl _) _⟩
    · have g1 : ¬ (n : Int) < 1 := by omega
      have g2 : ¬ (4 : Int) < (n : Int) := by omega
      have g3 : ((m : Int) != (n : Int)) = true := by simp; omega
      have g4 : ¬ (m : Int) = (n : Int) := by omega
      clear hbad
      go_enter Tryz.func10, Tryz.ntmps10
      go_wp2_with fail
      go_ret
      exact ⟨ret_int HU.out.symm, (Below.refl _ _).alloc (Nat.le_refl _) _⟩
  · obtain rfl : m = n := by omega
    have g1 : ¬ (m : Int) < 1 := by omega
    have g2 : ¬ (4 : Int) < (m : Int) := by omega
    have m4 : m ≤ 4 := by omega
    have m1 : 1 ≤ m := by omega
    have Hbad := Lib.hid hbad
    clear hbad HR1
    by_cases hq : 20 < q
    · have HU := Lib.hid (HR2.out Hbad.out hq)
      have g5 : (20 : Int) < (q : Int) := by omega
      go_enter Tryz.func10, Tryz.ntmps10
      go_wp2_with fail
      go_ret
      exact ⟨ret_int HU.out.symm, (Below.refl _ _).alloc (Nat.le_refl _) _⟩
    · have g5 : ¬ (20 : Int) < (q : Int) := by omega
      have HR5 := Lib.hid (HR3.out Hbad.out hq)
      have HR6 := Lib.hid (HR4.out Hbad.out hq)
      clear HR2 HR3 HR4 Hbad
      obtain ⟨E, hE⟩ : ∃ E, E = chkNodes (nodes.map fun x => flOf x.2) clock := ⟨_, rfl⟩
      have HE := Lib.hid hE
      rw [← hE] at HR5 HR6
      clear hE
      obtain ⟨w1, hw1⟩ : ∃ w1, w1 = w.alloc (.cells #[.slice An m cn, .slice Ac m cc, .slice At q ct] 26) := ⟨_, rfl⟩
      have B1 : Blk w1 w.heap.size 26 #[.slice An m cn, .slice Ac m cc, .slice At q ct] := by rw [hw1]; exact Blk.new _ _ _
      have hb1 : Below w.heap.size w w1 := by rw [hw1]; exact (Below.refl _ _).alloc (Nat.le_refl _) _
      obtain ⟨g, hg⟩ : ∃ g, g = w.heap.size := ⟨_, rfl⟩
      have HB1 := Lib.hid B1
      have Hb1 := Lib.hid hb1
      have Hw1 := Lib.hid hw1.symm
      clear B1 hb1 hw1 hg
      go_enter Tryz.func10, Tryz.ntmps10
      go_wp2_with fail
      rw [Hw1.out]
      go_loopw [33] (fun vi wr => ∃ k : Nat, k ≤ m ∧ vi = .int .i64 (k : Int) ∧ E = chkNodes ((nodes.map fun x => flOf x.2).drop k) (clock.drop k) ∧ Below w1.heap.size w1 wr) (fun vi _ => m - (intOf vi).toNat)
      case atStart => exact ⟨0, Nat.zero_le _, rfl, HE.out, Below.refl _ _⟩
      case round =>
        obtain ⟨k, hk, rfl, hE, hb⟩ := hrel
        have HEk := Lib.hid hE
        have Hb := Lib.hid hb
        clear hE hb
        obtain ⟨bx0, bx1, bx2⟩ := blk3 (HB1.out.below Hb.out HB1.out.lt)
        by_cases hlt : k < m
        · have hkn : k < nodes.length := by rw [← Hn.out]; exact hlt
          have hkc : k < clock.length := by rw [← Hm.out]; exact hlt
          obtain ⟨b, o, rfl, nc⟩ := node_cell ((HN3.out.below Hb1.out).below Hb.out) hkn
          obtain ⟨b2, o2, rfl, cc'⟩ := clock_cell ((HC3.out.below Hb1.out).below Hb.out) hkc
          have HND := Lib.hid ((((HN5.out nodes[k] (List.getElem_mem hkn)).below Hb1.out).below Hb.out))
          have HE2 : Hid (E = chkNodes (flOf nodes[k].2 :: (nodes.map fun x => flOf x.2).drop (k + 1)) (clock[k] :: clock.drop (k + 1))) := Lib.hid (by
            rw [← map_drop_cons (fun x : Nx => flOf x.2) nodes hkn, ← List.drop_eq_getElem_cons hkc]; exact HEk.out)
          generalize nodes[k] = nd at *
          generalize clock[k] = c at *
          obtain ⟨⟨A', n', c'⟩, fl⟩ := nd
          unfold NodeAt at HND
          simp only [slv] at nc HND
          have HCh := Lib.hid (check_any _ fl _ ((HM.out.below Hb1.out).below Hb.out) HND.out)
          obtain ⟨A'', c'', e0, f1, f2, f3, f4, f5⟩ := HND.out
          injection e0 with e1 e2 e3
          subst e1 e2 e3
          have Hf3 := Lib.hid f3
          have Hf2 := Lib.hid (show fl.length ≤ maxLen by omega)
          obtain ⟨nl, hnl⟩ : ∃ nl, nl = fl.length := ⟨_, rfl⟩
          rw [← hnl] at nc HCh Hf2
          have Hnl := Lib.hid hnl
          clear f1 f2 f3 f4 f5 hnl HND
          go_wp2_with fail
          refine (HCh.out).mono ?_
          rintro e w2 ⟨rfl, hb2⟩
          have Hb2 := Lib.hid (Hb.out.trans (hb2.mono Hb.out.size))
          obtain ⟨cx0, cx1, cx2⟩ := blk3 (HB1.out.below Hb2.out HB1.out.lt)
          have cc2 := cell_below hb2 cc'
          have Hf4 := Lib.hid (Hf3.out.below hb2)
          clear hb2 HCh Hf3 bx0 bx1 bx2 cc'
          by_cases he : chkF (flOf fl) = 0
          · rw [show chkF (fl.map Prod.fst) = 0 from he]
            by_cases hc0 : c < 0
            · have HU := Lib.hid (HE2.out.trans (nodes_2 _ _ he (.inl hc0)))
              have HU2 := Lib.hid ((HR5.out (by rw [HU.out]; omega)).trans HU.out)
              clear he
              go_wp2_with fail
              go_ret
              exact ⟨ret_int HU2.out.symm, Hb1.out.trans (Hb2.out.mono Hb1.out.size)⟩
            · by_cases hc1 : 1000000 < c
              · have HU := Lib.hid (HE2.out.trans (nodes_2 _ _ he (.inr (.inl hc1))))
                have HU2 := Lib.hid ((HR5.out (by rw [HU.out]; omega)).trans HU.out)
                clear he
                go_wp2_with fail
                go_ret
                exact ⟨ret_int HU2.out.symm, Hb1.out.trans (Hb2.out.mono Hb1.out.size)⟩
              · have HBh := Lib.hid (behind_any A' nl c' fl c w2 Hnl.out.symm Hf2.out Hf4.out)
                have HY := Lib.hid (fun h => HE2.out.trans (nodes_2 _ _ he (.inr (.inr h))))
                have HZ : Hid (lateB (flOf fl) c = false → E = _) := Lib.hid (fun h => HE2.out.trans (nodes_3 _ _ he (by rw [h]; simp; omega)))
                clear he HE2
                go_wp2_with fail
                refine (HBh.out).mono ?_
                rintro e w3 ⟨rfl, hb3⟩
                have Hb3 := Lib.hid (Hb2.out.trans (hb3.mono Hb2.out.size))
                clear hb3 HBh cx0 cx1 cx2 cc2
                generalize lateB (flOf fl) c = lb at *
                cases lb with
                | true =>
                  have HU := Lib.hid (HY.out rfl)
                  have HU2 := Lib.hid ((HR5.out (by rw [HU.out]; omega)).trans HU.out)
                  go_wp2_with fail
                  go_ret
                  exact ⟨ret_int HU2.out.symm, Hb1.out.trans (Hb3.out.mono Hb1.out.size)⟩
                | false =>
                  have HU := Lib.hid (HZ.out rfl)
                  go_wp2_with fail
                  go_roundw
                  case rel => exact ⟨k + 1, by omega, by go_num, HU.out, Hb3.out⟩
                  case measure => simp [intOf]; omega
          · have HU := Lib.hid (HE2.out.trans (nodes_1 _ _ he))
            have HU2 := Lib.hid ((HR5.out (by rw [HU.out]; exact he)).trans HU.out)
            rw [show chkF (fl.map Prod.fst) = chkF (flOf fl) from rfl]
            generalize chkF (flOf fl) = z at *
            have hz1 : (z != 0) = true := by simpa using he
            clear he
            go_wp2_with fail
            go_ret
            exact ⟨ret_int HU2.out.symm, Hb1.out.trans (Hb2.out.mono Hb1.out.size)⟩
        · obtain rfl : k = m := by omega
          have HE0 : Hid (E = 0) := Lib.hid (by
            rw [HEk.out, List.drop_of_length_le (by rw [List.length_map, ← Hn.out]; exact Nat.le_refl _)]
            cases clock.drop k <;> rfl)
          have HRN := Lib.hid (HR6.out HE0.out)
          clear HE0 HEk HR5 HR6 HE HN3 HN5 HC3
          obtain ⟨NS, hNS⟩ : ∃ NS, NS = net.map msOf := ⟨_, rfl⟩
          have HNS := Lib.hid hNS
          rw [← hNS] at HRN
          clear hNS
          go_wp2_with fail
          go_loopw [71] (fun vi wr => ∃ j : Nat, j ≤ q ∧ vi = .int .i64 (j : Int) ∧ R = chkNet k (NS.drop j) ∧ Below w1.heap.size w1 wr) (fun vi _ => q - (intOf vi).toNat)
          case atStart => exact ⟨0, Nat.zero_le _, rfl, HRN.out, Hb.out⟩
          case round =>
            obtain ⟨j, hj, rfl, hRj, hbj⟩ := hrel
            have HRj := Lib.hid hRj
            have Hbj := Lib.hid hbj
            clear hRj hbj bx0 bx1 bx2
            by_cases hlt2 : j < q
            · have hjn : j < net.length := by rw [← Hq.out]; exact hlt2
              obtain ⟨b, o, rfl, mc0, mc1⟩ := msg_cell ((HT3.out.below Hb1.out).below Hbj.out) hjn
              have HND := Lib.hid ((HT5.out net[j] (List.getElem_mem hjn)).below Hb1.out |>.below Hbj.out)
              have HE2 : Hid (R = chkNet k (msOf net[j] :: NS.drop (j + 1))) := Lib.hid (by
                rw [HRj.out, HNS.out, ← map_drop_cons msOf net hjn])
              generalize net[j] = nd at *
              obtain ⟨t, ⟨A', n', c'⟩, fl⟩ := nd
              simp only [slv] at mc0 mc1
              have HCh := Lib.hid (check_any (slv (A', n', c')) fl wr ((HM.out.below Hb1.out).below Hbj.out) HND.out.2)
              have B2 := Lib.hid (Blk.new wr 54 #[.int .i64 t, .slice A' n' c'])
              have HCh2 : Hid (Calls _ _ _ (wr.alloc (.cells #[.int .i64 t, .slice A' n' c'] 54)) _) := Lib.hid (check_any (slv (A', n', c')) fl _ (((HM.out.below Hb1.out).below Hbj.out).below ((Below.refl _ _).alloc (Nat.le_refl _) _)) (IsFiles.below HND.out.2 ((Below.refl _ _).alloc (Nat.le_refl _) _)))
              have Hb2 := Lib.hid (Hbj.out.alloc Hbj.out.size (.cells #[.int .i64 t, .slice A' n' c'] 54))
              clear HND HCh
              simp only [slv] at HCh2
              go_wp2_with fail
              refine (HCh2.out).mono ?_
              rintro e w2 ⟨rfl, hb2⟩
              have B3 := Lib.hid (B2.out.below hb2 B2.out.lt)
              have Hb3 := Lib.hid (Hb2.out.trans (hb2.mono Hb2.out.size))
              obtain ⟨d0, d1⟩ := And.intro B3.out.c0 B3.out.c1
              clear hb2 HCh2 B2 Hb2
              by_cases he : chkF (flOf fl) = 0
              · rw [show chkF (fl.map Prod.fst) = 0 from he]
                by_cases h1 : t < 0
                · have HU := Lib.hid (HE2.out.trans (net_2 _ (show chkF (msOf (t, (A', n', c'), fl)).files = 0 from he) (.inl h1)))
                  clear he
                  go_wp2_with fail
                  go_ret
                  exact ⟨ret_int HU.out.symm, Hb1.out.trans (Hb3.out.mono Hb1.out.size)⟩
                · by_cases h2 : (k : Int) ≤ t
                  · have HU := Lib.hid (HE2.out.trans (net_2 _ (show chkF (msOf (t, (A', n', c'), fl)).files = 0 from he) (.inr h2)))
                    clear he
                    go_wp2_with fail
                    go_ret
                    exact ⟨ret_int HU.out.symm, Hb1.out.trans (Hb3.out.mono Hb1.out.size)⟩
                  · have HU := Lib.hid (HE2.out.trans (net_3 _ (show chkF (msOf (t, (A', n', c'), fl)).files = 0 from he) (show ¬ (t < 0 ∨ (k : Int) ≤ t) by omega)))
                    clear he
                    go_wp2_with fail
                    go_roundw
                    case rel => exact ⟨j + 1, by omega, by go_num, HU.out, Hb3.out⟩
                    case measure => simp [intOf]; omega
              · have HU := Lib.hid (HE2.out.trans (net_1 _ (show chkF (msOf (t, (A', n', c'), fl)).files ≠ 0 from he)))
                rw [show chkF (fl.map Prod.fst) = chkF (flOf fl) from rfl]
                rw [show chkF (msOf (t, (A', n', c'), fl)).files = chkF (flOf fl) from rfl] at HU
                generalize chkF (flOf fl) = z at *
                have hz1 : (z != 0) = true := by simpa using he
                clear he
                go_wp2_with fail
                go_ret
                exact ⟨ret_int HU.out.symm, Hb1.out.trans (Hb3.out.mono Hb1.out.size)⟩
            · have HU : Hid (R = 0) := Lib.hid (by
                rw [HRj.out, List.drop_of_length_le (by rw [HNS.out, List.length_map, ← Hq.out]; omega)]; rfl)
              go_wp2_with fail
              go_ret
              exact ⟨ret_int HU.out.symm, Hb1.out.trans (Hbj.out.mono Hb1.out.size)⟩
end Go.Proofs.YtdoegpklephelaaGreatDoor.Worlds
