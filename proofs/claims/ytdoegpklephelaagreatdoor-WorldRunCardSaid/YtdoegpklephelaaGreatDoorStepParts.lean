/- reliquaryref.StepOf: its parts -/
import Derived.Test.YtdoegpklephelaaGreatDoorRefMix
import Derived.Test.YtdoegpklephelaaGreatDoorWorldTop
import Derived.Test.YtdoegpklephelaaGreatDoorApp
import Derived.Deep.Upon
/- reliquaryref.StepOf: its function values. -/
namespace Go.Proofs.YtdoegpklephelaaGreatDoor.Worlds
open Go Go.RowKit Go.Proofs.YtdoegpklephelaaGreatDoor Go.Proofs.YtdoegpklephelaaGreatDoor.Name Go.Proofs.YtdoegpklephelaaGreatDoor.Merge
set_option linter.unusedVariables false

set_option maxRecDepth 100000 in
set_option maxHeartbeats 1600000 in
/-- fail: no world, and the error -/
theorem stepFail_any (c : Int) (w : World) :
    Calls Tryz.prog 29 #[.int .i64 c] w fun e w' => e = .returned (.tuple #[.agg #[.slice none 0 0, .slice none 0 0, .slice none 0 0], .int .i64 c]) ∧ Below w.heap.size w w' := by
  obtain ⟨g, hg⟩ : ∃ g, g = w.heap.size := ⟨_, rfl⟩
  obtain ⟨w1, hw1⟩ : ∃ w1, w1 = w.alloc (.cells #[.slice none 0 0, .slice none 0 0, .slice none 0 0] 26) := ⟨_, rfl⟩
  have hb1 : Below w.heap.size w w1 := by rw [hw1]; exact (Below.refl _ _).alloc (Nat.le_refl _) _
  have B1 : Blk w1 g 26 #[.slice none 0 0, .slice none 0 0, .slice none 0 0] := by rw [hw1, hg]; exact Blk.new _ _ _
  have hwg : w.heap.size ≤ g := by omega
  have HB2 := Lib.hid B1
  have Hb2 := Lib.hid hb1
  have Hw1 := Lib.hid hw1.symm
  have Hg := Lib.hid hg.symm
  obtain ⟨b0, b1, b2⟩ := blk3 B1
  have f0 := B1.frozen 0
  have f1 := B1.frozen 1
  have f2 := B1.frozen 2
  clear hb1 B1 Hw1 Hg
  subst hw1
  subst hg
  go_enter Tryz.func29, Tryz.ntmps29
  go_wp2_with fail
  refine bodyPost_ret (results_cell_row_tmp rfl _ _ w.heap.size 26 #[.slice none 0 0, .slice none 0 0, .slice none 0 0] (0, 0) _ rfl HB2.out Tryz.underlying26 rfl (by kernel_rfl)) rfl ?_
  exact ⟨rfl, Hb2.out⟩

set_option maxRecDepth 100000 in
set_option maxHeartbeats 1600000 in
/-- node: a number of a node -/
theorem stepNode_any (g nl cn : Nat) (An : Option Addr) (k : Int) (w : World) (h : w.cell? ⟨g, 0, none⟩ = some (.slice An nl cn)) (hn : nl ≤ 1000000) :
    Calls Tryz.prog 30 #[.int .i64 k, .pointer (some ⟨g, 0, none⟩)] w fun e w' => e = .returned (.bool (decide (0 ≤ k ∧ k < (nl : Int)))) ∧ w' = w := by
  go_enter Tryz.func30, Tryz.ntmps30
  by_cases h0 : 0 ≤ k
  · by_cases h1 : k < (nl : Int)
    · have e : decide (0 ≤ k ∧ k < (nl : Int)) = true := decide_eq_true ⟨h0, h1⟩
      rw [e]
      go_wp2_with fail
      go_ret
      exact ⟨rfl, rfl⟩
    · have e : decide (0 ≤ k ∧ k < (nl : Int)) = false := decide_eq_false fun h => h1 h.2
      rw [e]
      go_wp2_with fail
      go_ret
      exact ⟨rfl, rfl⟩
  · have e : decide (0 ≤ k ∧ k < (nl : Int)) = false := decide_eq_false fun h => h0 h.1
    rw [e]
    go_wp2_with fail
    go_ret
    exact ⟨rfl, rfl⟩

set_option maxRecDepth 100000 in
set_option maxHeartbeats 1600000 in
/-- name: the file of the happening's name -/
theorem stepName_any (g : Nat) (x : Fx) (nm : List UInt8) (w : World) (hg : g < w.heap.size) (h : w.cell? ⟨g, 3, none⟩ = some (.string (strB nm))) :
    Calls Tryz.prog 33 #[fV x, .pointer (some ⟨g, 0, none⟩)] w fun e w' => e = .returned (.bool (decide (x.1.name = nm))) ∧ Below w.heap.size w w' := by
  have Hb : Hid (∀ o, Below w.heap.size w (w.alloc o)) := Lib.hid fun o => (Below.refl _ _).alloc (Nat.le_refl _) _
  have Heq := Lib.hid (strB_inj (a := x.1.name) (b := nm))
  obtain ⟨f, A, n, c⟩ := x
  unfold fV slv
  dsimp only at Heq ⊢
  have hq : decide (strB f.name = strB nm) = decide (f.name = nm) := decide_eq_decide.2 ⟨fun h => Heq.out h, fun h => by rw [h]⟩
  go_enter Tryz.func33, Tryz.ntmps33
  go_wp2_with fail
  go_ret
  have e : (f.name == nm) = decide (f.name = nm) := by rw [Bool.eq_iff_iff]; simp
  exact ⟨by first | (rw [← e]; rfl) | (simp; exact e) | simpa using e, Hb.out _⟩
theorem enStep : ∀ args w', (callFunc 33 args).run Tryz.prog w' = .ok (.enter 33 args) w' := enters_of Tryz.func33 (by kernel_rfl) rfl
/-- where the file of the happening's name stands -/
theorem stepFind_any (g n c : Nat) (A : Option Addr) (xs : List Fx) (nm : List UInt8) (w : World) (hn : xs.length = n) (hx : n ≤ maxLen) (ha : SlAt w A (xs.flatMap fC)) (hg : g < w.heap.size) (h : w.cell? ⟨g, 3, none⟩ = some (.string (strB nm))) :
    Calls Tryz.prog 32 #[.slice A n c, .func (.func 33) #[] #[.pointer (some ⟨g, 0, none⟩)]] w fun e w' =>
      e = .returned (.int .i64 (idxI (fun x : Fx => decide (x.1.name = nm)) xs)) ∧ Below w.heap.size w w' :=
  indexFunc_files A n c xs 33 #[.pointer (some ⟨g, 0, none⟩)] (fun x : Fx => decide (x.1.name = nm)) w hn hx ha enStep (fun x hx w' hb => stepName_any g x nm w' (Nat.lt_of_lt_of_le hg hb.size) (cell_below hb h))
theorem find_none {xs : List Fx} {nm : List UInt8} (h : idxI (fun x : Fx => decide (x.1.name = nm)) xs = -1) : hasB (flOf xs) nm = false := by
  rcases idxI_of (fun x : Fx => decide (x.1.name = nm)) xs with ⟨k, hk, e, _⟩ | ⟨_, hall⟩
  · rw [e] at h; omega
  · unfold hasB flOf
    rw [List.any_map, List.any_eq_false]
    intro x hx
    have := hall x hx
    simp only [Function.comp] at *
    simp [this]
theorem find_some {xs : List Fx} {nm : List UInt8} (hs : Srt (flOf xs)) {k : Nat} (hk : k < xs.length) (h1 : xs[k].1.name = nm) : hasB (flOf xs) nm = !xs[k].1.gone := by
  have hu : ∀ x ∈ flOf xs, x.name = nm → x = xs[k].1 := by
    intro x hx hn
    obtain ⟨i, hi, rfl⟩ := List.mem_iff_getElem.1 hx
    have hk' : k < (flOf xs).length := by unfold flOf; rw [List.length_map]; exact hk
    have ek : (flOf xs)[k]'hk' = xs[k].1 := List.getElem_map _
    rcases Nat.lt_trichotomy i k with h | h | h
    · have := List.pairwise_iff_getElem.1 hs i k hi hk' h
      rw [ek, h1, hn, cb_refl] at this; omega
    · subst h; exact ek
    · have := List.pairwise_iff_getElem.1 hs k i hk' hi h
      rw [ek, h1, hn, cb_refl] at this; omega
  have hm : xs[k].1 ∈ flOf xs := by unfold flOf; exact List.mem_map.2 ⟨xs[k], List.getElem_mem hk, rfl⟩
  cases hg : xs[k].1.gone with
  | false =>
    show hasB (flOf xs) nm = true
    unfold hasB
    rw [List.any_eq_true]
    exact ⟨xs[k].1, hm, by simp [h1, hg]⟩
  | true =>
    show hasB (flOf xs) nm = false
    unfold hasB
    rw [List.any_eq_false]
    intro x hx
    by_cases hn : x.name = nm
    · rw [hu x hx hn]; simp [hg]
    · simp [hn]
end Go.Proofs.YtdoegpklephelaaGreatDoor.Worlds

/- reliquaryref.StepOf: its ways, in plain Lean. No program in sight. -/
namespace Go.Proofs.YtdoegpklephelaaGreatDoor.Worlds
open Go Go.RowKit Go.Proofs.YtdoegpklephelaaGreatDoor Go.Proofs.YtdoegpklephelaaGreatDoor.Name Go.Proofs.YtdoegpklephelaaGreatDoor.Merge
set_option linter.unusedVariables false

def badN (n : Nat) (k : Int) : Prop := k < 0 ∨ (n : Int) ≤ k
theorem sR_kind {w : Wd} {x : Hp} (h : x.kind < 1 ∨ 6 < x.kind) : stepR w x = (3, .none_) := by
  unfold stepR
  rw [if_neg (by omega), if_neg (by omega), if_neg (by omega)]
theorem sR_msg {w : Wd} {x : Hp} (h4 : 4 ≤ x.kind) (h6 : x.kind ≤ 6) (h : x.to_ < 0 ∨ (w.net.length : Int) ≤ x.to_) : stepR w x = (5, .none_) := by
  unfold stepR
  rw [if_neg (by omega), if_neg (by omega), if_pos (by omega), if_pos h]
theorem sR_node {w : Wd} {x : Hp} (h1 : 1 ≤ x.kind) (h3 : x.kind ≤ 3) (h : x.node < 0 ∨ (w.nodes.length : Int) ≤ x.node) : stepR w x = (5, .none_) := by
  unfold stepR
  by_cases h2 : x.kind = 3
  · rw [if_neg (by omega), if_pos h2, if_pos (.inl h)]
  · rw [if_pos (by omega), if_pos h]
theorem sR_to {w : Wd} {x : Hp} (h3 : x.kind = 3) (h : x.to_ < 0 ∨ (w.nodes.length : Int) ≤ x.to_) : stepR w x = (5, .none_) := by
  unfold stepR
  rw [if_neg (by omega), if_pos h3, if_pos (.inr h)]
theorem sR_put {w : Wd} {x : Hp} (h1 : x.kind = 1 ∨ x.kind = 2) (h : 0 ≤ x.node) (h' : x.node < (w.nodes.length : Int)) : stepR w x = putR w x := by
  unfold stepR
  rw [if_pos h1, if_neg (by omega)]
theorem sR_send {w : Wd} {x : Hp} (h3 : x.kind = 3) (h : 0 ≤ x.node) (h' : x.node < (w.nodes.length : Int)) (g : 0 ≤ x.to_) (g' : x.to_ < (w.nodes.length : Int)) :
    stepR w x = if w.net.length = 20 then (11, .none_) else (0, ⟨w.nodes, w.clock, w.net ++ [⟨x.to_, w.nodes.getD x.node.toNat []⟩]⟩) := by
  unfold stepR
  rw [if_neg (by omega), if_pos h3, if_neg (by omega)]
theorem sR_arrive {w : Wd} {x : Hp} (h4 : x.kind = 4) (g : 0 ≤ x.to_) (g' : x.to_ < (w.net.length : Int)) : stepR w x = arriveR w x.to_.toNat := by
  unfold stepR
  rw [if_neg (by omega), if_neg (by omega), if_pos (by omega), if_neg (by omega), if_pos h4]
theorem sR_lose {w : Wd} {x : Hp} (h5 : x.kind = 5) (g : 0 ≤ x.to_) (g' : x.to_ < (w.net.length : Int)) : stepR w x = (0, ⟨w.nodes, w.clock, w.net.eraseIdx x.to_.toNat⟩) := by
  unfold stepR
  rw [if_neg (by omega), if_neg (by omega), if_pos (by omega), if_neg (by omega), if_neg (by omega), if_pos h5]
theorem sR_double {w : Wd} {x : Hp} (h6 : x.kind = 6) (g : 0 ≤ x.to_) (g' : x.to_ < (w.net.length : Int)) (hf : w.net.length = 20) : stepR w x = (11, .none_) := by
  unfold stepR
  rw [if_neg (by omega), if_neg (by omega), if_pos (by omega), if_neg (by omega), if_neg (by omega), if_neg (by omega), if_pos hf]
theorem sR_double' {w : Wd} {x : Hp} (h6 : x.kind = 6) (g : 0 ≤ x.to_) (g' : x.to_ < (w.net.length : Int)) (hf : w.net.length ≠ 20) : stepR w x = (0, ⟨w.nodes, w.clock, w.net ++ [msAt w x.to_.toNat]⟩) := by
  unfold stepR
  rw [if_neg (by omega), if_neg (by omega), if_pos (by omega), if_neg (by omega), if_neg (by omega), if_neg (by omega), if_neg hf]
/-- what StepOf gives: a world that lies somewhere, and stays while nothing below b0 turns and no block but of worlds, errors, happenings -/
def RStepPost (b0 : Nat) (r : Int × Wd) (w : World) (e : Ending) (w' : World) : Prop :=
  ∃ y : Wx, e = .returned (.tuple #[wV y, .int .i64 r.1]) ∧ (∀ w'', Keeps b0 T0 w' w'' → IsWorld w'' y) ∧ y.wd = r.2 ∧ Below w.heap.size w w'
theorem RStepPost.fail {w w' : World} {b0 : Nat} (c : Int) (hb : Below w.heap.size w w') : RStepPost b0 (c, .none_) w (.returned (.tuple #[.agg #[.slice none 0 0, .slice none 0 0, .slice none 0 0], .int .i64 c])) w' :=
  ⟨wx0, rfl, fun w'' _ => (OwnW.none_ w'' 0).isWorld, rfl, hb⟩
/-- dropping one of a row -/
theorem drop_one {α : Type} (l : List α) (k : Nat) : l.take k ++ l.drop (k + 1) = l.eraseIdx k := (List.eraseIdx_eq_take_drop_succ l k).symm
end Go.Proofs.YtdoegpklephelaaGreatDoor.Worlds

/- appending one element onto a slice that has no room: a new row. No program in sight. -/
namespace Go.Proofs.YtdoegpklephelaaGreatDoor
open Go Go.RowKit

section
variable {P : Program} (w : World)
theorem run_app_full (t ty e : TypeId) (z : Value) (bytes : Nat) (hT : SliceTy P t e z 1 bytes) (A : Option Addr) (n : Nat) (xs : List Value) (hl : xs.length = n) (hA : SlAt w A xs) (hA0 : A = none → n = 0)
    (b : Addr) (c : Nat) (u : Value) (hu : w.cell? (b.add 0) = some u) (h63 : n + 1 ≤ maxLen) (hbytes : (n + 1) * bytes ≤ 140737488355328) :
    ∃ v' w', (Builtin.append_ #[t, t] ty #[.slice A n (if A = none then 0 else n), .slice (some b) 1 c]).run P w = .ok v' w' ∧ w'.ownsRow w.heap.size e 1 v' (n + 1) (xs ++ [u]) ∧ Below w.heap.size w w' := by
  obtain ⟨ht, i, hi, hz, hsize, hby, hzs, hsz⟩ := hT.parts
  have hnews : ∀ j v, [u][j]? = some v → w.cell? (b.add j) = some v := by
    intro j v hj
    match j with
    | 0 => simp at hj; subst hj; exact hu
    | j + 1 => simp at hj
  have hlen : (xs ++ [u]).length = (n + 1) * 1 := by simp [hl]
  have grown : ∀ (old : Nat), old < n + 1 →
      (w.drew.alloc (.cells (xs.toArray ++ [u].toArray ++ Builtin.zeroCells z.cells (grownCap w (n + 1) old e - (n + 1))) e)).ownsRow w.heap.size e 1
        (.slice (some ⟨w.heap.size, 0, none⟩) (n + 1) (grownCap w (n + 1) old e)) (n + 1) (xs ++ [u]) ∧
      Below w.heap.size w (w.drew.alloc (.cells (xs.toArray ++ [u].toArray ++ Builtin.zeroCells z.cells (grownCap w (n + 1) old e - (n + 1))) e)) := by
    intro old ho
    have hge := grownCap_ge w (n + 1) old e
    have hcm : grownCap w (n + 1) old e ≤ maxLen := grownCap_le_maxLen w (n + 1) old e h63
    refine ⟨⟨hlen, .inr ⟨w.heap.size, _, _, rfl, Nat.le_refl _, heap_alloc_new w.drew _, hge, hcm, ?_, ?_⟩⟩, ⟨rfl, rfl, rfl, by simp, fun k hk => heap_alloc_old w.drew _ hk⟩⟩
    · simp only [Array.size_append, List.size_toArray, size_zeroCells, hzs, hl, List.length_cons, List.length_nil, Nat.mul_one]
      omega
    · simp only [Array.toList_append, List.append_assoc]
      rw [← List.append_assoc, ← hlen]
      exact List.take_left
  have hsm : n + 1 ≤ 9223372036854775807 := by unfold maxLen at h63; omega
  subst hby
  rcases A with _ | a
  · have hn := hA0 rfl
    subst hn
    have hx : xs = [] := List.eq_nil_of_length_eq_zero hl
    subst hx
    have hr := run_append_nil (P := P) w t ty e i z ht hi hz b 1 c [u] (by simp [hsize]) hnews (by omega) (by omega) (by simp at hbytes; omega)
    have hg := grown 0 (by omega)
    simp only [Nat.zero_add, List.nil_append, Array.empty_append] at hg ⊢
    exact ⟨_, _, hr, hg.1, hg.2⟩
  · have holds : ∀ j v, xs[j]? = some v → w.cell? (a.add j) = some v := by
      intro j v hj
      have hlt : 0 < xs.length := by
        rcases Nat.lt_or_ge j xs.length with h | h
        · omega
        · rw [List.getElem?_eq_none h] at hj; cases hj
      obtain ⟨g, o, e, hc⟩ := hA hlt
      injection e with e
      subst e
      have := hc j v hj
      unfold Addr.add
      split
      · subst_vars; exact this
      · exact this
    have hr := run_append_grow (P := P) w t ty e i z ht hi hz a n n xs (by simp [hsize, hl]) holds b 1 c [u] (by simp [hsize]) hnews (by omega) (by omega) (growslice_fits (by omega) hbytes)
    have hg := grown n (by omega)
    rw [if_neg (by simp)]
    exact ⟨_, _, hr, hg.1, hg.2⟩
theorem wpList_app_full {ops : Array Oper} {rest : List Oper} {o : Oper} {a : Act} {Q : Exit → Act → World → Prop} (hgd : o.guard = none) (s x : Operand) (t : TypeId)
    (ho : o.op = .call { callee := .builtin .append, args := #[s, x], argTypes := #[t, t] })
    (e : TypeId) (z : Value) (bytes : Nat) (hT : SliceTy P t e z 1 bytes) (A : Option Addr) (n k : Nat) (xs : List Value) (hs : a.eval s = .slice A n k) (hk : k = if A = none then 0 else n) (hl : xs.length = n) (hA : SlAt w A xs) (hA0 : A = none → n = 0)
    (b : Addr) (c : Nat) (u : Value) (hx : a.eval x = .slice (some b) 1 c) (hu : w.cell? (b.add 0) = some u) (h63 : n + 1 ≤ maxLen) (hbytes : (n + 1) * bytes ≤ 140737488355328)
    (h : ∀ v' w', w'.ownsRow w.heap.size e 1 v' (n + 1) (xs ++ [u]) → Below w.heap.size w w' → wpList P ops Q rest (a.put o.dst v') w') : wpList P ops Q (o :: rest) a w :=
  wpList_plain hgd fun _ hK => by
    subst hk
    obtain ⟨v', w', hrun, h2, h3⟩ := run_app_full (P := P) w t o.type e z bytes hT A n xs hl hA hA0 b c u hu h63 hbytes
    unfold Oper.wp execOp
    simp only [ho, resolve, invoke, builtin, Sem.run_bind, Sem.run_pure, Result.andThen_ok, List.map_toArray, List.map_cons, List.map_nil, hs, hx, hrun]
    exact hK _ _ (h v' w' h2 h3)
end
end Go.Proofs.YtdoegpklephelaaGreatDoor

/- appending a slice to one that has no room: a new row, whatever the elements' size. No program in sight. -/
namespace Go.Proofs.YtdoegpklephelaaGreatDoor
open Go Go.RowKit

section
variable {P : Program} (w : World)
theorem run_app_many (t ty e : TypeId) (z : Value) (sz bytes : Nat) (hT : SliceTy P t e z sz bytes) (a : Addr) (n : Nat) (xs : List Value) (hl : xs.length = n * sz) (hA : ∀ j v, xs[j]? = some v → w.cell? (a.add j) = some v)
    (b : Addr) (m c : Nat) (ys : List Value) (hly : ys.length = m * sz) (hB : ∀ j v, ys[j]? = some v → w.cell? (b.add j) = some v) (h0 : 0 < m) (h63 : n + m ≤ maxLen) (hbytes : (n + m) * bytes ≤ 140737488355328) :
    ∃ v' w', (Builtin.append_ #[t, t] ty #[.slice (some a) n n, .slice (some b) m c]).run P w = .ok v' w' ∧ w'.ownsRow w.heap.size e sz v' (n + m) (xs ++ ys) ∧ Below w.heap.size w w' := by
  obtain ⟨ht, i, hi, hz, hsize, hby, hzs, hsz⟩ := hT.parts
  have hlen : (xs ++ ys).length = (n + m) * sz := by rw [List.length_append, hl, hly, Nat.add_mul]
  have hsm : n + m ≤ 9223372036854775807 := by unfold maxLen at h63; omega
  subst hby
  have hr := run_append_grow (P := P) w t ty e i z ht hi hz a n n xs (by rw [hsize]; exact hl) hA b m c ys (by rw [hsize]; exact hly) hB (by omega) (by omega) (growslice_fits (by omega) hbytes)
  have hge := grownCap_ge w (n + m) n e
  have hcm : grownCap w (n + m) n e ≤ maxLen := grownCap_le_maxLen w (n + m) n e h63
  refine ⟨_, _, hr, ⟨hlen, .inr ⟨w.heap.size, _, _, rfl, Nat.le_refl _, heap_alloc_new w.drew _, hge, hcm, ?_, ?_⟩⟩, ⟨rfl, rfl, rfl, by simp, fun k hk => heap_alloc_old w.drew _ hk⟩⟩
  · simp only [Array.size_append, List.size_toArray, size_zeroCells, hzs, hl, hly]
    rw [← Nat.add_mul, ← Nat.add_mul]
    congr 1
    omega
  · simp only [Array.toList_append, List.append_assoc]
    rw [← List.append_assoc, ← hlen]
    exact List.take_left
theorem run_app_none (t ty e : TypeId) (z : Value) (sz bytes : Nat) (hT : SliceTy P t e z sz bytes) (a : Addr) (n : Nat) (B : Option Addr) (c : Nat) :
    (Builtin.append_ #[t, t] ty #[.slice (some a) n n, .slice B 0 c]).run P w = .ok (.slice (some a) n n) w := by
  obtain ⟨ht, i, hi, hz, hsize, hby, hzs, hsz⟩ := hT.parts
  refine run_append_nothing w t t ty e i ht hi (some a) n n (Nat.le_refl _) _ ?_
  rcases B with _ | b
  · exact Src.ofNil w ht c
  · exact Src.ofSlice w ht b 0 c [] (by simp) (by simp) (by simp)
end
end Go.Proofs.YtdoegpklephelaaGreatDoor

/- reliquaryref.StepOf: what stands. -/
namespace Go.Proofs.YtdoegpklephelaaGreatDoor.Worlds
open Go Go.RowKit Go.Proofs.YtdoegpklephelaaGreatDoor Go.Proofs.YtdoegpklephelaaGreatDoor.Name Go.Proofs.YtdoegpklephelaaGreatDoor.Merge
set_option linter.unusedVariables false
set_option linter.unusedSimpArgs false

/-- what stands while StepOf is walked -/
structure StR (b0 : Nat) (w0 w : World) (g2 : Nat) (y : Wx) (h : Hx) : Prop where
  below : Below w0.heap.size w0 w
  bw : Blk w g2 26 #[y.vn, y.vc, y.vt]
  bx : Blk w (g2 + 1) 29 (hC h).toArray
  br : Blk w (g2 + 2) 26 #[.slice none 0 0, .slice none 0 0, .slice none 0 0]
  own : MixW w w0.heap.size b0 y
theorem StR.step {b0 : Nat} {w0 w w' : World} {g2 : Nat} {y : Wx} {h : Hx} (s : StR b0 w0 w g2 y h) (hb : Below w.heap.size w w') : StR b0 w0 w' g2 y h :=
  ⟨s.below.trans (hb.mono s.below.size), s.bw.below hb s.bw.lt, s.bx.below hb s.bx.lt, s.br.below hb s.br.lt, s.own.below hb⟩
theorem node_cellM {w : World} {base n c g : Nat} {l : List Nx} (h : w.ownsRow base 46 1 (.slice (some ⟨g, 0, none⟩) n c) n (l.flatMap nC)) (hn : l.length = n) {k : Nat} (hk : k < l.length) : w.cell? ⟨g, k, none⟩ = some (slv l[k].1) := own_node h hn hk
/-- what stands when the world is to be given back -/
structure FinR (b0 : Nat) (w0 w : World) (g2 : Nat) (y : Wx) : Prop where
  below : Below w0.heap.size w0 w
  bw : Blk w g2 26 #[y.vn, y.vc, y.vt]
  br : Blk w (g2 + 2) 26 #[.slice none 0 0, .slice none 0 0, .slice none 0 0]
  lie : ∀ w', Keeps b0 T0 w w' → IsWorld w' y
/-- a row of messages turned, all else kept -/
theorem MixW.newNet {w w' : World} {base low : Nat} {x : Wx} (h : MixW w base low x) (hk : Keeps base [54] w w') (v : Value) (net : List Mx) (ho : w'.ownsRow base 54 2 v net.length (net.flatMap mC))
    (hm : ∀ m ∈ net, m ∈ x.net ∨ (wfI m.1 ∧ MixFs w base low (slv m.2.1) m.2.2)) : MixW w' base low { x with vt := v, net := net } :=
  ⟨hk.own h.nodes (by decide), fun n hn => (h.node n hn).keeps hk (by decide) (by decide), hk.own h.clock (by decide), h.clk, ho, fun m hm' => by
    rcases hm m hm' with h1 | h1
    · exact ⟨(h.ms m h1).1, (h.ms m h1).2.keeps hk (by decide) (by decide)⟩
    · exact ⟨h1.1, h1.2.keeps hk (by decide) (by decide)⟩⟩
/-- a row of messages that lies somewhere -/
theorem MixW.cutNet {w w' : World} {base : Nat} {x : Wx} (h : MixW w base base x) (hk : Keeps base T0 w w') (A : Addr) (c : Nat) (net : List Mx) (hc : net.length ≤ c) (hx : c ≤ maxLen) (hs : SlAt w' (some A) (net.flatMap mC)) (hm : ∀ m ∈ net, m ∈ x.net) :
    IsWorld w' { x with vt := .slice (some A) net.length c, net := net } := by
  have h' := h.keeps hk (by decide) (by decide) (by decide) (by decide) (by decide)
  have hw := h'.isWorld
  exact ⟨hw.nodes, hw.clock, ⟨some A, c, rfl, hc, hx, hs, by simp, fun m hm' => ⟨(h'.ms m (hm m hm')).1, (h'.ms m (hm m hm')).2.files⟩⟩⟩
theorem tog_two {W : World} {base low g n1 c1 n2 c2 : Nat} {A1 A2 : Option Addr} {l1 l2 : List Fx} (hrow : SlAt W (some ⟨g, 0, none⟩) [.slice A1 n1 c1, .slice A2 n2 c2]) (h1 : IsFiles W (.slice A1 n1 c1) l1) (h2 : IsFiles W (.slice A2 n2 c2) l2)
    (m1 : ∀ x ∈ l1, MixF W base low x) (m2 : ∀ x ∈ l2, MixF W base low x) (k1 : chkF (flOf l1) = 0) (k2 : chkF (flOf l2) = 0) (hb : base ≤ W.heap.size) :
    Calls Tryz.prog 17 #[.slice (some ⟨g, 0, none⟩) 2 2] W fun e w' => ∃ A n c l', e = .returned (.slice A n c) ∧ n = l'.length ∧ MixFs w' base low (.slice A n c) l' ∧ flOf l' = bothL (flOf l1) (flOf l2) ∧ Below W.heap.size W w' := by
  have e1 := (chkF_ok.1 k1).1
  have e2 := (chkF_ok.1 k2).1
  have hl1 : l1.length ≤ 12 := by unfold flOf at e1; rwa [List.length_map] at e1
  have hl2 : l2.length ≤ 12 := by unfold flOf at e2; rwa [List.length_map] at e2
  have hI : IsL W nC (NodeAt W) (.slice (some ⟨g, 0, none⟩) 2 2) [((A1, n1, c1), l1), ((A2, n2, c2), l2)] :=
    ⟨_, 2, rfl, by simp, by unfold maxLen; omega, by simpa [nC, slv] using hrow, by simp, fun a ha => by
      simp only [List.mem_cons, List.not_mem_nil, or_false] at ha
      rcases ha with rfl | rfl
      · exact h1
      · exact h2⟩
  refine (together_any _ _ W hI (by simp only [totN, List.map_cons, List.map_nil, List.sum_cons, List.sum_nil]; omega)).mono ?_
  rintro e w' ⟨v, l', rfl, ho, hm, hs, hbl⟩
  obtain ⟨A, c, rfl, _⟩ := own_slat ho
  refine ⟨A, _, c, l', rfl, rfl, ⟨own_base ho hb, fun x hx => ?_⟩, ?_, hbl⟩
  · obtain ⟨nd, hn, hxn⟩ := hm x hx
    simp only [List.mem_cons, List.not_mem_nil, or_false] at hn
    rcases hn with rfl | rfl
    · exact (m1 x hxn).below hbl
    · exact (m2 x hxn).below hbl
  · have := hs (fun nd hn => by
      simp only [List.mem_cons, List.not_mem_nil, or_false] at hn
      rcases hn with rfl | rfl
      · exact srt_of k1
      · exact srt_of k2)
    unfold flOf at this ⊢
    rw [this]
    simp [allB, both_nil]
theorem addr_add0 (g j : Nat) : Addr.add ⟨g, 0, none⟩ j = ⟨g, j, none⟩ := by
  unfold Addr.add
  by_cases h : j = 0 <;> simp [h]
theorem addr_add0' (g o j : Nat) : Addr.add ⟨g, o, none⟩ j = ⟨g, o + j, none⟩ := by
  unfold Addr.add
  by_cases h : j = 0 <;> simp [h]
/-- cutting one out of a row: append(w[:k:k], w[k+1:]...), as one step of a region that draws -/
theorem step_cut {P : Program} {ops : Array Oper} {o : Oper} {a : Act} {w : World} {K : Act → World → Prop} {Q : Exit → Act → World → Prop} {E : Prop} (hgd : o.guard = none) (s x : Operand) (t : TypeId)
    (hop : o.op = .call { callee := .builtin .append, args := #[s, x], argTypes := #[t, t] })
    (e : TypeId) (z : Value) (sz bytes : Nat) (hT : SliceTy P t e z sz bytes) (g n m c : Nat) (D : Addr) (cs : Array Value) (hblk : Blk w g e cs) (xs ys : List Value)
    (hs : a.eval s = .slice (some ⟨g, 0, none⟩) n n) (hl : xs.length = n * sz) (hA : ∀ j v, xs[j]? = some v → w.cell? ⟨g, j, none⟩ = some v)
    (hx : a.eval x = .slice (some D) m c) (hly : ys.length = m * sz) (hB : ∀ j v, ys[j]? = some v → w.cell? (D.add j) = some v) (h63 : n + m ≤ maxLen) (hbytes : (n + m) * bytes ≤ 140737488355328)
    (hK : ∀ A' c' w', n + m ≤ c' → c' ≤ maxLen → Below w.heap.size w w' → (∀ (T : List TypeId) (B : Nat) w'', Keeps B T w' w'' → e ∉ T → SlAt w'' (some A') (xs ++ ys)) → K (a.put o.dst (.slice (some A') (n + m) c')) w') :
    if Region.wanted o (yielded ops a.tmps) = true then Oper.wp P o a w K Q else E := by
  have hw : Region.wanted o (yielded ops a.tmps) = true := by simp [Region.wanted, hgd]
  rw [if_pos hw]
  have hrun : ∃ A' c' w', (Builtin.append_ #[t, t] o.type #[.slice (some ⟨g, 0, none⟩) n n, .slice (some D) m c]).run P w = .ok (.slice (some A') (n + m) c') w' ∧ n + m ≤ c' ∧ c' ≤ maxLen ∧ Below w.heap.size w w' ∧ (∀ (T : List TypeId) (B : Nat) w'', Keeps B T w' w'' → e ∉ T → SlAt w'' (some A') (xs ++ ys)) := by
    rcases Nat.eq_zero_or_pos m with h0 | h0
    · subst h0
      have hy : ys = [] := List.eq_nil_of_length_eq_zero (by simpa using hly)
      subst hy
      refine ⟨⟨g, 0, none⟩, n, w, run_app_none w t o.type e z sz bytes hT ⟨g, 0, none⟩ n (some D) c, Nat.le_refl _, by omega, Below.refl _ _, fun T B w'' hk hT' hp => ⟨g, 0, rfl, fun j v hj => ?_⟩⟩
      rw [List.append_nil] at hj
      have h1 := hA j v hj
      rw [Nat.zero_add, (hk.blk hblk hT').cell, ← hblk.cell]
      exact h1
    · obtain ⟨v', w', hr, ho, hb⟩ := run_app_many w t o.type e z sz bytes hT ⟨g, 0, none⟩ n xs hl (fun j v hj => by have := hA j v hj; rw [addr_add0]; exact this) D m c ys hly hB h0 h63 hbytes
      obtain ⟨g', c', rfl, h1, h2, h3, _⟩ := own_at ho (by omega)
      exact ⟨⟨g', 0, none⟩, c', w', hr, h2, h3, hb, fun T B w'' hk hT' => own_sl (hk.own ho hT')⟩
  obtain ⟨A', c', w', hr, h1, h2, h3, h4⟩ := hrun
  unfold Oper.wp
  simp [execOp, hop, resolve, invoke, builtin, hs, hx, hr, Result.andThen]
  exact hK A' c' w' h1 h2 h3 h4
theorem own_cells {w : World} {base g n c sz : Nat} {e : TypeId} {xs : List Value} (h : w.ownsRow base e sz (.slice (some ⟨g, 0, none⟩) n c) n xs) : ∀ (j : Nat) v, xs[j]? = some v → w.cell? ⟨g, j, none⟩ = some v := by
  intro j v hj
  have hp : 0 < xs.length := by have := (List.getElem?_eq_some_iff.1 hj).1; omega
  obtain ⟨b, o, e1, hc⟩ := own_sl h hp
  injection e1 with e1
  injection e1 with e2 e3
  subst e2 e3
  have := hc j v hj
  rwa [Nat.zero_add] at this
theorem slat_cells {w : World} {g : Nat} {xs : List Value} (h : SlAt w (some ⟨g, 0, none⟩) xs) : ∀ (j : Nat) v, xs[j]? = some v → w.cell? ⟨g, j, none⟩ = some v := by
  intro j v hj
  obtain ⟨b, o, e1, hc⟩ := h (by have := (List.getElem?_eq_some_iff.1 hj).1; omega)
  injection e1 with e1
  injection e1 with e2 e3
  subst e2 e3
  have := hc j v hj
  rwa [Nat.zero_add] at this
theorem cut_one (l : List Mx) (k : Nat) (j : Nat) (v : Value) (h : ((l.take k).flatMap mC)[j]? = some v) : (l.flatMap mC)[j]? = some v := by
  have e : l.flatMap mC = (l.take k).flatMap mC ++ (l.drop k).flatMap mC := by rw [← List.flatMap_append, List.take_append_drop]
  rw [e, List.getElem?_append_left (List.getElem?_eq_some_iff.1 h).1]
  exact h
theorem cut_two (l : List Mx) (k : Nat) (hk : k ≤ l.length) (j : Nat) (v : Value) (h : ((l.drop k).flatMap mC)[j]? = some v) : (l.flatMap mC)[k * 2 + j]? = some v := by
  have e : l.flatMap mC = (l.take k).flatMap mC ++ (l.drop k).flatMap mC := by rw [← List.flatMap_append, List.take_append_drop]
  have hl : ((l.take k).flatMap mC).length = k * 2 := by rw [mCs_len, List.length_take]; omega
  rw [e, List.getElem?_append_right (by omega), hl]
  simpa using h
/-- appending onto an own row: what stood in the old block stands there still -/
theorem run_app_old {P : Program} (w : World) (base : Nat) (t ty e : TypeId) (z : Value) (size bytes : Nat) (hT : SliceTy P t e z size bytes) (g n cap : Nat) (xs : List Value) (hown : w.ownsRow base e size (.slice (some ⟨g, 0, none⟩) n cap) n xs)
    (b : Addr) (m c : Nat) (news : List Value) (hl : news.length = m * size) (hB : ∀ j u, news[j]? = some u → w.cell? (b.add j) = some u) (h1 : ∀ u ∈ news, u.oneCell' = true) (h63 : n + m ≤ maxLen) (hbytes : (n + m) * bytes ≤ 140737488355328) (hbase : base ≤ w.heap.size) :
    ∃ v' w', (Builtin.append_ #[t, t] ty #[.slice (some ⟨g, 0, none⟩) n cap, .slice (some b) m c]).run P w = .ok v' w' ∧ w'.ownsRow base e size v' (n + m) (xs ++ news) ∧ w.grownBy w' (some g) ∧ (∀ (j : Nat) v, xs[j]? = some v → w'.cell? ⟨g, j, none⟩ = some v) := by
  obtain ⟨ht, i, hi, hz, hsize, hby, hzs, hsz⟩ := hT.parts
  rcases Nat.lt_or_ge cap (n + m) with hr | hr
  · have hlen : (xs ++ news).length = (n + m) * size := by rw [List.length_append, hown.1, hl, Nat.add_mul]
    have hsm : n + m ≤ 9223372036854775807 := by unfold maxLen at h63; omega
    subst hby
    have hrun := run_append_grow (P := P) w t ty e i z ht hi hz ⟨g, 0, none⟩ n cap xs (by rw [hsize]; exact hown.1) (fun j v hj => by rw [addr_add0]; exact own_cells hown j v hj) b m c news (by rw [hsize]; exact hl) hB hr (by omega) (growslice_fits hr hbytes)
    have hge := grownCap_ge w (n + m) cap e
    have hcm : grownCap w (n + m) cap e ≤ maxLen := grownCap_le_maxLen w (n + m) cap e h63
    have hg : g < w.heap.size := by
      rcases hown.2 with ⟨h', _⟩ | ⟨g', cap', cur, h', _, hg, _⟩
      · cases h'
      · injection h' with h'
        injection h' with h'
        injection h' with h'
        subst h'
        exact (Array.getElem?_eq_some_iff.1 hg).1
    refine ⟨_, _, hrun, ⟨hlen, .inr ⟨w.heap.size, _, _, rfl, hbase, heap_alloc_new w.drew _, hge, hcm, ?_, ?_⟩⟩, ⟨rfl, rfl, rfl, by simp, fun k hk _ => heap_alloc_old w.drew _ hk⟩, fun j v hj => ?_⟩
    · simp only [Array.size_append, List.size_toArray, size_zeroCells, hzs, hown.1, hl]
      rw [← Nat.add_mul, ← Nat.add_mul]
      congr 1
      omega
    · simp only [Array.toList_append, List.append_assoc]
      rw [← List.append_assoc, ← hlen]
      exact List.take_left
    · exact cell_below ((Below.refl w.heap.size w).drew.alloc (Nat.le_refl _) _) (own_cells hown j v hj)
  · obtain ⟨w', h2, h3, h4⟩ := run_append_fits (P := P) w base t ty e i size ht hi hsize g n cap xs hown b m c news hl hB h1 hr
    exact ⟨_, w', h2, h3, h4, fun j v hj => own_cells h3 j v (by rw [List.getElem?_append_left (List.getElem?_eq_some_iff.1 hj).1]; exact hj)⟩
theorem step_old {P : Program} {ops : Array Oper} {o : Oper} {a : Act} {w : World} {K : Act → World → Prop} {Q : Exit → Act → World → Prop} {E : Prop} (hgd : o.guard = none) (s x : Operand) (t : TypeId)
    (hop : o.op = .call { callee := .builtin .append, args := #[s, x], argTypes := #[t, t] })
    (base : Nat) (e : TypeId) (z : Value) (size bytes : Nat) (hT : SliceTy P t e z size bytes) (g n cap : Nat) (xs : List Value) (hs : a.eval s = .slice (some ⟨g, 0, none⟩) n cap) (hown : w.ownsRow base e size (.slice (some ⟨g, 0, none⟩) n cap) n xs)
    (b m c : Nat) (news : List Value) (hx : a.eval x = .slice (some ⟨b, 0, none⟩) m c) (hl : news.length = m * size) (hB : ∀ j u, news[j]? = some u → w.cell? ⟨b, j, none⟩ = some u) (h1 : ∀ u ∈ news, u.oneCell' = true)
    (h63 : n + m ≤ maxLen) (hbytes : (n + m) * bytes ≤ 140737488355328) (hbase : base ≤ w.heap.size)
    (hK : ∀ v' w', w'.ownsRow base e size v' (n + m) (xs ++ news) → w.grownBy w' (some g) → (∀ (j : Nat) v, xs[j]? = some v → w'.cell? ⟨g, j, none⟩ = some v) → K (a.put o.dst v') w') :
    if Region.wanted o (yielded ops a.tmps) = true then Oper.wp P o a w K Q else E := by
  have hw : Region.wanted o (yielded ops a.tmps) = true := by simp [Region.wanted, hgd]
  rw [if_pos hw]
  obtain ⟨v', w', hrun, h2, h3, h4⟩ := run_app_old (P := P) w base t o.type e z size bytes hT g n cap xs hown ⟨b, 0, none⟩ m c news hl (fun j u hj => by rw [addr_add0]; exact hB j u hj) h1 h63 hbytes hbase
  unfold Oper.wp
  simp [execOp, hop, resolve, invoke, builtin, hs, hx, hrun, Result.andThen]
  exact hK v' w' h2 h3 h4
theorem msg_in (l : List Mx) {k : Nat} (hk : k < l.length) : (l.flatMap mC)[k * 2]? = some (.int .i64 l[k].1) ∧ (l.flatMap mC)[k * 2 + 1]? = some (slv l[k].2.1) := by
  have e : l.flatMap mC = (l.take k).flatMap mC ++ (mC l[k] ++ (l.drop (k + 1)).flatMap mC) := by
    rw [← List.flatMap_cons, ← List.flatMap_append, ← List.drop_eq_getElem_cons hk, List.take_append_drop]
  have hl : ((l.take k).flatMap mC).length = k * 2 := by rw [mCs_len, List.length_take]; omega
  rw [e]
  refine ⟨?_, ?_⟩
  · rw [List.getElem?_append_right (by omega), hl, Nat.sub_self]
    rfl
  · rw [List.getElem?_append_right (by omega), hl, show k * 2 + 1 - k * 2 = 1 by omega]
    rfl
end Go.Proofs.YtdoegpklephelaaGreatDoor.Worlds
