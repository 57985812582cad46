/- the function values of reliquarylaw.WorldLast. -/
import Derived.Test.YtdoegpklephelaaDoorWorldSettle0
namespace Go.Proofs.YtdoegpklephelaaDoor.WorldLast
open Go Go.RowKit Go.Proofs.YtdoegpklephelaaDoor Go.Proofs.YtdoegpklephelaaDoor.Name Go.Proofs.YtdoegpklephelaaDoor.Merge Go.Proofs.YtdoegpklephelaaDoor.Worlds
set_option linter.unusedVariables false

/-- the first of a name is what is found of it -/
theorem idx_lk {l : List Fx} {nm : List UInt8} {g : Fl} (h : lk (flOf l) nm = some g) : ∃ k : Nat, ∃ hk : k < l.length, idxI (fun x : Fx => decide (x.1.name = nm)) l = (k : Int) ∧ l[k].1 = g := by
  rcases idxI_of (fun x : Fx => decide (x.1.name = nm)) l with ⟨k, hk, hi, hp, hpre⟩ | ⟨_, hno⟩
  · refine ⟨k, hk, hi, ?_⟩
    have hfk : l.find? (fun x : Fx => decide (x.1.name = nm)) = some l[k] := by
      rw [List.find?_eq_some_iff_getElem]
      refine ⟨hp, k, hk, rfl, fun j hj => ?_⟩
      have := hpre l[j] (by rw [List.mem_take_iff_getElem]; exact ⟨j, by omega, rfl⟩)
      simp [this]
    unfold lk flOf at h
    rw [List.find?_map] at h
    have e : ((fun f : Fl => decide (f.name = nm)) ∘ Prod.fst : Fx → Bool) = fun x : Fx => decide (x.1.name = nm) := rfl
    rw [e, hfk] at h
    simpa using h
  · have hm := lk_mem h
    unfold flOf at hm
    obtain ⟨y, hy, rfl⟩ := List.mem_map.1 hm
    have := hno y hy
    rw [lk_name h] at this
    simp at this
/-- own rows at or above a base stay when a row below it grows -/
theorem own_apart {w : World} {base size n : Nat} {e : TypeId} {v : Value} {xs : List Value} {row : Option Nat} (h : w.ownsRow base e size v n xs) (hr : ∀ g, row = some g → g < base) : v.ownBlock = none ∨ v.ownBlock ≠ row := by
  cases hv : v.ownBlock with
  | none => exact .inl rfl
  | some b => exact .inr (fun e => by have := (h.lt _ hv).1; have := hr b e.symm; omega)
theorem OwnFs.kept_ {w w' : World} {base : Nat} {v : Value} {l : List Fx} {row : Option Nat} (h : OwnFs w base v l) (hg : w.grownBy w' row) (hr : ∀ g, row = some g → g < base) : OwnFs w' base v l :=
  ⟨h.row.kept hg (own_apart h.row hr), fun x hx => ⟨(h.each x hx).own.kept hg (own_apart (h.each x hx).own hr), (h.each x hx).name, (h.each x hx).stamp, (h.each x hx).node⟩⟩
theorem OwnW.kept_ {w w' : World} {base : Nat} {x : Wx} {row : Option Nat} (h : OwnW w base x) (hg : w.grownBy w' row) (hr : ∀ g, row = some g → g < base) : OwnW w' base x :=
  ⟨h.nodes.kept hg (own_apart h.nodes hr), fun n hn => OwnFs.kept_ (h.node n hn) hg hr, h.clock.kept hg (own_apart h.clock hr), h.clk, h.net.kept hg (own_apart h.net hr), fun m hm => ⟨(h.ms m hm).1, OwnFs.kept_ (h.ms m hm).2 hg hr⟩⟩
/-- one more file -/
theorem OwnFs.snoc {w w' : World} {base : Nat} {v v' : Value} {ps : List Fx} {f : Fx} (h : OwnFs w base v ps) (hf : OwnF w base f) (ho : w'.ownsRow base 33 5 v' (ps.length + 1) (ps.flatMap fC ++ fC f)) (hg : w.grownBy w' v.ownBlock) (hb : base ≤ w.heap.size) : OwnFs w' base v' (ps ++ [f]) := by
  have hk : Keeps base [33] w w' := (Keeps.refl base _ w).grown h.row hg (by simp) hb
  refine ⟨?_, fun x hx => ?_⟩
  · rw [List.length_append, List.flatMap_append]
    simpa using ho
  · rcases List.mem_append.1 hx with hx | hx
    · exact ⟨hk.own (h.each x hx).own (by decide), (h.each x hx).name, (h.each x hx).stamp, (h.each x hx).node⟩
    · simp at hx; subst hx
      exact ⟨hk.own hf.own (by decide), hf.name, hf.stamp, hf.node⟩
set_option maxHeartbeats 400000 in
theorem nm1_any (x : Fx) (nm : List UInt8) (gx : Nat) (w : World) (v0 v1 v2 v4 : Value) (hg : Blk w gx 48 #[v0, v1, v2, .string (strB nm), v4]) :
    Calls Tryd.prog 35 #[fV x, .pointer (some ⟨gx, 0, none⟩)] w fun e w' => e = .returned (.bool (decide (x.1.name = nm))) ∧ Below w.heap.size w w' := by
  obtain ⟨⟨n1, bs, st, nd, gn⟩, A, n, cp⟩ := x
  unfold fV slv
  dsimp only
  have h3 : w.cell? ⟨gx, 3, none⟩ = some (.string (strB nm)) := by rw [hg.cell]; rfl
  have hz := hg.lt
  clear hg
  by_cases hn : n1 = nm
  · subst hn
    go_enter Tryd.func35, Tryd.ntmps35
    go_wp2
    go_ret
    exact ⟨ret_bool (by simp), (Below.refl _ _).alloc (Nat.le_refl _) _⟩
  · have f1 : (n1 == nm) = false := by simp [hn]
    have f2 : decide (n1 = nm) = false := decide_eq_false hn
    rw [f2]
    clear hn f2
    go_enter Tryd.func35, Tryd.ntmps35
    go_wp2
    go_ret
    exact ⟨rfl, (Below.refl _ _).alloc (Nat.le_refl _) _⟩
theorem enm1 : ∀ args w', (callFunc 35 args).run Tryd.prog w' = .ok (.enter 35 args) w' := enters_of Tryd.func35 (by kernel_rfl) rfl
set_option maxHeartbeats 400000 in
theorem nm2_any (x : Fx) (nm : List UInt8) (gx : Nat) (w : World) (v1 v2 v3 v4 : Value) (hg : Blk w gx 33 #[.string (strB nm), v1, v2, v3, v4]) :
    Calls Tryd.prog 37 #[fV x, .pointer (some ⟨gx, 0, none⟩)] w fun e w' => e = .returned (.bool (decide (x.1.name = nm))) ∧ Below w.heap.size w w' := by
  obtain ⟨⟨n1, bs, st, nd, gn⟩, A, n, cp⟩ := x
  unfold fV slv
  dsimp only
  have h3 : w.cell? ⟨gx, 0, none⟩ = some (.string (strB nm)) := by rw [hg.cell]; rfl
  have hz := hg.lt
  clear hg
  by_cases hn : n1 = nm
  · subst hn
    go_enter Tryd.func37, Tryd.ntmps37
    go_wp2
    go_ret
    exact ⟨ret_bool (by simp), (Below.refl _ _).alloc (Nat.le_refl _) _⟩
  · have f1 : (n1 == nm) = false := by simp [hn]
    have f2 : decide (n1 = nm) = false := decide_eq_false hn
    rw [f2]
    clear hn f2
    go_enter Tryd.func37, Tryd.ntmps37
    go_wp2
    go_ret
    exact ⟨rfl, (Below.refl _ _).alloc (Nat.le_refl _) _⟩
theorem enm2 : ∀ args w', (callFunc 37 args).run Tryd.prog w' = .ok (.enter 37 args) w' := enters_of Tryd.func37 (by kernel_rfl) rfl
set_option maxRecDepth 100000 in
set_option maxHeartbeats 1000000 in
/-- what is had is said to be had -/
theorem has_any (A : Option Addr) (n c : Nat) (l : List Fx) (f : Fx) (w : World) (hn : l.length = n) (hx : n ≤ maxLen) (ha : SlAt w A (l.flatMap fC)) (hl : ∀ x ∈ l, FileAt w x) (hf : FileAt w f) (hh : Has (flOf l) f.1) :
    Calls Tryd.prog 36 #[.slice A n c, fV f] w fun e w' => e = .returned (.bool true) ∧ Below w.heap.size w w' := by
  obtain ⟨g0, hlk, hle⟩ := hh
  obtain ⟨k, hk, hidx, hg0⟩ := idx_lk hlk
  rw [← hg0] at hle
  clear hlk hg0
  obtain ⟨b, o, rfl, hc⟩ := slat_elem (size := 5) fC_len (by omega) ha hk
  have HY := Lib.hid (hl l[k] (List.getElem_mem hk))
  have hkn : k < n := by omega
  have HF := Lib.hid hf
  obtain ⟨⟨n1, b1, s1, d1, g1⟩, A1, l1, c1⟩ := f
  obtain ⟨w1, hw1⟩ : ∃ w1, w1 = w.alloc (.cells #[.string (strB n1), .slice A1 l1 c1, .int .i64 s1, .int .i64 d1, .bool g1] 33) := ⟨_, rfl⟩
  obtain ⟨gf, hgf⟩ : ∃ gf, gf = w.heap.size := ⟨_, rfl⟩
  have hb1 : Below w.heap.size w w1 := by rw [hw1]; exact (Below.refl _ _).alloc (Nat.le_refl _) _
  have HB1 := Lib.hid (show Blk w1 gf 33 #[.string (strB n1), .slice A1 l1 c1, .int .i64 s1, .int .i64 d1, .bool g1] by rw [hw1, hgf]; exact Blk.new _ _ _)
  have HI := Lib.hid (indexFunc_files (some ⟨b, o, none⟩) n c l 37 #[.pointer (some ⟨gf, 0, none⟩)] (fun x : Fx => decide (x.1.name = n1)) w1 hn hx (ha.below hb1) enm2
    (fun x hx w' hb => nm2_any x n1 gf w' _ _ _ _ (HB1.out.below hb HB1.out.lt)))
  dsimp only at hidx hle
  rw [hidx] at HI
  have Hle := Lib.hid hle
  obtain ⟨y, hy⟩ : ∃ y, y = l[k] := ⟨_, rfl⟩
  rw [← hy] at hc HY Hle
  clear hy hle hidx hl hf hk ha
  obtain ⟨⟨n2, b2, s2, d2, g2⟩, A2, l2, c2⟩ := y
  have p0 : w.cell? ⟨b, o + k * 5, none⟩ = some (.string (strB n2)) := hc 0 _ rfl
  have p1 : w.cell? ⟨b, o + k * 5 + 1, none⟩ = some (.slice A2 l2 c2) := hc 1 _ rfl
  have p2 : w.cell? ⟨b, o + k * 5 + 2, none⟩ = some (.int .i64 s2) := hc 2 _ rfl
  have p3 : w.cell? ⟨b, o + k * 5 + 3, none⟩ = some (.int .i64 d2) := hc 3 _ rfl
  have p4 : w.cell? ⟨b, o + k * 5 + 4, none⟩ = some (.bool g2) := hc 4 _ rfl
  have Hp0 := Lib.hid (cell_below hb1 p0)
  have Hp1 := Lib.hid (cell_below hb1 p1)
  have Hp2 := Lib.hid (cell_below hb1 p2)
  have Hp3 := Lib.hid (cell_below hb1 p3)
  have Hp4 := Lib.hid (cell_below hb1 p4)
  have Hb1 := Lib.hid hb1
  have Hw1 := Lib.hid hw1.symm
  have Hgf := Lib.hid hgf.symm
  unfold fV slv
  dsimp only
  clear hc p0 p1 p2 p3 p4 hb1 hw1 hgf hn
  go_enter Tryd.func36, Tryd.ntmps36
  go_wp2_with fail
  rw [Hw1.out, Hgf.out]
  refine (HI.out).mono ?_
  rintro e w2 ⟨rfl, hb2⟩
  have Hb2 := Lib.hid (Hb1.out.trans (hb2.mono Hb1.out.size))
  have B2 := HB1.out.below hb2 HB1.out.lt
  have ex0 : w2.cell? ⟨gf, 0, none⟩ = some (.string (strB n1)) := by rw [B2.cell]; rfl
  have ex1 : w2.cell? ⟨gf, 1, none⟩ = some (.slice A1 l1 c1) := by rw [B2.cell]; rfl
  have ex2 : w2.cell? ⟨gf, 2, none⟩ = some (.int .i64 s1) := by rw [B2.cell]; rfl
  have ex3 : w2.cell? ⟨gf, 3, none⟩ = some (.int .i64 d1) := by rw [B2.cell]; rfl
  have ex4 : w2.cell? ⟨gf, 4, none⟩ = some (.bool g1) := by rw [B2.cell]; rfl
  have p0 := fun p : BelowBy w2 => BelowBy.cell ex0 p
  have p1 := fun p : BelowBy w2 => BelowBy.cell ex1 p
  have p2 := fun p : BelowBy w2 => BelowBy.cell ex2 p
  have p3 := fun p : BelowBy w2 => BelowBy.cell ex3 p
  have p4 := fun p : BelowBy w2 => BelowBy.cell ex4 p
  have q0 := fun p : BelowBy w2 => BelowBy.cell (cell_below hb2 Hp0.out) p
  have q1 := fun p : BelowBy w2 => BelowBy.cell (cell_below hb2 Hp1.out) p
  have q2 := fun p : BelowBy w2 => BelowBy.cell (cell_below hb2 Hp2.out) p
  have q3 := fun p : BelowBy w2 => BelowBy.cell (cell_below hb2 Hp3.out) p
  have q4 := fun p : BelowBy w2 => BelowBy.cell (cell_below hb2 Hp4.out) p
  have HF2 := Lib.hid (HF.out.below Hb2.out)
  have HY2 := Lib.hid (HY.out.below Hb2.out)
  have hk0 : (0 : Int) ≤ (k : Int) := by omega
  clear hb2 B2 ex0 ex1 ex2 ex3 ex4 HI
  go_wp2_with fail
  refine wp_region_below (by kernel_rfl) (by kernel_rfl) ?_
  repeat (quiet_step (first | exact belowBy_calls (newer_any (⟨n1, b1, s1, d1, g1⟩, A1, l1, c1) (⟨n2, b2, s2, d2, g2⟩, A2, l2, c2) _ (HF2.out.below (BelowBy.h _)) (HY2.out.below (BelowBy.h _)))))
  refine wpQuiet_nil ?_
  intro w5 hq
  have Hb5 : Hid (Below w.heap.size w w5) := Lib.hid (by obtain ⟨p, hp⟩ := hq; rw [hp]; exact Hb2.out.trans (p.h.mono Hb2.out.size))
  obtain ⟨z, hz⟩ : ∃ z, later (⟨n1, b1, s1, d1, g1⟩ : Fl) ⟨n2, b2, s2, d2, g2⟩ = z := ⟨_, rfl⟩
  try simp only
  rw [hz]
  have hz0 : z ≤ 0 := by rw [← hz]; exact Hle.out
  clear hq p0 p1 p2 p3 p4 q0 q1 q2 q3 q4 hz
  go_wp2_with fail
  go_ret
  exact ⟨ret_bool (decide_eq_true hz0), Hb5.out⟩
end Go.Proofs.YtdoegpklephelaaDoor.WorldLast
