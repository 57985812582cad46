/- reliquarylaw.merged: a closed fact. -/
import Derived.Test.YtdoegpklephelaaDoorFs
namespace Go.Proofs.YtdoegpklephelaaDoor.Merge
open Go Go.RowKit Go.Proofs.YtdoegpklephelaaDoor Go.Proofs.YtdoegpklephelaaDoor.Name
set_option linter.unusedVariables false

theorem map_one {l : List Fx} {f : Fl} (h : l.map Prod.fst = [f]) : ∃ s, l = [(f, s)] := by
  cases l with
  | nil => cases h
  | cons x l =>
    rw [List.map_cons, List.cons.injEq] at h
    obtain ⟨h1, h2⟩ := h
    have := List.map_eq_nil_iff.1 h2
    subst this
    exact ⟨x.2, by rw [← h1]⟩
theorem map_two {l : List Fx} {f g : Fl} (h : l.map Prod.fst = [f, g]) : ∃ s t, l = [(f, s), (g, t)] := by
  cases l with
  | nil => cases h
  | cons x l =>
    rw [List.map_cons, List.cons.injEq] at h
    obtain ⟨h1, h2⟩ := h
    obtain ⟨t, rfl⟩ := map_one h2
    exact ⟨x.2, t, by rw [← h1]⟩
def fA : Fl := ⟨[97], [], 1, 0, false⟩
def fB : Fl := ⟨[98], [], 2, 1, false⟩
def fD : Fl := ⟨[98], [], 2, 2, true⟩
instance : DecidableEq Fl := fun a b => decidable_of_iff (sameF a b = true) (sameF_iff a b)
theorem merged_both : bothR [fA, fB] [fD] = (0, [fA, fD]) := by decide +kernel
theorem merged_shown : shownR [fA, fD] = (0, [fA]) := by decide +kernel
theorem fileAt_none (w : World) (f : Fl) (h : f.bytes = []) (hn : f.name.length ≤ maxLen) (hs : wfI f.stamp) (hd : wfI f.node) : FileAt w (f, none, 0, 0) :=
  ⟨by simp [h], by simp [h], Nat.zero_le _, by rw [h]; exact SlAt.nil, hn, hs, hd⟩
theorem files_blk {w : World} {g : Nat} {l : List Fx} {n : Nat} (h : Blk w g 33 (l.flatMap fC).toArray) (hn : l.length = n) (hx : n ≤ 1000) (hd : ∀ x ∈ l, FileAt w x) : IsFiles w (.slice (some ⟨g, 0, none⟩) n n) l := by
  subst hn
  exact ⟨_, _, rfl, Nat.le_refl _, by unfold maxLen; omega, blk_slat h, by simp, hd⟩
set_option maxRecDepth 100000 in
set_option maxHeartbeats 1600000 in
theorem merged_any (w : World) (hm : ML w) :
    Calls Tryd.prog 13 #[] w fun e w' => e = .returned (.bool true) ∧ Below w.heap.size w w' := by
  have Hm := Lib.hid hm
  clear hm
  obtain ⟨o1, ho1⟩ : ∃ o1 : Obj, o1 = .cells ([((fA, none, 0, 0) : Fx), (fB, none, 0, 0)].flatMap fC).toArray 33 := ⟨_, rfl⟩
  obtain ⟨o2, ho2⟩ : ∃ o2 : Obj, o2 = .cells ([((fD, none, 0, 0) : Fx)].flatMap fC).toArray 33 := ⟨_, rfl⟩
  have B1 : Blk ((w.alloc o1).alloc o2) w.heap.size 33 ([((fA, none, 0, 0) : Fx), (fB, none, 0, 0)].flatMap fC).toArray := by rw [ho1]; exact (Blk.new _ _ _).alloc _
  have B2 : Blk ((w.alloc o1).alloc o2) (w.heap.size + 1) 33 ([((fD, none, 0, 0) : Fx)].flatMap fC).toArray := by
    rw [ho2]
    have := Blk.new (w.alloc o1) 33 ([((fD, none, 0, 0) : Fx)].flatMap fC).toArray
    simpa using this
  have hb2 : Below w.heap.size w ((w.alloc o1).alloc o2) := ((Below.refl _ _).alloc (Nat.le_refl _) _).alloc (by simp) _
  have F1 := Lib.hid (files_blk (n := 2) B1 rfl (by omega) (fun x hx => by
    simp at hx
    rcases hx with rfl | rfl <;> exact fileAt_none _ _ rfl (by decide) rfl rfl))
  have F2 := Lib.hid (files_blk (n := 1) B2 rfl (by omega) (fun x hx => by
    simp at hx
    subst hx
    exact fileAt_none _ _ rfl (by decide) rfl rfl))
  have Hb2 := Lib.hid hb2
  have Ho1 := Lib.hid ho1.symm
  have Ho2 := Lib.hid ho2.symm
  have HB := Lib.hid (both_any _ _ _ _ _ (Hm.out.below hb2) F1.out F2.out)
  clear hb2 ho1 ho2 B1 B2 F1 F2
  go_enter Tryd.func13, Tryd.ntmps13
  go_wp2_with fail
  have e1 := Ho1.out
  have e2 := Ho2.out
  change (Obj.cells #[.string ⟨#[97]⟩, .slice none 0 0, .int .i64 1, .int .i64 0, .bool false, .string ⟨#[98]⟩, .slice none 0 0, .int .i64 2, .int .i64 1, .bool false] 33) = o1 at e1
  change (Obj.cells #[.string ⟨#[98]⟩, .slice none 0 0, .int .i64 2, .int .i64 2, .bool true] 33) = o2 at e2
  rw [e1, e2]
  clear e1 e2
  refine (HB.out).mono ?_
  rintro e w1 ⟨v1, l1, rfl, ho, hl, hb⟩
  have Hb1 := Lib.hid (stepN Hb2.out hb)
  rw [show (([((fA, none, 0, 0) : Fx), (fB, none, 0, 0)] : List Fx).map Prod.fst) = [fA, fB] from rfl, show (([((fD, none, 0, 0) : Fx)] : List Fx).map Prod.fst) = [fD] from rfl, merged_both] at hl ⊢
  obtain ⟨s, t, rfl⟩ := map_two hl
  have Hf := Lib.hid ho.files
  clear ho hl hb HB
  go_wp2_with fail
  refine (shown_any v1 _ _ (Hm.out.below Hb1.out) Hf.out).mono ?_
  rintro e w2 ⟨v2, l2, rfl, ho, hl, hb⟩
  have Hb3 := Lib.hid (stepN Hb1.out hb)
  rw [show (([(fA, s), (fD, t)] : List Fx).map Prod.fst) = [fA, fD] from rfl, merged_shown] at hl ⊢
  obtain ⟨r, rfl⟩ := map_one hl
  have hf2 := ho.files
  have hf1 := Hf.out.below hb
  obtain ⟨A1, c1, rfl, _, _, hs1, _⟩ := hf1
  obtain ⟨A2, c2, rfl, _, _, hs2, _⟩ := hf2
  obtain ⟨b1, q1, rfl, p0, p1, p2, p3, p4⟩ := files_cells hs1 (k := 1) (by simp)
  obtain ⟨b2, q2, rfl, r0, r1, r2, r3, r4⟩ := files_cells hs2 (k := 0) (by simp)
  have p4' : w2.cell? ⟨b1, q1 + 5 + 4, none⟩ = some (.bool true) := p4
  have r0' : w2.cell? ⟨b2, q2, none⟩ = some (.string ⟨#[97]⟩) := r0
  clear p0 p1 p2 p3 p4 r0 r1 r2 r3 r4 hs1 hs2 ho hl hb Hf
  simp only [List.length_cons, List.length_nil]
  go_wp2_with fail
  go_ret
  exact ⟨rfl, Hb3.out⟩
end Go.Proofs.YtdoegpklephelaaDoor.Merge
