/- reliquaryref.SameFiles; package merge: Put. -/
import Derived.Test.YtdoegpklephelaaDoorEqualFuncF
import Derived.Test.YtdoegpklephelaaDoorMergeBoth
namespace Go.Proofs.YtdoegpklephelaaDoor.Merge
open Go Go.RowKit Go.Proofs.YtdoegpklephelaaDoor Go.Proofs.YtdoegpklephelaaDoor.Name
set_option linter.unusedVariables false

/-- the same files -/
def sameFs (a b : List Fx) : Bool := eqF (fun x y => sameF x.1 y.1) a b
theorem sameFs_iff (a b : List Fx) : sameFs a b = true ↔ a.map Prod.fst = b.map Prod.fst := eqF_map (fun x y => sameF_iff x.1 y.1) a b
theorem IsFiles.le {w : World} {v : Value} {l : List Fx} (h : IsFiles w v l) : l.length ≤ maxLen := by obtain ⟨A, c, _, h1, h2, _⟩ := h; omega
theorem eg45 : ∀ args w', (callFunc 45 args).run Tryd.prog w' = .ok (.enter 45 args) w' := enters_of Tryd.func45 (by kernel_rfl) rfl
set_option maxHeartbeats 400000 in
theorem sameFiles_any (v1 v2 : Value) (a b : List Fx) (w : World) (h1 : IsFiles w v1 a) (h2 : IsFiles w v2 b) :
    Calls Tryd.prog 14 #[v1, v2] w fun e w' => e = .returned (.bool (sameFs a b)) ∧ Below w.heap.size w w' := by
  obtain ⟨A, ca, rfl, a1, a2, a3, a4, a5⟩ := h1
  obtain ⟨B, cb, rfl, b1, b2, b3, b4, b5⟩ := h2
  have HC := Lib.hid (equalFunc_files A B a.length b.length ca cb a b 45 #[] (fun x y => sameF x.1 y.1) w rfl rfl (by omega) (by omega) a3 b3 eg45 (fun x hx y hy w' hb => sameFile_any x y w' ((a5 x hx).below hb) ((b5 y hy).below hb)))
  obtain ⟨n, hn⟩ : ∃ n, n = a.length := ⟨_, rfl⟩
  obtain ⟨m, hm⟩ : ∃ m, m = b.length := ⟨_, rfl⟩
  rw [← hn, ← hm] at HC ⊢
  clear a1 a2 a3 a4 a5 b1 b2 b3 b4 b5 hn hm
  go_enter Tryd.func14, Tryd.ntmps14
  go_wp2_with fail
  refine (HC.out).mono ?_
  rintro e w1 ⟨rfl, hb⟩
  have Hb := Lib.hid hb
  clear hb HC
  go_wp2_with fail
  go_ret
  exact ⟨rfl, Hb.out⟩
set_option maxRecDepth 100000 in
set_option maxHeartbeats 800000 in
theorem put_any (v : Value) (a : List Fx) (x : Fx) (w : World) (hm : ML w) (h1 : IsFiles w v a) (h2 : FileAt w x) :
    Calls Tryd.prog 23 #[v, fV x] w (BothPost (a.map Prod.fst) [x.1] w) := by
  obtain ⟨w2, hw2⟩ : ∃ w2, w2 = (w.alloc (.cells (fC x).toArray 33)).alloc (.cells (fC x).toArray 33) := ⟨_, rfl⟩
  have hb2 : Below w.heap.size w w2 := by rw [hw2]; exact ((Below.refl _ _).alloc (Nat.le_refl _) _).alloc (by simp) _
  have hs : SlAt w2 (some ⟨w.heap.size + 1, 0, none⟩) ([x].flatMap fC) := by
    rw [hw2]
    have := heap_alloc_new (w.alloc (.cells (fC x).toArray 33)) (.cells (fC x).toArray 33)
    rw [show (w.alloc (.cells (fC x).toArray 33)).heap.size = w.heap.size + 1 by simp] at this
    exact SlAt.of_heap this (by simp)
  have hf : IsFiles w2 (.slice (some ⟨w.heap.size + 1, 0, none⟩) 1 1) [x] := ⟨_, 1, rfl, Nat.le_refl _, by unfold maxLen; omega, hs, by simp, fun y hy => by rw [List.mem_singleton.1 hy]; exact h2.below hb2⟩
  have HC := Lib.hid (both_any v _ a [x] w2 (hm.below hb2) (h1.below hb2) hf)
  have Hb2 := Lib.hid hb2
  have Hw2 := Lib.hid hw2.symm
  obtain ⟨A, ca, rfl, _⟩ := h1
  clear hb2 hw2 hs hf h2 hm
  obtain ⟨n, hn⟩ : ∃ n, n = a.length := ⟨_, rfl⟩
  rw [← hn] at HC ⊢
  clear hn
  obtain ⟨⟨n1, b1, s1, d1, g1⟩, A3, l3, c3⟩ := x
  unfold fV slv
  dsimp only
  go_enter Tryd.func23, Tryd.ntmps23
  go_wp2_with fail
  have hw2 := Hw2.out
  simp only [fC, slv] at hw2
  rw [hw2]
  clear hw2
  refine (HC.out).mono ?_
  rintro e w1 ⟨v1, l', rfl, ho, he, hb⟩
  have Ho := Lib.hid (ho.base_ Hb2.out.size)
  have He := Lib.hid he
  have Hb := Lib.hid (stepN Hb2.out hb)
  clear ho he hb HC
  unfold BothPost
  generalize hz : bothR (a.map Prod.fst) [(⟨n1, b1, s1, d1, g1⟩ : Fl)] = R at *
  have He2 : Hid (l'.map Prod.fst = R.2) := Lib.hid (by rw [← hz]; exact He.out)
  rw [show bothR (a.map Prod.fst) (([((⟨n1, b1, s1, d1, g1⟩ : Fl), ((A3, l3, c3) : Sl3))] : List Fx).map Prod.fst) = R from hz]
  have HZ := Lib.hid hz
  clear hz He
  go_wp2_with fail
  go_ret2
  exact ⟨_, l', by rw [HZ.out]; rfl, Ho.out, by rw [HZ.out]; exact He2.out, Hb.out⟩
end Go.Proofs.YtdoegpklephelaaDoor.Merge
