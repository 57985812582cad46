/- slices.Clone[[]string,string]. -/
import Derived.Test.YtdponlnfdjfljaaDoorApp
import Derived.Test.YtdponlnfdjfljaaDoorProg
import Derived.WalkSpells
import Derived.Lib.SliceRun
namespace Go.Proofs.YtdponlnfdjfljaaDoor.CloneS
open Go Go.RowKit Go.Proofs.YtdponlnfdjfljaaDoor
set_option linter.unusedVariables false

theorem ty : SliceTy Tryd.prog 31 9 (.string ByteArray.empty) 1 16 := ⟨Tryd.underlying31, by kernel_rfl, rfl, by omega⟩
set_option maxRecDepth 100000 in
set_option maxHeartbeats 400000 in
/-- a copy, in memory of its own -/
theorem clone_any (A : Option Addr) (n c : Nat) (cs : List Value) (w : World) (hl : cs.length = n * 1) (hA : SlAt w A cs) (h0 : A = none → n = 0) (h1 : ∀ u ∈ cs, u.oneCell' = true) (hn : n ≤ maxLen) (hb : n * 16 ≤ 140737488355328) :
    Calls Tryd.prog 13 #[.slice A n c] w fun e w' => ∃ v, e = .returned v ∧ w'.ownsRow w.heap.size 9 1 v n cs ∧ Below w.heap.size w w' := by
  have hq := fun (w : World) (a : Option Addr) (l c : Nat) => Lib.run_eql_slice_nil (P := Tryd.prog) w 31 9 a l c 0 0 Tryd.underlying31
  rcases A with _ | ad
  · obtain rfl := h0 rfl
    have hcs : cs = [] := List.eq_nil_of_length_eq_zero (by omega)
    subst hcs
    clear hA h0 h1 hl hn hb
    go_enter Tryd.func13, Tryd.ntmps13
    go_wp2_with fail
    go_ret
    exact ⟨_, rfl, World.ownsRow_nil _ _ _ _, Below.refl _ _⟩
  · have Hown : Hid ((w.alloc (.cells #[] 9)).ownsRow w.heap.size 9 1 (.slice (some ⟨w.heap.size, 0, none⟩) 0 0) 0 []) := Lib.hid (own_zero _ _ _ _ w.heap.size 0 #[] (Nat.le_refl _) (heap_alloc_new w _) (by unfold maxLen; omega) (by simp))
    have Hsl := Lib.hid (hA.alloc (.cells #[] 9))
    have Hb := Lib.hid ((Below.refl w.heap.size w).alloc (Nat.le_refl _) (.cells #[] 9))
    have Hl := Lib.hid hl
    have H1 := Lib.hid h1
    have Hn : Hid (0 + n ≤ maxLen) := Lib.hid (by omega)
    have Hy : Hid ((0 + n) * 16 ≤ 140737488355328) := Lib.hid (by omega)
    clear hA h0 h1 hl hn hb
    go_enter Tryd.func13, Tryd.ntmps13
    go_wp2_with (at_builtin; refine wpList_app _ rfl (.tmp 5) (.tmp 6) _ rfl w.heap.size 9 _ 1 16 ty _ 0 [] rfl Hown.out (some ad) n c cs rfl Hl.out Hsl.out H1.out (by simp) Hn.out Hy.out Hb.out.size ?_; intro v2 w2 hown2 hg2 _; rw [List.nil_append, Nat.zero_add] at hown2; have Ho2 := Lib.hid hown2; have Hb2 := Lib.hid (own_below Hown.out hg2 Hb.out Hb.out.size); clear hown2 hg2)
    go_ret
    exact ⟨_, rfl, Ho2.out, Hb2.out⟩
end Go.Proofs.YtdponlnfdjfljaaDoor.CloneS
