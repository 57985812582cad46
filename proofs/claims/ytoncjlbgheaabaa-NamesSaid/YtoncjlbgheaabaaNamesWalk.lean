/- reliquarylaw.Names: the walk. -/
import Derived.Test.YtoncjlbgheaabaaEqual
namespace Go.Proofs.Ytoncjlbgheaabaa.Names
open Go Go.RowKit Go.Proofs.Ytoncjlbgheaabaa
set_option linter.unusedVariables false

def lim : List Int := [3000, 6000, 15, 288, 3, 258, 3000, 40, 12, 12000, 4, 1000000, 40, 20]
def knd : List Int := [0, 1, 2, 1, 2, 3, 4, 5, 6]
theorem InAt_new (w : World) (t : TypeId) (cs : Array Value) {xs : List Int} (e : cs.toList = xs.map iv) : InAt (w.alloc (.cells cs t)) (some ⟨w.heap.size, 0, none⟩) xs := SlAt.of_heap (heap_alloc_new w _) e
theorem at_one (W : World) (o : Obj) (t : TypeId) (cs : Array Value) {xs : List Int} (e : cs.toList = xs.map iv) : InAt ((W.alloc o).alloc (.cells cs t)) (some ⟨W.heap.size + 1, 0, none⟩) xs := by
  have h := InAt_new (W.alloc o) t cs e
  simpa only [World.size_alloc] using h
theorem at_two (W : World) (o o2 : Obj) (t : TypeId) (cs : Array Value) {xs : List Int} (e : cs.toList = xs.map iv) : InAt (((W.alloc o).alloc o2).alloc (.cells cs t)) (some ⟨W.heap.size + 1 + 1, 0, none⟩) xs := by
  have h := InAt_new ((W.alloc o).alloc o2) t cs e
  simpa only [World.size_alloc] using h
theorem at_three (W : World) (o o2 o3 : Obj) (d : Nat) (t : TypeId) (cs : Array Value) {xs : List Int} (e : cs.toList = xs.map iv) : InAt (((((W.alloc o).alloc o2).alloc o3).drewN d).alloc (.cells cs t)) (some ⟨W.heap.size + 1 + 1 + 1, 0, none⟩) xs := by
  have h := InAt_new ((((W.alloc o).alloc o2).alloc o3).drewN d) t cs e
  have e2 : ((((W.alloc o).alloc o2).alloc o3).drewN d).heap.size = W.heap.size + 1 + 1 + 1 := by simp
  rw [e2] at h
  exact h
theorem walk (w : World) :
    Calls Try.prog 3 #[] w fun e w' => e = .returned (.bool true) ∧ Below w.heap.size w w' := by
  go_enter Try.func3, Try.ntmps3
  go_wp2_with fail
  have hN : InAt (w.alloc (.cells #[.int .i64 0, .int .i64 1, .int .i64 2, .int .i64 3, .int .i64 4, .int .i64 5, .int .i64 6, .int .i64 7, .int .i64 8, .int .i64 9, .int .i64 10, .int .i64 11] 22)) (some ⟨w.heap.size, 0, none⟩) [0, 1, 2, 3, 4, 5, 6, 7, 8, 9, 10, 11] := InAt_new w _ _ rfl
  have hB : Below w.heap.size w (w.alloc (.cells #[.int .i64 0, .int .i64 1, .int .i64 2, .int .i64 3, .int .i64 4, .int .i64 5, .int .i64 6, .int .i64 7, .int .i64 8, .int .i64 9, .int .i64 10, .int .i64 11] 22)) := (Below.refl _ _).alloc (Nat.le_refl _) _
  generalize (w.alloc (.cells #[.int .i64 0, .int .i64 1, .int .i64 2, .int .i64 3, .int .i64 4, .int .i64 5, .int .i64 6, .int .i64 7, .int .i64 8, .int .i64 9, .int .i64 10, .int .i64 11] 22)) = W at *
  have hgW := hB.size
  have HN := Lib.hid hN
  have HB := Lib.hid hB
  clear hN hB
  generalize hg0 : w.heap.size = g at *
  have Hg := Lib.hid hg0
  clear hg0
  go_loop [9] (fun i => ∃ k : Nat, k ≤ 12 ∧ i = .int .i64 k) (fun i => 12 - (intOf i).toNat)
  case atStart => exact ⟨0, by omega, rfl⟩
  case round =>
    obtain ⟨k, hk, rfl⟩ := hrel
    by_cases hlt : k < 12
    · obtain ⟨b, o, hb, hc⟩ := HN.out.get (k := k) hlt
      injection hb with hb; injection hb with h1 h2 h3
      subst h1 h2
      have hx : ([0, 1, 2, 3, 4, 5, 6, 7, 8, 9, 10, 11] : List Int)[k]'hlt = (k : Int) := by
        have : ∀ j : Fin 12, ([0, 1, 2, 3, 4, 5, 6, 7, 8, 9, 10, 11] : List Int)[j.val]'j.isLt = (j.val : Int) := by decide
        exact this ⟨k, hlt⟩
      rw [hx] at hc
      simp only [Nat.zero_add] at hc
      have hne : ((k : Int) != (k : Int)) = false := by simp
      clear hx
      go_wp2_with fail
      go_round
      case rel => exact ⟨k + 1, by omega, by go_num⟩
      case measure => simp [intOf]; omega
    · go_wp2_with fail
      refine (equal_ints _ _ 14 14 14 14 lim lim _ rfl rfl (by unfold maxLen; omega) (by unfold maxLen; omega) (SlAt.alloc (SlAt.alloc (InAt_new _ _ _ rfl) _) _) (at_two _ _ _ _ _ rfl)).mono ?_
      rintro e w1 ⟨rfl, d1, rfl⟩
      have hd1 : decide (lim = lim) = true := by simp
      go_wp2_with fail
      refine (equal_ints _ _ 9 9 9 9 knd knd _ rfl rfl (by unfold maxLen; omega) (by unfold maxLen; omega) (SlAt.alloc (SlAt.drewN (SlAt.alloc (at_one _ _ _ _ rfl) _) _) _) (at_three _ _ _ _ _ _ _ rfl)).mono ?_
      rintro e w2 ⟨rfl, d2, rfl⟩
      go_wp2_with fail
      go_ret
      refine ⟨ret_bool (by simp), ?_⟩
      rw [Hg.out]
      exact below_drewN' ((((below_drewN' ((((HB.out.alloc hgW _).alloc (by simp; omega) _).alloc (by simp; omega) _)) _).alloc (by simp; omega) _))) _
end Go.Proofs.Ytoncjlbgheaabaa.Names
