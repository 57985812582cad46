/- reliquarylaw.rowed: a closed fact. -/
import Derived.Test.YtoncjlbgheaabaaTurn
import Derived.Test.YtoncjlbgheaabaaEqualB
import Derived.Test.YtoncjlbgheaabaaEqual
namespace Go.Proofs.Ytoncjlbgheaabaa.Bits
open Go Go.RowKit Go.Proofs.Ytoncjlbgheaabaa
set_option linter.unusedVariables false

theorem step1 {w1 w2 : World} {o : Obj} (h2 : Below (w1.alloc o).heap.size (w1.alloc o) w2) : Below w1.heap.size w1 w2 :=
  ((Below.refl w1.heap.size w1).alloc (Nat.le_refl _) o).trans (h2.mono (by simp))
theorem stepN {w1 w2 : World} (h : Below w1.heap.size w1 w2) {w3 : World} (h2 : Below w2.heap.size w2 w3) : Below w1.heap.size w1 w3 :=
  h.trans (h2.mono h.size)
theorem slat_nat {w : World} {A : Option Addr} {l : List Nat} {zs : List Int} (h : SlAt w A (l.map natV)) (e : l.map (fun (n : Nat) => (n : Int)) = zs) : InAt w A zs := by
  unfold InAt; rw [← e, List.map_map]; exact h
theorem slat_new (w : World) (t : TypeId) (cs : Array Value) {xs : List Value} (e : cs.toList = xs) : SlAt (w.alloc (.cells cs t)) (some ⟨w.heap.size, 0, none⟩) xs := SlAt.of_heap (heap_alloc_new _ _) e
theorem fact_pack : pack (bitsP [(5, 3), (1, 7)]) = [13, 0] := by decide +kernel
theorem fact_unpack : unpackL (bitsL [13, 0]) [3, 7] = [5, 1] := by decide +kernel
theorem fact_turn : turned 3 4 = 12 := by decide +kernel

set_option maxRecDepth 100000 in
set_option maxHeartbeats 800000 in
theorem rowed_any (w : World) :
    Calls Try.prog 26 #[] w fun e w' => e = .returned (.bool true) ∧ Below w.heap.size w w' := by
  go_enter Try.func26, Try.ntmps26
  go_wp2_with fail
  refine (pack_any _ 2 2 [(5, 3), (1, 7)] _ rfl (by omega) (by exact SlAt.of_heap (heap_alloc_new _ _) rfl) (by simp [wfI]; decide)).mono ?_
  rintro e w1 ⟨h | ⟨h, _⟩, hb1⟩
  case inr => exact absurd h (by decide)
  obtain ⟨_, v1, rfl, ho1⟩ := h
  rw [fact_pack] at ho1
  have hk1 := step1 hb1
  obtain ⟨A1, c1, rfl, hc1, hc2, hA1⟩ := own_bytes ho1
  have HK1 := Lib.hid hk1
  have HA1 := Lib.hid hA1
  clear hA1 ho1 hb1 hk1
  simp only [List.length_cons, List.length_nil] at hc1 ⊢
  go_wp2_with fail
  refine (unpack_any _ _ 2 2 _ _ [13, 0] [3, 7] _ rfl rfl (by omega) (by omega) (SlAt.alloc HA1.out _) (by exact SlAt.of_heap (heap_alloc_new _ _) rfl) (by simp [wfI]; decide)).mono ?_
  rintro e w2 ⟨⟨h, _⟩ | ⟨_, _, v2, rfl, ho2⟩ | ⟨_, h, _⟩, hb2⟩
  · exact absurd h (by decide)
  rotate_left
  · exact absurd h (by decide)
  rw [show ([3, 7] : List Int).map Int.toNat = [3, 7] from rfl, fact_unpack] at ho2
  have hk2 := step1 hb2
  obtain ⟨A2, c2, rfl, hc3, hc4, hA2, _⟩ := own_slat ho2
  have HK2 := Lib.hid (stepN HK1.out hk2)
  have HA1 := Lib.hid (SlAt.below HA1.out hk2)
  have HA2 := Lib.hid (slat_nat (zs := [5, 1]) hA2 rfl)
  clear hA2 ho2 hb2 hk2
  simp only [List.length_cons, List.length_nil] at hc3 ⊢
  go_wp2_with fail
  refine (turn_any 3 4 w2).mono ?_
  rintro e w3 ⟨⟨_, rfl⟩ | ⟨h, _⟩, rfl⟩
  rotate_left
  · exact absurd h (by decide)
  rw [show ((3 : Int).toNat) = 3 from rfl, show ((4 : Int).toNat) = 4 from rfl, fact_turn]
  go_wp2_with fail
  refine (equal_bytes _ _ 2 2 _ _ [13, 0] [13, 0] _ rfl rfl (SlAt.alloc HA1.out _) (by exact SlAt.of_heap (heap_alloc_new _ _) rfl)).mono ?_
  rintro e w4 ⟨rfl, rfl⟩
  rw [show decide (([13, 0] : List UInt8) = [13, 0]) = true from by simp]
  go_wp2_with fail
  refine (equal_ints _ _ 2 2 _ _ [5, 1] [5, 1] _ rfl rfl (by unfold maxLen; omega) (by unfold maxLen; omega) (SlAt.alloc (SlAt.alloc HA2.out _) _) (by simpa [InAt] using slat_new (w2.alloc (.cells #[.int .u8 13, .int .u8 0] 5)) 3 #[.int .i64 5, .int .i64 1] (xs := [5, 1].map iv) rfl)).mono ?_
  rintro e w5 ⟨rfl, d, rfl⟩
  rw [show decide (([5, 1] : List Int) = [5, 1]) = true from by simp]
  go_wp2_with fail
  go_ret
  exact ⟨rfl, below_drewN' (((HK2.out).alloc HK2.out.size _).alloc (by have := HK2.out.size; simp; omega) _) _⟩
end Go.Proofs.Ytoncjlbgheaabaa.Bits
