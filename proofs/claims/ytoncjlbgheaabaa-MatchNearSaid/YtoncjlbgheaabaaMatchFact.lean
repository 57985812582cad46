/- reliquarylaw.matched: a closed fact. -/
import Derived.Test.YtoncjlbgheaabaaMatchExp
import Derived.Test.YtoncjlbgheaabaaMatchEq
import Derived.Test.YtoncjlbgheaabaaEqualB
import Derived.Lib.SlBytesConst
namespace Go.Proofs.Ytoncjlbgheaabaa.Match
open Go Go.RowKit Go.Proofs.Ytoncjlbgheaabaa
set_option linter.unusedVariables false

theorem step1 {w1 w2 : World} {o : Obj} (h2 : Below (w1.alloc o).heap.size (w1.alloc o) w2) : Below w1.heap.size w1 w2 :=
  ((Below.refl w1.heap.size w1).alloc (Nat.le_refl _) o).trans (h2.mono (by simp))
theorem stepN {w1 w2 : World} (h : Below w1.heap.size w1 w2) {w3 : World} (h2 : Below w2.heap.size w2 w3) : Below w1.heap.size w1 w3 :=
  h.trans (h2.mono h.size)
theorem fact_toks : toks [97, 98, 99, 97, 98, 99, 97, 98, 99] = [(97, 0, 0), (98, 0, 0), (99, 0, 0), (0, 6, 3)] := by decide +kernel
theorem fact_chk : chk [(97, 0, 0), (98, 0, 0), (99, 0, 0), (0, 6, 3)] = 0 := by decide +kernel
theorem fact_exp : expand [(97, 0, 0), (98, 0, 0), (99, 0, 0), (0, 6, 3)] = [97, 98, 99, 97, 98, 99, 97, 98, 99] := by decide +kernel
theorem fact_wf : ∀ t ∈ ([(97, 0, 0), (98, 0, 0), (99, 0, 0), (0, 6, 3)] : List Tok), wfT t := by
  intro t ht
  simp at ht
  rcases ht with rfl | rfl | rfl | rfl <;> exact ⟨rfl, rfl⟩
set_option maxRecDepth 100000 in
set_option maxHeartbeats 1600000 in
theorem matched_any (w : World) :
    Calls Try.prog 30 #[] w fun e w' => e = .returned (.bool true) ∧ Below w.heap.size w w' := by
  have h0 : ByAt (w.alloc (.cells #[.int .u8 97, .int .u8 98, .int .u8 99, .int .u8 97, .int .u8 98, .int .u8 99, .int .u8 97, .int .u8 98, .int .u8 99] 5 (9, 10))) (some ⟨w.heap.size, 0, none⟩) [97, 98, 99, 97, 98, 99, 97, 98, 99] := ByAt.of_new _ _ _ (9, 10) rfl
  have H0 := Lib.hid h0
  clear h0
  have kk := fun (w : World) (C : Array Value) (n c : Nat) => Lib.run_convert_bytes_const (P := Try.prog) w 28 5 C n c Try.underlying28 Try.underlying5
  go_enter Try.func30, Try.ntmps30
  go_wp2_with fail
  refine (tokens_yes _ 9 9 [97, 98, 99, 97, 98, 99, 97, 98, 99] _ rfl (by omega) (by omega) H0.out).mono ?_
  rintro e w1 ⟨⟨v1, rfl, ho1⟩, hb1⟩
  rw [fact_toks] at ho1
  have hk1 := step1 hb1
  obtain ⟨A1, c1, rfl, hc1, hc2, hA1, _⟩ := own_slat ho1
  have HK1 := Lib.hid hk1
  have HA1 := Lib.hid hA1
  clear hA1 ho1 hb1 hk1
  simp only [List.length_cons, List.length_nil] at hc1 ⊢
  go_wp2_with fail
  refine (expand_yes A1 4 c1 _ _ rfl HA1.out fact_wf fact_chk).mono ?_
  rintro e w2 ⟨⟨v2, rfl, ho2⟩, hb2⟩
  rw [fact_exp] at ho2
  obtain ⟨A2, c2, rfl, hd1, hd2, hA2⟩ := own_bytes ho2
  have kc := conv_bytes A2 9 c2 _ w2 rfl hA2
  have HA3 := Lib.hid (SlAt.below HA1.out hb2)
  have HB2 := Lib.hid (stepN HK1.out hb2)
  clear hA2 ho2 hb2
  simp only [List.length_cons, List.length_nil] at hd1 ⊢
  have hs1 : (strB [97, 98, 99, 97, 98, 99, 97, 98, 99]).toList = [97, 98, 99, 97, 98, 99, 97, 98, 99] := by rw [ByteArray.toList_eq]; simp [strB]
  go_wp2_with fail
  refine (equal_toks A1 _ 4 4 c1 4 [(97, 0, 0), (98, 0, 0), (99, 0, 0), (0, 6, 3)] [(97, 0, 0), (98, 0, 0), (99, 0, 0), (0, 6, 3)] _ rfl rfl (by omega) (by omega) (SlAt.alloc HA3.out _) (by exact SlAt.of_heap (heap_alloc_new _ _) rfl) fact_wf fact_wf).mono ?_
  rintro e w3 ⟨rfl, d, rfl⟩
  rw [show decide (([(97, 0, 0), (98, 0, 0), (99, 0, 0), (0, 6, 3)] : List Tok) = [(97, 0, 0), (98, 0, 0), (99, 0, 0), (0, 6, 3)]) = true from by simp]
  go_wp2_with fail
  go_ret
  exact ⟨rfl, below_drewN' (HB2.out.alloc HB2.out.size _) _⟩
end Go.Proofs.Ytoncjlbgheaabaa.Match
