/- reliquarylaw.weighed: a closed fact; what the numbers that come back cost. -/
import Derived.Test.YtdponlnfdjfljaaWeighLen
import Derived.Test.YtdponlnfdjfljaaWeighCalc
namespace Go.Proofs.Ytdponlnfdjfljaa.Weigh
open Go Go.RowKit Go.Proofs.Ytdponlnfdjfljaa Go.Proofs.Ytdponlnfdjfljaa.SP
set_option linter.unusedVariables false

theorem step1 {w1 w2 : World} {o : Obj} (h2 : Below (w1.alloc o).heap.size (w1.alloc o) w2) : Below w1.heap.size w1 w2 :=
  ((Below.refl w1.heap.size w1).alloc (Nat.le_refl _) o).trans (h2.mono (by simp))
theorem stepN {w1 w2 : World} (h : Below w1.heap.size w1 w2) {w3 : World} (h2 : Below w2.heap.size w2 w3) : Below w1.heap.size w1 w3 :=
  h.trans (h2.mono h.size)
theorem fact_chk15 : chkW [1, 1, 2, 4] 15 = 0 := by decide +kernel
theorem fact_chk2 : chkW [1, 1, 2, 4] 2 = 0 := by decide +kernel
theorem fact_len15 : (lengthsP (natsOf [1, 1, 2, 4]) (15 : Int).toNat).map nv = ([3, 3, 2, 1] : List Int).map iv := by
  show (lengthsP [1, 1, 2, 4] 15).map nv = _
  rw [fact_more]; rfl
theorem fact_len2 : (lengthsP (natsOf [1, 1, 2, 4]) (2 : Int).toNat).map nv = ([2, 2, 2, 2] : List Int).map iv := by
  show (lengthsP [1, 1, 2, 4] 2).map nv = _
  rw [fact_two]; rfl
set_option maxRecDepth 100000 in
set_option maxHeartbeats 1600000 in
theorem weighed_any (w : World) :
    Calls Try.prog 34 #[] w fun e w' => e = .returned (.bool true) ∧ Below w.heap.size w w' := by
  have HL : Hid (InAt (w.alloc (.cells #[.int .i64 1, .int .i64 1, .int .i64 2, .int .i64 4] 3)) (some ⟨w.heap.size, 0, none⟩) [1, 1, 2, 4]) := Lib.hid (SlAt.of_heap (heap_alloc_new _ _) rfl)
  go_enter Try.func34, Try.ntmps34
  go_wp2_with fail
  refine (lengths_any _ 4 4 [1, 1, 2, 4] 15 _ rfl (by unfold maxLen; omega) HL.out).mono ?_
  rintro e w1 ⟨hp, hb1⟩
  rcases hp with ⟨hbad, _⟩ | ⟨_, v1, rfl, hown⟩
  · exact absurd fact_chk15 hbad
  rw [fact_len15] at hown
  have HB1 := Lib.hid (step1 hb1)
  have hown : w1.ownsRow (w.alloc (.cells #[.int .i64 1, .int .i64 1, .int .i64 2, .int .i64 4] 3)).heap.size 3 1 v1 4 (([3, 3, 2, 1] : List Int).map iv) := hown
  obtain ⟨A1, c1, rfl, _, _, hA1, _⟩ := own_slat hown
  have HA1 : Hid (InAt w1 A1 [3, 3, 2, 1]) := Lib.hid hA1
  clear hown hA1 hb1 HL
  have HL2 : Hid (InAt (w1.alloc (.cells #[.int .i64 1, .int .i64 1, .int .i64 2, .int .i64 4] 3)) (some ⟨w1.heap.size, 0, none⟩) [1, 1, 2, 4]) := Lib.hid (SlAt.of_heap (heap_alloc_new _ _) rfl)
  go_wp2_with fail
  refine (lengths_any _ 4 4 [1, 1, 2, 4] 2 _ rfl (by unfold maxLen; omega) HL2.out).mono ?_
  rintro e w2 ⟨hp, hb2⟩
  rcases hp with ⟨hbad, _⟩ | ⟨_, v2, rfl, hown⟩
  · exact absurd fact_chk2 hbad
  rw [fact_len2] at hown
  have HB2 := Lib.hid (stepN HB1.out (step1 hb2))
  have HA12 := Lib.hid (HA1.out.below (step1 hb2))
  have hown : w2.ownsRow (w1.alloc (.cells #[.int .i64 1, .int .i64 1, .int .i64 2, .int .i64 4] 3)).heap.size 3 1 v2 4 (([2, 2, 2, 2] : List Int).map iv) := hown
  obtain ⟨A2, c2, rfl, _, _, hA2, _⟩ := own_slat hown
  have HA2 : Hid (InAt w2 A2 [2, 2, 2, 2]) := Lib.hid hA2
  clear hown hA2 hb2 HL2 HB1 HA1
  go_wp2_with fail
  refine (equal_ints A1 _ 4 4 c1 4 [3, 3, 2, 1] [3, 3, 2, 1] _ rfl rfl (by unfold maxLen; omega) (by unfold maxLen; omega) (SlAt.alloc HA12.out _) (by exact SlAt.of_heap (heap_alloc_new _ _) rfl)).mono ?_
  rintro e w3 ⟨rfl, d3, rfl⟩
  rw [show decide (([3, 3, 2, 1] : List Int) = [3, 3, 2, 1]) = true from by simp]
  have HA5 : Hid (InAt ((w2.alloc (.cells #[.int .i64 3, .int .i64 3, .int .i64 2, .int .i64 1] 3)).drewN d3) A2 [2, 2, 2, 2]) := Lib.hid (SlAt.alloc HA2.out _)
  have HB5 := Lib.hid (below_drewN' (HB2.out.alloc HB2.out.size (.cells #[.int .i64 3, .int .i64 3, .int .i64 2, .int .i64 1] 3)) d3)
  clear HA2 HB2 HA12
  generalize (w2.alloc (.cells #[.int .i64 3, .int .i64 3, .int .i64 2, .int .i64 1] 3)).drewN d3 = w5 at *
  go_wp2_with fail
  refine (equal_ints A2 _ 4 4 c2 4 [2, 2, 2, 2] [2, 2, 2, 2] _ rfl rfl (by unfold maxLen; omega) (by unfold maxLen; omega) (SlAt.alloc HA5.out _) (by exact SlAt.of_heap (heap_alloc_new _ _) rfl)).mono ?_
  rintro e w6 ⟨rfl, d6, rfl⟩
  rw [show decide (([2, 2, 2, 2] : List Int) = [2, 2, 2, 2]) = true from by simp]
  go_wp2_with fail
  go_ret
  exact ⟨rfl, below_drewN' (HB5.out.alloc HB5.out.size _) _⟩
/-- the lengths that come back, as numbers -/
def lenI (zs : List Int) (most : Int) : List Int := (lengthsP (natsOf zs) most.toNat).map Int.ofNat
theorem lenI_iv (zs : List Int) (most : Int) : (lengthsP (natsOf zs) most.toNat).map nv = (lenI zs most).map iv := by
  unfold lenI
  rw [List.map_map]; rfl
theorem natsOf_back (zs : List Int) (h : ∀ x ∈ zs, 0 ≤ x) : zs = (natsOf zs).map Int.ofNat := by
  unfold natsOf
  rw [List.map_map]
  conv => lhs; rw [← List.map_id zs]
  apply List.map_congr_left
  intro x hx
  have := h x hx
  simp; omega
theorem costI_nat (a b : List Nat) : costI (a.map Int.ofNat) (b.map Int.ofNat) = (costZ (a.zip b) : Int) := by
  unfold costI costZ
  rw [List.zip_map, List.map_map]
  generalize a.zip b = ps
  induction ps with
  | nil => rfl
  | cons p ps ih =>
    simp only [List.map_cons, List.sum_cons, Function.comp] at ih ⊢
    rw [ih]
    simp
theorem chkW_15 (zs : List Int) (most : Int) (h : chkW zs most = 0) : chkW zs 15 = 0 := by
  obtain ⟨f1, f2, f3, f4, f5⟩ := chkW_fine zs most h
  have hp : (2 : Nat) ^ most.toNat ≤ 2 ^ 15 := Nat.pow_le_pow_right (by omega) (by omega)
  unfold chkW
  rw [if_neg (by omega), if_neg, if_neg (by omega), if_neg]
  · show ¬ 2 ^ 15 < usedI zs
    omega
  · rw [Bool.not_eq_true, List.any_eq_false]
    intro x hx
    have := f2 x hx
    simp [badWant]; omega
theorem chk_best (zs : List Int) (most : Int) (h : chkW zs most = 0) : 1 ≤ most.toNat ∧ (ones (natsOf zs)).length ≤ 2 ^ most.toNat := by
  obtain ⟨f1, f2, f3, f4, f5⟩ := chkW_fine zs most h
  exact ⟨by omega, by rw [← used_ones]; exact f5⟩
theorem lenI_len (zs : List Int) (most : Int) (h : chkW zs most = 0) : (lenI zs most).length = zs.length := by
  obtain ⟨h1, h2⟩ := chk_best zs most h
  unfold lenI
  rw [List.length_map, (best _ _ h1 h2).1, natsOf_len]
theorem costI_len (zs : List Int) (most : Int) (h : chkW zs most = 0) : costI zs (lenI zs most) = (costZ ((natsOf zs).zip (lengthsP (natsOf zs) most.toNat)) : Int) := by
  obtain ⟨f1, f2, f3, f4, f5⟩ := chkW_fine zs most h
  conv => lhs; rw [natsOf_back zs (fun x hx => (f2 x hx).1)]
  unfold lenI
  rw [show natsOf ((natsOf zs).map Int.ofNat) = natsOf zs by rw [← natsOf_back zs (fun x hx => (f2 x hx).1)]]
  exact costI_nat _ _
theorem costE_len (zs : List Int) (most : Int) (h : chkW zs most = 0) : costE zs (lenI zs most) = 0 := by
  obtain ⟨h1, h2⟩ := chk_best zs most h
  obtain ⟨f1, f2, f3, f4, f5⟩ := chkW_fine zs most h
  obtain ⟨b1, b2, b3, b4⟩ := best (natsOf zs) most.toNat h1 h2
  unfold costE
  rw [if_neg (by rw [lenI_len zs most h]; simp), if_neg (by rw [chkW_15 zs most h]; simp), if_neg]
  rw [Bool.not_eq_true, List.any_eq_false]
  intro p hp
  have hz : zs.zip (lenI zs most) = ((natsOf zs).zip (lengthsP (natsOf zs) most.toNat)).map (Prod.map Int.ofNat Int.ofNat) := by
    conv => lhs; rw [natsOf_back zs (fun x hx => (f2 x hx).1)]
    unfold lenI
    rw [show natsOf ((natsOf zs).map Int.ofNat) = natsOf zs by rw [← natsOf_back zs (fun x hx => (f2 x hx).1)], List.zip_map]
  rw [hz] at hp
  obtain ⟨q, hq, rfl⟩ := List.mem_map.1 hp
  have h3 := b3 q.2 (List.of_mem_zip hq).2
  have h4 := b2.1 q hq
  simp [badC, Prod.map]
  refine ⟨by omega, fun h => ?_⟩
  have := h4 (by omega)
  omega
end Go.Proofs.Ytdponlnfdjfljaa.Weigh
