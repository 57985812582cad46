/- package block: what symbols say; the code that is told to nobody. -/
import Derived.Test.YthfbjgdophjelaaInfTable
namespace Go.Proofs.Ythfbjgdophjelaa.Inf
open Go Go.RowKit Go.Proofs.Ythfbjgdophjelaa Go.Proofs.Ythfbjgdophjelaa.Bits Go.Proofs.Ythfbjgdophjelaa.Code
set_option linter.unusedVariables false

theorem run_maxI {P : Program} (ts : Array TypeId) (t : TypeId) (a b : Int) (w : World) :
    (Builtin.max_ ts t #[.int .i64 a, .int .i64 b]).run P w = .ok (.int .i64 (max a b)) w := by
  simp [Builtin.max_, Builtin.max2]
  (repeat' split) <;> omega
def exC (x : Nat × Nat) : List Value := [.int .i64 (x.1 : Int), .int .i64 (x.2 : Int)]
theorem exC_len (l : List (Nat × Nat)) : (l.flatMap exC).length = l.length * 2 := by
  induction l with
  | nil => rfl
  | cons a l ih => rw [List.flatMap_cons, List.length_append, ih, List.length_cons]; simp [exC]; omega
theorem tyX : SliceTy Try.prog 57 61 (.agg #[.int .i64 0, .int .i64 0]) 2 16 := ⟨Try.underlying57, by kernel_rfl, rfl, by omega⟩
def fromS (k : Nat) : Nat := (List.range k).foldl (fun f i => f + 2 ^ (i / 4 - 1)) 3
theorem fromS_next (k : Nat) : fromS (k + 1) = fromS k + 2 ^ (k / 4 - 1) := by unfold fromS; rw [List.range_succ, List.foldl_append]; rfl
theorem sameL_get : ∀ k < 28, sameL.getD k (0, 0) = (fromS k, k / 4 - 1) ∧ fromS k ≤ 1000 := by decide
set_option maxRecDepth 100000 in
set_option maxHeartbeats 1600000 in
theorem sames_any (w : World) : Calls Try.prog 23 #[] w fun e w' => ∃ A c, e = .returned (.slice A 29 c) ∧ w'.ownsRow w.heap.size 61 2 (.slice A 29 c) 29 (sameL.flatMap exC) ∧ Below w.heap.size w w' := by
  go_enter Try.func23, Try.ntmps23
  go_wp2_with fail
  go_loopw [1, 2, 5] (fun pl pf vi wr => ∃ k : Nat, k ≤ 28 ∧ vi = .int .i64 (k : Int) ∧ pf = .int .i64 (fromS k : Int) ∧ wr.ownsRow w.heap.size 61 2 pl k ((sameL.take k).flatMap exC) ∧ Below w.heap.size w wr) (fun _ _ vi _ => 28 - (intOf vi).toNat)
  case atStart => exact ⟨0, Nat.zero_le _, rfl, rfl, World.ownsRow_nil .., Below.refl _ _⟩
  case round =>
    obtain ⟨k, hk, rfl, rfl, ho, hb⟩ := hrel
    have HO := Lib.hid ho
    have Hb := Lib.hid hb
    clear ho hb
    by_cases hlt : k < 28
    · obtain ⟨h1, h2⟩ := sameL_get k hlt
      obtain ⟨b, hb⟩ : ∃ b, b = k / 4 - 1 := ⟨_, rfl⟩
      have hmm : max (0 : Int) ((k : Int) / 4 - 1) = (b : Int) := by omega
      have hmax : ∀ (ts : Array TypeId) (ty : TypeId) (W : World), (Builtin.max_ ts ty #[.int .i64 0, .int .i64 ((k : Int) / 4 - 1)]).run Try.prog W = .ok (.int .i64 (b : Int)) W := fun ts ty W => by rw [run_maxI, hmm]
      rw [← hb] at h1
      have hnx := fromS_next k
      rw [← hb] at hnx
      obtain ⟨f, hf⟩ : ∃ f, f = fromS k := ⟨_, rfl⟩
      rw [← hf] at h1 h2 hnx ⊢
      have hb8 : b ≤ 8 := by omega
      have hp2 : 2 ^ b ≤ 256 := Nat.le_trans (Nat.pow_le_pow_right (by omega) hb8) (by decide)
      have hpi : ((2 : Int) ^ b) = ((2 ^ b : Nat) : Int) := by simp
      have hsh : IntKind.i64.wrap ((2 : Int) ^ b) = (2 : Int) ^ b := by
        rw [hpi]
        exact IntWalk.i64_in _ (by omega)
      have hsm : IntKind.i64.wrap ((f : Int) + (2 : Int) ^ b) = ((f + 2 ^ b : Nat) : Int) := by
        rw [hpi, ← Int.natCast_add]
        exact IntWalk.i64_in _ (by omega)
      have H1 := Lib.hid h1
      have Hnx := Lib.hid hnx
      have hba : Below wr.heap.size wr (wr.alloc (.cells #[.int .i64 (f : Int), .int .i64 (b : Int)] 61)) := (Below.refl _ _).alloc (Nat.le_refl _) _
      have HO2 := Lib.hid (own_keep HO.out hba)
      have Hb2 := Lib.hid (Hb.out.trans (hba.mono Hb.out.size))
      have HZ : Hid (SlAt (wr.alloc (.cells #[.int .i64 (f : Int), .int .i64 (b : Int)] 61)) (some ⟨wr.heap.size, 0, none⟩) [.int .i64 (f : Int), .int .i64 (b : Int)]) := Lib.hid (SlAt.of_heap (heap_alloc_new _ _) rfl)
      clear h1 hnx hf hb hmm hba hpi
      go_wp2_with (at_builtin; refine wpList_app _ rfl (.tmp 12) (.tmp 16) _ rfl w.heap.size 61 _ 2 16 tyX _ k ((sameL.take k).flatMap exC) rfl HO2.out (some ⟨wr.heap.size, 0, none⟩) 1 1 [.int .i64 (f : Int), .int .i64 (b : Int)] rfl rfl HZ.out (by simp [Value.oneCell']) (by simp) (by unfold maxLen; omega) (by omega) Hb2.out.size ?_; intro v8 w8 hown8 hg8 _; have Hb8 := Lib.hid (own_below HO2.out hg8 Hb2.out Hb2.out.size); have Ho8 := Lib.hid hown8; clear hown8 hg8)
      go_roundw
      case rel => exact ⟨k + 1, by omega, by go_num, by rw [Hnx.out]; simp, by
        have h : sameL.take (k + 1) = sameL.take k ++ [(f, b)] := by
          have hk29 : k < sameL.length := by show k < 29; omega
          rw [take_snoc _ _ hk29]
          congr 2
          have := H1.out
          rw [List.getD_eq_getElem?_getD, List.getElem?_eq_getElem hk29] at this
          exact this
        rw [h, List.flatMap_append]
        exact Ho8.out, Hb8.out⟩
      case measure => simp [intOf]; omega
    · obtain rfl : k = 28 := by omega
      have hba : Below wr.heap.size wr (wr.alloc (.cells #[.int .i64 258, .int .i64 0] 61)) := (Below.refl _ _).alloc (Nat.le_refl _) _
      have HO2 := Lib.hid (own_keep HO.out hba)
      have Hb2 := Lib.hid (Hb.out.trans (hba.mono Hb.out.size))
      have HZ : Hid (SlAt (wr.alloc (.cells #[.int .i64 258, .int .i64 0] 61)) (some ⟨wr.heap.size, 0, none⟩) [.int .i64 258, .int .i64 0]) := Lib.hid (SlAt.of_heap (heap_alloc_new _ _) rfl)
      clear hba
      go_wp2_with (at_builtin; refine wpList_app _ rfl (.tmp 23) (.tmp 25) _ rfl w.heap.size 61 _ 2 16 tyX _ 28 ((sameL.take 28).flatMap exC) rfl HO2.out (some ⟨wr.heap.size, 0, none⟩) 1 1 [.int .i64 258, .int .i64 0] rfl rfl HZ.out (by simp [Value.oneCell']) (by simp) (by unfold maxLen; omega) (by omega) Hb2.out.size ?_; intro v8 w8 hown8 hg8 _; have Hb8 := Lib.hid (own_below HO2.out hg8 Hb2.out Hb2.out.size); have Ho8 := Lib.hid hown8; clear hown8 hg8)
      go_ret
      obtain ⟨A8, c8, rfl, _⟩ := own_slat Ho8.out
      refine ⟨A8, c8, rfl, ?_, Hb8.out⟩
      have h : sameL.flatMap exC = (sameL.take 28).flatMap exC ++ [.int .i64 258, .int .i64 0] := by rfl
      rw [h]
      exact Ho8.out
def fromF (k : Nat) : Nat := (List.range k).foldl (fun f i => f + 2 ^ (i / 2 - 1)) 1
theorem fromF_next (k : Nat) : fromF (k + 1) = fromF k + 2 ^ (k / 2 - 1) := by unfold fromF; rw [List.range_succ, List.foldl_append]; rfl
theorem farL_get : ∀ k < 30, farL.getD k (0, 0) = (fromF k, k / 2 - 1) ∧ fromF k ≤ 40000 := by decide
set_option maxRecDepth 100000 in
set_option maxHeartbeats 1600000 in
theorem fars_any (w : World) : Calls Try.prog 24 #[] w fun e w' => ∃ A c, e = .returned (.slice A 30 c) ∧ w'.ownsRow w.heap.size 61 2 (.slice A 30 c) 30 (farL.flatMap exC) ∧ Below w.heap.size w w' := by
  go_enter Try.func24, Try.ntmps24
  go_wp2_with fail
  go_loopw [1, 2, 5] (fun pl pf vi wr => ∃ k : Nat, k ≤ 30 ∧ vi = .int .i64 (k : Int) ∧ pf = .int .i64 (fromF k : Int) ∧ wr.ownsRow w.heap.size 61 2 pl k ((farL.take k).flatMap exC) ∧ Below w.heap.size w wr) (fun _ _ vi _ => 30 - (intOf vi).toNat)
  case atStart => exact ⟨0, Nat.zero_le _, rfl, rfl, World.ownsRow_nil .., Below.refl _ _⟩
  case round =>
    obtain ⟨k, hk, rfl, rfl, ho, hb⟩ := hrel
    have HO := Lib.hid ho
    have Hb := Lib.hid hb
    clear ho hb
    by_cases hlt : k < 30
    · obtain ⟨h1, h2⟩ := farL_get k hlt
      obtain ⟨b, hb⟩ : ∃ b, b = k / 2 - 1 := ⟨_, rfl⟩
      have hmm : max (0 : Int) ((k : Int) / 2 - 1) = (b : Int) := by omega
      have hmax : ∀ (ts : Array TypeId) (ty : TypeId) (W : World), (Builtin.max_ ts ty #[.int .i64 0, .int .i64 ((k : Int) / 2 - 1)]).run Try.prog W = .ok (.int .i64 (b : Int)) W := fun ts ty W => by rw [run_maxI, hmm]
      rw [← hb] at h1
      have hnx := fromF_next k
      rw [← hb] at hnx
      obtain ⟨f, hf⟩ : ∃ f, f = fromF k := ⟨_, rfl⟩
      rw [← hf] at h1 h2 hnx ⊢
      have hb8 : b ≤ 14 := by omega
      have hp2 : 2 ^ b ≤ 16384 := Nat.le_trans (Nat.pow_le_pow_right (by omega) hb8) (by decide)
      have hpi : ((2 : Int) ^ b) = ((2 ^ b : Nat) : Int) := by simp
      have hsh : IntKind.i64.wrap ((2 : Int) ^ b) = (2 : Int) ^ b := by
        rw [hpi]
        exact IntWalk.i64_in _ (by omega)
      have hsm : IntKind.i64.wrap ((f : Int) + (2 : Int) ^ b) = ((f + 2 ^ b : Nat) : Int) := by
        rw [hpi, ← Int.natCast_add]
        exact IntWalk.i64_in _ (by omega)
      have H1 := Lib.hid h1
      have Hnx := Lib.hid hnx
      have hba : Below wr.heap.size wr (wr.alloc (.cells #[.int .i64 (f : Int), .int .i64 (b : Int)] 61)) := (Below.refl _ _).alloc (Nat.le_refl _) _
      have HO2 := Lib.hid (own_keep HO.out hba)
      have Hb2 := Lib.hid (Hb.out.trans (hba.mono Hb.out.size))
      have HZ : Hid (SlAt (wr.alloc (.cells #[.int .i64 (f : Int), .int .i64 (b : Int)] 61)) (some ⟨wr.heap.size, 0, none⟩) [.int .i64 (f : Int), .int .i64 (b : Int)]) := Lib.hid (SlAt.of_heap (heap_alloc_new _ _) rfl)
      clear h1 hnx hf hb hmm hba hpi
      go_wp2_with (at_builtin; refine wpList_app _ rfl (.tmp 12) (.tmp 16) _ rfl w.heap.size 61 _ 2 16 tyX _ k ((farL.take k).flatMap exC) rfl HO2.out (some ⟨wr.heap.size, 0, none⟩) 1 1 [.int .i64 (f : Int), .int .i64 (b : Int)] rfl rfl HZ.out (by simp [Value.oneCell']) (by simp) (by unfold maxLen; omega) (by omega) Hb2.out.size ?_; intro v8 w8 hown8 hg8 _; have Hb8 := Lib.hid (own_below HO2.out hg8 Hb2.out Hb2.out.size); have Ho8 := Lib.hid hown8; clear hown8 hg8)
      go_roundw
      case rel => exact ⟨k + 1, by omega, by go_num, by rw [Hnx.out]; simp, by
        have h : farL.take (k + 1) = farL.take k ++ [(f, b)] := by
          have hk29 : k < farL.length := by show k < 30; omega
          rw [take_snoc _ _ hk29]
          congr 2
          have := H1.out
          rw [List.getD_eq_getElem?_getD, List.getElem?_eq_getElem hk29] at this
          exact this
        rw [h, List.flatMap_append]
        exact Ho8.out, Hb8.out⟩
      case measure => simp [intOf]; omega
    · obtain rfl : k = 30 := by omega
      obtain ⟨A8, c8, rfl, _⟩ := own_slat HO.out
      go_wp2_with fail
      go_ret
      exact ⟨A8, c8, rfl, HO.out, Hb.out⟩
def ints2 (l : List Nat) : List Value := l.map natV
set_option maxRecDepth 100000 in
set_option maxHeartbeats 4000000 in
theorem fixed_any (w : World) : Calls Try.prog 15 #[] w fun e w' => ∃ A a B b, e = .returned (.tuple #[.slice A 288 a, .slice B 32 b]) ∧ w'.ownsRow w.heap.size 3 1 (.slice A 288 a) 288 (fixedA.map natV) ∧ w'.ownsRow w.heap.size 3 1 (.slice B 32 b) 32 (fixedB.map natV) ∧ Below w.heap.size w w' := by
  go_enter Try.func15, Try.ntmps15
  go_wp2_with fail
  go_loopw [0, 4] (fun pl vi wr => ∃ k : Nat, k ≤ 288 ∧ vi = .int .i64 (k : Int) ∧ wr.ownsRow w.heap.size 3 1 pl k ((fixedA.take k).map natV) ∧ Below w.heap.size w wr) (fun _ vi _ => 288 - (intOf vi).toNat)
  case atStart => exact ⟨0, Nat.zero_le _, rfl, World.ownsRow_nil .., Below.refl _ _⟩
  case round =>
    obtain ⟨k, hk, rfl, ho, hb⟩ := hrel
    have HO := Lib.hid ho
    have Hb := Lib.hid hb
    clear ho hb
    by_cases hlt : k < 288
    · have hkl : k < fixedA.length := by simp [fixedA]; omega
      have HT : Hid ((fixedA.take (k + 1)).map natV = (fixedA.take k).map natV ++ [natV fixedA[k]]) := Lib.hid (by rw [take_snoc _ _ hkl, List.map_append]; rfl)
      have hv : fixedA[k] = if 144 ≤ k ∧ k < 256 then 9 else if 256 ≤ k ∧ k < 280 then 7 else 8 := by simp [fixedA]
      rcases (by omega : (144 ≤ k ∧ k < 256) ∨ (256 ≤ k ∧ k < 280) ∨ (k < 144 ∨ 280 ≤ k)) with hc | hc | hc
      · have hvv : fixedA[k] = 9 := by rw [hv]; rw [if_pos hc]
        have HT2 : Hid ((fixedA.take (k + 1)).map natV = (fixedA.take k).map natV ++ [.int .i64 9]) := Lib.hid (by rw [HT.out, hvv]; rfl)
        have hba : Below wr.heap.size wr (wr.alloc (.cells #[.int .i64 9] 3)) := (Below.refl _ _).alloc (Nat.le_refl _) _
        have HO2 := Lib.hid (own_keep HO.out hba)
        have Hb2 := Lib.hid (Hb.out.trans (hba.mono Hb.out.size))
        have HZ : Hid (SlAt (wr.alloc (.cells #[.int .i64 9] 3)) (some ⟨wr.heap.size, 0, none⟩) [.int .i64 9]) := Lib.hid (SlAt.of_heap (heap_alloc_new _ _) rfl)
        have hq1 : (144 : Int) ≤ (k : Int) := by omega
        have hq2 : (k : Int) < 256 := by omega
        clear hba hv hvv hkl HT hc
        go_wp2_with (at_builtin; refine wpList_app _ rfl (.tmp 21) (.tmp 23) _ rfl w.heap.size 3 _ 1 8 tyI _ k ((fixedA.take k).map natV) rfl HO2.out (some ⟨wr.heap.size, 0, none⟩) 1 1 [.int .i64 9] rfl rfl HZ.out (by simp [Value.oneCell']) (by simp) (by unfold maxLen; omega) (by omega) Hb2.out.size ?_; intro v8 w8 hown8 hg8 _; have Hb8 := Lib.hid (own_below HO2.out hg8 Hb2.out Hb2.out.size); have Ho8 := Lib.hid hown8; clear hown8 hg8)
        all_goals (
          go_roundw
          case rel => exact ⟨k + 1, by omega, by go_num, by rw [HT2.out]; exact Ho8.out, Hb8.out⟩
          case measure => simp [intOf]; omega)
      · have hvv : fixedA[k] = 7 := by rw [hv]; rw [if_neg (by omega), if_pos hc]
        have HT2 : Hid ((fixedA.take (k + 1)).map natV = (fixedA.take k).map natV ++ [.int .i64 7]) := Lib.hid (by rw [HT.out, hvv]; rfl)
        have hba : Below wr.heap.size wr (wr.alloc (.cells #[.int .i64 7] 3)) := (Below.refl _ _).alloc (Nat.le_refl _) _
        have HO2 := Lib.hid (own_keep HO.out hba)
        have Hb2 := Lib.hid (Hb.out.trans (hba.mono Hb.out.size))
        have HZ : Hid (SlAt (wr.alloc (.cells #[.int .i64 7] 3)) (some ⟨wr.heap.size, 0, none⟩) [.int .i64 7]) := Lib.hid (SlAt.of_heap (heap_alloc_new _ _) rfl)
        have hq1 : (144 : Int) ≤ (k : Int) := by omega
        have hq2 : ¬ (k : Int) < 256 := by omega
        have hq3 : (256 : Int) ≤ (k : Int) := by omega
        have hq4 : (k : Int) < 280 := by omega
        clear hba hv hvv hkl HT hc
        go_wp2_with (at_builtin; refine wpList_app _ rfl (.tmp 21) (.tmp 23) _ rfl w.heap.size 3 _ 1 8 tyI _ k ((fixedA.take k).map natV) rfl HO2.out (some ⟨wr.heap.size, 0, none⟩) 1 1 [.int .i64 7] rfl rfl HZ.out (by simp [Value.oneCell']) (by simp) (by unfold maxLen; omega) (by omega) Hb2.out.size ?_; intro v8 w8 hown8 hg8 _; have Hb8 := Lib.hid (own_below HO2.out hg8 Hb2.out Hb2.out.size); have Ho8 := Lib.hid hown8; clear hown8 hg8)
        all_goals (
          go_roundw
          case rel => exact ⟨k + 1, by omega, by go_num, by rw [HT2.out]; exact Ho8.out, Hb8.out⟩
          case measure => simp [intOf]; omega)
      · have hvv : fixedA[k] = 8 := by rw [hv]; rw [if_neg (by omega), if_neg (by omega)]
        have HT2 : Hid ((fixedA.take (k + 1)).map natV = (fixedA.take k).map natV ++ [.int .i64 8]) := Lib.hid (by rw [HT.out, hvv]; rfl)
        have hba : Below wr.heap.size wr (wr.alloc (.cells #[.int .i64 8] 3)) := (Below.refl _ _).alloc (Nat.le_refl _) _
        have HO2 := Lib.hid (own_keep HO.out hba)
        have Hb2 := Lib.hid (Hb.out.trans (hba.mono Hb.out.size))
        have HZ : Hid (SlAt (wr.alloc (.cells #[.int .i64 8] 3)) (some ⟨wr.heap.size, 0, none⟩) [.int .i64 8]) := Lib.hid (SlAt.of_heap (heap_alloc_new _ _) rfl)
        clear hv hvv hkl HT
        rcases hc with hc | hc
        · have hq1 : ¬ (144 : Int) ≤ (k : Int) := by omega
          have hq3 : ¬ (256 : Int) ≤ (k : Int) := by omega
          clear hba hc
          go_wp2_with (at_builtin; refine wpList_app _ rfl (.tmp 21) (.tmp 23) _ rfl w.heap.size 3 _ 1 8 tyI _ k ((fixedA.take k).map natV) rfl HO2.out (some ⟨wr.heap.size, 0, none⟩) 1 1 [.int .i64 8] rfl rfl HZ.out (by simp [Value.oneCell']) (by simp) (by unfold maxLen; omega) (by omega) Hb2.out.size ?_; intro v8 w8 hown8 hg8 _; have Hb8 := Lib.hid (own_below HO2.out hg8 Hb2.out Hb2.out.size); have Ho8 := Lib.hid hown8; clear hown8 hg8)
          all_goals (
            go_roundw
            case rel => exact ⟨k + 1, by omega, by go_num, by rw [HT2.out]; exact Ho8.out, Hb8.out⟩
            case measure => simp [intOf]; omega)
        · have hq1 : (144 : Int) ≤ (k : Int) := by omega
          have hq2 : ¬ (k : Int) < 256 := by omega
          have hq3 : (256 : Int) ≤ (k : Int) := by omega
          have hq4 : ¬ (k : Int) < 280 := by omega
          clear hba hc
          go_wp2_with (at_builtin; refine wpList_app _ rfl (.tmp 21) (.tmp 23) _ rfl w.heap.size 3 _ 1 8 tyI _ k ((fixedA.take k).map natV) rfl HO2.out (some ⟨wr.heap.size, 0, none⟩) 1 1 [.int .i64 8] rfl rfl HZ.out (by simp [Value.oneCell']) (by simp) (by unfold maxLen; omega) (by omega) Hb2.out.size ?_; intro v8 w8 hown8 hg8 _; have Hb8 := Lib.hid (own_below HO2.out hg8 Hb2.out Hb2.out.size); have Ho8 := Lib.hid hown8; clear hown8 hg8)
          all_goals (
            go_roundw
            case rel => exact ⟨k + 1, by omega, by go_num, by rw [HT2.out]; exact Ho8.out, Hb8.out⟩
            case measure => simp [intOf]; omega)
    · obtain rfl : k = 288 := by omega
      obtain ⟨A8, c8, rfl, _⟩ := own_slat HO.out
      have HOA := HO
      have HbA := Hb
      obtain ⟨w1, rfl⟩ : ∃ w1, w1 = wr := ⟨_, rfl⟩
      clear hlt hk
      go_wp2_with fail
      go_loopw [1, 26] (fun pl vi wr => ∃ k : Nat, k ≤ 32 ∧ vi = .int .i64 (k : Int) ∧ wr.ownsRow w1.heap.size 3 1 pl k ((fixedB.take k).map natV) ∧ Below w1.heap.size w1 wr) (fun _ vi _ => 32 - (intOf vi).toNat)
      case atStart => exact ⟨0, Nat.zero_le _, rfl, World.ownsRow_nil .., Below.refl _ _⟩
      case round =>
        obtain ⟨k, hk, rfl, ho, hb⟩ := hrel
        have HO := Lib.hid ho
        have Hb := Lib.hid hb
        clear ho hb
        by_cases hlt : k < 32
        · have HT : Hid ((fixedB.take (k + 1)).map natV = (fixedB.take k).map natV ++ [.int .i64 5]) := Lib.hid (by
            have hkl : k < fixedB.length := by simp [fixedB]; omega
            have hv : fixedB[k] = 5 := List.eq_of_mem_replicate (List.getElem_mem hkl)
            rw [take_snoc _ _ hkl, List.map_append, hv]
            rfl)
          have hba : Below wr.heap.size wr (wr.alloc (.cells #[.int .i64 5] 3)) := (Below.refl _ _).alloc (Nat.le_refl _) _
          have HO2 := Lib.hid (own_keep HO.out hba)
          have Hb2 := Lib.hid (Hb.out.trans (hba.mono Hb.out.size))
          have HZ : Hid (SlAt (wr.alloc (.cells #[.int .i64 5] 3)) (some ⟨wr.heap.size, 0, none⟩) [.int .i64 5]) := Lib.hid (SlAt.of_heap (heap_alloc_new _ _) rfl)
          clear hba
          go_wp2_with (at_builtin; refine wpList_app _ rfl (.tmp 28) (.tmp 29) _ rfl w1.heap.size 3 _ 1 8 tyI _ k ((fixedB.take k).map natV) rfl HO2.out (some ⟨wr.heap.size, 0, none⟩) 1 1 [.int .i64 5] rfl rfl HZ.out (by simp [Value.oneCell']) (by simp) (by unfold maxLen; omega) (by omega) Hb2.out.size ?_; intro v8 w8 hown8 hg8 _; have Hb8 := Lib.hid (own_below HO2.out hg8 Hb2.out Hb2.out.size); have Ho8 := Lib.hid hown8; clear hown8 hg8)
          go_roundw
          case rel => exact ⟨_, _, _, _, _, _, _, ⟨k + 1, by omega, by go_num, by rw [HT.out]; exact Ho8.out, Hb8.out⟩, rfl⟩
          case measure => simp [intOf]; omega
        · obtain rfl : k = 32 := by omega
          obtain ⟨B8, d8, rfl, _⟩ := own_slat HO.out
          go_wp2_with fail
          go_ret2
          refine ⟨A8, c8, B8, d8, rfl, ?_, own_base HO.out HbA.out.size, HbA.out.trans (Hb.out.mono HbA.out.size)⟩
          exact own_keep HOA.out Hb.out
end Go.Proofs.Ythfbjgdophjelaa.Inf
