/- slices.Repeat of one number. -/
import Derived.Test.YthfbjgdophjelaaNats
import Derived.Test.YthfbjgdophjelaaShelfMul
import Derived.Laws.CopyOwn
import Derived.StillTailTactics
namespace Go.Proofs.Ythfbjgdophjelaa.Inf
open Go Go.RowKit Go.Proofs.Ythfbjgdophjelaa Go.Proofs.Ythfbjgdophjelaa.Code
set_option linter.unusedVariables false
set_option linter.unusedSimpArgs false

/-- n of k numbers are told, the rest is 0 -/
def repRow (v : Int) (k n : Nat) : List Value := List.replicate n (.int .i64 v) ++ List.replicate (k - n) (.int .i64 0)
theorem repRow_len (v : Int) (k n : Nat) (h : n ≤ k) : (repRow v k n).length = k := by simp [repRow]; omega
theorem repRow_end (v : Int) (k : Nat) : repRow v k k = List.replicate k (.int .i64 v) := by simp [repRow]
theorem repRow_zero (v : Int) (k : Nat) : madeCells #[.int .i64 0] k = (repRow v k 0).toArray := by
  rw [nats_zero]
  unfold nats repRow natV
  simp
theorem repRow_more (v : Int) (k n m : Nat) (h : n + m ≤ k) : splice (repRow v k n) n (List.replicate m (.int .i64 v)) = repRow v k (n + m) := by
  unfold splice repRow
  rw [List.length_replicate, List.take_append_of_le_length (by simp), List.take_of_length_le (by simp), List.drop_append, List.drop_of_length_le (by simp)]
  simp only [List.length_replicate, List.nil_append, List.drop_replicate]
  rw [← List.append_assoc, List.replicate_append_replicate]
  congr 2
  omega
theorem repRow_get (v : Int) (k n j : Nat) (h : j < n) : (repRow v k n)[j]? = some (.int .i64 v) := by
  unfold repRow
  rw [List.getElem?_append_left (by simp; omega), List.getElem?_replicate, if_pos h]
theorem src_of {w : World} {A : Option Addr} {X : List Value} (h : SlAt w A X) : 0 < X.length → ∃ ad, A = some ad ∧ ∀ j v, X[j]? = some v → w.cell? (ad.add j) = some v := fun hp => by
  obtain ⟨b, o, e, hc⟩ := h hp
  exact ⟨_, e, fun j v hj => by
    have := hc j v hj
    by_cases hj0 : j = 0
    · subst hj0; simpa [Addr.add] using this
    · simpa [Addr.add, hj0] using this⟩
theorem sizeI : (Try.prog.info? 3).map (·.size) = some 1 := by kernel_rfl
set_option maxRecDepth 100000 in
set_option maxHeartbeats 1600000 in
theorem repeat1_any (A : Option Addr) (c k : Nat) (v : Int) (w : World) (hA : SlAt w A [.int .i64 v]) (h1 : 1 ≤ k) (hk : k ≤ 1000) :
    Calls Try.prog 31 #[.slice A 1 c, .int .i64 (k : Int)] w fun e w' => (∃ A', e = .returned (.slice A' k k) ∧ SlAt w' A' (List.replicate k (.int .i64 v))) ∧ Below w.heap.size w w' := by
  have hv1 : k < 18446744073709551616 := by omega
  have HM : Hid (∀ W, Calls Try.prog 33 #[.int .u64 1, .int .u64 (k : Int)] W fun e w' => e = .returned (.tuple #[.int .u64 0, .int .u64 (k : Int)]) ∧ w' = W) := Lib.hid (fun W => by
    have h := Any.bits_Mul Ythfbjgdophjelaa.lays212 1 k (by omega) hv1 W
    rw [Nat.one_mul, Nat.div_eq_of_lt hv1, Nat.mod_eq_of_lt hv1] at h
    exact h)
  have hmk := make_ints k (by omega)
  have HA := Lib.hid hA
  have Hz := Lib.hid (repRow_zero v k)
  clear hA hv1
  go_enter Try.func31, Try.ntmps31
  go_wp2_with fail
  refine (HM.out _).mono ?_
  rintro e w2 ⟨rfl, rfl⟩
  obtain ⟨g, hg⟩ : ∃ g, g = w2.heap.size := ⟨_, rfl⟩
  have Hg := Lib.hid hg
  obtain ⟨X, hX⟩ : ∃ X, X = [Value.int .i64 v] := ⟨_, rfl⟩
  have HX := Lib.hid hX
  rw [← hX] at HA
  obtain ⟨r0, hr0⟩ : ∃ r, r = repRow v k 0 := ⟨_, rfl⟩
  rw [← hr0] at Hz
  have HR0 := Lib.hid hr0
  have hk1 : X.length = Nat.min 1 k := by rw [hX]; exact (Nat.min_eq_left h1).symm
  have hX1 : X.length = 1 := by rw [hX]; rfl
  have Hr0 : Hid (r0.length = k) := Lib.hid (by rw [hr0]; exact repRow_len v k 0 (by omega))
  have Hone : Hid (∀ u ∈ X, u.oneCell' = true) := Lib.hid (by rw [hX]; simp [Value.oneCell'])
  have HMk : Hid (∀ (u : World), (Instr.makeSlice 23 (.int .i64 (k : Int)) (.int .i64 (k : Int))).run Try.prog u = .ok (.slice (some ⟨u.heap.size, 0, none⟩) k k) (u.alloc (.cells r0.toArray 3))) := Lib.hid (fun u => by rw [hmk u, Hz.out])
  replace hmk := HMk.out w2
  rw [← hg] at hmk
  have Hnew : Hid ((w2.alloc (.cells r0.toArray 3)).heap[g]? = some (.cells r0.toArray 3 (0, 0))) := Lib.hid (by rw [hg]; exact heap_alloc_new _ _)
  have Hb1 : Hid (Below w2.heap.size w2 (w2.alloc (.cells r0.toArray 3))) := Lib.hid ((Below.refl _ _).alloc (Nat.le_refl _) _)
  have HA1 := Lib.hid (src_of (HA.out.below Hb1.out))
  clear HM HMk hg hX hr0 Hz
  generalize w2.alloc (.cells r0.toArray 3) = w3 at *
  go_wp2_with (with_reducible refine wpList_copy_splice (o := ⟨some 33, _, _, _, _, _⟩) ?hgd (.tmp 31) (.tmp 32) 23 23 ?ho 3 ?hu ?hsz (some ⟨g, 0, none⟩) A k k 1 c ?hd ?hs g 0 r0 3 ?hg X ?hn ?hpos ?hfit ?h1 w2.heap.size w2 ?hb ?hBg ?h; (case hgd => (rfl)); (case ho => (rfl)); (case hu => (exact Try.underlying23)); (case hsz => (exact sizeI)); (case hd => (simp [Act.eval])); (case hs => (simp [Act.eval])); (case hg => (exact Hnew.out)); (case hn => (exact hk1)); (case hpos => (exact (fun hp => ⟨rfl, HA1.out hp⟩))); (case hfit => (rw [hX1, Hr0.out]; omega)); (case h1 => (exact Hone.out)); (case hb => (exact Hb1.out)); (case hBg => (rw [Hg.out]; exact Nat.le_refl _)); intro w4 HG4 hB4; rw [hX1]; have HB4 := Lib.hid hB4; clear hB4)
  have HG4 : Hid (w4.heap[g]? = some (.cells (repRow v k 1).toArray 3 (0, 0))) := Lib.hid (by
    rw [HG4.out, HR0.out, HX.out]
    exact congrArg (fun l => some (Obj.cells (List.toArray l) 3 (0, 0))) (repRow_more v k 0 1 (by omega)))
  clear Hb1 HA1 Hnew HA Hr0 hk1 hX1 Hone HX HR0 hmk
  go_loopw [8] (fun vn wr => ∃ n : Nat, 1 ≤ n ∧ n ≤ k ∧ vn = .int .i64 (n : Int) ∧ wr.heap[g]? = some (.cells (repRow v k n).toArray 3 (0, 0)) ∧ Below w2.heap.size w2 wr) (fun vn _ => k - (intOf vn).toNat)
  case atStart => exact ⟨1, by omega, h1, rfl, HG4.out, HB4.out⟩
  case round =>
    obtain ⟨n, hn1, hnk, rfl, hg, hb⟩ := hrel
    have HG := Lib.hid hg
    have HB := Lib.hid hb
    clear hg hb HG4 HB4
    by_cases hlt : n < k
    · obtain ⟨m, hm⟩ : ∃ m, m = Nat.min n (k - n) := ⟨_, rfl⟩
      have hm1 : 1 ≤ m ∧ n + m ≤ k := by rw [hm]; show 1 ≤ min n (k - n) ∧ n + min n (k - n) ≤ k; omega
      obtain ⟨X, hX⟩ : ∃ X, X = List.replicate m (Value.int .i64 v) := ⟨_, rfl⟩
      have hXl : X.length = m := by rw [hX]; simp
      have Hone : Hid (∀ u ∈ X, u.oneCell' = true) := Lib.hid (by rw [hX]; intro u hu; rw [List.eq_of_mem_replicate hu]; rfl)
      obtain ⟨r0, hr0⟩ : ∃ r, r = repRow v k n := ⟨_, rfl⟩
      have Hrl : Hid (r0.length = k) := Lib.hid (by rw [hr0]; exact repRow_len v k n hnk)
      have HS : Hid (splice r0 n X = repRow v k (n + m)) := Lib.hid (by rw [hr0, hX]; exact repRow_more v k n m hm1.2)
      have HA : Hid (SlAt wr (some ⟨g, 0, none⟩) X) := Lib.hid (fun _ => ⟨g, 0, rfl, fun j u hj => by
        rw [cell_of_row wr g _ _ _ _ HG.out]
        have hjm : j < m := by
          rcases Nat.lt_or_ge j m with h | h
          · exact h
          · rw [hX, List.getElem?_eq_none (by simp; omega)] at hj; cases hj
        rw [hX, List.getElem?_replicate, if_pos hjm] at hj
        rw [← hj, Nat.zero_add, List.getElem?_toArray]
        exact repRow_get v k n j (by have : m ≤ n := by rw [hm]; exact Nat.min_le_left _ _; 
                                     omega)⟩)
      rw [← hr0] at HG
      have hwn : IntKind.i64.wrap ((n : Int) + (m : Int)) = ((n + m : Nat) : Int) := by rw [show (n : Int) + (m : Int) = ((n + m : Nat) : Int) by omega]; exact IntWalk.i64_in _ (by omega)
      have hlt' : (n : Int) < (k : Int) := by omega
      have hkn : ¬ k = n := by omega
      have Hm := Lib.hid hm
      clear hm hX hr0
      go_wp2_with fail
      have hbd : Below wr.heap.size wr wr.drew := (Below.refl _ _).drew
      have HGd := Lib.hid (show wr.drew.heap[g]? = some (.cells r0.toArray 3 (0, 0)) from HG.out)
      have HAd := Lib.hid (src_of (HA.out.below hbd))
      have HBd := Lib.hid (show Below w2.heap.size w2 wr.drew from HB.out.drew)
      have Hmn : Hid (X.length = Nat.min n (k - n)) := Lib.hid (by rw [hXl]; exact Hm.out)
      clear hbd HG HA HB Hm
      go_region_law ((first
        | (refine step_copy_splice rfl (.tmp 41) (.tmp 44) 23 23 rfl 3 Try.underlying23 sizeI (some ⟨g, n, none⟩) (some ⟨g, 0, none⟩) (k - n) (k - n) n k (by simp [Act.eval, Act.put, hkn]) (by simp [Act.eval, Act.put, hkn]) g n r0 3 HGd.out X Hmn.out (fun hp => ⟨rfl, HAd.out hp⟩) (by rw [hXl, Hrl.out]; exact hm1.2) Hone.out w2.heap.size w2 HBd.out (by rw [Hg.out]; exact Nat.le_refl _) ?_
           intro w4 HG4 hB4
           rw [hXl]
           have HB4 := Lib.hid hB4
           clear hB4)))
      rw [HS.out] at HG4
      simp only [Act.put, List.getElem_toArray, List.getElem_cons_zero, List.getElem_cons_succ, List.setIfInBounds_toArray, List.set_cons_zero, List.set_cons_succ]
      go_roundw
      case rel =>
        first
        | exact ⟨_, _, _, _, _, _, _, _, ⟨n + m, by omega, by omega, rfl, HG4.out, HB4.out⟩, rfl⟩
        | exact ⟨_, _, _, _, _, _, _, _, _, ⟨n + m, by omega, by omega, rfl, HG4.out, HB4.out⟩, rfl⟩
        | exact ⟨_, _, _, _, _, _, _, _, _, _, ⟨n + m, by omega, by omega, rfl, HG4.out, HB4.out⟩, rfl⟩
        | exact ⟨_, _, _, _, _, _, _, _, _, _, _, ⟨n + m, by omega, by omega, rfl, HG4.out, HB4.out⟩, rfl⟩
        | exact ⟨_, _, _, _, _, _, _, _, _, _, _, _, ⟨n + m, by omega, by omega, rfl, HG4.out, HB4.out⟩, rfl⟩
        | exact ⟨_, _, _, _, _, _, _, _, _, _, _, _, _, ⟨n + m, by omega, by omega, rfl, HG4.out, HB4.out⟩, rfl⟩
        | exact ⟨_, _, _, _, _, _, _, _, _, _, _, _, _, _, ⟨n + m, by omega, by omega, rfl, HG4.out, HB4.out⟩, rfl⟩
      case measure => simp [intOf]; omega
    · obtain rfl : n = k := by omega
      have hlt' : ¬ (n : Int) < (n : Int) := by omega
      go_wp2_with fail
      go_ret
      exact ⟨⟨_, rfl, SlAt.of_heap HG.out (by rw [repRow_end])⟩, HB.out⟩
end Go.Proofs.Ythfbjgdophjelaa.Inf
