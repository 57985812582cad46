/- slices.Delete of one message. -/
import Derived.Test.YtdoegpklephelaaGreatDoorWorldSame5
import Derived.Deep.RegionLaw
namespace Go.Proofs.YtdoegpklephelaaGreatDoor.Worlds
open Go Go.RowKit Go.Proofs.YtdoegpklephelaaGreatDoor Go.Proofs.YtdoegpklephelaaGreatDoor.Name Go.Proofs.YtdoegpklephelaaGreatDoor.Merge
set_option linter.unusedVariables false

theorem own_shrink {w : World} {base size n m c g : Nat} {e : TypeId} {xs : List Value} (h : w.ownsRow base e size (.slice (some ⟨g, 0, none⟩) n c) n xs) (hm : m ≤ n) : w.ownsRow base e size (.slice (some ⟨g, 0, none⟩) m c) m (xs.take (m * size)) := by
  rcases h.2 with ⟨hv, _⟩ | ⟨g', cap', cur, hv, hb, hg, h1, h2, h3, h4⟩
  · cases hv
  · injection hv with hv _ hc
    injection hv with hv
    injection hv with hv
    subst hv hc
    have hle := Nat.mul_le_mul_right size hm
    refine ⟨?_, .inr ⟨g, c, cur, rfl, hb, hg, by omega, h2, h3, ?_⟩⟩
    · rw [List.length_take, h.1]; omega
    · rw [← h4, List.take_take, Nat.min_eq_left hle]
theorem erase_flat (l : List Mx) (k : Nat) : (l.eraseIdx k).flatMap mC = (l.take k).flatMap mC ++ (l.drop (k + 1)).flatMap mC := by
  rw [List.eraseIdx_eq_take_drop_succ, List.flatMap_append]
theorem mCs_one (l : List Mx) : ∀ u ∈ l.flatMap mC, u.oneCell' = true := by
  intro u hu
  obtain ⟨x, _, hx⟩ := List.mem_flatMap.1 hu
  simp [mC] at hx
  rcases hx with rfl | rfl <;> rfl
theorem three_parts {α : Type} (xs : List α) (a b : Nat) (h : a + b ≤ xs.length) : xs = xs.take a ++ (xs.drop a).take b ++ xs.drop (a + b) := by
  rw [List.append_assoc, ← List.drop_drop, List.take_append_drop, List.take_append_drop]
theorem msgs_cut (l : List Mx) (k : Nat) (hk : k ≤ l.length) : (l.flatMap mC).take (k * 2) = (l.take k).flatMap mC := by
  have : l.flatMap mC = (l.take k).flatMap mC ++ (l.drop k).flatMap mC := by rw [← List.flatMap_append, List.take_append_drop]
  rw [this, List.take_left']
  rw [mCs_len, List.length_take]; omega
theorem msgs_from (l : List Mx) (k : Nat) (hk : k ≤ l.length) : (l.flatMap mC).drop (k * 2) = (l.drop k).flatMap mC := by
  have : l.flatMap mC = (l.take k).flatMap mC ++ (l.drop k).flatMap mC := by rw [← List.flatMap_append, List.take_append_drop]
  rw [this, List.drop_left']
  rw [mCs_len, List.length_take]; omega
/-- the cells of a row of messages when one is taken out, and the last place cleared -/
theorem del_cells (l : List Mx) (k r m n : Nat) (hn : l.length = n) (hkr : k + r = m) (hm : n = m + 1) (z : List Value) (hz : z.length = 2) :
    (layL (layL (l.flatMap mC) (k * 2) ((l.drop (k + 1)).flatMap mC)) (m * 2) z).take (m * 2) = (l.eraseIdx k).flatMap mC := by
  have hlen : (l.flatMap mC).length = n * 2 := by rw [mCs_len, hn]
  have hvs : ((l.drop (k + 1)).flatMap mC).length = r * 2 := by rw [mCs_len, List.length_drop, hn]; omega
  have e1 := three_parts (l.flatMap mC) (k * 2) (r * 2) (by omega)
  have h1 := layL_mid ((l.drop (k + 1)).flatMap mC) ((l.flatMap mC).take (k * 2)) (((l.flatMap mC).drop (k * 2)).take (r * 2)) ((l.flatMap mC).drop (k * 2 + r * 2)) (by
    rw [List.length_take, List.length_drop, hvs, hlen]; omega)
  rw [← e1, List.length_take, hlen, Nat.min_eq_left (by omega)] at h1
  rw [h1]
  have h2 := layL_mid z ((l.flatMap mC).take (k * 2) ++ (l.drop (k + 1)).flatMap mC) ((l.flatMap mC).drop (k * 2 + r * 2)) [] (by
    rw [List.length_drop, hlen, hz]; omega)
  rw [List.append_nil, List.length_append, hvs, List.length_take, hlen, Nat.min_eq_left (by omega), show k * 2 + r * 2 = m * 2 by omega] at h2
  rw [show k * 2 + r * 2 = m * 2 by omega, h2, List.append_nil, List.take_left' (by rw [List.length_append, hvs, List.length_take, hlen]; omega), erase_flat, msgs_cut _ _ (by omega)]
def DelPost (base g c m : Nat) (l : List Mx) (w : World) (e : Ending) (w' : World) : Prop :=
  e = .returned (.slice (some ⟨g, 0, none⟩) m c) ∧ w'.ownsRow base 54 2 (.slice (some ⟨g, 0, none⟩) m c) m (l.flatMap mC) ∧ Keeps base [54] w w'
set_option maxRecDepth 100000 in
set_option maxHeartbeats 4000000 in
theorem delete_msgs (base n m c g k : Nat) (l : List Mx) (w : World) (hown : w.ownsRow base 54 2 (.slice (some ⟨g, 0, none⟩) n c) n (l.flatMap mC)) (hn : l.length = n) (hk : k < n) (hx : n ≤ 100) (hm : n = m + 1) (hb : base ≤ w.heap.size) :
    Calls Tryz.prog 45 #[.slice (some ⟨g, 0, none⟩) n c, .int .i64 (k : Int), .int .i64 ((k : Int) + 1)] w (DelPost base g c m (l.eraseIdx k) w) := by
  obtain ⟨r, hr⟩ : ∃ r, r = m - k := ⟨_, rfl⟩
  have hkr : k + r = m := by omega
  obtain ⟨A, c', hA, hnc, hcm, hsl, _⟩ := own_slat hown
  injection hA with hA1 _ hA2
  subst hA1 hA2
  have ht : Tryz.prog.underlying 24 = some (.slice (Tryz.prog.elem 24)) := by kernel_rfl
  have he : Tryz.prog.elem 24 = 54 := by kernel_rfl
  obtain ⟨_, i, hi1, _, hi2, _⟩ := tyM.parts
  unfold maxLen at hcm
  obtain ⟨X, hX⟩ : ∃ X : Addr, X = if c = k + 1 then ⟨g, 0, none⟩ else ⟨g, (k + 1) * 2, none⟩ := ⟨_, rfl⟩
  have hs1 : ∀ w', (Instr.slice 24 (.slice (some ⟨g, 0, none⟩) n c) none (some (.int .i64 (k : Int))) none).run Tryz.prog w' = .ok (.slice (some ⟨g, 0, none⟩) k c) w' := fun w' => by
    rw [run_slice_h _ _ _ _ _ ht .i64 (k : Int) (by omega) (by omega), he, Tryz.sizeOf54]
    simp [Result.andThen, sliced, addr_add]
  have hs2 : ∀ w', (Instr.slice 24 (.slice (some ⟨g, 0, none⟩) n c) (some (.int .i64 ((k : Int) + 1))) none none).run Tryz.prog w' = .ok (.slice (some X) r (c - (k + 1))) w' := fun w' => by
    rw [run_slice_l _ _ _ _ _ ht .i64 ((k : Int) + 1) (by omega) (by omega), he, Tryz.sizeOf54]
    simp only [Result.andThen, sliced, show ((k : Int) + 1).toNat = k + 1 by omega, show n - (k + 1) = r by omega, hX]
    split
    · rfl
    · simp [addr_add]
  have hs3 : ∀ w', (Instr.slice 24 (.slice (some ⟨g, 0, none⟩) m c) (some (.int .i64 (m : Int))) (some (.int .i64 (n : Int))) none).run Tryz.prog w' = .ok (.slice (some ⟨g, m * 2, none⟩) 1 (c - m)) w' := fun w' => by
    rw [run_slice_lh _ _ _ _ _ ht .i64 .i64 (m : Int) (n : Int) (by omega) (by omega) (by omega), he, Tryz.sizeOf54]
    simp only [Result.andThen, sliced, Int.toNat_natCast, show n - m = 1 by omega]
    rw [if_neg (by omega)]
    simp [addr_add]
  have hz : ∀ w', (zeroValue 54).run Tryz.prog w' = .ok (.agg #[.int .i64 0, .slice none 0 0]) w' := fun w' => by kernel_rfl
  have hlen : ((l.drop (k + 1)).flatMap mC).length = r * 2 := by rw [mCs_len, List.length_drop, hn]; omega
  have hXc : ∀ j u, ((l.drop (k + 1)).flatMap mC)[j]? = some u → w.drew.cell? (X.add j) = some u := fun j u hu => by
    have hj : j < r * 2 := by
      rcases Nat.lt_or_ge j (r * 2) with h | h
      · exact h
      · rw [List.getElem?_eq_none (by omega)] at hu; cases hu
    have hX2 : X = ⟨g, (k + 1) * 2, none⟩ := by rw [hX, if_neg (by omega)]
    rw [hX2, addr_add]
    show w.cell? _ = _
    rw [← msgs_from l (k + 1) (by omega), List.getElem?_drop] at hu
    rw [hown.cellAt _ (by omega), hu]
  have hsp : ∀ j, j < ((l.drop (k + 1)).flatMap mC).length → (w.drew.cell? ⟨g, 0 + k * 2 + j, none⟩).isSome = true ∧ w.drew.frozen? ⟨g, 0 + k * 2 + j, none⟩ = false := fun j hj => by
    refine ⟨?_, hown.frozenAt _⟩
    show (w.cell? _).isSome = true
    rw [Nat.zero_add, hown.cellAt _ (by omega), List.getElem?_eq_getElem (by rw [mCs_len, hn]; omega)]
    rfl
  obtain ⟨w2, hw2⟩ : ∃ w2, w2 = w.drew.setCells g (0 + k * 2) ((l.drop (k + 1)).flatMap mC) := ⟨_, rfl⟩
  have hown2 : w2.ownsRow base 54 2 (.slice (some ⟨g, 0, none⟩) n c) n (layL (l.flatMap mC) (k * 2) ((l.drop (k + 1)).flatMap mC)) := by
    rw [hw2, Nat.zero_add]
    exact own_setCells _ (k * 2) (own_drew hown) rfl
  have hk2 : Keeps base [54] w w2 := by
    rw [hw2]
    exact keeps_setCells _ _ (Keeps.refl _ _ _).drew (own_drew hown) (by simp)
  have hcl := fun ty => run_clear_any (P := Tryz.prog) w2 24 54 ty _ Tryz.underlying24 hz (by simp [Value.cells, Value.oneCell']) (by simp [Value.cells]) g (m * 2) 1 (c - m) (by omega)
    (fun o ho => by
      have ho2 : o < 1 * 2 := ho
      rw [hown2.cellAt _ (by omega), List.getElem?_eq_getElem (by rw [hown2.1]; omega)]; rfl) (fun o _ => hown2.frozenAt _)
  obtain ⟨w3, hw3⟩ : ∃ w3, w3 = w2.setCells g (m * 2) (Builtin.zeroCells (Value.cells (.agg #[.int .i64 0, .slice none 0 0])) 1).toList := ⟨_, rfl⟩
  rw [← hw3] at hcl
  have hown3 : w3.ownsRow base 54 2 (.slice (some ⟨g, 0, none⟩) m c) m ((l.eraseIdx k).flatMap mC) := by
    rw [hw3]
    have h1 := own_shrink (own_setCells (Builtin.zeroCells (Value.cells (.agg #[.int .i64 0, .slice none 0 0])) 1).toList (m * 2) hown2 rfl) (show m ≤ n by omega)
    rwa [del_cells l k r m n hn hkr hm _ (by rw [zc_size]; rfl)] at h1
  have hk3 : Keeps base [54] w w3 := by rw [hw3]; exact keeps_setCells _ _ hk2 hown2 (by simp)
  have Hres := Lib.hid (And.intro hown3 hk3)
  have Hw2 := Lib.hid hw2.symm
  have Hlen := Lib.hid hlen
  have HXc := Lib.hid hXc
  have Hsp := Lib.hid hsp
  have Hkr := Lib.hid hkr
  have Hi1 := Lib.hid hi1
  have Hi2 := Lib.hid hi2
  have hm1 : n ≤ m + 1 := by omega
  have hm2 : m + 1 ≤ n := by omega
  have hkm : k ≤ m := by omega
  have hkr2 : k + r ≤ c := by omega
  have hnk : ¬ n = k := by omega
  have heq : ((k : Int) == (k : Int) + 1) = false := by rw [beq_eq_false_iff_ne]; omega
  have heq2 : decide ((k : Int) = (k : Int) + 1) = false := decide_eq_false (by omega)
  have hMone := Lib.hid (mCs_one (l.drop (k + 1)))
  clear hown hown2 hown3 hk2 hk3 hw2 hw3 hlen hXc hsp hkr hi1 hi2 hr hm hn hX hz ht he hsl
  unfold DelPost
  go_enter Tryz.func45, Tryz.ntmps45
  go_wp2_with fail
  go_region_law ((refine step_append_room rfl (.tmp 22) (.tmp 25) 24 rfl 54 i 2 Tryz.underlying24 Hi1.out Hi2.out g 0 k c (by simp [Act.eval, Act.put]) X r (c - (k + 1)) ((l.drop (k + 1)).flatMap mC) (by simp [Act.eval, Act.put]) Hlen.out HXc.out hMone.out hkr2 Hsp.out ?_; rw [Hkr.out, Hw2.out]))
  all_goals (
    go_wp2_with fail
    go_ret
    exact ⟨rfl, Hres.out.1, Hres.out.2⟩)
end Go.Proofs.YtdoegpklephelaaGreatDoor.Worlds
