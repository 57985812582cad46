/- package merge: what two files are to one another: cmp.Compare, cmp.Or, bytes.Compare, strings.Compare, merge.Newer. -/
import Derived.Test.YtdoegpklephelaaDoorFile
import Derived.Test.YtdoegpklephelaaDoorQuietTail
import Derived.Lib.BytesEntry
namespace Go.Proofs.YtdoegpklephelaaDoor.Merge
open Go Go.RowKit Go.Proofs.YtdoegpklephelaaDoor Go.Proofs.YtdoegpklephelaaDoor.Name
set_option linter.unusedVariables false

theorem bytesOf_map (xs : List UInt8) : Lib.bytesOf (xs.map n8) = xs := by
  unfold Lib.bytesOf
  rw [List.map_map]
  conv => rhs; rw [← List.map_id xs]
  apply List.map_congr_left
  intro x _
  exact n8_back8 x
theorem run_bytesOf {P : Program} {w : World} {A : Option Addr} {xs : List UInt8} (n c : Nat) (hn : n = xs.length) (h : ByAt w A xs) : (Extern.Bytes.bytesOf (.slice A n c)).run P w = .ok (strB xs) w := by
  subst hn
  by_cases h0 : xs = []
  · subst h0
    cases A with
    | none => rfl
    | some a => rfl
  · obtain ⟨b, o, rfl, hc⟩ := h (by simpa using List.length_pos_iff.2 h0)
    have hl := Lib.run_loadBytesX (P := P) w (xs.map n8) ⟨b, o, none⟩ .empty (fun j x hj => by
      rw [addr_add]
      refine hc j _ ?_
      rw [List.getElem?_map] at hj ⊢
      cases hx : xs[j]? with
      | none => rw [hx] at hj; cases hj
      | some y => rw [hx] at hj; injection hj with hj; subst hj; rfl)
    rw [List.length_map, bytesOf_map] at hl
    have he : (⟨ByteArray.empty.data ++ xs.toArray⟩ : ByteArray) = strB xs := by
      apply ByteArray.ext
      show (#[] : Array UInt8) ++ xs.toArray = xs.toArray
      simp
    rw [he] at hl
    exact hl
theorem run_compareSlices {P : Program} {w : World} {A B : Option Addr} {xs ys : List UInt8} (n c m d : Nat) (hn : n = xs.length) (hm : m = ys.length) (h1 : ByAt w A xs) (h2 : ByAt w B ys) :
    (Extern.BytealgCompare.compare #[.slice A n c, .slice B m d]).run P w = .ok (.int .i64 (cb xs ys)) w := by
  change Sem.run P (do pure (goInt (Extern.BytealgCompare.cmp (← Extern.Bytes.bytesOf (.slice A n c)) (← Extern.Bytes.bytesOf (.slice B m d))))) w = _
  simp only [Sem.run_bind, run_bytesOf n c hn h1, run_bytesOf m d hm h2, Sem.run_pure, Result.andThen]
  rw [Lib.cmp_eq, strB_data, strB_data]
  rfl
set_option maxRecDepth 100000 in
set_option maxHeartbeats 400000 in
theorem bytesCompare_any (A B : Option Addr) (n c m d : Nat) (xs ys : List UInt8) (w : World) (hn : n = xs.length) (hm : m = ys.length) (h1 : ByAt w A xs) (h2 : ByAt w B ys) :
    Calls Tryd.prog 56 #[.slice A n c, .slice B m d] w fun e w' => e = .returned (.int .i64 (cb xs ys)) ∧ w' = w := by
  have Hr := Lib.hid (run_compareSlices (P := Tryd.prog) n c m d hn hm h1 h2)
  clear hn hm h1 h2
  go_enter Tryd.func56, Tryd.ntmps56
  go_wp2_with fail
  rw [run_callFunc_extern Tryd.func73 (by kernel_rfl) (by kernel_rfl) (by kernel_rfl) (e := Extern.BytealgCompare.compare) (by kernel_rfl), Hr.out]
  simp only [Result.andThen]
  rw [Oper.upon_value]
  go_wp2_with fail
  go_ret
  exact ⟨rfl, rfl⟩
set_option maxRecDepth 100000 in
set_option maxHeartbeats 400000 in
theorem stringsCompare_any (a b : List UInt8) (w : World) :
    Calls Tryd.prog 41 #[.string (strB a), .string (strB b)] w fun e w' => e = .returned (.int .i64 (cb a b)) ∧ w' = w := by
  have Hr := Lib.hid (Lib.run_compareString (P := Tryd.prog) (strB a) (strB b) w)
  go_enter Tryd.func41, Tryd.ntmps41
  go_wp2_with (first | go_in)
  rw [run_callFunc_extern Tryd.func82 (by kernel_rfl) (by kernel_rfl) (by kernel_rfl) (e := Extern.BytealgCompare.compare) (by kernel_rfl), Hr.out]
  simp only [Result.andThen]
  rw [Oper.upon_value, strB_data, strB_data]
  go_wp2_with fail
  go_ret
  exact ⟨rfl, rfl⟩
set_option maxHeartbeats 400000 in
theorem compareI_any (x y : Int) (w : World) :
    Calls Tryd.prog 55 #[.int .i64 x, .int .i64 y] w fun e w' => e = .returned (.int .i64 (ci x y)) ∧ w' = w := by
  have h1 : x < y → ci x y = -1 := fun h => by unfold ci Lib.compareInt; rw [if_pos h]
  have h2 : y < x → ci x y = 1 := fun h => by unfold ci Lib.compareInt; rw [if_neg (by omega), if_pos h]
  have h3 : x = y → ci x y = 0 := fun h => by unfold ci Lib.compareInt; rw [if_neg (by omega), if_neg (by omega)]
  rcases (by omega : x < y ∨ y < x ∨ x = y) with h | h | h
  · have H := Lib.hid (h1 h)
    have h' : ¬ y < x := by omega
    clear h1 h2 h3
    generalize ci x y = r at *
    go_enter Tryd.func55, Tryd.ntmps55
    go_wp2
    go_ret
    exact ⟨by rw [H.out]; rfl, rfl⟩
  · have H := Lib.hid (h2 h)
    have h' : ¬ x < y := by omega
    clear h1 h2 h3
    generalize ci x y = r at *
    go_enter Tryd.func55, Tryd.ntmps55
    go_wp2
    go_ret
    exact ⟨by rw [H.out]; rfl, rfl⟩
  · subst h
    have H := Lib.hid (h3 rfl)
    clear h1 h2 h3
    generalize ci x x = r at *
    go_enter Tryd.func55, Tryd.ntmps55
    go_wp2
    go_ret
    exact ⟨by rw [H.out]; rfl, rfl⟩
/-- the first that is not 0 -/
def or4 (a b c d : Int) : Int := orI a (orI b (orI c d))
set_option maxRecDepth 100000 in
set_option maxHeartbeats 800000 in
theorem or4_any (g : Nat) (a b c d : Int) (w : World) (h : Blk w g 3 #[.int .i64 a, .int .i64 b, .int .i64 c, .int .i64 d]) :
    Calls Tryd.prog 54 #[.slice (some ⟨g, 0, none⟩) 4 4] w fun e w' => e = .returned (.int .i64 (or4 a b c d)) ∧ w' = w := by
  have h0 : w.cell? ⟨g, 0, none⟩ = some (.int .i64 a) := by rw [h.cell]; rfl
  have h1 : w.cell? ⟨g, 1, none⟩ = some (.int .i64 b) := by rw [h.cell]; rfl
  have h2 : w.cell? ⟨g, 2, none⟩ = some (.int .i64 c) := by rw [h.cell]; rfl
  have h3 : w.cell? ⟨g, 3, none⟩ = some (.int .i64 d) := by rw [h.cell]; rfl
  have Ha : Hid (a ≠ 0 → or4 a b c d = a) := Lib.hid (fun h => by unfold or4 orI; rw [if_pos h])
  have Hb : Hid (a = 0 → b ≠ 0 → or4 a b c d = b) := Lib.hid (fun h h2 => by unfold or4 orI; rw [if_neg (by simpa using h), if_pos h2])
  have Hc : Hid (a = 0 → b = 0 → c ≠ 0 → or4 a b c d = c) := Lib.hid (fun h h2 h3 => by unfold or4 orI; rw [if_neg (by simpa using h), if_neg (by simpa using h2), if_pos h3])
  have Hd : Hid (a = 0 → b = 0 → c = 0 → or4 a b c d = d) := Lib.hid (fun h h2 h3 => by unfold or4 orI; rw [if_neg (by simpa using h), if_neg (by simpa using h2), if_neg (by simpa using h3)])
  clear h
  generalize or4 a b c d = r at *
  go_enter Tryd.func54, Tryd.ntmps54
  go_wp2_with fail
  go_loop [8] (fun i => ∃ k : Nat, k ≤ 4 ∧ i = .int .i64 (k : Int) ∧ (1 ≤ k → a = 0) ∧ (2 ≤ k → b = 0) ∧ (3 ≤ k → c = 0) ∧ (4 ≤ k → d = 0)) (fun i => 4 - (intOf i).toNat)
  case atStart => exact ⟨0, by omega, rfl, by omega, by omega, by omega, by omega⟩
  case round =>
    obtain ⟨k, hk, rfl, k1, k2, k3, k4⟩ := hrel
    have K1 := Lib.hid k1
    have K2 := Lib.hid k2
    have K3 := Lib.hid k3
    have K4 := Lib.hid k4
    clear k1 k2 k3 k4
    rcases (by omega : k = 0 ∨ k = 1 ∨ k = 2 ∨ k = 3 ∨ k = 4) with rfl | rfl | rfl | rfl | rfl
    · by_cases hz : a = 0
      · subst hz
        go_wp2_with fail
        go_round
        case rel => exact ⟨1, by omega, by go_num, by simp, by omega, by omega, by omega⟩
        case measure => simp [intOf]
      · have hz' : (a != 0) = true := by simpa using hz
        go_wp2_with fail
        go_ret
        exact ⟨by rw [Ha.out hz]; rfl, rfl⟩
    · have Z1 := Lib.hid (K1.out (by omega))
      by_cases hz : b = 0
      · subst hz
        go_wp2_with fail
        go_round
        case rel => exact ⟨2, by omega, by go_num, fun _ => Z1.out, by simp, by omega, by omega⟩
        case measure => simp [intOf]
      · have hz' : (b != 0) = true := by simpa using hz
        go_wp2_with fail
        go_ret
        exact ⟨by rw [Hb.out Z1.out hz]; rfl, rfl⟩
    · have Z1 := Lib.hid (K1.out (by omega))
      have Z2 := Lib.hid (K2.out (by omega))
      by_cases hz : c = 0
      · subst hz
        go_wp2_with fail
        go_round
        case rel => exact ⟨3, by omega, by go_num, fun _ => Z1.out, fun _ => Z2.out, by simp, by omega⟩
        case measure => simp [intOf]
      · have hz' : (c != 0) = true := by simpa using hz
        go_wp2_with fail
        go_ret
        exact ⟨by rw [Hc.out Z1.out Z2.out hz]; rfl, rfl⟩
    · have Z1 := Lib.hid (K1.out (by omega))
      have Z2 := Lib.hid (K2.out (by omega))
      have Z3 := Lib.hid (K3.out (by omega))
      by_cases hz : d = 0
      · subst hz
        go_wp2_with fail
        go_round
        case rel => exact ⟨4, by omega, by go_num, fun _ => Z1.out, fun _ => Z2.out, fun _ => Z3.out, by simp⟩
        case measure => simp [intOf]
      · have hz' : (d != 0) = true := by simpa using hz
        go_wp2_with fail
        go_ret
        exact ⟨by rw [Hd.out Z1.out Z2.out Z3.out]; rfl, rfl⟩
    · have Z := Lib.hid (Hd.out (K1.out (by omega)) (K2.out (by omega)) (K3.out (by omega)))
      have Z4 := Lib.hid (K4.out (by omega))
      go_wp2_with fail
      go_ret
      exact ⟨by rw [Z.out, Z4.out]; rfl, rfl⟩
set_option maxHeartbeats 400000 in
theorem goneI_any (x : Fx) (w : World) :
    Calls Tryd.prog 53 #[fV x] w fun e w' => e = .returned (.int .i64 (gi x.1.gone)) ∧ Below w.heap.size w w' := by
  obtain ⟨⟨nm, bs, st, nd, gn⟩, A, n, c⟩ := x
  unfold fV slv
  dsimp only
  cases gn with
  | true =>
    go_enter Tryd.func53, Tryd.ntmps53
    go_wp2
    go_ret
    exact ⟨rfl, (Below.refl _ _).alloc (Nat.le_refl _) _⟩
  | false =>
    go_enter Tryd.func53, Tryd.ntmps53
    go_wp2
    go_ret
    exact ⟨rfl, (Below.refl _ _).alloc (Nat.le_refl _) _⟩
end Go.Proofs.YtdoegpklephelaaDoor.Merge
