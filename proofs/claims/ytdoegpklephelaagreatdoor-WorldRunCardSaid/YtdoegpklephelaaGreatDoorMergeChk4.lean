/- package merge: orders, what is newer, sameness, Check -/
import Derived.Test.YtdoegpklephelaaGreatDoorFile
import Derived.Test.YtdoegpklephelaaGreatDoorQuietTail
import Derived.Lib.BytesEntry
import Derived.Test.YtdoegpklephelaaGreatDoorCloneFB
import Derived.Laws.BytesArg
import Derived.Shelf.Bytes.SlSmallAll
import Derived.Test.YtdoegpklephelaaGreatDoorName2
import Derived.Deep.QuietTactic
import Derived.BigQuiet
import Derived.IntWalk
import Derived.Laws.Cover1
/- package merge: what two files are to one another: cmp.Compare, cmp.Or, bytes.Compare, strings.Compare, merge.Newer. -/
namespace Go.Proofs.YtdoegpklephelaaGreatDoor.Merge
open Go Go.RowKit Go.Proofs.YtdoegpklephelaaGreatDoor Go.Proofs.YtdoegpklephelaaGreatDoor.Name
set_option linter.unusedVariables false

theorem bytesOf_map (xs : List UInt8) : Lib.bytesOf (xs.map n8) = xs := by
  unfold Lib.bytesOf
  rw [List.map_map]
  conv => rhs; rw [← List.map_id xs]
  apply List.map_congr_left
  intro x _
  exact n8_back8 x
theorem run_bytesOf {P : Program} {w : World} {A : Option Addr} {xs : List UInt8} (n c : Nat) (hn : n = xs.length) (h : ByAt w A xs) : (Extern.Bytes.bytesOf (.slice A n c)).run P w = .ok (strB xs) w := by
  subst hn
  by_cases h0 : xs = []
  · subst h0
    cases A with
    | none => rfl
    | some a => rfl
  · obtain ⟨b, o, rfl, hc⟩ := h (by simpa using List.length_pos_iff.2 h0)
    have hl := Lib.run_loadBytesX (P := P) w (xs.map n8) ⟨b, o, none⟩ .empty (fun j x hj => by
      rw [addr_add]
      refine hc j _ ?_
      rw [List.getElem?_map] at hj ⊢
      cases hx : xs[j]? with
      | none => rw [hx] at hj; cases hj
      | some y => rw [hx] at hj; injection hj with hj; subst hj; rfl)
    rw [List.length_map, bytesOf_map] at hl
    have he : (⟨ByteArray.empty.data ++ xs.toArray⟩ : ByteArray) = strB xs := by
      apply ByteArray.ext
      show (#[] : Array UInt8) ++ xs.toArray = xs.toArray
      simp
    rw [he] at hl
    exact hl
theorem run_compareSlices {P : Program} {w : World} {A B : Option Addr} {xs ys : List UInt8} (n c m d : Nat) (hn : n = xs.length) (hm : m = ys.length) (h1 : ByAt w A xs) (h2 : ByAt w B ys) :
    (Extern.BytealgCompare.compare #[.slice A n c, .slice B m d]).run P w = .ok (.int .i64 (cb xs ys)) w := by
  change Sem.run P (do pure (goInt (Extern.BytealgCompare.cmp (← Extern.Bytes.bytesOf (.slice A n c)) (← Extern.Bytes.bytesOf (.slice B m d))))) w = _
  simp only [Sem.run_bind, run_bytesOf n c hn h1, run_bytesOf m d hm h2, Sem.run_pure, Result.andThen]
  rw [Lib.cmp_eq, strB_data, strB_data]
  rfl
set_option maxRecDepth 100000 in
set_option maxHeartbeats 400000 in
theorem bytesCompare_any (A B : Option Addr) (n c m d : Nat) (xs ys : List UInt8) (w : World) (hn : n = xs.length) (hm : m = ys.length) (h1 : ByAt w A xs) (h2 : ByAt w B ys) :
    Calls Tryz.prog 73 #[.slice A n c, .slice B m d] w fun e w' => e = .returned (.int .i64 (cb xs ys)) ∧ w' = w := by
  have Hr := Lib.hid (run_compareSlices (P := Tryz.prog) n c m d hn hm h1 h2)
  clear hn hm h1 h2
  go_enter Tryz.func73, Tryz.ntmps73
  go_wp2_with fail
  rw [run_callFunc_extern Tryz.func89 (by kernel_rfl) (by kernel_rfl) (by kernel_rfl) (e := Extern.BytealgCompare.compare) (by kernel_rfl), Hr.out]
  simp only [Result.andThen]
  rw [Oper.upon_value]
  go_wp2_with fail
  go_ret
  exact ⟨rfl, rfl⟩
set_option maxRecDepth 100000 in
set_option maxHeartbeats 400000 in
theorem stringsCompare_any (a b : List UInt8) (w : World) :
    Calls Tryz.prog 51 #[.string (strB a), .string (strB b)] w fun e w' => e = .returned (.int .i64 (cb a b)) ∧ w' = w := by
  have Hr := Lib.hid (Lib.run_compareString (P := Tryz.prog) (strB a) (strB b) w)
  go_enter Tryz.func51, Tryz.ntmps51
  go_wp2_with (first | go_in)
  rw [run_callFunc_extern Tryz.func87 (by kernel_rfl) (by kernel_rfl) (by kernel_rfl) (e := Extern.BytealgCompare.compare) (by kernel_rfl), Hr.out]
  simp only [Result.andThen]
  rw [Oper.upon_value, strB_data, strB_data]
  go_wp2_with fail
  go_ret
  exact ⟨rfl, rfl⟩
set_option maxHeartbeats 400000 in
theorem compareI_any (x y : Int) (w : World) :
    Calls Tryz.prog 72 #[.int .i64 x, .int .i64 y] w fun e w' => e = .returned (.int .i64 (ci x y)) ∧ w' = w := by
  have h1 : x < y → ci x y = -1 := fun h => by unfold ci Lib.compareInt; rw [if_pos h]
  have h2 : y < x → ci x y = 1 := fun h => by unfold ci Lib.compareInt; rw [if_neg (by omega), if_pos h]
  have h3 : x = y → ci x y = 0 := fun h => by unfold ci Lib.compareInt; rw [if_neg (by omega), if_neg (by omega)]
  rcases (by omega : x < y ∨ y < x ∨ x = y) with h | h | h
  · have H := Lib.hid (h1 h)
    have h' : ¬ y < x := by omega
    clear h1 h2 h3
    generalize ci x y = r at *
    go_enter Tryz.func72, Tryz.ntmps72
    go_wp2
    go_ret
    exact ⟨by rw [H.out]; rfl, rfl⟩
  · have H := Lib.hid (h2 h)
    have h' : ¬ x < y := by omega
    clear h1 h2 h3
    generalize ci x y = r at *
    go_enter Tryz.func72, Tryz.ntmps72
    go_wp2
    go_ret
    exact ⟨by rw [H.out]; rfl, rfl⟩
  · subst h
    have H := Lib.hid (h3 rfl)
    clear h1 h2 h3
    generalize ci x x = r at *
    go_enter Tryz.func72, Tryz.ntmps72
    go_wp2
    go_ret
    exact ⟨by rw [H.out]; rfl, rfl⟩
/-- the first that is not 0 -/
def or4 (a b c d : Int) : Int := orI a (orI b (orI c d))
set_option maxRecDepth 100000 in
set_option maxHeartbeats 800000 in
theorem or4_any (g : Nat) (a b c d : Int) (w : World) (h : Blk w g 3 #[.int .i64 a, .int .i64 b, .int .i64 c, .int .i64 d]) :
    Calls Tryz.prog 71 #[.slice (some ⟨g, 0, none⟩) 4 4] w fun e w' => e = .returned (.int .i64 (or4 a b c d)) ∧ w' = w := by
  have h0 : w.cell? ⟨g, 0, none⟩ = some (.int .i64 a) := by rw [h.cell]; rfl
  have h1 : w.cell? ⟨g, 1, none⟩ = some (.int .i64 b) := by rw [h.cell]; rfl
  have h2 : w.cell? ⟨g, 2, none⟩ = some (.int .i64 c) := by rw [h.cell]; rfl
  have h3 : w.cell? ⟨g, 3, none⟩ = some (.int .i64 d) := by rw [h.cell]; rfl
  have Ha : Hid (a ≠ 0 → or4 a b c d = a) := Lib.hid (fun h => by unfold or4 orI; rw [if_pos h])
  have Hb : Hid (a = 0 → b ≠ 0 → or4 a b c d = b) := Lib.hid (fun h h2 => by unfold or4 orI; rw [if_neg (by simpa using h), if_pos h2])
  have Hc : Hid (a = 0 → b = 0 → c ≠ 0 → or4 a b c d = c) := Lib.hid (fun h h2 h3 => by unfold or4 orI; rw [if_neg (by simpa using h), if_neg (by simpa using h2), if_pos h3])
  have Hd : Hid (a = 0 → b = 0 → c = 0 → or4 a b c d = d) := Lib.hid (fun h h2 h3 => by unfold or4 orI; rw [if_neg (by simpa using h), if_neg (by simpa using h2), if_neg (by simpa using h3)])
  clear h
  generalize or4 a b c d = r at *
  go_enter Tryz.func71, Tryz.ntmps71
  go_wp2_with fail
  go_loop [8] (fun i => ∃ k : Nat, k ≤ 4 ∧ i = .int .i64 (k : Int) ∧ (1 ≤ k → a = 0) ∧ (2 ≤ k → b = 0) ∧ (3 ≤ k → c = 0) ∧ (4 ≤ k → d = 0)) (fun i => 4 - (intOf i).toNat)
  case atStart => exact ⟨0, by omega, rfl, by omega, by omega, by omega, by omega⟩
  case round =>
    obtain ⟨k, hk, rfl, k1, k2, k3, k4⟩ := hrel
    have K1 := Lib.hid k1
    have K2 := Lib.hid k2
    have K3 := Lib.hid k3
    have K4 := Lib.hid k4
    clear k1 k2 k3 k4
    rcases (by omega : k = 0 ∨ k = 1 ∨ k = 2 ∨ k = 3 ∨ k = 4) with rfl | rfl | rfl | rfl | rfl
    · by_cases hz : a = 0
      · subst hz
        go_wp2_with fail
        go_round
        case rel => exact ⟨1, by omega, by go_num, by simp, by omega, by omega, by omega⟩
        case measure => simp [intOf]
      · have hz' : (a != 0) = true := by simpa using hz
        go_wp2_with fail
        go_ret
        exact ⟨by rw [Ha.out hz]; rfl, rfl⟩
    · have Z1 := Lib.hid (K1.out (by omega))
      by_cases hz : b = 0
      · subst hz
        go_wp2_with fail
        go_round
        case rel => exact ⟨2, by omega, by go_num, fun _ => Z1.out, by simp, by omega, by omega⟩
        case measure => simp [intOf]
      · have hz' : (b != 0) = true := by simpa using hz
        go_wp2_with fail
        go_ret
        exact ⟨by rw [Hb.out Z1.out hz]; rfl, rfl⟩
    · have Z1 := Lib.hid (K1.out (by omega))
      have Z2 := Lib.hid (K2.out (by omega))
      by_cases hz : c = 0
      · subst hz
        go_wp2_with fail
        go_round
        case rel => exact ⟨3, by omega, by go_num, fun _ => Z1.out, fun _ => Z2.out, by simp, by omega⟩
        case measure => simp [intOf]
      · have hz' : (c != 0) = true := by simpa using hz
        go_wp2_with fail
        go_ret
        exact ⟨by rw [Hc.out Z1.out Z2.out hz]; rfl, rfl⟩
    · have Z1 := Lib.hid (K1.out (by omega))
      have Z2 := Lib.hid (K2.out (by omega))
      have Z3 := Lib.hid (K3.out (by omega))
      by_cases hz : d = 0
      · subst hz
        go_wp2_with fail
        go_round
        case rel => exact ⟨4, by omega, by go_num, fun _ => Z1.out, fun _ => Z2.out, fun _ => Z3.out, by simp⟩
        case measure => simp [intOf]
      · have hz' : (d != 0) = true := by simpa using hz
        go_wp2_with fail
        go_ret
        exact ⟨by rw [Hd.out Z1.out Z2.out Z3.out]; rfl, rfl⟩
    · have Z := Lib.hid (Hd.out (K1.out (by omega)) (K2.out (by omega)) (K3.out (by omega)))
      have Z4 := Lib.hid (K4.out (by omega))
      go_wp2_with fail
      go_ret
      exact ⟨by rw [Z.out, Z4.out]; rfl, rfl⟩
set_option maxHeartbeats 400000 in
theorem goneI_any (x : Fx) (w : World) :
    Calls Tryz.prog 70 #[fV x] w fun e w' => e = .returned (.int .i64 (gi x.1.gone)) ∧ Below w.heap.size w w' := by
  obtain ⟨⟨nm, bs, st, nd, gn⟩, A, n, c⟩ := x
  unfold fV slv
  dsimp only
  cases gn with
  | true =>
    go_enter Tryz.func70, Tryz.ntmps70
    go_wp2
    go_ret
    exact ⟨rfl, (Below.refl _ _).alloc (Nat.le_refl _) _⟩
  | false =>
    go_enter Tryz.func70, Tryz.ntmps70
    go_wp2
    go_ret
    exact ⟨rfl, (Below.refl _ _).alloc (Nat.le_refl _) _⟩
end Go.Proofs.YtdoegpklephelaaGreatDoor.Merge

/- package merge: Newer. -/
namespace Go.Proofs.YtdoegpklephelaaGreatDoor.Merge
open Go Go.RowKit Go.Proofs.YtdoegpklephelaaGreatDoor Go.Proofs.YtdoegpklephelaaGreatDoor.Name
set_option linter.unusedVariables false

theorem later_or4 (a b : Fl) : later a b = or4 (ci a.stamp b.stamp) (ci a.node b.node) (ci (gi a.gone) (gi b.gone)) (cb a.bytes b.bytes) := rfl
set_option maxRecDepth 100000 in
set_option maxHeartbeats 1600000 in
theorem newer_any (x y : Fx) (w : World) (hx : FileAt w x) (hy : FileAt w y) :
    Calls Tryz.prog 52 #[fV x, fV y] w fun e w' => e = .returned (.int .i64 (later x.1 y.1)) ∧ Below w.heap.size w w' := by
  obtain ⟨⟨n1, b1, s1, d1, g1⟩, A1, l1, c1⟩ := x
  obtain ⟨⟨n2, b2, s2, d2, g2⟩, A2, l2, c2⟩ := y
  have Hx := Lib.hid hx
  have Hy := Lib.hid hy
  clear hx hy
  unfold fV slv
  dsimp only
  obtain ⟨w2, hw2⟩ : ∃ w2, w2 = (w.alloc (.cells #[.string (strB n1), .slice A1 l1 c1, .int .i64 s1, .int .i64 d1, .bool g1] 49)).alloc (.cells #[.string (strB n2), .slice A2 l2 c2, .int .i64 s2, .int .i64 d2, .bool g2] 49) := ⟨_, rfl⟩
  have hb2 : Below w.heap.size w w2 := by rw [hw2]; exact ((Below.refl _ _).alloc (Nat.le_refl _) _).alloc (by simp) _
  have B1 : Blk w2 w.heap.size 49 #[.string (strB n1), .slice A1 l1 c1, .int .i64 s1, .int .i64 d1, .bool g1] := by rw [hw2]; exact (Blk.new _ _ _).alloc _
  have B2 : Blk w2 (w.heap.size + 1) 49 #[.string (strB n2), .slice A2 l2 c2, .int .i64 s2, .int .i64 d2, .bool g2] := by
    rw [hw2]
    have := Blk.new (w.alloc (.cells #[.string (strB n1), .slice A1 l1 c1, .int .i64 s1, .int .i64 d1, .bool g1] 49)) 49 #[.string (strB n2), .slice A2 l2 c2, .int .i64 s2, .int .i64 d2, .bool g2]
    simpa using this
  have Hx2 := Lib.hid (Hx.out.below hb2)
  have Hy2 := Lib.hid (Hy.out.below hb2)
  have Hb2 := Lib.hid hb2
  have p0 := fun p : BelowBy w2 => BelowBy.cell (show w2.cell? ⟨w.heap.size, 0, none⟩ = some (.string (strB n1)) by rw [B1.cell]; rfl) p
  have p1 := fun p : BelowBy w2 => BelowBy.cell (show w2.cell? ⟨w.heap.size, 1, none⟩ = some (.slice A1 l1 c1) by rw [B1.cell]; rfl) p
  have p2 := fun p : BelowBy w2 => BelowBy.cell (show w2.cell? ⟨w.heap.size, 2, none⟩ = some (.int .i64 s1) by rw [B1.cell]; rfl) p
  have p3 := fun p : BelowBy w2 => BelowBy.cell (show w2.cell? ⟨w.heap.size, 3, none⟩ = some (.int .i64 d1) by rw [B1.cell]; rfl) p
  have p4 := fun p : BelowBy w2 => BelowBy.cell (show w2.cell? ⟨w.heap.size, 4, none⟩ = some (.bool g1) by rw [B1.cell]; rfl) p
  have q0 := fun p : BelowBy w2 => BelowBy.cell (show w2.cell? ⟨w.heap.size + 1, 0, none⟩ = some (.string (strB n2)) by rw [B2.cell]; rfl) p
  have q1 := fun p : BelowBy w2 => BelowBy.cell (show w2.cell? ⟨w.heap.size + 1, 1, none⟩ = some (.slice A2 l2 c2) by rw [B2.cell]; rfl) p
  have q2 := fun p : BelowBy w2 => BelowBy.cell (show w2.cell? ⟨w.heap.size + 1, 2, none⟩ = some (.int .i64 s2) by rw [B2.cell]; rfl) p
  have q3 := fun p : BelowBy w2 => BelowBy.cell (show w2.cell? ⟨w.heap.size + 1, 3, none⟩ = some (.int .i64 d2) by rw [B2.cell]; rfl) p
  have q4 := fun p : BelowBy w2 => BelowBy.cell (show w2.cell? ⟨w.heap.size + 1, 4, none⟩ = some (.bool g2) by rw [B2.cell]; rfl) p
  have HL := Lib.hid (later_or4 ⟨n1, b1, s1, d1, g1⟩ ⟨n2, b2, s2, d2, g2⟩)
  have hl1 : l1 = b1.length := Hx.out.len
  have hl2 : l2 = b2.length := Hy.out.len
  have Hl1 := Lib.hid hl1
  have Hl2 := Lib.hid hl2
  have Hw2 := Lib.hid hw2.symm
  clear B1 B2 hb2 hl1 hl2 hw2
  go_enter Tryz.func52, Tryz.ntmps52
  go_wp2_with fail
  rw [Hw2.out]
  clear Hw2
  refine wp_region_below_tail 22 (by kernel_rfl) (by kernel_rfl) ?_
  simp only [List.take_succ_cons, List.take_zero, List.drop_succ_cons, List.drop_zero]
  repeat (quiet_step (first
    | exact belowBy_same (compareI_any _ _ _)
    | exact belowBy_calls (goneI_any (⟨n1, b1, s1, d1, g1⟩, A1, l1, c1) _)
    | exact belowBy_calls (goneI_any (⟨n2, b2, s2, d2, g2⟩, A2, l2, c2) _)
    | exact belowBy_same (bytesCompare_any _ _ _ _ _ _ _ _ _ Hl1.out Hl2.out (Hx2.out.below (BelowBy.h _)).at_ (Hy2.out.below (BelowBy.h _)).at_)))
  refine wpQuiet_nil ?_
  intro wq hq
  have hbq : Below w2.heap.size w2 wq := by obtain ⟨p, hp⟩ := hq; rw [hp]; exact p.h
  clear hq
  have Hbq := Lib.hid (Hb2.out.trans (hbq.mono Hb2.out.size))
  clear p0 p1 p2 p3 p4 q0 q1 q2 q3 q4 hbq
  have Bk := Lib.hid (Blk.new wq 3 #[.int .i64 (ci s1 s2), .int .i64 (ci d1 d2), .int .i64 (ci (gi g1) (gi g2)), .int .i64 (cb b1 b2)])
  have Hb3 := Lib.hid (Hbq.out.alloc Hbq.out.size (.cells #[.int .i64 (ci s1 s2), .int .i64 (ci d1 d2), .int .i64 (ci (gi g1) (gi g2)), .int .i64 (cb b1 b2)] 3))
  go_wp2_with fail
  refine (or4_any _ _ _ _ _ _ Bk.out).mono ?_
  rintro e wx ⟨rfl, hw⟩
  have hw := hw.symm
  subst hw
  go_wp2_with fail
  go_ret
  exact ⟨by rw [HL.out]; rfl, Hb3.out⟩
end Go.Proofs.YtdoegpklephelaaGreatDoor.Merge

/- reliquaryref: SameFile, SameFiles. -/
namespace Go.Proofs.YtdoegpklephelaaGreatDoor.Merge
open Go Go.RowKit Go.Proofs.YtdoegpklephelaaGreatDoor Go.Proofs.YtdoegpklephelaaGreatDoor.Name
set_option linter.unusedVariables false

theorem strB_inj (xs ys : List UInt8) : ((strB xs).toList == (strB ys).toList) = decide (xs = ys) := by
  rw [ByteArray.toList_eq, ByteArray.toList_eq, Bool.eq_iff_iff]; simp [strB]
theorem strB_nums (xs : List UInt8) : strOfNums (xs.map n8) = strB xs := by
  unfold strOfNums strB
  rw [List.map_map]
  have : ((fun n => UInt8.ofNat n.toNat) ∘ n8) = id := by
    funext x; simp [n8]
  rw [this, List.map_id]
theorem conv_bytes (A : Option Addr) (n c : Nat) (xs : List UInt8) (w : World) (hn : xs.length = n) (h : ByAt w A xs) :
    (convert 27 9 (.slice A n c)).run Tryz.prog w = .ok (.string (strB xs)) w := by
  rw [← strB_nums]
  cases n with
  | zero =>
    have : xs = [] := List.eq_nil_of_length_eq_zero hn
    subst this
    exact run_convert_bytes_zero w _ _ Tryz.underlying27 Tryz.underlying5 A c _ Tryz.underlying9
  | succ n =>
    obtain ⟨b, o, rfl, _⟩ := SlAt.get h (k := 0) (by simp; omega)
    refine run_convert_bytes_arg w _ _ Tryz.underlying27 Tryz.underlying5 b o _ c _ (by simpa using hn) (fun i hi => ?_) _ Tryz.underlying9
    obtain ⟨b', o', hb, hc⟩ := SlAt.get h (k := i) (by simp; omega)
    injection hb with hb; injection hb with h1 h2 h3
    subst h1 h2
    rw [hc]
    have : i < xs.length := by omega
    simp [List.getD, u8v, this]
set_option maxHeartbeats 400000 in
theorem equal_any (A B : Option Addr) (n m ca cb : Nat) (xs ys : List UInt8) (w : World) (hn : xs.length = n) (hm : ys.length = m) (ha : ByAt w A xs) (hb : ByAt w B ys) :
    Calls Tryz.prog 57 #[.slice A n ca, .slice B m cb] w fun e w' => e = .returned (.bool (decide (xs = ys))) ∧ w' = w := by
  have k1 := conv_bytes A n ca xs w hn ha
  have k2 := conv_bytes B m cb ys w hm hb
  have K : Hid ((xs == ys) = decide (xs = ys)) := Lib.hid (by rw [Bool.eq_iff_iff]; simp)
  clear hn hm ha hb
  go_enter Tryz.func57, Tryz.ntmps57
  go_wp2_with fail
  go_ret
  exact ⟨ret_bool K.out, rfl⟩
theorem blk5 {w : World} {g : Nat} {t : TypeId} {v0 v1 v2 v3 v4 : Value} (h : Blk w g t #[v0, v1, v2, v3, v4]) :
    w.cell? ⟨g, 0, none⟩ = some v0 ∧ w.cell? ⟨g, 1, none⟩ = some v1 ∧ w.cell? ⟨g, 2, none⟩ = some v2 ∧ w.cell? ⟨g, 3, none⟩ = some v3 ∧ w.cell? ⟨g, 4, none⟩ = some v4 :=
  ⟨by rw [h.cell]; rfl, by rw [h.cell]; rfl, by rw [h.cell]; rfl, by rw [h.cell]; rfl, by rw [h.cell]; rfl⟩
def sameF (a b : Fl) : Bool := decide (a.name = b.name) && decide (a.bytes = b.bytes) && decide (a.stamp = b.stamp) && decide (a.node = b.node) && decide (a.gone = b.gone)
theorem sameF_iff (a b : Fl) : sameF a b = true ↔ a = b := by
  cases a; cases b
  simp [sameF, and_assoc]
set_option maxHeartbeats 1600000 in
theorem sameFile_any (x y : Fx) (w : World) (hx : FileAt w x) (hy : FileAt w y) :
    Calls Tryz.prog 39 #[fV x, fV y] w fun e w' => e = .returned (.bool (sameF x.1 y.1)) ∧ Below w.heap.size w w' := by
  obtain ⟨⟨n1, b1, s1, d1, g1⟩, A1, l1, c1⟩ := x
  obtain ⟨⟨n2, b2, s2, d2, g2⟩, A2, l2, c2⟩ := y
  unfold fV slv
  dsimp only
  obtain ⟨w2, hw2⟩ : ∃ w2, w2 = (w.alloc (.cells #[.string (strB n1), .slice A1 l1 c1, .int .i64 s1, .int .i64 d1, .bool g1] 49)).alloc (.cells #[.string (strB n2), .slice A2 l2 c2, .int .i64 s2, .int .i64 d2, .bool g2] 49) := ⟨_, rfl⟩
  have hb2 : Below w.heap.size w w2 := by rw [hw2]; exact ((Below.refl _ _).alloc (Nat.le_refl _) _).alloc (by simp) _
  have hl1 : l1 = b1.length := hx.len
  have hl2 : l2 = b2.length := hy.len
  have B1 : Blk w2 w.heap.size 49 #[.string (strB n1), .slice A1 l1 c1, .int .i64 s1, .int .i64 d1, .bool g1] := by rw [hw2]; exact (Blk.new _ _ _).alloc _
  have B2 : Blk w2 (w.heap.size + 1) 49 #[.string (strB n2), .slice A2 l2 c2, .int .i64 s2, .int .i64 d2, .bool g2] := by
    rw [hw2]
    have := Blk.new (w.alloc (.cells #[.string (strB n1), .slice A1 l1 c1, .int .i64 s1, .int .i64 d1, .bool g1] 49)) 49 #[.string (strB n2), .slice A2 l2 c2, .int .i64 s2, .int .i64 d2, .bool g2]
    simpa using this
  have HB := Lib.hid (And.intro B1 B2)
  have He := Lib.hid (equal_any A1 A2 l1 l2 c1 c2 b1 b2 w2 hl1.symm hl2.symm (hx.below hb2).at_ (hy.below hb2).at_)
  have Hb2 := Lib.hid hb2
  have Hw2 := Lib.hid hw2.symm
  have Hsf : Hid (sameF ⟨n1, b1, s1, d1, g1⟩ ⟨n2, b2, s2, d2, g2⟩ = (decide (n1 = n2) && decide (b1 = b2) && decide (s1 = s2) && decide (d1 = d2) && decide (g1 = g2))) := Lib.hid rfl
  clear hb2 hw2 hl1 hl2 hx hy B1 B2
  by_cases h1 : n1 = n2
  · subst h1
    by_cases h2 : b1 = b2
    · rw [decide_eq_true h2] at He Hsf
      clear h2
      by_cases h3 : s1 = s2
      · subst h3
        by_cases h4 : d1 = d2
        · subst h4
          have e5 : (g1 == g2) = decide (g1 = g2) := by cases g1 <;> cases g2 <;> rfl
          have E5 := Lib.hid e5
          clear e5
          go_enter Tryz.func39, Tryz.ntmps39
          go_wp2_with fail
          rw [Hw2.out]
          refine (He.out).mono ?_
          rintro e w3 ⟨rfl, h⟩
          have h := h.symm
          subst h
          have p := blk5 HB.out.1
          have q := blk5 HB.out.2
          obtain ⟨p0, p1, p2, p3, p4⟩ := p
          obtain ⟨q0, q1, q2, q3, q4⟩ := q
          go_wp2_with fail
          go_ret
          exact ⟨ret_bool (by rw [Hsf.out]; simp; exact E5.out), Hb2.out⟩
        · have f4 : (d1 == d2) = false := by simp [h4]
          rw [decide_eq_false h4] at Hsf
          clear h4
          go_enter Tryz.func39, Tryz.ntmps39
          go_wp2_with fail
          rw [Hw2.out]
          refine (He.out).mono ?_
          rintro e w3 ⟨rfl, h⟩
          have h := h.symm
          subst h
          have p := blk5 HB.out.1
          have q := blk5 HB.out.2
          obtain ⟨p0, p1, p2, p3, p4⟩ := p
          obtain ⟨q0, q1, q2, q3, q4⟩ := q
          go_wp2_with fail
          go_ret
          exact ⟨ret_bool (by rw [Hsf.out]; simp), Hb2.out⟩
      · have f3 : (s1 == s2) = false := by simp [h3]
        rw [decide_eq_false h3] at Hsf
        clear h3
        go_enter Tryz.func39, Tryz.ntmps39
        go_wp2_with fail
        rw [Hw2.out]
        refine (He.out).mono ?_
        rintro e w3 ⟨rfl, h⟩
        have h := h.symm
        subst h
        have p := blk5 HB.out.1
        have q := blk5 HB.out.2
        obtain ⟨p0, p1, p2, p3, p4⟩ := p
        obtain ⟨q0, q1, q2, q3, q4⟩ := q
        go_wp2_with fail
        go_ret
        exact ⟨ret_bool (by rw [Hsf.out]; simp), Hb2.out⟩
    · rw [decide_eq_false h2] at He Hsf
      clear h2
      go_enter Tryz.func39, Tryz.ntmps39
      go_wp2_with fail
      rw [Hw2.out]
      refine (He.out).mono ?_
      rintro e w3 ⟨rfl, h⟩
      have h := h.symm
      subst h
      have p := blk5 HB.out.1
      have q := blk5 HB.out.2
      obtain ⟨p0, p1, p2, p3, p4⟩ := p
      obtain ⟨q0, q1, q2, q3, q4⟩ := q
      go_wp2_with fail
      go_ret
      exact ⟨ret_bool (by rw [Hsf.out]; simp), Hb2.out⟩
  · have f1 : (n1 == n2) = false := by simp [h1]
    rw [decide_eq_false h1] at Hsf
    clear h1
    go_enter Tryz.func39, Tryz.ntmps39
    go_wp2_with fail
    rw [Hw2.out]
    go_ret
    exact ⟨ret_bool (by rw [Hsf.out]; simp), Hb2.out⟩
end Go.Proofs.YtdoegpklephelaaGreatDoor.Merge

/- package merge: Check. -/
namespace Go.Proofs.YtdoegpklephelaaGreatDoor.Merge
open Go Go.RowKit Go.Proofs.YtdoegpklephelaaGreatDoor Go.Proofs.YtdoegpklephelaaGreatDoor.Name
set_option linter.unusedVariables false

/-- behind the first k, of which the last is told -/
def lastN (l : List Fl) (k : Nat) : Option (List UInt8) := if k = 0 then none else some (l.getD (k - 1) ⟨[], [], 0, 0, false⟩).name
theorem chkR_step (p : Option (List UInt8)) (f : Fl) (l : List Fl) (h1 : fileE f = 0) (h2 : upB p f.name = true) : chkR p (f :: l) = chkR (some f.name) l := by
  simp only [chkR]
  rw [if_neg (by simpa using h1), if_neg (by rw [h2]; simp)]
theorem chkR_bad (p : Option (List UInt8)) (f : Fl) (l : List Fl) (h1 : fileE f ≠ 0) : chkR p (f :: l) = fileE f := by
  simp only [chkR]; rw [if_pos h1]
theorem chkR_down (p : Option (List UInt8)) (f : Fl) (l : List Fl) (h1 : fileE f = 0) (h2 : upB p f.name = false) : chkR p (f :: l) = 4 := by
  simp only [chkR]; rw [if_neg (by simpa using h1), if_pos h2]
theorem drop_cons {α : Type} (l : List α) (k : Nat) (h : k < l.length) : l.drop k = l[k] :: l.drop (k + 1) := (List.drop_eq_getElem_cons h)
/-- what remains to be asked, behind k -/
def RestOk (l : List Fl) (k : Nat) : Prop := chkF l = chkR (lastN l k) (l.drop k)
theorem rest_zero (l : List Fl) (h : l.length ≤ 12) : RestOk l 0 := by unfold RestOk chkF lastN; rw [if_neg (by omega), if_pos rfl]; rfl
theorem rest_next (l : List Fl) (k : Nat) (hk : k < l.length) (h : RestOk l k) (h1 : fileE l[k] = 0) (h2 : upB (lastN l k) l[k].name = true) : RestOk l (k + 1) := by
  unfold RestOk at *
  rw [h, drop_cons l k hk, chkR_step _ _ _ h1 h2]
  congr 1
  unfold lastN
  rw [if_neg (by omega)]
  simp [List.getD_eq_getElem?_getD, hk]
theorem rest_end (l : List Fl) (k : Nat) (hk : k = l.length) (h : RestOk l k) : chkF l = 0 := by
  unfold RestOk at h
  rw [h, List.drop_of_length_le (by omega)]
  rfl
theorem rest_bad (l : List Fl) (k : Nat) (hk : k < l.length) (h : RestOk l k) (h1 : fileE l[k] ≠ 0) : chkF l = fileE l[k] := by
  unfold RestOk at h
  rw [h, drop_cons l k hk, chkR_bad _ _ _ h1]
theorem rest_down (l : List Fl) (k : Nat) (hk : k < l.length) (h : RestOk l k) (h1 : fileE l[k] = 0) (h2 : upB (lastN l k) l[k].name = false) : chkF l = 4 := by
  unfold RestOk at h
  rw [h, drop_cons l k hk, chkR_down _ _ _ h1 h2]
theorem _root_.Go.RowKit.Below.drewN' {B : Nat} {a w : World} (h : Below B a w) (n : Nat) : Below B a (w.drewN n) := ⟨h.os, h.tape, h.output, h.size, h.block⟩
set_option maxRecDepth 100000 in
set_option maxHeartbeats 2000000 in
theorem check_any (v : Value) (l : List Fx) (w : World) (hm : ML w) (h : IsFiles w v l) :
    Calls Tryz.prog 24 #[v] w fun e w' => e = .returned (.int .i64 (chkF (l.map Prod.fst))) ∧ Below w.heap.size w w' := by
  obtain ⟨A, cap, rfl, hcap, hcm, hA, hA0, hdeep⟩ := h
  have HA := Lib.hid hA
  have Hd := Lib.hid hdeep
  have Hm := Lib.hid hm
  clear hA hA0 hdeep hm
  have hcm' : cap ≤ 9223372036854775807 := by unfold maxLen at hcm; omega
  clear hcm
  obtain ⟨n, hn⟩ : ∃ n, n = l.length := ⟨_, rfl⟩
  have Hn := Lib.hid hn.symm
  rw [← hn] at hcap ⊢
  clear hn
  by_cases h12 : 12 < n
  · have Hc : Hid (chkF (l.map Prod.fst) = 2) := Lib.hid (by unfold chkF; rw [List.length_map, Hn.out, if_pos h12])
    have h12i : (12 : Int) < (n : Int) := by omega
    go_enter Tryz.func24, Tryz.ntmps24
    go_wp2_with fail
    go_ret
    exact ⟨by rw [Hc.out]; rfl, Below.refl _ _⟩
  · have h12i : ¬ (12 : Int) < (n : Int) := by omega
    have H0 := Lib.hid (rest_zero (l.map Prod.fst) (by rw [List.length_map, Hn.out]; omega))
    have Hnext := Lib.hid (rest_next (l.map Prod.fst))
    have Hend := Lib.hid (rest_end (l.map Prod.fst))
    have Hbad := Lib.hid (rest_bad (l.map Prod.fst))
    have Hdown := Lib.hid (rest_down (l.map Prod.fst))
    have HL : Hid ((l.map Prod.fst).length = n) := Lib.hid (by rw [List.length_map, Hn.out])
    have Hget : Hid (∀ k (hk : k < l.length) (hk2 : k < (l.map Prod.fst).length), (l.map Prod.fst)[k] = l[k].1) := Lib.hid (fun k hk hk2 => by rw [List.getElem_map])
    generalize l.map Prod.fst = m at *
    go_enter Tryz.func24, Tryz.ntmps24
    go_wp2_with fail
    go_loopw [11] (fun i wr => ∃ k : Nat, k ≤ n ∧ i = .int .i64 (k : Int) ∧ RestOk m k ∧ Below w.heap.size w wr) (fun i _ => n - (intOf i).toNat)
    case atStart => exact ⟨0, Nat.zero_le _, rfl, H0.out, Below.refl _ _⟩
    case round =>
      obtain ⟨k, hk, rfl, hr, hb⟩ := hrel
      have Hb := Lib.hid hb
      have Hr := Lib.hid hr
      clear hb hr
      by_cases hlt : k < n
      · have hkl : k < l.length := by rw [Hn.out]; exact hlt
        have hkm : k < m.length := by rw [HL.out]; exact hlt
        obtain ⟨b, o, rfl, hc0, hc1, hc2, hc3, hc4⟩ := files_cells (HA.out.below Hb.out) hkl
        have hfd := Hd.out l[k] (List.getElem_mem hkl)
        have HNx : Hid (fileE l[k].1 = 0 → upB (lastN m k) l[k].1.name = true → RestOk m (k + 1)) := Lib.hid (fun h1 h2 => Hnext.out k hkm Hr.out (by rw [Hget.out k hkl hkm]; exact h1) (by rw [Hget.out k hkl hkm]; exact h2))
        have HBd : Hid (fileE l[k].1 ≠ 0 → chkF m = fileE l[k].1) := Lib.hid (fun h1 => by rw [Hbad.out k hkm Hr.out (by rw [Hget.out k hkl hkm]; exact h1), Hget.out k hkl hkm])
        have HDn : Hid (fileE l[k].1 = 0 → upB (lastN m k) l[k].1.name = false → chkF m = 4) := Lib.hid (fun h1 h2 => Hdown.out k hkm Hr.out (by rw [Hget.out k hkl hkm]; exact h1) (by rw [Hget.out k hkl hkm]; exact h2))
        have HPrev : Hid (k ≠ 0 → ∃ q : List UInt8, lastN m k = some q ∧ wr.cell? ⟨b, o + (k - 1) * 5, none⟩ = some (.string (strB q))) := Lib.hid (fun h0 => by
          have hk1 : k - 1 < l.length := by omega
          have hk2 : k - 1 < m.length := by omega
          obtain ⟨b', o', e, hp0, _⟩ := files_cells (HA.out.below Hb.out) hk1
          injection e with e
          injection e with e1 e2 e3
          subst e1 e2
          refine ⟨l[k - 1].1.name, ?_, hp0⟩
          unfold lastN
          rw [if_neg h0]
          have := Hget.out (k - 1) hk1 hk2
          simp [List.getD_eq_getElem?_getD, hk2, this])
        generalize l[k] = x at *
        obtain ⟨⟨nm, bs, st, nd, gn⟩, As, ln, cp⟩ := x
        simp only [slv] at hc0 hc1 hc2 hc3 hc4 HNx HBd HDn hfd
        have Hln : Hid (ln = bs.length) := Lib.hid hfd.len
        have hnm : nm.length ≤ maxLen := hfd.name
        clear hfd
        have HC := Lib.hid (fun w' (hb : Below w.heap.size w w') => checkN_any nm w' hnm (Hm.out.below hb))
        clear hnm
        go_wp2_with fail
        refine (HC.out _ (Hb.out.alloc Hb.out.size _)).mono ?_
        rintro e w2 ⟨rfl, hb2⟩
        have Hb2 := Lib.hid (stepN (Hb.out.alloc Hb.out.size (.cells #[.string (strB nm), .slice As ln cp, .int .i64 st, .int .i64 nd, .bool gn] 49)) hb2)
        have BX : Hid (Blk w2 wr.heap.size 49 #[.string (strB nm), .slice As ln cp, .int .i64 st, .int .i64 nd, .bool gn]) := Lib.hid ((Blk.new wr _ _).below hb2 (by simp))
        have e0 : w2.cell? ⟨wr.heap.size, 0, none⟩ = some (.string (strB nm)) := by rw [BX.out.cell]; rfl
        have e1 : w2.cell? ⟨wr.heap.size, 1, none⟩ = some (.slice As ln cp) := by rw [BX.out.cell]; rfl
        have e2 : w2.cell? ⟨wr.heap.size, 2, none⟩ = some (.int .i64 st) := by rw [BX.out.cell]; rfl
        have e3 : w2.cell? ⟨wr.heap.size, 3, none⟩ = some (.int .i64 nd) := by rw [BX.out.cell]; rfl
        have e4 : w2.cell? ⟨wr.heap.size, 4, none⟩ = some (.bool gn) := by rw [BX.out.cell]; rfl
        have HP2 : Hid (k ≠ 0 → ∃ q : List UInt8, lastN m k = some q ∧ w2.cell? ⟨b, o + (k - 1) * 5, none⟩ = some (.string (strB q))) := Lib.hid (fun h0 => by
          obtain ⟨q, h1, h2⟩ := HPrev.out h0
          exact ⟨q, h1, cell_below hb2 (cell_below ((Below.refl _ _).alloc (Nat.le_refl _) _) h2)⟩)
        have HF : Hid (fileE ⟨nm, bs, st, nd, gn⟩ = if nameE nm ≠ 0 then nameE nm else if 3000 < bs.length then 2 else if st < 0 ∨ 1000000 < st ∨ nd < 0 ∨ 4 ≤ nd then 3 else if gn = true ∧ bs ≠ [] then 4 else 0) := Lib.hid rfl
        generalize fileE ⟨nm, bs, st, nd, gn⟩ = fe at *
        clear hb2 HPrev hc0 hc1 hc2 hc3 hc4 HC
        by_cases g1 : nameE nm = 0
        · rw [g1] at HF ⊢
          by_cases g2 : 3000 < ln
          · have Hfe : Hid (fe = 2) := Lib.hid (by rw [HF.out, if_neg (by simp), if_pos (by rw [← Hln.out]; exact g2)])
            have Hc : Hid (chkF m = 2) := Lib.hid (by rw [HBd.out (by rw [Hfe.out]; decide), Hfe.out])
            have g2i : (3000 : Int) < (ln : Int) := by omega
            go_wp2_with fail
            go_ret
            exact ⟨by rw [Hc.out]; rfl, Hb2.out⟩
          · have g2i : ¬ (3000 : Int) < (ln : Int) := by omega
            have G2 : Hid (¬ 3000 < bs.length) := Lib.hid (by rw [← Hln.out]; exact g2)
            by_cases g3 : st < 0 ∨ 1000000 < st ∨ nd < 0 ∨ 4 ≤ nd
            · have Hfe : Hid (fe = 3) := Lib.hid (by rw [HF.out, if_neg (by simp), if_neg G2.out, if_pos g3])
              have Hc : Hid (chkF m = 3) := Lib.hid (by rw [HBd.out (by rw [Hfe.out]; decide), Hfe.out])
              by_cases k1 : st < 0
              · go_wp2_with fail
                go_ret
                exact ⟨by rw [Hc.out]; rfl, Hb2.out⟩
              · by_cases k2 : 1000000 < st
                · go_wp2_with fail
                  go_ret
                  exact ⟨by rw [Hc.out]; rfl, Hb2.out⟩
                · by_cases k3 : nd < 0
                  · go_wp2_with fail
                    go_ret
                    exact ⟨by rw [Hc.out]; rfl, Hb2.out⟩
                  · have k4 : 4 ≤ nd := by omega
                    go_wp2_with fail
                    go_ret
                    exact ⟨by rw [Hc.out]; rfl, Hb2.out⟩
            · have k1 : ¬ st < 0 := by omega
              have k2 : ¬ 1000000 < st := by omega
              have k3 : ¬ nd < 0 := by omega
              have k4 : ¬ 4 ≤ nd := by omega
              have HF2 : Hid (fe = if gn = true ∧ bs ≠ [] then 4 else 0) := Lib.hid (by rw [HF.out, if_neg (by simp), if_neg G2.out, if_neg g3])
              clear g3
              by_cases g5 : gn = true ∧ bs ≠ []
              · obtain ⟨rfl, g6⟩ := g5
                have Hfe : Hid (fe = 4) := Lib.hid (by rw [HF2.out, if_pos ⟨rfl, g6⟩])
                have Hc : Hid (chkF m = 4) := Lib.hid (by rw [HBd.out (by rw [Hfe.out]; decide), Hfe.out])
                have g5n : 0 < ln := by rw [Hln.out]; exact List.length_pos_iff.2 g6
                have g5i : (0 : Int) < (ln : Int) := by omega
                have g5d : decide ((0 : Int) < (ln : Int)) = true := by simpa using g5i
                clear HNx HBd HDn HP2
                go_wp2_with fail
                go_big_quiet (fail)
                go_wp2_with fail
                go_ret
                exact ⟨by rw [Hc.out]; rfl, Hb2.out.drewN' _⟩
              · have Hfe : Hid (fe = 0) := Lib.hid (by rw [HF2.out, if_neg g5])
                cases gn with
                | true =>
                  obtain rfl : ln = 0 := by
                    rw [Hln.out, List.length_eq_zero_iff]
                    exact Classical.byContradiction fun e => g5 ⟨rfl, e⟩
                  clear g5
                  by_cases hk0 : k = 0
                  · have Hnx : Hid (RestOk m (k + 1)) := Lib.hid (HNx.out Hfe.out (by rw [hk0]; rfl))
                    subst hk0
                    clear HNx HBd HDn HP2
                    go_wp2_with fail
                    go_big_quiet (fail)
                    go_wp2_with fail
                    go_roundw
                    case rel => exact ⟨1, by omega, by go_num, Hnx.out, Hb2.out.drewN' _⟩
                    case measure => simp [intOf]; omega
                  · have hkp : 0 < k := by omega
                    obtain ⟨q, hq1, hq2⟩ := HP2.out hk0
                    have hkd : decide ((0 : Int) < (k : Int)) = true := by simpa using hkp
                    have hks : IntKind.i64.wrap ((k : Int) - 1) = (k : Int) - 1 := IntWalk.i64_in _ (by omega)
                    have hk1 : (0 : Int) ≤ (k : Int) - 1 := by omega
                    have hk2 : ((k : Int) - 1).toNat = k - 1 := by omega
                    have hk3 : ((k : Int) - 1) < (n : Int) := by omega
                    have hk4 : k - 1 < n := by omega
                    have HNx2 := HNx.out Hfe.out
                    have HDn2 := HDn.out Hfe.out
                    rw [hq1] at HNx2 HDn2
                    cases hle : Op.bytesLess q nm with
                    | true =>
                      have Hnx : Hid (RestOk m (k + 1)) := Lib.hid (HNx2 (by show decide (cb q nm < 0) = _; rw [← less_cb]; exact hle))
                      clear HNx HBd HDn HP2 HNx2 HDn2 hq1
                      go_wp2_with fail
                      go_big_quiet (fail)
                      go_wp2_with fail
                      go_roundw
                      case rel => exact ⟨k + 1, by omega, by go_num, Hnx.out, Hb2.out.drewN' _⟩
                      case measure => simp [intOf]; omega
                    | false =>
                      have Hc : Hid (chkF m = 4) := Lib.hid (HDn2 (by show decide (cb q nm < 0) = _; rw [← less_cb]; exact hle))
                      clear HNx HBd HDn HP2 HNx2 HDn2 hq1
                      go_wp2_with fail
                      go_big_quiet (fail)
                      go_wp2_with fail
                      go_ret
                      exact ⟨by rw [Hc.out]; rfl, Hb2.out.drewN' _⟩
                | false =>
                  clear g5
                  by_cases hk0 : k = 0
                  · have Hnx : Hid (RestOk m (k + 1)) := Lib.hid (HNx.out Hfe.out (by rw [hk0]; rfl))
                    subst hk0
                    clear HNx HBd HDn HP2
                    go_wp2_with fail
                    go_big_quiet (fail)
                    go_wp2_with fail
                    go_roundw
                    case rel => exact ⟨1, by omega, by go_num, Hnx.out, Hb2.out.drewN' _⟩
                    case measure => simp [intOf]; omega
                  · have hkp : 0 < k := by omega
                    obtain ⟨q, hq1, hq2⟩ := HP2.out hk0
                    have hkd : decide ((0 : Int) < (k : Int)) = true := by simpa using hkp
                    have hks : IntKind.i64.wrap ((k : Int) - 1) = (k : Int) - 1 := IntWalk.i64_in _ (by omega)
                    have hk1 : (0 : Int) ≤ (k : Int) - 1 := by omega
                    have hk2 : ((k : Int) - 1).toNat = k - 1 := by omega
                    have hk3 : ((k : Int) - 1) < (n : Int) := by omega
                    have hk4 : k - 1 < n := by omega
                    have HNx2 := HNx.out Hfe.out
                    have HDn2 := HDn.out Hfe.out
                    rw [hq1] at HNx2 HDn2
                    cases hle : Op.bytesLess q nm with
                    | true =>
                      have Hnx : Hid (RestOk m (k + 1)) := Lib.hid (HNx2 (by show decide (cb q nm < 0) = _; rw [← less_cb]; exact hle))
                      clear HNx HBd HDn HP2 HNx2 HDn2 hq1
                      go_wp2_with fail
                      go_big_quiet (fail)
                      go_wp2_with fail
                      go_roundw
                      case rel => exact ⟨k + 1, by omega, by go_num, Hnx.out, Hb2.out.drewN' _⟩
                      case measure => simp [intOf]; omega
                    | false =>
                      have Hc : Hid (chkF m = 4) := Lib.hid (HDn2 (by show decide (cb q nm < 0) = _; rw [← less_cb]; exact hle))
                      clear HNx HBd HDn HP2 HNx2 HDn2 hq1
                      go_wp2_with fail
                      go_big_quiet (fail)
                      go_wp2_with fail
                      go_ret
                      exact ⟨by rw [Hc.out]; rfl, Hb2.out.drewN' _⟩
        · have Hfe : Hid (fe = nameE nm) := Lib.hid (by rw [HF.out, if_pos g1])
          have Hc : Hid (chkF m = nameE nm) := Lib.hid (by rw [HBd.out (by rw [Hfe.out]; exact g1), Hfe.out])
          generalize nameE nm = z at *
          have hz1 : (z != 0) = true := by simpa using g1
          go_wp2_with fail
          go_ret
          exact ⟨by rw [Hc.out]; rfl, Hb2.out⟩
      · obtain rfl : k = n := by omega
        have He : Hid (chkF m = 0) := Lib.hid (Hend.out k (by rw [HL.out]) Hr.out)
        go_wp2_with fail
        go_ret
        exact ⟨by rw [He.out]; rfl, Hb.out⟩
end Go.Proofs.YtdoegpklephelaaGreatDoor.Merge
