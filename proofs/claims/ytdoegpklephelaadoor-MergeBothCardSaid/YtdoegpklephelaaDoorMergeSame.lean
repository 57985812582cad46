/- reliquaryref: SameFile, SameFiles. -/
import Derived.Test.YtdoegpklephelaaDoorMergeCopy
import Derived.Laws.BytesArg
import Derived.Shelf.Bytes.SlSmallAll
namespace Go.Proofs.YtdoegpklephelaaDoor.Merge
open Go Go.RowKit Go.Proofs.YtdoegpklephelaaDoor Go.Proofs.YtdoegpklephelaaDoor.Name
set_option linter.unusedVariables false

theorem strB_inj (xs ys : List UInt8) : ((strB xs).toList == (strB ys).toList) = decide (xs = ys) := by
  rw [ByteArray.toList_eq, ByteArray.toList_eq, Bool.eq_iff_iff]; simp [strB]
theorem strB_nums (xs : List UInt8) : strOfNums (xs.map n8) = strB xs := by
  unfold strOfNums strB
  rw [List.map_map]
  have : ((fun n => UInt8.ofNat n.toNat) ∘ n8) = id := by
    funext x; simp [n8]
  rw [this, List.map_id]
theorem conv_bytes (A : Option Addr) (n c : Nat) (xs : List UInt8) (w : World) (hn : xs.length = n) (h : ByAt w A xs) :
    (convert 31 9 (.slice A n c)).run Tryd.prog w = .ok (.string (strB xs)) w := by
  rw [← strB_nums]
  cases n with
  | zero =>
    have : xs = [] := List.eq_nil_of_length_eq_zero hn
    subst this
    exact run_convert_bytes_zero w _ _ Tryd.underlying31 Tryd.underlying5 A c _ Tryd.underlying9
  | succ n =>
    obtain ⟨b, o, rfl, _⟩ := SlAt.get h (k := 0) (by simp; omega)
    refine run_convert_bytes_arg w _ _ Tryd.underlying31 Tryd.underlying5 b o _ c _ (by simpa using hn) (fun i hi => ?_) _ Tryd.underlying9
    obtain ⟨b', o', hb, hc⟩ := SlAt.get h (k := i) (by simp; omega)
    injection hb with hb; injection hb with h1 h2 h3
    subst h1 h2
    rw [hc]
    have : i < xs.length := by omega
    simp [List.getD, u8v, this]
set_option maxHeartbeats 400000 in
theorem equal_any (A B : Option Addr) (n m ca cb : Nat) (xs ys : List UInt8) (w : World) (hn : xs.length = n) (hm : ys.length = m) (ha : ByAt w A xs) (hb : ByAt w B ys) :
    Calls Tryd.prog 40 #[.slice A n ca, .slice B m cb] w fun e w' => e = .returned (.bool (decide (xs = ys))) ∧ w' = w := by
  have k1 := conv_bytes A n ca xs w hn ha
  have k2 := conv_bytes B m cb ys w hm hb
  have K : Hid ((xs == ys) = decide (xs = ys)) := Lib.hid (by rw [Bool.eq_iff_iff]; simp)
  clear hn hm ha hb
  go_enter Tryd.func40, Tryd.ntmps40
  go_wp2_with fail
  go_ret
  exact ⟨ret_bool K.out, rfl⟩
theorem blk5 {w : World} {g : Nat} {t : TypeId} {v0 v1 v2 v3 v4 : Value} (h : Blk w g t #[v0, v1, v2, v3, v4]) :
    w.cell? ⟨g, 0, none⟩ = some v0 ∧ w.cell? ⟨g, 1, none⟩ = some v1 ∧ w.cell? ⟨g, 2, none⟩ = some v2 ∧ w.cell? ⟨g, 3, none⟩ = some v3 ∧ w.cell? ⟨g, 4, none⟩ = some v4 :=
  ⟨by rw [h.cell]; rfl, by rw [h.cell]; rfl, by rw [h.cell]; rfl, by rw [h.cell]; rfl, by rw [h.cell]; rfl⟩
def sameF (a b : Fl) : Bool := decide (a.name = b.name) && decide (a.bytes = b.bytes) && decide (a.stamp = b.stamp) && decide (a.node = b.node) && decide (a.gone = b.gone)
theorem sameF_iff (a b : Fl) : sameF a b = true ↔ a = b := by
  cases a; cases b
  simp [sameF, and_assoc]
set_option maxHeartbeats 1600000 in
theorem sameFile_any (x y : Fx) (w : World) (hx : FileAt w x) (hy : FileAt w y) :
    Calls Tryd.prog 45 #[fV x, fV y] w fun e w' => e = .returned (.bool (sameF x.1 y.1)) ∧ Below w.heap.size w w' := by
  obtain ⟨⟨n1, b1, s1, d1, g1⟩, A1, l1, c1⟩ := x
  obtain ⟨⟨n2, b2, s2, d2, g2⟩, A2, l2, c2⟩ := y
  unfold fV slv
  dsimp only
  obtain ⟨w2, hw2⟩ : ∃ w2, w2 = (w.alloc (.cells #[.string (strB n1), .slice A1 l1 c1, .int .i64 s1, .int .i64 d1, .bool g1] 33)).alloc (.cells #[.string (strB n2), .slice A2 l2 c2, .int .i64 s2, .int .i64 d2, .bool g2] 33) := ⟨_, rfl⟩
  have hb2 : Below w.heap.size w w2 := by rw [hw2]; exact ((Below.refl _ _).alloc (Nat.le_refl _) _).alloc (by simp) _
  have hl1 : l1 = b1.length := hx.len
  have hl2 : l2 = b2.length := hy.len
  have B1 : Blk w2 w.heap.size 33 #[.string (strB n1), .slice A1 l1 c1, .int .i64 s1, .int .i64 d1, .bool g1] := by rw [hw2]; exact (Blk.new _ _ _).alloc _
  have B2 : Blk w2 (w.heap.size + 1) 33 #[.string (strB n2), .slice A2 l2 c2, .int .i64 s2, .int .i64 d2, .bool g2] := by
    rw [hw2]
    have := Blk.new (w.alloc (.cells #[.string (strB n1), .slice A1 l1 c1, .int .i64 s1, .int .i64 d1, .bool g1] 33)) 33 #[.string (strB n2), .slice A2 l2 c2, .int .i64 s2, .int .i64 d2, .bool g2]
    simpa using this
  have HB := Lib.hid (And.intro B1 B2)
  have He := Lib.hid (equal_any A1 A2 l1 l2 c1 c2 b1 b2 w2 hl1.symm hl2.symm (hx.below hb2).at_ (hy.below hb2).at_)
  have Hb2 := Lib.hid hb2
  have Hw2 := Lib.hid hw2.symm
  have Hsf : Hid (sameF ⟨n1, b1, s1, d1, g1⟩ ⟨n2, b2, s2, d2, g2⟩ = (decide (n1 = n2) && decide (b1 = b2) && decide (s1 = s2) && decide (d1 = d2) && decide (g1 = g2))) := Lib.hid rfl
  clear hb2 hw2 hl1 hl2 hx hy B1 B2
  by_cases h1 : n1 = n2
  · subst h1
    by_cases h2 : b1 = b2
    · rw [decide_eq_true h2] at He Hsf
      clear h2
      by_cases h3 : s1 = s2
      · subst h3
        by_cases h4 : d1 = d2
        · subst h4
          have e5 : (g1 == g2) = decide (g1 = g2) := by cases g1 <;> cases g2 <;> rfl
          have E5 := Lib.hid e5
          clear e5
          go_enter Tryd.func45, Tryd.ntmps45
          go_wp2_with fail
          rw [Hw2.out]
          refine (He.out).mono ?_
          rintro e w3 ⟨rfl, h⟩
          have h := h.symm
          subst h
          have p := blk5 HB.out.1
          have q := blk5 HB.out.2
          obtain ⟨p0, p1, p2, p3, p4⟩ := p
          obtain ⟨q0, q1, q2, q3, q4⟩ := q
          go_wp2_with fail
          go_ret
          exact ⟨ret_bool (by rw [Hsf.out]; simp; exact E5.out), Hb2.out⟩
        · have f4 : (d1 == d2) = false := by simp [h4]
          rw [decide_eq_false h4] at Hsf
          clear h4
          go_enter Tryd.func45, Tryd.ntmps45
          go_wp2_with fail
          rw [Hw2.out]
          refine (He.out).mono ?_
          rintro e w3 ⟨rfl, h⟩
          have h := h.symm
          subst h
          have p := blk5 HB.out.1
          have q := blk5 HB.out.2
          obtain ⟨p0, p1, p2, p3, p4⟩ := p
          obtain ⟨q0, q1, q2, q3, q4⟩ := q
          go_wp2_with fail
          go_ret
          exact ⟨ret_bool (by rw [Hsf.out]; simp), Hb2.out⟩
      · have f3 : (s1 == s2) = false := by simp [h3]
        rw [decide_eq_false h3] at Hsf
        clear h3
        go_enter Tryd.func45, Tryd.ntmps45
        go_wp2_with fail
        rw [Hw2.out]
        refine (He.out).mono ?_
        rintro e w3 ⟨rfl, h⟩
        have h := h.symm
        subst h
        have p := blk5 HB.out.1
        have q := blk5 HB.out.2
        obtain ⟨p0, p1, p2, p3, p4⟩ := p
        obtain ⟨q0, q1, q2, q3, q4⟩ := q
        go_wp2_with fail
        go_ret
        exact ⟨ret_bool (by rw [Hsf.out]; simp), Hb2.out⟩
    · rw [decide_eq_false h2] at He Hsf
      clear h2
      go_enter Tryd.func45, Tryd.ntmps45
      go_wp2_with fail
      rw [Hw2.out]
      refine (He.out).mono ?_
      rintro e w3 ⟨rfl, h⟩
      have h := h.symm
      subst h
      have p := blk5 HB.out.1
      have q := blk5 HB.out.2
      obtain ⟨p0, p1, p2, p3, p4⟩ := p
      obtain ⟨q0, q1, q2, q3, q4⟩ := q
      go_wp2_with fail
      go_ret
      exact ⟨ret_bool (by rw [Hsf.out]; simp), Hb2.out⟩
  · have f1 : (n1 == n2) = false := by simp [h1]
    rw [decide_eq_false h1] at Hsf
    clear h1
    go_enter Tryd.func45, Tryd.ntmps45
    go_wp2_with fail
    rw [Hw2.out]
    go_ret
    exact ⟨ret_bool (by rw [Hsf.out]; simp), Hb2.out⟩
end Go.Proofs.YtdoegpklephelaaDoor.Merge
