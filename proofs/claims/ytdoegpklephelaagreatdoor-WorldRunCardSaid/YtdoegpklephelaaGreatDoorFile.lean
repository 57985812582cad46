/- files in memory: what came in, what is read. -/
import Derived.Test.YtdoegpklephelaaGreatDoorMergePure
import Derived.Test.YtdoegpklephelaaGreatDoorName0
import Derived.Test.YtdoegpklephelaaGreatDoorPairs
namespace Go.Proofs.YtdoegpklephelaaGreatDoor.Merge
open Go Go.RowKit Go.Proofs.YtdoegpklephelaaGreatDoor Go.Proofs.YtdoegpklephelaaGreatDoor.Name
set_option linter.unusedVariables false

/-- a slice: where it lies, how many, its room -/
abbrev Sl3 := Option Addr × Nat × Nat
def slv (s : Sl3) : Value := .slice s.1 s.2.1 s.2.2
/-- a file, with where its bytes lie -/
abbrev Fx := Fl × Sl3
def fC (x : Fx) : List Value := [.string (strB x.1.name), slv x.2, .int .i64 x.1.stamp, .int .i64 x.1.node, .bool x.1.gone]
def fV (x : Fx) : Value := .agg #[.string (strB x.1.name), slv x.2, .int .i64 x.1.stamp, .int .i64 x.1.node, .bool x.1.gone]
/-- the bytes of a file lie where it says -/
structure FileAt (w : World) (x : Fx) : Prop where
  len : x.2.2.1 = x.1.bytes.length
  room : x.1.bytes.length ≤ x.2.2.2
  cap : x.2.2.2 ≤ maxLen
  at_ : ByAt w x.2.1 x.1.bytes
  name : x.1.name.length ≤ maxLen
  stamp : wfI x.1.stamp
  node : wfI x.1.node
theorem FileAt.below {w w' : World} {x : Fx} (h : FileAt w x) (hb : Below w.heap.size w w') : FileAt w' x := ⟨h.len, h.room, h.cap, SlAt.below h.at_ hb, h.name, h.stamp, h.node⟩
theorem FileAt.bytes {w : World} {x : Fx} (h : FileAt w x) : IsBytes w (slv x.2) x.1.bytes := by
  obtain ⟨x, A, n, c⟩ := x
  have := h.len
  simp only at this
  subst this
  exact ⟨A, c, rfl, h.room, h.cap, h.at_⟩
/-- files that are read -/
def IsFiles (w : World) (v : Value) (l : List Fx) : Prop := IsL w fC (FileAt w) v l
theorem IsFiles.below {w w' : World} {v : Value} {l : List Fx} (h : IsFiles w v l) (hb : Below w.heap.size w w') : IsFiles w' v l := by
  obtain ⟨A, cap, h1, h2, h3, h4, h5, h6⟩ := h
  exact ⟨A, cap, h1, h2, h3, SlAt.below h4 hb, h5, fun a ha => (h6 a ha).below hb⟩
theorem fC_len (x : Fx) : (fC x).length = 5 := rfl
theorem fCs_len (l : List Fx) : (l.flatMap fC).length = l.length * 5 := by
  induction l with
  | nil => rfl
  | cons a l ih => rw [List.flatMap_cons, List.length_append, ih, fC_len, List.length_cons]; omega
theorem fCs_one (l : List Fx) : ∀ u ∈ l.flatMap fC, u.oneCell' = true := by
  intro u hu
  obtain ⟨x, _, hx⟩ := List.mem_flatMap.1 hu
  simp [fC] at hx
  rcases hx with rfl | rfl | rfl | rfl | rfl <;> rfl
/-- the cells of one file -/
theorem files_cells {w : World} {A : Option Addr} {l : List Fx} (h : SlAt w A (l.flatMap fC)) {k : Nat} (hk : k < l.length) : ∃ b o, A = some ⟨b, o, none⟩ ∧
    w.cell? ⟨b, o + k * 5, none⟩ = some (.string (strB l[k].1.name)) ∧ w.cell? ⟨b, o + k * 5 + 1, none⟩ = some (slv l[k].2) ∧ w.cell? ⟨b, o + k * 5 + 2, none⟩ = some (.int .i64 l[k].1.stamp) ∧
    w.cell? ⟨b, o + k * 5 + 3, none⟩ = some (.int .i64 l[k].1.node) ∧ w.cell? ⟨b, o + k * 5 + 4, none⟩ = some (.bool l[k].1.gone) := by
  obtain ⟨b, o, e, hc⟩ := slat_elem (size := 5) fC_len (by omega) h hk
  exact ⟨b, o, e, hc 0 _ rfl, hc 1 _ rfl, hc 2 _ rfl, hc 3 _ rfl, hc 4 _ rfl⟩
theorem len5 {α : Type} {l : List α} (h : l.length = 5) : ∃ a b c d e, l = [a, b, c, d, e] := by
  match l, h with
  | [a, b, c, d, e], _ => exact ⟨a, b, c, d, e, rfl⟩
theorem bytes_slice {w : World} {v : Value} {xs : List UInt8} (h : IsBytes w v xs) : ∃ s : Sl3, v = slv s ∧ s.2.1 = xs.length ∧ xs.length ≤ s.2.2 ∧ s.2.2 ≤ maxLen ∧ ByAt w s.1 xs := by
  obtain ⟨A, c, rfl, h1, h2, h3⟩ := h
  exact ⟨(A, xs.length, c), rfl, rfl, h1, h2, h3⟩
theorem rd_file {H : Type} {enc : TypeId × Value → H} {w : World} : Rd H enc Tryz.prog w 49 fC (FileAt w) := by
  intro base spare held fuel cs x h
  obtain ⟨xs, m, _, _, hl, hxl, hf⟩ := DataW.trod_struct Tryz.underlying49 h
  have hc : Tryz.prog.cellsOf 49 = 5 := by kernel_rfl
  have c1 : Tryz.prog.cellsOf 9 = 1 := by kernel_rfl
  have c2 : Tryz.prog.cellsOf 27 = 1 := by kernel_rfl
  have c3 : Tryz.prog.cellsOf 3 = 1 := by kernel_rfl
  have c4 : Tryz.prog.cellsOf 4 = 1 := by kernel_rfl
  have c5 : Tryz.prog.cellsOf 5 = 1 := by kernel_rfl
  rw [hc] at hl
  obtain ⟨a, b, c, d, e, rfl⟩ := len5 hl
  obtain ⟨y0, y1, y2, y3, y4, rfl⟩ := len5 (show xs.length = 5 from hxl)
  have h0 : DataW.trod enc Tryz.prog w base spare held m 9 (List.take (Tryz.prog.cellsOf 9) (List.drop 0 [a, b, c, d, e])) = some y0 := hf 0 _ rfl
  have h1 : DataW.trod enc Tryz.prog w base spare held m 27 (List.take (Tryz.prog.cellsOf 27) (List.drop 1 [a, b, c, d, e])) = some y1 := hf 1 _ rfl
  have h2 : DataW.trod enc Tryz.prog w base spare held m 3 (List.take (Tryz.prog.cellsOf 3) (List.drop 2 [a, b, c, d, e])) = some y2 := hf 2 _ rfl
  have h3 : DataW.trod enc Tryz.prog w base spare held m 3 (List.take (Tryz.prog.cellsOf 3) (List.drop 3 [a, b, c, d, e])) = some y3 := hf 3 _ rfl
  have h4 : DataW.trod enc Tryz.prog w base spare held m 4 (List.take (Tryz.prog.cellsOf 4) (List.drop 4 [a, b, c, d, e])) = some y4 := hf 4 _ rfl
  rw [c1] at h0
  rw [c2] at h1
  rw [c3] at h2 h3
  rw [c4] at h4
  simp only [List.drop_zero, List.drop_succ_cons, List.take_succ_cons, List.take_zero] at h0 h1 h2 h3 h4
  obtain ⟨s, q0, w0⟩ := rd_string Tryz.underlying9 _ _ _ _ _ _ h0
  obtain ⟨p, q1, w1⟩ := rd_bytes Tryz.underlying27 Tryz.underlying5 c5 _ _ _ _ _ _ h1
  obtain ⟨n2, q2, w2⟩ := rd_int Tryz.underlying3 _ _ _ _ _ _ h2
  obtain ⟨n3, q3, w3⟩ := rd_int Tryz.underlying3 _ _ _ _ _ _ h3
  obtain ⟨n4, q4, _⟩ := rd_bool Tryz.underlying4 _ _ _ _ _ _ h4
  injection q0 with q0 _
  injection q1 with q1 _
  injection q2 with q2 _
  injection q3 with q3 _
  injection q4 with q4 _
  obtain ⟨v, bs⟩ := p
  obtain ⟨sl, hv, s1, s2, s3, s4⟩ := bytes_slice w1
  simp only at q1 hv
  subst q0 q1 q2 q3 q4 hv
  exact ⟨(⟨s.data.toList, bs, n2, n3, n4⟩, sl), by simp [fC, strB_back], ⟨s1, s2, s3, s4, by simpa using w0, w2, w3⟩⟩
end Go.Proofs.YtdoegpklephelaaGreatDoor.Merge
