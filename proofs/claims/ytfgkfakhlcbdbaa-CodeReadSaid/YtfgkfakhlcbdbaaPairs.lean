/- slices that are read, in general; pairs of numbers. -/
import Derived.Test.YtfgkfakhlcbdbaaRead
import Derived.Test.YtfgkfakhlcbdbaaInAt
namespace Go.Proofs.Ytfgkfakhlcbdbaa
open Go Go.ChangeShapes Go.WideShapes Go.ChangeAt Go.RowKit
set_option linter.unusedVariables false

/-- v is a slice whose elements are l -/
def IsL {α : Type} (w : World) (cells : α → List Value) (deep : α → Prop) (v : Value) (l : List α) : Prop :=
  ∃ A cap, v = .slice A l.length cap ∧ l.length ≤ cap ∧ cap ≤ maxLen ∧ SlAt w A (l.flatMap cells) ∧ (A = none → l = []) ∧ ∀ a ∈ l, deep a
theorem open_L {H : Type} {enc : TypeId × Value → H} {P : Program} {w : World} {α : Type} [Inhabited α] {t e : TypeId} {cells : α → List Value} {deep : α → Prop} {size : Nat} (ht : P.underlying t = some (.slice e)) (hsz : P.cellsOf e = size) (hpos : 0 < size) (hc : ∀ a, (cells a).length = size)
    (he : ∀ enc : TypeId × Value → H, Rd H enc P w e cells deep) {base b0 : Nat} {spare : Nat → Bool} {held : Bool} {r : Reach} {v : Value} {d : DataW H} {ps : List MemPlace} (hv : Value.okWide P w r b0 t v) (h : DataW.Trod enc P w base spare held t v d ps) :
    ∃ l : List α, IsL w cells deep v l ∧ dlen d = l.length := by
  obtain ⟨A, len, cap, rfl⟩ := okWide_slice ht hv
  obtain ⟨fuel, hf⟩ := h
  obtain ⟨s, h1, h2, h3⟩ := rd_slice ht hsz hpos hc (he enc) hf
  refine ⟨s.l, ⟨s.A, s.cap, ?_, h2⟩, h3⟩
  simpa [Value.cells, slCells] using h1
def pairC (p : Int × Int) : List Value := [iv p.1, iv p.2]
def intC (x : Int) : List Value := [iv x]
def wfI (x : Int) : Prop := (Lit.int .i64 x).wf = true
theorem rd_pair {H : Type} {enc : TypeId × Value → H} {P : Program} {w : World} {t e : TypeId} (ht : P.underlying t = some (.array 2 e)) (he : P.underlying e = some (.int .i64)) (hc : P.cellsOf e = 1) (hc2 : P.cellsOf t = 2) :
    Rd H enc P w t pairC (fun p => wfI p.1 ∧ wfI p.2) := by
  intro base spare held fuel cs x h
  obtain ⟨xs, m, _, _, hl, hxl, hel⟩ := DataW.trod_array ht h
  rw [hc2] at hl
  have h0 := hel 0 (by omega)
  have h1 := hel 1 (by omega)
  rw [hc] at h0 h1
  match cs, hl with
  | [a, b], _ =>
    simp at h0 h1
    have hx0 : ∃ y, xs[0]? = some y := ⟨xs[0]'(by omega), by simp⟩
    have hx1 : ∃ y, xs[1]? = some y := ⟨xs[1]'(by omega), by simp⟩
    obtain ⟨y0, e0⟩ := hx0
    obtain ⟨y1, e1⟩ := hx1
    rw [e0] at h0
    rw [e1] at h1
    obtain ⟨n0, q0, _, w0⟩ := DataW.trod_int he h0
    obtain ⟨n1, q1, _, w1⟩ := DataW.trod_int he h1
    injection q0 with q0 _
    injection q1 with q1 _
    subst q0 q1
    exact ⟨(n0, n1), rfl, w0, w1⟩
theorem rd_i64 {H : Type} {enc : TypeId × Value → H} {P : Program} {w : World} {t : TypeId} (ht : P.underlying t = some (.int .i64)) : Rd H enc P w t intC wfI := rd_int ht
theorem flat_at {α : Type} (f : α → List Value) (size : Nat) (hs : ∀ a, (f a).length = size) (l : List α) (k j : Nat) (hk : k < l.length) (hj : j < size) : (l.flatMap f)[k * size + j]? = (f l[k])[j]? := by
  induction l generalizing k with
  | nil => simp at hk
  | cons a l ih =>
    rw [List.flatMap_cons]
    cases k with
    | zero => rw [List.getElem?_append_left (by rw [hs]; omega)]; simp
    | succ k =>
      rw [List.getElem?_append_right (by rw [hs]; rw [Nat.succ_mul]; omega), hs, show (k + 1) * size + j - size = k * size + j by rw [Nat.succ_mul]; omega, ih k (by simpa using hk)]
      simp
theorem slat_elem {α : Type} {w : World} {A : Option Addr} {f : α → List Value} {size : Nat} (hs : ∀ a, (f a).length = size) (hpos : 0 < size) {l : List α} (h : SlAt w A (l.flatMap f)) {k : Nat} (hk : k < l.length) :
    ∃ b o, A = some ⟨b, o, none⟩ ∧ ∀ j v, (f l[k])[j]? = some v → w.cell? ⟨b, o + k * size + j, none⟩ = some v := by
  have hlen : (l.flatMap f).length = l.length * size := by
    clear hk h
    induction l with
    | nil => simp
    | cons a l ih => rw [List.flatMap_cons, List.length_append, hs, ih, List.length_cons, Nat.succ_mul]; omega
  have hp : 0 < (l.flatMap f).length := by rw [hlen]; exact Nat.mul_pos (by omega) hpos
  obtain ⟨b, o, e, hc⟩ := h hp
  refine ⟨b, o, e, fun j v hj => ?_⟩
  rw [Nat.add_assoc]
  refine hc _ v ?_
  have hjs : j < size := by
    rcases Nat.lt_or_ge j (f l[k]).length with h | h
    · rw [hs] at h; exact h
    · rw [List.getElem?_eq_none h] at hj; cases hj
  rw [flat_at f size hs l k j hk hjs, hj]
end Go.Proofs.Ytfgkfakhlcbdbaa
