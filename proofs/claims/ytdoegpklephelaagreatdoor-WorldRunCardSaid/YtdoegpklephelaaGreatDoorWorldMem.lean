/- worlds in memory: what came in, what is read. -/
import Derived.Test.YtdoegpklephelaaGreatDoorCloneFB
import Derived.Test.YtdoegpklephelaaGreatDoorWorldLaws
namespace Go.Proofs.YtdoegpklephelaaGreatDoor.Worlds
open Go Go.ChangeShapes Go.WideShapes Go.ChangeAt Go.RowKit Go.Proofs.YtdoegpklephelaaGreatDoor Go.Proofs.YtdoegpklephelaaGreatDoor.Name Go.Proofs.YtdoegpklephelaaGreatDoor.Merge
set_option linter.unusedVariables false

/-- files, with where they lie -/
abbrev Nx := Sl3 × List Fx
def nC (x : Nx) : List Value := [slv x.1]
def NodeAt (w : World) (x : Nx) : Prop := IsFiles w (slv x.1) x.2
/-- a message, with where its files lie -/
abbrev Mx := Int × Nx
def mC (x : Mx) : List Value := [.int .i64 x.1, slv x.2.1]
def MsAt (w : World) (x : Mx) : Prop := wfI x.1 ∧ IsFiles w (slv x.2.1) x.2.2
def flOf (l : List Fx) : List Fl := l.map Prod.fst
def msOf (m : Mx) : Ms := ⟨m.1, flOf m.2.2⟩
/-- a world, with where it lies -/
structure Wx where
  vn : Value
  nodes : List Nx
  vc : Value
  clock : List Int
  vt : Value
  net : List Mx
def wC (x : Wx) : List Value := [x.vn, x.vc, x.vt]
def wV (x : Wx) : Value := .agg #[x.vn, x.vc, x.vt]
structure IsWorld (w : World) (x : Wx) : Prop where
  nodes : IsL w nC (NodeAt w) x.vn x.nodes
  clock : IsL w intC wfI x.vc x.clock
  net : IsL w mC (MsAt w) x.vt x.net
def Wx.wd (x : Wx) : Wd := ⟨x.nodes.map fun n => flOf n.2, x.clock, x.net.map msOf⟩
/-- a happening, with where its bytes lie -/
abbrev Hx := Hp × Sl3
def hC (x : Hx) : List Value := [.int .i64 x.1.kind, .int .i64 x.1.node, .int .i64 x.1.to_, .string (strB x.1.name), slv x.2]
def hV (x : Hx) : Value := .agg #[.int .i64 x.1.kind, .int .i64 x.1.node, .int .i64 x.1.to_, .string (strB x.1.name), slv x.2]
structure HapAt (w : World) (x : Hx) : Prop where
  kind : wfI x.1.kind
  node : wfI x.1.node
  to_ : wfI x.1.to_
  name : x.1.name.length ≤ maxLen
  len : x.2.2.1 = x.1.bytes.length
  room : x.1.bytes.length ≤ x.2.2.2
  cap : x.2.2.2 ≤ maxLen
  at_ : ByAt w x.2.1 x.1.bytes
theorem HapAt.below {w w' : World} {x : Hx} (h : HapAt w x) (hb : Below w.heap.size w w') : HapAt w' x := ⟨h.kind, h.node, h.to_, h.name, h.len, h.room, h.cap, SlAt.below h.at_ hb⟩
theorem isL_below {α : Type} {w w' : World} {cells : α → List Value} {deep deep' : α → Prop} {v : Value} {l : List α} (h : IsL w cells deep v l) (hb : Below w.heap.size w w') (hd : ∀ a, deep a → deep' a) : IsL w' cells deep' v l := by
  obtain ⟨A, cap, h1, h2, h3, h4, h5, h6⟩ := h
  exact ⟨A, cap, h1, h2, h3, SlAt.below h4 hb, h5, fun a ha => hd a (h6 a ha)⟩
theorem NodeAt.below {w w' : World} {x : Nx} (h : NodeAt w x) (hb : Below w.heap.size w w') : NodeAt w' x := IsFiles.below h hb
theorem MsAt.below {w w' : World} {x : Mx} (h : MsAt w x) (hb : Below w.heap.size w w') : MsAt w' x := ⟨h.1, IsFiles.below h.2 hb⟩
theorem IsWorld.below {w w' : World} {x : Wx} (h : IsWorld w x) (hb : Below w.heap.size w w') : IsWorld w' x :=
  ⟨isL_below h.nodes hb fun a ha => ha.below hb, isL_below h.clock hb fun a ha => ha, isL_below h.net hb fun a ha => ha.below hb⟩
theorem nC_len (x : Nx) : (nC x).length = 1 := rfl
theorem mC_len (x : Mx) : (mC x).length = 2 := rfl
theorem hC_len (x : Hx) : (hC x).length = 5 := rfl
theorem intC_len (x : Int) : (intC x).length = 1 := rfl
instance : Inhabited Hx := ⟨(⟨0, 0, 0, [], []⟩, none, 0, 0)⟩
instance : Inhabited Fx := ⟨(⟨[], [], 0, 0, false⟩, none, 0, 0)⟩
section
variable {H : Type} {enc : TypeId × Value → H} {w : World}
set_option maxRecDepth 100000 in
theorem rd_files : Rd H enc Tryz.prog w 46 nC (NodeAt w) := by
  intro base spare held fuel cs x h
  obtain ⟨s, h1, h2, h3⟩ := rd_slice Tryz.underlying46 (show Tryz.prog.cellsOf 49 = 5 by kernel_rfl) (by omega) fC_len (rd_file (w := w)) h
  refine ⟨((s.A, s.l.length, s.cap), s.l), by rw [h1]; rfl, s.A, s.cap, rfl, h2⟩
set_option maxRecDepth 100000 in
theorem rd_msg : Rd H enc Tryz.prog w 54 mC (MsAt w) := by
  intro base spare held fuel cs x h
  obtain ⟨xs, m, _, _, hl, hxl, hf⟩ := DataW.trod_struct Tryz.underlying54 h
  have hc : Tryz.prog.cellsOf 54 = 2 := by kernel_rfl
  have c1 : Tryz.prog.cellsOf 3 = 1 := by kernel_rfl
  have c2 : Tryz.prog.cellsOf 46 = 1 := by kernel_rfl
  rw [hc] at hl
  match cs, xs, hl, (show xs.length = 2 from hxl) with
  | [a, b], [y0, y1], _, _ =>
    have h0 : DataW.trod enc Tryz.prog w base spare held m 3 (List.take (Tryz.prog.cellsOf 3) (List.drop 0 [a, b])) = some y0 := hf 0 _ rfl
    have h1 : DataW.trod enc Tryz.prog w base spare held m 46 (List.take (Tryz.prog.cellsOf 46) (List.drop 1 [a, b])) = some y1 := hf 1 _ rfl
    rw [c1] at h0
    rw [c2] at h1
    simp only [List.drop_zero, List.drop_succ_cons, List.take_succ_cons, List.take_zero] at h0 h1
    obtain ⟨n, q0, w0⟩ := rd_int Tryz.underlying3 _ _ _ _ _ _ h0
    obtain ⟨p, q1, w1⟩ := rd_files _ _ _ _ _ _ h1
    injection q0 with q0 _
    injection q1 with q1 _
    subst q0 q1
    exact ⟨(n, p), rfl, w0, w1⟩
set_option maxRecDepth 100000 in
theorem rd_isL {α : Type} [Inhabited α] {t e : TypeId} {cells : α → List Value} {deep : α → Prop} {size : Nat} (ht : Tryz.prog.underlying t = some (.slice e)) (hsz : Tryz.prog.cellsOf e = size) (hpos : 0 < size) (hc : ∀ a, (cells a).length = size) (he : Rd H enc Tryz.prog w e cells deep) :
    Rd H enc Tryz.prog w t (fun p : Value × List α => [p.1]) (fun p => IsL w cells deep p.1 p.2) := by
  intro base spare held fuel cs x h
  obtain ⟨s, h1, h2, h3⟩ := rd_slice ht hsz hpos hc he h
  exact ⟨(.slice s.A s.l.length s.cap, s.l), by rw [h1]; rfl, s.A, s.cap, rfl, h2⟩
set_option maxRecDepth 100000 in
theorem rd_world : Rd H enc Tryz.prog w 26 wC (IsWorld w) := by
  intro base spare held fuel cs x h
  obtain ⟨xs, m, _, _, hl, hxl, hf⟩ := DataW.trod_struct Tryz.underlying26 h
  have hc : Tryz.prog.cellsOf 26 = 3 := by kernel_rfl
  have c1 : Tryz.prog.cellsOf 22 = 1 := by kernel_rfl
  have c2 : Tryz.prog.cellsOf 23 = 1 := by kernel_rfl
  have c3 : Tryz.prog.cellsOf 24 = 1 := by kernel_rfl
  rw [hc] at hl
  match cs, xs, hl, (show xs.length = 3 from hxl) with
  | [a, b, c], [y0, y1, y2], _, _ =>
    have h0 : DataW.trod enc Tryz.prog w base spare held m 22 (List.take (Tryz.prog.cellsOf 22) (List.drop 0 [a, b, c])) = some y0 := hf 0 _ rfl
    have h1 : DataW.trod enc Tryz.prog w base spare held m 23 (List.take (Tryz.prog.cellsOf 23) (List.drop 1 [a, b, c])) = some y1 := hf 1 _ rfl
    have h2 : DataW.trod enc Tryz.prog w base spare held m 24 (List.take (Tryz.prog.cellsOf 24) (List.drop 2 [a, b, c])) = some y2 := hf 2 _ rfl
    rw [c1] at h0
    rw [c2] at h1
    rw [c3] at h2
    simp only [List.drop_zero, List.drop_succ_cons, List.take_succ_cons, List.take_zero] at h0 h1 h2
    obtain ⟨p, q0, w0⟩ := rd_isL Tryz.underlying22 (by kernel_rfl) (by omega) nC_len rd_files _ _ _ _ _ _ h0
    obtain ⟨q, q1, w1⟩ := rd_isL Tryz.underlying23 (by kernel_rfl) (by omega) intC_len (rd_i64 Tryz.underlying3) _ _ _ _ _ _ h1
    obtain ⟨r, q2, w2⟩ := rd_isL Tryz.underlying24 (by kernel_rfl) (by omega) mC_len rd_msg _ _ _ _ _ _ h2
    injection q0 with q0 _
    injection q1 with q1 _
    injection q2 with q2 _
    subst q0 q1 q2
    exact ⟨⟨p.1, p.2, q.1, q.2, r.1, r.2⟩, rfl, w0, w1, w2⟩
set_option maxRecDepth 100000 in
theorem rd_hap : Rd H enc Tryz.prog w 29 hC (HapAt w) := by
  intro base spare held fuel cs x h
  obtain ⟨xs, m, _, _, hl, hxl, hf⟩ := DataW.trod_struct Tryz.underlying29 h
  have hc : Tryz.prog.cellsOf 29 = 5 := by kernel_rfl
  have c1 : Tryz.prog.cellsOf 9 = 1 := by kernel_rfl
  have c2 : Tryz.prog.cellsOf 27 = 1 := by kernel_rfl
  have c3 : Tryz.prog.cellsOf 3 = 1 := by kernel_rfl
  have c5 : Tryz.prog.cellsOf 5 = 1 := by kernel_rfl
  rw [hc] at hl
  obtain ⟨a, b, c, d, e, rfl⟩ := len5 hl
  obtain ⟨y0, y1, y2, y3, y4, rfl⟩ := len5 (show xs.length = 5 from hxl)
  have h0 : DataW.trod enc Tryz.prog w base spare held m 3 (List.take (Tryz.prog.cellsOf 3) (List.drop 0 [a, b, c, d, e])) = some y0 := hf 0 _ rfl
  have h1 : DataW.trod enc Tryz.prog w base spare held m 3 (List.take (Tryz.prog.cellsOf 3) (List.drop 1 [a, b, c, d, e])) = some y1 := hf 1 _ rfl
  have h2 : DataW.trod enc Tryz.prog w base spare held m 3 (List.take (Tryz.prog.cellsOf 3) (List.drop 2 [a, b, c, d, e])) = some y2 := hf 2 _ rfl
  have h3 : DataW.trod enc Tryz.prog w base spare held m 9 (List.take (Tryz.prog.cellsOf 9) (List.drop 3 [a, b, c, d, e])) = some y3 := hf 3 _ rfl
  have h4 : DataW.trod enc Tryz.prog w base spare held m 27 (List.take (Tryz.prog.cellsOf 27) (List.drop 4 [a, b, c, d, e])) = some y4 := hf 4 _ rfl
  rw [c3] at h0 h1 h2
  rw [c1] at h3
  rw [c2] at h4
  simp only [List.drop_zero, List.drop_succ_cons, List.take_succ_cons, List.take_zero] at h0 h1 h2 h3 h4
  obtain ⟨n0, q0, w0⟩ := rd_int Tryz.underlying3 _ _ _ _ _ _ h0
  obtain ⟨n1, q1, w1⟩ := rd_int Tryz.underlying3 _ _ _ _ _ _ h1
  obtain ⟨n2, q2, w2⟩ := rd_int Tryz.underlying3 _ _ _ _ _ _ h2
  obtain ⟨s, q3, w3⟩ := rd_string Tryz.underlying9 _ _ _ _ _ _ h3
  obtain ⟨p, q4, w4⟩ := rd_bytes Tryz.underlying27 Tryz.underlying5 c5 _ _ _ _ _ _ h4
  injection q0 with q0 _
  injection q1 with q1 _
  injection q2 with q2 _
  injection q3 with q3 _
  injection q4 with q4 _
  obtain ⟨v, bs⟩ := p
  obtain ⟨sl, hv, s1, s2, s3, s4⟩ := bytes_slice w4
  simp only at q4 hv
  subst q0 q1 q2 q3 q4 hv
  exact ⟨(⟨n0, n1, n2, s.data.toList, bs⟩, sl), by simp [hC, strB_back], ⟨w0, w1, w2, by simpa using w3, s1, s2, s3, s4⟩⟩
set_option maxRecDepth 100000 in
theorem open_S {α : Type} {P : Program} {t : TypeId} {fs : Array Field} {cells : α → List Value} {deep : α → Prop} (ht : P.underlying t = some (.struct fs)) (he : Rd H enc P w t cells deep)
    {base b0 : Nat} {spare : Nat → Bool} {held : Bool} {r : Reach} {v : Value} {d : DataW H} {ps : List MemPlace} (hv : Value.okWide P w r b0 t v) (h : DataW.Trod enc P w base spare held t v d ps) :
    ∃ a, v = .agg (cells a).toArray ∧ deep a := by
  simp only [Value.okWide, ht] at hv
  obtain ⟨cs, rfl, _, _⟩ := hv
  obtain ⟨fuel, hf⟩ := h
  obtain ⟨a, h1, h2⟩ := he _ _ _ _ _ _ hf
  refine ⟨a, ?_, h2⟩
  simp only [Value.cells] at h1
  rw [← h1]
set_option maxRecDepth 100000 in
theorem open_world {base b0 : Nat} {spare : Nat → Bool} {held : Bool} {r : Reach} {v : Value} {d : DataW H} {ps : List MemPlace} (hv : Value.okWide Tryz.prog w r b0 26 v) (h : DataW.Trod enc Tryz.prog w base spare held 26 v d ps) :
    ∃ a : Wx, (v = wV a ∧ IsWorld w a) ∧ True := by
  obtain ⟨a, h1, h2⟩ := open_S Tryz.underlying26 rd_world hv h
  exact ⟨a, ⟨h1, h2⟩, trivial⟩
set_option maxRecDepth 100000 in
theorem open_happening {base b0 : Nat} {spare : Nat → Bool} {held : Bool} {r : Reach} {v : Value} {d : DataW H} {ps : List MemPlace} (hv : Value.okWide Tryz.prog w r b0 29 v) (h : DataW.Trod enc Tryz.prog w base spare held 29 v d ps) :
    ∃ a : Hx, (v = hV a ∧ HapAt w a) ∧ True := by
  obtain ⟨a, h1, h2⟩ := open_S Tryz.underlying29 rd_hap hv h
  exact ⟨a, ⟨h1, h2⟩, trivial⟩
set_option maxRecDepth 100000 in
theorem open_script {base b0 : Nat} {spare : Nat → Bool} {held : Bool} {r : Reach} {v : Value} {d : DataW H} {ps : List MemPlace} (hv : Value.okWide Tryz.prog w r b0 38 v) (h : DataW.Trod enc Tryz.prog w base spare held 38 v d ps) :
    ∃ l : List Hx, IsL w hC (HapAt w) v l ∧ dlen d = l.length :=
  open_L (size := 5) Tryz.underlying38 (by kernel_rfl) (by omega) hC_len (fun enc => rd_hap) hv h
set_option maxRecDepth 100000 in
theorem open_files {base b0 : Nat} {spare : Nat → Bool} {held : Bool} {r : Reach} {v : Value} {d : DataW H} {ps : List MemPlace} (hv : Value.okWide Tryz.prog w r b0 46 v) (h : DataW.Trod enc Tryz.prog w base spare held 46 v d ps) :
    ∃ l : List Fx, IsFiles w v l ∧ dlen d = l.length :=
  open_L (size := 5) Tryz.underlying46 (by kernel_rfl) (by omega) fC_len (fun enc => rd_file) hv h
set_option maxRecDepth 100000 in
theorem open_file {base b0 : Nat} {spare : Nat → Bool} {held : Bool} {r : Reach} {v : Value} {d : DataW H} {ps : List MemPlace} (hv : Value.okWide Tryz.prog w r b0 49 v) (h : DataW.Trod enc Tryz.prog w base spare held 49 v d ps) :
    ∃ a : Fx, (v = fV a ∧ FileAt w a) ∧ True := by
  obtain ⟨a, h1, h2⟩ := open_S Tryz.underlying49 rd_file hv h
  exact ⟨a, ⟨h1, h2⟩, trivial⟩
end
end Go.Proofs.YtdoegpklephelaaGreatDoor.Worlds
