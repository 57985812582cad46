/- copies of slices of files and bytes; merge.Copy's -/
import Derived.Test.YtdoegpklephelaaGreatDoorApp
import Derived.Test.YtdoegpklephelaaGreatDoorProg
import Derived.WalkSpells
import Derived.Lib.SliceRun
import Derived.Test.YtdoegpklephelaaGreatDoorFile
import Derived.Test.YtdoegpklephelaaGreatDoorName2
import Derived.Test.YtdoegpklephelaaGreatDoorKeep
import Derived.OneCell
/- slices.Clone[[]reliquary/api.File,reliquary/api.File]. -/
namespace Go.Proofs.YtdoegpklephelaaGreatDoor.CloneF
open Go Go.RowKit Go.Proofs.YtdoegpklephelaaGreatDoor
set_option linter.unusedVariables false

theorem ty : SliceTy Tryz.prog 46 49 (.agg #[.string ByteArray.empty, .slice none 0 0, .int .i64 0, .int .i64 0, .bool false]) 5 64 := ⟨Tryz.underlying46, by kernel_rfl, rfl, by omega⟩
set_option maxRecDepth 100000 in
set_option maxHeartbeats 400000 in
/-- a copy, in memory of its own -/
theorem clone_any (A : Option Addr) (n c : Nat) (cs : List Value) (w : World) (hl : cs.length = n * 5) (hA : SlAt w A cs) (h0 : A = none → n = 0) (h1 : ∀ u ∈ cs, u.oneCell' = true) (hn : n ≤ maxLen) (hb : n * 64 ≤ 140737488355328) :
    Calls Tryz.prog 54 #[.slice A n c] w fun e w' => ∃ v, e = .returned v ∧ w'.ownsRow w.heap.size 49 5 v n cs ∧ Below w.heap.size w w' := by
  have hq := fun (w : World) (a : Option Addr) (l c : Nat) => Lib.run_eql_slice_nil (P := Tryz.prog) w 46 49 a l c 0 0 Tryz.underlying46
  rcases A with _ | ad
  · obtain rfl := h0 rfl
    have hcs : cs = [] := List.eq_nil_of_length_eq_zero (by omega)
    subst hcs
    clear hA h0 h1 hl hn hb
    go_enter Tryz.func54, Tryz.ntmps54
    go_wp2_with fail
    go_ret
    exact ⟨_, rfl, World.ownsRow_nil _ _ _ _, Below.refl _ _⟩
  · have Hown : Hid ((w.alloc (.cells #[] 49)).ownsRow w.heap.size 49 5 (.slice (some ⟨w.heap.size, 0, none⟩) 0 0) 0 []) := Lib.hid (own_zero _ _ _ _ w.heap.size 0 #[] (Nat.le_refl _) (heap_alloc_new w _) (by unfold maxLen; omega) (by simp))
    have Hsl := Lib.hid (hA.alloc (.cells #[] 49))
    have Hb := Lib.hid ((Below.refl w.heap.size w).alloc (Nat.le_refl _) (.cells #[] 49))
    have Hl := Lib.hid hl
    have H1 := Lib.hid h1
    have Hn : Hid (0 + n ≤ maxLen) := Lib.hid (by omega)
    have Hy : Hid ((0 + n) * 64 ≤ 140737488355328) := Lib.hid (by omega)
    clear hA h0 h1 hl hn hb
    go_enter Tryz.func54, Tryz.ntmps54
    go_wp2_with (at_builtin; refine wpList_app _ rfl (.tmp 5) (.tmp 6) _ rfl w.heap.size 49 _ 5 64 ty _ 0 [] rfl Hown.out (some ad) n c cs rfl Hl.out Hsl.out H1.out (by simp) Hn.out Hy.out Hb.out.size ?_; intro v2 w2 hown2 hg2 _; rw [List.nil_append, Nat.zero_add] at hown2; have Ho2 := Lib.hid hown2; have Hb2 := Lib.hid (own_below Hown.out hg2 Hb.out Hb.out.size); clear hown2 hg2)
    go_ret
    exact ⟨_, rfl, Ho2.out, Hb2.out⟩
end Go.Proofs.YtdoegpklephelaaGreatDoor.CloneF

/- slices.Clone[[]byte,byte]. -/
namespace Go.Proofs.YtdoegpklephelaaGreatDoor.CloneB
open Go Go.RowKit Go.Proofs.YtdoegpklephelaaGreatDoor
set_option linter.unusedVariables false

theorem ty : SliceTy Tryz.prog 27 5 (.int .u8 0) 1 1 := ⟨Tryz.underlying27, by kernel_rfl, rfl, by omega⟩
set_option maxRecDepth 100000 in
set_option maxHeartbeats 400000 in
/-- a copy, in memory of its own -/
theorem clone_any (A : Option Addr) (n c : Nat) (cs : List Value) (w : World) (hl : cs.length = n * 1) (hA : SlAt w A cs) (h0 : A = none → n = 0) (h1 : ∀ u ∈ cs, u.oneCell' = true) (hn : n ≤ maxLen) (hb : n * 1 ≤ 140737488355328) :
    Calls Tryz.prog 55 #[.slice A n c] w fun e w' => ∃ v, e = .returned v ∧ w'.ownsRow w.heap.size 5 1 v n cs ∧ Below w.heap.size w w' := by
  have hq := fun (w : World) (a : Option Addr) (l c : Nat) => Lib.run_eql_slice_nil (P := Tryz.prog) w 27 5 a l c 0 0 Tryz.underlying27
  rcases A with _ | ad
  · obtain rfl := h0 rfl
    have hcs : cs = [] := List.eq_nil_of_length_eq_zero (by omega)
    subst hcs
    clear hA h0 h1 hl hn hb
    go_enter Tryz.func55, Tryz.ntmps55
    go_wp2_with fail
    go_ret
    exact ⟨_, rfl, World.ownsRow_nil _ _ _ _, Below.refl _ _⟩
  · have Hown : Hid ((w.alloc (.cells #[] 5)).ownsRow w.heap.size 5 1 (.slice (some ⟨w.heap.size, 0, none⟩) 0 0) 0 []) := Lib.hid (own_zero _ _ _ _ w.heap.size 0 #[] (Nat.le_refl _) (heap_alloc_new w _) (by unfold maxLen; omega) (by simp))
    have Hsl := Lib.hid (hA.alloc (.cells #[] 5))
    have Hb := Lib.hid ((Below.refl w.heap.size w).alloc (Nat.le_refl _) (.cells #[] 5))
    have Hl := Lib.hid hl
    have H1 := Lib.hid h1
    have Hn : Hid (0 + n ≤ maxLen) := Lib.hid (by omega)
    have Hy : Hid ((0 + n) * 1 ≤ 140737488355328) := Lib.hid (by omega)
    clear hA h0 h1 hl hn hb
    go_enter Tryz.func55, Tryz.ntmps55
    go_wp2_with (at_builtin; refine wpList_app _ rfl (.tmp 5) (.tmp 6) _ rfl w.heap.size 5 _ 1 1 ty _ 0 [] rfl Hown.out (some ad) n c cs rfl Hl.out Hsl.out H1.out (by simp) Hn.out Hy.out Hb.out.size ?_; intro v2 w2 hown2 hg2 _; rw [List.nil_append, Nat.zero_add] at hown2; have Ho2 := Lib.hid hown2; have Hb2 := Lib.hid (own_below Hown.out hg2 Hb.out Hb.out.size); clear hown2 hg2)
    go_ret
    exact ⟨_, rfl, Ho2.out, Hb2.out⟩
end Go.Proofs.YtdoegpklephelaaGreatDoor.CloneB

/- package merge: Copy. -/
namespace Go.Proofs.YtdoegpklephelaaGreatDoor.Merge
open Go Go.RowKit Go.Proofs.YtdoegpklephelaaGreatDoor Go.Proofs.YtdoegpklephelaaGreatDoor.Name
set_option linter.unusedVariables false

/-- a file whose bytes lie in a block of the call's own -/
structure OwnF (w : World) (base : Nat) (x : Fx) : Prop where
  own : w.ownsRow base 5 1 (slv x.2) x.1.bytes.length (x.1.bytes.map u8v)
  name : x.1.name.length ≤ maxLen
  stamp : wfI x.1.stamp
  node : wfI x.1.node
theorem OwnF.at_ {w : World} {base : Nat} {x : Fx} (h : OwnF w base x) : FileAt w x := by
  obtain ⟨A, cap, e, h1, h2, h3, _⟩ := own_slat h.own
  obtain ⟨f, A', n', c'⟩ := x
  simp only [slv, Value.slice.injEq] at e
  obtain ⟨rfl, rfl, rfl⟩ := e
  exact ⟨rfl, h1, h2, h3, h.name, h.stamp, h.node⟩
theorem OwnF.below {w w' : World} {base : Nat} {x : Fx} (h : OwnF w base x) (hb : Below w.heap.size w w') : OwnF w' base x := ⟨own_keep h.own hb, h.name, h.stamp, h.node⟩
theorem OwnF.set_ {w : World} {base g : Nat} {x : Fx} {cs : Array Value} (h : OwnF w base x) (hg : Blk w g 49 cs) (i : Nat) (u : Value) : OwnF (w.setCell ⟨g, i, none⟩ u) base x :=
  ⟨ownsRow_setCell_other h.own (a := ⟨g, i, none⟩) (own_ne h.own hg (by decide)) u, h.name, h.stamp, h.node⟩
theorem own_blk {w : World} {base size n cap g : Nat} {e : TypeId} {xs : List Value} (h : w.ownsRow base e size (.slice (some ⟨g, 0, none⟩) n cap) n xs) : base ≤ g ∧ ∃ cs, Blk w g e cs := by
  rcases h.2 with ⟨h1, _⟩ | ⟨g', cap', cur, hv, hb, hg, _⟩
  · cases h1
  · injection hv with hv
    injection hv with hv
    injection hv with hv
    subst hv
    exact ⟨hb, cur, hg⟩
theorem fC_set (a b : List Fx) (x : Fx) (s : Sl3) : ((a ++ x :: b).flatMap fC).set (a.length * 5 + 1) (slv s) = (a ++ (x.1, s) :: b).flatMap fC := by
  rw [List.flatMap_append, List.flatMap_append, List.flatMap_cons, List.flatMap_cons, List.set_append_right _ _ (by rw [fCs_len]; omega), fCs_len, Nat.add_sub_cancel_left]
  rfl
/-- files in memory of the call's own -/
structure OwnFs (w : World) (base : Nat) (v : Value) (l : List Fx) : Prop where
  row : w.ownsRow base 49 5 v l.length (l.flatMap fC)
  each : ∀ x ∈ l, OwnF w base x
theorem OwnFs.below {w w' : World} {base : Nat} {v : Value} {l : List Fx} (h : OwnFs w base v l) (hb : Below w.heap.size w w') : OwnFs w' base v l := ⟨own_keep h.row hb, fun x hx => (h.each x hx).below hb⟩
theorem OwnF.base_ {w : World} {base base' : Nat} {x : Fx} (h : OwnF w base x) (hb : base' ≤ base) : OwnF w base' x := ⟨own_base h.own hb, h.name, h.stamp, h.node⟩
theorem OwnFs.base_ {w : World} {base base' : Nat} {v : Value} {l : List Fx} (h : OwnFs w base v l) (hb : base' ≤ base) : OwnFs w base' v l := ⟨own_base h.row hb, fun x hx => (h.each x hx).base_ hb⟩
theorem OwnFs.nil (w : World) (base : Nat) : OwnFs w base (.slice none 0 0) [] := ⟨World.ownsRow_nil _ _ _ _, by simp⟩
def CopyPost (l : List Fx) (w : World) (e : Ending) (w' : World) : Prop :=
  ∃ v l', e = .returned v ∧ OwnFs w' w.heap.size v l' ∧ l'.map Prod.fst = l.map Prod.fst ∧ Below w.heap.size w w'
theorem own_files {w : World} {base n : Nat} {v : Value} {l : List Fx} (h : w.ownsRow base 49 5 v n (l.flatMap fC)) (hn : l.length = n) (hd : ∀ x ∈ l, FileAt w x) : IsFiles w v l := by
  obtain ⟨A, cap, rfl, h1, h2, h3, h4⟩ := own_slat h
  subst hn
  exact ⟨A, cap, rfl, h1, h2, h3, fun e => List.eq_nil_of_length_eq_zero (h4 e), hd⟩
theorem OwnFs.files {w : World} {base : Nat} {v : Value} {l : List Fx} (h : OwnFs w base v l) : IsFiles w v l := own_files h.row rfl fun x hx => (h.each x hx).at_
set_option maxRecDepth 100000 in
set_option maxHeartbeats 4000000 in
theorem copy_any (v : Value) (l : List Fx) (w : World) (h : IsFiles w v l) (hl : l.length ≤ 1000000) (hb : ∀ x ∈ l, x.1.bytes.length ≤ 1000000) :
    Calls Tryz.prog 35 #[v] w (CopyPost l w) := by
  obtain ⟨A, cap, rfl, hcap, hcm, hA, hA0, hdeep⟩ := h
  have HC := Lib.hid (CloneF.clone_any A l.length cap (l.flatMap fC) w (fCs_len l) hA (fun e => by rw [hA0 e]; rfl) (fCs_one l) (by unfold maxLen; omega) (by omega))
  have Hd := Lib.hid hdeep
  have HB := Lib.hid hb
  obtain ⟨n, hn⟩ : ∃ n, n = l.length := ⟨_, rfl⟩
  have Hn := Lib.hid hn.symm
  rw [← hn] at hl HC ⊢
  clear hn hA hA0 hdeep hcap hcm hb
  unfold CopyPost
  go_enter Tryz.func35, Tryz.ntmps35
  go_wp2_with fail
  refine (HC.out).mono ?_
  rintro e w1 ⟨v1, rfl, hown, hb1⟩
  have Hown := Lib.hid hown
  have Hb1 := Lib.hid hb1
  clear hown hb1 HC
  by_cases h0 : n = 0
  · have hl0 : l = [] := List.eq_nil_of_length_eq_zero (by rw [Hn.out]; exact h0)
    subst h0
    have HF : Hid (OwnFs w1 w.heap.size v1 []) := Lib.hid ⟨by rw [hl0] at Hown; exact Hown.out, by simp⟩
    obtain ⟨A1, c1, rfl, _⟩ := own_slat Hown.out
    go_wp2_with fail
    go_loopw [10] (fun i wr => i = .int .i64 0 ∧ wr = w1) (fun _ _ => 0)
    case atStart => exact ⟨rfl, rfl⟩
    case round =>
      obtain ⟨rfl, rfl⟩ := hrel
      go_wp2_with fail
      go_ret
      exact ⟨_, [], rfl, HF.out, by rw [hl0], Hb1.out⟩
  · obtain ⟨A1, c1, rfl, hc1, hc2, _, h4⟩ := own_slat Hown.out
    obtain ⟨g, rfl⟩ : ∃ g, A1 = some ⟨g, 0, none⟩ := by
      rcases Hown.out.2 with ⟨h1, _⟩ | ⟨g, cap', cur, hv, _⟩
      · injection h1 with h1 h2; exact absurd h2 h0
      · injection hv with hv; exact ⟨g, hv⟩
    obtain ⟨hgb, _⟩ := own_blk Hown.out
    clear h4
    go_wp2_with fail
    go_loopw [10] (fun i wr => ∃ (k : Nat) (done : List Fx), k ≤ n ∧ i = .int .i64 (k : Int) ∧ done.length = k ∧ done.map Prod.fst = (l.take k).map Prod.fst ∧ wr.ownsRow w.heap.size 49 5 (.slice (some ⟨g, 0, none⟩) n c1) n ((done ++ l.drop k).flatMap fC) ∧ (∀ x ∈ done, OwnF wr w.heap.size x) ∧ Below w.heap.size w wr) (fun i _ => n - (intOf i).toNat)
    case atStart => exact ⟨0, [], Nat.zero_le _, rfl, rfl, rfl, Hown.out, by simp, Hb1.out⟩
    case round =>
      obtain ⟨k, done, hk, rfl, hdl, hdm, hown, hdo, hbr⟩ := hrel
      have Hdl := Lib.hid hdl
      have Hdm := Lib.hid hdm
      have Hownr := Lib.hid hown
      have Hdo := Lib.hid hdo
      have Hbr := Lib.hid hbr
      clear hdl hdm hown hdo hbr
      by_cases hlt : k < n
      · have hkl : k < l.length := by rw [Hn.out]; exact hlt
        have Hdrop : Hid (l.drop k = l[k] :: l.drop (k + 1)) := Lib.hid (List.drop_eq_getElem_cons hkl)
        have hfd := (Hd.out l[k] (List.getElem_mem hkl)).below Hbr.out
        have hbl := HB.out l[k] (List.getElem_mem hkl)
        have Htake : Hid ((l.take (k + 1)).map Prod.fst = (l.take k).map Prod.fst ++ [l[k].1]) := Lib.hid (by rw [take_snoc _ _ hkl, List.map_append]; rfl)
        rw [Hdrop.out] at Hownr
        have Hfz := fun j => Hownr.out.frozenAt j
        have cell := fun (j : Nat) (hj : j < 5) => Hownr.out.cellAt (k * 5 + j) (by omega)
        have at_ : ∀ j, j < 5 → ((done ++ l[k] :: l.drop (k + 1)).flatMap fC)[k * 5 + j]? = (fC l[k])[j]? := fun j hj => by
          rw [flat_at fC 5 fC_len _ k j (by rw [List.length_append, Hdl.out, List.length_cons]; omega) hj]
          congr 2
          rw [List.getElem_append_right (by rw [Hdl.out]; exact Nat.le_refl _)]
          simp [Hdl.out]
        generalize l[k] = x at *
        obtain ⟨⟨nm, bs, st, nd, gn⟩, As, ln, cp⟩ := x
        have hc0 : wr.cell? ⟨g, k * 5, none⟩ = some (.string (strB nm)) := by have := cell 0 (by omega); rw [at_ 0 (by omega)] at this; exact this
        have hc1' : wr.cell? ⟨g, k * 5 + 1, none⟩ = some (.slice As ln cp) := by have := cell 1 (by omega); rw [at_ 1 (by omega)] at this; exact this
        have hc2' : wr.cell? ⟨g, k * 5 + 2, none⟩ = some (.int .i64 st) := by have := cell 2 (by omega); rw [at_ 2 (by omega)] at this; exact this
        have hc3' : wr.cell? ⟨g, k * 5 + 3, none⟩ = some (.int .i64 nd) := by have := cell 3 (by omega); rw [at_ 3 (by omega)] at this; exact this
        have hc4' : wr.cell? ⟨g, k * 5 + 4, none⟩ = some (.bool gn) := by have := cell 4 (by omega); rw [at_ 4 (by omega)] at this; exact this
        clear cell at_ Hfz
        have hln : ln = bs.length := hfd.len
        subst hln
        simp only at hbl
        have Hfd := Lib.hid hfd
        have HCB := Lib.hid (fun w' (hb : Below wr.heap.size wr w') => CloneB.clone_any As bs.length cp (bs.map u8v) w' (by simp) (SlAt.below hfd.at_ hb) (fun e => by
          have h5 := hfd.at_
          simp only at h5
          rcases Nat.eq_zero_or_pos bs.length with h6 | h6
          · exact h6
          · obtain ⟨_, _, h7, _⟩ := h5 (by simpa using h6)
            rw [e] at h7; cases h7) (u8s_one bs) (by unfold maxLen; omega) (by omega))
        clear hfd
        have Hbox := Lib.hid ((Below.refl wr.heap.size wr).alloc (Nat.le_refl _) (.cells #[.string (strB nm), .slice As bs.length cp, .int .i64 st, .int .i64 nd, .bool gn] 49))
        go_wp2_with fail
        refine (HCB.out _ Hbox.out).mono ?_
        rintro e w2 ⟨v2, rfl, hown2, hb2⟩
        have hbw := stepN Hbox.out hb2
        obtain ⟨A2, c2, rfl, _, _, _, _⟩ := own_slat hown2
        have hownw := own_keep Hownr.out hbw
        obtain ⟨_, cs, hblk⟩ := own_blk hownw
        have HS : Hid ((w2.setCell ⟨g, k * 5 + 1, none⟩ (.slice A2 bs.length c2)).ownsRow w.heap.size 49 5 (.slice (some ⟨g, 0, none⟩) n c1) n ((done ++ [((⟨nm, bs, st, nd, gn⟩ : Fl), ((A2, bs.length, c2) : Sl3))] ++ l.drop (k + 1)).flatMap fC)) := Lib.hid (by
          have := (hownw.stored (k * 5 + 1) (.slice A2 bs.length c2)).1
          have e1 := fC_set done (l.drop (k + 1)) (⟨nm, bs, st, nd, gn⟩, As, bs.length, cp) (A2, bs.length, c2)
          rw [Hdl.out] at e1
          rw [List.append_assoc]
          rw [← show (done ++ ((⟨nm, bs, st, nd, gn⟩ : Fl), ((A2, bs.length, c2) : Sl3)) :: l.drop (k + 1)).flatMap fC = (done ++ ([((⟨nm, bs, st, nd, gn⟩ : Fl), ((A2, bs.length, c2) : Sl3))] ++ l.drop (k + 1))).flatMap fC from rfl, ← e1]
          exact this)
        have HO : Hid (∀ x ∈ done ++ [((⟨nm, bs, st, nd, gn⟩ : Fl), ((A2, bs.length, c2) : Sl3))], OwnF (w2.setCell ⟨g, k * 5 + 1, none⟩ (.slice A2 bs.length c2)) w.heap.size x) := Lib.hid (fun x hx => by
          rcases List.mem_append.1 hx with hx | hx
          · exact ((Hdo.out x hx).below hbw).set_ hblk _ _
          · simp at hx
            subst hx
            have hn : OwnF w2 w.heap.size ((⟨nm, bs, st, nd, gn⟩ : Fl), ((A2, bs.length, c2) : Sl3)) := { own := own_base hown2 (by have := Hbr.out.size; simp; omega), name := Hfd.out.name, stamp := Hfd.out.stamp, node := Hfd.out.node }
            exact hn.set_ hblk _ _)
        have HBf : Hid (Below w.heap.size w (w2.setCell ⟨g, k * 5 + 1, none⟩ (.slice A2 bs.length c2))) := Lib.hid ((stepN Hbr.out hbw).setCell (by exact hgb) _)
        have hcc : w2.cell? ⟨g, k * 5 + 1, none⟩ = some (.slice As bs.length cp) := cell_below hbw hc1'
        have hfz : w2.frozen? ⟨g, k * 5 + 1, none⟩ = false := hownw.frozenAt _
        have hx1 : w2.cell? ⟨wr.heap.size, 1, none⟩ = some (.slice As bs.length cp) := by
          have := (Blk.new wr 49 #[.string (strB nm), .slice As bs.length cp, .int .i64 st, .int .i64 nd, .bool gn]).below hb2 (by simp)
          rw [this.cell]; rfl
        clear hown2 hb2 hbw hownw hblk
        go_wp2_with fail
        go_roundw
        case rel =>
          refine ⟨k + 1, _, by omega, by go_num, ?_, ?_, HS.out, HO.out, HBf.out⟩
          · rw [List.length_append, Hdl.out]; rfl
          · rw [List.map_append, Hdm.out, Htake.out]; rfl
        case measure => simp [intOf]; omega
      · obtain rfl : k = n := by omega
        have Hall : Hid (l.take k = l ∧ l.drop k = []) := Lib.hid ⟨List.take_of_length_le (by rw [Hn.out]; exact Nat.le_refl _), List.drop_of_length_le (by rw [Hn.out]; exact Nat.le_refl _)⟩
        go_wp2_with fail
        go_ret
        refine ⟨_, done, rfl, ⟨?_, Hdo.out⟩, ?_, Hbr.out⟩
        · have := Hownr.out
          rw [Hall.out.2, List.append_nil] at this
          rw [Hdl.out]
          exact this
        · rw [Hdm.out, Hall.out.1]
end Go.Proofs.YtdoegpklephelaaGreatDoor.Merge
