/- files that are read, told by what they are alone; what the functions of package merge say of them. -/
import Derived.Test.YtdoegpklephelaaDoorLessF
import Derived.Test.YtdoegpklephelaaDoorSameFiles
import Derived.Test.YtdoegpklephelaaDoorMergeLaws
namespace Go.Proofs.YtdoegpklephelaaDoor.Merge
open Go Go.RowKit Go.Proofs.YtdoegpklephelaaDoor Go.Proofs.YtdoegpklephelaaDoor.Name
set_option linter.unusedVariables false

def Fs (w : World) (v : Value) (l : List Fl) : Prop := ∃ lx, IsFiles w v lx ∧ lx.map Prod.fst = l
theorem Fs.below {w w' : World} {v : Value} {l : List Fl} (h : Fs w v l) (hb : Below w.heap.size w w') : Fs w' v l := by
  obtain ⟨x, h1, h2⟩ := h
  exact ⟨x, h1.below hb, h2⟩
theorem IsFiles.fs {w : World} {v : Value} {l : List Fx} (h : IsFiles w v l) : Fs w v (l.map Prod.fst) := ⟨l, h, rfl⟩
theorem OwnFs.fs {w : World} {base : Nat} {v : Value} {l : List Fx} (h : OwnFs w base v l) : Fs w v (l.map Prod.fst) := h.files.fs
theorem Fs.slice {w : World} {v : Value} {l : List Fl} (h : Fs w v l) : ∃ A c, v = .slice A l.length c := by
  obtain ⟨x, ⟨A, c, rfl, _⟩, rfl⟩ := h
  exact ⟨A, c, by rw [List.length_map]⟩
theorem Fs.nil (w : World) : Fs w (.slice none 0 0) [] := ⟨[], (OwnFs.nil w 0).files, rfl⟩
def FsPost (er : Int) (l : List Fl) (w : World) (e : Ending) (w' : World) : Prop :=
  ∃ v, e = .returned (.tuple #[v, .int .i64 er]) ∧ Fs w' v l ∧ Below w.heap.size w w'
theorem both_fs (v1 v2 : Value) (a b : List Fl) (w : World) (hm : ML w) (h1 : Fs w v1 a) (h2 : Fs w v2 b) :
    Calls Tryd.prog 12 #[v1, v2] w (FsPost (bothR a b).1 (bothR a b).2 w) := by
  obtain ⟨x, k1, rfl⟩ := h1
  obtain ⟨y, k2, rfl⟩ := h2
  refine (both_any v1 v2 x y w hm k1 k2).mono ?_
  rintro e w' ⟨v, l', he, ho, hl, hb⟩
  exact ⟨v, he, by rw [← hl]; exact ho.fs, hb⟩
theorem less_fs (v1 v2 : Value) (a b : List Fl) (w : World) (hm : ML w) (h1 : Fs w v1 a) (h2 : Fs w v2 b) :
    Calls Tryd.prog 15 #[v1, v2] w (FsPost (lessR a b).1 (lessR a b).2 w) := by
  obtain ⟨x, k1, rfl⟩ := h1
  obtain ⟨y, k2, rfl⟩ := h2
  refine (less_any v1 v2 x y w hm k1 k2).mono ?_
  rintro e w' ⟨v, l', he, ho, hl, hb⟩
  exact ⟨v, he, by rw [← hl]; exact ho.fs, hb⟩
theorem shown_fs (v1 : Value) (a : List Fl) (w : World) (hm : ML w) (h1 : Fs w v1 a) :
    Calls Tryd.prog 16 #[v1] w (FsPost (shownR a).1 (shownR a).2 w) := by
  obtain ⟨x, k1, rfl⟩ := h1
  refine (shown_any v1 x w hm k1).mono ?_
  rintro e w' ⟨v, l', he, ho, hl, hb⟩
  exact ⟨v, he, by rw [← hl]; exact ho.fs, hb⟩
theorem check_fs (v1 : Value) (a : List Fl) (w : World) (hm : ML w) (h1 : Fs w v1 a) :
    Calls Tryd.prog 17 #[v1] w fun e w' => e = .returned (.int .i64 (chkF a)) ∧ Below w.heap.size w w' := by
  obtain ⟨x, k1, rfl⟩ := h1
  exact check_any v1 x w hm k1
/-- the same files -/
def sameL (a b : List Fl) : Bool := eqF sameF a b
theorem sameL_iff (a b : List Fl) : sameL a b = true ↔ a = b := by
  have := eqF_map (p := sameF) (f := id) sameF_iff a b
  rwa [List.map_id, List.map_id] at this
theorem sameL_self (a : List Fl) : sameL a a = true := (sameL_iff a a).2 rfl
theorem same_fs (v1 v2 : Value) (a b : List Fl) (w : World) (h1 : Fs w v1 a) (h2 : Fs w v2 b) :
    Calls Tryd.prog 14 #[v1, v2] w fun e w' => e = .returned (.bool (sameL a b)) ∧ Below w.heap.size w w' := by
  obtain ⟨x, k1, rfl⟩ := h1
  obtain ⟨y, k2, rfl⟩ := h2
  refine (sameFiles_any v1 v2 x y w k1 k2).mono ?_
  rintro e w' ⟨he, hb⟩
  refine ⟨?_, hb⟩
  rw [he]
  apply ret_bool
  rw [Bool.eq_iff_iff, sameFs_iff, sameL_iff]
theorem same_self (v1 v2 : Value) (a : List Fl) (w : World) (h1 : Fs w v1 a) (h2 : Fs w v2 a) :
    Calls Tryd.prog 14 #[v1, v2] w fun e w' => e = .returned (.bool true) ∧ Below w.heap.size w w' := by
  have := same_fs v1 v2 a a w h1 h2
  rwa [sameL_self] at this
end Go.Proofs.YtdoegpklephelaaDoor.Merge
