/- stable sorting: the plain law. No program in sight. -/
import Derived.Test.YtabdianhoabhhaaGreatDoorWords
namespace Go.Proofs.YtabdianhoabhhaaGreatDoor
namespace SP
set_option linter.unusedVariables false
section
variable {α : Type} {le : α → α → Prop}

theorem pw_append (a b : List α) : (a ++ b).Pairwise le ↔ a.Pairwise le ∧ b.Pairwise le ∧ ∀ x ∈ a, ∀ y ∈ b, le x y := List.pairwise_append
theorem pw_take (l : List α) (k : Nat) (h : l.Pairwise le) : (l.take k).Pairwise le := h.sublist (List.take_sublist k l)
theorem pw_drop (l : List α) (k : Nat) (h : l.Pairwise le) : (l.drop k).Pairwise le := h.sublist (List.drop_sublist k l)
theorem pw_get (l : List α) (h : l.Pairwise le) (i j : Nat) (hj : j < l.length) (hij : i < j) : le (l[i]'(by omega)) l[j] := List.pairwise_iff_getElem.1 h i j (by omega) hj hij
/-- all ahead of a place are at most what stands just ahead of it -/
theorem ahead (tr : ∀ a b c, le a b → le b c → le a c) (l : List α) (h : l.Pairwise le) (t : Nat) (ht : t ≤ l.length) (h0 : 0 < t) (y : α) (hy : le (l[t - 1]'(by omega)) y) : ∀ x ∈ l.take t, le x y := by
  intro x hx
  obtain ⟨i, hi, rfl⟩ := List.mem_iff_getElem.1 hx
  simp at hi
  rw [List.getElem_take]
  rcases Nat.lt_or_ge i (t - 1) with h1 | h1
  · exact tr _ _ _ (pw_get l h i (t - 1) (by omega) h1) hy
  · have : i = t - 1 := by omega
    subst this; exact hy
theorem behind (tr : ∀ a b c, le a b → le b c → le a c) (l : List α) (h : l.Pairwise le) (t : Nat) (ht : t < l.length) (y : α) (hy : le y l[t]) : ∀ x ∈ l.drop t, le y x := by
  intro x hx
  obtain ⟨i, hi, rfl⟩ := List.mem_iff_getElem.1 hx
  simp at hi
  rw [List.getElem_drop]
  rcases Nat.eq_zero_or_pos i with h1 | h1
  · subst h1; exact hy
  · exact tr _ _ _ hy (pw_get l h t (t + i) (by omega) (by omega))
theorem ins_at (tr : ∀ a b c, le a b → le b c → le a c) (x : α) (l : List α) (t : Nat) (ht : t ≤ l.length) (h : l.Pairwise le) (h1 : t = 0 ∨ ∃ h : t - 1 < l.length, le l[t - 1] x) (h2 : t = l.length ∨ ∃ h : t < l.length, le x l[t]) :
    (l.take t ++ x :: l.drop t).Pairwise le := by
  have ha : ∀ y ∈ l.take t, le y x := by
    rcases h1 with rfl | ⟨_, h1⟩
    · simp
    · rcases Nat.eq_zero_or_pos t with h0 | h0
      · subst h0; simp
      · exact ahead tr l h t ht h0 x h1
  have hb : ∀ y ∈ l.drop t, le x y := by
    rcases h2 with rfl | ⟨h3, h2⟩
    · simp
    · exact behind tr l h t h3 x h2
  rw [pw_append]
  refine ⟨pw_take l t h, ?_, ?_⟩
  · rw [List.pairwise_cons]; exact ⟨hb, pw_drop l t h⟩
  · intro a haa b hbb
    rcases List.mem_cons.1 hbb with rfl | hbb
    · exact ha a haa
    · exact tr _ _ _ (ha a haa) (hb b hbb)
/-- the two halves of a merge -/
theorem halves (tr : ∀ a b c, le a b → le b c → le a c) (L R : List α) (s e : Nat) (hs : s ≤ L.length) (he : e ≤ R.length) (hL : L.Pairwise le) (hR : R.Pairwise le)
    (h1 : s = 0 ∨ e = R.length ∨ ∃ (a : s - 1 < L.length) (b : e < R.length), le L[s - 1] R[e]) (h2 : e = 0 ∨ s = L.length ∨ ∃ (a : e - 1 < R.length) (b : s < L.length), le R[e - 1] L[s]) :
    ∀ x ∈ L.take s ++ R.take e, ∀ y ∈ L.drop s ++ R.drop e, le x y := by
  intro x hx y hy
  have cross : ∀ (l m : List α) (i j : Nat), i ≤ l.length → l.Pairwise le → m.Pairwise le → (i = 0 ∨ j = m.length ∨ ∃ (a : i - 1 < l.length) (b : j < m.length), le l[i - 1] m[j]) → j ≤ m.length → ∀ x ∈ l.take i, ∀ y ∈ m.drop j, le x y := by
    intro l m i j hi hl hm h hj x hx y hy
    rcases h with rfl | rfl | ⟨a, b, h⟩
    · simp at hx
    · simp at hy
    · rcases Nat.eq_zero_or_pos i with h0 | h0
      · subst h0; simp at hx
      · exact behind tr m hm j b x (ahead tr l hl i hi h0 _ h x hx) y hy
  have own : ∀ (l : List α) (i : Nat), l.Pairwise le → ∀ x ∈ l.take i, ∀ y ∈ l.drop i, le x y := by
    intro l i hl
    have : (l.take i ++ l.drop i).Pairwise le := by rw [List.take_append_drop]; exact hl
    exact (pw_append _ _).1 this |>.2.2
  rcases List.mem_append.1 hx with hx | hx <;> rcases List.mem_append.1 hy with hy | hy
  · exact own L s hL x hx y hy
  · exact cross L R s e hs hL hR h1 he x hx y hy
  · exact cross R L e s he hR hL h2 hs x hx y hy
  · exact own R e hR x hx y hy
theorem join_perm (L R M1 M2 : List α) (s e : Nat) (p1 : M1.Perm (L.take s ++ R.take e)) (p2 : M2.Perm (L.drop s ++ R.drop e)) : (M1 ++ M2).Perm (L ++ R) := by
  refine (p1.append p2).trans ?_
  have h1 : (L ++ R).Perm ((L.take s ++ L.drop s) ++ (R.take e ++ R.drop e)) := by rw [List.take_append_drop, List.take_append_drop]
  refine List.Perm.trans ?_ h1.symm
  rw [List.append_assoc, List.append_assoc]
  refine List.Perm.append_left _ ?_
  rw [← List.append_assoc, ← List.append_assoc]
  exact List.Perm.append_right _ List.perm_append_comm
theorem join_sorted (M1 M2 A B : List α) (p1 : M1.Perm A) (p2 : M2.Perm B) (s1 : M1.Pairwise le) (s2 : M2.Pairwise le) (h : ∀ x ∈ A, ∀ y ∈ B, le x y) : (M1 ++ M2).Pairwise le :=
  (pw_append _ _).2 ⟨s1, s2, fun x hx y hy => h x (p1.mem_iff.1 hx) y (p2.mem_iff.1 hy)⟩
/-- a sorted row of which no two are alike either way is one only -/
theorem sorted_unique (anti : ∀ a b, le a b → le b a → a = b) (l m : List α) (p : l.Perm m) (hl : l.Pairwise le) (hm : m.Pairwise le) : l = m :=
  List.Perm.eq_of_pairwise (fun a b _ _ h1 h2 => anti a b h1 h2) hl hm p

/-- chunks of B from the front, each sorted, each of the same elements as the first row's -/
def Chunk (le : α → α → Prop) (l0 l : List α) (a b : Nat) : Prop := ((l.drop a).take (b - a)).Pairwise le ∧ ((l.drop a).take (b - a)).Perm ((l0.drop a).take (b - a))
end
end SP
namespace SP
set_option linter.unusedVariables false
section
variable {α : Type} (key : α → Nat)
/-- by key, then by place -/
def lexB (x y : α × Nat) : Bool := decide (key x.1 < key y.1) || (decide (key x.1 = key y.1) && decide (x.2 ≤ y.2))
def lexP (x y : α × Nat) : Prop := key x.1 < key y.1 ∨ (key x.1 = key y.1 ∧ x.2 ≤ y.2)
theorem lexB_iff (x y : α × Nat) : lexB key x y = true ↔ lexP key x y := by simp [lexB, lexP]
theorem lexP_trans (x y z : α × Nat) (h1 : lexP key x y) (h2 : lexP key y z) : lexP key x z := by unfold lexP at *; omega
theorem lexP_total (x y : α × Nat) : lexP key x y ∨ lexP key y x := by unfold lexP; omega
/-- a row sorted, as it stood where keys are the same; with the places where each stood -/
def stabT (l : List α) : List (α × Nat) := l.zipIdx.mergeSort (lexB key)
def stab (l : List α) : List α := (stabT key l).map (·.1)
theorem stabT_perm (l : List α) : (stabT key l).Perm l.zipIdx := List.mergeSort_perm _ _
theorem stabT_sorted (l : List α) : (stabT key l).Pairwise (lexP key) := by
  have h := List.pairwise_mergeSort (le := lexB key) (fun a b c h1 h2 => (lexB_iff key a c).2 (lexP_trans key a b c ((lexB_iff key a b).1 h1) ((lexB_iff key b c).1 h2)))
    (fun a b => by
      rcases lexP_total key a b with h | h
      · rw [(lexB_iff key a b).2 h]; rfl
      · rw [(lexB_iff key b a).2 h]; simp) l.zipIdx
  exact h.imp (fun h => (lexB_iff key _ _).1 h)
theorem stab_perm (l : List α) : (stab key l).Perm l := by
  have := (stabT_perm key l).map (·.1)
  rw [List.zipIdx_map_fst] at this
  exact this
theorem stab_sorted (l : List α) : (stab key l).Pairwise (fun x y => key x ≤ key y) := by
  unfold stab
  rw [List.pairwise_map]
  exact (stabT_sorted key l).imp (fun h => by unfold lexP at h; omega)
theorem stab_length (l : List α) : (stab key l).length = l.length := (stab_perm key l).length_eq
theorem zipIdx_sorted (l : List α) (k : Nat) (h : l.Pairwise (fun x y => key x ≤ key y)) : (l.zipIdx k).Pairwise (lexP key) := by
  induction l generalizing k with
  | nil => simp
  | cons a l ih =>
    rw [List.pairwise_cons] at h
    rw [List.zipIdx_cons, List.pairwise_cons]
    refine ⟨fun y hy => ?_, ih (k + 1) h.2⟩
    obtain ⟨h1, h2, h3⟩ := List.mem_zipIdx (x := y.1) (i := y.2) (by simpa using hy)
    have := h.1 y.1 (by rw [h3]; exact List.getElem_mem _)
    unfold lexP; simp only; omega
end
section
variable {β : Type} {le : β → β → Prop}
theorem head_drop (l : List β) (k : Nat) (h : k < l.length) : l.drop k = l[k] :: l.drop (k + 1) := List.drop_eq_getElem_cons h
theorem first_min (rf : ∀ a, le a a) (A : List β) (hA : A.Pairwise le) (a : Nat) (z : β) (hz : z ∈ A.drop a) : ∃ h : a < A.length, le A[a] z := by
  have h : a < A.length := by
    rcases Nat.lt_or_ge a A.length with h | h
    · exact h
    · rw [List.drop_of_length_le h] at hz; simp at hz
  refine ⟨h, ?_⟩
  rw [head_drop A a h] at hz
  rcases List.mem_cons.1 hz with rfl | hz
  · exact rf _
  · have hp : (A.drop a).Pairwise le := hA.sublist (List.drop_sublist a A)
    rw [head_drop A a h, List.pairwise_cons] at hp
    exact hp.1 z hz
/-- the first ones of a sorted row of two sorted rows are the first ones of each -/
theorem split_take (Z A B : List β) (anti : ∀ a b, a ∈ Z → b ∈ Z → le a b → le b a → a = b) (p : Z.Perm (A ++ B)) (hZ : Z.Pairwise le) (hA : A.Pairwise le) (hB : B.Pairwise le) (rf : ∀ a, le a a) (k : Nat) (hk : k ≤ Z.length) :
    ∃ a q, a + q = k ∧ a ≤ A.length ∧ q ≤ B.length ∧ (Z.take k).Perm (A.take a ++ B.take q) ∧ (Z.drop k).Perm (A.drop a ++ B.drop q) := by
  induction k with
  | zero => exact ⟨0, 0, rfl, Nat.zero_le _, Nat.zero_le _, by simp, by simpa using p⟩
  | succ k ih =>
    obtain ⟨a, q, h1, h2, h3, h4, h5⟩ := ih (by omega)
    have hk' : k < Z.length := by omega
    have hzm : Z[k] ∈ A.drop a ++ B.drop q := h5.mem_iff.1 (by rw [head_drop Z k hk']; exact List.mem_cons_self)
    have hmin : ∀ y ∈ Z.drop k, le Z[k] y := fun y hy => (first_min rf Z hZ k y hy).2
    rw [head_drop Z k hk'] at h5
    have hzin : Z[k] ∈ Z := List.getElem_mem hk'
    have inZ : ∀ x, x ∈ A.drop a ++ B.drop q → x ∈ Z.drop k := fun x hx => by rw [head_drop Z k hk']; exact h5.mem_iff.2 hx
    rcases List.mem_append.1 hzm with hz | hz
    · obtain ⟨ha, hle⟩ := first_min rf A hA a _ hz
      have hx : A[a] ∈ A.drop a ++ B.drop q := by rw [head_drop A a ha]; exact List.mem_append_left _ List.mem_cons_self
      have he : Z[k] = A[a] := anti _ _ hzin (List.mem_of_mem_drop (inZ _ hx)) (hmin _ (inZ _ hx)) hle
      refine ⟨a + 1, q, by omega, ha, h3, ?_, ?_⟩
      · rw [List.take_succ_eq_append_getElem hk', List.take_succ_eq_append_getElem ha, he]
        refine (h4.append_right _).trans ?_
        rw [List.append_assoc, List.append_assoc]
        exact List.Perm.append_left _ List.perm_append_comm
      · rw [head_drop A a ha, he, List.cons_append] at h5
        exact h5.cons_inv
    · obtain ⟨hb, hle⟩ := first_min rf B hB q _ hz
      have hx : B[q] ∈ A.drop a ++ B.drop q := by rw [head_drop B q hb]; exact List.mem_append_right _ List.mem_cons_self
      have he : Z[k] = B[q] := anti _ _ hzin (List.mem_of_mem_drop (inZ _ hx)) (hmin _ (inZ _ hx)) hle
      refine ⟨a, q + 1, by omega, h2, hb, ?_, ?_⟩
      · rw [List.take_succ_eq_append_getElem hk', List.take_succ_eq_append_getElem hb, he, ← List.append_assoc]
        exact h4.append_right _
      · rw [head_drop B q hb, he] at h5
        exact (h5.trans List.perm_middle).cons_inv
/-- of a sorted row the first ones weigh least -/
theorem least_take (w : β → Nat) (Z X Y : List β) (p : Z.Perm (X ++ Y)) (hZ : Z.Pairwise (fun a b => w a ≤ w b)) : ((Z.take X.length).map w).sum ≤ (X.map w).sum := by
  induction Z generalizing X Y with
  | nil =>
    simp
  | cons z Z ih =>
    rw [List.pairwise_cons] at hZ
    have hz : z ∈ X ++ Y := p.mem_iff.1 (by simp)
    rcases List.mem_append.1 hz with hx | hy
    · obtain ⟨s, t, rfl⟩ := List.append_of_mem hx
      have p2 : Z.Perm ((s ++ t) ++ Y) := by
        have : (s ++ z :: t ++ Y).Perm (z :: (s ++ t ++ Y)) := by
          rw [List.append_assoc, List.append_assoc, List.cons_append]; exact List.perm_middle
        exact (p.trans this).cons_inv
      have := ih (s ++ t) Y p2 hZ.2
      have e : (s ++ z :: t).length = (s ++ t).length + 1 := by simp; omega
      rw [e, List.take_succ_cons, List.map_cons, List.sum_cons]
      have e2 : ((s ++ z :: t).map w).sum = w z + ((s ++ t).map w).sum := by simp; omega
      rw [e2]; omega
    · obtain ⟨s, t, rfl⟩ := List.append_of_mem hy
      have p2 : Z.Perm (X ++ (s ++ t)) := by
        have : (X ++ (s ++ z :: t)).Perm (z :: (X ++ (s ++ t))) := by
          rw [← List.append_assoc, ← List.append_assoc]; exact List.perm_middle
        exact (p.trans this).cons_inv
      have h1 := ih X (s ++ t) p2 hZ.2
      refine Nat.le_trans ?_ h1
      have hl : X.length ≤ Z.length := by have := p2.length_eq; simp at this; omega
      cases hX : X.length with
      | zero => simp
      | succ m =>
        rw [List.take_succ_cons, List.map_cons, List.sum_cons]
        have hm : m < Z.length := by omega
        rw [List.take_succ_eq_append_getElem hm, List.map_append, List.sum_append]
        have := hZ.1 Z[m] (List.getElem_mem hm)
        simp; omega
end
end SP
namespace SP
set_option linter.unusedVariables false
section
variable {α : Type} (key : α → Nat)
theorem pairAt (l : List α) (x : α) (l2 : List α) : (l ++ x :: l2)[l.length]'(by simp) = x := by simp
/-- chunks of bs from the front, each sorted, each of the same as the first row's -/
inductive Ch (bs : Nat) : List (α × Nat) → List (α × Nat) → Prop
  | last (l0 l : List (α × Nat)) : l.length ≤ bs → l.Perm l0 → l.Pairwise (lexP key) → Ch bs l0 l
  | more (s0 s r0 r : List (α × Nat)) : s.length = bs → s.Perm s0 → s.Pairwise (lexP key) → Ch bs r0 r → Ch bs (s0 ++ r0) (s ++ r)
theorem Ch.perm {bs : Nat} {l0 l : List (α × Nat)} (h : Ch key bs l0 l) : l.Perm l0 := by
  induction h with
  | last l0 l h1 h2 h3 => exact h2
  | more s0 s r0 r h1 h2 h3 h4 ih => exact h2.append ih
theorem Ch.nil (bs : Nat) : Ch key bs [] [] := .last [] [] (by simp) (List.Perm.refl _) List.Pairwise.nil
/-- no more than one chunk -/
theorem Ch.small {bs : Nat} {l0 l : List (α × Nat)} (h : Ch key bs l0 l) (hl : l.length ≤ bs) : l.Perm l0 ∧ l.Pairwise (lexP key) := by
  cases h with
  | last l0 l h1 h2 h3 => exact ⟨h2, h3⟩
  | more s0 s r0 r h1 h2 h3 h4 =>
    rw [List.length_append] at hl
    have hr : r = [] := List.eq_nil_of_length_eq_zero (by omega)
    subst hr
    have hr0 : r0 = [] := List.eq_nil_of_length_eq_zero (by have := h4.perm.length_eq; simpa using this.symm)
    subst hr0
    simp only [List.append_nil]
    exact ⟨h2, h3⟩
/-- more than one chunk -/
theorem Ch.split {bs : Nat} {l0 l : List (α × Nat)} (h : Ch key bs l0 l) (hl : bs ≤ l.length) (hb : 0 < bs) : ∃ s0 s r0 r, l0 = s0 ++ r0 ∧ l = s ++ r ∧ s.length = bs ∧ s.Perm s0 ∧ s.Pairwise (lexP key) ∧ Ch key bs r0 r := by
  cases h with
  | last l0 l h1 h2 h3 => exact ⟨l0, l, [], [], by simp, by simp, by omega, h2, h3, Ch.nil key bs⟩
  | more s0 s r0 r h1 h2 h3 h4 => exact ⟨s0, s, r0, r, rfl, rfl, h1, h2, h3, h4⟩
/-- what stands ahead is chunks -/
def Ahead (bs : Nat) (s0 s : List (α × Nat)) : Prop := ∀ r0 r, Ch key bs r0 r → Ch key bs (s0 ++ r0) (s ++ r)
theorem Ahead.nil (bs : Nat) : Ahead key bs [] [] := fun _ _ h => h
theorem Ahead.more {bs : Nat} {s0 s c0 c : List (α × Nat)} (h : Ahead key bs s0 s) (hl : c.length = bs) (hp : c.Perm c0) (hs : c.Pairwise (lexP key)) : Ahead key bs (s0 ++ c0) (s ++ c) := fun r0 r hr => by
  rw [List.append_assoc, List.append_assoc]; exact h _ _ (.more c0 c r0 r hl hp hs hr)
/-- places rise -/
def Rise (l : List (α × Nat)) : Prop := l.Pairwise (fun x y => x.2 < y.2)
theorem Rise.cross {a b a' b' : List (α × Nat)} (h : Rise (a ++ b)) (p : a'.Perm a) (q : b'.Perm b) : ∀ x ∈ a', ∀ y ∈ b', x.2 < y.2 := by
  intro x hx y hy
  exact (List.pairwise_append.1 h).2.2 x (p.mem_iff.1 hx) y (q.mem_iff.1 hy)
theorem Rise.left {a b : List (α × Nat)} (h : Rise (a ++ b)) : Rise a := (List.pairwise_append.1 h).1
theorem Rise.right {a b : List (α × Nat)} (h : Rise (a ++ b)) : Rise b := (List.pairwise_append.1 h).2.1
theorem rise_zip (l : List α) (k : Nat) : Rise (l.zipIdx k) := by
  induction l generalizing k with
  | nil => exact List.Pairwise.nil
  | cons a l ih =>
    rw [List.zipIdx_cons]
    refine List.Pairwise.cons ?_ (ih (k + 1))
    intro x hx
    have := (List.le_snd_of_mem_zipIdx hx)
    show k < x.2
    omega
theorem lex_anti (l : List (α × Nat)) (h : Rise l) (a b : α × Nat) (ha : a ∈ l) (hb : b ∈ l) (h1 : lexP key a b) (h2 : lexP key b a) : a = b := by
  have e : a.2 = b.2 := by unfold lexP at *; omega
  obtain ⟨i, hi, rfl⟩ := List.mem_iff_getElem.1 ha
  obtain ⟨j, hj, rfl⟩ := List.mem_iff_getElem.1 hb
  rcases Nat.lt_trichotomy i j with h | h | h
  · have := List.pairwise_iff_getElem.1 ‹Rise l› i j hi hj h; omega
  · subst h; rfl
  · have := List.pairwise_iff_getElem.1 ‹Rise l› j i hj hi h; omega
/-- sorted, and of the same: it is the stable sort -/
theorem stab_unique (l : List α) (d : List (α × Nat)) (hp : d.Perm l.zipIdx) (hs : d.Pairwise (lexP key)) : d.map (·.1) = stab key l := by
  unfold stab
  congr 1
  refine List.Perm.eq_of_pairwise (fun a b ha hb h1 h2 => ?_) hs (stabT_sorted key l) (hp.trans (stabT_perm key l).symm)
  exact lex_anti key _ (rise_zip l 0) a b (hp.mem_iff.1 ha) ((stabT_perm key l).mem_iff.1 hb) h1 h2
theorem stab_map {β : Type} (f : β → α) (l : List β) : (stab (fun b => key (f b)) l).map f = stab key (l.map f) := by
  have h1 : ((stabT (fun b => key (f b)) l).map fun p => (f p.1, p.2)).Perm (l.map f).zipIdx := by
    have := (stabT_perm (fun b => key (f b)) l).map fun p => (f p.1, p.2)
    refine this.trans ?_
    rw [List.zipIdx_map]
    exact List.Perm.of_eq (List.map_congr_left (fun x _ => rfl))
  have h2 : ((stabT (fun b => key (f b)) l).map fun p => (f p.1, p.2)).Pairwise (lexP key) := by
    rw [List.pairwise_map]; exact stabT_sorted (fun b => key (f b)) l
  have := stab_unique key (l.map f) _ h1 h2
  rw [← this]
  unfold stab
  rw [List.map_map, List.map_map]
  rfl
/-- one put among sorted ones: the row that it makes -/
theorem put_sorted (x : α × Nat) (l : List (α × Nat)) (t : Nat) (ht : t ≤ l.length) (h : l.Pairwise (lexP key)) (h1 : t = 0 ∨ ∃ h : t - 1 < l.length, lexP key l[t - 1] x) (h2 : t = l.length ∨ ∃ h : t < l.length, lexP key x l[t]) :
    (l.take t ++ x :: l.drop t).Pairwise (lexP key) := ins_at (fun a b c => lexP_trans key a b c) x l t ht h h1 h2
theorem put_perm (x : α × Nat) (l : List (α × Nat)) (t : Nat) : (l.take t ++ x :: l.drop t).Perm (x :: l) := by
  refine (List.perm_middle).trans ?_
  rw [List.take_append_drop]
end
end SP
end Go.Proofs.YtabdianhoabhhaaGreatDoor
