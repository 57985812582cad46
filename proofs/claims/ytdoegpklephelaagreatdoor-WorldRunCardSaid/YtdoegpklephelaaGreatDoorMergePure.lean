/- package merge: what it reckons, in plain Lean: files that come together. No program in sight. -/
import Derived.Test.YtdoegpklephelaaGreatDoorNamePure
import Derived.Lib.Bytealg
import Derived.Lib.Small
import Derived.Sort.Walk0
namespace Go.Proofs.YtdoegpklephelaaGreatDoor.Merge
open Go
set_option linter.unusedVariables false

abbrev cb := Lib.compareBytes
abbrev ci := Lib.compareInt
theorem u8_lt {a b : UInt8} : a < b ↔ a.toNat < b.toNat := UInt8.lt_iff_toNat_lt
theorem u8_eq {a b : UInt8} (h : a.toNat = b.toNat) : a = b := UInt8.toNat_inj.1 h
theorem cb_refl (a : List UInt8) : cb a a = 0 := by
  induction a with
  | nil => rfl
  | cons x a ih => simp only [cb, Lib.compareBytes]; rw [if_neg (by rw [u8_lt]; omega), if_neg (by rw [u8_lt]; omega)]; exact ih
theorem cb_neg (a b : List UInt8) : cb b a = - cb a b := by
  induction a generalizing b with
  | nil => cases b <;> rfl
  | cons x a ih =>
    cases b with
    | nil => rfl
    | cons y b =>
      simp only [cb, Lib.compareBytes]
      by_cases h1 : x < y
      · rw [if_neg (by rw [u8_lt] at *; omega), if_pos h1, if_pos h1]; rfl
      · by_cases h2 : y < x
        · rw [if_pos h2, if_neg h1, if_pos h2]
        · rw [if_neg h2, if_neg h1, if_neg h1, if_neg h2]; exact ih b
theorem cb_eq {a b : List UInt8} (h : cb a b = 0) : a = b := by
  induction a generalizing b with
  | nil =>
    cases b with
    | nil => rfl
    | cons y b => simp [cb, Lib.compareBytes] at h
  | cons x a ih =>
    cases b with
    | nil => simp [cb, Lib.compareBytes] at h
    | cons y b =>
      simp only [cb, Lib.compareBytes] at h
      by_cases h1 : x < y
      · rw [if_pos h1] at h; simp at h
      · rw [if_neg h1] at h
        by_cases h2 : y < x
        · rw [if_pos h2] at h; simp at h
        · rw [if_neg h2] at h
          rw [ih h, u8_eq (a := x) (b := y) (by rw [u8_lt] at *; omega)]
theorem cb_bd (a b : List UInt8) : -1 ≤ cb a b ∧ cb a b ≤ 1 := by
  induction a generalizing b with
  | nil => cases b <;> simp [cb, Lib.compareBytes]
  | cons x a ih =>
    cases b with
    | nil => simp [cb, Lib.compareBytes]
    | cons y b =>
      simp only [cb, Lib.compareBytes]
      split
      · omega
      · split
        · omega
        · exact ih b
theorem cb_trans {a b c : List UInt8} (h1 : cb a b ≤ 0) (h2 : cb b c ≤ 0) : cb a c ≤ 0 := by
  induction a generalizing b c with
  | nil => cases c <;> simp [cb, Lib.compareBytes]
  | cons x a ih =>
    cases b with
    | nil => simp [cb, Lib.compareBytes] at h1
    | cons y b =>
      cases c with
      | nil => simp [cb, Lib.compareBytes] at h2
      | cons z c =>
        simp only [cb, Lib.compareBytes, u8_lt] at *
        by_cases g1 : x.toNat < y.toNat
        · by_cases g2 : y.toNat < z.toNat
          · rw [if_pos (by omega)]; omega
          · rw [if_neg g2] at h2
            by_cases g3 : z.toNat < y.toNat
            · rw [if_pos g3] at h2; omega
            · rw [if_pos (by omega)]; omega
        · rw [if_neg g1] at h1
          by_cases g1' : y.toNat < x.toNat
          · rw [if_pos g1'] at h1; omega
          · rw [if_neg g1'] at h1
            by_cases g2 : y.toNat < z.toNat
            · rw [if_pos (by omega)]; omega
            · rw [if_neg g2] at h2
              by_cases g3 : z.toNat < y.toNat
              · rw [if_pos g3] at h2; omega
              · rw [if_neg g3] at h2
                rw [if_neg (by omega), if_neg (by omega)]
                exact ih h1 h2
theorem less_cb (a b : List UInt8) : Op.bytesLess a b = decide (cb a b < 0) := by
  induction a generalizing b with
  | nil => cases b <;> simp [cb, Lib.compareBytes, Op.bytesLess]
  | cons x a ih =>
    cases b with
    | nil => simp [cb, Lib.compareBytes, Op.bytesLess]
    | cons y b =>
      simp only [cb, Lib.compareBytes, Op.bytesLess]
      by_cases g1 : x < y
      · simp [g1]
      · by_cases g2 : y < x
        · have : (x == y) = false := by rw [beq_eq_false_iff_ne]; rintro rfl; rw [u8_lt] at g2; omega
          simp [g1, g2, this]
        · have : x = y := u8_eq (by rw [u8_lt] at *; omega)
          subst this
          simp [g1, ih]
/-- a comparison: of whole orders -/
structure Cmp {α : Type} (f : α → α → Int) : Prop where
  neg : ∀ a b, f b a = - f a b
  trans : ∀ {a b c}, f a b ≤ 0 → f b c ≤ 0 → f a c ≤ 0
def orI (x y : Int) : Int := if x ≠ 0 then x else y
theorem Cmp.refl {α : Type} {f : α → α → Int} (h : Cmp f) (a : α) : f a a = 0 := by have := h.neg a a; omega
theorem Cmp.lt_of {α : Type} {f : α → α → Int} (h : Cmp f) {a b c : α} (h1 : f a b < 0) (h2 : f b c ≤ 0) : f a c < 0 := by
  have h3 := h.trans (Int.le_of_lt h1) h2
  rcases (by omega : f a c < 0 ∨ f a c = 0) with h4 | h4
  · exact h4
  · have h5 : f c a ≤ 0 := by rw [h.neg a c]; omega
    have h6 := h.trans h2 h5
    rw [h.neg a b] at h6; omega
theorem Cmp.lt_of' {α : Type} {f : α → α → Int} (h : Cmp f) {a b c : α} (h1 : f a b ≤ 0) (h2 : f b c < 0) : f a c < 0 := by
  have h3 := h.trans h1 (Int.le_of_lt h2)
  rcases (by omega : f a c < 0 ∨ f a c = 0) with h4 | h4
  · exact h4
  · have h5 : f c a ≤ 0 := by rw [h.neg a c]; omega
    have h6 := h.trans h5 h1
    rw [h.neg b c] at h6; omega
theorem Cmp.lex {α : Type} {f g : α → α → Int} (hf : Cmp f) (hg : Cmp g) : Cmp (fun a b => orI (f a b) (g a b)) := by
  refine ⟨fun a b => ?_, fun {a b c} h1 h2 => ?_⟩
  · simp only [orI]
    rw [hf.neg a b, hg.neg a b]
    by_cases h : f a b = 0
    · simp [h]
    · rw [if_pos (by omega), if_pos h]
  · simp only [orI] at *
    by_cases g1 : f a b = 0
    · rw [if_neg (by omega)] at h1
      by_cases g2 : f b c = 0
      · rw [if_neg (by omega)] at h2
        have e : f a c = 0 := by
          have a1 := hf.trans (show f a b ≤ 0 by omega) (show f b c ≤ 0 by omega)
          have a2 := hf.trans (show f c b ≤ 0 by rw [hf.neg b c]; omega) (show f b a ≤ 0 by rw [hf.neg a b]; omega)
          rw [hf.neg a c] at a2; omega
        rw [if_neg (by omega)]
        exact hg.trans h1 h2
      · rw [if_pos g2] at h2
        have := hf.lt_of' (show f a b ≤ 0 by omega) (show f b c < 0 by omega)
        rw [if_pos (by omega)]; omega
    · rw [if_pos g1] at h1
      have hbc : f b c ≤ 0 := by
        by_cases g2 : f b c = 0
        · omega
        · rw [if_pos g2] at h2; exact h2
      have := hf.lt_of (show f a b < 0 by omega) hbc
      rw [if_pos (by omega)]; omega
theorem ci_lt {x y : Int} : ci x y < 0 ↔ x < y := by unfold ci Lib.compareInt; split <;> (try split) <;> omega
theorem ci_zero {x y : Int} : ci x y = 0 ↔ x = y := by unfold ci Lib.compareInt; split <;> (try split) <;> omega
theorem ci_le {x y : Int} : ci x y ≤ 0 ↔ x ≤ y := by unfold ci Lib.compareInt; split <;> (try split) <;> omega
theorem ci_neg (x y : Int) : ci y x = - ci x y := by unfold ci Lib.compareInt; split <;> (try split) <;> (try split) <;> (try split) <;> omega
theorem cmp_ci {α : Type} (k : α → Int) : Cmp (fun a b => ci (k a) (k b)) := ⟨fun a b => ci_neg _ _, fun {a b c} h1 h2 => by rw [ci_le] at *; omega⟩
theorem cmp_cb {α : Type} (k : α → List UInt8) : Cmp (fun a b => cb (k a) (k b)) := ⟨fun a b => cb_neg _ _, fun {a b c} h1 h2 => cb_trans h1 h2⟩
theorem cb_lt_trans {a b c : List UInt8} (h1 : cb a b < 0) (h2 : cb b c < 0) : cb a c < 0 := (cmp_cb (fun x => x)).lt_of h1 (Int.le_of_lt h2)

/-- a file -/
structure Fl where
  name : List UInt8
  bytes : List UInt8
  stamp : Int
  node : Int
  gone : Bool
theorem Fl.eq {a b : Fl} (h1 : a.name = b.name) (h2 : a.bytes = b.bytes) (h3 : a.stamp = b.stamp) (h4 : a.node = b.node) (h5 : a.gone = b.gone) : a = b := by
  cases a; cases b; simp_all
def gi (b : Bool) : Int := if b = true then 1 else 0
/-- below 0: the second one is newer -/
def later (a b : Fl) : Int := orI (ci a.stamp b.stamp) (orI (ci a.node b.node) (orI (ci (gi a.gone) (gi b.gone)) (cb a.bytes b.bytes)))
theorem cmp_later : Cmp later := (cmp_ci Fl.stamp).lex ((cmp_ci Fl.node).lex ((cmp_ci (fun f => gi f.gone)).lex (cmp_cb Fl.bytes)))
theorem orI_zero {x y : Int} (h : orI x y = 0) : x = 0 ∧ y = 0 := by
  unfold orI at h; split at h
  · omega
  · exact ⟨by omega, h⟩
theorem later_zero {a b : Fl} (hn : a.name = b.name) (h : later a b = 0) : a = b := by
  unfold later at h
  obtain ⟨h1, h⟩ := orI_zero h
  obtain ⟨h2, h⟩ := orI_zero h
  obtain ⟨h3, h4⟩ := orI_zero h
  rw [ci_zero] at h1 h2 h3
  refine Fl.eq hn (cb_eq h4) h1 h2 ?_
  unfold gi at h3
  cases ha : a.gone <;> cases hb : b.gone <;> simp_all
theorem later_refl (a : Fl) : later a a = 0 := cmp_later.refl a
/-- the one that stays -/
def maxF (a b : Fl) : Fl := if later a b < 0 then b else a
theorem maxF_name {a b : Fl} (h : a.name = b.name) : (maxF a b).name = a.name := by unfold maxF; split <;> simp [h]
theorem maxF_comm {a b : Fl} (h : a.name = b.name) : maxF a b = maxF b a := by
  unfold maxF
  have hn := cmp_later.neg a b
  by_cases h1 : later a b < 0
  · rw [if_pos h1, if_neg (by omega)]
  · rw [if_neg h1]
    by_cases h2 : later b a < 0
    · rw [if_pos h2]
    · rw [if_neg h2]; exact later_zero h (by omega)
theorem maxF_self (a : Fl) : maxF a a = a := by unfold maxF; split <;> rfl
theorem maxF_le (a b : Fl) : later a (maxF a b) ≤ 0 ∧ later b (maxF a b) ≤ 0 := by
  unfold maxF
  have hn := cmp_later.neg a b
  split
  · exact ⟨by omega, by rw [later_refl]; omega⟩
  · exact ⟨by rw [later_refl]; omega, by omega⟩
theorem maxF_or (a b : Fl) : maxF a b = a ∨ maxF a b = b := by unfold maxF; split <;> simp
theorem maxF_abs {a b : Fl} (hn : a.name = b.name) (h : later a b ≤ 0) : maxF a b = b := by
  unfold maxF; split
  · rfl
  · exact later_zero hn (by omega)
theorem maxF_assoc {a b c : Fl} (h1 : a.name = b.name) (h2 : b.name = c.name) : maxF (maxF a b) c = maxF a (maxF b c) := by
  unfold maxF
  have nab := cmp_later.neg a b
  have nbc := cmp_later.neg b c
  have nac := cmp_later.neg a c
  by_cases g1 : later a b < 0
  · rw [if_pos g1]
    by_cases g2 : later b c < 0
    · rw [if_pos g2, if_pos (cmp_later.lt_of g1 (Int.le_of_lt g2))]
    · rw [if_neg g2, if_pos g1]
  · rw [if_neg g1]
    by_cases g2 : later b c < 0
    · rw [if_pos g2]
    · rw [if_neg g2, if_neg g1]
      have : later c a ≤ 0 := cmp_later.trans (show later c b ≤ 0 by omega) (show later b a ≤ 0 by omega)
      rw [if_neg (by omega)]

/-- the file of a name -/
def lk (l : List Fl) (n : List UInt8) : Option Fl := l.find? fun f => decide (f.name = n)
/-- names rise -/
def Srt (l : List Fl) : Prop := l.Pairwise fun a b => cb a.name b.name < 0
theorem lk_name {l : List Fl} {n : List UInt8} {f : Fl} (h : lk l n = some f) : f.name = n := by
  have := List.find?_some h; simpa using this
theorem lk_mem {l : List Fl} {n : List UInt8} {f : Fl} (h : lk l n = some f) : f ∈ l := List.mem_of_find?_eq_some h
theorem lk_nil (n : List UInt8) : lk [] n = none := rfl
theorem lk_cons (f : Fl) (l : List Fl) (n : List UInt8) : lk (f :: l) n = if f.name = n then some f else lk l n := by
  unfold lk
  by_cases h : f.name = n
  · rw [List.find?_cons_of_pos (by simpa using h), if_pos h]
  · rw [List.find?_cons_of_neg (by simpa using h), if_neg h]
theorem lk_none {l : List Fl} {n : List UInt8} : lk l n = none ↔ ∀ f ∈ l, f.name ≠ n := by
  unfold lk; rw [List.find?_eq_none]; simp
theorem cb_ne {a b : List UInt8} (h : cb a b < 0) : a ≠ b := by rintro rfl; rw [cb_refl] at h; omega
theorem lk_some {l : List Fl} (hs : Srt l) {f : Fl} (hf : f ∈ l) : lk l f.name = some f := by
  induction l with
  | nil => cases hf
  | cons g l ih =>
    rw [lk_cons]
    obtain ⟨h1, h2⟩ := List.pairwise_cons.1 hs
    rcases List.mem_cons.1 hf with rfl | hf
    · rw [if_pos rfl]
    · rw [if_neg (cb_ne (h1 f hf)), ih h2 hf]
theorem srt_ext {l m : List Fl} (hl : Srt l) (hm : Srt m) (h : ∀ n, lk l n = lk m n) : l = m := by
  induction l generalizing m with
  | nil =>
    cases m with
    | nil => rfl
    | cons g m =>
      have := h g.name
      rw [lk_nil, lk_cons, if_pos rfl] at this; cases this
  | cons f l ih =>
    cases m with
    | nil =>
      have := h f.name
      rw [lk_nil, lk_cons, if_pos rfl] at this; cases this
    | cons g m =>
      obtain ⟨l1, l2⟩ := List.pairwise_cons.1 hl
      obtain ⟨m1, m2⟩ := List.pairwise_cons.1 hm
      have hfg : f = g := by
        have hf := h f.name
        have hg := h g.name
        rw [lk_cons, if_pos rfl, lk_cons] at hf
        rw [lk_cons, lk_cons, if_pos rfl] at hg
        by_cases e : g.name = f.name
        · rw [if_pos e] at hf; injection hf
        · rw [if_neg e] at hf
          rw [if_neg (fun x => e x.symm)] at hg
          have a1 := m1 f (lk_mem hf.symm)
          have a2 := l1 g (lk_mem hg)
          have := cb_neg f.name g.name
          omega
      subst hfg
      congr 1
      refine ih l2 m2 fun n => ?_
      have hn := h n
      rw [lk_cons, lk_cons] at hn
      by_cases e : f.name = n
      · subst e
        have e1 : lk l f.name = none := lk_none.2 fun x hx => (cb_ne (l1 x hx)).symm
        have e2 : lk m f.name = none := lk_none.2 fun x hx => (cb_ne (m1 x hx)).symm
        rw [e1, e2]
      · rwa [if_neg e, if_neg e] at hn
/-- files of one name come together -/
def jo : Option Fl → Option Fl → Option Fl
  | none, y => y
  | some a, none => some a
  | some a, some b => some (maxF a b)
theorem jo_none (x : Option Fl) : jo x none = x := by cases x <;> rfl
/-- both files together -/
def bothL : List Fl → List Fl → List Fl
  | [], b => b
  | x :: a, [] => x :: a
  | x :: a, y :: b => if cb x.name y.name < 0 then x :: bothL a (y :: b) else if 0 < cb x.name y.name then y :: bothL (x :: a) b else maxF x y :: bothL a b
termination_by a b => a.length + b.length
theorem both_nil (b : List Fl) : bothL [] b = b := by rw [bothL]
theorem both_nil' (a : List Fl) : bothL a [] = a := by cases a <;> rw [bothL]
theorem both_lt {x y : Fl} (a b : List Fl) (h : cb x.name y.name < 0) : bothL (x :: a) (y :: b) = x :: bothL a (y :: b) := by rw [bothL, if_pos h]
theorem both_gt {x y : Fl} (a b : List Fl) (h : 0 < cb x.name y.name) : bothL (x :: a) (y :: b) = y :: bothL (x :: a) b := by rw [bothL, if_neg (by omega), if_pos h]
theorem both_eq {x y : Fl} (a b : List Fl) (h : cb x.name y.name = 0) : bothL (x :: a) (y :: b) = maxF x y :: bothL a b := by rw [bothL, if_neg (by omega), if_neg (by omega)]
theorem both_mem : ∀ (k : Nat) (a b : List Fl), a.length + b.length ≤ k → ∀ f ∈ bothL a b, f ∈ a ∨ f ∈ b := by
  intro k
  induction k with
  | zero =>
    intro a b hk f hf
    have ha : a = [] := List.eq_nil_of_length_eq_zero (by omega)
    subst ha; rw [both_nil] at hf; exact .inr hf
  | succ k ih =>
    intro a b hk f hf
    cases a with
    | nil => rw [both_nil] at hf; exact .inr hf
    | cons x a =>
      cases b with
      | nil => rw [both_nil'] at hf; exact .inl hf
      | cons y b =>
        simp only [List.length_cons] at hk
        rcases (by omega : cb x.name y.name < 0 ∨ 0 < cb x.name y.name ∨ cb x.name y.name = 0) with h | h | h
        · rw [both_lt a b h] at hf
          rcases List.mem_cons.1 hf with rfl | hf
          · simp
          · rcases ih a (y :: b) (by simp; omega) f hf with h | h
            · simp [h]
            · exact .inr h
        · rw [both_gt a b h] at hf
          rcases List.mem_cons.1 hf with rfl | hf
          · simp
          · rcases ih (x :: a) b (by simp; omega) f hf with h | h
            · exact .inl h
            · simp [h]
        · rw [both_eq a b h] at hf
          rcases List.mem_cons.1 hf with rfl | hf
          · rcases maxF_or x y with h | h <;> rw [h] <;> simp
          · rcases ih a b (by omega) f hf with h | h <;> simp [h]
theorem both_in {a b : List Fl} {f : Fl} (h : f ∈ bothL a b) : f ∈ a ∨ f ∈ b := both_mem _ a b (Nat.le_refl _) f h
theorem both_srt : ∀ (k : Nat) (a b : List Fl), a.length + b.length ≤ k → Srt a → Srt b → Srt (bothL a b) ∧ ∀ n, lk (bothL a b) n = jo (lk a n) (lk b n) := by
  intro k
  induction k with
  | zero =>
    intro a b hk ha hb
    have h1 : a = [] := List.eq_nil_of_length_eq_zero (by omega)
    subst h1; rw [both_nil]; exact ⟨hb, fun n => rfl⟩
  | succ k ih =>
    intro a b hk ha hb
    cases a with
    | nil => rw [both_nil]; exact ⟨hb, fun n => rfl⟩
    | cons x a =>
      cases b with
      | nil => rw [both_nil']; exact ⟨ha, fun n => by rw [lk_nil, jo_none]⟩
      | cons y b =>
        simp only [List.length_cons] at hk
        obtain ⟨a1, a2⟩ := List.pairwise_cons.1 ha
        obtain ⟨b1, b2⟩ := List.pairwise_cons.1 hb
        rcases (by omega : cb x.name y.name < 0 ∨ 0 < cb x.name y.name ∨ cb x.name y.name = 0) with h | h | h
        · rw [both_lt a b h]
          obtain ⟨i1, i2⟩ := ih a (y :: b) (by simp; omega) a2 hb
          refine ⟨List.pairwise_cons.2 ⟨fun f hf => ?_, i1⟩, fun n => ?_⟩
          · rcases both_in hf with h2 | h2
            · exact a1 f h2
            · rcases List.mem_cons.1 h2 with rfl | h2
              · exact h
              · exact cb_lt_trans h (b1 f h2)
          · rw [lk_cons, i2, lk_cons x a]
            by_cases e : x.name = n
            · rw [if_pos e, if_pos e]
              have : lk (y :: b) n = none := lk_none.2 fun f hf => by
                subst e
                rcases List.mem_cons.1 hf with rfl | hf
                · exact (cb_ne h).symm
                · exact (cb_ne (cb_lt_trans h (b1 f hf))).symm
              rw [this]; rfl
            · rw [if_neg e, if_neg e]
        · have h' : cb y.name x.name < 0 := by rw [cb_neg x.name y.name]; omega
          rw [both_gt a b h]
          obtain ⟨i1, i2⟩ := ih (x :: a) b (by simp; omega) ha b2
          refine ⟨List.pairwise_cons.2 ⟨fun f hf => ?_, i1⟩, fun n => ?_⟩
          · rcases both_in hf with h2 | h2
            · rcases List.mem_cons.1 h2 with rfl | h2
              · exact h'
              · exact cb_lt_trans h' (a1 f h2)
            · exact b1 f h2
          · rw [lk_cons, i2, lk_cons y b]
            by_cases e : y.name = n
            · rw [if_pos e, if_pos e]
              have : lk (x :: a) n = none := lk_none.2 fun f hf => by
                subst e
                rcases List.mem_cons.1 hf with rfl | hf
                · exact (cb_ne h').symm
                · exact (cb_ne (cb_lt_trans h' (a1 f hf))).symm
              rw [this]; rfl
            · rw [if_neg e, if_neg e]
        · have hxy := cb_eq h
          rw [both_eq a b h]
          obtain ⟨i1, i2⟩ := ih a b (by omega) a2 b2
          refine ⟨List.pairwise_cons.2 ⟨fun f hf => ?_, i1⟩, fun n => ?_⟩
          · rw [maxF_name hxy]
            rcases both_in hf with h2 | h2
            · exact a1 f h2
            · rw [hxy]; exact b1 f h2
          · rw [lk_cons, i2, lk_cons x a, lk_cons y b, maxF_name hxy]
            by_cases e : x.name = n
            · rw [if_pos e, if_pos e, if_pos (hxy ▸ e)]; rfl
            · rw [if_neg e, if_neg e, if_neg (fun e2 => e (hxy.trans e2))]
theorem srt_both {a b : List Fl} (ha : Srt a) (hb : Srt b) : Srt (bothL a b) := (both_srt _ a b (Nat.le_refl _) ha hb).1
theorem lk_both {a b : List Fl} (ha : Srt a) (hb : Srt b) (n : List UInt8) : lk (bothL a b) n = jo (lk a n) (lk b n) := (both_srt _ a b (Nat.le_refl _) ha hb).2 n
theorem both_comm {a b : List Fl} (ha : Srt a) (hb : Srt b) : bothL a b = bothL b a := by
  refine srt_ext (srt_both ha hb) (srt_both hb ha) fun n => ?_
  rw [lk_both ha hb, lk_both hb ha]
  cases h1 : lk a n with
  | none => rw [jo_none]; rfl
  | some x =>
    cases h2 : lk b n with
    | none => rfl
    | some y => simp only [jo]; rw [maxF_comm ((lk_name h1).trans (lk_name h2).symm)]
theorem both_assoc {a b c : List Fl} (ha : Srt a) (hb : Srt b) (hc : Srt c) : bothL (bothL a b) c = bothL a (bothL b c) := by
  refine srt_ext (srt_both (srt_both ha hb) hc) (srt_both ha (srt_both hb hc)) fun n => ?_
  rw [lk_both (srt_both ha hb) hc, lk_both ha hb, lk_both ha (srt_both hb hc), lk_both hb hc]
  cases h1 : lk a n with
  | none => rfl
  | some x =>
    cases h2 : lk b n with
    | none => rfl
    | some y =>
      cases h3 : lk c n with
      | none => rfl
      | some z => simp only [jo]; rw [maxF_assoc ((lk_name h1).trans (lk_name h2).symm) ((lk_name h2).trans (lk_name h3).symm)]
theorem both_self {a : List Fl} (ha : Srt a) : bothL a a = a := by
  refine srt_ext (srt_both ha ha) ha fun n => ?_
  rw [lk_both ha ha]
  cases lk a n with
  | none => rfl
  | some x => simp only [jo]; rw [maxF_self]
theorem both_len {a b : List Fl} : (bothL a b).length ≤ a.length + b.length := by
  have : ∀ (k : Nat) (a b : List Fl), a.length + b.length ≤ k → (bothL a b).length ≤ a.length + b.length := by
    intro k
    induction k with
    | zero =>
      intro a b hk
      have h1 : a = [] := List.eq_nil_of_length_eq_zero (by omega)
      subst h1; rw [both_nil]; omega
    | succ k ih =>
      intro a b hk
      cases a with
      | nil => rw [both_nil]; omega
      | cons x a =>
        cases b with
        | nil => rw [both_nil']; omega
        | cons y b =>
          simp only [List.length_cons] at hk
          rcases (by omega : cb x.name y.name < 0 ∨ 0 < cb x.name y.name ∨ cb x.name y.name = 0) with h | h | h
          · rw [both_lt a b h]; have := ih a (y :: b) (by simp; omega); simp at *; omega
          · rw [both_gt a b h]; have := ih (x :: a) b (by simp; omega); simp at *; omega
          · rw [both_eq a b h]; have := ih a b (by omega); simp at *; omega
  exact this _ a b (Nat.le_refl _)
/-- what is wrong with a file -/
def fileE (f : Fl) : Int :=
  if Name.nameE f.name ≠ 0 then Name.nameE f.name else if 3000 < f.bytes.length then 2 else if f.stamp < 0 ∨ 1000000 < f.stamp ∨ f.node < 0 ∨ 4 ≤ f.node then 3 else if f.gone = true ∧ f.bytes ≠ [] then 4 else 0
/-- it comes behind -/
def upB : Option (List UInt8) → List UInt8 → Bool
  | none, _ => true
  | some q, n => decide (cb q n < 0)
def chkR : Option (List UInt8) → List Fl → Int
  | _, [] => 0
  | p, f :: l => if fileE f ≠ 0 then fileE f else if upB p f.name = false then 4 else chkR (some f.name) l
def chkF (l : List Fl) : Int := if 12 < l.length then 2 else chkR none l
theorem chkR_ok (p : Option (List UInt8)) (l : List Fl) : chkR p l = 0 ↔ (∀ f ∈ l, fileE f = 0) ∧ Srt l ∧ (∀ q, p = some q → ∀ f ∈ l, cb q f.name < 0) := by
  induction l generalizing p with
  | nil => simp [chkR, Srt]
  | cons f l ih =>
    simp only [chkR]
    by_cases h1 : fileE f = 0
    · rw [if_neg (by simpa using h1)]
      by_cases h2 : upB p f.name = false
      · rw [if_pos h2]
        constructor
        · intro h; simp at h
        · rintro ⟨_, _, h3⟩
          cases p with
          | none => cases h2
          | some q => exact absurd (h3 q rfl f (by simp)) (by simpa [upB] using h2)
      · rw [if_neg h2, ih]
        constructor
        · rintro ⟨g1, g2, g3⟩
          refine ⟨?_, List.pairwise_cons.2 ⟨fun x hx => g3 _ rfl x hx, g2⟩, ?_⟩
          · intro x hx
            rcases List.mem_cons.1 hx with rfl | hx
            · exact h1
            · exact g1 x hx
          · intro q hq x hx
            subst hq
            have hqf : cb q f.name < 0 := by simpa [upB] using h2
            rcases List.mem_cons.1 hx with rfl | hx
            · exact hqf
            · exact cb_lt_trans hqf (g3 _ rfl x hx)
        · rintro ⟨g1, g2, g3⟩
          obtain ⟨k1, k2⟩ := List.pairwise_cons.1 g2
          refine ⟨fun x hx => g1 x (by simp [hx]), k2, ?_⟩
          intro q hq x hx
          injection hq with hq
          subst hq
          exact k1 x hx
    · rw [if_pos h1]
      constructor
      · intro h; exact absurd h h1
      · rintro ⟨g, _, _⟩; exact absurd (g f (by simp)) h1
theorem chkF_ok {l : List Fl} : chkF l = 0 ↔ l.length ≤ 12 ∧ (∀ f ∈ l, fileE f = 0) ∧ Srt l := by
  unfold chkF
  split
  · constructor
    · intro h; simp at h
    · intro h; omega
  · rw [chkR_ok]
    constructor
    · rintro ⟨a, b, _⟩; exact ⟨by omega, a, b⟩
    · rintro ⟨_, a, b⟩; exact ⟨a, b, fun q hq => by cases hq⟩
def bothR (a b : List Fl) : Int × List Fl :=
  if chkF a ≠ 0 then (chkF a, []) else if chkF b ≠ 0 then (chkF b, []) else if 12 < (bothL a b).length then (11, []) else (0, bothL a b)
theorem bothR_ok {a b l : List Fl} (h : bothR a b = (0, l)) : chkF a = 0 ∧ chkF b = 0 ∧ l = bothL a b ∧ l.length ≤ 12 := by
  unfold bothR at h
  by_cases h1 : chkF a = 0
  · rw [if_neg (by simpa using h1)] at h
    by_cases h2 : chkF b = 0
    · rw [if_neg (by simpa using h2)] at h
      split at h
      · simp at h
      · injection h with _ h; subst h; exact ⟨h1, h2, rfl, by omega⟩
    · rw [if_pos h2] at h; injection h with h; exact absurd h h2
  · rw [if_pos h1] at h; injection h with h; exact absurd h h1
theorem bothR_of {a b : List Fl} (h1 : chkF a = 0) (h2 : chkF b = 0) (h3 : (bothL a b).length ≤ 12) : bothR a b = (0, bothL a b) := by
  unfold bothR; rw [if_neg (by simpa using h1), if_neg (by simpa using h2), if_neg (by omega)]
theorem chk_both {a b : List Fl} (h1 : chkF a = 0) (h2 : chkF b = 0) (h3 : (bothL a b).length ≤ 12) : chkF (bothL a b) = 0 := by
  rw [chkF_ok] at *
  refine ⟨h3, fun f hf => ?_, srt_both h1.2.2 h2.2.2⟩
  rcases both_in hf with h | h
  · exact h1.2.1 f h
  · exact h2.2.1 f h
theorem bothR_err {a b : List Fl} (h : (bothR a b).1 ≠ 0) : (bothR a b).2 = [] := by
  unfold bothR at *
  split
  · rfl
  · rename_i h1
    rw [if_neg h1] at h
    split
    · rfl
    · rename_i h2
      rw [if_neg h2] at h
      split
      · rfl
      · rename_i h3
        rw [if_neg h3] at h; exact absurd rfl h
/-- those that are not gone -/
def shownL (a : List Fl) : List Fl := a.filter fun f => !f.gone
def shownR (a : List Fl) : Int × List Fl := if chkF a ≠ 0 then (chkF a, []) else (0, shownL a)
/-- newer than what b has -/
def newB (b : List Fl) (f : Fl) : Bool := match lk b f.name with | none => true | some g => decide (0 < later f g)
def lessL (a b : List Fl) : List Fl := a.filter (newB b)
def lessR (a b : List Fl) : Int × List Fl := if chkF a ≠ 0 then (chkF a, []) else if chkF b ≠ 0 then (chkF b, []) else (0, lessL a b)
theorem srt_filter {a : List Fl} (h : Srt a) (p : Fl → Bool) : Srt (a.filter p) := List.Pairwise.sublist List.filter_sublist h
theorem chk_filter {a : List Fl} (h : chkF a = 0) (p : Fl → Bool) : chkF (a.filter p) = 0 := by
  rw [chkF_ok] at *
  have := List.length_filter_le p a
  exact ⟨by omega, fun f hf => h.2.1 f (List.mem_filter.1 hf).1, srt_filter h.2.2 p⟩
theorem lk_filter {a : List Fl} (h : Srt a) (p : Fl → Bool) (n : List UInt8) : lk (a.filter p) n = (lk a n).filter p := by
  cases h1 : lk a n with
  | none =>
    rw [lk_none] at h1
    exact lk_none.2 fun f hf => h1 f (List.mem_filter.1 hf).1
  | some f =>
    have hn := lk_name h1
    subst hn
    cases h2 : p f with
    | true =>
      have := lk_some (srt_filter h p) (List.mem_filter.2 ⟨lk_mem h1, h2⟩)
      rw [this]; simp [Option.filter, h2]
    | false =>
      simp only [Option.filter, h2]
      refine lk_none.2 fun g hg he => ?_
      obtain ⟨hg1, hg2⟩ := List.mem_filter.1 hg
      have := lk_some h hg1
      rw [he, h1] at this
      injection this with this
      subst this
      rw [h2] at hg2; cases hg2
/-- what one lacks brings it up to both -/
theorem both_less {a b : List Fl} (ha : Srt a) (hb : Srt b) : bothL a (lessL b a) = bothL a b := by
  unfold lessL
  refine srt_ext (srt_both ha (srt_filter hb _)) (srt_both ha hb) fun n => ?_
  rw [lk_both ha (srt_filter hb _), lk_both ha hb, lk_filter hb]
  cases h2 : lk b n with
  | none => rfl
  | some y =>
    have hy := lk_name h2
    subst hy
    cases h1 : lk a y.name with
    | none =>
      have : newB a y = true := by unfold newB; rw [h1]
      simp [Option.filter, this]
    | some x =>
      have hx := lk_name h1
      by_cases g : 0 < later y x
      · have : newB a y = true := by unfold newB; rw [h1]; simpa using g
        simp [Option.filter, this]
      · have : newB a y = false := by unfold newB; rw [h1]; simpa using g
        simp only [Option.filter, this, jo]
        rw [maxF_comm hx, maxF_abs hx.symm (by omega)]
        rfl
theorem less_both {a b : List Fl} (ha : Srt a) (hb : Srt b) : lessL a (bothL a b) = [] := by
  unfold lessL
  rw [List.filter_eq_nil_iff]
  intro f hf
  have h1 := lk_some ha hf
  have h2 : lk (bothL a b) f.name = jo (some f) (lk b f.name) := by rw [lk_both ha hb, h1]
  unfold newB
  rw [h2]
  cases lk b f.name with
  | none => simp [jo, later_refl]
  | some y =>
    simp only [jo]
    have := (maxF_le f y).1
    simp; omega
theorem less_self {a : List Fl} (ha : Srt a) : lessL a a = [] := by
  have := less_both ha ha
  rwa [both_self ha] at this
theorem shown_shown (a : List Fl) : shownL (shownL a) = shownL a := by unfold shownL; rw [List.filter_filter]; simp
end Go.Proofs.YtdoegpklephelaaGreatDoor.Merge
