/- the document's own look at names: plain law. No program in sight. -/
import Derived.Test.YtdoegpklephelaaGreatDoorNamePure
import Derived.Lib.SlTrimSet
namespace Go.Proofs.YtdoegpklephelaaGreatDoor.Name
open Go
set_option linter.unusedVariables false

/-- the letters of names, in the document's order -/
def lettersL : List UInt8 := [97, 98, 99, 100, 101, 102, 103, 104, 105, 106, 107, 108, 109, 110, 111, 112, 113, 114, 115, 116, 117, 118, 119, 120, 121, 122, 65, 66, 67, 68, 69, 70, 71, 72, 73, 74, 75, 76, 77, 78, 79, 80, 81, 82, 83, 84, 85, 86, 87, 88, 89, 90, 48, 49, 50, 51, 52, 53, 54, 55, 56, 57, 46, 95, 45]
theorem letters_ascii : lettersL.all (fun b => decide (b.toNat < 128)) = true := by decide
theorem letters_all : (List.range 256).all (fun k => decide (lettersL.contains (UInt8.ofNat k) = letterB (UInt8.ofNat k))) = true := by decide +kernel
theorem letters_letter (c : UInt8) : lettersL.contains c = letterB c := by
  have h := List.all_eq_true.1 letters_all c.toNat (List.mem_range.2 (UInt8.toNat_lt c))
  have e : UInt8.ofNat c.toNat = c := by simp
  rw [e] at h
  exact of_decide_eq_true h
theorem dropWhile_nil {α : Type} (p : α → Bool) (l : List α) : l.dropWhile p = [] ↔ ∀ x ∈ l, p x = true := by
  induction l with
  | nil => simp
  | cons a l ih =>
    by_cases h : p a = true
    · rw [List.dropWhile_cons_of_pos h, ih]; simp [h]
    · rw [List.dropWhile_cons_of_neg h]; simp [h]
theorem dropWhile_mem {α : Type} (p : α → Bool) (l : List α) (x : α) (h : x ∈ l) (hp : p x = false) : x ∈ l.dropWhile p := by
  induction l with
  | nil => cases h
  | cons a l ih =>
    by_cases g : p a = true
    · rw [List.dropWhile_cons_of_pos g]
      rcases List.mem_cons.1 h with rfl | h
      · rw [g] at hp; cases hp
      · exact ih h
    · rw [List.dropWhile_cons_of_neg g]; exact h
theorem trim_nil (l cs : List UInt8) : Lib.trimS l cs = [] ↔ ∀ x ∈ l, cs.contains x = true := by
  unfold Lib.trimS Lib.trimLeftS Lib.trimRightS
  rw [dropWhile_nil]
  constructor
  · intro h x hx
    cases hc : cs.contains x with
    | true => rfl
    | false =>
      have h1 : x ∈ (l.reverse.dropWhile (cs.contains ·)).reverse := by
        rw [List.mem_reverse]
        exact dropWhile_mem _ _ x (by simpa using hx) hc
      have := h x h1
      rw [this] at hc; cases hc
  · intro h x hx
    rw [List.mem_reverse] at hx
    exact h x (by simpa using List.dropWhile_subset _ hx)
/-- a part that the document takes for none -/
def badR (p : List UInt8) : Bool := decide (p = []) || (decide (p = [46]) || (decide (p = [46, 46]) || decide (Lib.trimS p lettersL ≠ [])))
theorem badR_bad (p : List UInt8) : badR p = badPart p := by
  have e : decide (Lib.trimS p lettersL ≠ []) = p.any (fun c => !letterB c) := by
    rw [Bool.eq_iff_iff, decide_eq_true_iff, List.any_eq_true]
    constructor
    · intro h
      refine Classical.byContradiction fun hn => h ((trim_nil _ _).2 fun x hx => ?_)
      rw [letters_letter]
      cases hx2 : letterB x with
      | true => rfl
      | false => exact absurd ⟨x, hx, by simp [hx2]⟩ hn
    · rintro ⟨x, hx, h1⟩ h2
      have := (trim_nil _ _).1 h2 x hx
      rw [letters_letter] at this
      simp [this] at h1
  unfold badR badPart
  rw [e]
  cases p.any (fun c => !letterB c) <;> cases decide (p = []) <;> cases decide (p = [46]) <;> cases decide (p = [46, 46]) <;> rfl
theorem nameE_bad {s : List UInt8} (h : s.length ≤ 40) {p : List UInt8} (hp : p ∈ parts s) (hb : badR p = true) : nameE s = 1 := by
  unfold nameE
  rw [if_neg (by omega), if_pos]
  rw [List.any_eq_true]
  exact ⟨p, hp, by rw [← badR_bad]; exact hb⟩
theorem nameE_fine' {s : List UInt8} (h : s.length ≤ 40) (hb : ∀ p ∈ parts s, badR p = false) : nameE s = 0 := by
  unfold nameE
  rw [if_neg (by omega), if_neg]
  rw [List.any_eq_true]
  rintro ⟨p, hp, h1⟩
  rw [← badR_bad, hb p hp] at h1
  cases h1
/-- what begins with a folder and a slash -/
theorem prefix_at (s f : List UInt8) : Lib.hasPrefix s (f ++ [47]) = decide (f.length < s.length ∧ s.take f.length = f ∧ s.getD f.length 0 = 47) := by
  rw [← Lib.hasPrefix_of_take, Bool.eq_iff_iff, Bool.and_eq_true, decide_eq_true_iff, decide_eq_true_iff, beq_iff_eq, List.length_append, List.length_singleton]
  constructor
  · rintro ⟨h1, h2⟩
    rw [List.take_add_one, List.getElem?_eq_getElem (show f.length < s.length by omega)] at h2
    obtain ⟨h3, h4⟩ := List.append_inj h2 (by rw [List.length_take]; omega)
    refine ⟨by omega, h3, ?_⟩
    simp at h4
    simp [List.getD_eq_getElem?_getD, List.getElem?_eq_getElem (show f.length < s.length by omega), h4]
  · rintro ⟨h1, h2, h3⟩
    refine ⟨by omega, ?_⟩
    rw [List.take_add_one, List.getElem?_eq_getElem h1, h2]
    simp [List.getD_eq_getElem?_getD, List.getElem?_eq_getElem h1] at h3
    rw [h3]; rfl
end Go.Proofs.YtdoegpklephelaaGreatDoor.Name
