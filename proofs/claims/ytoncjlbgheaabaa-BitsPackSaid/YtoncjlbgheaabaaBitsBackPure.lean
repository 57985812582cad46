/- packing and unpacking; turning twice: the plain laws. -/
import Derived.Test.YtoncjlbgheaabaaTurn
namespace Go.Proofs.Ytoncjlbgheaabaa.Bits
open Go Go.RowKit Go.Proofs.Ytoncjlbgheaabaa
set_option linter.unusedVariables false

theorem turned_twice (n s : Nat) (h : n < 2 ^ s) : turned (turned n s) s = n := by
  have h1 := numBits_num (numBits n s).reverse
  rw [List.length_reverse, numBits_length] at h1
  unfold turned
  rw [h1, List.reverse_reverse, num_numBits, Nat.mod_eq_of_lt h]
theorem fits_lt {a b : Int} (h : fits (a, b) = true) : 0 ≤ b ∧ b ≤ 16 ∧ 0 ≤ a ∧ a.toNat < 2 ^ b.toNat := by
  simp [fits] at h
  obtain ⟨⟨⟨h1, h2⟩, h3⟩, h4⟩ := h
  refine ⟨h1, h2, h3, ?_⟩
  obtain ⟨m, rfl⟩ := Int.eq_ofNat_of_zero_le h3
  have : ((m : Int)) < ((2 ^ b.toNat : Nat) : Int) := by simpa using h4
  simp only [Int.toNat_natCast]; omega
theorem fits_turned {n s : Int} (h : fits (n, s) = true) : fits (((turned n.toNat s.toNat : Nat) : Int), s) = true := by
  obtain ⟨h1, h2, h3, h4⟩ := fits_lt h
  have := turned_lt n.toNat s.toNat
  have h5 : ((turned n.toNat s.toNat : Nat) : Int) < ((2 ^ s.toNat : Nat) : Int) := by exact_mod_cast this
  simp only [fits, Bool.and_eq_true, decide_eq_true_eq]
  refine ⟨⟨⟨h1, h2⟩, by omega⟩, by simpa using h5⟩
theorem unpack_pack (l : List (Int × Int)) (h : l.all fits = true) (rest : List Bool) : unpackL (bitsP l ++ rest) (l.map fun p => p.2.toNat) = l.map fun p => p.1.toNat := by
  induction l generalizing rest with
  | nil => rfl
  | cons p l ih =>
    obtain ⟨a, b⟩ := p
    have h2 : fits (a, b) = true ∧ l.all fits = true := by simpa using h
    obtain ⟨_, _, _, h4⟩ := fits_lt h2.1
    have e : bitsP ((a, b) :: l) = numBits a.toNat b.toNat ++ bitsP l := rfl
    have hl := numBits_length a.toNat b.toNat
    rw [e, List.append_assoc]
    simp only [List.map_cons, unpackL]
    rw [List.take_left' hl, List.drop_left' hl, ih h2.2 rest, num_numBits, Nat.mod_eq_of_lt h4]
theorem sizes_ok (l : List (Int × Int)) (h : l.all fits = true) : (l.map fun p => p.2).any badSize = false := by
  rw [List.any_eq_false]
  intro x hx
  obtain ⟨p, hp, rfl⟩ := List.mem_map.1 hx
  have h1 := List.all_eq_true.1 h p hp
  obtain ⟨a, b⟩ := p
  have := fits_lt h1
  simp [badSize]; omega
theorem sum_ok (l : List (Int × Int)) : ((l.map fun p => p.2).map Int.toNat).sum = (bitsP l).length := by
  induction l with
  | nil => rfl
  | cons p l ih =>
    have e : bitsP (p :: l) = numBits p.1.toNat p.2.toNat ++ bitsP l := rfl
    rw [e, List.length_append, numBits_length, List.map_cons, List.map_cons, List.sum_cons, ih]
theorem sum_fits (l : List (Int × Int)) : ((l.map fun p => p.2).map Int.toNat).sum ≤ 8 * (pack (bitsP l)).length := by
  rw [sum_ok, pack_length]; omega
theorem unpack_back (l : List (Int × Int)) (h : l.all fits = true) : (unpackL (bitsL (pack (bitsP l))) ((l.map fun p => p.2).map Int.toNat)).map (fun (n : Nat) => (n : Int)) = l.map fun p => p.1 := by
  rw [bitsL_pack, List.map_map]
  have := unpack_pack l h (List.replicate (8 * (((bitsP l).length + 7) / 8) - (bitsP l).length) false)
  show (unpackL _ (l.map fun p => p.2.toNat)).map _ = _
  rw [this, List.map_map]
  apply List.map_congr_left
  intro p hp
  obtain ⟨a, b⟩ := p
  have := fits_lt (List.all_eq_true.1 h _ hp)
  simp only [Function.comp]; omega
end Go.Proofs.Ytoncjlbgheaabaa.Bits
