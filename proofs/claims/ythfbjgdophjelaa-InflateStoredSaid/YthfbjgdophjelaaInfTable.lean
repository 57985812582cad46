/- package inflate: a table of lengths, if they make a code. -/
import Derived.Test.YthfbjgdophjelaaInfStored
namespace Go.Proofs.Ythfbjgdophjelaa.Inf
open Go Go.RowKit Go.Proofs.Ythfbjgdophjelaa Go.Proofs.Ythfbjgdophjelaa.Bits Go.Proofs.Ythfbjgdophjelaa.Code
set_option linter.unusedVariables false

set_option maxRecDepth 100000 in
set_option maxHeartbeats 1600000 in
theorem table_r (A : Option Addr) (n c : Nat) (zs : List Int) (w : World) (hn : zs.length = n) (hx : n ≤ maxLen) (hA : InAt w A zs) :
    Calls Try.prog 28 #[.slice A n c] w fun e w' =>
      RPost (tableR zs) (fun ls e w' => chkL zs = 0 ∧ ∃ p, e = .returned (.pointer (some ⟨p, 0, none⟩)) ∧ TabAt w' w.heap.size p ls) e w' ∧ Below w.heap.size w w' := by
  have HCk := Lib.hid (check_any A n c zs w hn hx hA)
  have HA := Lib.hid hA
  have Hn := Lib.hid hn
  clear hA hn
  go_enter Try.func28, Try.ntmps28
  go_wp2_with fail
  refine (HCk.out).mono ?_
  rintro e w2 ⟨rfl, hw2⟩
  have hb2 : Below w.heap.size w w2 := by
    first
      | exact hw2
      | (obtain ⟨d, rfl⟩ := hw2; exact (Below.refl _ _).drewN' d)
      | (rw [hw2]; exact Below.refl _ _)
  have Hb2 := Lib.hid hb2
  clear hw2 hb2 HCk
  obtain ⟨z, hz⟩ : ∃ z, z = chkL zs := ⟨_, rfl⟩
  rw [← hz]
  by_cases h0 : z = 0
  · subst h0
    have HM := Lib.hid (make_any A n c zs w2 Hn.out (SlAt.below HA.out Hb2.out) hz.symm)
    have Hz := Lib.hid hz.symm
    clear hz
    go_wp2_with fail
    refine (HM.out).mono ?_
    rintro e w3 ⟨⟨p, rfl, ht⟩, hb3⟩
    have HT := Lib.hid ht
    have Hb3 := Lib.hid hb3
    clear ht hb3 HM
    go_wp2_with fail
    go_ret
    refine ⟨ok_rpost (a := lsOf zs) (by unfold tableR; rw [if_pos Hz.out]) ⟨Hz.out, p, rfl, ?_⟩, Hb2.out.trans (Hb3.out.mono Hb2.out.size)⟩
    obtain ⟨h1, v, h2, h3⟩ := HT.out
    exact ⟨Nat.le_trans Hb2.out.size h1, v, h2, own_base h3 Hb2.out.size⟩
  · have hz1 : (z != 0) = true := by simpa using h0
    have Hz := Lib.hid (show chkL zs ≠ 0 by rw [← hz]; exact h0)
    clear hz
    go_wp2_with fail
    refine (fail_any 8 _).mono ?_
    rintro e w3 ⟨rfl, rfl⟩
    unfold stopE
    go_wp2_with fail
    exact ⟨rfl, bad_rpost (by unfold tableR; rw [if_neg Hz.out]), Hb2.out⟩
/-- again: the closure of lengths; l in a cell of its own, n in another one -/
theorem again_low (n : Nat) : (n : Int) = (n : Int) := rfl
end Go.Proofs.Ythfbjgdophjelaa.Inf
