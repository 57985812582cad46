/- package name: Parts, Check, Under. -/
import Derived.Test.YtdoegpklephelaaGreatDoorFuncS
namespace Go.Proofs.YtdoegpklephelaaGreatDoor.Name
open Go Go.RowKit Go.Proofs.YtdoegpklephelaaGreatDoor
set_option linter.unusedVariables false

theorem stepN {w1 w2 : World} (h : Below w1.heap.size w1 w2) {w3 : World} (h2 : Below w2.heap.size w2 w3) : Below w1.heap.size w1 w3 :=
  h.trans (h2.mono h.size)
/-- an own block of values read as a slice -/
theorem blk_slat {w : World} {g : Nat} {t : TypeId} {cs : List Value} (h : Blk w g t cs.toArray) : SlAt w (some ⟨g, 0, none⟩) cs := fun _ =>
  ⟨g, 0, rfl, fun j v hj => by rw [Nat.zero_add, h.cell]; simpa using hj⟩
def PartsPost (s : List UInt8) (w : World) (e : Ending) (w' : World) : Prop :=
  (nameE s ≠ 0 ∧ e = .returned (.tuple #[.slice none 0 0, .int .i64 (nameE s)]) ∨
   nameE s = 0 ∧ ∃ g, e = .returned (.tuple #[.slice (some ⟨g, 0, none⟩) (parts s).length (parts s).length, .int .i64 0]) ∧ w.heap.size ≤ g ∧ Blk w' g 9 ((parts s).map sv).toArray) ∧ Below w.heap.size w w'
set_option maxRecDepth 100000 in
set_option maxHeartbeats 1600000 in
theorem parts_any (s : List UInt8) (w : World) (hx : s.length ≤ maxLen) (hm : ML w) :
    Calls Tryz.prog 60 #[.string (strB s)] w (PartsPost s w) := by
  unfold PartsPost
  have hz := strB_size s
  have hx' : s.length ≤ 9223372036854775807 := by unfold maxLen at hx; omega
  by_cases h40 : 40 < s.length
  · have Hn : Hid (nameE s = 2) := Lib.hid (by unfold nameE; rw [if_pos h40])
    have h40i : (40 : Int) < (s.length : Int) := by omega
    go_enter Tryz.func60, Tryz.ntmps60
    go_wp2_with fail
    go_ret2
    exact ⟨.inl ⟨by rw [Hn.out]; decide, by rw [Hn.out]; rfl⟩, Below.refl _ _⟩
  · have h40i : ¬ (40 : Int) < (s.length : Int) := by omega
    have Hn : Hid (nameE s = if (parts s).any badPart = true then 1 else 0) := Lib.hid (by unfold nameE; rw [if_neg h40])
    have HS := Lib.hid (split_any s w (by omega) hm)
    have Hl : Hid ((parts s).length ≤ 41) := Lib.hid (by have := parts_len s; omega)
    have Hp : Hid (∀ p ∈ parts s, p.length ≤ 4000000) := Lib.hid (fun p hp => by have := parts_sum s p hp; omega)
    generalize parts s = ps at *
    obtain ⟨n, hn⟩ : ∃ n, n = ps.length := ⟨_, rfl⟩
    have HN := Lib.hid hn.symm
    rw [← hn] at HS Hl
    clear hm hn
    go_enter Tryz.func60, Tryz.ntmps60
    go_wp2_with fail
    refine (HS.out).mono ?_
    rintro e w1 ⟨rfl, hblk, hb1⟩
    have Hblk := Lib.hid hblk
    have Hb1 := Lib.hid hb1
    clear hblk hb1
    obtain ⟨g, hg⟩ : ∃ g, g = w.heap.size := ⟨_, rfl⟩
    have Hg := Lib.hid hg
    rw [← hg] at Hblk ⊢
    clear hg
    go_wp2_with fail
    refine (containsFunc_strs (some ⟨g, 0, none⟩) n n ps 77 #[] badPart w1 HN.out (by have := Hl.out; unfold maxLen; omega) (blk_slat Hblk.out) (fun _ _ => by kernel_rfl) (fun x hx w' _ => ?_)).mono ?_
    · refine (bad_any x w' (Hp.out x hx)).mono ?_
      rintro e w2 ⟨rfl, rfl⟩
      exact ⟨rfl, Below.refl _ _⟩
    rintro e w2 ⟨rfl, hb2⟩
    have Hblk2 := Lib.hid (Hblk.out.below hb2 Hblk.out.lt)
    have Hb2 := Lib.hid (stepN Hb1.out hb2)
    clear hb2 Hblk Hb1
    cases hany : ps.any badPart with
    | true =>
      have Hf : Hid (nameE s = 1) := Lib.hid (by rw [Hn.out, if_pos hany])
      go_wp2_with fail
      go_ret2
      exact ⟨.inl ⟨by rw [Hf.out]; decide, by rw [Hf.out]; rfl⟩, Hb2.out⟩
    | false =>
      have Hf : Hid (nameE s = 0) := Lib.hid (by rw [Hn.out, if_neg (by rw [hany]; simp)])
      go_wp2_with fail
      go_ret2
      exact ⟨.inr ⟨Hf.out, g, by rw [HN.out]; rfl, by rw [Hg.out]; exact Nat.le_refl _, Hblk2.out⟩, Hb2.out⟩
theorem parts_tuple {s : List UInt8} {w : World} {e : Ending} {w' : World} (h : PartsPost s w e w') : ∃ A n, e = .returned (.tuple #[.slice A n n, .int .i64 (nameE s)]) ∧ (nameE s ≠ 0 → A = none ∧ n = 0) ∧ (nameE s = 0 → n = (parts s).length ∧ ∃ g, A = some ⟨g, 0, none⟩ ∧ w.heap.size ≤ g ∧ Blk w' g 9 ((parts s).map sv).toArray) := by
  rcases h.1 with ⟨h1, rfl⟩ | ⟨h1, g, rfl, hg, hblk⟩
  · exact ⟨none, 0, rfl, fun _ => ⟨rfl, rfl⟩, fun h => absurd h h1⟩
  · exact ⟨_, _, by rw [h1], fun h => absurd h1 h, fun _ => ⟨rfl, g, rfl, hg, hblk⟩⟩
set_option maxRecDepth 100000 in
set_option maxHeartbeats 800000 in
theorem checkN_any (s : List UInt8) (w : World) (hx : s.length ≤ maxLen) (hm : ML w) :
    Calls Tryz.prog 46 #[.string (strB s)] w fun e w' => e = .returned (.int .i64 (nameE s)) ∧ Below w.heap.size w w' := by
  have HP := Lib.hid (parts_any s w hx hm)
  clear hm
  go_enter Tryz.func46, Tryz.ntmps46
  go_wp2_with fail
  refine (HP.out).mono ?_
  intro e w1 hp
  have Hb1 := Lib.hid hp.2
  obtain ⟨A, n, rfl, _, _⟩ := parts_tuple hp
  clear hp
  go_wp2_with fail
  go_ret
  exact ⟨rfl, Hb1.out⟩
end Go.Proofs.YtdoegpklephelaaGreatDoor.Name
