/- the document's own look at names: its walk. -/
import Derived.Test.YtdoegpklephelaaGreatDoorName2
import Derived.Test.YtdoegpklephelaaGreatDoorNameRefPure
import Derived.Test.YtdoegpklephelaaGreatDoorShelfTrim
namespace Go.Proofs.YtdoegpklephelaaGreatDoor.Name
open Go Go.RowKit Go.Shelf Go.Proofs.YtdoegpklephelaaGreatDoor
set_option linter.unusedVariables false

theorem trim_any (p : List UInt8) (w : World) (hp : p.length ≤ 4000000) :
    Calls Tryz.prog 50 #[.string (strB p), .string ⟨#[97, 98, 99, 100, 101, 102, 103, 104, 105, 106, 107, 108, 109, 110, 111, 112, 113, 114, 115, 116, 117, 118, 119, 120, 121, 122, 65, 66, 67, 68, 69, 70, 71, 72, 73, 74, 75, 76, 77, 78, 79, 80, 81, 82, 83, 84, 85, 86, 87, 88, 89, 90, 48, 49, 50, 51, 52, 53, 54, 55, 56, 57, 46, 95, 45]⟩] w fun e w' => e = .returned (.string (strB (Lib.trimS p lettersL))) ∧ Below w.heap.size w w' := by
  have c : Calls Tryz.prog 50 #[.string (strB p), .string (strB lettersL)] w _ := Any.strings_Trim_laid YtdoegpklephelaaGreatDoor.lays160 (by kernel_rfl) (strB p) (strB lettersL) w (by rw [strB_size]; omega) (by decide) (by rw [strB_data]; exact ascii_of_all letters_ascii)
  rw [strB_data, strB_data] at c
  exact c
set_option maxRecDepth 100000 in
set_option maxHeartbeats 1600000 in
theorem parted_any (s : List UInt8) (w : World) (hx : s.length ≤ maxLen) (hm : ML w) :
    Calls Tryz.prog 31 #[.string (strB s)] w (PartsPost s w) := by
  unfold PartsPost
  have hz := strB_size s
  have hx' : s.length ≤ 9223372036854775807 := by unfold maxLen at hx; omega
  by_cases h40 : 40 < s.length
  · have Hn : Hid (nameE s = 2) := Lib.hid (by unfold nameE; rw [if_pos h40])
    have h40i : (40 : Int) < (s.length : Int) := by omega
    go_enter Tryz.func31, Tryz.ntmps31
    go_wp2_with fail
    go_ret2
    exact ⟨.inl ⟨by rw [Hn.out]; decide, by rw [Hn.out]; rfl⟩, Below.refl _ _⟩
  · have h40i : ¬ (40 : Int) < (s.length : Int) := by omega
    have HS := Lib.hid (split_any s w (by omega) hm)
    have Hl : Hid ((parts s).length ≤ 41) := Lib.hid (by have := parts_len s; omega)
    have Hp : Hid (∀ p ∈ parts s, p.length ≤ 4000000) := Lib.hid (fun p hp => by have := parts_sum s p hp; omega)
    have Hbad : Hid (∀ p ∈ parts s, badR p = true → nameE s = 1) := Lib.hid (fun p hp hb => nameE_bad (by omega) hp hb)
    have Hfine : Hid ((∀ p ∈ parts s, badR p = false) → nameE s = 0) := Lib.hid (fun h => nameE_fine' (by omega) h)
    generalize parts s = ps at *
    obtain ⟨n, hn⟩ : ∃ n, n = ps.length := ⟨_, rfl⟩
    have HN := Lib.hid hn.symm
    have hn41 : n ≤ 41 := by rw [hn]; exact Hl.out
    rw [← hn] at HS
    clear hm hn Hl
    go_enter Tryz.func31, Tryz.ntmps31
    go_wp2_with fail
    refine (HS.out).mono ?_
    rintro e w1 ⟨rfl, hblk, hb1⟩
    have Hblk := Lib.hid hblk
    have Hb1 := Lib.hid hb1
    clear hblk hb1
    obtain ⟨g, hg⟩ : ∃ g, g = w.heap.size := ⟨_, rfl⟩
    have Hg := Lib.hid hg
    rw [← hg] at Hblk ⊢
    clear hg
    have Hsl := Lib.hid (blk_slat Hblk.out)
    go_wp2_with fail
    go_loopw [14] (fun i wx => ∃ k : Nat, k ≤ n ∧ i = .int .i64 (k : Int) ∧ (∀ p ∈ ps.take k, badR p = false) ∧ Below w1.heap.size w1 wx) (fun i _ => n - (intOf i).toNat)
    case atStart => exact ⟨0, Nat.zero_le _, rfl, by simp, Below.refl _ _⟩
    case round =>
      obtain ⟨k, hk, rfl, hall, hbx⟩ := hrel
      have Hall := Lib.hid hall
      have Hbx := Lib.hid hbx
      clear hall hbx
      by_cases hlt : k < n
      · have hkp : k < ps.length := by rw [HN.out]; exact hlt
        obtain ⟨b, o, e, hc⟩ := SlAt.get (Hsl.out.below Hbx.out) (k := k) (by rw [List.length_map]; exact hkp)
        injection e with e
        injection e with e1 e2 e3
        subst e1 e2
        rw [List.getElem_map, Nat.zero_add] at hc
        have Hbd := Lib.hid (Hbad.out ps[k] (List.getElem_mem hkp))
        have Hsn := Lib.hid (not_take_succ badR ps k hkp Hall.out)
        have hpl := Hp.out ps[k] (List.getElem_mem hkp)
        generalize ps[k] = p at *
        have HT := Lib.hid (trim_any p wr hpl)
        have HB : Hid (badR p = (decide (p = []) || (decide (p = [46]) || (decide (p = [46, 46]) || decide (Lib.trimS p lettersL ≠ []))))) := Lib.hid rfl
        unfold sv at hc
        by_cases h1 : p = []
        · subst h1
          have Hf : Hid (nameE s = 1) := Lib.hid (Hbd.out (by rw [HB.out]; rfl))
          clear HT
          go_wp2_with fail
          go_ret2
          exact ⟨.inl ⟨by rw [Hf.out]; decide, by rw [Hf.out]; rfl⟩, stepN Hb1.out Hbx.out⟩
        · by_cases h2 : p = [46]
          · subst h2
            have Hf : Hid (nameE s = 1) := Lib.hid (Hbd.out (by rw [HB.out]; rfl))
            clear HT
            go_wp2_with fail
            go_ret2
            exact ⟨.inl ⟨by rw [Hf.out]; decide, by rw [Hf.out]; rfl⟩, stepN Hb1.out Hbx.out⟩
          · by_cases h3 : p = [46, 46]
            · subst h3
              have Hf : Hid (nameE s = 1) := Lib.hid (Hbd.out (by rw [HB.out]; rfl))
              clear HT
              go_wp2_with fail
              go_ret2
              exact ⟨.inl ⟨by rw [Hf.out]; decide, by rw [Hf.out]; rfl⟩, stepN Hb1.out Hbx.out⟩
            · have g1 : p.isEmpty = false := by simpa using h1
              have g2 : (p == [46]) = false := by simpa using h2
              have g3 : (p == [46, 46]) = false := by simpa using h3
              go_wp2_with fail
              refine (HT.out).mono ?_
              rintro e w2 ⟨rfl, hb2⟩
              have Hb2 := Lib.hid (stepN Hbx.out hb2)
              clear hb2
              by_cases h4 : Lib.trimS p lettersL = []
              · rw [h4]
                have Hn2 := Lib.hid (Hsn.out (by rw [HB.out, h4]; simp [h1, h2, h3]))
                clear HT HB Hbd Hsn h4
                go_wp2_with fail
                go_roundw
                case rel => exact ⟨k + 1, by omega, by go_num, Hn2.out, Hb2.out⟩
                case measure => simp [intOf]; omega
              · have Hf : Hid (nameE s = 1) := Lib.hid (Hbd.out (by rw [HB.out]; simp [h4]))
                have g4 : (Lib.trimS p lettersL).isEmpty = false := by simpa using h4
                clear HT HB Hbd Hsn
                generalize Lib.trimS p lettersL = q at *
                go_wp2_with fail
                go_ret2
                exact ⟨.inl ⟨by rw [Hf.out]; decide, by rw [Hf.out]; rfl⟩, stepN Hb1.out Hb2.out⟩
      · obtain rfl : k = n := by omega
        have Hf : Hid (nameE s = 0) := Lib.hid (Hfine.out (by have := Hall.out; rwa [List.take_of_length_le (by rw [HN.out]; exact Nat.le_refl _)] at this))
        have Hblk2 := Lib.hid (Hblk.out.below Hbx.out Hblk.out.lt)
        go_wp2_with fail
        go_ret2
        exact ⟨.inr ⟨Hf.out, g, by rw [HN.out]; rfl, by rw [Hg.out]; exact Nat.le_refl _, Hblk2.out⟩, stepN Hb1.out Hbx.out⟩
end Go.Proofs.YtdoegpklephelaaGreatDoor.Name
