/- package name: Join. -/
import Derived.Test.YtdponlnfdjfljaaDoorNameUnder
import Derived.Test.YtdponlnfdjfljaaDoorAppFull
import Derived.Deep.CutRange
import Derived.Deep.CutBlock
namespace Go.Proofs
open Go.Shelf
theorem YtdponlnfdjfljaaDoor.extra156 : Builder.Extra Tryd.prog YtdponlnfdjfljaaDoor.lays156_ren := {
  sizeBuilder := by kernel_rfl
  liesBuilder := by kernel_rfl
  t5 := Tryd.underlying5
  a5 := Tryd.isAgg5
  z5 := Tryd.sizeOf5
  v5 := Tryd.zeroValue5
  infoByte := by kernel_rfl
  cellsByte := by kernel_rfl
  sizeByte := by kernel_rfl
  neB5 := by decide }
end Go.Proofs
namespace Go.Proofs.YtdponlnfdjfljaaDoor.Name
open Go Go.RowKit Go.Shelf Go.Proofs.YtdponlnfdjfljaaDoor
set_option linter.unusedVariables false

theorem glue_len (ps : List (List UInt8)) (B : Nat) (h : ∀ p ∈ ps, p.length ≤ B) : (glue ps).length ≤ (B + 1) * ps.length := by
  induction ps with
  | nil => simp [glue]
  | cons p ps ih =>
    have h1 := h p (by simp)
    have h2 := ih (fun q hq => h q (by simp [hq]))
    have e : (B + 1) * (p :: ps).length = (B + 1) * ps.length + (B + 1) := by rw [List.length_cons, Nat.mul_add, Nat.mul_one]
    rw [e]
    by_cases h0 : ps = []
    · subst h0; simp [glue]; omega
    · rw [glue_cons _ _ h0]
      simp only [List.length_append, List.length_cons]
      omega
theorem stepJ_sub {m m' : List (List UInt8)} {p : List UInt8} (h : stepJ m p = some m') : (∀ q ∈ m', q ∈ m ∨ q = p) ∧ m'.length ≤ m.length + 1 := by
  unfold stepJ at h
  split at h
  · injection h with h; subst h; exact ⟨fun q hq => .inl hq, by omega⟩
  · split at h
    · split at h
      · cases h
      · injection h with h; subst h
        exact ⟨fun q hq => .inl (List.dropLast_subset _ hq), by simp; omega⟩
    · injection h with h; subst h
      exact ⟨fun q hq => by simpa using hq, by simp⟩
theorem walkJ_sub (ps : List (List UInt8)) (k : Nat) (hk : k ≤ ps.length) (m : List (List UInt8)) (h : walkJ (ps.take k) = some m) : (∀ q ∈ m, q ∈ ps) ∧ m.length ≤ k := by
  induction k generalizing m with
  | zero => simp [walkJ] at h; subst h; simp
  | succ k ih =>
    rw [walkJ_take ps k (by omega)] at h
    cases h0 : walkJ (ps.take k) with
    | none => rw [h0] at h; cases h
    | some m0 =>
      rw [h0] at h
      obtain ⟨h1, h2⟩ := ih (by omega) m0 h0
      obtain ⟨h3, h4⟩ := stepJ_sub (show stepJ m0 ps[k] = some m from h)
      refine ⟨fun q hq => ?_, by omega⟩
      rcases h3 q hq with h5 | h5
      · exact h1 q h5
      · rw [h5]; exact List.getElem_mem _
/-- a slice of texts -/
def Row (w : World) (v : Value) (l : List (List UInt8)) : Prop :=
  ∃ A c, v = .slice A l.length c ∧ l.length ≤ c ∧ c ≤ maxLen ∧ SlAt w A (l.map sv) ∧ (A = none → l = [] ∧ c = 0)
theorem Row.below {w w' : World} {v : Value} {l : List (List UInt8)} (h : Row w v l) (hb : Below w.heap.size w w') : Row w' v l := by
  obtain ⟨A, c, h1, h2, h3, h4, h5⟩ := h
  exact ⟨A, c, h1, h2, h3, h4.below hb, h5⟩
theorem Row.nil (w : World) : Row w (.slice none 0 0) [] := ⟨none, 0, rfl, Nat.le_refl _, by unfold maxLen; omega, SlAt.nil, fun _ => ⟨rfl, rfl⟩⟩
theorem row_of_own {w : World} {B n : Nat} {v : Value} {l : List (List UInt8)} (h : w.ownsRow B 9 1 v n (l.map sv)) (hn : l.length = n) : Row w v l := by
  rcases h.2 with ⟨rfl, h0⟩ | ⟨g, cap, cur, rfl, hbg, hg, hnc, hcm, hcs, htake⟩
  · have : l = [] := List.eq_nil_of_length_eq_zero (by omega)
    subst this; exact Row.nil w
  · subst hn
    refine ⟨some ⟨g, 0, none⟩, cap, rfl, hnc, hcm, ?_, by simp⟩
    obtain ⟨A, c, e, _, _, hs, _⟩ := own_slat h
    injection e with e1 e2 e3
    rw [← e1] at hs
    exact hs
theorem tyS : SliceTy Tryd.prog 31 9 (.string ByteArray.empty) 1 16 := ⟨Tryd.underlying31, by kernel_rfl, rfl, by decide⟩
set_option maxHeartbeats 400000 in
theorem join_any (v : Value) (l : List (List UInt8)) (w : World) (h : Row w v l) (hl : l.length ≤ 4000) (hp : ∀ p ∈ l, p.length ≤ 4000) :
    Calls Tryd.prog 14 #[v, .string (strB [47])] w fun e w' => e = .returned (.string (strB (glue l))) ∧ Below w.heap.size w w' := by
  obtain ⟨A, c, rfl, h2, h3, h4, h5⟩ := h
  by_cases h0 : l = []
  · subst h0
    have cc : Calls Tryd.prog 14 #[.slice A 0 c, .string (strB [47])] w _ := Any.strings_Join_none YtdponlnfdjfljaaDoor.lays156 YtdponlnfdjfljaaDoor.extra156 A c (strB [47]) w
    refine cc.mono ?_
    rintro e w' ⟨rfl, rfl⟩
    exact ⟨rfl, Below.refl _ _⟩
  · obtain ⟨b, o, rfl, hc⟩ := h4 (by simp; exact List.length_pos_iff.2 h0)
    have hlen := glue_len l 4000 hp
    have em : (l.map strB).map (·.data.toList) = l := by
      rw [List.map_map]
      conv => rhs; rw [← List.map_id l]
      apply List.map_congr_left
      intro x _; simp [strB]
    have cc : Calls Tryd.prog 14 #[.slice (some ⟨b, o, none⟩) (l.map strB).length c, .string (strB [47])] w _ := Any.strings_Join_48 YtdponlnfdjfljaaDoor.lays156 YtdponlnfdjfljaaDoor.extra156 b o c (l.map strB) (strB [47]) w
      (fun j x hj => hc j (.string x) (by
        rw [List.getElem?_map] at hj ⊢
        cases hl : l[j]? with
        | none => rw [hl] at hj; cases hj
        | some y => rw [hl] at hj; injection hj with hj; subst hj; rfl))
      (by
        have hl0 : 0 < l.length := List.length_pos_iff.2 h0
        have hx := hc 0 (sv l[0]) (by rw [List.getElem?_map, List.getElem?_eq_getElem (List.length_pos_iff.2 h0)]; rfl)
        exact block_lt_of_cell hx) (by simp; omega) (by simp; exact h2) (by rw [em, strB_data, glue_join]; omega)
    rw [em, strB_data, glue_join, List.length_map] at cc
    refine cc.mono ?_
    rintro e w' ⟨rfl, hb⟩
    exact ⟨rfl, hb⟩
set_option maxRecDepth 100000 in
set_option maxHeartbeats 4000000 in
theorem joinN_any (folder s : List UInt8) (w : World) (hf : folder.length ≤ maxLen) (hs : s.length ≤ maxLen) (hsum : folder.length + s.length ≤ 9223372036854775807) (hm : ML w) :
    Calls Tryd.prog 7 #[.string (strB folder), .string (strB s)] w fun e w' => e = .returned (.tuple #[.string (strB (joinR folder s).2), .int .i64 (joinR folder s).1]) ∧ Below w.heap.size w w' := by
  have hzf := strB_size folder
  have hzs := strB_size s
  have hsumi : ((folder.length : Int) + s.length) ≤ 9223372036854775807 := by omega
  by_cases h160 : 160 < folder.length + s.length
  · have HR : Hid (joinR folder s = (2, [])) := Lib.hid (by unfold joinR; rw [if_pos h160])
    have h160i : (160 : Int) < (folder.length : Int) + s.length := by omega
    clear hm
    go_enter Tryd.func7, Tryd.ntmps7
    go_wp2_with fail
    go_ret2
    exact ⟨by rw [HR.out]; rfl, Below.refl _ _⟩
  · have h160i : ¬ (160 : Int) < (folder.length : Int) + s.length := by omega
    have Hm := Lib.hid hm
    have HR : Hid (joinR folder s = if folder ≠ [] ∧ nameE folder ≠ 0 then (nameE folder, []) else match walkJ (parts s) with
      | none => (1, [])
      | some mine => if nameE (glue (baseJ folder ++ mine)) ≠ 0 then (nameE (glue (baseJ folder ++ mine)), []) else (0, glue (baseJ folder ++ mine))) := Lib.hid (by unfold joinR; rw [if_neg h160]; rfl)
    have HP := Lib.hid (parts_any folder w hf hm)
    clear hm
    go_enter Tryd.func7, Tryd.ntmps7
    go_upto_if 21 with fail
    go_cut [6, 7, 8] from 20 to 30 (fun v _ _ wx => Row wx v (baseJ folder) ∧ Below w.heap.size w wx ∧ (folder = [] ∨ nameE folder = 0))
    case first =>
      by_cases hfo : folder = []
      · have hfe : folder.isEmpty = true := by rw [hfo]; rfl
        have hbn : baseJ folder = [] := by unfold baseJ; rw [if_pos hfo]
        have Hfo := Lib.hid hfo
        have Hbn := Lib.hid hbn
        rw [hfe]
        clear hfo hbn hfe
        go_wp2_with fail
        go_meet
        case rel => exact ⟨by rw [Hbn.out]; exact Row.nil _, Below.refl _ _, .inl Hfo.out⟩
      · have hfe : folder.isEmpty = false := by simpa using hfo
        rw [hfe]
        clear hfe
        go_wp2_with fail
        refine (HP.out).mono ?_
        intro e w1 hp
        have Hb1 := Lib.hid hp.2
        obtain ⟨A, n, rfl, h1, h2⟩ := parts_tuple hp
        have H2 := Lib.hid h2
        clear hp h1 h2
        by_cases he : nameE folder = 0
        · obtain ⟨rfl, g, rfl, hg, hblk⟩ := H2.out he
          have Hblk := Lib.hid hblk
          clear hblk
          rw [he]
          go_wp2_with fail
          go_meet
          case rel =>
            refine ⟨?_, Hb1.out, .inr he⟩
            unfold baseJ
            rw [if_neg hfo]
            exact ⟨_, _, rfl, Nat.le_refl _, by have := parts_len folder; unfold maxLen; omega, blk_slat Hblk.out, by simp⟩
        · have HR2 : Hid (joinR folder s = (nameE folder, [])) := Lib.hid (by rw [HR.out, if_pos ⟨hfo, he⟩])
          have hz1 : (nameE folder != 0) = true := by simpa using he
          go_wp2_with fail
          go_ret2
          exact ⟨by rw [HR2.out]; rfl, Hb1.out⟩
    case rest =>
      obtain ⟨hrow, hb, hok⟩ := hcut
      have Hrow := Lib.hid hrow
      have Hb := Lib.hid hb
      have HR2 : Hid (joinR folder s = match walkJ (parts s) with
        | none => (1, [])
        | some mine => if nameE (glue (baseJ folder ++ mine)) ≠ 0 then (nameE (glue (baseJ folder ++ mine)), []) else (0, glue (baseJ folder ++ mine))) := Lib.hid (by
          rw [HR.out, if_neg]
          rintro ⟨h1, h2⟩
          rcases hok with h | h
          · exact h1 h
          · exact h2 h)
      have Hbl : Hid (∀ p ∈ baseJ folder, p.length ≤ 160) := Lib.hid (fun p hp => by
        unfold baseJ at hp
        split at hp
        · cases hp
        · have := parts_sum folder p hp; omega)
      have hbl2 : (baseJ folder).length ≤ 161 := by
        unfold baseJ
        split
        · simp
        · have := parts_len folder; omega
      have HS := Lib.hid (split_any s wc (by omega) (Hm.out.below hb))
      have Hpl : Hid (∀ p ∈ parts s, p.length ≤ 160) := Lib.hid (fun p hp => by have := parts_sum s p hp; omega)
      have hpl2 : (parts s).length ≤ 161 := by have := parts_len s; omega
      clear hrow hb hok HP HR
      obtain ⟨jr, hjr⟩ : ∃ jr, jr = joinR folder s := ⟨_, rfl⟩
      have Hjr := Lib.hid hjr.symm
      rw [← hjr] at HR2
      clear hjr
      generalize parts s = ps at *
      generalize baseJ folder = base at *
      obtain ⟨m, hm⟩ : ∃ m, m = ps.length := ⟨_, rfl⟩
      have HM := Lib.hid hm.symm
      rw [← hm] at HS hpl2
      clear hm
      obtain ⟨A0, c0, rfl, q2, q3, q4, q5⟩ := Hrow.out
      clear q2 q3 q4 q5
      go_wp2_with fail
      refine (HS.out).mono ?_
      rintro e w1 ⟨rfl, hblk, hb1⟩
      have Hblk := Lib.hid hblk
      have Hb1 := Lib.hid (stepN Hb.out hb1)
      have Hrow1 := Lib.hid (Hrow.out.below hb1)
      clear hblk hb1 HS
      obtain ⟨g, hg⟩ : ∃ g, g = wc.heap.size := ⟨_, rfl⟩
      rw [← hg] at Hblk ⊢
      clear hg
      have Hsl := Lib.hid (blk_slat Hblk.out)
      go_wp2_with fail
      go_loopw [6, 36] (fun v i wx => ∃ (k : Nat) (mine : List (List UInt8)), k ≤ m ∧ i = .int .i64 (k : Int) ∧ walkJ (ps.take k) = some mine ∧ Row wx v (base ++ mine) ∧ Below w1.heap.size w1 wx) (fun _ i _ => m - (intOf i).toNat)
      case atStart => exact ⟨0, [], Nat.zero_le _, rfl, rfl, by rw [List.append_nil]; exact Hrow1.out, Below.refl _ _⟩
      case round =>
        obtain ⟨k, mine, hk, rfl, hwalk, hrow, hbx⟩ := hrel
        have Hwalk := Lib.hid hwalk
        have Hrowx := Lib.hid hrow
        have Hbx := Lib.hid hbx
        have hml := (walkJ_sub ps k (by rw [HM.out]; exact hk) mine hwalk).2
        have Hms := Lib.hid (walkJ_sub ps k (by rw [HM.out]; exact hk) mine hwalk).1
        clear hwalk hrow hbx
        obtain ⟨A, c, rfl, hnc, hcm, hsl, hnil⟩ := Hrowx.out
        have Hrow0 := Lib.hid Hrowx.out
        obtain ⟨n, hn⟩ : ∃ n, n = (base ++ mine).length := ⟨_, rfl⟩
        rw [← hn] at hnc Hrow0 ⊢
        have HN : Hid (n = base.length + mine.length) := Lib.hid (by rw [hn, List.length_append])
        have hn161 : n ≤ 400 := by rw [hn, List.length_append]; omega
        have HslA := Lib.hid hsl
        have Hnil := Lib.hid hnil
        clear hsl hnil hn Hrowx
        by_cases hlt : k < m
        · have hkp : k < ps.length := by rw [HM.out]; exact hlt
          obtain ⟨b, o, e, hc⟩ := SlAt.get (Hsl.out.below Hbx.out) (k := k) (by rw [List.length_map]; exact hkp)
          injection e with e
          injection e with e1 e2 e3
          subst e1 e2
          rw [List.getElem_map] at hc
          have Hst := Lib.hid (walkJ_take ps k hkp)
          rw [Hwalk.out] at Hst
          have Hst2 : Hid (walkJ (ps.take (k + 1)) = stepJ mine ps[k]) := Lib.hid Hst.out
          have Hnone : Hid (stepJ mine ps[k] = none → jr = (1, [])) := Lib.hid (fun h => by rw [HR2.out, walkJ_none ps (k + 1) (by rw [Hst2.out, h])])
          have hpk : ps[k].length ≤ 160 := Hpl.out _ (List.getElem_mem hkp)
          generalize ps[k] = p at *
          unfold sv at hc
          clear Hst
          rw [Nat.zero_add] at hc
          by_cases h1 : p = []
          · subst h1
            have Hs : Hid (walkJ (ps.take (k + 1)) = some mine) := Lib.hid (by rw [Hst2.out]; rfl)
            clear Hst2 Hnone
            go_wp2_with fail
            go_roundw
            case rel => exact ⟨k + 1, mine, by omega, by go_num, Hs.out, Hrow0.out, Hbx.out⟩
            case measure => simp [intOf]; omega
          · by_cases h2 : p = [46]
            · subst h2
              have Hs : Hid (walkJ (ps.take (k + 1)) = some mine) := Lib.hid (by rw [Hst2.out]; rfl)
              clear Hst2 Hnone
              go_wp2_with fail
              go_roundw
              case rel => exact ⟨k + 1, mine, by omega, by go_num, Hs.out, Hrow0.out, Hbx.out⟩
              case measure => simp [intOf]; omega
            · by_cases h3 : p = [46, 46]
              · subst h3
                by_cases hm0 : mine = []
                · subst hm0
                  have Hj : Hid (jr = (1, [])) := Lib.hid (Hnone.out rfl)
                  have hnb : n = base.length := by rw [HN.out]; simp
                  clear Hst2 Hnone
                  subst hnb
                  go_wp2_with fail
                  go_ret2
                  exact ⟨by rw [Hjr.out, Hj.out]; rfl, stepN Hb1.out Hbx.out⟩
                · have Hs : Hid (walkJ (ps.take (k + 1)) = some mine.dropLast) := Lib.hid (by rw [Hst2.out]; unfold stepJ; rw [if_neg (by decide), if_pos rfl, if_neg hm0])
                  have hmp : 0 < mine.length := List.length_pos_iff.2 hm0
                  obtain ⟨q, rfl⟩ : ∃ q, n = q + 1 := ⟨n - 1, by have := HN.out; omega⟩
                  have hne : (((q + 1 : Nat) : Int) == (base.length : Int)) = false := by
                    have := HN.out
                    simp; omega
                  obtain ⟨b2, o2, rfl, _⟩ := HslA.out (by rw [List.length_map, List.length_append]; omega)
                  have Hrow2 : Hid (Row wr (.slice (some ⟨b2, o2, none⟩) q c) (base ++ mine.dropLast)) := Lib.hid (by
                    have hdl : base ++ mine.dropLast = (base ++ mine).take q := by
                      have := HN.out
                      rw [List.take_append, List.take_of_length_le (by omega), List.dropLast_eq_take]
                      congr 2; omega
                    have hql : (base ++ mine.dropLast).length = q := by have := HN.out; simp; omega
                    refine ⟨_, c, by rw [hql], by omega, hcm, ?_, by simp⟩
                    rw [hdl, List.map_take]
                    exact HslA.out.take q)
                  clear Hst2 Hnone Hrow0
                  have hqc : q ≤ c := by omega
                  go_wp2_with fail
                  go_roundw
                  case rel => exact ⟨k + 1, _, by omega, by go_num, Hs.out, Hrow2.out, Hbx.out⟩
                  case measure => simp [intOf]; omega
              · have Hs : Hid (walkJ (ps.take (k + 1)) = some (mine ++ [p])) := Lib.hid (by rw [Hst2.out]; unfold stepJ; rw [if_neg (by simp [h1, h2]), if_neg h3])
                have g1 : p.isEmpty = false := by simpa using h1
                have g2 : (p == [46]) = false := by simpa using h2
                have g3 : (p == [46, 46]) = false := by simpa using h3
                clear Hst2 Hnone
                have Hslw : Hid (SlAt (wr.alloc (.cells #[.string (strB p)] 9)) A ((base ++ mine).map sv)) := Lib.hid (SlAt.alloc HslA.out _)
                have Hu : Hid ((wr.alloc (.cells #[.string (strB p)] 9)).cell? ((⟨wr.heap.size, 0, none⟩ : Addr).add 0) = some (sv p)) := Lib.hid (by
                  show (wr.alloc (.cells #[.string (strB p)] 9)).cell? ⟨wr.heap.size, 0, none⟩ = some (sv p)
                  rw [(Blk.new wr 9 #[.string (strB p)]).cell]; rfl)
                have Hk : Hid (n = if A = none then 0 else n) := Lib.hid (by
                  split
                  · rename_i hA
                    have := (Hnil.out hA).1
                    have := HN.out
                    have h9 : (base ++ mine).length = 0 := by simp_all
                    rw [List.length_append] at h9; omega
                  · rfl)
                have Hl : Hid (((base ++ mine).map sv).length = n) := Lib.hid (by rw [List.length_map, List.length_append, HN.out])
                have Hb2 := Lib.hid (Hbx.out.alloc Hbx.out.size (.cells #[.string (strB p)] 9))
                go_wp2_with (at_builtin; refine wpList_app_full _ rfl (.tmp 46) (.tmp 48) _ rfl 9 _ 16 tyS A n n ((base ++ mine).map sv) rfl Hk.out Hl.out Hslw.out (fun hA => by have := Hk.out; rw [if_pos hA] at this; exact this) ⟨wr.heap.size, 0, none⟩ 1 (sv p) rfl Hu.out (by unfold maxLen; omega) (by omega) ?_; intro v5 w5 hown5 hb5; have Ho5 := Lib.hid hown5; have Hb5 := Lib.hid (Hb2.out.trans (hb5.mono Hb2.out.size)); clear hown5 hb5)
                go_roundw
                case rel => exact ⟨k + 1, _, by omega, by go_num, Hs.out, by
                  rw [← List.append_assoc]
                  exact row_of_own (by rw [List.map_append]; exact Ho5.out) (by rw [List.length_append, List.length_append, HN.out]; rfl), Hb5.out⟩
                case measure => simp [intOf]; omega
        · obtain rfl : k = m := by omega
          have Hall : Hid (ps.take k = ps) := Lib.hid (List.take_of_length_le (by rw [HM.out]; exact Nat.le_refl _))
          have Hw2 : Hid (walkJ ps = some mine) := Lib.hid (by rw [← Hall.out]; exact Hwalk.out)
          have HJ : Hid (jr = if nameE (glue (base ++ mine)) ≠ 0 then (nameE (glue (base ++ mine)), []) else (0, glue (base ++ mine))) := Lib.hid (by rw [HR2.out, Hw2.out])
          have hpl : ∀ p ∈ base ++ mine, p.length ≤ 160 := fun p hp => by
            rcases List.mem_append.1 hp with h | h
            · exact Hbl.out p h
            · exact Hpl.out p (Hms.out p h)
          have hll : (base ++ mine).length ≤ 400 := by rw [List.length_append, ← HN.out]; exact hn161
          have hgl : (glue (base ++ mine)).length ≤ maxLen := by
            have := glue_len _ 160 hpl
            have h2 : 161 * (base ++ mine).length ≤ 161 * 400 := Nat.mul_le_mul_left _ hll
            unfold maxLen; omega
          have HJN : Hid (Calls Tryd.prog 14 #[.slice A n c, .string (strB [47])] wr _) := Lib.hid (join_any (.slice A n c) (base ++ mine) wr Hrow0.out (by omega) (fun p hp => by have := hpl p hp; omega))
          have HC : Hid (∀ w', Below wr.heap.size wr w' → Calls _ _ _ w' _) := Lib.hid (fun w' hb => checkN_any (glue (base ++ mine)) w' hgl (((Hm.out.below Hb1.out).below Hbx.out).below hb))
          generalize glue (base ++ mine) = out at *
          clear hpl hgl hll
          go_wp2_with fail
          refine (HJN.out).mono ?_
          rintro e w2 ⟨rfl, hb2⟩
          have Hb2 := Lib.hid hb2
          clear hb2
          go_wp2_with fail
          refine (HC.out w2 Hb2.out).mono ?_
          rintro e w3 ⟨rfl, hb3⟩
          have Hb3 := Lib.hid (stepN (stepN (stepN Hb1.out Hbx.out) Hb2.out) hb3)
          clear hb3
          by_cases he : nameE out = 0
          · have HJ2 : Hid (jr = (0, out)) := Lib.hid (by rw [HJ.out, if_neg (by rw [he]; simp)])
            rw [he]
            go_wp2_with fail
            go_ret2
            exact ⟨by rw [Hjr.out, HJ2.out]; rfl, Hb3.out⟩
          · have HJ2 : Hid (jr = (nameE out, [])) := Lib.hid (by rw [HJ.out, if_pos he])
            have hz1 : (nameE out != 0) = true := by simpa using he
            go_wp2_with fail
            go_ret2
            exact ⟨by rw [Hjr.out, HJ2.out]; rfl, Hb3.out⟩
end Go.Proofs.YtdponlnfdjfljaaDoor.Name
