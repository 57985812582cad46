/- package merge: Check. -/
import Derived.Test.YtdoegpklephelaaDoorFile
import Derived.Test.YtdoegpklephelaaDoorName2
import Derived.Deep.QuietTactic
import Derived.BigQuiet
import Derived.IntWalk
import Derived.Laws.Cover1
namespace Go.Proofs.YtdoegpklephelaaDoor.Merge
open Go Go.RowKit Go.Proofs.YtdoegpklephelaaDoor Go.Proofs.YtdoegpklephelaaDoor.Name
set_option linter.unusedVariables false

/-- behind the first k, of which the last is told -/
def lastN (l : List Fl) (k : Nat) : Option (List UInt8) := if k = 0 then none else some (l.getD (k - 1) ⟨[], [], 0, 0, false⟩).name
theorem chkR_step (p : Option (List UInt8)) (f : Fl) (l : List Fl) (h1 : fileE f = 0) (h2 : upB p f.name = true) : chkR p (f :: l) = chkR (some f.name) l := by
  simp only [chkR]
  rw [if_neg (by simpa using h1), if_neg (by rw [h2]; simp)]
theorem chkR_bad (p : Option (List UInt8)) (f : Fl) (l : List Fl) (h1 : fileE f ≠ 0) : chkR p (f :: l) = fileE f := by
  simp only [chkR]; rw [if_pos h1]
theorem chkR_down (p : Option (List UInt8)) (f : Fl) (l : List Fl) (h1 : fileE f = 0) (h2 : upB p f.name = false) : chkR p (f :: l) = 4 := by
  simp only [chkR]; rw [if_neg (by simpa using h1), if_pos h2]
theorem drop_cons {α : Type} (l : List α) (k : Nat) (h : k < l.length) : l.drop k = l[k] :: l.drop (k + 1) := (List.drop_eq_getElem_cons h)
/-- what remains to be asked, behind k -/
def RestOk (l : List Fl) (k : Nat) : Prop := chkF l = chkR (lastN l k) (l.drop k)
theorem rest_zero (l : List Fl) (h : l.length ≤ 12) : RestOk l 0 := by unfold RestOk chkF lastN; rw [if_neg (by omega), if_pos rfl]; rfl
theorem rest_next (l : List Fl) (k : Nat) (hk : k < l.length) (h : RestOk l k) (h1 : fileE l[k] = 0) (h2 : upB (lastN l k) l[k].name = true) : RestOk l (k + 1) := by
  unfold RestOk at *
  rw [h, drop_cons l k hk, chkR_step _ _ _ h1 h2]
  congr 1
  unfold lastN
  rw [if_neg (by omega)]
  simp [List.getD_eq_getElem?_getD, hk]
theorem rest_end (l : List Fl) (k : Nat) (hk : k = l.length) (h : RestOk l k) : chkF l = 0 := by
  unfold RestOk at h
  rw [h, List.drop_of_length_le (by omega)]
  rfl
theorem rest_bad (l : List Fl) (k : Nat) (hk : k < l.length) (h : RestOk l k) (h1 : fileE l[k] ≠ 0) : chkF l = fileE l[k] := by
  unfold RestOk at h
  rw [h, drop_cons l k hk, chkR_bad _ _ _ h1]
theorem rest_down (l : List Fl) (k : Nat) (hk : k < l.length) (h : RestOk l k) (h1 : fileE l[k] = 0) (h2 : upB (lastN l k) l[k].name = false) : chkF l = 4 := by
  unfold RestOk at h
  rw [h, drop_cons l k hk, chkR_down _ _ _ h1 h2]
theorem _root_.Go.RowKit.Below.drewN' {B : Nat} {a w : World} (h : Below B a w) (n : Nat) : Below B a (w.drewN n) := ⟨h.os, h.tape, h.output, h.size, h.block⟩
set_option maxRecDepth 100000 in
set_option maxHeartbeats 2000000 in
theorem check_any (v : Value) (l : List Fx) (w : World) (hm : ML w) (h : IsFiles w v l) :
    Calls Tryd.prog 17 #[v] w fun e w' => e = .returned (.int .i64 (chkF (l.map Prod.fst))) ∧ Below w.heap.size w w' := by
  obtain ⟨A, cap, rfl, hcap, hcm, hA, hA0, hdeep⟩ := h
  have HA := Lib.hid hA
  have Hd := Lib.hid hdeep
  have Hm := Lib.hid hm
  clear hA hA0 hdeep hm
  have hcm' : cap ≤ 9223372036854775807 := by unfold maxLen at hcm; omega
  clear hcm
  obtain ⟨n, hn⟩ : ∃ n, n = l.length := ⟨_, rfl⟩
  have Hn := Lib.hid hn.symm
  rw [← hn] at hcap ⊢
  clear hn
  by_cases h12 : 12 < n
  · have Hc : Hid (chkF (l.map Prod.fst) = 2) := Lib.hid (by unfold chkF; rw [List.length_map, Hn.out, if_pos h12])
    have h12i : (12 : Int) < (n : Int) := by omega
    go_enter Tryd.func17, Tryd.ntmps17
    go_wp2_with fail
    go_ret
    exact ⟨by rw [Hc.out]; rfl, Below.refl _ _⟩
  · have h12i : ¬ (12 : Int) < (n : Int) := by omega
    have H0 := Lib.hid (rest_zero (l.map Prod.fst) (by rw [List.length_map, Hn.out]; omega))
    have Hnext := Lib.hid (rest_next (l.map Prod.fst))
    have Hend := Lib.hid (rest_end (l.map Prod.fst))
    have Hbad := Lib.hid (rest_bad (l.map Prod.fst))
    have Hdown := Lib.hid (rest_down (l.map Prod.fst))
    have HL : Hid ((l.map Prod.fst).length = n) := Lib.hid (by rw [List.length_map, Hn.out])
    have Hget : Hid (∀ k (hk : k < l.length) (hk2 : k < (l.map Prod.fst).length), (l.map Prod.fst)[k] = l[k].1) := Lib.hid (fun k hk hk2 => by rw [List.getElem_map])
    generalize l.map Prod.fst = m at *
    go_enter Tryd.func17, Tryd.ntmps17
    go_wp2_with fail
    go_loopw [11] (fun i wr => ∃ k : Nat, k ≤ n ∧ i = .int .i64 (k : Int) ∧ RestOk m k ∧ Below w.heap.size w wr) (fun i _ => n - (intOf i).toNat)
    case atStart => exact ⟨0, Nat.zero_le _, rfl, H0.out, Below.refl _ _⟩
    case round =>
      obtain ⟨k, hk, rfl, hr, hb⟩ := hrel
      have Hb := Lib.hid hb
      have Hr := Lib.hid hr
      clear hb hr
      by_cases hlt : k < n
      · have hkl : k < l.length := by rw [Hn.out]; exact hlt
        have hkm : k < m.length := by rw [HL.out]; exact hlt
        obtain ⟨b, o, rfl, hc0, hc1, hc2, hc3, hc4⟩ := files_cells (HA.out.below Hb.out) hkl
        have hfd := Hd.out l[k] (List.getElem_mem hkl)
        have HNx : Hid (fileE l[k].1 = 0 → upB (lastN m k) l[k].1.name = true → RestOk m (k + 1)) := Lib.hid (fun h1 h2 => Hnext.out k hkm Hr.out (by rw [Hget.out k hkl hkm]; exact h1) (by rw [Hget.out k hkl hkm]; exact h2))
        have HBd : Hid (fileE l[k].1 ≠ 0 → chkF m = fileE l[k].1) := Lib.hid (fun h1 => by rw [Hbad.out k hkm Hr.out (by rw [Hget.out k hkl hkm]; exact h1), Hget.out k hkl hkm])
        have HDn : Hid (fileE l[k].1 = 0 → upB (lastN m k) l[k].1.name = false → chkF m = 4) := Lib.hid (fun h1 h2 => Hdown.out k hkm Hr.out (by rw [Hget.out k hkl hkm]; exact h1) (by rw [Hget.out k hkl hkm]; exact h2))
        have HPrev : Hid (k ≠ 0 → ∃ q : List UInt8, lastN m k = some q ∧ wr.cell? ⟨b, o + (k - 1) * 5, none⟩ = some (.string (strB q))) := Lib.hid (fun h0 => by
          have hk1 : k - 1 < l.length := by omega
          have hk2 : k - 1 < m.length := by omega
          obtain ⟨b', o', e, hp0, _⟩ := files_cells (HA.out.below Hb.out) hk1
          injection e with e
          injection e with e1 e2 e3
          subst e1 e2
          refine ⟨l[k - 1].1.name, ?_, hp0⟩
          unfold lastN
          rw [if_neg h0]
          have := Hget.out (k - 1) hk1 hk2
          simp [List.getD_eq_getElem?_getD, hk2, this])
        generalize l[k] = x at *
        obtain ⟨⟨nm, bs, st, nd, gn⟩, As, ln, cp⟩ := x
        simp only [slv] at hc0 hc1 hc2 hc3 hc4 HNx HBd HDn hfd
        have Hln : Hid (ln = bs.length) := Lib.hid hfd.len
        have hnm : nm.length ≤ maxLen := hfd.name
        clear hfd
        have HC := Lib.hid (fun w' (hb : Below w.heap.size w w') => checkN_any nm w' hnm (Hm.out.below hb))
        clear hnm
        go_wp2_with fail
        refine (HC.out _ (Hb.out.alloc Hb.out.size _)).mono ?_
        rintro e w2 ⟨rfl, hb2⟩
        have Hb2 := Lib.hid (stepN (Hb.out.alloc Hb.out.size (.cells #[.string (strB nm), .slice As ln cp, .int .i64 st, .int .i64 nd, .bool gn] 33)) hb2)
        have BX : Hid (Blk w2 wr.heap.size 33 #[.string (strB nm), .slice As ln cp, .int .i64 st, .int .i64 nd, .bool gn]) := Lib.hid ((Blk.new wr _ _).below hb2 (by simp))
        have e0 : w2.cell? ⟨wr.heap.size, 0, none⟩ = some (.string (strB nm)) := by rw [BX.out.cell]; rfl
        have e1 : w2.cell? ⟨wr.heap.size, 1, none⟩ = some (.slice As ln cp) := by rw [BX.out.cell]; rfl
        have e2 : w2.cell? ⟨wr.heap.size, 2, none⟩ = some (.int .i64 st) := by rw [BX.out.cell]; rfl
        have e3 : w2.cell? ⟨wr.heap.size, 3, none⟩ = some (.int .i64 nd) := by rw [BX.out.cell]; rfl
        have e4 : w2.cell? ⟨wr.heap.size, 4, none⟩ = some (.bool gn) := by rw [BX.out.cell]; rfl
        have HP2 : Hid (k ≠ 0 → ∃ q : List UInt8, lastN m k = some q ∧ w2.cell? ⟨b, o + (k - 1) * 5, none⟩ = some (.string (strB q))) := Lib.hid (fun h0 => by
          obtain ⟨q, h1, h2⟩ := HPrev.out h0
          exact ⟨q, h1, cell_below hb2 (cell_below ((Below.refl _ _).alloc (Nat.le_refl _) _) h2)⟩)
        have HF : Hid (fileE ⟨nm, bs, st, nd, gn⟩ = if nameE nm ≠ 0 then nameE nm else if 3000 < bs.length then 2 else if st < 0 ∨ 1000000 < st ∨ nd < 0 ∨ 4 ≤ nd then 3 else if gn = true ∧ bs ≠ [] then 4 else 0) := Lib.hid rfl
        generalize fileE ⟨nm, bs, st, nd, gn⟩ = fe at *
        clear hb2 HPrev hc0 hc1 hc2 hc3 hc4 HC
        by_cases g1 : nameE nm = 0
        · rw [g1] at HF ⊢
          by_cases g2 : 3000 < ln
          · have Hfe : Hid (fe = 2) := Lib.hid (by rw [HF.out, if_neg (by simp), if_pos (by rw [← Hln.out]; exact g2)])
            have Hc : Hid (chkF m = 2) := Lib.hid (by rw [HBd.out (by rw [Hfe.out]; decide), Hfe.out])
            have g2i : (3000 : Int) < (ln : Int) := by omega
            go_wp2_with fail
            go_ret
            exact ⟨by rw [Hc.out]; rfl, Hb2.out⟩
          · have g2i : ¬ (3000 : Int) < (ln : Int) := by omega
            have G2 : Hid (¬ 3000 < bs.length) := Lib.hid (by rw [← Hln.out]; exact g2)
            by_cases g3 : st < 0 ∨ 1000000 < st ∨ nd < 0 ∨ 4 ≤ nd
            · have Hfe : Hid (fe = 3) := Lib.hid (by rw [HF.out, if_neg (by simp), if_neg G2.out, if_pos g3])
              have Hc : Hid (chkF m = 3) := Lib.hid (by rw [HBd.out (by rw [Hfe.out]; decide), Hfe.out])
              by_cases k1 : st < 0
              · go_wp2_with fail
                go_ret
                exact ⟨by rw [Hc.out]; rfl, Hb2.out⟩
              · by_cases k2 : 1000000 < st
                · go_wp2_with fail
                  go_ret
                  exact ⟨by rw [Hc.out]; rfl, Hb2.out⟩
                · by_cases k3 : nd < 0
                  · go_wp2_with fail
                    go_ret
                    exact ⟨by rw [Hc.out]; rfl, Hb2.out⟩
                  · have k4 : 4 ≤ nd := by omega
                    go_wp2_with fail
                    go_ret
                    exact ⟨by rw [Hc.out]; rfl, Hb2.out⟩
            · have k1 : ¬ st < 0 := by omega
              have k2 : ¬ 1000000 < st := by omega
              have k3 : ¬ nd < 0 := by omega
              have k4 : ¬ 4 ≤ nd := by omega
              have HF2 : Hid (fe = if gn = true ∧ bs ≠ [] then 4 else 0) := Lib.hid (by rw [HF.out, if_neg (by simp), if_neg G2.out, if_neg g3])
              clear g3
              by_cases g5 : gn = true ∧ bs ≠ []
              · obtain ⟨rfl, g6⟩ := g5
                have Hfe : Hid (fe = 4) := Lib.hid (by rw [HF2.out, if_pos ⟨rfl, g6⟩])
                have Hc : Hid (chkF m = 4) := Lib.hid (by rw [HBd.out (by rw [Hfe.out]; decide), Hfe.out])
                have g5n : 0 < ln := by rw [Hln.out]; exact List.length_pos_iff.2 g6
                have g5i : (0 : Int) < (ln : Int) := by omega
                have g5d : decide ((0 : Int) < (ln : Int)) = true := by simpa using g5i
                clear HNx HBd HDn HP2
                go_wp2_with fail
                go_big_quiet (fail)
                go_wp2_with fail
                go_ret
                exact ⟨by rw [Hc.out]; rfl, Hb2.out.drewN' _⟩
              · have Hfe : Hid (fe = 0) := Lib.hid (by rw [HF2.out, if_neg g5])
                cases gn with
                | true =>
                  obtain rfl : ln = 0 := by
                    rw [Hln.out, List.length_eq_zero_iff]
                    exact Classical.byContradiction fun e => g5 ⟨rfl, e⟩
                  clear g5
                  by_cases hk0 : k = 0
                  · have Hnx : Hid (RestOk m (k + 1)) := Lib.hid (HNx.out Hfe.out (by rw [hk0]; rfl))
                    subst hk0
                    clear HNx HBd HDn HP2
                    go_wp2_with fail
                    go_big_quiet (fail)
                    go_wp2_with fail
                    go_roundw
                    case rel => exact ⟨1, by omega, by go_num, Hnx.out, Hb2.out.drewN' _⟩
                    case measure => simp [intOf]; omega
                  · have hkp : 0 < k := by omega
                    obtain ⟨q, hq1, hq2⟩ := HP2.out hk0
                    have hkd : decide ((0 : Int) < (k : Int)) = true := by simpa using hkp
                    have hks : IntKind.i64.wrap ((k : Int) - 1) = (k : Int) - 1 := IntWalk.i64_in _ (by omega)
                    have hk1 : (0 : Int) ≤ (k : Int) - 1 := by omega
                    have hk2 : ((k : Int) - 1).toNat = k - 1 := by omega
                    have hk3 : ((k : Int) - 1) < (n : Int) := by omega
                    have hk4 : k - 1 < n := by omega
                    have HNx2 := HNx.out Hfe.out
                    have HDn2 := HDn.out Hfe.out
                    rw [hq1] at HNx2 HDn2
                    cases hle : Op.bytesLess q nm with
                    | true =>
                      have Hnx : Hid (RestOk m (k + 1)) := Lib.hid (HNx2 (by show decide (cb q nm < 0) = _; rw [← less_cb]; exact hle))
                      clear HNx HBd HDn HP2 HNx2 HDn2 hq1
                      go_wp2_with fail
                      go_big_quiet (fail)
                      go_wp2_with fail
                      go_roundw
                      case rel => exact ⟨k + 1, by omega, by go_num, Hnx.out, Hb2.out.drewN' _⟩
                      case measure => simp [intOf]; omega
                    | false =>
                      have Hc : Hid (chkF m = 4) := Lib.hid (HDn2 (by show decide (cb q nm < 0) = _; rw [← less_cb]; exact hle))
                      clear HNx HBd HDn HP2 HNx2 HDn2 hq1
                      go_wp2_with fail
                      go_big_quiet (fail)
                      go_wp2_with fail
                      go_ret
                      exact ⟨by rw [Hc.out]; rfl, Hb2.out.drewN' _⟩
                | false =>
                  clear g5
                  by_cases hk0 : k = 0
                  · have Hnx : Hid (RestOk m (k + 1)) := Lib.hid (HNx.out Hfe.out (by rw [hk0]; rfl))
                    subst hk0
                    clear HNx HBd HDn HP2
                    go_wp2_with fail
                    go_big_quiet (fail)
                    go_wp2_with fail
                    go_roundw
                    case rel => exact ⟨1, by omega, by go_num, Hnx.out, Hb2.out.drewN' _⟩
                    case measure => simp [intOf]; omega
                  · have hkp : 0 < k := by omega
                    obtain ⟨q, hq1, hq2⟩ := HP2.out hk0
                    have hkd : decide ((0 : Int) < (k : Int)) = true := by simpa using hkp
                    have hks : IntKind.i64.wrap ((k : Int) - 1) = (k : Int) - 1 := IntWalk.i64_in _ (by omega)
                    have hk1 : (0 : Int) ≤ (k : Int) - 1 := by omega
                    have hk2 : ((k : Int) - 1).toNat = k - 1 := by omega
                    have hk3 : ((k : Int) - 1) < (n : Int) := by omega
                    have hk4 : k - 1 < n := by omega
                    have HNx2 := HNx.out Hfe.out
                    have HDn2 := HDn.out Hfe.out
                    rw [hq1] at HNx2 HDn2
                    cases hle : Op.bytesLess q nm with
                    | true =>
                      have Hnx : Hid (RestOk m (k + 1)) := Lib.hid (HNx2 (by show decide (cb q nm < 0) = _; rw [← less_cb]; exact hle))
                      clear HNx HBd HDn HP2 HNx2 HDn2 hq1
                      go_wp2_with fail
                      go_big_quiet (fail)
                      go_wp2_with fail
                      go_roundw
                      case rel => exact ⟨k + 1, by omega, by go_num, Hnx.out, Hb2.out.drewN' _⟩
                      case measure => simp [intOf]; omega
                    | false =>
                      have Hc : Hid (chkF m = 4) := Lib.hid (HDn2 (by show decide (cb q nm < 0) = _; rw [← less_cb]; exact hle))
                      clear HNx HBd HDn HP2 HNx2 HDn2 hq1
                      go_wp2_with fail
                      go_big_quiet (fail)
                      go_wp2_with fail
                      go_ret
                      exact ⟨by rw [Hc.out]; rfl, Hb2.out.drewN' _⟩
        · have Hfe : Hid (fe = nameE nm) := Lib.hid (by rw [HF.out, if_pos g1])
          have Hc : Hid (chkF m = nameE nm) := Lib.hid (by rw [HBd.out (by rw [Hfe.out]; exact g1), Hfe.out])
          generalize nameE nm = z at *
          have hz1 : (z != 0) = true := by simpa using g1
          go_wp2_with fail
          go_ret
          exact ⟨by rw [Hc.out]; rfl, Hb2.out⟩
      · obtain rfl : k = n := by omega
        have He : Hid (chkF m = 0) := Lib.hid (Hend.out k (by rw [HL.out]) Hr.out)
        go_wp2_with fail
        go_ret
        exact ⟨by rw [He.out]; rfl, Hb.out⟩
end Go.Proofs.YtdoegpklephelaaDoor.Merge
