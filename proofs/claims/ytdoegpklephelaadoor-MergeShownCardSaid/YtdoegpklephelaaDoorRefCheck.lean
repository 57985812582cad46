/- reliquaryref: CheckFiles. -/
import Derived.Test.YtdoegpklephelaaDoorMergeCheck
import Derived.Test.YtdoegpklephelaaDoorNameRef
namespace Go.Proofs.YtdoegpklephelaaDoor.Merge
open Go Go.RowKit Go.Proofs.YtdoegpklephelaaDoor Go.Proofs.YtdoegpklephelaaDoor.Name
set_option linter.unusedVariables false

theorem less_flip {q nm : List UInt8} (h : Op.bytesLess q nm = true) : Op.bytesLess nm q = false ∧ (nm == q) = false := by
  rw [less_cb, decide_eq_true_iff] at h
  have hn := cb_neg q nm
  rw [less_cb]
  refine ⟨decide_eq_false (by omega), ?_⟩
  rw [beq_eq_false_iff_ne]
  rintro rfl
  rw [cb_refl] at h; omega
theorem less_not {q nm : List UInt8} (h : Op.bytesLess q nm = false) : Op.bytesLess nm q = true ∨ q = nm := by
  rw [less_cb, decide_eq_false_iff_not] at h
  have hn := cb_neg q nm
  rw [less_cb, decide_eq_true_iff]
  by_cases h0 : cb q nm = 0
  · exact .inr (cb_eq h0)
  · exact .inl (by omega)
set_option maxRecDepth 100000 in
set_option maxHeartbeats 2000000 in
theorem refCheck_any (v : Value) (l : List Fx) (w : World) (hm : ML w) (h : IsFiles w v l) :
    Calls Tryd.prog 18 #[v] w fun e w' => e = .returned (.int .i64 (chkF (l.map Prod.fst))) ∧ Below w.heap.size w w' := by
  obtain ⟨A, cap, rfl, hcap, hcm, hA, hA0, hdeep⟩ := h
  have HA := Lib.hid hA
  have Hd := Lib.hid hdeep
  have Hm := Lib.hid hm
  clear hA hA0 hdeep hm
  have hcm' : cap ≤ 9223372036854775807 := by unfold maxLen at hcm; omega
  clear hcm
  obtain ⟨n, hn⟩ : ∃ n, n = l.length := ⟨_, rfl⟩
  have Hn := Lib.hid hn.symm
  rw [← hn] at hcap ⊢
  clear hn
  by_cases h12 : 12 < n
  · have Hc : Hid (chkF (l.map Prod.fst) = 2) := Lib.hid (by unfold chkF; rw [List.length_map, Hn.out, if_pos h12])
    have h12i : (12 : Int) < (n : Int) := by omega
    go_enter Tryd.func18, Tryd.ntmps18
    go_wp2_with fail
    go_ret
    exact ⟨by rw [Hc.out]; rfl, Below.refl _ _⟩
  · have h12i : ¬ (12 : Int) < (n : Int) := by omega
    have H0 := Lib.hid (rest_zero (l.map Prod.fst) (by rw [List.length_map, Hn.out]; omega))
    have Hnext := Lib.hid (rest_next (l.map Prod.fst))
    have Hend := Lib.hid (rest_end (l.map Prod.fst))
    have Hbad := Lib.hid (rest_bad (l.map Prod.fst))
    have Hdown := Lib.hid (rest_down (l.map Prod.fst))
    have HL : Hid ((l.map Prod.fst).length = n) := Lib.hid (by rw [List.length_map, Hn.out])
    have Hget : Hid (∀ k (hk : k < l.length) (hk2 : k < (l.map Prod.fst).length), (l.map Prod.fst)[k] = l[k].1) := Lib.hid (fun k hk hk2 => by rw [List.getElem_map])
    generalize l.map Prod.fst = m at *
    go_enter Tryd.func18, Tryd.ntmps18
    go_wp2_with fail
    go_loopw [3, 13] (fun vl i wr => ∃ k : Nat, k ≤ n ∧ i = .int .i64 (k : Int) ∧ (∃ q, vl = .string (strB q) ∧ (k ≠ 0 → lastN m k = some q)) ∧ RestOk m k ∧ Below w.heap.size w wr) (fun _ i _ => n - (intOf i).toNat)
    case atStart => exact ⟨0, Nat.zero_le _, rfl, ⟨[], rfl, by simp⟩, H0.out, Below.refl _ _⟩
    case round =>
      obtain ⟨k, hk, rfl, ⟨q, rfl, hq⟩, hr, hb⟩ := hrel
      have Hq := Lib.hid hq
      have Hb := Lib.hid hb
      have Hr := Lib.hid hr
      clear hb hr hq
      by_cases hlt : k < n
      · have hkl : k < l.length := by rw [Hn.out]; exact hlt
        have hkm : k < m.length := by rw [HL.out]; exact hlt
        obtain ⟨b, o, rfl, hc0, hc1, hc2, hc3, hc4⟩ := files_cells (HA.out.below Hb.out) hkl
        have hfd := Hd.out l[k] (List.getElem_mem hkl)
        have HNx : Hid (fileE l[k].1 = 0 → upB (lastN m k) l[k].1.name = true → RestOk m (k + 1)) := Lib.hid (fun h1 h2 => Hnext.out k hkm Hr.out (by rw [Hget.out k hkl hkm]; exact h1) (by rw [Hget.out k hkl hkm]; exact h2))
        have HBd : Hid (fileE l[k].1 ≠ 0 → chkF m = fileE l[k].1) := Lib.hid (fun h1 => by rw [Hbad.out k hkm Hr.out (by rw [Hget.out k hkl hkm]; exact h1), Hget.out k hkl hkm])
        have HDn : Hid (fileE l[k].1 = 0 → upB (lastN m k) l[k].1.name = false → chkF m = 4) := Lib.hid (fun h1 h2 => Hdown.out k hkm Hr.out (by rw [Hget.out k hkl hkm]; exact h1) (by rw [Hget.out k hkl hkm]; exact h2))
        have HLast : Hid (lastN m (k + 1) = some l[k].1.name) := Lib.hid (by
          unfold lastN
          rw [if_neg (by omega)]
          have := Hget.out k hkl hkm
          simp [List.getD_eq_getElem?_getD, hkm, this])
        generalize l[k] = x at *
        obtain ⟨⟨nm, bs, st, nd, gn⟩, As, ln, cp⟩ := x
        simp only [slv] at hc0 hc1 hc2 hc3 hc4 HNx HBd HDn hfd HLast
        have Hln : Hid (ln = bs.length) := Lib.hid hfd.len
        have hnm : nm.length ≤ maxLen := hfd.name
        clear hfd
        have HC := Lib.hid (fun w' (hb : Below w.heap.size w w') => parted_any nm w' hnm (Hm.out.below hb))
        clear hnm
        go_wp2_with fail
        refine (HC.out _ (Hb.out.alloc Hb.out.size _)).mono ?_
        intro e w2 hp
        obtain ⟨A', n', rfl, _, _⟩ := parts_tuple hp
        have hb2 := hp.2
        clear hp
        have Hb2 := Lib.hid (stepN (Hb.out.alloc Hb.out.size (.cells #[.string (strB nm), .slice As ln cp, .int .i64 st, .int .i64 nd, .bool gn] 33)) hb2)
        have BX : Hid (Blk w2 wr.heap.size 33 #[.string (strB nm), .slice As ln cp, .int .i64 st, .int .i64 nd, .bool gn]) := Lib.hid ((Blk.new wr _ _).below hb2 (by simp))
        have e0 : w2.cell? ⟨wr.heap.size, 0, none⟩ = some (.string (strB nm)) := by rw [BX.out.cell]; rfl
        have e1 : w2.cell? ⟨wr.heap.size, 1, none⟩ = some (.slice As ln cp) := by rw [BX.out.cell]; rfl
        have e2 : w2.cell? ⟨wr.heap.size, 2, none⟩ = some (.int .i64 st) := by rw [BX.out.cell]; rfl
        have e3 : w2.cell? ⟨wr.heap.size, 3, none⟩ = some (.int .i64 nd) := by rw [BX.out.cell]; rfl
        have e4 : w2.cell? ⟨wr.heap.size, 4, none⟩ = some (.bool gn) := by rw [BX.out.cell]; rfl
        have HF : Hid (fileE ⟨nm, bs, st, nd, gn⟩ = if nameE nm ≠ 0 then nameE nm else if 3000 < bs.length then 2 else if st < 0 ∨ 1000000 < st ∨ nd < 0 ∨ 4 ≤ nd then 3 else if gn = true ∧ bs ≠ [] then 4 else 0) := Lib.hid rfl
        generalize fileE ⟨nm, bs, st, nd, gn⟩ = fe at *
        clear hb2 hc0 hc1 hc2 hc3 hc4 HC
        by_cases g1 : nameE nm = 0
        · rw [g1] at HF ⊢
          by_cases g2 : 3000 < ln
          · have Hfe : Hid (fe = 2) := Lib.hid (by rw [HF.out, if_neg (by simp), if_pos (by rw [← Hln.out]; exact g2)])
            have Hc : Hid (chkF m = 2) := Lib.hid (by rw [HBd.out (by rw [Hfe.out]; decide), Hfe.out])
            have g2i : (3000 : Int) < (ln : Int) := by omega
            go_wp2_with fail
            go_ret
            exact ⟨by rw [Hc.out]; rfl, Hb2.out⟩
          · have g2i : ¬ (3000 : Int) < (ln : Int) := by omega
            have G2 : Hid (¬ 3000 < bs.length) := Lib.hid (by rw [← Hln.out]; exact g2)
            by_cases g3 : st < 0 ∨ 1000000 < st ∨ nd < 0 ∨ 4 ≤ nd
            · have Hfe : Hid (fe = 3) := Lib.hid (by rw [HF.out, if_neg (by simp), if_neg G2.out, if_pos g3])
              have Hc : Hid (chkF m = 3) := Lib.hid (by rw [HBd.out (by rw [Hfe.out]; decide), Hfe.out])
              by_cases k1 : st < 0
              · go_wp2_with fail
                go_ret
                exact ⟨by rw [Hc.out]; rfl, Hb2.out⟩
              · by_cases k2 : 1000000 < st
                · go_wp2_with fail
                  go_ret
                  exact ⟨by rw [Hc.out]; rfl, Hb2.out⟩
                · by_cases k3 : nd < 0
                  · go_wp2_with fail
                    go_ret
                    exact ⟨by rw [Hc.out]; rfl, Hb2.out⟩
                  · have k4 : 4 ≤ nd := by omega
                    go_wp2_with fail
                    go_ret
                    exact ⟨by rw [Hc.out]; rfl, Hb2.out⟩
            · have k1 : ¬ st < 0 := by omega
              have k2 : ¬ 1000000 < st := by omega
              have k3 : ¬ nd < 0 := by omega
              have k4 : ¬ 4 ≤ nd := by omega
              have HF2 : Hid (fe = if gn = true ∧ bs ≠ [] then 4 else 0) := Lib.hid (by rw [HF.out, if_neg (by simp), if_neg G2.out, if_neg g3])
              clear g3
              by_cases g5 : gn = true ∧ bs ≠ []
              · obtain ⟨rfl, g6⟩ := g5
                have Hfe : Hid (fe = 4) := Lib.hid (by rw [HF2.out, if_pos ⟨rfl, g6⟩])
                have Hc : Hid (chkF m = 4) := Lib.hid (by rw [HBd.out (by rw [Hfe.out]; decide), Hfe.out])
                have g5n : 0 < ln := by rw [Hln.out]; exact List.length_pos_iff.2 g6
                have g5i : (0 : Int) < (ln : Int) := by omega
                have g5d : decide ((0 : Int) < (ln : Int)) = true := by simpa using g5i
                clear HNx HBd HDn
                go_wp2_with fail
                go_ret
                exact ⟨by rw [Hc.out]; rfl, Hb2.out⟩
              · have Hfe : Hid (fe = 0) := Lib.hid (by rw [HF2.out, if_neg g5])
                cases gn with
                | true =>
                  obtain rfl : ln = 0 := by
                    rw [Hln.out, List.length_eq_zero_iff]
                    exact Classical.byContradiction fun e => g5 ⟨rfl, e⟩
                  clear g5
                  by_cases hk0 : k = 0
                  · have Hnx : Hid (RestOk m (k + 1)) := Lib.hid (HNx.out Hfe.out (by rw [hk0]; rfl))
                    subst hk0
                    clear HNx HBd HDn
                    go_wp2_with fail
                    go_roundw
                    case rel => exact ⟨1, by omega, by go_num, ⟨nm, rfl, fun _ => HLast.out⟩, Hnx.out, Hb2.out⟩
                    case measure => simp [intOf]; omega
                  · have hkp : 0 < k := by omega
                    have hq1 := Hq.out hk0
                    have hkd : decide ((0 : Int) < (k : Int)) = true := by simpa using hkp
                    have HNx2 := HNx.out Hfe.out
                    have HDn2 := HDn.out Hfe.out
                    rw [hq1] at HNx2 HDn2
                    cases hle : Op.bytesLess q nm with
                    | true =>
                      have Hnx : Hid (RestOk m (k + 1)) := Lib.hid (HNx2 (by show decide (cb q nm < 0) = _; rw [← less_cb]; exact hle))
                      clear HNx HBd HDn HNx2 HDn2 hq1
                      obtain ⟨hle1, hle2⟩ := less_flip hle
                      go_wp2_with fail
                      go_roundw
                      case rel => exact ⟨k + 1, by omega, by go_num, ⟨nm, rfl, fun _ => HLast.out⟩, Hnx.out, Hb2.out⟩
                      case measure => simp [intOf]; omega
                    | false =>
                      have Hc : Hid (chkF m = 4) := Lib.hid (HDn2 (by show decide (cb q nm < 0) = _; rw [← less_cb]; exact hle))
                      clear HNx HBd HDn HNx2 HDn2 hq1
                      rcases less_not hle with hle1 | rfl
                      · go_wp2_with fail
                        go_ret
                        exact ⟨by rw [Hc.out]; rfl, Hb2.out⟩
                      · go_wp2_with fail
                        go_ret
                        exact ⟨by rw [Hc.out]; rfl, Hb2.out⟩
                | false =>
                  clear g5
                  by_cases hk0 : k = 0
                  · have Hnx : Hid (RestOk m (k + 1)) := Lib.hid (HNx.out Hfe.out (by rw [hk0]; rfl))
                    subst hk0
                    clear HNx HBd HDn
                    go_wp2_with fail
                    go_roundw
                    case rel => exact ⟨1, by omega, by go_num, ⟨nm, rfl, fun _ => HLast.out⟩, Hnx.out, Hb2.out⟩
                    case measure => simp [intOf]; omega
                  · have hkp : 0 < k := by omega
                    have hq1 := Hq.out hk0
                    have hkd : decide ((0 : Int) < (k : Int)) = true := by simpa using hkp
                    have HNx2 := HNx.out Hfe.out
                    have HDn2 := HDn.out Hfe.out
                    rw [hq1] at HNx2 HDn2
                    cases hle : Op.bytesLess q nm with
                    | true =>
                      have Hnx : Hid (RestOk m (k + 1)) := Lib.hid (HNx2 (by show decide (cb q nm < 0) = _; rw [← less_cb]; exact hle))
                      clear HNx HBd HDn HNx2 HDn2 hq1
                      obtain ⟨hle1, hle2⟩ := less_flip hle
                      go_wp2_with fail
                      go_roundw
                      case rel => exact ⟨k + 1, by omega, by go_num, ⟨nm, rfl, fun _ => HLast.out⟩, Hnx.out, Hb2.out⟩
                      case measure => simp [intOf]; omega
                    | false =>
                      have Hc : Hid (chkF m = 4) := Lib.hid (HDn2 (by show decide (cb q nm < 0) = _; rw [← less_cb]; exact hle))
                      clear HNx HBd HDn HNx2 HDn2 hq1
                      rcases less_not hle with hle1 | rfl
                      · go_wp2_with fail
                        go_ret
                        exact ⟨by rw [Hc.out]; rfl, Hb2.out⟩
                      · go_wp2_with fail
                        go_ret
                        exact ⟨by rw [Hc.out]; rfl, Hb2.out⟩
        · have Hfe : Hid (fe = nameE nm) := Lib.hid (by rw [HF.out, if_pos g1])
          have Hc : Hid (chkF m = nameE nm) := Lib.hid (by rw [HBd.out (by rw [Hfe.out]; exact g1), Hfe.out])
          generalize nameE nm = z at *
          have hz1 : (z != 0) = true := by simpa using g1
          go_wp2_with fail
          go_ret
          exact ⟨by rw [Hc.out]; rfl, Hb2.out⟩
      · obtain rfl : k = n := by omega
        have He : Hid (chkF m = 0) := Lib.hid (Hend.out k (by rw [HL.out]) Hr.out)
        go_wp2_with fail
        go_ret
        exact ⟨by rw [He.out]; rfl, Hb.out⟩
end Go.Proofs.YtdoegpklephelaaDoor.Merge
