/- reliquaryref: CheckWorld, OwnWorld; mixed worlds; regions -/
import Derived.Test.YtdoegpklephelaaGreatDoorRefs
import Derived.Test.YtdoegpklephelaaGreatDoorWorldArr
import Derived.Test.YtdoegpklephelaaGreatDoorWorldSame5
import Derived.Deep.RegionHeld3
import Derived.Deep.RegionLaw
/- reliquaryref: CheckWorld. -/
namespace Go.Proofs.YtdoegpklephelaaGreatDoor.Worlds
open Go Go.RowKit Go.Proofs.YtdoegpklephelaaGreatDoor Go.Proofs.YtdoegpklephelaaGreatDoor.Name Go.Proofs.YtdoegpklephelaaGreatDoor.Merge
set_option linter.unusedVariables false

theorem maxStamp_snoc' (c : Int) (l : List Fl) (f : Fl) : maxStamp c (l ++ [f]) = max (maxStamp c l) f.stamp := by unfold maxStamp; rw [List.foldl_append]; rfl
theorem least_iff (c : Int) (l : List Fl) : c < maxStamp 0 l ↔ c < 0 ∨ lateB l c = true := by
  have h1 := maxStamp_le 0 l
  constructor
  · intro h
    refine Classical.byContradiction fun hn => ?_
    have h2 : lateB l c = false := by
      cases hl : lateB l c with
      | true => exact absurd (.inr hl) hn
      | false => rfl
    have := maxStamp_lub 0 l c (by
      refine Int.not_lt.1 fun h0 => hn (.inl h0)) (late_no.1 h2)
    omega
  · rintro (h | h)
    · have := h1.1; omega
    · unfold lateB at h
      rw [List.any_eq_true] at h
      obtain ⟨f, hf, hc⟩ := h
      have := h1.2 f hf
      have := of_decide_eq_true hc
      omega
set_option maxRecDepth 100000 in
set_option maxHeartbeats 4000000 in
theorem refCheckW (x : Wx) (w : World) (hm : ML w) (h : IsWorld w x) :
    Calls Tryz.prog 8 #[wV x] w fun e w' => e = .returned (.int .i64 (chkW x.wd)) ∧ Below w.heap.size w w' := by
  obtain ⟨hN, hC, hT⟩ := h
  obtain ⟨R, hR⟩ : ∃ R, R = chkW x.wd := ⟨_, rfl⟩
  have HR1 := Lib.hid (chkW_1 (x := x.wd))
  have HR2 := Lib.hid (chkW_2 (x := x.wd))
  have HR3 := Lib.hid (chkW_3 (x := x.wd))
  have HR4 := Lib.hid (chkW_4 (x := x.wd))
  rw [← hR] at HR1 HR2 HR3 HR4 ⊢
  clear hR
  unfold Wx.wd at HR1 HR2 HR3 HR4
  obtain ⟨vn, nodes, vc, clock, vt, net⟩ := x
  dsimp only at hN hC hT HR1 HR2 HR3 HR4
  simp only [List.length_map] at HR1 HR2 HR3 HR4
  obtain ⟨An, cn, rfl, n1, n2, n3, n4, n5⟩ := hN
  obtain ⟨Ac, cc, rfl, c1, c2, c3, c4, c5⟩ := hC
  obtain ⟨At, ct, rfl, t1, t2, t3, t4, t5⟩ := hT
  have HN3 := Lib.hid n3
  have HN5 := Lib.hid n5
  have HC3 := Lib.hid c3
  have HT3 := Lib.hid t3
  have HT5 := Lib.hid t5
  unfold wV
  dsimp only
  obtain ⟨n, hn⟩ : ∃ n, n = nodes.length := ⟨_, rfl⟩
  obtain ⟨m, hm'⟩ : ∃ m, m = clock.length := ⟨_, rfl⟩
  obtain ⟨q, hq⟩ : ∃ q, q = net.length := ⟨_, rfl⟩
  rw [← hn] at n1 HR1 HR2 HR3 HR4 ⊢
  rw [← hm'] at c1 HR1 HR2 HR3 HR4 ⊢
  rw [← hq] at t1 HR2 HR3 HR4 ⊢
  have Hn := Lib.hid hn
  have Hm := Lib.hid hm'
  have Hq := Lib.hid hq
  have HM := Lib.hid hm
  unfold maxLen at n2 c2 t2
  have hq63 : q ≤ 9223372036854775807 := by omega
  clear hn hm' hq hm n3 n4 n5 c3 c4 c5 t3 t4 t5
  by_cases hbad : n < 1 ∨ 4 < n ∨ m ≠ n
  · have HU := Lib.hid (HR1.out hbad)
    rcases (by omega : n < 1 ∨ (¬ n < 1 ∧ 4 < n) ∨ (¬ n < 1 ∧ ¬ 4 < n ∧ m ≠ n)) with h | ⟨h, h2⟩ | ⟨h, h2, h3⟩
    · have g1 : (n : Int) < 1 := by omega
      clear hbad
      go_enter Tryz.func8, Tryz.ntmps8
      go_wp2_with fail
      go_ret
      exact ⟨ret_int HU.out.symm, (Below.refl _ _).alloc (Nat.le_refl _) _⟩
    · have g1 : ¬ (n : Int) < 1 := by omega
      have g2 : (4 : Int) < (n : Int) := by omega
      clear hbad
      go_enter Tryz.func8, Tryz.ntmps8
      go_wp2_with fail
      go_ret
      exact ⟨ret_int HU.out.symm, (Below.refl _ _).alloc (Nat.le_refl _) _⟩
    · have g1 : ¬ (n : Int) < 1 := by omega
      have g2 : ¬ (4 : Int) < (n : Int) := by omega
      have g3 : ((m : Int) != (n : Int)) = true := by simp; omega
      have g4 : ¬ (m : Int) = (n : Int) := by omega
      clear hbad
      go_enter Tryz.func8, Tryz.ntmps8
      go_wp2_with fail
      go_ret
      exact ⟨ret_int HU.out.symm, (Below.refl _ _).alloc (Nat.le_refl _) _⟩
  · obtain rfl : m = n := by omega
    have g1 : ¬ (m : Int) < 1 := by omega
    have g2 : ¬ (4 : Int) < (m : Int) := by omega
    have m4 : m ≤ 4 := by omega
    have m1 : 1 ≤ m := by omega
    have Hbad := Lib.hid hbad
    clear hbad HR1
    by_cases hq : 20 < q
    · have HU := Lib.hid (HR2.out Hbad.out hq)
      have g5 : (20 : Int) < (q : Int) := by omega
      go_enter Tryz.func8, Tryz.ntmps8
      go_wp2_with fail
      go_ret
      exact ⟨ret_int HU.out.symm, (Below.refl _ _).alloc (Nat.le_refl _) _⟩
    · have g5 : ¬ (20 : Int) < (q : Int) := by omega
      have HR5 := Lib.hid (HR3.out Hbad.out hq)
      have HR6 := Lib.hid (HR4.out Hbad.out hq)
      clear HR2 HR3 HR4 Hbad
      obtain ⟨E, hE⟩ : ∃ E, E = chkNodes (nodes.map fun x => flOf x.2) clock := ⟨_, rfl⟩
      have HE := Lib.hid hE
      rw [← hE] at HR5 HR6
      clear hE
      obtain ⟨w1, hw1⟩ : ∃ w1, w1 = w.alloc (.cells #[.slice An m cn, .slice Ac m cc, .slice At q ct] 26) := ⟨_, rfl⟩
      have B1 : Blk w1 w.heap.size 26 #[.slice An m cn, .slice Ac m cc, .slice At q ct] := by rw [hw1]; exact Blk.new _ _ _
      have hb1 : Below w.heap.size w w1 := by rw [hw1]; exact (Below.refl _ _).alloc (Nat.le_refl _) _
      obtain ⟨g, hg⟩ : ∃ g, g = w.heap.size := ⟨_, rfl⟩
      have HB1 := Lib.hid B1
      have Hb1 := Lib.hid hb1
      have Hw1 := Lib.hid hw1.symm
      clear B1 hb1 hw1 hg
      go_enter Tryz.func8, Tryz.ntmps8
      go_wp2_with fail
      rw [Hw1.out]
      go_loopw [36] (fun vi wr => ∃ k : Nat, k ≤ m ∧ vi = .int .i64 (k : Int) ∧ E = chkNodes ((nodes.map fun x => flOf x.2).drop k) (clock.drop k) ∧ Below w1.heap.size w1 wr) (fun vi _ => m - (intOf vi).toNat)
      case atStart => exact ⟨0, Nat.zero_le _, rfl, HE.out, Below.refl _ _⟩
      case round =>
        obtain ⟨k, hk, rfl, hE, hb⟩ := hrel
        have HEk := Lib.hid hE
        have Hb := Lib.hid hb
        clear hE hb
        obtain ⟨bx0, bx1, bx2⟩ := blk3 (HB1.out.below Hb.out HB1.out.lt)
        by_cases hlt : k < m
        · have hkn : k < nodes.length := by rw [← Hn.out]; exact hlt
          have hkc : k < clock.length := by rw [← Hm.out]; exact hlt
          obtain ⟨b, o, rfl, nc⟩ := node_cell ((HN3.out.below Hb1.out).below Hb.out) hkn
          obtain ⟨b2, o2, rfl, cc'⟩ := clock_cell ((HC3.out.below Hb1.out).below Hb.out) hkc
          have HND := Lib.hid ((((HN5.out nodes[k] (List.getElem_mem hkn)).below Hb1.out).below Hb.out))
          have HE2 : Hid (E = chkNodes (flOf nodes[k].2 :: (nodes.map fun x => flOf x.2).drop (k + 1)) (clock[k] :: clock.drop (k + 1))) := Lib.hid (by
            rw [← map_drop_cons (fun x : Nx => flOf x.2) nodes hkn, ← List.drop_eq_getElem_cons hkc]; exact HEk.out)
          generalize nodes[k] = nd at *
          generalize clock[k] = c at *
          obtain ⟨⟨A', n', c'⟩, fl⟩ := nd
          unfold NodeAt at HND
          simp only [slv] at nc HND
          have HCh := Lib.hid (refCheck_any _ fl _ ((HM.out.below Hb1.out).below Hb.out) HND.out)
          obtain ⟨A'', c'', e0, f1, f2, f3, f4, f5⟩ := HND.out
          injection e0 with e1 e2 e3
          subst e1 e2 e3
          have Hf3 := Lib.hid f3
          have Hf5 := Lib.hid (show fl.length ≤ 9223372036854775807 by unfold maxLen at f2; omega)
          have Hf2 := Lib.hid (show fl.length ≤ maxLen by omega)
          have hnl63 : fl.length ≤ 9223372036854775807 := Hf5.out
          obtain ⟨nl, hnl⟩ : ∃ nl, nl = fl.length := ⟨_, rfl⟩
          rw [← hnl] at nc HCh Hf2 hnl63
          have Hnl := Lib.hid hnl
          clear f1 f2 f3 f4 f5 hnl HND
          go_wp2_with fail
          refine (HCh.out).mono ?_
          rintro e w2 ⟨rfl, hb2⟩
          have Hb2 := Lib.hid (Hb.out.trans (hb2.mono Hb.out.size))
          obtain ⟨cx0, cx1, cx2⟩ := blk3 (HB1.out.below Hb2.out HB1.out.lt)
          have cc2 := cell_below hb2 cc'
          have HCc := Lib.hid cc2
          have Hf4 := Lib.hid (Hf3.out.below hb2)
          clear hb2 HCh Hf3 bx0 bx1 bx2 cc'
          by_cases he : chkF (flOf fl) = 0
          · rw [show chkF (fl.map Prod.fst) = 0 from he]
            have hcz := Hf5.out
            have HY := Lib.hid (fun h => HE2.out.trans (nodes_2 _ _ he h))
            have HZ : Hid (¬ (c < 0 ∨ 1000000 < c ∨ lateB (flOf fl) c = true) → E = _) := Lib.hid (fun h => HE2.out.trans (nodes_3 _ _ he h))
            clear he HE2 hcz
            go_wp2_with fail
            go_loopw [7, 48] (fun p7 vi wr => ∃ j : Nat, j ≤ nl ∧ vi = .int .i64 (j : Int) ∧ ∃ cur : Int, p7 = .int .i64 cur ∧ cur = maxStamp 0 (flOf (fl.take j)) ∧ Below w2.heap.size w2 wr) (fun _ vi _ => nl - (intOf vi).toNat)
            case atStart => exact ⟨0, Nat.zero_le _, rfl, 0, rfl, rfl, Below.refl _ _⟩
            case round =>
              obtain ⟨j, hj, rfl, cur, rfl, hcur, hbj⟩ := hrel
              have Hcur := Lib.hid hcur
              have Hbj := Lib.hid hbj
              clear hcur hbj cx0 cx1 cx2 cc2
              by_cases hjl : j < nl
              · have hjf : j < fl.length := by rw [← Hnl.out]; exact hjl
                obtain ⟨bf, of_, rfl, hcf⟩ := slat_elem (size := 5) fC_len (by omega) (Hf4.out.below Hbj.out) hjf
                have HT : Hid (maxStamp 0 (flOf (fl.take (j + 1))) = max (maxStamp 0 (flOf (fl.take j))) fl[j].1.stamp) := Lib.hid (by
                  rw [take_snoc _ _ hjf]; unfold flOf; rw [List.map_append]; exact maxStamp_snoc' _ _ _)
                generalize fl[j] = x at *
                obtain ⟨⟨n1, b1, s1, d1, g1⟩, A1, l1, c1⟩ := x
                dsimp only at HT
                have t0 : wr.cell? ⟨bf, of_ + j * 5, none⟩ = some (.string (strB n1)) := hcf 0 _ rfl
                have t1 : wr.cell? ⟨bf, of_ + j * 5 + 1, none⟩ = some (.slice A1 l1 c1) := hcf 1 _ rfl
                have t2 : wr.cell? ⟨bf, of_ + j * 5 + 2, none⟩ = some (.int .i64 s1) := hcf 2 _ rfl
                have t3 : wr.cell? ⟨bf, of_ + j * 5 + 3, none⟩ = some (.int .i64 d1) := hcf 3 _ rfl
                have t4 : wr.cell? ⟨bf, of_ + j * 5 + 4, none⟩ = some (.bool g1) := hcf 4 _ rfl
                have hmax := fun (ts : Array TypeId) (ty : TypeId) (W : World) => run_max2 (P := Tryz.prog) ts ty cur s1 W
                have HN2 : Hid (max cur s1 = maxStamp 0 (flOf (fl.take (j + 1)))) := Lib.hid (by rw [HT.out, Hcur.out])
                clear hcf HT
                go_wp2_with fail
                go_roundw
                case rel => exact ⟨j + 1, by omega, by go_num, _, rfl, HN2.out, Hbj.out.alloc Hbj.out.size _⟩
                case measure => simp [intOf]; omega
              · obtain rfl : nl = j := by omega
                have HL : Hid (cur = maxStamp 0 (flOf fl)) := Lib.hid (by rw [Hcur.out, List.take_of_length_le (by rw [← Hnl.out]; exact Nat.le_refl _)])
                have Hb3 := Lib.hid (Hb2.out.trans (Hbj.out.mono Hb2.out.size))
                obtain ⟨cx0, cx1, cx2⟩ := blk3 (HB1.out.below Hb3.out HB1.out.lt)
                have cc3 := cell_below Hbj.out HCc.out
                by_cases hc0 : c < cur
                · have HU := Lib.hid (HY.out (by rcases (least_iff c (flOf fl)).1 (by rw [← HL.out]; exact hc0) with h | h; exact .inl h; exact .inr (.inr h)))
                  have HU2 := Lib.hid ((HR5.out (by rw [HU.out]; omega)).trans HU.out)
                  go_wp2_with fail
                  go_ret
                  exact ⟨ret_int HU2.out.symm, Hb1.out.trans (Hb3.out.mono Hb1.out.size)⟩
                · by_cases hc1 : 1000000 < c
                  · have HU := Lib.hid (HY.out (.inr (.inl hc1)))
                    have HU2 := Lib.hid ((HR5.out (by rw [HU.out]; omega)).trans HU.out)
                    go_wp2_with fail
                    go_ret
                    exact ⟨ret_int HU2.out.symm, Hb1.out.trans (Hb3.out.mono Hb1.out.size)⟩
                  · have HU := Lib.hid (HZ.out (by
                      rintro (h | h | h)
                      · exact hc0 (by rw [HL.out]; exact (least_iff c (flOf fl)).2 (.inl h))
                      · exact hc1 h
                      · exact hc0 (by rw [HL.out]; exact (least_iff c (flOf fl)).2 (.inr h))))
                    go_wp2_with fail
                    go_roundw
                    case rel => exact ⟨k + 1, by omega, by go_num, HU.out, Hb3.out⟩
                    case measure => simp [intOf]; omega
          · have HU := Lib.hid (HE2.out.trans (nodes_1 _ _ he))
            have HU2 := Lib.hid ((HR5.out (by rw [HU.out]; exact he)).trans HU.out)
            rw [show chkF (fl.map Prod.fst) = chkF (flOf fl) from rfl]
            generalize chkF (flOf fl) = z at *
            have hz1 : (z != 0) = true := by simpa using he
            clear he
            go_wp2_with fail
            go_ret
            exact ⟨ret_int HU2.out.symm, Hb1.out.trans (Hb2.out.mono Hb1.out.size)⟩
        · obtain rfl : k = m := by omega
          have HE0 : Hid (E = 0) := Lib.hid (by
            rw [HEk.out, List.drop_of_length_le (by rw [List.length_map, ← Hn.out]; exact Nat.le_refl _)]
            cases clock.drop k <;> rfl)
          have HRN := Lib.hid (HR6.out HE0.out)
          clear HE0 HEk HR5 HR6 HE HN3 HN5 HC3
          obtain ⟨NS, hNS⟩ : ∃ NS, NS = net.map msOf := ⟨_, rfl⟩
          have HNS := Lib.hid hNS
          rw [← hNS] at HRN
          clear hNS
          go_wp2_with fail
          go_loopw [76] (fun vi wr => ∃ j : Nat, j ≤ q ∧ vi = .int .i64 (j : Int) ∧ R = chkNet k (NS.drop j) ∧ Below w1.heap.size w1 wr) (fun vi _ => q - (intOf vi).toNat)
          case atStart => exact ⟨0, Nat.zero_le _, rfl, HRN.out, Hb.out⟩
          case round =>
            obtain ⟨j, hj, rfl, hRj, hbj⟩ := hrel
            have HRj := Lib.hid hRj
            have Hbj := Lib.hid hbj
            clear hRj hbj bx0 bx1 bx2
            by_cases hlt2 : j < q
            · have hjn : j < net.length := by rw [← Hq.out]; exact hlt2
              obtain ⟨b, o, rfl, mc0, mc1⟩ := msg_cell ((HT3.out.below Hb1.out).below Hbj.out) hjn
              have HND := Lib.hid ((HT5.out net[j] (List.getElem_mem hjn)).below Hb1.out |>.below Hbj.out)
              have HE2 : Hid (R = chkNet k (msOf net[j] :: NS.drop (j + 1))) := Lib.hid (by
                rw [HRj.out, HNS.out, ← map_drop_cons msOf net hjn])
              generalize net[j] = nd at *
              obtain ⟨t, ⟨A', n', c'⟩, fl⟩ := nd
              simp only [slv] at mc0 mc1
              have HCh := Lib.hid (refCheck_any (slv (A', n', c')) fl wr ((HM.out.below Hb1.out).below Hbj.out) HND.out.2)
              have B2 := Lib.hid (Blk.new wr 54 #[.int .i64 t, .slice A' n' c'])
              have HCh2 : Hid (Calls _ _ _ (wr.alloc (.cells #[.int .i64 t, .slice A' n' c'] 54)) _) := Lib.hid (refCheck_any (slv (A', n', c')) fl _ (((HM.out.below Hb1.out).below Hbj.out).below ((Below.refl _ _).alloc (Nat.le_refl _) _)) (IsFiles.below HND.out.2 ((Below.refl _ _).alloc (Nat.le_refl _) _)))
              have Hb2 := Lib.hid (Hbj.out.alloc Hbj.out.size (.cells #[.int .i64 t, .slice A' n' c'] 54))
              clear HND HCh
              simp only [slv] at HCh2
              go_wp2_with fail
              refine (HCh2.out).mono ?_
              rintro e w2 ⟨rfl, hb2⟩
              have B3 := Lib.hid (B2.out.below hb2 B2.out.lt)
              have Hb3 := Lib.hid (Hb2.out.trans (hb2.mono Hb2.out.size))
              obtain ⟨d0, d1⟩ := And.intro B3.out.c0 B3.out.c1
              clear hb2 HCh2 B2 Hb2
              by_cases he : chkF (flOf fl) = 0
              · rw [show chkF (fl.map Prod.fst) = 0 from he]
                by_cases h1 : t < 0
                · have HU := Lib.hid (HE2.out.trans (net_2 _ (show chkF (msOf (t, (A', n', c'), fl)).files = 0 from he) (.inl h1)))
                  clear he
                  go_wp2_with fail
                  go_ret
                  exact ⟨ret_int HU.out.symm, Hb1.out.trans (Hb3.out.mono Hb1.out.size)⟩
                · by_cases h2 : (k : Int) ≤ t
                  · have HU := Lib.hid (HE2.out.trans (net_2 _ (show chkF (msOf (t, (A', n', c'), fl)).files = 0 from he) (.inr h2)))
                    clear he
                    go_wp2_with fail
                    go_ret
                    exact ⟨ret_int HU.out.symm, Hb1.out.trans (Hb3.out.mono Hb1.out.size)⟩
                  · have HU := Lib.hid (HE2.out.trans (net_3 _ (show chkF (msOf (t, (A', n', c'), fl)).files = 0 from he) (show ¬ (t < 0 ∨ (k : Int) ≤ t) by omega)))
                    clear he
                    go_wp2_with fail
                    go_roundw
                    case rel => exact ⟨j + 1, by omega, by go_num, HU.out, Hb3.out⟩
                    case measure => simp [intOf]; omega
              · have HU := Lib.hid (HE2.out.trans (net_1 _ (show chkF (msOf (t, (A', n', c'), fl)).files ≠ 0 from he)))
                rw [show chkF (fl.map Prod.fst) = chkF (flOf fl) from rfl]
                rw [show chkF (msOf (t, (A', n', c'), fl)).files = chkF (flOf fl) from rfl] at HU
                generalize chkF (flOf fl) = z at *
                have hz1 : (z != 0) = true := by simpa using he
                clear he
                go_wp2_with fail
                go_ret
                exact ⟨ret_int HU.out.symm, Hb1.out.trans (Hb3.out.mono Hb1.out.size)⟩
            · have HU : Hid (R = 0) := Lib.hid (by
                rw [HRj.out, List.drop_of_length_le (by rw [HNS.out, List.length_map, ← Hq.out]; omega)]; rfl)
              go_wp2_with fail
              go_ret
              exact ⟨ret_int HU.out.symm, Hb1.out.trans (Hbj.out.mono Hb1.out.size)⟩
end Go.Proofs.YtdoegpklephelaaGreatDoor.Worlds

/- reliquaryref: OwnWorld. -/
namespace Go.Proofs.YtdoegpklephelaaGreatDoor.Worlds
open Go Go.RowKit Go.Proofs.YtdoegpklephelaaGreatDoor Go.Proofs.YtdoegpklephelaaGreatDoor.Name Go.Proofs.YtdoegpklephelaaGreatDoor.Merge
set_option linter.unusedVariables false

theorem tyIn : SliceTy Tryz.prog 23 3 (.int .i64 0) 1 8 := ⟨Tryz.underlying23, by kernel_rfl, rfl, by omega⟩
set_option maxRecDepth 100000 in
set_option maxHeartbeats 4000000 in
theorem ownWorld_any (x : Wx) (w : World) (h : IsWorld w x) (hw : WdK sizedK x) :
    Calls Tryz.prog 6 #[wV x] w (WorldPost x.wd w) := by
  obtain ⟨hN, hC, hT⟩ := h
  have hns := hw.node
  have hms := hw.ms
  have hfew := hw.nodes
  have hclk := hw.clock
  have hnet := hw.net
  unfold sizedK at hfew hclk hnet
  obtain ⟨D, hD⟩ : ∃ D, D = x.wd := ⟨_, rfl⟩
  rw [← hD]
  simp only [Wx.wd] at hD
  obtain ⟨vn, nodes, vc, clock, vt, net⟩ := x
  dsimp only at hN hC hT hns hms hfew hclk hnet hD
  obtain ⟨An, cn, rfl, n1, n2, n3, n4, n5⟩ := hN
  obtain ⟨Ac, cc, rfl, c1, c2, c3, c4, c5⟩ := hC
  obtain ⟨At, ct, rfl, t1, t2, t3, t4, t5⟩ := hT
  have HN3 := Lib.hid n3
  have HN5 := Lib.hid n5
  have HC5 := Lib.hid c5
  have HT3 := Lib.hid t3
  have HT5 := Lib.hid t5
  have HD := Lib.hid hD
  have HNS := Lib.hid hns
  have HMS := Lib.hid hms
  have HC3 := Lib.hid c3
  have HC4 := Lib.hid c4
  unfold wV
  dsimp only
  obtain ⟨n, hn⟩ : ∃ n, n = nodes.length := ⟨_, rfl⟩
  obtain ⟨m, hm'⟩ : ∃ m, m = clock.length := ⟨_, rfl⟩
  obtain ⟨q, hq⟩ : ∃ q, q = net.length := ⟨_, rfl⟩
  rw [← hn] at hfew ⊢
  rw [← hm'] at hclk ⊢
  rw [← hq] at hnet ⊢
  have Hn := Lib.hid hn
  have Hm := Lib.hid hm'
  have Hq := Lib.hid hq
  have hn63 : n ≤ 9223372036854775807 := by omega
  have hq63 : q ≤ 9223372036854775807 := by omega
  clear hn hm' hq hns hms hD hw n1 n2 n3 n4 n5 c1 c2 c3 c4 c5 t1 t2 t3 t4 t5
  obtain ⟨w1, hw1⟩ : ∃ w1, w1 = ((w.alloc (.cells #[.slice An n cn, .slice Ac m cc, .slice At q ct] 26)).alloc (.cells #[.slice none 0 0, .slice none 0 0, .slice none 0 0] 26)).alloc (.cells #[.slice none 0 0, .slice none 0 0, .slice none 0 0] 26) := ⟨_, rfl⟩
  have hs1 : w1.heap.size = w.heap.size + 3 := by rw [hw1]; simp
  have B1 : Blk w1 w.heap.size 26 #[.slice An n cn, .slice Ac m cc, .slice At q ct] := by rw [hw1]; exact ((Blk.new _ _ _).alloc _).alloc _
  have B2 : Blk w1 (w.heap.size + 1) 26 #[.slice none 0 0, .slice none 0 0, .slice none 0 0] := by
    rw [hw1]
    have := (Blk.new (w.alloc (.cells #[.slice An n cn, .slice Ac m cc, .slice At q ct] 26)) 26 #[.slice none 0 0, .slice none 0 0, .slice none 0 0]).alloc (.cells #[.slice none 0 0, .slice none 0 0, .slice none 0 0] 26)
    simpa using this
  have B3 : Blk w1 (w.heap.size + 2) 26 #[.slice none 0 0, .slice none 0 0, .slice none 0 0] := by
    rw [hw1]
    have := Blk.new ((w.alloc (.cells #[.slice An n cn, .slice Ac m cc, .slice At q ct] 26)).alloc (.cells #[.slice none 0 0, .slice none 0 0, .slice none 0 0] 26)) 26 #[.slice none 0 0, .slice none 0 0, .slice none 0 0]
    simpa using this
  have hb1 : Below w.heap.size w w1 := by rw [hw1]; exact (((Below.refl _ _).alloc (Nat.le_refl _) _).alloc (by simp) _).alloc (by simp; omega) _
  obtain ⟨B, hB⟩ : ∃ B, B = w.heap.size := ⟨_, rfl⟩
  obtain ⟨g3, hg3⟩ : ∃ g, g = B + 2 := ⟨_, rfl⟩
  have Hg3 := Lib.hid hg3
  have HBs := Lib.hid hB
  rw [← hB] at B1 B2 B3 hs1
  rw [← hg3] at B3
  have HB1 := Lib.hid B1
  have HB2 := Lib.hid B2
  have HB3 := Lib.hid B3
  have Hb1 := Lib.hid hb1
  have Hs1 := Lib.hid hs1
  have Hw1 := Lib.hid hw1.symm
  clear B1 B2 B3 hb1 hw1 hg3 hB hs1
  unfold WorldPost
  go_enter Tryz.func6, Tryz.ntmps6
  go_wp2_with fail
  rw [Hw1.out, ← HBs.out, ← Hg3.out]
  have hB3 := HB3.out
  have hg3 := Hg3.out
  have hs1 := Hs1.out
  go_loopw [11] (fun vi wr => ∃ (k : Nat) (done : List Nx) (vN : Value), k ≤ n ∧ vi = .int .i64 (k : Int) ∧ Blk wr g3 26 #[vN, .slice none 0 0, .slice none 0 0] ∧ OwnW wr g3 ⟨vN, done, .slice none 0 0, [], .slice none 0 0, []⟩ ∧ done.length = k ∧ done.map (fun x => flOf x.2) = (nodes.take k).map (fun x => flOf x.2) ∧ Below g3 w1 wr) (fun vi _ => n - (intOf vi).toNat)
  case atStart => exact ⟨0, [], _, Nat.zero_le _, rfl, hB3, OwnW.none_ _ _, rfl, rfl, Below.refl _ _⟩
  case round =>
    obtain ⟨k, done, vN, hk, rfl, hblk, hown, hdl, hdm, hb⟩ := hrel
    have Hblk := Lib.hid hblk
    have Hown := Lib.hid hown
    have hdle : done.length ≤ k := by omega
    have Hdl := Lib.hid hdl
    have Hdm := Lib.hid hdm
    have Hb := Lib.hid hb
    have Hbw := Lib.hid (Hb1.out.trans (hb.mono (by have := HBs.out; omega)))
    have Hsz : Hid (g3 < wr.heap.size) := Lib.hid hblk.lt
    have HX1 := Lib.hid ((HB1.out.below Hb.out (show B < g3 by omega)))
    have HX2 := Lib.hid ((HB2.out.below Hb.out (show B + 1 < g3 by omega)))
    clear hblk hown hdl hdm hb hB3 hs1 hg3
    by_cases hlt : k < n
    · have hkn : k < nodes.length := by rw [← Hn.out]; exact hlt
      obtain ⟨b, o, rfl, nc⟩ := node_cell (HN3.out.below Hbw.out) hkn
      have HND := Lib.hid ((HN5.out nodes[k] (List.getElem_mem hkn)).below Hbw.out)
      have HSm := Lib.hid (HNS.out nodes[k] (List.getElem_mem hkn))
      have Hst : Hid ((nodes.take (k + 1)).map (fun x => flOf x.2) = (nodes.take k).map (fun x => flOf x.2) ++ [flOf nodes[k].2]) := Lib.hid (by rw [take_snoc _ _ hkn, List.map_append]; rfl)
      generalize nodes[k] = nd at *
      obtain ⟨⟨A', n', c'⟩, fl⟩ := nd
      unfold NodeAt at HND
      simp only [slv] at nc HND
      have HCo := Lib.hid (fun w' (hb : Below wr.heap.size wr w') => ownFiles_any (.slice A' n' c') fl w' (IsFiles.below HND.out hb) HSm.out)
      clear HND HSm
      obtain ⟨bx0, _, _⟩ := blk3 HX1.out
      obtain ⟨cx0, _, _⟩ := blk3 Hblk.out
      go_wp2_with fail
      go_region_law ((first
        | (refine step_app rfl (.tmp 16) (.tmp 19) _ rfl g3 46 _ 1 24 tyN vN done.length (done.flatMap nC) (by simp [Act.eval]) HX7.out.nodes (some ⟨w5.heap.size, 0, none⟩) 1 1 [.slice A5 ln5 c5] (by simp [Act.eval]) rfl Hs7.out (by simp [Value.oneCell']) (by simp) (by unfold maxLen; omega) (by omega) Hbs7.out ?_
           intro v8 w8 hown8 hg8
           obtain ⟨A8, d8, rfl, _⟩ := own_slat hown8
           have Ho8 := Lib.hid hown8
           have Hg8 := Lib.hid hg8
           have HB8 := Lib.hid (HB7.out.grown hg8 (own_ne HX7.out.nodes HB7.out (by decide)))
           have c8 := (blk3 HB8.out).1
           have f8 := HB8.out.frozen 0
           clear hown8 hg8)
        | (go_simp
           go_at_call 19
           refine (HCo.out _ (Below.refl _ _).drew).mono ?_
           rintro e w5 ⟨v5, l5, rfl, ho5, he5, hb5⟩
           have hb5' : Below wr.heap.size wr w5 := (Below.refl wr.heap.size wr).drew.trans hb5
           obtain ⟨A5, c5, rfl, _⟩ := own_slat ho5.row
           obtain ⟨ln5, hln5⟩ : ∃ ln5, ln5 = l5.length := ⟨_, rfl⟩
           rw [← hln5] at ho5 ⊢
           have HL5 := Lib.hid hln5
           have He5 := Lib.hid he5
           have hbA : Below w5.heap.size w5 (w5.alloc (.cells #[.slice A5 ln5 c5] 46)) := (Below.refl _ _).alloc (Nat.le_refl _) _
           have HX7 := Lib.hid ((Hown.out.below hb5').below hbA)
           have HS7 : Hid (OwnFs (w5.alloc (.cells #[.slice A5 ln5 c5] 46)) g3 (slv (A5, ln5, c5)) l5) := Lib.hid ((ho5.base_ (show g3 ≤ wr.heap.size from Nat.le_of_lt Hsz.out)).below hbA)
           have HB7 := Lib.hid ((Hblk.out.below hb5' Hblk.out.lt).below hbA (show g3 < w5.heap.size by have := hb5'.size; have := Hsz.out; omega))
           have Hs7 : Hid (SlAt (w5.alloc (.cells #[.slice A5 ln5 c5] 46)) (some ⟨w5.heap.size, 0, none⟩) [.slice A5 ln5 c5]) := Lib.hid (SlAt.of_heap (heap_alloc_new _ _) rfl)
           have Hb7 := Lib.hid (Hb.out.trans ((hb5'.trans (hbA.mono hb5'.size)).mono (show g3 ≤ wr.heap.size from Nat.le_of_lt Hsz.out)))
           have Hbs7 : Hid (g3 ≤ (w5.alloc (.cells #[.slice A5 ln5 c5] 46)).heap.size) := Lib.hid (by have := HB7.out.lt; omega)
           have c5x := cell_below hb5' cx0
           have hz5 : g3 < w5.heap.size := by have := hb5'.size; have := Hsz.out; omega
           clear hb5 hb5' ho5 he5 hbA hln5)))
      all_goals (
        have Hb8 := Lib.hid (own_below HX7.out.nodes Hg8.out Hb7.out Hbs7.out)
        have HX8 := Lib.hid (HX7.out.addNode (A5, ln5, c5) l5 HS7.out Ho8.out Hg8.out Hbs7.out)
        have HX9 := Lib.hid (HX8.out.set_ HB8.out (by decide) (by decide) (by decide) (by decide) (by decide) 0 (.slice A8 (done.length + 1) d8))
        have HB9 := Lib.hid (HB8.out.set_ 0 (.slice A8 (done.length + 1) d8))
        have Hb9 := Lib.hid (Hb8.out.setCell (show g3 ≤ (⟨g3, 0, none⟩ : Addr).block from Nat.le_refl _) (.slice A8 (done.length + 1) d8))
        clear HX7 HS7 HB7 Hs7 Hb7 Hbs7 HX8 HB8 Hb8 Ho8 Hg8
        go_wp2_with fail
        go_roundw
        case rel => exact ⟨k + 1, done ++ [((A5, ln5, c5), l5)], _, by omega, by go_num, HB9.out, HX9.out, by rw [List.length_append, Hdl.out]; rfl, by rw [List.map_append, Hdm.out, Hst.out]; exact congrArg (fun t => _ ++ [t]) He5.out, Hb9.out⟩
        case measure => simp [intOf]; omega)
    · obtain rfl : k = n := by omega
      have HNd : Hid (done.map (fun x => flOf x.2) = nodes.map (fun x => flOf x.2)) := Lib.hid (by rw [Hdm.out, List.take_of_length_le (by rw [← Hn.out]; exact Nat.le_refl _)])
      have Hown' := Hown
      have Hblk' := Hblk
      have Hb' := Hb
      clear Hown Hblk Hb Hdm Hdl HN3 HN5 HNS Hsz Hbw HX1 HX2 Hn
      obtain ⟨bx0, bx1, bx2⟩ := blk3 (HB1.out.below Hb'.out (show B < g3 by have := Hg3.out; omega))
      go_wp2_with fail
      go_loopw [26] (fun vi wr => ∃ (j : Nat) (doneM : List Mx) (vT : Value), j ≤ q ∧ vi = .int .i64 (j : Int) ∧ Blk wr g3 26 #[vN, .slice none 0 0, vT] ∧ OwnW wr g3 ⟨vN, done, .slice none 0 0, [], vT, doneM⟩ ∧ doneM.length = j ∧ doneM.map msOf = (net.take j).map msOf ∧ Below g3 w1 wr) (fun vi _ => q - (intOf vi).toNat)
      case atStart => exact ⟨0, [], _, Nat.zero_le _, rfl, Hblk'.out, Hown'.out, rfl, rfl, Hb'.out⟩
      case round =>
        obtain ⟨j, doneM, vT, hj, rfl, hblk, hown, hdl, hdm, hb⟩ := hrel
        have hdle2 : doneM.length ≤ j := by omega
        have Hblk := Lib.hid hblk
        have Hown := Lib.hid hown
        have Hdl := Lib.hid hdl
        have Hdm := Lib.hid hdm
        have Hb := Lib.hid hb
        have Hbw := Lib.hid (Hb1.out.trans (hb.mono (by have := HBs.out; have := Hg3.out; omega)))
        have Hsz := Lib.hid hblk.lt
        have HX1 := Lib.hid ((HB1.out.below Hb.out (show B < g3 by have := Hg3.out; omega)))
        have HX2 := Lib.hid ((HB2.out.below Hb.out (show B + 1 < g3 by have := Hg3.out; omega)))
        clear hblk hown hdl hdm hb bx0 bx1 bx2
        by_cases hlt : j < q
        · have hjn : j < net.length := by rw [← Hq.out]; exact hlt
          obtain ⟨b, o, rfl, mc0, mc1⟩ := msg_cell (HT3.out.below Hbw.out) hjn
          have HND := Lib.hid ((HT5.out net[j] (List.getElem_mem hjn)).below Hbw.out)
          have HSm := Lib.hid (HMS.out net[j] (List.getElem_mem hjn))
          have Hst : Hid ((net.take (j + 1)).map msOf = (net.take j).map msOf ++ [msOf net[j]]) := Lib.hid (by rw [take_snoc _ _ hjn, List.map_append]; rfl)
          generalize net[j] = nd at *
          obtain ⟨t, ⟨A', n', c'⟩, fl⟩ := nd
          simp only [slv] at mc0 mc1
          obtain ⟨w2, hw2⟩ : ∃ w2, w2 = wr.alloc (.cells #[.int .i64 t, .slice A' n' c'] 54) := ⟨_, rfl⟩
          have hb2 : Below wr.heap.size wr w2 := by rw [hw2]; exact (Below.refl _ _).alloc (Nat.le_refl _) _
          obtain ⟨gm, hgm⟩ : ∃ gm, gm = wr.heap.size := ⟨_, rfl⟩
          have HBm := Lib.hid (show Blk w2 gm 54 #[.int .i64 t, .slice A' n' c'] by rw [hw2, hgm]; exact Blk.new _ _ _)
          have HTi := Lib.hid HND.out.1
          have HCo := Lib.hid (fun w' (hb : Below w2.heap.size w2 w') => ownFiles_any (.slice A' n' c') fl w' (IsFiles.below (IsFiles.below HND.out.2 hb2) hb) HSm.out)
          have HX2' := Lib.hid (HX2.out.below hb2 HX2.out.lt)
          have Hblk2 := Lib.hid (Hblk.out.below hb2 Hblk.out.lt)
          have Hown2 := Lib.hid (Hown.out.below hb2)
          have Hb2 := Lib.hid (Hb.out.trans (hb2.mono (Nat.le_of_lt Hsz.out)))
          have Hsz2 : Hid (g3 < w2.heap.size) := Lib.hid Hblk2.out.lt
          have Hgm : Hid (gm ≠ g3) := Lib.hid (by have := Hsz.out; omega)
          have Hwq : Hid (wr.alloc (.cells #[.int .i64 t, .slice A' n' c'] 54) = w2) := Lib.hid hw2.symm
          have Hgq : Hid (wr.heap.size = gm) := Lib.hid hgm.symm
          clear HND HSm hw2 hb2 hgm Hblk Hown Hb Hbw
          obtain ⟨bx0, bx1, bx2⟩ := blk3 HX1.out
          go_wp2_with fail
          rw [Hwq.out, Hgq.out]
          obtain ⟨cx0, cx1, cx2⟩ := blk3 Hblk2.out
          have dx0 := HBm.out.c0
          have dx1 := HBm.out.c1
          go_wp2_with fail
          go_region_law ((first
            | (refine step_app rfl (.tmp 31) (.tmp 38) _ rfl g3 54 _ 2 32 tyM vT doneM.length (doneM.flatMap mC) (by simp [Act.eval]) HX7.out.net (some ⟨w5.heap.size, 0, none⟩) 1 1 [.int .i64 t, .slice A5 ln5 c5] (by simp [Act.eval]) rfl Hs7.out (by simp [Value.oneCell']) (by simp) (by unfold maxLen; omega) (by omega) Hbs7.out ?_
               intro v8 w8 hown8 hg8
               obtain ⟨A8, d8, rfl, _⟩ := own_slat hown8
               have Ho8 := Lib.hid hown8
               have Hg8 := Lib.hid hg8
               have HB8 := Lib.hid (HB7.out.grown hg8 (own_ne HX7.out.net HB7.out (by decide)))
               have c8 := (blk3 HB8.out).2.2
               have f8 := HB8.out.frozen 2
               clear hown8 hg8)
            | (go_simp
               go_at_call 19
               refine (HCo.out _ (Below.refl _ _).drew).mono ?_
               rintro e w5 ⟨v5, l5, rfl, ho5, he5, hb5⟩
               have hb5' : Below w2.heap.size w2 w5 := (Below.refl w2.heap.size w2).drew.trans hb5
               obtain ⟨A5, c5, rfl, _⟩ := own_slat ho5.row
               obtain ⟨ln5, hln5⟩ : ∃ ln5, ln5 = l5.length := ⟨_, rfl⟩
               rw [← hln5] at ho5 ⊢
               have HL5 := Lib.hid hln5
               have He5 := Lib.hid he5
               have hbA : Below w5.heap.size w5 (w5.alloc (.cells #[.int .i64 t, .slice A5 ln5 c5] 54)) := (Below.refl _ _).alloc (Nat.le_refl _) _
               have HX7 := Lib.hid ((Hown2.out.below hb5').below hbA)
               have HS7 : Hid (OwnFs (w5.alloc (.cells #[.int .i64 t, .slice A5 ln5 c5] 54)) g3 (slv (A5, ln5, c5)) l5) := Lib.hid ((ho5.base_ (show g3 ≤ w2.heap.size from Nat.le_of_lt Hsz2.out)).below hbA)
               have HB7 := Lib.hid ((Hblk2.out.below hb5' Hblk2.out.lt).below hbA (show g3 < w5.heap.size by have := hb5'.size; have := Hsz2.out; omega))
               have Hs7 : Hid (SlAt (w5.alloc (.cells #[.int .i64 t, .slice A5 ln5 c5] 54)) (some ⟨w5.heap.size, 0, none⟩) [.int .i64 t, .slice A5 ln5 c5]) := Lib.hid (SlAt.of_heap (heap_alloc_new _ _) rfl)
               have Hb7 := Lib.hid (Hb2.out.trans ((hb5'.trans (hbA.mono hb5'.size)).mono (show g3 ≤ w2.heap.size from Nat.le_of_lt Hsz2.out)))
               have Hbs7 : Hid (g3 ≤ (w5.alloc (.cells #[.int .i64 t, .slice A5 ln5 c5] 54)).heap.size) := Lib.hid (by have := HB7.out.lt; omega)
               have c5x := cell_below hb5' cx2
               have e5x := cell_below hb5' dx0
               have hz5 : g3 < w5.heap.size := by have := hb5'.size; have := Hsz2.out; omega
               clear hb5 hb5' ho5 he5 hbA hln5)))
          all_goals (
            have Hb8 := Lib.hid (own_below HX7.out.net Hg8.out Hb7.out Hbs7.out)
            have HX8 := Lib.hid (HX7.out.addMsg t HTi.out (A5, ln5, c5) l5 HS7.out Ho8.out Hg8.out Hbs7.out)
            have HX9 := Lib.hid (HX8.out.set_ HB8.out (by decide) (by decide) (by decide) (by decide) (by decide) 2 (.slice A8 (doneM.length + 1) d8))
            have HB9 := Lib.hid (HB8.out.set_ 2 (.slice A8 (doneM.length + 1) d8))
            have Hb9 := Lib.hid (Hb8.out.setCell (show g3 ≤ (⟨g3, 2, none⟩ : Addr).block from Nat.le_refl _) (.slice A8 (doneM.length + 1) d8))
            clear HX7 HS7 HB7 Hs7 Hb7 Hbs7 HX8 HB8 Hb8 Ho8 Hg8
            go_wp2_with fail
            go_roundw
            case rel => exact ⟨j + 1, doneM ++ [(t, (A5, ln5, c5), l5)], _, by omega, by go_num, HB9.out, HX9.out, by rw [List.length_append, Hdl.out]; rfl, by rw [List.map_append, Hdm.out, Hst.out]; exact congrArg (fun u => _ ++ [(⟨t, u⟩ : Ms)]) He5.out, Hb9.out⟩
            case measure => simp [intOf]; omega)
        · obtain rfl : j = q := by omega
          have HNt : Hid (doneM.map msOf = net.map msOf) := Lib.hid (by rw [Hdm.out, List.take_of_length_le (by rw [← Hq.out]; exact Nat.le_refl _)])
          obtain ⟨bx0, bx1, bx2⟩ := blk3 HX1.out
          clear Hdm Hdl
          obtain ⟨wz, hwz⟩ : ∃ wz, wz = wr.alloc (.cells #[] 3) := ⟨_, rfl⟩
          have hbz : Below wr.heap.size wr wz := by rw [hwz]; exact (Below.refl _ _).alloc (Nat.le_refl _) _
          have Hz := Lib.hid (own_zero wz wr.heap.size 3 1 wr.heap.size 0 #[] (Nat.le_refl _) (by rw [hwz]; exact heap_alloc_new wr _) (by unfold maxLen; omega) rfl)
          have HCz := Lib.hid ((HC3.out.below Hbw.out).below hbz)
          have Hbz := Lib.hid hbz
          have Hwz := Lib.hid hwz.symm
          have HCn : Hid (Ac = none → m = 0) := Lib.hid (fun e => by rw [Hm.out, HC4.out e]; rfl)
          have bz1 : (wr.alloc (.cells #[] 3)).cell? ⟨B, 1, none⟩ = some (.slice Ac m cc) := by rw [← hwz]; exact cell_below hbz bx1
          clear hbz hwz
          go_wp2_with (
            at_builtin
            rw [Hwz.out]
            refine wpList_app _ rfl (.tmp 42) (.tmp 44) _ rfl wr.heap.size 3 _ 1 8 tyIn _ 0 [] rfl Hz.out Ac m cc (clock.flatMap intC) rfl (by rw [cCs_len, Hm.out]) HCz.out (ints_one clock) HCn.out (by unfold maxLen; omega) (by omega) Hbz.out.size ?_
            intro v5 w5 hown5 hg5 hl5
            clear hl5
            rw [Nat.zero_add, List.nil_append] at hown5
            have hb5 := own_below Hz.out hg5 Hbz.out Hbz.out.size
            clear hg5
            have HX5 := Lib.hid (Hown.out.below hb5)
            have HB5 := Lib.hid (Hblk.out.below hb5 Hblk.out.lt)
            have HR5 := Lib.hid (HX2.out.below hb5 HX2.out.lt)
            have Hb5 := Lib.hid (Hb.out.trans (hb5.mono (Nat.le_of_lt Hsz.out)))
            have Ho5 := Lib.hid (own_base hown5 (show g3 ≤ wr.heap.size from Nat.le_of_lt Hsz.out))
            obtain ⟨A5, c5, rfl, _⟩ := own_slat hown5
            obtain ⟨AN, cN, rfl⟩ : ∃ A c, vN = .slice A done.length c := by obtain ⟨A, c, h, _⟩ := own_slat HX5.out.nodes; exact ⟨A, c, h⟩
            obtain ⟨AT, cT, rfl⟩ : ∃ A c, vT = .slice A doneM.length c := by obtain ⟨A, c, h, _⟩ := own_slat HX5.out.net; exact ⟨A, c, h⟩
            have HY5 : Hid (OwnW w5 g3 ⟨.slice AN done.length cN, done, .slice A5 m c5, clock, .slice AT doneM.length cT, doneM⟩) := Lib.hid ⟨HX5.out.nodes, HX5.out.node, by rw [← Hm.out]; exact Ho5.out, HC5.out, HX5.out.net, HX5.out.ms⟩
            have HY6 := Lib.hid (HY5.out.set_ HB5.out (by decide) (by decide) (by decide) (by decide) (by decide) 1 (.slice A5 m c5))
            have HR6 := Lib.hid (HR5.out.far (p := ⟨g3, 1, none⟩) (show B + 1 ≠ g3 by have := Hg3.out; omega) (.slice A5 m c5))
            have HY7 := Lib.hid (HY6.out.set_ HR6.out (by decide) (by decide) (by decide) (by decide) (by decide) 0 (.slice AN done.length cN))
            have HR7 := Lib.hid (HR6.out.set_ 0 (.slice AN done.length cN))
            have HY8 := Lib.hid (HY7.out.set_ HR7.out (by decide) (by decide) (by decide) (by decide) (by decide) 1 (.slice A5 m c5))
            have HR8 := Lib.hid (HR7.out.set_ 1 (.slice A5 m c5))
            have HY9 := Lib.hid (HY8.out.set_ HR8.out (by decide) (by decide) (by decide) (by decide) (by decide) 2 (.slice AT doneM.length cT))
            have HR9 := Lib.hid (HR8.out.set_ 2 (.slice AT doneM.length cT))
            have hwB : w.heap.size ≤ B + 1 := by have := HBs.out; omega
            have hwg : w.heap.size ≤ g3 := by have := HBs.out; have := Hg3.out; omega
            have Hb6 := Lib.hid ((((((Hb1.out.trans (Hb5.out.mono hwg)).setCell (show w.heap.size ≤ (⟨g3, 1, none⟩ : Addr).block from hwg) (.slice A5 m c5)).setCell (show w.heap.size ≤ (⟨B + 1, 0, none⟩ : Addr).block from hwB) (.slice AN done.length cN))).setCell (show w.heap.size ≤ (⟨B + 1, 1, none⟩ : Addr).block from hwB) (.slice A5 m c5)).setCell (show w.heap.size ≤ (⟨B + 1, 2, none⟩ : Addr).block from hwB) (.slice AT doneM.length cT))
            obtain ⟨d0, d1, d2⟩ := blk3 HB5.out
            have fz1 := HB5.out.frozen 1
            obtain ⟨r0, r1, r2⟩ := blk3 HR5.out
            have fr0 := HR5.out.frozen 0
            have fr1 := HR5.out.frozen 1
            have fr2 := HR5.out.frozen 2
            have hne : B + 1 ≠ g3 := by have := Hg3.out; omega
            have hne2 : g3 ≠ B + 1 := by omega
            clear hb5 hown5)
          refine bodyPost_ret (results_cell_row rfl _ _ (B + 1) 26 #[.slice AN done.length cN, .slice A5 m c5, .slice AT doneM.length cT] (0, 0) _ rfl HR9.out Tryz.underlying26 rfl (by kernel_rfl)) rfl ?_
          refine ⟨⟨.slice AN done.length cN, done, .slice A5 m c5, clock, .slice AT doneM.length cT, doneM⟩, rfl, HY9.out.base_ hwg, ?_, Hb6.out⟩
          rw [HD.out]
          simp only [Wx.wd]
          rw [HNd.out, HNt.out]
end Go.Proofs.YtdoegpklephelaaGreatDoor.Worlds

/- worlds whose rows are the call's own, while bytes of files may lie where they were before the call. -/
namespace Go.Proofs.YtdoegpklephelaaGreatDoor.Worlds
open Go Go.RowKit Go.Proofs.YtdoegpklephelaaGreatDoor Go.Proofs.YtdoegpklephelaaGreatDoor.Name Go.Proofs.YtdoegpklephelaaGreatDoor.Merge
set_option linter.unusedVariables false

/-- a file whose bytes are the call's own, or were there before -/
structure MixF (w : World) (base low : Nat) (x : Fx) : Prop where
  at_ : FileAt w x
  lie : w.ownsRow base 5 1 (slv x.2) x.1.bytes.length (x.1.bytes.map u8v) ∨ (low ≤ base ∧ (x.1.bytes ≠ [] → ∀ a, x.2.1 = some a → a.block < low))
theorem fileAt_old {w w' : World} {base low : Nat} {x : Fx} (h : FileAt w x) (ho : low ≤ base ∧ (x.1.bytes ≠ [] → ∀ a, x.2.1 = some a → a.block < low)) (hb : Below base w w') : FileAt w' x :=
  ⟨h.len, h.room, h.cap, fun hp => by
    obtain ⟨b, o, e, hc⟩ := h.at_ hp
    have hbb : b < base := Nat.lt_of_lt_of_le (ho.2 (by intro h0; rw [h0] at hp; simp at hp) ⟨b, o, none⟩ e) ho.1
    exact ⟨b, o, e, fun j v hj => by rw [hb.cell (p := ⟨b, o + j, none⟩) hbb]; exact hc j v hj⟩, h.name, h.stamp, h.node⟩
theorem MixF.of_own {w : World} {base low : Nat} {x : Fx} (h : OwnF w base x) : MixF w base low x := ⟨h.at_, .inl h.own⟩
theorem MixF.keeps {w w' : World} {base low : Nat} {T : List TypeId} {x : Fx} (h : MixF w base low x) (hk : Keeps base T w w') (hT : 5 ∉ T) : MixF w' base low x := by
  rcases h.lie with ho | ho
  · exact .of_own ⟨hk.own ho hT, h.at_.name, h.at_.stamp, h.at_.node⟩
  · exact ⟨fileAt_old h.at_ ho hk.below, .inr ho⟩
theorem MixF.below {w w' : World} {base low : Nat} {x : Fx} (h : MixF w base low x) (hb : Below w.heap.size w w') : MixF w' base low x := by
  rcases h.lie with ho | ho
  · exact .of_own ⟨own_keep ho hb, h.at_.name, h.at_.stamp, h.at_.node⟩
  · exact ⟨h.at_.below hb, .inr ho⟩
structure MixFs (w : World) (base low : Nat) (v : Value) (l : List Fx) : Prop where
  row : w.ownsRow base 49 5 v l.length (l.flatMap fC)
  each : ∀ x ∈ l, MixF w base low x
theorem MixFs.of_own {w : World} {base low : Nat} {v : Value} {l : List Fx} (h : OwnFs w base v l) : MixFs w base low v l := ⟨h.row, fun x hx => .of_own (h.each x hx)⟩
theorem MixFs.keeps {w w' : World} {base low : Nat} {T : List TypeId} {v : Value} {l : List Fx} (h : MixFs w base low v l) (hk : Keeps base T w w') (h1 : 49 ∉ T) (h2 : 5 ∉ T) : MixFs w' base low v l :=
  ⟨hk.own h.row h1, fun x hx => (h.each x hx).keeps hk h2⟩
theorem MixFs.below {w w' : World} {base low : Nat} {v : Value} {l : List Fx} (h : MixFs w base low v l) (hb : Below w.heap.size w w') : MixFs w' base low v l := ⟨own_keep h.row hb, fun x hx => (h.each x hx).below hb⟩
theorem MixFs.files {w : World} {base low : Nat} {v : Value} {l : List Fx} (h : MixFs w base low v l) : IsFiles w v l := own_files h.row rfl fun x hx => (h.each x hx).at_
structure MixW (w : World) (base low : Nat) (x : Wx) : Prop where
  nodes : w.ownsRow base 46 1 x.vn x.nodes.length (x.nodes.flatMap nC)
  node : ∀ n ∈ x.nodes, MixFs w base low (slv n.1) n.2
  clock : w.ownsRow base 3 1 x.vc x.clock.length (x.clock.flatMap intC)
  clk : ∀ c ∈ x.clock, wfI c
  net : w.ownsRow base 54 2 x.vt x.net.length (x.net.flatMap mC)
  ms : ∀ m ∈ x.net, wfI m.1 ∧ MixFs w base low (slv m.2.1) m.2.2
theorem MixW.of_own {w : World} {base low : Nat} {x : Wx} (h : OwnW w base x) : MixW w base low x := ⟨h.nodes, fun n hn => .of_own (h.node n hn), h.clock, h.clk, h.net, fun m hm => ⟨(h.ms m hm).1, .of_own (h.ms m hm).2⟩⟩
theorem MixW.isWorld {w : World} {base low : Nat} {x : Wx} (h : MixW w base low x) : IsWorld w x :=
  ⟨own_isL h.nodes rfl fun n hn => (h.node n hn).files, own_isL h.clock rfl h.clk, own_isL h.net rfl fun m hm => ⟨(h.ms m hm).1, (h.ms m hm).2.files⟩⟩
theorem MixW.below {w w' : World} {base low : Nat} {x : Wx} (h : MixW w base low x) (hb : Below w.heap.size w w') : MixW w' base low x :=
  ⟨own_keep h.nodes hb, fun n hn => (h.node n hn).below hb, own_keep h.clock hb, h.clk, own_keep h.net hb, fun m hm => ⟨(h.ms m hm).1, (h.ms m hm).2.below hb⟩⟩
theorem MixW.keeps {w w' : World} {base low : Nat} {T : List TypeId} {x : Wx} (h : MixW w base low x) (hk : Keeps base T w w') (h1 : 49 ∉ T) (h2 : 5 ∉ T) (h3 : 46 ∉ T) (h4 : 3 ∉ T) (h5 : 54 ∉ T) : MixW w' base low x :=
  ⟨hk.own h.nodes h3, fun n hn => (h.node n hn).keeps hk h1 h2, hk.own h.clock h4, h.clk, hk.own h.net h5, fun m hm => ⟨(h.ms m hm).1, (h.ms m hm).2.keeps hk h1 h2⟩⟩
theorem MixW.setNode {w : World} {base low k g n c : Nat} {x : Wx} (h : MixW w base low x) (hv : x.vn = .slice (some ⟨g, 0, none⟩) n c) (hn : x.nodes.length = n) (s : Sl3) (l : List Fx) (hl : MixFs w base low (slv s) l) : MixW (w.setCell ⟨g, k, none⟩ (slv s)) base low { x with nodes := x.nodes.set k (s, l) } := by
  have hown := h.nodes
  rw [hv, hn] at hown
  obtain ⟨hbg, cs, hblk⟩ := own_blk hown
  have hk : Keeps base [46] w (w.setCell ⟨g, k, none⟩ (slv s)) := (Keeps.refl base _ w).setBlk hblk (by simp) hbg k _
  refine ⟨?_, ?_, hk.own h.clock (by decide), h.clk, hk.own h.net (by decide), fun m hm => ⟨(h.ms m hm).1, (h.ms m hm).2.keeps hk (by decide) (by decide)⟩⟩
  · have h1 := (hown.stored k (slv s)).1
    simp only [List.length_set, hn, hv]
    have e : (x.nodes.set k (s, l)).flatMap nC = (x.nodes.flatMap nC).set k (slv s) := by rw [nCs, nCs, List.map_set]
    rw [e]
    exact h1
  · intro a ha
    rcases List.mem_or_eq_of_mem_set ha with ha | rfl
    · exact (h.node a ha).keeps hk (by decide) (by decide)
    · exact hl.keeps hk (by decide) (by decide)
theorem MixW.setClock {w : World} {base low k g n c : Nat} {x : Wx} (h : MixW w base low x) (hv : x.vc = .slice (some ⟨g, 0, none⟩) n c) (hn : x.clock.length = n) (z : Int) (hz : wfI z) : MixW (w.setCell ⟨g, k, none⟩ (.int .i64 z)) base low { x with clock := x.clock.set k z } := by
  have hown := h.clock
  rw [hv, hn] at hown
  obtain ⟨hbg, cs, hblk⟩ := own_blk hown
  have hk : Keeps base [3] w (w.setCell ⟨g, k, none⟩ (.int .i64 z)) := (Keeps.refl base _ w).setBlk hblk (by simp) hbg k _
  refine ⟨hk.own h.nodes (by decide), fun m hm => (h.node m hm).keeps hk (by decide) (by decide), ?_, ?_, hk.own h.net (by decide), fun m hm => ⟨(h.ms m hm).1, (h.ms m hm).2.keeps hk (by decide) (by decide)⟩⟩
  · have h1 := (hown.stored k (.int .i64 z)).1
    simp only [List.length_set, hn, hv]
    have e : (x.clock.set k z).flatMap intC = (x.clock.flatMap intC).set k (.int .i64 z) := by rw [cCs, cCs, List.map_set]
    rw [e]
    exact h1
  · intro a ha
    rcases List.mem_or_eq_of_mem_set ha with ha | rfl
    · exact h.clk a ha
    · exact hz
theorem MixF.lower {w : World} {base low : Nat} {x : Fx} (h : MixF w base low x) (hb : low ≤ base) : MixF w low low x := by
  rcases h.lie with ho | ho
  · exact ⟨h.at_, .inl (own_base ho hb)⟩
  · exact ⟨h.at_, .inr ⟨Nat.le_refl _, ho.2⟩⟩
theorem MixFs.lower {w : World} {base low : Nat} {v : Value} {l : List Fx} (h : MixFs w base low v l) (hb : low ≤ base) : MixFs w low low v l := ⟨own_base h.row hb, fun x hx => (h.each x hx).lower hb⟩
theorem MixW.lower {w : World} {base low : Nat} {x : Wx} (h : MixW w base low x) (hb : low ≤ base) : MixW w low low x :=
  ⟨own_base h.nodes hb, fun n hn => (h.node n hn).lower hb, own_base h.clock hb, h.clk, own_base h.net hb, fun m hm => ⟨(h.ms m hm).1, (h.ms m hm).2.lower hb⟩⟩
/-- types of blocks that may turn while a world stays -/
def T0 : List TypeId := [26, 31, 29]
theorem MixW.stay {w w' : World} {base : Nat} {x : Wx} (h : MixW w base base x) (hk : Keeps base T0 w w') : IsWorld w' x :=
  (h.keeps hk (by decide) (by decide) (by decide) (by decide) (by decide)).isWorld
end Go.Proofs.YtdoegpklephelaaGreatDoor.Worlds

/- a region that draws its order and ends in one operation that waits for all others: a condition on the world is kept till then. No program in sight. -/
namespace Go.Proofs.YtdoegpklephelaaGreatDoor
open Go
set_option linter.unusedVariables false

section
variable {P : Program} {ops : Array Oper} {Q : Exit → Act → World → Prop} {md : Region.Mode} {S : World → Prop} {n : Nat}
/-- number n waits for number i -/
def lastB (md : Region.Mode) (ops : Array Oper) (n i : Nat) : Bool :=
  match ops[n]? with
  | none => false
  | some o => o.after.any fun e => Region.binds md e && e.on == i
/-- whatever order is picked from here on, and S holds behind every operation but the last -/
def wpAnyS (P : Program) (md : Region.Mode) (ops : Array Oper) (Q : Exit → Act → World → Prop) (S : World → Prop) (n : Nat) : Nat → Array Bool → Act → World → Prop
  | 0, listed, a, w => Region.ready md ops listed = [] ∧ Q .normal a w
  | fuel + 1, listed, a, w =>
    (Region.ready md ops listed = [] → Q .normal a w) ∧
    ∀ i ∈ Region.ready md ops listed, wpOp P ops Q i (fun a' w' => (i ≠ n → S w') ∧ wpAnyS P md ops Q S n fuel (listed.setIfInBounds i true) a' w') a w
theorem wpAny_of_S : ∀ (fuel : Nat) (listed : Array Bool) (a : Act) (w : World), wpAnyS P md ops Q S n fuel listed a w → wpAny P md ops Q fuel listed a w
  | 0, _, _, _, h => h
  | fuel + 1, _, _, _, h => ⟨h.1, fun i hi => wpOp_mono (fun a' w' h' => wpAny_of_S fuel _ a' w' h'.2) (h.2 i hi)⟩
theorem wpAnyS_first {i : Nat} {oi : Oper} {v : Value} (hl : lastB md ops n i = true) (hi : ops[i]? = some oi) (hsel : ∀ (j : Nat) (o : Oper) cs b, ops[j]? = some o → o.op ≠ .select cs b)
    (hQ : ∀ c a w, Q (.panic c) (a.put oi.dst v) w → Q (.panic c) a w) :
    ∀ (fuel : Nat) (listed : Array Bool) (a : Act) (w : World),
      (∀ j oj, ops[j]? = some oj → j ≠ i → listed.getD j true = false → (∀ e ∈ oj.after, Region.binds md e = true → e.on ≠ i) → oi.apart ops oj = true) →
      i ∈ Region.ready md ops listed → YieldsIf P ops S oi v a → S w →
      wpAnyS P md ops Q S n fuel (listed.setIfInBounds i true) (a.put oi.dst v) w → wpAnyS P md ops Q S n (fuel + 1) listed a w := by
  intro fuel
  induction fuel with
  | zero =>
    intro listed a w _ hr hy hS H
    refine ⟨fun h => (by rw [h] at hr; cases hr), fun j hj => ?_⟩
    by_cases hji : j = i
    · subst hji; exact hy.wpOp hi hS ⟨fun _ => hS, H⟩
    · have := ready_mono hj hji
      rw [H.1] at this
      cases this
  | succ fuel ih =>
    intro listed a w hfree hr hy hS H
    refine ⟨fun h => (by rw [h] at hr; cases hr), fun j hj => ?_⟩
    by_cases hji : j = i
    · subst hji; exact hy.wpOp hi hS ⟨fun _ => hS, H⟩
    · have h1 := H.2 j (ready_mono hj hji)
      obtain ⟨hjun, oj, hoj, hall⟩ := mem_ready.1 hj
      have hnot : ∀ e ∈ oj.after, Region.binds md e = true → e.on ≠ i := fun e he hb heq => by
        have h1 := hall e he hb
        have h0 := (mem_ready.1 hr).1
        rw [heq] at h1
        rcases Nat.lt_or_ge i listed.size with h' | h'
        · simp [h'] at h0 h1; rw [h0] at h1; cases h1
        · simp [Array.getElem?_eq_none h'] at h1
      have hjn : j ≠ n := fun e => by
        subst e
        unfold lastB at hl
        rw [hoj] at hl
        simp only at hl
        rw [Array.any_eq_true] at hl
        obtain ⟨m, hm, he⟩ := hl
        simp only [Bool.and_eq_true, beq_iff_eq] at he
        exact hnot _ (Array.getElem_mem hm) he.1 he.2
      have h2 := wpOp_putIf hoj (hfree j oj hoj hji hjun hnot) (fun cs b => hsel i oi cs b hi) (fun cs b => hsel j oj cs b hoj) hQ hy h1
      have hfree' : ∀ k ok, ops[k]? = some ok → k ≠ i → (listed.setIfInBounds j true).getD k true = false →
          (∀ e ∈ ok.after, Region.binds md e = true → e.on ≠ i) → oi.apart ops ok = true := fun k ok hk hki hun hno => by
        refine hfree k ok hk hki ?_ hno
        by_cases hjk : j = k
        · subst hjk; exact hjun
        · rw [getD_set_ne true hjk] at hun; exact hun
      refine wpOp_mono (fun a' w' h3 => ⟨h3.2.1, ih (listed.setIfInBounds j true) a' w' hfree' (ready_mono hr (Ne.symm hji)) h3.1 (h3.2.1 hjn) ?_⟩) h2
      rw [Array.setIfInBounds_comm _ _ hji]
      exact h3.2.2
theorem wpAnyS_take {i : Nat} {oi : Oper} {v : Value} {fuel : Nat} {listed : Array Bool} {a : Act} {w : World} (hl : lastB md ops n i = true) (hi : ops[i]? = some oi)
    (hs : Region.noSelect ops = true) (hf : Region.free md ops listed i = true) (hr : (Region.ready md ops listed).contains i = true)
    (hQ : ∀ c a w, Q (.panic c) (a.put oi.dst v) w → Q (.panic c) a w) (hw : Region.wanted oi (yielded ops a.tmps) = true) (hS : S w) (hy : ∀ w, S w → (execOp a.eval oi).run P w = .ok (.value v) w)
    (h : wpAnyS P md ops Q S n fuel (listed.setIfInBounds i true) (a.put oi.dst v) w) : wpAnyS P md ops Q S n (fuel + 1) listed a w :=
  wpAnyS_first hl hi (Region.noSelect_spec hs) hQ fuel listed a w (Region.free_spec hi hf) (by simpa using hr) (.inl ⟨hw, hy⟩) hS h
theorem wpAnyS_only {i : Nat} {o : Oper} {fuel : Nat} {listed : Array Bool} {a : Act} {w : World} (hi : ops[i]? = some o) (hr : Region.ready md ops listed = [i])
    (h : ∀ K' : Act → World → Prop, Shut (∀ a w, S w → (S w → wpAnyS P md ops Q S n fuel (listed.setIfInBounds i true) a w) → K' a w) → if Region.wanted o (yielded ops a.tmps) = true then Oper.wp P o a w K' Q else K' (a.put o.dst undef) w) :
    wpAnyS P md ops Q S n (fuel + 1) listed a w := by
  refine ⟨fun h0 => (by rw [hr] at h0; cases h0), fun j hj => ?_⟩
  rw [hr, List.mem_singleton] at hj
  subst hj
  exact wpOp_step hi (fun K' hK => h K' (fun a w hS hW => hK a w ⟨fun _ => hS, hW hS⟩))
theorem wpAnyS_last {o : Oper} {fuel : Nat} {listed : Array Bool} {a : Act} {w : World} (hi : ops[n]? = some o) (hr : Region.ready md ops listed = [n]) (hd : Region.ready md ops (listed.setIfInBounds n true) = [])
    (h : ∀ K' : Act → World → Prop, Shut (∀ a w, Q .normal a w → K' a w) → if Region.wanted o (yielded ops a.tmps) = true then Oper.wp P o a w K' Q else K' (a.put o.dst undef) w) :
    wpAnyS P md ops Q S n (fuel + 1) listed a w := by
  refine ⟨fun h0 => (by rw [hr] at h0; cases h0), fun j hj => ?_⟩
  rw [hr, List.mem_singleton] at hj
  subst hj
  refine wpOp_step hi (fun K' hK => h K' (fun a w hq => hK a w ⟨fun hh => absurd rfl hh, ?_⟩))
  cases fuel with
  | zero => exact ⟨hd, hq⟩
  | succ f => exact ⟨fun _ => hq, by rw [hd]; simp⟩
theorem wp_region_S (S : World → Prop) (n : Nat) {id : Nat} {a : Act} {w : World} (hm : P.follows .mixedOrders = true)
    (h : wpAnyS P .any ops Q S n ops.size (Array.replicate ops.size false) a w.drew) : (Code.region id ops true).wp P Q a w :=
  wp_region_any hm (wpAny_of_S _ _ _ _ h)
end
end Go.Proofs.YtdoegpklephelaaGreatDoor
