/- reliquarylaw.WorldSettle: the walk. -/
import Derived.Test.YtdoegpklephelaaGreatDoorWorldSettle0
import Derived.Test.YtdoegpklephelaaGreatDoorRefMix
namespace Go.Proofs.YtdoegpklephelaaGreatDoor.WorldSettle
open Go Go.RowKit Go.Proofs.YtdoegpklephelaaGreatDoor Go.Proofs.YtdoegpklephelaaGreatDoor.Name Go.Proofs.YtdoegpklephelaaGreatDoor.Merge Go.Proofs.YtdoegpklephelaaGreatDoor.Worlds
set_option linter.unusedVariables false

theorem allR_fold : ∀ (ls : List (List Fl)) (a : List Fl), (∀ k, 1 ≤ k → k ≤ ls.length → ((ls.take k).foldl bothL a).length ≤ 12) → allR ls a = (0, ls.foldl bothL a)
  | [], a, _ => rfl
  | l :: ls, a, h => by
    have h1 := h 1 (Nat.le_refl _) (by simp)
    simp only [List.take_succ_cons, List.take_zero, List.foldl_cons, List.foldl_nil] at h1
    rw [allR_2 ls (by omega), List.foldl_cons]
    exact allR_fold ls (bothL a l) fun k h1 hk => by
      have := h (k + 1) (by omega) (by simp only [List.length_cons]; omega)
      simpa using this
theorem allR_over : ∀ (ls : List (List Fl)) (a : List Fl) (k : Nat), 1 ≤ k → k ≤ ls.length → 12 < ((ls.take k).foldl bothL a).length → allR ls a = (11, [])
  | [], a, k, h1, hk, _ => by simp at hk; omega
  | l :: ls, a, k, h1, hk, h => by
    by_cases h12 : 12 < (bothL a l).length
    · exact allR_1 ls h12
    · rw [allR_2 ls h12]
      obtain ⟨k, rfl⟩ : ∃ k', k = k' + 1 := ⟨k - 1, by omega⟩
      simp only [List.take_succ_cons, List.foldl_cons] at h
      rcases Nat.eq_zero_or_pos k with h0 | h0
      · subst h0
        simp at h
        omega
      · exact allR_over ls (bothL a l) k h0 (by simp only [List.length_cons] at hk; omega) h
theorem max_stamp (c : Int) (a : List Fl) (hc : 0 ≤ c) : maxStamp c a = max c (maxStamp 0 a) := by
  have h1 := maxStamp_le c a
  have h2 := maxStamp_le 0 a
  have h3 := maxStamp_lub c a (max c (maxStamp 0 a)) (by omega) (fun f hf => by have := h2.2 f hf; omega)
  have h4 := maxStamp_lub 0 a (maxStamp c a) (by omega) h1.2
  omega
/-- what the loop over the nodes knows -/
def Inv (ck : Int) (ns : List (List Fl)) (k : Nat) (b : Int) : Prop :=
  (ck ≠ 0 ∧ b = ck) ∨ (ck = 0 ∧ ((b = 0 ∧ ∀ j, 1 ≤ j → j ≤ k → (allB (ns.take j)).length ≤ 12) ∨ (b = 11 ∧ ∃ j, 1 ≤ j ∧ j ≤ k ∧ 12 < (allB (ns.take j)).length)))
theorem inv_step {ck : Int} {ns : List (List Fl)} {k : Nat} (h : Inv ck ns k 0) (h2 : (allB (ns.take (k + 1))).length ≤ 12) : Inv ck ns (k + 1) 0 := by
  rcases h with ⟨h1, h3⟩ | ⟨h1, ⟨_, h3⟩ | ⟨h3, _⟩⟩
  · exact absurd h3.symm h1
  · refine .inr ⟨h1, .inl ⟨rfl, fun j hj hk => ?_⟩⟩
    rcases Nat.lt_or_ge k j with h | h
    · obtain rfl : j = k + 1 := by omega
      exact h2
    · exact h3 j hj h
  · cases h3
theorem inv_over {ck : Int} {ns : List (List Fl)} {k : Nat} (h : Inv ck ns k 0) (h2 : 12 < (allB (ns.take (k + 1))).length) : Inv ck ns (k + 1) 11 := by
  rcases h with ⟨h1, h3⟩ | ⟨h1, _⟩
  · exact absurd h3.symm h1
  · exact .inr ⟨h1, .inr ⟨rfl, k + 1, by omega, by omega, h2⟩⟩
theorem inv_keep {ck b : Int} {ns : List (List Fl)} {k : Nat} (h : Inv ck ns k b) (h2 : b ≠ 0) : Inv ck ns (k + 1) b := by
  rcases h with h1 | ⟨h1, ⟨h3, _⟩ | ⟨h3, j, h4, h5, h6⟩⟩
  · exact .inl h1
  · exact absurd h3 h2
  · exact .inr ⟨h1, .inr ⟨h3, j, h4, by omega, h6⟩⟩
theorem inv_zero {ck : Int} {ns : List (List Fl)} {k : Nat} (h : Inv ck ns k 0) : ck = 0 := by
  rcases h with ⟨h1, h3⟩ | ⟨h1, _⟩
  · exact absurd h3.symm h1
  · exact h1
theorem inv_bad {d : Wd} {b : Int} (h : Inv (chkW d) d.nodes d.nodes.length b) (hb : b ≠ 0) : settleR d = (b, .none_) := by
  rcases h with ⟨h1, rfl⟩ | ⟨h1, ⟨rfl, _⟩ | ⟨rfl, j, h2, h3, h4⟩⟩
  · exact settleR_1 h1
  · exact absurd rfl hb
  · exact settleR_2 h1 (allR_over d.nodes [] j h2 h3 h4) (by simp)
theorem inv_ok {d : Wd} (h : Inv (chkW d) d.nodes d.nodes.length 0) : WOk d ∧ settleR d = (0, ⟨d.nodes.map fun _ => allB d.nodes, d.clock.map fun c => maxStamp c (allB d.nodes), []⟩) := by
  rcases h with ⟨h1, h2⟩ | ⟨h1, ⟨_, h2⟩ | ⟨h2, _⟩⟩
  · exact absurd h2.symm h1
  · exact ⟨chkW_ok.1 h1, settleR_3 h1 (allR_fold d.nodes [] h2)⟩
  · cases h2
theorem isW_agg {w : World} {y : Wx} (h : IsWorld w y) : ∃ A1 c1 A2 c2 A3 c3, wV y = .agg #[.slice A1 y.nodes.length c1, .slice A2 y.clock.length c2, .slice A3 y.net.length c3] ∧ y.vn = .slice A1 y.nodes.length c1 ∧ y.vc = .slice A2 y.clock.length c2 ∧ y.vt = .slice A3 y.net.length c3 := by
  obtain ⟨⟨A1, c1, h1, _⟩, ⟨A2, c2, h2, _⟩, ⟨A3, c3, h3, _⟩⟩ := h
  exact ⟨A1, c1, A2, c2, A3, c3, by unfold wV; rw [h1, h2, h3], h1, h2, h3⟩
theorem wx0_is (w : World) : IsWorld w wx0 := (OwnW.none_ w 0).isWorld
theorem tot_le (xs : List Nx) (h : ∀ n ∈ xs, n.2.length ≤ 1048576) : totN xs ≤ xs.length * 1048576 := by
  unfold totN
  induction xs with
  | nil => simp
  | cons x xs ih =>
    have h1 := h x (by simp)
    have h2 := ih (fun n hn => h n (by simp [hn]))
    simp only [List.map_cons, List.sum_cons, List.length_cons]
    omega
theorem take_isL {w : World} {A : Option Addr} {n c k : Nat} {xs : List Nx} (h : IsL w nC (NodeAt w) (.slice A n c) xs) (hk : k ≤ xs.length) : IsL w nC (NodeAt w) (.slice A k c) (xs.take k) := by
  obtain ⟨A', c', e, h1, h2, h3, h4, h5⟩ := h
  injection e with e1 e2 e3
  subst e1 e3
  refine ⟨A, c, by rw [List.length_take, Nat.min_eq_left hk], by rw [List.length_take]; omega, h2, fun hp => ?_, fun e => by rw [h4 e]; simp, fun a ha => h5 a (List.mem_of_mem_take ha)⟩
  have e : xs.flatMap nC = (xs.take k).flatMap nC ++ (xs.drop k).flatMap nC := by rw [← List.flatMap_append, List.take_append_drop]
  obtain ⟨b, o, ea, hc⟩ := h3 (by rw [e, List.length_append]; omega)
  exact ⟨b, o, ea, fun j v hj => hc j v (by rw [e, List.getElem?_append_left (List.getElem?_eq_some_iff.1 hj).1]; exact hj)⟩
theorem clock_cell {w : World} {A : Option Addr} {l : List Int} (h : SlAt w A (l.flatMap intC)) {k : Nat} (hk : k < l.length) : ∃ b o, A = some ⟨b, o, none⟩ ∧ w.cell? ⟨b, o + k, none⟩ = some (.int .i64 l[k]) := by
  have hl : l.flatMap intC = l.map fun x => Value.int .i64 x := cCs l
  rw [hl] at h
  obtain ⟨b, o, e, hc⟩ := h (by rw [List.length_map]; omega)
  exact ⟨b, o, e, hc k _ (by rw [List.getElem?_map, List.getElem?_eq_getElem hk]; rfl)⟩
set_option maxRecDepth 100000 in
set_option maxHeartbeats 8000000 in
theorem walk0 (W : World) (hml : ML W) (x : Wx) (hx : IsWorld W x) (hbn : x.nodes.length ≤ 1048576) (hbl : ∀ n ∈ x.nodes, n.2.length ≤ 1048576) :
    Calls Tryz.prog 5 #[wV x] W fun e W' => e = .returned (.bool true) ∧ Below W.heap.size W W' := by
  obtain ⟨An, cn, Ac, cc, At, ct, hVx, hvn, hvc, hvt⟩ := isW_agg hx
  have HX := Lib.hid hx
  have HVx := Lib.hid hVx
  have HT : Hid (∀ w, Below W.heap.size W w → Calls _ _ _ w _) := Lib.hid (fun w hb => told_any w (hml.below hb))
  have HRc : Hid (∀ w, Below W.heap.size W w → Calls _ _ _ w _) := Lib.hid (fun w hb => refCheckW x w (hml.below hb) (hx.below hb))
  have HSe : Hid (∀ w, Below W.heap.size W w → Calls _ _ _ w _) := Lib.hid (fun w hb => settle_any x w (hml.below hb) (hx.below hb))
  have hnL : ∀ w, Below W.heap.size W w → IsL w nC (NodeAt w) (.slice An x.nodes.length cn) x.nodes := fun w hb => by have := (hx.below hb).nodes; rwa [hvn] at this
  have HTo := Lib.hid (fun (k : Nat) (hk : k ≤ x.nodes.length) w (hb : Below W.heap.size W w) => together_any (.slice An k cn) (x.nodes.take k) w (take_isL (hnL w hb) hk) (by
    have h1 := tot_le (x.nodes.take k) (fun n hn => hbl n (List.mem_of_mem_take hn))
    rw [List.length_take] at h1
    have h2 : min k x.nodes.length * 1048576 ≤ 1048576 * 1048576 := Nat.mul_le_mul_right _ (by omega)
    omega))
  rw [hVx] at HRc HSe ⊢
  obtain ⟨ck, hck⟩ : ∃ ck, ck = chkW x.wd := ⟨_, rfl⟩
  rw [← hck] at HRc
  have Hck := Lib.hid hck
  obtain ⟨n, hn⟩ : ∃ n, n = x.nodes.length := ⟨_, rfl⟩
  obtain ⟨cl, hcl⟩ : ∃ cl, cl = x.clock.length := ⟨_, rfl⟩
  obtain ⟨tl, htl⟩ : ∃ tl, tl = x.net.length := ⟨_, rfl⟩
  have Hn := Lib.hid hn
  have Hcl := Lib.hid hcl
  have hcap : n ≤ cn := by obtain ⟨A', c', e, h1, _⟩ := hnL W (Below.refl _ _); injection e with _ _ e3; subst e3; omega
  rw [← hn] at HTo hbn
  rw [← hn, ← hcl, ← htl] at HVx HRc HSe ⊢
  have HVc : Hid (x.vc = .slice Ac cl cc) := Lib.hid (by rw [hvc, hcl])
  obtain ⟨rS, hrS⟩ : ∃ rS, rS = settleR x.wd := ⟨_, rfl⟩
  rw [← hrS] at HSe
  have HrS := Lib.hid hrS
  obtain ⟨g1, hg1⟩ : ∃ g1, g1 = W.heap.size := ⟨_, rfl⟩
  obtain ⟨w1, hw1⟩ : ∃ w1, w1 = W.alloc (.cells #[.slice An n cn, .slice Ac cl cc, .slice At tl ct] 26) := ⟨_, rfl⟩
  have hb1 : Below W.heap.size W w1 := by rw [hw1]; exact (Below.refl _ _).alloc (Nat.le_refl _) _
  have HB1 := Lib.hid (show Blk w1 g1 26 #[.slice An n cn, .slice Ac cl cc, .slice At tl ct] by rw [hw1, hg1]; exact Blk.new _ _ _)
  have Hb1 := Lib.hid hb1
  have Hw1 := Lib.hid hw1.symm
  have Hg1 := Lib.hid hg1.symm
  have hn63 : n ≤ 9223372036854775807 := by omega
  obtain ⟨x0, x1, x2⟩ := blk3 HB1.out
  clear hVx hvn hvc hvt hx hml hnL hck hn hcl htl hrS hg1 hw1 hb1 hbl
  go_enter Tryz.func5, Tryz.ntmps5
  go_wp2_with fail
  rw [Hw1.out, Hg1.out]
  refine (HSe.out _ Hb1.out).mono ?_
  rintro e w2 ⟨z, rfl, hz, hzd, hb2⟩
  obtain ⟨Zn, zn, Zc, zc, Zt, zt, hVz, hzn, hzc, hzt⟩ := isW_agg hz.isWorld
  have HVz := Lib.hid hVz
  have HZn := Lib.hid hzn
  have HZc := Lib.hid hzc
  rw [hVz]
  obtain ⟨ln, hln⟩ : ∃ ln, ln = z.nodes.length := ⟨_, rfl⟩
  obtain ⟨lc, hlc⟩ : ∃ lc, lc = z.clock.length := ⟨_, rfl⟩
  obtain ⟨lt, hlt⟩ : ∃ lt, lt = z.net.length := ⟨_, rfl⟩
  rw [← hln] at HVz HZn ⊢
  rw [← hlc] at HVz HZc ⊢
  rw [← hlt] at HVz ⊢
  have Hln := Lib.hid hln
  have Hlc := Lib.hid hlc
  have Hlt := Lib.hid hlt
  obtain ⟨r1, hr1⟩ : ∃ r1, r1 = rS.1 := ⟨_, rfl⟩
  rw [← hr1]
  have Hr1 := Lib.hid hr1
  have Hzd := Lib.hid hzd
  obtain ⟨w3, hw3⟩ : ∃ w3, w3 = w2.alloc (.cells #[.slice Zn ln zn, .slice Zc lc zc, .slice Zt lt zt] 26) := ⟨_, rfl⟩
  obtain ⟨g3, hg3⟩ : ∃ g3, g3 = w2.heap.size := ⟨_, rfl⟩
  have hb3 : Below w2.heap.size w2 w3 := by rw [hw3]; exact (Below.refl _ _).alloc (Nat.le_refl _) _
  have HG3 := Lib.hid (show Blk w3 g3 26 #[.slice Zn ln zn, .slice Zc lc zc, .slice Zt lt zt] by rw [hw3, hg3]; exact Blk.new _ _ _)
  have HZ3 := Lib.hid (hz.below hb3)
  have HB3 := Lib.hid (HB1.out.below (hb2.trans (hb3.mono hb2.size)) HB1.out.lt)
  have Hb3 := Lib.hid (Hb1.out.trans ((hb2.trans (hb3.mono hb2.size)).mono Hb1.out.size))
  have Hw3 := Lib.hid hw3.symm
  have Hg3 := Lib.hid hg3.symm
  have HB2 := Lib.hid (HB1.out.below hb2 HB1.out.lt)
  clear x0 x1 x2 hz hzd hb2 hVz hzn hzc hzt hln hlc hlt hr1 hw3 hg3 hb3 Hw1 Hg1 HB1
  obtain ⟨x0, x1, x2⟩ := blk3 HB2.out
  have hlt2 := HB2.out.lt
  (try dsimp only)
  go_wp2_with fail
  rw [Hw3.out, Hg3.out]
  refine (HRc.out _ Hb3.out).mono ?_
  rintro e w4 ⟨rfl, hb4⟩
  have HB4 := Lib.hid (HB3.out.below hb4 HB3.out.lt)
  have HG4 := Lib.hid (HG3.out.below hb4 HG3.out.lt)
  have HZ4 := Lib.hid (HZ3.out.below hb4)
  have Hb4 := Lib.hid (Hb3.out.trans (hb4.mono Hb3.out.size))
  have HTa := Lib.hid (HTo.out n (Nat.le_refl _) w4 Hb4.out)
  rw [show x.nodes.take n = x.nodes from List.take_of_length_le (by rw [Hn.out]; exact Nat.le_refl _)] at HTa
  clear x0 x1 x2 hlt2 hb4 Hw3 Hg3 HB2 HB3 HG3 HZ3 HRc HSe Hb3
  obtain ⟨x0, _, _⟩ := blk3 HB4.out
  go_wp2_with fail
  refine (HTa.out).mono ?_
  rintro e w5 ⟨va, la, rfl, hoa, hma, hsa, hb5⟩
  obtain ⟨Aa, ca, rfl, _⟩ := own_slat hoa
  obtain ⟨na, hna⟩ : ∃ na, na = la.length := ⟨_, rfl⟩
  rw [← hna] at hoa ⊢
  have HLa : Hid (∀ w, Below W.heap.size W w → ∀ f ∈ la, FileAt w f) := Lib.hid (fun w hb f hf => by
    obtain ⟨nd, h1, h2⟩ := hma f hf
    obtain ⟨_, _, _, _, _, _, _, hd⟩ := (HX.out.below hb).nodes
    obtain ⟨_, _, _, _, _, _, _, hd2⟩ := hd nd h1
    exact hd2 f h2)
  have Hna := Lib.hid hna
  have Hoa := Lib.hid hoa
  have hna63 : na ≤ 9223372036854775807 := by
    obtain ⟨_, _, e, h1, h2, _⟩ := own_slat hoa
    unfold maxLen at h2
    omega
  have Hsa := Lib.hid hsa
  have HB5 := Lib.hid (HB4.out.below hb5 HB4.out.lt)
  have HG5 := Lib.hid (HG4.out.below hb5 HG4.out.lt)
  have HZ5 := Lib.hid (HZ4.out.below hb5)
  have Hb5 := Lib.hid (Hb4.out.trans (hb5.mono Hb4.out.size))
  clear x0 hna hoa hma hsa hb5 HB4 HG4 HZ4 Hb4 HTa
  obtain ⟨x0, x1, _⟩ := blk3 HB5.out
  go_wp2_with fail
  go_loopw [5, 26] (fun p5 vi wr => ∃ (k : Nat) (b : Int), k ≤ n ∧ vi = .int .i64 (k : Int) ∧ p5 = .int .i64 b ∧ Inv ck x.wd.nodes k b ∧ Below w5.heap.size w5 wr) (fun _ vi _ => n - (intOf vi).toNat)
  case atStart => exact ⟨0, ck, Nat.zero_le _, rfl, rfl, (by
    by_cases h : ck = 0
    · exact .inr ⟨h, .inl ⟨h, fun j h1 h2 => by omega⟩⟩
    · exact .inl ⟨h, rfl⟩), Below.refl _ _⟩
  case round =>
    obtain ⟨k, b, hk, rfl, rfl, hinv, hb⟩ := hrel
    have Hinv := Lib.hid hinv
    have Hbw := Lib.hid hb
    have Hbr := Lib.hid (Hb5.out.trans (hb.mono Hb5.out.size))
    have HBr := Lib.hid (HB5.out.below hb HB5.out.lt)
    clear hinv hb x0 x1
    obtain ⟨v0, v1, v2⟩ := blk3 HBr.out
    by_cases hlt : k < n
    · by_cases h0 : b = 0
      · subst h0
        have hwr : IntKind.i64.wrap ((k : Int) + 1) = (k : Int) + 1 := IntWalk.i64_in _ (by omega)
        have hk1 : (0 : Int) ≤ (k : Int) + 1 := by omega
        have hk2 : (k : Int) + 1 ≤ (cn : Int) := by omega
        have HTk := Lib.hid (HTo.out (k + 1) (by omega) wr Hbr.out)
        have HW : Hid (WOk x.wd) := Lib.hid (chkW_ok.1 (by rw [← Hck.out]; exact inv_zero Hinv.out))
        go_wp2_with fail
        refine (HTk.out).mono ?_
        rintro e w6 ⟨v6, l6, rfl, ho6, _, hs6, hb6⟩
        obtain ⟨A6, c6, rfl, _⟩ := own_slat ho6
        obtain ⟨n6, hn6⟩ : ∃ n6, n6 = l6.length := ⟨_, rfl⟩
        have hle : n6 = (allB (x.wd.nodes.take (k + 1))).length := by
          have h1 := hs6 (fun nd hnd => srt_of (nodes_small HW.out nd (List.mem_of_mem_take hnd)))
          rw [hn6, show x.wd.nodes.take (k + 1) = (x.nodes.take (k + 1)).map fun y => flOf y.2 by simp only [Wx.wd, List.map_take], ← h1, List.length_map]
        rw [← hn6]
        have Hle := Lib.hid hle
        have Hb6 := Lib.hid (Hbw.out.trans (hb6.mono Hbw.out.size))
        clear hs6 ho6 hn6 hle hb6 hwr hk1 hk2 HTk v0 v1 v2
        by_cases h12 : 12 < n6
        · have h12' : (12 : Int) < (n6 : Int) := by omega
          go_wp2_with fail
          go_roundw
          case rel => exact ⟨k + 1, 11, by omega, by go_num, rfl, inv_over Hinv.out (by rw [← Hle.out]; exact h12), Hb6.out⟩
          case measure => simp [intOf]; omega
        · have h12' : ¬ (12 : Int) < (n6 : Int) := by omega
          go_wp2_with fail
          go_roundw
          case rel => exact ⟨k + 1, 0, by omega, by go_num, rfl, inv_step Hinv.out (by rw [← Hle.out]; omega), Hb6.out⟩
          case measure => simp [intOf]; omega
      · have hb1 : (b == 0) = false := by simpa using h0
        go_wp2_with fail
        go_roundw
        case rel => exact ⟨k + 1, b, by omega, by go_num, rfl, inv_keep Hinv.out h0, Hbw.out⟩
        case measure => simp [intOf]; omega
    · obtain rfl : k = n := by omega
      have HInv : Hid (Inv (chkW x.wd) x.wd.nodes x.wd.nodes.length b) := Lib.hid (by rw [← Hck.out, show x.wd.nodes.length = k by rw [Hn.out]; simp [Wx.wd]]; exact Hinv.out)
      have HGr := Lib.hid (HG5.out.below Hbw.out HG5.out.lt)
      have HZr := Lib.hid (HZ5.out.below Hbw.out)
      have Hor := Lib.hid (own_keep Hoa.out Hbw.out)
      clear HB5 HG5 HZ5 Hoa Hbw HTo Hinv Hb5 v0 v1 v2
      by_cases h0 : b = 0
      · subst h0
        obtain ⟨hok, hS⟩ := inv_ok HInv.out
        obtain ⟨D, hD⟩ : ∃ D, D = allB x.wd.nodes := ⟨_, rfl⟩
        rw [← hD] at hS
        have hr0 : r1 = 0 := by rw [Hr1.out, HrS.out, hS]
        subst hr0
        have hzw : z.wd = ⟨x.wd.nodes.map fun _ => D, x.wd.clock.map fun c => maxStamp c D, []⟩ := by rw [Hzd.out, HrS.out, hS]
        have hz1 : z.nodes.map (fun nd => flOf nd.2) = x.wd.nodes.map fun _ => D := congrArg Wd.nodes hzw
        have hz2 : z.clock = x.clock.map fun c => maxStamp c D := congrArg Wd.clock hzw
        have hz3 : z.net.map msOf = [] := congrArg Wd.net hzw
        have el1 : ln = k := by rw [Hln.out, Hn.out]; have := congrArg List.length hz1; simpa [Wx.wd] using this
        have el2 : lc = cl := by rw [Hlc.out, hz2, List.length_map, Hcl.out]
        have el3 : lt = 0 := by rw [Hlt.out]; have := congrArg List.length hz3; simpa using this
        subst el1 el2 el3
        have hlD : la.map Prod.fst = D := by rw [Hsa.out (fun nd hnd => srt_of (nodes_small hok nd hnd)), hD]; rfl
        have HlD := Lib.hid hlD
        have Hz1 := Lib.hid hz1
        have Hz2 := Lib.hid hz2
        have HOk := Lib.hid hok
        have hcln : lc = ln := by have := hok.clock; rw [Hcl.out, Hn.out]; simpa [Wx.wd] using this
        have HcLn := Lib.hid hcln
        clear hok hS hD hzw hz1 hz2 hz3 hlD HInv hcln
        go_wp2_with fail
        refine (HT.out _ Hbr.out).mono ?_
        rintro e w6 ⟨rfl, hb6⟩
        have Hb6 := Lib.hid (Hbr.out.trans (hb6.mono Hbr.out.size))
        have HB6 := Lib.hid (HBr.out.below hb6 HBr.out.lt)
        have HG6 := Lib.hid (HGr.out.below hb6 HGr.out.lt)
        have HZ6 := Lib.hid (HZr.out.below hb6)
        have Ho6 := Lib.hid (own_keep Hor.out hb6)
        clear hb6 HBr HGr HZr Hor Hbr
        go_wp2_with fail
        go_loopw [8, 61] (fun p8 vi wr => ∃ j : Nat, j ≤ na ∧ vi = .int .i64 (j : Int) ∧ p8 = .int .i64 (maxStamp 0 (flOf (la.take j))) ∧ Below w6.heap.size w6 wr) (fun _ vi _ => na - (intOf vi).toNat)
        case atStart => exact ⟨0, Nat.zero_le _, rfl, rfl, Below.refl _ _⟩
        case round =>
          obtain ⟨j, hj, rfl, rfl, hb⟩ := hrel
          have Hbw := Lib.hid hb
          clear hb
          by_cases hlt : j < na
          · have hjl : j < la.length := by rw [← Hna.out]; exact hlt
            obtain ⟨b, o, rfl, ca0, ca1, ca2, ca3, ca4⟩ := files_cells (by obtain ⟨A', c', e, _, _, h, _⟩ := own_slat (own_keep Ho6.out Hbw.out); injection e with e1; subst e1; exact h) hjl
            have HTs : Hid (maxStamp 0 (flOf (la.take (j + 1))) = max (maxStamp 0 (flOf (la.take j))) la[j].1.stamp) := Lib.hid (by
              rw [take_snoc _ _ hjl]; unfold flOf; rw [List.map_append]; exact maxStamp_snoc' _ _ _)
            generalize la[j] = fx at *
            obtain ⟨⟨n1, b1, s1, d1, g1'⟩, A3, l3, c3⟩ := fx
            simp only [slv] at ca0 ca1 ca2 ca3 ca4
            dsimp only at HTs
            obtain ⟨cur, hcur⟩ : ∃ cur, cur = maxStamp 0 (flOf (la.take j)) := ⟨_, rfl⟩
            rw [← hcur] at HTs ⊢
            have hmax := fun (ts : Array TypeId) (ty : TypeId) (W : World) => run_max2 (P := Tryz.prog) ts ty cur s1 W
            have Hba := Lib.hid (Hbw.out.trans (((Below.refl wr.heap.size wr).alloc (Nat.le_refl _) (.cells #[.string (strB n1), .slice A3 l3 c3, .int .i64 s1, .int .i64 d1, .bool g1'] 49)).mono Hbw.out.size))
            clear hcur
            go_wp2_with fail
            go_roundw
            case rel => exact ⟨j + 1, by omega, by go_num, by rw [HTs.out], Hba.out⟩
            case measure => simp [intOf]; omega
          · obtain rfl : j = na := by omega
            have hall : la.take j = la := List.take_of_length_le (by rw [← Hna.out]; exact Nat.le_refl _)
            rw [hall]
            obtain ⟨ls, hls⟩ : ∃ ls, ls = maxStamp 0 (flOf la) := ⟨_, rfl⟩
            rw [← hls]
            have Hls : Hid (ls = maxStamp 0 D) := Lib.hid (by rw [hls]; unfold flOf; rw [HlD.out])
            have HB7 := Lib.hid (HB6.out.below Hbw.out HB6.out.lt)
            have HG7 := Lib.hid (HG6.out.below Hbw.out HG6.out.lt)
            have HZ7 := Lib.hid (HZ6.out.below Hbw.out)
            have Ho7 := Lib.hid (own_keep Ho6.out Hbw.out)
            have Hb7 := Lib.hid (Hb6.out.trans (Hbw.out.mono Hb6.out.size))
            obtain ⟨x0, x1, _⟩ := blk3 HB7.out
            obtain ⟨z0, z1, z2⟩ := blk3 HG7.out
            clear hall hls HB6 HG6 HZ6 Ho6 Hbw Hb6
            obtain ⟨w7, rfl⟩ : ∃ w7, w7 = wr := ⟨_, rfl⟩
            go_wp2_with fail
            go_loopw [99] (fun vi wr => ∃ i : Nat, i ≤ ln ∧ vi = .int .i64 (i : Int) ∧ Below w7.heap.size w7 wr) (fun vi _ => ln - (intOf vi).toNat)
            case atStart => exact ⟨0, Nat.zero_le _, rfl, Below.refl _ _⟩
            case round =>
              obtain ⟨i, hi, rfl, hb⟩ := hrel
              have Hbw := Lib.hid hb
              clear hb x0 x1 z0 z1 z2
              by_cases hlt : i < ln
              · have hiz : i < z.nodes.length := by rw [← Hln.out]; exact hlt
                have hic : i < z.clock.length := by have := HcLn.out; rw [← Hlc.out]; omega
                have hix : i < x.clock.length := by have := HcLn.out; rw [← Hcl.out]; omega
                have hNL : IsL wr nC (NodeAt wr) (.slice Zn ln zn) z.nodes := by have := (HZ7.out.below Hbw.out).isWorld.nodes; rwa [HZn.out] at this
                have hCL : IsL wr intC wfI (.slice Zc lc zc) z.clock := by have := (HZ7.out.below Hbw.out).isWorld.clock; rwa [HZc.out] at this
                have hXL : IsL wr intC wfI (.slice Ac lc cc) x.clock := by have := (HX.out.below (Hb7.out.trans (Hbw.out.mono Hb7.out.size))).clock; rwa [HVc.out] at this
                obtain ⟨A1', c1', e1, _, _, s1, _, s2⟩ := hNL
                injection e1 with e11 e12 e13
                subst e11 e13
                obtain ⟨A2', c2', e2, _, _, t1, _, _⟩ := hCL
                injection e2 with e21 e22 e23
                subst e21 e23
                obtain ⟨A3', c3', e3, _, _, u1, _, _⟩ := hXL
                injection e3 with e31 e32 e33
                subst e31 e33
                obtain ⟨bz, oz, rfl, nc⟩ := node_cell s1 hiz
                obtain ⟨bc, oc, rfl, hcc⟩ := clock_cell t1 hic
                obtain ⟨bx, ox, rfl, hcx⟩ := clock_cell u1 hix
                have hcv : z.clock[i] = max x.clock[i] ls := by
                  have h0 : 0 ≤ x.clock[i] := by
                    have hn2 : i < x.nodes.length := by rw [← Hn.out]; exact hlt
                    have := HOk.out.node i (flOf x.nodes[i].2) x.clock[i] (by simp [Wx.wd, hn2]) (by simp [Wx.wd, hix])
                    exact this.2.1
                  simp only [Hz2.out, List.getElem_map]
                  rw [max_stamp _ _ h0, ← Hls.out]
                rw [hcv] at hcc
                obtain ⟨cx, hcx2⟩ : ∃ cx, cx = x.clock[i] := ⟨_, rfl⟩
                rw [← hcx2] at hcc hcx
                have hfz : flOf z.nodes[i].2 = D := by
                  have h1 : (z.nodes.map (fun nd => flOf nd.2))[i]? = (x.wd.nodes.map fun _ => D)[i]? := by rw [Hz1.out]
                  rw [List.getElem?_map, List.getElem?_eq_getElem hiz, List.getElem?_map] at h1
                  have hn2 : i < x.wd.nodes.length := by simp only [Wx.wd, List.length_map]; rw [← Hn.out]; exact hlt
                  rw [List.getElem?_eq_getElem hn2] at h1
                  simpa using h1
                have HND := Lib.hid (s2 z.nodes[i] (List.getElem_mem hiz))
                have HFz := Lib.hid hfz
                generalize z.nodes[i] = nd at *
                obtain ⟨⟨A', n', c'⟩, fl⟩ := nd
                unfold NodeAt at HND
                simp only [slv] at nc HND
                have HSF := Lib.hid (fun p : BelowBy wr => by
                  have h1 := sameFiles_any (.slice A' n' c') (.slice Aa j ca) fl la p.w (IsFiles.below HND.out p.h) (by
                    obtain ⟨A8, c8, e8, i1, i2, i3, i4⟩ := own_slat (own_keep (own_keep Ho7.out Hbw.out) p.h)
                    injection e8 with e81 e82 e83
                    subst e81 e83
                    exact ⟨Aa, ca, by rw [Hna.out], by rw [← Hna.out]; exact i1, i2, i3, fun e => List.eq_nil_of_length_eq_zero (by rw [← Hna.out]; exact i4 e), HLa.out p.w ((Hb7.out.trans (Hbw.out.mono Hb7.out.size)).trans (p.h.mono (Hb7.out.trans (Hbw.out.mono Hb7.out.size)).size))⟩)
                  rw [show sameFs fl la = true from (sameFs_iff fl la).2 (by rw [HlD.out]; exact HFz.out)] at h1
                  exact h1)
                have HBx := Lib.hid (HB7.out.below Hbw.out HB7.out.lt)
                have HGx := Lib.hid (HG7.out.below Hbw.out HG7.out.lt)
                obtain ⟨z0, z1, _⟩ := blk3 HGx.out
                have q1 := pcell HGx.out 1 _ rfl
                have q2 := pcell HBx.out 1 _ rfl
                have q3 := fun p : BelowBy wr => BelowBy.cell hcc p
                have q4 := fun p : BelowBy wr => BelowBy.cell hcx p
                have hmax := fun (ts : Array TypeId) (ty : TypeId) (W : World) => run_max2 (P := Tryz.prog) ts ty cx ls W
                have hlc : (i : Int) < (lc : Int) := by have := HcLn.out; omega
                have hi0 : (0 : Int) ≤ (i : Int) := by omega
                clear e12 e22 e32 s1 s2 t1 u1 hcv hcx2 hfz HBx HGx hic hix hiz
                go_wp2_with fail
                refine wp_region_below (by kernel_rfl) (by kernel_rfl) ?_
                repeat (quiet_step (first | exact belowBy_calls (HSF.out _)))
                refine wpQuiet_nil ?_
                intro w9 hq
                have hb9 : Below wr.heap.size wr w9 := by obtain ⟨p, hp⟩ := hq; rw [hp]; exact p.h
                have Hb9 := Lib.hid (Hbw.out.trans (hb9.mono Hbw.out.size))
                clear hq hb9 q1 q2 q3 q4 hmax z0 z1 nc hcc hcx
                go_wp2_with fail
                go_roundw
                case rel => exact ⟨i + 1, by omega, by go_num, Hb9.out⟩
                case measure => simp [intOf]; omega
              · obtain rfl : i = ln := by omega
                have Hb9 := Lib.hid (Hb7.out.trans (Hbw.out.mono Hb7.out.size))
                go_wp2_with fail
                go_ret
                exact ⟨rfl, Hb9.out⟩
      · have hS := inv_bad HInv.out h0
        have hr0 : r1 = b := by rw [Hr1.out, HrS.out, hS]
        subst hr0
        have hz1 : (r1 != 0) = true := by simpa using h0
        have HZd : Hid (z.wd = wx0.wd) := Lib.hid (by rw [Hzd.out, HrS.out, hS]; rfl)
        clear hS HInv h0
        go_wp2_with fail
        refine (HT.out _ Hbr.out).mono ?_
        rintro e w6 ⟨rfl, hb6⟩
        have Hb6 := Lib.hid (Hbr.out.trans (hb6.mono Hbr.out.size))
        have HG6 := Lib.hid (HGr.out.below hb6 HGr.out.lt)
        have HZ6 := Lib.hid (HZr.out.below hb6)
        clear hb6
        go_wp2_with fail
        refine (HT.out _ Hb6.out).mono ?_
        rintro e w7 ⟨rfl, hb7⟩
        have Hb7 := Lib.hid (Hb6.out.trans (hb7.mono Hb6.out.size))
        have HSz := Lib.hid (sameWorld_eq z wx0 w7 (HZ6.out.below hb7).isWorld (wx0_is w7) HZd.out)
        rw [HVz.out] at HSz
        unfold wx0 wV at HSz
        dsimp only at HSz
        obtain ⟨z0, z1, z2⟩ := blk3 (HG6.out.below hb7 HG6.out.lt)
        clear hb7
        go_wp2_with fail
        refine (HSz.out).mono ?_
        rintro e w8 ⟨rfl, hb8⟩
        have Hb8 := Lib.hid (Hb7.out.trans (hb8.mono Hb7.out.size))
        clear hb8 z0 z1 z2
        go_wp2_with fail
        go_ret
        exact ⟨rfl, Hb8.out⟩
theorem walk (W : World) (hml : ML W) (v0 : Value) (x : Wx) (h0 : v0 = wV x) (hx : IsWorld W x ∧ WdK (fun n _ => n ≤ 1048576) x) :
    Calls Tryz.prog 5 #[v0] W fun e W' => e = .returned (.bool true) ∧ Below W.heap.size W W' := by
  subst h0
  exact walk0 W hml x hx.1 hx.2.nodes (fun n hn => (hx.2.node n hn).1)
end Go.Proofs.YtdoegpklephelaaGreatDoor.WorldSettle
