/- reliquarylaw.BitsBack: the walk. -/
import Derived.Test.YtoncjlbgheaabaaRowed
import Derived.Test.YtoncjlbgheaabaaTwo
import Derived.Test.YtoncjlbgheaabaaBitsBackPure
namespace Go.Proofs.Ytoncjlbgheaabaa.BitsBack
open Go Go.RowKit Go.Proofs.Ytoncjlbgheaabaa Go.Proofs.Ytoncjlbgheaabaa.Bits
set_option linter.unusedVariables false

def numsV (l : List (Int × Int)) (k : Nat) : List Value := (l.take k).map fun p => iv p.1
def sizesV (l : List (Int × Int)) (k : Nat) : List Value := (l.take k).map fun p => iv p.2
theorem numsV_len (l : List (Int × Int)) (k : Nat) (h : k ≤ l.length) : (numsV l k).length = k := by simp [numsV]; omega
theorem sizesV_len (l : List (Int × Int)) (k : Nat) (h : k ≤ l.length) : (sizesV l k).length = k := by simp [sizesV]; omega
theorem numsV_snoc (l : List (Int × Int)) (k : Nat) (h : k < l.length) : numsV l (k + 1) = numsV l k ++ [iv l[k].1] := by unfold numsV; rw [take_snoc _ _ h, List.map_append]; rfl
theorem sizesV_snoc (l : List (Int × Int)) (k : Nat) (h : k < l.length) : sizesV l (k + 1) = sizesV l k ++ [iv l[k].2] := by unfold sizesV; rw [take_snoc _ _ h, List.map_append]; rfl
theorem numsV_all (l : List (Int × Int)) : numsV l l.length = (l.map fun p => p.1).map iv := by simp [numsV]
theorem sizesV_all (l : List (Int × Int)) : sizesV l l.length = (l.map fun p => p.2).map iv := by simp [sizesV]

abbrev Pairs (w : World) (v : Value) (l : List (Int × Int)) : Prop := IsL w pairC (fun p => wfI p.1 ∧ wfI p.2) v l
/-- Pack, of whatever many -/
theorem pack_all (v : Value) (l : List (Int × Int)) (w : World) (h : Pairs w v l) :
    Calls Try.prog 24 #[v] w fun e w' => (∃ u c, e = .returned (.tuple #[u, .int .i64 c]) ∧
      (c = 0 ∧ l.length ≤ 3000 ∧ l.all fits = true ∧ w'.ownsRow w.heap.size 5 1 u (pack (bitsP l)).length ((pack (bitsP l)).map u8v) ∨ (u = .slice none 0 0 ∧ c ≠ 0 ∧ (c = 2 ∧ 3000 < l.length ∨ c = 3 ∧ l.length ≤ 3000 ∧ l.all fits = false)))) ∧ Below w.heap.size w w' := by
  obtain ⟨A, cap, rfl, hc1, hc2, hA, hnil, hdeep⟩ := h
  by_cases hl : l.length ≤ 3000
  · refine (pack_any A _ cap l w rfl hl hA hdeep).mono ?_
    rintro e w1 ⟨⟨hf, u, rfl, ho⟩ | ⟨hf, rfl⟩, hb⟩
    · exact ⟨⟨u, 0, rfl, .inl ⟨rfl, hl, hf, ho⟩⟩, hb⟩
    · exact ⟨⟨_, 3, rfl, .inr ⟨rfl, by omega, .inr ⟨rfl, hl, hf⟩⟩⟩, hb⟩
  · refine (pack_many A _ cap w (by omega) (by omega)).mono ?_
    rintro e w1 ⟨rfl, rfl⟩
    exact ⟨⟨_, 2, rfl, .inr ⟨rfl, by omega, .inl ⟨rfl, by omega⟩⟩⟩, Below.refl _ _⟩
/-- Turn, and what it says of turning again -/
theorem turn_back (n size : Int) (w : World) :
    Calls Try.prog 25 #[.int .i64 n, .int .i64 size] w fun e w' => (∃ m c, e = .returned (.tuple #[.int .i64 m, .int .i64 c]) ∧
      (c = 0 → ∀ w2, Calls Try.prog 25 #[.int .i64 m, .int .i64 size] w2 fun e w' => e = .returned (.tuple #[.int .i64 n, .int .i64 0]) ∧ w2 = w')) ∧ w = w' := by
  refine (turn_any n size w).mono ?_
  rintro e w1 ⟨⟨hf, rfl⟩ | ⟨hf, rfl⟩, rfl⟩
  · refine ⟨⟨_, 0, rfl, fun _ w2 => ?_⟩, rfl⟩
    refine (turn_any _ size w2).mono ?_
    rintro e w1 ⟨⟨hf2, rfl⟩ | ⟨hf2, _⟩, rfl⟩
    · obtain ⟨h1, h2, h3, h4⟩ := fits_lt hf
      rw [Int.toNat_natCast, turned_twice _ _ h4]
      exact ⟨ret_ints (by omega) rfl, rfl⟩
    · rw [fits_turned hf] at hf2; cases hf2
  · exact ⟨⟨_, 3, rfl, fun h => absurd h (by omega)⟩, rfl⟩

set_option maxRecDepth 100000 in
set_option maxHeartbeats 1600000 in
theorem walk (W : World) (v0 : Value) (l : List (Int × Int)) (h : Pairs W v0 l) (n : Int) (wn : wfI n) (size : Int) (ws : wfI size) :
    Calls Try.prog 8 #[v0, .int .i64 n, .int .i64 size] W fun e w' => e = .returned (.bool true) ∧ Below W.heap.size W w' := by
  have HL := Lib.hid h
  obtain ⟨A, cap, rfl, hc1, hc2, hA, hnil, hdeep⟩ := h
  have HA := Lib.hid hA
  have Hd := Lib.hid hdeep
  clear hdeep hA hnil wn ws
  unfold maxLen at hc2
  generalize hN : l.length = N at hc1 hc2 ⊢
  have HN := Lib.hid hN
  clear hN
  go_enter Try.func8, Try.ntmps8
  go_wp2_with fail
  refine (pack_all (.slice A N cap) l W (by have := HL.out; rwa [HN.out] at this)).mono ?_
  rintro e w1 ⟨⟨u, c, rfl, hc⟩, hb1⟩
  have HC := Lib.hid hc
  have HB1 := Lib.hid hb1
  clear hc hb1
  go_wp2_with fail
  refine (turn_back n size w1).mono ?_
  rintro e w2 ⟨⟨m, d, rfl, hd⟩, rfl⟩
  have HD := Lib.hid hd
  clear hd
  go_wp2_with fail
  refine (rowed_any w1).mono ?_
  rintro e w2 ⟨rfl, hb2⟩
  have HB2 := Lib.hid hb2
  clear hb2
  have HB := Lib.hid (stepN HB1.out HB2.out)
  by_cases hq : c = 0
  case neg =>
    clear HC
    by_cases hd : d = 0
    · subst hd
      go_wp2_with fail
      refine (HD.out (by trivial) w2).mono ?_
      rintro e w3 ⟨rfl, rfl⟩
      go_wp2_with fail
      go_ret
      exact ⟨rfl, HB.out⟩
    · go_wp2_with fail
      go_ret
      exact ⟨rfl, HB.out⟩
  subst hq
  have hc := HC.out
  clear HC
  obtain ⟨-, hl3, hf, ho⟩ : 0 = 0 ∧ l.length ≤ 3000 ∧ l.all fits = true ∧ w1.ownsRow W.heap.size 5 1 u (pack (bitsP l)).length ((pack (bitsP l)).map u8v) := by
    rcases hc with ⟨_, h⟩ | ⟨_, h, _⟩
    · exact ⟨rfl, h⟩
    · exact absurd rfl h
  clear hc
  rw [HN.out] at hl3
  obtain ⟨A1, cap1, rfl, hd1, hd2, hA1⟩ := own_bytes ho
  have hlen := bitsP_len l hf
  have hlen2 := pack_length (bitsP l)
  rw [HN.out] at hlen
  have HA1 := Lib.hid (SlAt.below hA1 HB2.out)
  have Hun := Lib.hid (unpack_back l hf)
  have Hso := Lib.hid (sizes_ok l hf)
  have Hsf := Lib.hid (sum_fits l)
  clear hA1 ho hf
  have hM : (pack (bitsP l)).length ≤ 6000 := by omega
  generalize hP : (pack (bitsP l)) = bs at *
  clear hP hlen2 hlen
  generalize hM2 : bs.length = M at *
  have HM := Lib.hid hM2
  clear hM2
  by_cases hd : d = 0
  case' pos =>
    subst hd
    go_wp2_with fail
    refine (HD.out (by trivial) w2).mono ?_
    rintro e w3 ⟨rfl, rfl⟩
    go_wp2_with fail
  case' neg =>
    have hd0 : (d == 0) = false := by simp [hd]
    clear hd
    go_wp2_with fail
  all_goals (
    clear HD
    go_loopw [50, 14, 13] (fun i v1 v2 wr => ∃ k : Nat, k ≤ N ∧ i = .int .i64 k ∧ Two w2 wr 3 v1 v2 (numsV l k) (sizesV l k) []) (fun i _ _ _ => N - (intOf i).toNat)
    case atStart => exact ⟨0, Nat.zero_le _, rfl, Two.start (Below.refl _ _)⟩
    case round =>
      obtain ⟨k, hk, rfl, ht⟩ := hrel
      have Ht := Lib.hid ht
      clear ht
      by_cases hlt : k < N
      · have hkl : k < l.length := by rw [HN.out]; exact hlt
        obtain ⟨b, o, rfl, hc⟩ := slat_elem (size := 2) (fun _ => rfl) (by omega) (HA.out.below (HB.out.trans (Ht.out.2.2.1.mono HB.out.size))) hkl
        have hc0 := hc 0 _ rfl
        have hc1 := hc 1 _ rfl
        have Hn1 := Lib.hid (numsV_snoc l k hkl)
        have Hs1 := Lib.hid (sizesV_snoc l k hkl)
        have Hn0 := Lib.hid (numsV_len l k (by omega))
        have Hs0 := Lib.hid (sizesV_len l k (by omega))
        clear hc
        generalize l[k] = x at *
        obtain ⟨x0, x1⟩ := x
        simp only [iv, Nat.add_zero] at hc0 hc1
        go_wp2_with fail
        have ht := Ht.out.alloc 46 #[.int .i64 x0, .int .i64 x1]
        clear Ht hc0 hc1
        have hb0 := ht.cell (List.mem_singleton.2 rfl) 0
        have hb1 := ht.cell (List.mem_singleton.2 rfl) 1
        have hlt1 := ht.lt (List.mem_singleton.2 rfl)
        simp only [List.getElem?_toArray, List.getElem?_cons_zero, List.getElem?_cons_succ] at hb0 hb1
        have HT := Lib.hid ht
        clear ht
        generalize hG : (wr.alloc (.cells #[.int .i64 x0, .int .i64 x1] 46)) = G at *
        clear hG
        generalize wr.heap.size = g at *
        go_region_law ((first
          | (refine step_two rfl (.tmp 54) (.tmp 57) 24 rfl tyI (by (first | exact HT.out | exact HT.out.drew | exact HT.out.alloc _ _ | exact (HT.out.alloc _ _).alloc _ _ | exact HT.out.drew.alloc _ _ | exact (HT.out.drew.alloc _ _).alloc _ _)) (by simp [Act.eval]) _ (.int .i64 x0) 1 (by simp [Act.eval]; rfl) (by simp) rfl (by have := Hn0.out; unfold maxLen; omega) (by have := Hn0.out; omega) ?_
             intro v' w' ht
             have hb0 := ht.cell (g := g) (t := 46) (cs := #[.int .i64 x0, .int .i64 x1]) (by simp) 0
             have hb1 := ht.cell (g := g) (t := 46) (cs := #[.int .i64 x0, .int .i64 x1]) (by simp) 1
             have hlt1 := ht.lt (g := g) (t := 46) (cs := #[.int .i64 x0, .int .i64 x1]) (by simp)
             simp only [List.getElem?_toArray, List.getElem?_cons_zero, List.getElem?_cons_succ] at hb0 hb1
             have HT := Lib.hid ht
             clear ht)
          | (refine step_two rfl (.tmp 59) (.tmp 62) 24 rfl tyI (by (first | exact HT.out.symm | exact HT.out.symm.drew | exact HT.out.symm.alloc _ _ | exact (HT.out.symm.alloc _ _).alloc _ _ | exact HT.out.symm.drew.alloc _ _ | exact (HT.out.symm.drew.alloc _ _).alloc _ _)) (by simp [Act.eval]) _ (.int .i64 x1) 1 (by simp [Act.eval]; rfl) (by simp) rfl (by have := Hs0.out; unfold maxLen; omega) (by have := Hs0.out; omega) ?_
             intro v' w' ht
             have hb0 := ht.cell (g := g) (t := 46) (cs := #[.int .i64 x0, .int .i64 x1]) (by simp) 0
             have hb1 := ht.cell (g := g) (t := 46) (cs := #[.int .i64 x0, .int .i64 x1]) (by simp) 1
             have hlt1 := ht.lt (g := g) (t := 46) (cs := #[.int .i64 x0, .int .i64 x1]) (by simp)
             simp only [List.getElem?_toArray, List.getElem?_cons_zero, List.getElem?_cons_succ] at hb0 hb1
             have HT := Lib.hid ht.symm
             clear ht)))
        all_goals (
          have HT2 : Hid (Two w2 _ 3 _ _ (numsV l (k + 1)) (sizesV l (k + 1)) []) := Lib.hid (by rw [Hn1.out, Hs1.out]; exact HT.out.clear)
          clear HT
          go_wp2_with fail
          go_roundw
          case rel => exact ⟨k + 1, by omega, by go_num, HT2.out⟩
          case measure => simp [intOf]; omega)
      · obtain rfl : k = N := by omega
        have Hks := Lib.hid (by have := sizesV_all l; rwa [HN.out] at this : sizesV l k = (l.map fun (p : Int × Int) => p.2).map iv)
        have Hkn := Lib.hid (by have := numsV_all l; rwa [HN.out] at this : numsV l k = (l.map fun (p : Int × Int) => p.1).map iv)
        obtain ⟨ho1, ho2, hb, -, -⟩ := Ht.out
        obtain ⟨B1, d1, rfl, e1, e2, hB1, _⟩ := own_slat ho1
        obtain ⟨B2, d2, rfl, f1, f2, hB2, _⟩ := own_slat ho2
        rw [numsV_len l k (by rw [HN.out]; omega)] at e1 ⊢
        rw [sizesV_len l k (by rw [HN.out]; omega)] at f1 ⊢
        rw [Hkn.out] at hB1
        rw [Hks.out] at hB2
        have Hb := Lib.hid (hb.mono (Nat.le_refl _))
        have HB1' := Lib.hid hB1
        have HB2' := Lib.hid hB2
        clear ho1 ho2 hb hB1 hB2 Ht Hks Hkn
        go_wp2_with fail
        refine (unpack_any A1 B2 M k cap1 d2 bs (l.map fun (p : Int × Int) => p.2) wr HM.out (by simpa using HN.out) hM hl3 (SlAt.below HA1.out Hb.out) HB2'.out (fun x hx => ?_)).mono ?_
        · obtain ⟨p, hp, rfl⟩ := List.mem_map.1 hx
          exact (Hd.out p hp).2
        rintro e w4 ⟨⟨h, _⟩ | ⟨_, _, v5, rfl, ho5⟩ | ⟨_, h, _⟩, hb4⟩
        · rw [Hso.out] at h; cases h
        rotate_left
        · have := Hsf.out; rw [HM.out] at h; omega
        obtain ⟨A5, c5, rfl, g1, g2, hA5, _⟩ := own_slat ho5
        have HA5 := Lib.hid (slat_nat hA5 Hun.out)
        have HB1'' := Lib.hid (SlAt.below HB1'.out hb4)
        have HBB := Lib.hid (stepN HB.out (stepN Hb.out hb4))
        clear hA5 ho5 hb4 HB1' HB2' HA1
        have hlp : (l.map fun (p : Int × Int) => p.2).length = k := by simpa using HN.out
        have hlq : (l.map fun (p : Int × Int) => p.1).length = k := by simpa using HN.out
        rw [hlp] at g1 ⊢
        have Hlq := Lib.hid hlq
        clear hlp hlq
        generalize (l.map fun (p : Int × Int) => p.1) = ns at *
        go_wp2_with fail
        refine (equal_ints A5 B1 k k c5 d1 ns ns w4 Hlq.out Hlq.out (by unfold maxLen; omega) (by unfold maxLen; omega) HA5.out HB1''.out).mono ?_
        rintro e w5 ⟨rfl, dd, rfl⟩
        rw [show decide (ns = ns) = true from by simp]
        go_wp2_with fail
        go_ret
        exact ⟨rfl, below_drewN' HBB.out _⟩)
end Go.Proofs.Ytoncjlbgheaabaa.BitsBack
