/- slices.EqualFunc at files. -/
import Derived.Test.YtdoegpklephelaaDoorEqF
import Derived.Test.YtdoegpklephelaaDoorMergeSame
namespace Go.Proofs.YtdoegpklephelaaDoor.Merge
open Go Go.RowKit Go.Proofs.YtdoegpklephelaaDoor Go.Proofs.YtdoegpklephelaaDoor.Name
set_option linter.unusedVariables false

set_option maxRecDepth 100000 in
set_option maxHeartbeats 1600000 in
theorem equalFunc_files (A B : Option Addr) (n m ca cb : Nat) (xs ys : List (Fx)) (g : FuncId) (cap : Array Value) (p : Fx → Fx → Bool) (w : World) (hn : xs.length = n) (hm : ys.length = m) (hx : n ≤ maxLen) (hy : m ≤ maxLen)
    (ha : SlAt w A (xs.flatMap fC)) (hb : SlAt w B (ys.flatMap fC))
    (hcf : ∀ args w', (callFunc g args).run Tryd.prog w' = .ok (.enter g args) w')
    (hf : ∀ x ∈ xs, ∀ y ∈ ys, ∀ w', Below w.heap.size w w' → Calls Tryd.prog g (#[fV x, fV y] ++ cap) w' fun e w'' => e = .returned (.bool (p x y)) ∧ Below w'.heap.size w' w'') :
    Calls Tryd.prog 44 #[.slice A n ca, .slice B m cb, .func (.func g) #[] cap] w fun e w' => e = .returned (.bool (eqF p xs ys)) ∧ Below w.heap.size w w' := by
  unfold maxLen at hx hy
  have Hn := Lib.hid hn
  have Hm := Lib.hid hm
  have Ha := Lib.hid ha
  have Hb := Lib.hid hb
  have Hf := Lib.hid hf
  clear hn hm ha hb hf
  by_cases hnm : n = m
  · subst hnm
    go_enter Tryd.func44, Tryd.ntmps44
    go_wp2_with fail
    go_loopw [17] (fun i wr => ∃ k : Nat, k ≤ n ∧ i = .int .i64 (k : Int) ∧ (∀ x ∈ (xs.zip ys).take k, p x.1 x.2 = true) ∧ Below w.heap.size w wr) (fun i _ => n - (intOf i).toNat)
    case atStart => exact ⟨0, Nat.zero_le _, rfl, by simp, Below.refl _ _⟩
    case round =>
      obtain ⟨k, hk, rfl, hall, hbr⟩ := hrel
      have Hall := Lib.hid hall
      have Hbr := Lib.hid hbr
      clear hall hbr
      by_cases hlt : k < n
      · have hkx : k < xs.length := by rw [Hn.out]; exact hlt
        have hky : k < ys.length := by rw [Hm.out]; exact hlt
        obtain ⟨ba, oa, rfl, hca⟩ := slat_elem (size := 5) fC_len (by omega) (Ha.out.below Hbr.out) hkx
        obtain ⟨bb, ob, rfl, hcb⟩ := slat_elem (size := 5) fC_len (by omega) (Hb.out.below Hbr.out) hky
        have Hcall := Lib.hid (fun w' hb => Hf.out xs[k] (List.getElem_mem hkx) ys[k] (List.getElem_mem hky) w' hb)
        have Hy := Lib.hid (eqF_here (p := p) hkx hky)
        have Hz := Lib.hid (eqF_step (p := p) hkx hky Hall.out)
        generalize xs[k] = x at *
        generalize ys[k] = y at *
        obtain ⟨⟨n1, b1, s1, d1, g1⟩, A1, l1, c1⟩ := x
        obtain ⟨⟨n2, b2, s2, d2, g2⟩, A2, l2, c2⟩ := y
        have ca0 : wr.cell? ⟨ba, oa + k * 5, none⟩ = some (.string (strB n1)) := hca 0 _ rfl
        have cb0 : wr.cell? ⟨bb, ob + k * 5, none⟩ = some (.string (strB n2)) := hcb 0 _ rfl
        have ca1 : wr.cell? ⟨ba, oa + k * 5 + 1, none⟩ = some (.slice A1 l1 c1) := hca 1 _ rfl
        have cb1 : wr.cell? ⟨bb, ob + k * 5 + 1, none⟩ = some (.slice A2 l2 c2) := hcb 1 _ rfl
        have ca2 : wr.cell? ⟨ba, oa + k * 5 + 2, none⟩ = some (.int .i64 s1) := hca 2 _ rfl
        have cb2 : wr.cell? ⟨bb, ob + k * 5 + 2, none⟩ = some (.int .i64 s2) := hcb 2 _ rfl
        have ca3 : wr.cell? ⟨ba, oa + k * 5 + 3, none⟩ = some (.int .i64 d1) := hca 3 _ rfl
        have cb3 : wr.cell? ⟨bb, ob + k * 5 + 3, none⟩ = some (.int .i64 d2) := hcb 3 _ rfl
        have ca4 : wr.cell? ⟨ba, oa + k * 5 + 4, none⟩ = some (.bool g1) := hca 4 _ rfl
        have cb4 : wr.cell? ⟨bb, ob + k * 5 + 4, none⟩ = some (.bool g2) := hcb 4 _ rfl
        have HA2 := Lib.hid (((Below.refl wr.heap.size wr).alloc (Nat.le_refl _) (.cells #[.string (strB n1), .slice A1 l1 c1, .int .i64 s1, .int .i64 d1, .bool g1] 33)).alloc (by simp) (.cells #[.string (strB n2), .slice A2 l2 c2, .int .i64 s2, .int .i64 d2, .bool g2] 33))
        have la := block_lt_of_cell ca0
        have lb := block_lt_of_cell cb0
        clear hca hcb Hf
        obtain ⟨pv, hpv⟩ : ∃ pv, p ⟨⟨n1, b1, s1, d1, g1⟩, A1, l1, c1⟩ ⟨⟨n2, b2, s2, d2, g2⟩, A2, l2, c2⟩ = pv := ⟨_, rfl⟩
        rw [hpv] at Hcall Hy Hz
        clear hpv
        go_wp2_with fail
        refine (Hcall.out _ (Hbr.out.trans (HA2.out.mono Hbr.out.size))).mono ?_
        rintro e w1 ⟨rfl, hb1⟩
        have Hb1 := Lib.hid (Hbr.out.trans (stepN HA2.out hb1 |>.mono Hbr.out.size))
        clear hb1
        cases pv with
        | true =>
          have Hi := Lib.hid (Hz.out rfl)
          go_wp2_with fail
          go_roundw
          case rel => exact ⟨k + 1, by omega, by go_num, Hi.out, Hb1.out⟩
          case measure => simp [intOf]; omega
        | false =>
          have Hi := Lib.hid (Hy.out rfl)
          go_wp2_with fail
          go_ret
          exact ⟨ret_bool Hi.out.symm, Hb1.out⟩
      · have Hi := Lib.hid (eqF_end (p := p) (by rw [Hn.out, Hm.out]) (show k = xs.length by rw [Hn.out]; omega) Hall.out)
        go_wp2_with fail
        go_ret
        exact ⟨ret_bool Hi.out.symm, Hbr.out⟩
  · have Hi := Lib.hid (eqF_ne (p := p) (a := xs) (b := ys) (by rw [Hn.out, Hm.out]; exact hnm))
    have hne : decide ((n : Int) = (m : Int)) = false := decide_eq_false (by omega)
    have hni : ¬ (n : Int) = (m : Int) := by omega
    clear hnm
    go_enter Tryd.func44, Tryd.ntmps44
    go_wp2_with fail
    go_ret
    exact ⟨ret_bool Hi.out.symm, Below.refl _ _⟩
end Go.Proofs.YtdoegpklephelaaDoor.Merge
