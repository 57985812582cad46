/- slices.Equal at []api.Token. -/
import Derived.Test.YtoncjlbgheaabaaMatchCheck
namespace Go.Proofs.Ytoncjlbgheaabaa.Match
open Go Go.RowKit Go.Proofs.Ytoncjlbgheaabaa
open Go.WideMaps (KeyLaw)
set_option linter.unusedVariables false

def tokV (t : Tok) : Value := .agg #[u8v t.1, iv t.2.1, iv t.2.2]
theorem lawT : KeyLaw Try.prog 80 := deep_law_laid (m := 2) (by kernel_rfl) (by omega) (of_decide_eq_true (by kernel_rfl)) (by kernel_rfl) (by kernel_rfl)
theorem int_lit (x : Int) (h : wfI x) (d : Nat) : Try.prog.keyLits (d + 1) 3 [iv x] = some [.int .i64 x] := by
  unfold wfI at h
  simp [Program.keyLits, Try.underlying3, iv, h]
theorem tok_lits (t : Tok) (h : wfT t) (d : Nat) : Try.prog.keyLits (d + 2) 80 [u8v t.1, iv t.2.1, iv t.2.2] = some [.int .u8 (n8 t.1), .int .i64 t.2.1, .int .i64 t.2.2] := by
  have e0 : Try.prog.cellsOf 80 = 3 := by kernel_rfl
  have e1 : Try.prog.cellsOf 5 = 1 := by kernel_rfl
  have e2 : Try.prog.cellsOf 3 = 1 := by kernel_rfl
  rw [Program.keyLits.eq_def]
  simp only [Try.underlying80, e0]
  rw [if_pos ⟨rfl, by kernel_rfl⟩]
  simp [u8_lit, int_lit _ h.1, int_lit _ h.2, e1, e2]
theorem tok_key (t : Tok) (h : wfT t) : ∃ kl, keyOf Try.prog 80 (tokV t) = some kl := by
  have h1 : Try.prog.keyType 80 = true := by kernel_rfl
  have h2 : (tokV t).formed Try.prog 80 = true := by
    have : Try.prog.cellsOf 80 = 3 := by kernel_rfl
    simp [tokV, Value.formed, Try.underlying80, this]
  obtain ⟨d, hd⟩ := tri_types
  have h3 := tok_lits t h d
  have hc : (tokV t).cells.toList = [u8v t.1, iv t.2.1, iv t.2.2] := by simp [tokV, Value.cells]
  rw [← hd, ← hc] at h3
  refine ⟨.string (keyBytes [.int .u8 (n8 t.1), .int .i64 t.2.1, .int .i64 t.2.2]), ?_⟩
  rw [keyOf, Try.underlying80]
  show (if (Try.prog.keyType 80 && (tokV t).formed Try.prog 80) = true then _ else _) = _
  rw [h1, h2, h3]
  rfl
theorem tokV_inj {s t : Tok} (h : tokV s = tokV t) : s = t := by
  obtain ⟨a, b, c⟩ := s
  obtain ⟨a', b', c'⟩ := t
  simp only [tokV, u8v, iv, Value.agg.injEq, Array.mk.injEq, List.cons.injEq, Value.int.injEq, true_and, and_true] at h
  obtain ⟨h1, h2, h3⟩ := h
  rw [n8_inj h1, h2, h3]
theorem run_eq_tok (w : World) (s t : Tok) (hs : wfT s) (ht : wfT t) : (Op.equal 80 (tokV s) (tokV t)).run Try.prog w = .ok (decide (s = t)) w := by
  obtain ⟨ls, h1⟩ := tok_key s hs
  obtain ⟨lt, h2⟩ := tok_key t ht
  obtain ⟨r, hr, hiff⟩ := run_equal_deep w (m := 2) (by omega) (k := 80) (by kernel_rfl) (by kernel_rfl) h1 h2
  have : r = decide (s = t) := by
    rw [Bool.eq_iff_iff, hiff, decide_eq_true_eq]
    constructor
    · intro e; subst e; exact tokV_inj (lawT.inj h1 h2)
    · intro e; subst e; rw [h1] at h2; injection h2
  rw [hr, this]
theorem run_neq_tok (w : World) (s t : Tok) (hs : wfT s) (ht : wfT t) : (binOp .neq 80 (.agg #[.int .u8 (n8 s.1), .int .i64 s.2.1, .int .i64 s.2.2]) (.agg #[.int .u8 (n8 t.1), .int .i64 t.2.1, .int .i64 t.2.2])).run Try.prog w = .ok (.bool (decide (s ≠ t))) w := by
  have := run_eq_tok w s t hs ht
  simp only [tokV, u8v, iv] at this
  simp [binOp, this, Result.andThen]
set_option maxRecDepth 100000 in
set_option maxHeartbeats 1600000 in
theorem equal_toks (A B : Option Addr) (n m ca cb : Nat) (xs ys : List Tok) (w : World) (hn : xs.length = n) (hm : ys.length = m) (hx : n ≤ 1000000) (hy : m ≤ 1000000) (ha : SlAt w A (xs.flatMap tokC)) (hb : SlAt w B (ys.flatMap tokC)) (wx : ∀ t ∈ xs, wfT t) (wy : ∀ t ∈ ys, wfT t) :
    Calls Try.prog 44 #[.slice A n ca, .slice B m cb] w fun e w' => e = .returned (.bool (decide (xs = ys))) ∧ ∃ d, w' = w.drewN d := by
  by_cases hnm : n = m
  · subst hnm
    have hq : ((n : Int) != (n : Int)) = false := by simp
    have Hn := Lib.hid hn
    have Hm := Lib.hid hm
    have Ha := Lib.hid ha
    have Hb := Lib.hid hb
    have Wx := Lib.hid wx
    have Wy := Lib.hid wy
    clear hn hm ha hb wx wy
    go_enter Try.func44, Try.ntmps44
    go_wp2_with fail
    go_loopw [13] (fun i wr => ∃ k : Nat, k ≤ n ∧ i = .int .i64 k ∧ xs.take k = ys.take k ∧ ∃ d, wr = w.drewN d) (fun i _ => n - (intOf i).toNat)
    case atStart => exact ⟨0, Nat.zero_le _, rfl, rfl, 0, rfl⟩
    case round =>
      obtain ⟨k, hk, rfl, htk, d, rfl⟩ := hrel
      have Ht := Lib.hid htk
      clear htk
      by_cases hlt : k < n
      · have h1 : k < xs.length := by rw [Hn.out]; exact hlt
        have h2 : k < ys.length := by rw [Hm.out]; exact hlt
        obtain ⟨b1, o1, rfl, hc⟩ := slat_elem (size := 3) (fun _ => rfl) (by omega) Ha.out h1
        have a0 := hc 0 _ rfl
        have a1 := hc 1 _ rfl
        have a2 := hc 2 _ rfl
        clear hc
        obtain ⟨b2, o2, rfl, hc⟩ := slat_elem (size := 3) (fun _ => rfl) (by omega) Hb.out h2
        have c0 := hc 0 _ rfl
        have c1 := hc 1 _ rfl
        have c2 := hc 2 _ rfl
        clear hc
        simp only [iv, u8v, Nat.add_zero] at a0 a1 a2 c0 c1 c2
        have hI : (k : Int) < (n : Int) := by omega
        have hr := fun w => run_neq_tok w xs[k] ys[k] (Wx.out _ (List.getElem_mem h1)) (Wy.out _ (List.getElem_mem h2))
        by_cases he : xs[k] = ys[k]
        · have Hs := Lib.hid (take_eq_succ xs ys k h1 h2 Ht.out he)
          rw [decide_eq_false (fun h => h he)] at hr
          clear he
          generalize xs[k] = x at *
          generalize ys[k] = y at *
          go_wp2_with fail
          go_quiet (fail)
          go_wp2_with fail
          go_roundw
          case rel => exact ⟨k + 1, by omega, by go_num, Hs.out, _, rfl⟩
          case measure => simp [intOf]; omega
        · have Hf : Hid (decide (xs = ys) = false) := Lib.hid (by simpa using ne_of_get xs ys k h1 h2 he)
          rw [decide_eq_true he] at hr
          clear he
          generalize xs[k] = x at *
          generalize ys[k] = y at *
          go_wp2_with fail
          go_quiet (fail)
          go_wp2_with fail
          go_ret
          exact ⟨ret_bool Hf.out.symm, _, World.drewN_drewN _ _ _⟩
      · have Hf : Hid (decide (xs = ys) = true) := Lib.hid (by
          have e1 : xs.take k = xs := List.take_of_length_le (by rw [Hn.out]; omega)
          have e2 : ys.take k = ys := List.take_of_length_le (by rw [Hm.out]; omega)
          have := Ht.out; rw [e1, e2] at this; simpa using this)
        go_wp2_with fail
        go_ret
        exact ⟨ret_bool Hf.out.symm, _, rfl⟩
  · have hq : ((n : Int) != (m : Int)) = true := by simp; omega
    have Hf : Hid (decide (xs = ys) = false) := Lib.hid (by simp; intro h; subst h; omega)
    go_enter Try.func44, Try.ntmps44
    go_wp2_with fail
    go_ret
    exact ⟨ret_bool Hf.out.symm, 0, rfl⟩
end Go.Proofs.Ytoncjlbgheaabaa.Match
