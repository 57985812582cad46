/- package match: Tokens. -/
import Derived.Test.YtoncjlbgheaabaaMatchFind
namespace Go.Proofs.Ytoncjlbgheaabaa.Match
open Go Go.RowKit Go.Proofs.Ytoncjlbgheaabaa
set_option linter.unusedVariables false

theorem tyT : SliceTy Try.prog 50 80 (.agg #[.int .u8 0, .int .i64 0, .int .i64 0]) 3 24 := ⟨Try.underlying50, by kernel_rfl, rfl, by omega⟩
def tokC (t : Tok) : List Value := [u8v t.1, iv t.2.1, iv t.2.2]
theorem tokC_len (l : List Tok) : (l.flatMap tokC).length = l.length * 3 := by
  induction l with
  | nil => rfl
  | cons a l ih => rw [List.flatMap_cons, List.length_append, ih]; simp [tokC]; omega
theorem KeepsM.own {base b : Nat} {w w' : World} (h : KeepsM base b w w') {F : Tri → List Nat} {B : Nat} (hI : GAt w B b F) {base' : Nat} {e : TypeId} {size n : Nat} {v : Value} {xs : List Value} (ho : w.ownsRow base' e size v n xs) (he : e ≠ 3) : w'.ownsRow base' e size v n xs := by
  refine ⟨ho.1, ?_⟩
  rcases ho.2 with h0 | ⟨g, cap, cur, rfl, h1, h2, h3⟩
  · exact Or.inl h0
  · refine Or.inr ⟨g, cap, cur, rfl, h1, ?_, h3⟩
    refine h.other g _ h2 (fun eb => ?_) (fun cs t fr ec => by injection ec with e1 e2 e3; rw [← e2]; exact he)
    obtain ⟨_, es, clock, hb, _⟩ := hI
    rw [eb, hb] at h2; cases h2
theorem GAt.grown {w w' : World} {base b : Nat} {F : Tri → List Nat} (h : GAt w base b F) {base' : Nat} {e : TypeId} {size n : Nat} {v : Value} {xs : List Value} (ho : w.ownsRow base' e size v n xs) (hg : w.grownBy w' v.ownBlock) (he : e ≠ 3) : GAt w' base b F :=
  h.keep fun k o hk ht => by
    rw [hg.block k (Array.getElem?_eq_some_iff.1 hk).1 (fun eq => ?_)]
    · exact hk
    · rcases ho.2 with ⟨rfl, _⟩ | ⟨g, cap, cur, rfl, h1, h2, h3⟩
      · simp [Value.ownBlock] at eq
      · simp only [Value.ownBlock, Option.some.injEq] at eq
        subst eq
        rw [h2] at hk; injection hk with hk
        exact he (ht _ _ _ hk.symm)
def TokYes (xs : List UInt8) (w : World) (e : Ending) (w' : World) : Prop :=
  (∃ v, e = .returned (.tuple #[v, .int .i64 0]) ∧ w'.ownsRow w.heap.size 80 3 v (toks xs).length ((toks xs).flatMap tokC)) ∧ Below w.heap.size w w'
theorem tstep_lit {b : List UInt8} {k a m : Nat} {l : List Tok} (hk : k < b.length) (h : (longest b k).1 = 0 ∨ (k + 1 < b.length ∧ (longest b k).1 < (longest b (k + 1)).1)) : tstep b (k, l) = (k + 1, l ++ [(b[k], 0, 0)]) := by
  unfold tstep
  rw [if_pos hk, if_pos h]
  simp only [List.getD_eq_getElem?_getD, List.getElem?_eq_getElem hk]; rfl
theorem tstep_cpy {b : List UInt8} {k : Nat} {l : List Tok} (hk : k < b.length) (h : ¬ ((longest b k).1 = 0 ∨ (k + 1 < b.length ∧ (longest b k).1 < (longest b (k + 1)).1))) : tstep b (k, l) = (k + (longest b k).1, l ++ [(0, ((longest b k).1 : Int), ((longest b k).2 : Int))]) := by
  unfold tstep
  rw [if_pos hk, if_neg h]

set_option maxRecDepth 100000 in
set_option maxHeartbeats 4000000 in
theorem tokens_yes (A : Option Addr) (n c : Nat) (xs : List UInt8) (w : World) (hn : xs.length = n) (hnc : n ≤ c) (hx : n ≤ 3000) (hA : ByAt w A xs) :
    Calls Try.prog 34 #[.slice A n c] w (TokYes xs w) := by
  have Hn := Lib.hid hn
  have HA := Lib.hid hA
  clear hn hA
  have hnm : ¬ (3000 < (n : Int)) := by omega
  have hmm := @run_makeMap Try.prog
  go_enter Try.func34, Try.ntmps34
  go_wp2_with fail
  clear hmm
  go_loopw [5, 6] (fun v i wr => ∃ V : Value, V = v ∧ ∃ m k : Nat, ∃ l : List Tok, titer xs m = (k, l) ∧ k ≤ n ∧ l.length ≤ k ∧ i = .int .i64 (k : Int) ∧ wr.ownsRow w.heap.size 80 3 V l.length (l.flatMap tokC) ∧ IdxAt wr w.heap.size w.heap.size xs k ∧ Below w.heap.size w wr) (fun _ i _ => n - (intOf i).toNat)
  case atStart => exact ⟨_, rfl, 0, 0, [], rfl, Nat.zero_le _, Nat.le_refl _, rfl, World.ownsRow_nil _ _ _ _, GAt.made w (Nat.le_refl _), (Below.refl _ w).alloc (Nat.le_refl _) _⟩
  case round =>
    obtain ⟨v, rfl, m, k, l, hm, hk, hl, rfl, ho, hI, hb⟩ := hrel
    have Hm := Lib.hid hm
    have Ho := Lib.hid ho
    have HI := Lib.hid hI
    have Hb := Lib.hid hb
    clear hm ho hI hb
    by_cases hlt : k < n
    · have hkl : k < xs.length := by rw [Hn.out]; exact hlt
      have HA1 := Lib.hid (HA.out.below Hb.out)
      go_wp2_with fail
      refine (find_any A n c k _ _ xs _ Hn.out hnc (by omega) HA1.out hk HI.out).mono ?_
      rintro e w1 ⟨rfl, hd⟩
      have hle := longest_le xs k
      have h258 := hle.1
      have hsum := hle.2.1
      have hfar := hle.2.2.1
      clear hle
      have HI1 : Hid (IdxAt w1 w.heap.size w.heap.size xs k) := Lib.hid (by obtain ⟨q, rfl⟩ := hd; exact HI.out)
      have Ho1 : Hid (w1.ownsRow w.heap.size 80 3 v l.length (l.flatMap tokC)) := Lib.hid (by obtain ⟨q, rfl⟩ := hd; exact Ho.out)
      have HA2 : Hid (ByAt w1 A xs) := Lib.hid (by obtain ⟨q, rfl⟩ := hd; exact HA1.out)
      have Hb1 : Hid (Below w.heap.size w w1) := Lib.hid (by obtain ⟨q, rfl⟩ := hd; exact below_drewN' Hb.out q)
      clear hd HI Ho HA1 Hb
      have Hlit : Hid ((longest xs k).1 = 0 ∨ (k + 1 < xs.length ∧ (longest xs k).1 < (longest xs (k + 1)).1) → titer xs (m + 1) = (k + 1, l ++ [(xs[k], 0, 0)])) := Lib.hid (fun h => by
        show tstep xs (titer xs m) = _
        rw [Hm.out]; exact tstep_lit (a := 0) (m := 0) hkl h)
      have Hcpy : Hid (¬ ((longest xs k).1 = 0 ∨ (k + 1 < xs.length ∧ (longest xs k).1 < (longest xs (k + 1)).1)) → titer xs (m + 1) = (k + (longest xs k).1, l ++ [(0, ((longest xs k).1 : Int), ((longest xs k).2 : Int))])) := Lib.hid (fun h => by
        show tstep xs (titer xs m) = _
        rw [Hm.out]; exact tstep_cpy hkl h)
      rw [Hn.out] at hsum Hlit Hcpy
      generalize longest xs k = s at *
      obtain ⟨a, f⟩ := s
      dsimp only at h258 hsum hfar Hlit Hcpy ⊢
      go_wp2_with fail
      refine (put_any A n c k _ _ xs _ Hn.out hnc (by omega) HA2.out hk HI1.out).mono ?_
      rintro e w2 ⟨rfl, hI2, hK2⟩
      have HI2 := Lib.hid hI2
      have Ho2 := Lib.hid (hK2.own HI1.out Ho1.out (by decide))
      have Hb2 := Lib.hid (Hb1.out.trans hK2.below)
      clear hI2 hK2 HI1 Ho1 HA2 Hb1
      have hkx : k < xs.length := hkl
      have hll : l.length ≤ 3000 := by omega
      by_cases ha : a = 0
      · have Hnew := Lib.hid (Hlit.out (Or.inl ha))
        subst ha
        obtain ⟨w3, hw3⟩ : ∃ w3, w3 = w2 := ⟨_, rfl⟩
        subst hw3
        clear Hlit Hcpy
        obtain ⟨bb, oo, rfl, hcell⟩ := (HA.out.below Hb2.out).get hkx
        generalize xs[k] = x at *
        have HI3 := Lib.hid (GAt.alloc HI2.out (.cells #[.int .u8 (n8 x), .int .i64 0, .int .i64 0] 80))
        have Ho3 := Lib.hid (own_keep Ho2.out ((Below.refl w3.heap.size w3).alloc (Nat.le_refl _) (.cells #[.int .u8 (n8 x), .int .i64 0, .int .i64 0] 80)))
        have Hb3 := Lib.hid (Hb2.out.alloc Hb2.out.size (.cells #[.int .u8 (n8 x), .int .i64 0, .int .i64 0] 80))
        have Hsl : Hid (SlAt (w3.alloc (.cells #[.int .u8 (n8 x), .int .i64 0, .int .i64 0] 80)) (some ⟨w3.heap.size, 0, none⟩) [.int .u8 (n8 x), .int .i64 0, .int .i64 0]) := Lib.hid (SlAt.of_heap (heap_alloc_new _ _) rfl)
        go_wp2_with (at_builtin; refine wpList_app _ rfl (.tmp 53) (.tmp 59) _ rfl w.heap.size 80 _ 3 24 tyT v l.length (l.flatMap tokC) rfl Ho3.out (some ⟨w3.heap.size, 0, none⟩) 1 1 [.int .u8 (n8 x), .int .i64 0, .int .i64 0] rfl rfl Hsl.out (by simp [Value.oneCell']) (by simp) (by unfold maxLen; omega) (by omega) Hb3.out.size ?_; intro v4 w4 hown4 hg4 _; have Ho4 := Lib.hid hown4; have HI4 := Lib.hid (GAt.grown HI3.out Ho3.out hg4 (by decide)); have Hb4 := Lib.hid (own_below Ho3.out hg4 Hb3.out Hb3.out.size); clear hown4 hg4)
        go_roundw
        case rel => exact ⟨v4, rfl, m + 1, k + 1, _, Hnew.out, by omega, by simp; omega, by go_num, by rw [List.length_append, List.flatMap_append]; exact Ho4.out, HI4.out, Hb4.out⟩
        case measure => simp [intOf]; omega
      · have ha0 : 0 < a := by omega
        by_cases hk1 : k + 1 < n
        · have hk1' : (k : Int) + 1 < (n : Int) := by omega
          go_wp2_with fail
          have hk1i : ((k : Int) + 1) = ((k + 1 : Nat) : Int) := by omega
          rw [hk1i]
          refine (find_any A n c (k + 1) _ _ xs _ Hn.out hnc (by omega) (HA.out.below Hb2.out) (by omega) HI2.out).mono ?_
          rintro e w3 ⟨rfl, hd⟩
          clear hk1i
          have h258' := (longest_le xs (k + 1)).1
          have HI2 : Hid (IdxAt w3 w.heap.size w.heap.size xs (k + 1)) := Lib.hid (by obtain ⟨q, rfl⟩ := hd; exact HI2.out)
          have Ho2 : Hid (w3.ownsRow w.heap.size 80 3 v l.length (l.flatMap tokC)) := Lib.hid (by obtain ⟨q, rfl⟩ := hd; exact Ho2.out)
          have Hb2 : Hid (Below w.heap.size w w3) := Lib.hid (by obtain ⟨q, rfl⟩ := hd; exact below_drewN' Hb2.out q)
          clear hd
          generalize longest xs (k + 1) = s2 at *
          obtain ⟨a2, f2⟩ := s2
          dsimp only at h258' Hlit Hcpy ⊢
          by_cases hm2 : a < a2
          · have Hnew := Lib.hid (Hlit.out (Or.inr ⟨hk1, hm2⟩))
            clear Hlit Hcpy
            obtain ⟨bb, oo, rfl, hcell⟩ := (HA.out.below Hb2.out).get hkx
            generalize xs[k] = x at *
            have HI3 := Lib.hid (GAt.alloc HI2.out (.cells #[.int .u8 (n8 x), .int .i64 0, .int .i64 0] 80))
            have Ho3 := Lib.hid (own_keep Ho2.out ((Below.refl w3.heap.size w3).alloc (Nat.le_refl _) (.cells #[.int .u8 (n8 x), .int .i64 0, .int .i64 0] 80)))
            have Hb3 := Lib.hid (Hb2.out.alloc Hb2.out.size (.cells #[.int .u8 (n8 x), .int .i64 0, .int .i64 0] 80))
            have Hsl : Hid (SlAt (w3.alloc (.cells #[.int .u8 (n8 x), .int .i64 0, .int .i64 0] 80)) (some ⟨w3.heap.size, 0, none⟩) [.int .u8 (n8 x), .int .i64 0, .int .i64 0]) := Lib.hid (SlAt.of_heap (heap_alloc_new _ _) rfl)
            go_wp2_with (at_builtin; refine wpList_app _ rfl (.tmp 53) (.tmp 59) _ rfl w.heap.size 80 _ 3 24 tyT v l.length (l.flatMap tokC) rfl Ho3.out (some ⟨w3.heap.size, 0, none⟩) 1 1 [.int .u8 (n8 x), .int .i64 0, .int .i64 0] rfl rfl Hsl.out (by simp [Value.oneCell']) (by simp) (by unfold maxLen; omega) (by omega) Hb3.out.size ?_; intro v4 w4 hown4 hg4 _; have Ho4 := Lib.hid hown4; have HI4 := Lib.hid (GAt.grown HI3.out Ho3.out hg4 (by decide)); have Hb4 := Lib.hid (own_below Ho3.out hg4 Hb3.out Hb3.out.size); clear hown4 hg4)
            go_roundw
            case rel => exact ⟨v4, rfl, m + 1, k + 1, _, Hnew.out, by omega, by simp; omega, by go_num, by rw [List.length_append, List.flatMap_append]; exact Ho4.out, HI4.out, Hb4.out⟩
            case measure => simp [intOf]; omega
          · have Hnew := Lib.hid (Hcpy.out (by omega))
            clear Hlit Hcpy
            have HI3 := Lib.hid (GAt.alloc HI2.out (.cells #[.int .u8 0, .int .i64 (a : Int), .int .i64 (f : Int)] 80))
            have Ho3 := Lib.hid (own_keep Ho2.out ((Below.refl w3.heap.size w3).alloc (Nat.le_refl _) (.cells #[.int .u8 0, .int .i64 (a : Int), .int .i64 (f : Int)] 80)))
            have Hb3 := Lib.hid (Hb2.out.alloc Hb2.out.size (.cells #[.int .u8 0, .int .i64 (a : Int), .int .i64 (f : Int)] 80))
            have Hsl : Hid (SlAt (w3.alloc (.cells #[.int .u8 0, .int .i64 (a : Int), .int .i64 (f : Int)] 80)) (some ⟨w3.heap.size, 0, none⟩) [.int .u8 0, .int .i64 (a : Int), .int .i64 (f : Int)]) := Lib.hid (SlAt.of_heap (heap_alloc_new _ _) rfl)
            have heq0 : ((a : Int) == 0) = false := by simp; omega
            go_wp2_with (at_builtin; refine wpList_app _ rfl (.tmp 63) (.tmp 67) _ rfl w.heap.size 80 _ 3 24 tyT v l.length (l.flatMap tokC) rfl Ho3.out (some ⟨w3.heap.size, 0, none⟩) 1 1 [.int .u8 0, .int .i64 (a : Int), .int .i64 (f : Int)] rfl rfl Hsl.out (by simp [Value.oneCell']) (by simp) (by unfold maxLen; omega) (by omega) Hb3.out.size ?_; intro v4 w4 hown4 hg4 _; have Ho4 := Lib.hid hown4; have HI4 := Lib.hid (GAt.grown HI3.out Ho3.out hg4 (by decide)); have Hb4 := Lib.hid (own_below Ho3.out hg4 Hb3.out Hb3.out.size); clear hown4 hg4)
            go_loopw [11] (fun t wx => ∃ j : Nat, 1 ≤ j ∧ j ≤ a ∧ t = .int .i64 (j : Int) ∧ IdxAt wx w.heap.size w.heap.size xs (k + j) ∧ wx.ownsRow w.heap.size 80 3 v4 (l.length + 1) (l.flatMap tokC ++ [.int .u8 0, .int .i64 (a : Int), .int .i64 (f : Int)]) ∧ Below w.heap.size w wx) (fun t _ => a - (intOf t).toNat)
            case atStart => exact ⟨1, Nat.le_refl _, by omega, rfl, HI4.out, Ho4.out, Hb4.out⟩
            case round =>
              obtain ⟨j, hj1, hj, rfl, hIj, hoj, hbj⟩ := hrel
              have HIj := Lib.hid hIj
              have Hoj := Lib.hid hoj
              have Hbj := Lib.hid hbj
              clear hIj hoj hbj
              by_cases hja : j < a
              · have HAj := Lib.hid (HA.out.below Hbj.out)
                go_wp2_with fail
                have hkj : ((k : Int) + (j : Int)) = ((k + j : Nat) : Int) := by omega
                rw [hkj]
                refine (put_any A n c (k + j) _ _ xs _ Hn.out hnc (by omega) HAj.out (by omega) HIj.out).mono ?_
                rintro e w5 ⟨rfl, hI5, hK5⟩
                have HI5 := Lib.hid hI5
                have Ho5 := Lib.hid (hK5.own HIj.out Hoj.out (by decide))
                have Hb5 := Lib.hid (Hbj.out.trans hK5.below)
                clear hI5 hK5 hkj
                go_wp2_with fail
                go_roundw
                case rel => exact ⟨j + 1, by omega, by omega, by go_num, HI5.out, Ho5.out, Hb5.out⟩
                case measure => simp [intOf]; omega
              · obtain rfl : j = a := by omega
                go_wp2_with fail
                go_roundw
                case rel => exact ⟨v4, rfl, m + 1, k + j, _, Hnew.out, by omega, by simp; omega, by go_num, by rw [List.length_append, List.flatMap_append]; exact Hoj.out, HIj.out, Hbj.out⟩
                case measure => simp [intOf]; omega
        · have hk1' : ¬ ((k : Int) + 1 < (n : Int)) := by omega
          have Hnew := Lib.hid (Hcpy.out (by omega))
          obtain ⟨w3, hw3⟩ : ∃ w3, w3 = w2 := ⟨_, rfl⟩
          subst hw3
          clear Hlit Hcpy
          have HI3 := Lib.hid (GAt.alloc HI2.out (.cells #[.int .u8 0, .int .i64 (a : Int), .int .i64 (f : Int)] 80))
          have Ho3 := Lib.hid (own_keep Ho2.out ((Below.refl w3.heap.size w3).alloc (Nat.le_refl _) (.cells #[.int .u8 0, .int .i64 (a : Int), .int .i64 (f : Int)] 80)))
          have Hb3 := Lib.hid (Hb2.out.alloc Hb2.out.size (.cells #[.int .u8 0, .int .i64 (a : Int), .int .i64 (f : Int)] 80))
          have Hsl : Hid (SlAt (w3.alloc (.cells #[.int .u8 0, .int .i64 (a : Int), .int .i64 (f : Int)] 80)) (some ⟨w3.heap.size, 0, none⟩) [.int .u8 0, .int .i64 (a : Int), .int .i64 (f : Int)]) := Lib.hid (SlAt.of_heap (heap_alloc_new _ _) rfl)
          have heq0 : ((a : Int) == 0) = false := by simp; omega
          go_wp2_with (at_builtin; refine wpList_app _ rfl (.tmp 63) (.tmp 67) _ rfl w.heap.size 80 _ 3 24 tyT v l.length (l.flatMap tokC) rfl Ho3.out (some ⟨w3.heap.size, 0, none⟩) 1 1 [.int .u8 0, .int .i64 (a : Int), .int .i64 (f : Int)] rfl rfl Hsl.out (by simp [Value.oneCell']) (by simp) (by unfold maxLen; omega) (by omega) Hb3.out.size ?_; intro v4 w4 hown4 hg4 _; have Ho4 := Lib.hid hown4; have HI4 := Lib.hid (GAt.grown HI3.out Ho3.out hg4 (by decide)); have Hb4 := Lib.hid (own_below Ho3.out hg4 Hb3.out Hb3.out.size); clear hown4 hg4)
          go_loopw [11] (fun t wx => ∃ j : Nat, 1 ≤ j ∧ j ≤ a ∧ t = .int .i64 (j : Int) ∧ IdxAt wx w.heap.size w.heap.size xs (k + j) ∧ wx.ownsRow w.heap.size 80 3 v4 (l.length + 1) (l.flatMap tokC ++ [.int .u8 0, .int .i64 (a : Int), .int .i64 (f : Int)]) ∧ Below w.heap.size w wx) (fun t _ => a - (intOf t).toNat)
          case atStart => exact ⟨1, Nat.le_refl _, by omega, rfl, HI4.out, Ho4.out, Hb4.out⟩
          case round =>
            obtain ⟨j, hj1, hj, rfl, hIj, hoj, hbj⟩ := hrel
            have HIj := Lib.hid hIj
            have Hoj := Lib.hid hoj
            have Hbj := Lib.hid hbj
            clear hIj hoj hbj
            by_cases hja : j < a
            · have HAj := Lib.hid (HA.out.below Hbj.out)
              go_wp2_with fail
              have hkj : ((k : Int) + (j : Int)) = ((k + j : Nat) : Int) := by omega
              rw [hkj]
              refine (put_any A n c (k + j) _ _ xs _ Hn.out hnc (by omega) HAj.out (by omega) HIj.out).mono ?_
              rintro e w5 ⟨rfl, hI5, hK5⟩
              have HI5 := Lib.hid hI5
              have Ho5 := Lib.hid (hK5.own HIj.out Hoj.out (by decide))
              have Hb5 := Lib.hid (Hbj.out.trans hK5.below)
              clear hI5 hK5 hkj
              go_wp2_with fail
              go_roundw
              case rel => exact ⟨j + 1, by omega, by omega, by go_num, HI5.out, Ho5.out, Hb5.out⟩
              case measure => simp [intOf]; omega
            · obtain rfl : j = a := by omega
              go_wp2_with fail
              go_roundw
              case rel => exact ⟨v4, rfl, m + 1, k + j, _, Hnew.out, by omega, by simp; omega, by go_num, by rw [List.length_append, List.flatMap_append]; exact Hoj.out, HIj.out, Hbj.out⟩
              case measure => simp [intOf]; omega
    · obtain rfl : k = n := by omega
      have Hd := Lib.hid (titer_done xs m (by rw [Hm.out, Hn.out]; exact Nat.le_refl _))
      rw [Hm.out] at Hd
      go_wp2_with fail
      go_ret2
      exact ⟨⟨_, rfl, by rw [← Hd.out]; exact Ho.out⟩, Hb.out⟩
end Go.Proofs.Ytoncjlbgheaabaa.Match
