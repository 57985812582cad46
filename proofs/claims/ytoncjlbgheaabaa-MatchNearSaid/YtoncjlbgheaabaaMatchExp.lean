/- package match: Expand; the reference's Expanded. -/
import Derived.Test.YtoncjlbgheaabaaMatchCheck
namespace Go.Proofs.Ytoncjlbgheaabaa.Match
open Go Go.RowKit Go.Proofs.Ytoncjlbgheaabaa
set_option linter.unusedVariables false

theorem ty8 : SliceTy Try.prog 28 5 (.int .u8 0) 1 1 := ⟨Try.underlying28, by kernel_rfl, rfl, by omega⟩
theorem chkAll_prefix (l : List Tok) (k : Nat) (n : Int) (h : (chkAll l n).1 = 0) : (chkAll (l.take k) n).1 = 0 := by
  rcases Int.decEq (chkAll (l.take k) n).1 0 with h1 | h1
  · have := chkAll_stop (l.take k) (l.drop k) n h1
    rw [List.take_append_drop] at this
    rw [this] at h; exact absurd h h1
  · exact h1
theorem chk_ok (l : List Tok) (h : chk l = 0) : l.length ≤ 3000 ∧ (chkAll l 0).1 = 0 := by
  unfold chk at h
  by_cases h1 : 3000 < l.length
  · rw [if_pos h1] at h; simp at h
  · rw [if_neg h1] at h
    refine ⟨by omega, ?_⟩
    by_cases h2 : (chkAll l 0).1 ≠ 0
    · rw [if_pos h2] at h; exact h
    · simpa using h2
theorem expand_snoc (l : List Tok) (k : Nat) (hk : k < l.length) : expand (l.take (k + 1)) = putTok (expand (l.take k)) l[k] := by
  rw [take_snoc _ _ hk]; unfold expand; rw [List.foldl_append]; rfl
/-- behind k right tokens: how many bytes; the next one is right -/
theorem at_tok (l : List Tok) (k : Nat) (hk : k < l.length) (h : (chkAll l 0).1 = 0) (hl : l.length ≤ 3000) : (expand (l.take k)).length ≤ 774000 ∧ (chkTok ((expand (l.take k)).length : Int) l[k]).1 = 0 := by
  have h1 := chkAll_prefix l k 0 h
  have h2 := expand_count (l.take k) [] (by simpa using h1)
  have h3 := chkAll_bd (l.take k) 0 (by omega) h1
  have h4 := chkAll_prefix l (k + 1) 0 h
  have e : (((l.take k).foldl putTok []).length : Int) = (chkAll (l.take k) 0).2 := by simpa using h2
  have e2 : (expand (l.take k)).length = ((l.take k).foldl putTok []).length := rfl
  refine ⟨?_, ?_⟩
  · have := h3.2; simp at this; omega
  · rw [take_snoc _ _ hk, chkAll_append _ _ _ h1] at h4
    rw [e2, e]
    simp only [chkAll] at h4
    split at h4
    · assumption
    · rename_i h5; exact absurd h4 h5
/-- what is right of a token -/
theorem tok_ok (n : Int) (x : UInt8) (s f : Int) (h : (chkTok n (x, s, f)).1 = 0) : (s = 0 ∧ f = 0) ∨ (3 ≤ s ∧ s ≤ 258 ∧ 1 ≤ f ∧ f ≤ n) := by
  unfold chkTok at h
  dsimp only at h
  by_cases g : s = 0
  · rw [if_pos g] at h
    by_cases g2 : f = 0
    · exact Or.inl ⟨g, g2⟩
    · rw [if_pos g2] at h; simp at h
  · rw [if_neg g] at h
    by_cases g2 : x ≠ 0
    · rw [if_pos g2] at h; simp at h
    · rw [if_neg g2] at h
      by_cases g3 : s < 3 ∨ 258 < s ∨ f < 1
      · rw [if_pos g3] at h; simp at h
      · rw [if_neg g3] at h
        by_cases g4 : n < f
        · rw [if_pos g4] at h; simp at h
        · exact Or.inr (by omega)
theorem cpy_succ (d n : Nat) (l : List UInt8) (i : Nat) (hi : i + d = l.length + n) (hd : 0 < d) (x : UInt8) (hx : (cpy d n l)[i]? = some x) : cpy d (n + 1) l = cpy d n l ++ [x] := by
  simp only [cpy]
  have : (cpy d n l).length - d = i := by rw [cpy_length]; omega
  rw [this, List.getD_eq_getElem?_getD, hx]; rfl
/-- bytes of the call's own -/
def Own8 (w : World) (base : Nat) (v : Value) (ys : List UInt8) : Prop := w.ownsRow base 5 1 v ys.length (ys.map u8v)
theorem Own8.grow {w : World} {base : Nat} {v : Value} {ys : List UInt8} {x : UInt8} (h : w.ownsRow base 5 1 v (ys.length + 1) (ys.map u8v ++ [.int .u8 (n8 x)])) : Own8 w base v (ys ++ [x]) := by
  unfold Own8; rw [List.length_append, List.map_append]; exact h
theorem putTok_lit (l : List UInt8) (x : UInt8) (s f : Int) (h : s = 0) : putTok l (x, s, f) = l ++ [x] := by unfold putTok; rw [if_pos h]
theorem putTok_cpy (l : List UInt8) (x : UInt8) (s f : Int) (h : s ≠ 0) : putTok l (x, s, f) = cpy f.toNat s.toNat l := by unfold putTok; rw [if_neg h]

set_option maxRecDepth 100000 in
set_option maxHeartbeats 4000000 in
theorem expand_yes (A : Option Addr) (n c : Nat) (l : List Tok) (w : World) (hn : l.length = n) (hA : SlAt w A (l.flatMap tokC)) (hwf : ∀ t ∈ l, wfT t) (h0 : chk l = 0) :
    Calls Try.prog 28 #[.slice A n c] w fun e w' => (∃ v, e = .returned (.tuple #[v, .int .i64 0]) ∧ Own8 w' w.heap.size v (expand l)) ∧ Below w.heap.size w w' := by
  have hl := chk_ok l h0
  have Hall := Lib.hid hl.2
  have hx : n ≤ 3000 := by have := hl.1; omega
  have Hn := Lib.hid hn
  have HA := Lib.hid hA
  have Hwf := Lib.hid hwf
  have H0 := Lib.hid h0
  clear hn hA hwf hl h0
  go_enter Try.func28, Try.ntmps28
  go_wp2_with fail
  refine (check_any A n c l w Hn.out (by unfold maxLen; omega) HA.out Hwf.out).mono ?_
  rintro e w1 ⟨rfl, hb1⟩
  rw [H0.out]
  have Hb1 := Lib.hid hb1
  clear hb1
  go_wp2_with fail
  go_loopw [5, 15] (fun v i wr => ∃ V : Value, V = v ∧ ∃ k : Nat, k ≤ n ∧ i = .int .i64 (k : Int) ∧ Own8 wr w.heap.size V (expand (l.take k)) ∧ Below w.heap.size w wr) (fun _ i _ => n - (intOf i).toNat)
  case atStart => exact ⟨_, rfl, 0, Nat.zero_le _, rfl, World.ownsRow_nil _ _ _ _, Hb1.out⟩
  case round =>
    obtain ⟨v, rfl, k, hk, rfl, ho, hb⟩ := hrel
    obtain ⟨wo, rfl⟩ : ∃ wo : World, wo = wr := ⟨_, rfl⟩
    have Hb := Lib.hid hb
    have Ho := Lib.hid ho
    clear hb ho
    by_cases hlt : k < n
    · have hkl : k < l.length := by rw [Hn.out]; exact hlt
      obtain ⟨b, o, rfl, hc⟩ := slat_elem (size := 3) (fun _ => rfl) (by omega) (HA.out.below Hb.out) hkl
      have hc0 := hc 0 _ rfl
      have hc1 := hc 1 _ rfl
      have hc2 := hc 2 _ rfl
      have hat := at_tok l k hkl Hall.out (by rw [Hn.out]; exact hx)
      have Hsn := Lib.hid (expand_snoc l k hkl)
      have hok := hat.2
      have hN := hat.1
      clear hc hat
      generalize l[k] = t at *
      obtain ⟨x, s, f⟩ := t
      simp only [iv, u8v, Nat.add_zero] at hc0 hc1 hc2
      generalize expand (l.take k) = ys at *
      have hok2 := tok_ok _ x s f hok
      clear hok
      have Hbk := Lib.hid (Blk.new wo 80 #[.int .u8 (n8 x), .int .i64 s, .int .i64 f])
      have Ho1 : Hid (Own8 (wo.alloc (.cells #[.int .u8 (n8 x), .int .i64 s, .int .i64 f] 80)) w.heap.size v ys) := Lib.hid (own_keep Ho.out ((Below.refl wo.heap.size wo).alloc (Nat.le_refl _) _))
      have Hb2 := Lib.hid (Hb.out.alloc Hb.out.size (.cells #[.int .u8 (n8 x), .int .i64 s, .int .i64 f] 80))
      rcases hok2 with ⟨rfl, rfl⟩ | ⟨s1, s2, f1, f2⟩
      · have Hput := Lib.hid (Hsn.out.trans (putTok_lit ys x 0 0 rfl))
        clear Hsn
        have Hb3 := Lib.hid (Hb2.out.alloc Hb2.out.size (.cells #[.int .u8 (n8 x)] 5))
        have Ho3 := Lib.hid (own_keep Ho1.out ((Below.refl _ _).alloc (Nat.le_refl _) (.cells #[.int .u8 (n8 x)] 5)))
        have Hbk3 := Lib.hid (Hbk.out.alloc (.cells #[.int .u8 (n8 x)] 5))
        have Hsl := Lib.hid (slat_one (wo.alloc (.cells #[.int .u8 (n8 x), .int .i64 0, .int .i64 0] 80)) 5 (.int .u8 (n8 x)))
        go_wp2_with (at_builtin; refine wpList_app _ rfl (.tmp 22) (.tmp 25) _ rfl w.heap.size 5 _ 1 1 ty8 v ys.length (ys.map u8v) rfl Ho3.out (some ⟨wo.heap.size + 1, 0, none⟩) 1 1 [.int .u8 (n8 x)] rfl rfl (by simpa using Hsl.out) (by simp [Value.oneCell']) (by simp) (by unfold maxLen; omega) (by omega) Hb3.out.size ?_; intro v4 w4 hown4 hg4 _; have Ho4 := Lib.hid (Own8.grow hown4); have Hb4 := Lib.hid (own_below Ho3.out hg4 Hb3.out Hb3.out.size); have Hbk4 := Lib.hid (Hbk3.out.grown hg4 (own_ne Ho3.out Hbk3.out (by decide))); have hd1 : w4.cell? ⟨wo.heap.size, 1, none⟩ = some (.int .i64 0) := Hbk4.out.cell 1; clear hown4 hg4)
        go_loopw [5, 29] (fun v j wx => ∃ V : Value, V = v ∧ j = .int .i64 0 ∧ Own8 wx w.heap.size V (ys ++ [x]) ∧ Below w.heap.size w wx) (fun _ _ _ => 0)
        case atStart => exact ⟨_, rfl, rfl, Ho4.out, Hb4.out⟩
        case round =>
          obtain ⟨v5, rfl, rfl, ho5, hb5⟩ := hrel
          have Ho5 := Lib.hid ho5
          have Hb5 := Lib.hid hb5
          clear ho5 hb5
          go_wp2_with fail
          go_roundw
          case rel => exact ⟨_, rfl, k + 1, by omega, by go_num, by rw [Hput.out]; exact Ho5.out, Hb5.out⟩
          case measure => simp [intOf]; omega
      · have hs0 : (s == 0) = false := by simp; omega
        have Hput := Lib.hid (Hsn.out.trans (putTok_cpy ys x s f (by omega)))
        clear Hsn
        obtain ⟨S, rfl⟩ := Int.eq_ofNat_of_zero_le (by omega : 0 ≤ s)
        obtain ⟨D, rfl⟩ := Int.eq_ofNat_of_zero_le (by omega : 0 ≤ f)
        rw [Int.toNat_natCast, Int.toNat_natCast] at Hput
        go_wp2_with fail
        go_loopw [5, 29] (fun v t wx => ∃ V : Value, V = v ∧ ∃ j : Nat, j ≤ S ∧ t = .int .i64 (j : Int) ∧ Own8 wx w.heap.size V (cpy D j ys) ∧ Below w.heap.size w wx ∧ Blk wx wo.heap.size 80 #[.int .u8 (n8 x), .int .i64 (S : Int), .int .i64 (D : Int)]) (fun _ t _ => S - (intOf t).toNat)
        case atStart => exact ⟨_, rfl, 0, Nat.zero_le _, rfl, Ho1.out, Hb2.out, Hbk.out⟩
        case round =>
          obtain ⟨v5, rfl, j, hj, rfl, ho5, hb5, hbk5⟩ := hrel
          have Ho5 := Lib.hid ho5
          have Hb5 := Lib.hid hb5
          have Hbk5 := Lib.hid hbk5
          have hlen := cpy_length D j ys
          by_cases hjs : j < S
          · have hlen2 : (cpy D j ys).length ≤ 774258 := by omega
            have hidx : ys.length + j - D < (cpy D j ys).length := by omega
            have Hcs : Hid (∀ y, (cpy D j ys)[ys.length + j - D]? = some y → cpy D (j + 1) ys = cpy D j ys ++ [y]) := Lib.hid (fun y hy => cpy_succ D j ys _ (by omega) (by omega) y hy)
            have hy : ∃ y, (cpy D j ys)[ys.length + j - D]? = some y := ⟨_, List.getElem?_eq_getElem hidx⟩
            obtain ⟨y, hy⟩ := hy
            have Hnx := Lib.hid (Hcs.out y hy)
            have hd2 : wr.cell? ⟨wo.heap.size, 2, none⟩ = some (.int .i64 (D : Int)) := hbk5.cell 2
            obtain ⟨g, cap, hv, hgb, hgl⟩ := World.ownsRow.form ho5 (by omega)
            subst hv
            have hcell : wr.cell? ⟨g, ys.length + j - D, none⟩ = some (.int .u8 (n8 y)) := by
              rw [World.ownsRow.cellAt ho5 _ (by omega), List.getElem?_map, hy]; rfl
            have Hlen := Lib.hid hlen
            clear ho5 hb5 hbk5 hy Hcs hlen
            generalize cpy D j ys = zs at *
            have hN : zs.length = ys.length + j := Hlen.out
            have h1 : (0 : Int) ≤ (zs.length : Int) - (D : Int) := by omega
            have h2 : ((zs.length : Int) - (D : Int)).toNat = ys.length + j - D := by omega
            clear hN
            have Hb6 := Lib.hid (Hb5.out.alloc Hb5.out.size (.cells #[.int .u8 (n8 y)] 5))
            have Ho6 := Lib.hid (own_keep Ho5.out ((Below.refl _ _).alloc (Nat.le_refl _) (.cells #[.int .u8 (n8 y)] 5)))
            have Hbk6 := Lib.hid (Hbk5.out.alloc (.cells #[.int .u8 (n8 y)] 5))
            have Hsl := Lib.hid (slat_one wr 5 (.int .u8 (n8 y)))
            go_wp2_with (at_builtin; refine wpList_app _ rfl (.tmp 31) (.tmp 40) _ rfl w.heap.size 5 _ 1 1 ty8 _ zs.length (zs.map u8v) rfl Ho6.out (some ⟨wr.heap.size, 0, none⟩) 1 1 [.int .u8 (n8 y)] rfl rfl Hsl.out (by simp [Value.oneCell']) (by simp) (by unfold maxLen; omega) (by omega) Hb6.out.size ?_; intro v7 w7 hown7 hg7 _; have Ho7 := Lib.hid (Own8.grow hown7); have Hb7 := Lib.hid (own_below Ho6.out hg7 Hb6.out Hb6.out.size); have Hbk7 := Lib.hid (Hbk6.out.grown hg7 (own_ne Ho6.out Hbk6.out (by decide))); clear hown7 hg7)
            go_roundw
            case rel => exact ⟨_, rfl, j + 1, by omega, by go_num, by rw [Hnx.out]; exact Ho7.out, Hb7.out, Hbk7.out⟩
            case measure => simp [intOf]; omega
          · obtain rfl : j = S := by omega
            clear ho5 hb5 hbk5 hlen
            go_wp2_with fail
            go_roundw
            case rel => exact ⟨_, rfl, k + 1, by omega, by go_num, by rw [Hput.out]; exact Ho5.out, Hb5.out⟩
            case measure => simp [intOf]; omega
    · obtain rfl : k = n := by omega
      have Htk := Lib.hid (List.take_of_length_le (by rw [Hn.out]; omega : l.length ≤ k))
      have ho := Ho.out
      rw [Htk.out] at ho
      have Ho' := Lib.hid ho
      clear ho
      go_wp2_with fail
      go_ret2
      exact ⟨⟨_, rfl, Ho'.out⟩, Hb.out⟩
set_option maxRecDepth 100000 in
set_option maxHeartbeats 4000000 in
theorem expanded_yes (A : Option Addr) (n c : Nat) (l : List Tok) (w : World) (hn : l.length = n) (hA : SlAt w A (l.flatMap tokC)) (hwf : ∀ t ∈ l, wfT t) (h0 : chk l = 0) :
    Calls Try.prog 33 #[.slice A n c] w fun e w' => (∃ v, e = .returned v ∧ Own8 w' w.heap.size v (expand l)) ∧ Below w.heap.size w w' := by
  have hl := chk_ok l h0
  have Hall := Lib.hid hl.2
  have hx : n ≤ 3000 := by have := hl.1; omega
  have Hn := Lib.hid hn
  have HA := Lib.hid hA
  have Hwf := Lib.hid hwf
  have H0 := Lib.hid h0
  clear hn hA hwf hl h0
  go_enter Try.func33, Try.ntmps33
  go_wp2_with fail
  go_loopw [3, 10] (fun v i wr => ∃ V : Value, V = v ∧ ∃ k : Nat, k ≤ n ∧ i = .int .i64 (k : Int) ∧ Own8 wr w.heap.size V (expand (l.take k)) ∧ Below w.heap.size w wr) (fun _ i _ => n - (intOf i).toNat)
  case atStart => exact ⟨_, rfl, 0, Nat.zero_le _, rfl, World.ownsRow_nil _ _ _ _, Below.refl _ _⟩
  case round =>
    obtain ⟨v, rfl, k, hk, rfl, ho, hb⟩ := hrel
    obtain ⟨wo, rfl⟩ : ∃ wo : World, wo = wr := ⟨_, rfl⟩
    have Hb := Lib.hid hb
    have Ho := Lib.hid ho
    clear hb ho
    by_cases hlt : k < n
    · have hkl : k < l.length := by rw [Hn.out]; exact hlt
      obtain ⟨b, o, rfl, hc⟩ := slat_elem (size := 3) (fun _ => rfl) (by omega) (HA.out.below Hb.out) hkl
      have hc0 := hc 0 _ rfl
      have hc1 := hc 1 _ rfl
      have hc2 := hc 2 _ rfl
      have hat := at_tok l k hkl Hall.out (by rw [Hn.out]; exact hx)
      have Hsn := Lib.hid (expand_snoc l k hkl)
      have hok := hat.2
      have hN := hat.1
      clear hc hat
      generalize l[k] = t at *
      obtain ⟨x, s, f⟩ := t
      simp only [iv, u8v, Nat.add_zero] at hc0 hc1 hc2
      generalize expand (l.take k) = ys at *
      have hok2 := tok_ok _ x s f hok
      clear hok
      have Hbk := Lib.hid (Blk.new wo 80 #[.int .u8 (n8 x), .int .i64 s, .int .i64 f])
      have Ho1 : Hid (Own8 (wo.alloc (.cells #[.int .u8 (n8 x), .int .i64 s, .int .i64 f] 80)) w.heap.size v ys) := Lib.hid (own_keep Ho.out ((Below.refl wo.heap.size wo).alloc (Nat.le_refl _) _))
      have Hb2 := Lib.hid (Hb.out.alloc Hb.out.size (.cells #[.int .u8 (n8 x), .int .i64 s, .int .i64 f] 80))
      rcases hok2 with ⟨rfl, rfl⟩ | ⟨s1, s2, f1, f2⟩
      · have Hput := Lib.hid (Hsn.out.trans (putTok_lit ys x 0 0 rfl))
        clear Hsn
        have Hb3 := Lib.hid (Hb2.out.alloc Hb2.out.size (.cells #[.int .u8 (n8 x)] 5))
        have Ho3 := Lib.hid (own_keep Ho1.out ((Below.refl _ _).alloc (Nat.le_refl _) (.cells #[.int .u8 (n8 x)] 5)))
        have Hbk3 := Lib.hid (Hbk.out.alloc (.cells #[.int .u8 (n8 x)] 5))
        have Hsl := Lib.hid (slat_one (wo.alloc (.cells #[.int .u8 (n8 x), .int .i64 0, .int .i64 0] 80)) 5 (.int .u8 (n8 x)))
        go_wp2_with (at_builtin; refine wpList_app _ rfl (.tmp 17) (.tmp 20) _ rfl w.heap.size 5 _ 1 1 ty8 v ys.length (ys.map u8v) rfl Ho3.out (some ⟨wo.heap.size + 1, 0, none⟩) 1 1 [.int .u8 (n8 x)] rfl rfl (by simpa using Hsl.out) (by simp [Value.oneCell']) (by simp) (by unfold maxLen; omega) (by omega) Hb3.out.size ?_; intro v4 w4 hown4 hg4 _; have Ho4 := Lib.hid (Own8.grow hown4); have Hb4 := Lib.hid (own_below Ho3.out hg4 Hb3.out Hb3.out.size); have Hbk4 := Lib.hid (Hbk3.out.grown hg4 (own_ne Ho3.out Hbk3.out (by decide))); clear hown4 hg4)
        go_roundw
        case rel => exact ⟨_, rfl, k + 1, by omega, by go_num, by rw [Hput.out]; exact Ho4.out, Hb4.out⟩
        case measure => simp [intOf]; omega
      · have hs0 : (s == 0) = false := by simp; omega
        have Hput := Lib.hid (Hsn.out.trans (putTok_cpy ys x s f (by omega)))
        clear Hsn
        obtain ⟨S, rfl⟩ := Int.eq_ofNat_of_zero_le (by omega : 0 ≤ s)
        obtain ⟨D, rfl⟩ := Int.eq_ofNat_of_zero_le (by omega : 0 ≤ f)
        rw [Int.toNat_natCast, Int.toNat_natCast] at Hput
        obtain ⟨g0, cap0, hv0, _, _⟩ := World.ownsRow.form Ho1.out (by omega)
        subst hv0
        go_wp2_with fail
        go_loopw [3, 29] (fun v t wx => ∃ V : Value, V = v ∧ ∃ j : Nat, j ≤ S ∧ t = .int .i64 (j : Int) ∧ Own8 wx w.heap.size V (cpy D j ys) ∧ Below w.heap.size w wx ∧ Blk wx wo.heap.size 80 #[.int .u8 (n8 x), .int .i64 (S : Int), .int .i64 (D : Int)]) (fun _ t _ => S - (intOf t).toNat)
        case atStart => exact ⟨_, rfl, 0, Nat.zero_le _, rfl, Ho1.out, Hb2.out, Hbk.out⟩
        case round =>
          obtain ⟨v5, rfl, j, hj, rfl, ho5, hb5, hbk5⟩ := hrel
          have Ho5 := Lib.hid ho5
          have Hb5 := Lib.hid hb5
          have Hbk5 := Lib.hid hbk5
          have hlen := cpy_length D j ys
          by_cases hjs : j < S
          · have hlen2 : (cpy D j ys).length ≤ 774258 := by omega
            have hidx : ys.length + j - D < (cpy D j ys).length := by omega
            have Hcs : Hid (∀ y, (cpy D j ys)[ys.length + j - D]? = some y → cpy D (j + 1) ys = cpy D j ys ++ [y]) := Lib.hid (fun y hy => cpy_succ D j ys _ (by omega) (by omega) y hy)
            have hy : ∃ y, (cpy D j ys)[ys.length + j - D]? = some y := ⟨_, List.getElem?_eq_getElem hidx⟩
            obtain ⟨y, hy⟩ := hy
            have Hnx := Lib.hid (Hcs.out y hy)
            obtain ⟨g, cap, hv, hgb, hgl⟩ := World.ownsRow.form ho5 (by omega)
            subst hv
            have hcell : wr.cell? ⟨g, ys.length + j - D, none⟩ = some (.int .u8 (n8 y)) := by
              rw [World.ownsRow.cellAt ho5 _ (by omega), List.getElem?_map, hy]; rfl
            have Hlen := Lib.hid hlen
            clear ho5 hb5 hbk5 hy Hcs hlen
            generalize cpy D j ys = zs at *
            have hN : zs.length = ys.length + j := Hlen.out
            have h1 : (0 : Int) ≤ (ys.length : Int) - (D : Int) + (j : Int) := by omega
            have h2 : ((ys.length : Int) - (D : Int) + (j : Int)).toNat = ys.length + j - D := by omega
            have h3 : (ys.length : Int) - (D : Int) + (j : Int) < (zs.length : Int) := by omega
            clear hN
            have Hb6 := Lib.hid (Hb5.out.alloc Hb5.out.size (.cells #[.int .u8 (n8 y)] 5))
            have Ho6 := Lib.hid (own_keep Ho5.out ((Below.refl _ _).alloc (Nat.le_refl _) (.cells #[.int .u8 (n8 y)] 5)))
            have Hbk6 := Lib.hid (Hbk5.out.alloc (.cells #[.int .u8 (n8 y)] 5))
            have Hsl := Lib.hid (slat_one wr 5 (.int .u8 (n8 y)))
            go_wp2_with (at_builtin; refine wpList_app _ rfl (.tmp 32) (.tmp 39) _ rfl w.heap.size 5 _ 1 1 ty8 _ zs.length (zs.map u8v) rfl Ho6.out (some ⟨wr.heap.size, 0, none⟩) 1 1 [.int .u8 (n8 y)] rfl rfl Hsl.out (by simp [Value.oneCell']) (by simp) (by unfold maxLen; omega) (by omega) Hb6.out.size ?_; intro v7 w7 hown7 hg7 _; have Ho7 := Lib.hid (Own8.grow hown7); have Hb7 := Lib.hid (own_below Ho6.out hg7 Hb6.out Hb6.out.size); have Hbk7 := Lib.hid (Hbk6.out.grown hg7 (own_ne Ho6.out Hbk6.out (by decide))); clear hown7 hg7)
            go_roundw
            case rel => exact ⟨_, rfl, j + 1, by omega, by go_num, by rw [Hnx.out]; exact Ho7.out, Hb7.out, Hbk7.out⟩
            case measure => simp [intOf]; omega
          · obtain rfl : j = S := by omega
            clear ho5 hb5 hbk5 hlen
            go_wp2_with fail
            go_roundw
            case rel => exact ⟨_, rfl, k + 1, by omega, by go_num, by rw [Hput.out]; exact Ho5.out, Hb5.out⟩
            case measure => simp [intOf]; omega
    · obtain rfl : k = n := by omega
      have Htk := Lib.hid (List.take_of_length_le (by rw [Hn.out]; omega : l.length ≤ k))
      have ho := Ho.out
      rw [Htk.out] at ho
      have Ho' := Lib.hid ho
      clear ho
      go_wp2_with fail
      go_ret
      exact ⟨⟨_, rfl, Ho'.out⟩, Hb.out⟩
set_option maxHeartbeats 800000 in
theorem expand_no (A : Option Addr) (n c : Nat) (l : List Tok) (w : World) (hn : l.length = n) (hx : n ≤ maxLen) (hA : SlAt w A (l.flatMap tokC)) (hwf : ∀ t ∈ l, wfT t) (h0 : chk l ≠ 0) :
    Calls Try.prog 28 #[.slice A n c] w fun e w' => e = .returned (.tuple #[.slice none 0 0, .int .i64 (chk l)]) ∧ Below w.heap.size w w' := by
  have Hn := Lib.hid hn
  have HA := Lib.hid hA
  have Hwf := Lib.hid hwf
  have h1 : (chk l != 0) = true := by simpa using h0
  have Hx := Lib.hid hx
  clear hn hA hwf h0 hx
  go_enter Try.func28, Try.ntmps28
  go_wp2_with fail
  refine (check_any A n c l w Hn.out Hx.out HA.out Hwf.out).mono ?_
  rintro e w1 ⟨rfl, hb1⟩
  have Hb1 := Lib.hid hb1
  clear hb1
  generalize hz : chk l = z at *
  have Hz := Lib.hid hz
  clear hz
  go_wp2_with fail
  go_ret2
  exact ⟨by rw [Hz.out]; rfl, Hb1.out⟩
end Go.Proofs.Ytoncjlbgheaabaa.Match
