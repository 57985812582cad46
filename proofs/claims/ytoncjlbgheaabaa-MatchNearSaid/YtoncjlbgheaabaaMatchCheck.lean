/- package match: Check and Expand; the reference's CheckTokens and Expanded. -/
import Derived.Test.YtoncjlbgheaabaaMatchTok
import Derived.Test.YtoncjlbgheaabaaPairs
namespace Go.Proofs.Ytoncjlbgheaabaa.Match
open Go Go.RowKit Go.Proofs.Ytoncjlbgheaabaa
set_option linter.unusedVariables false

def wfT (t : Tok) : Prop := wfI t.2.1 ∧ wfI t.2.2
theorem len3 {α : Type} {l : List α} (h : l.length = 3) : ∃ a b c, l = [a, b, c] := by
  match l, h with
  | [a, b, c], _ => exact ⟨a, b, c, rfl⟩
theorem rd_tok {H : Type} {enc : TypeId × Value → H} {w : World} : Rd H enc Try.prog w 80 tokC wfT := by
  intro base spare held fuel cs x h
  obtain ⟨xs, m, _, _, hl, hxl, hf⟩ := DataW.trod_struct Try.underlying80 h
  have hc : Try.prog.cellsOf 80 = 3 := by kernel_rfl
  have c5 : Try.prog.cellsOf 5 = 1 := by kernel_rfl
  have c3 : Try.prog.cellsOf 3 = 1 := by kernel_rfl
  rw [hc] at hl
  obtain ⟨a, b, c, rfl⟩ := len3 hl
  obtain ⟨y0, y1, y2, rfl⟩ := len3 (show xs.length = 3 from hxl)
  have h0 : DataW.trod enc Try.prog w base spare held m 5 (List.take (Try.prog.cellsOf 5) (List.drop 0 [a, b, c])) = some y0 := hf 0 _ rfl
  have h1 : DataW.trod enc Try.prog w base spare held m 3 (List.take (Try.prog.cellsOf 3) (List.drop 1 [a, b, c])) = some y1 := hf 1 _ rfl
  have h2 : DataW.trod enc Try.prog w base spare held m 3 (List.take (Try.prog.cellsOf 3) (List.drop 2 [a, b, c])) = some y2 := hf 2 _ rfl
  rw [c5] at h0
  rw [c3] at h1 h2
  simp only [List.drop_zero, List.drop_succ_cons, List.take_succ_cons, List.take_zero] at h0 h1 h2
  obtain ⟨n0, q0, _, w0⟩ := DataW.trod_int Try.underlying5 h0
  obtain ⟨n1, q1, _, w1⟩ := DataW.trod_int Try.underlying3 h1
  obtain ⟨n2, q2, _, w2⟩ := DataW.trod_int Try.underlying3 h2
  injection q0 with q0 _
  injection q1 with q1 _
  injection q2 with q2 _
  obtain ⟨u, rfl⟩ := wf_u8 w0
  subst q0 q1 q2
  exact ⟨(u, n1, n2), rfl, w1, w2⟩
theorem chkAll_stop (a c : List Tok) (n : Int) (h : (chkAll a n).1 ≠ 0) : chkAll (a ++ c) n = chkAll a n := by
  induction a generalizing n with
  | nil => simp [chkAll] at h
  | cons t a ih =>
    simp only [List.cons_append, chkAll] at h ⊢
    split
    · rename_i h1; rw [if_pos h1] at h; exact ih _ h
    · rfl
theorem chkTok_bd (t : Tok) (n : Int) (hn : 0 ≤ n) (h : (chkTok n t).1 = 0) : 0 ≤ (chkTok n t).2 ∧ (chkTok n t).2 ≤ n + 258 := by
  unfold chkTok at h ⊢
  by_cases g : t.2.1 = 0
  · rw [if_pos g] at h ⊢
    by_cases g2 : t.2.2 = 0
    · rw [if_neg (by simp [g2])]; simp; omega
    · rw [if_pos g2] at h; simp at h
  · rw [if_neg g] at h ⊢
    by_cases g2 : t.1 ≠ 0
    · rw [if_pos g2] at h; simp at h
    · rw [if_neg g2] at h ⊢
      by_cases g3 : t.2.1 < 3 ∨ 258 < t.2.1 ∨ t.2.2 < 1
      · rw [if_pos g3] at h; simp at h
      · rw [if_neg g3] at h ⊢
        by_cases g4 : n < t.2.2
        · rw [if_pos g4] at h; simp at h
        · rw [if_neg g4]; simp; omega
theorem chkAll_bd (l : List Tok) (n : Int) (hn : 0 ≤ n) (h : (chkAll l n).1 = 0) : 0 ≤ (chkAll l n).2 ∧ (chkAll l n).2 ≤ n + 258 * l.length := by
  induction l generalizing n with
  | nil => simp [chkAll]; omega
  | cons t l ih =>
    simp only [chkAll] at h ⊢
    split
    · rename_i h1
      rw [if_pos h1] at h
      have h2 := chkTok_bd t n hn h1
      have := ih _ h2.1 h
      simp; omega
    · rename_i h1; rw [if_neg h1] at h; exact absurd h h1
theorem chk_snoc (l : List Tok) (k : Nat) (hk : k < l.length) (n m : Int) (h : chkAll (l.take k) 0 = (0, n)) (ht : chkTok n l[k] = (0, m)) : chkAll (l.take (k + 1)) 0 = (0, m) := by
  rw [take_snoc _ _ hk, chkAll_append _ _ _ (by rw [h]), h]
  simp [chkAll, ht]
theorem chk_bad (l : List Tok) (k : Nat) (hk : k < l.length) (n m e : Int) (h : chkAll (l.take k) 0 = (0, n)) (he : e ≠ 0) (ht : chkTok n l[k] = (e, m)) (hl : l.length ≤ 3000) : chk l = e := by
  have h1 : chkAll (l.take (k + 1)) 0 = (e, n) := by
    rw [take_snoc _ _ hk, chkAll_append _ _ _ (by rw [h]), h]
    simp [chkAll, ht, he]
  have h2 : chkAll l 0 = (e, n) := by
    have := chkAll_stop (l.take (k + 1)) (l.drop (k + 1)) 0 (by rw [h1]; exact he)
    rw [List.take_append_drop, h1] at this
    exact this
  unfold chk
  rw [if_neg (by omega), h2, if_pos he]
theorem chk_all (l : List Tok) (n : Int) (h : chkAll l 0 = (0, n)) (hl : l.length ≤ 3000) : chk l = if 3000 < n then 2 else 0 := by
  unfold chk
  rw [if_neg (by omega), h, if_neg (by simp)]
theorem chkTok1 (b : UInt8) (s f n : Int) (h1 : s = 0) (h2 : f ≠ 0) : chkTok n (b, s, f) = (4, n) := by
  unfold chkTok; dsimp only; rw [if_pos h1, if_pos h2]
theorem chkTok2 (b : UInt8) (s f n : Int) (h1 : s = 0) (h2 : f = 0) : chkTok n (b, s, f) = (0, n + 1) := by
  unfold chkTok; dsimp only; rw [if_pos h1, if_neg (by simpa using h2)]
theorem chkTok3 (b : UInt8) (s f n : Int) (h1 : s ≠ 0) (h2 : b ≠ 0) : chkTok n (b, s, f) = (4, n) := by
  unfold chkTok; dsimp only; rw [if_neg h1, if_pos h2]
theorem chkTok4 (b : UInt8) (s f n : Int) (h1 : s ≠ 0) (h2 : b = 0) (h3 : s < 3 ∨ 258 < s ∨ f < 1) : chkTok n (b, s, f) = (3, n) := by
  unfold chkTok; dsimp only; rw [if_neg h1, if_neg (by simpa using h2), if_pos h3]
theorem chkTok7 (b : UInt8) (s f n : Int) (h1 : s ≠ 0) (h2 : b = 0) (h3 : ¬ (s < 3 ∨ 258 < s ∨ f < 1)) (h4 : n < f) : chkTok n (b, s, f) = (9, n) := by
  unfold chkTok; dsimp only; rw [if_neg h1, if_neg (by simpa using h2), if_neg h3, if_pos h4]
theorem chkTok8 (b : UInt8) (s f n : Int) (h1 : s ≠ 0) (h2 : b = 0) (h3 : ¬ (s < 3 ∨ 258 < s ∨ f < 1)) (h4 : ¬ n < f) : chkTok n (b, s, f) = (0, n + s) := by
  unfold chkTok; dsimp only; rw [if_neg h1, if_neg (by simpa using h2), if_neg h3, if_neg h4]
theorem n8_zero (b : UInt8) (h : b = 0) : (n8 b != 0) = false ∧ (n8 b == 0) = true := by subst h; exact ⟨by decide, by decide⟩
theorem n8_pos (b : UInt8) (h : b ≠ 0) : (n8 b != 0) = true ∧ (n8 b == 0) = false := by
  have : n8 b ≠ 0 := fun e => h (n8_inj (e.trans (show (0 : Int) = n8 0 by decide)))
  simp [this]

set_option maxRecDepth 100000 in
set_option maxHeartbeats 4000000 in
theorem check_few (A : Option Addr) (n c : Nat) (l : List Tok) (w : World) (hn : l.length = n) (hx : n ≤ 3000) (hA : SlAt w A (l.flatMap tokC)) (hwf : ∀ t ∈ l, wfT t) :
    Calls Try.prog 31 #[.slice A n c] w fun e w' => e = .returned (.int .i64 (chk l)) ∧ Below w.heap.size w w' := by
  have Hn := Lib.hid hn
  have HA := Lib.hid hA
  have Hwf := Lib.hid hwf
  clear hn hA hwf
  have hnm : ¬ (3000 < (n : Int)) := by omega
  go_enter Try.func31, Try.ntmps31
  go_wp2_with fail
  go_loopw [3, 11] (fun v i wr => ∃ k : Nat, ∃ z : Int, k ≤ n ∧ i = .int .i64 (k : Int) ∧ chkAll (l.take k) 0 = (0, z) ∧ v = .int .i64 z ∧ Below w.heap.size w wr) (fun _ i _ => n - (intOf i).toNat)
  case atStart => exact ⟨0, 0, Nat.zero_le _, rfl, rfl, rfl, Below.refl _ _⟩
  case round =>
    obtain ⟨k, z, hk, rfl, hz, rfl, hb⟩ := hrel
    have Hb := Lib.hid hb
    have Hz := Lib.hid hz
    have hbd := chkAll_bd (l.take k) 0 (by omega) (by rw [hz])
    rw [hz] at hbd
    have hz0 : 0 ≤ z := hbd.1
    have hz1 : z ≤ 774000 := by have := hbd.2; simp at this; omega
    clear hb hz hbd
    by_cases hlt : k < n
    · have hkl : k < l.length := by rw [Hn.out]; exact hlt
      obtain ⟨b, o, rfl, hc⟩ := slat_elem (size := 3) (fun _ => rfl) (by omega) (HA.out.below Hb.out) hkl
      have hc0 := hc 0 _ rfl
      have hc1 := hc 1 _ rfl
      have hc2 := hc 2 _ rfl
      have hw := Hwf.out l[k] (List.getElem_mem hkl)
      have Hsn : Hid (∀ m, chkTok z l[k] = (0, m) → chkAll (l.take (k + 1)) 0 = (0, m)) := Lib.hid (fun m h => chk_snoc l k hkl z m Hz.out h)
      have Hbd : Hid (∀ e m, e ≠ 0 → chkTok z l[k] = (e, m) → chk l = e) := Lib.hid (fun e m he h => chk_bad l k hkl z m e Hz.out he h (by rw [Hn.out]; exact hx))
      clear hc
      generalize l[k] = t at *
      obtain ⟨x, s, f⟩ := t
      simp only [iv, u8v, Nat.add_zero] at hc0 hc1 hc2
      have hws := wf_i64 hw.1
      have hwf2 := wf_i64 hw.2
      dsimp only at hws hwf2
      clear hw
      by_cases hs : s = 0
      · have g1 : (s == 0) = true := by simpa using hs
        have g2 : (s != 0) = false := by simpa using hs
        by_cases hf : f = 0
        · have f1 : (f == 0) = true := by simpa using hf
          have f2 : (f != 0) = false := by simpa using hf
          have Hs := Lib.hid (Hsn.out _ (chkTok2 x s f z hs hf))
          clear Hsn Hbd hs hf
          go_wp2_with fail
          go_roundw
          case rel => exact ⟨k + 1, _, by omega, by go_num, Hs.out, rfl, Hb.out.alloc Hb.out.size _⟩
          case measure => simp [intOf]; omega
        · have f1 : (f == 0) = false := by simpa using hf
          have f2 : (f != 0) = true := by simpa using hf
          have Hf := Lib.hid (Hbd.out 4 _ (by decide) (chkTok1 x s f z hs hf))
          clear Hsn Hbd hs hf
          go_wp2_with fail
          go_ret
          exact ⟨ret_int Hf.out.symm, (Hb.out.alloc Hb.out.size _)⟩
      · have g1 : (s == 0) = false := by simpa using hs
        have g2 : (s != 0) = true := by simpa using hs
        by_cases hx0 : x = 0
        · obtain ⟨f1, f2⟩ := n8_zero x hx0
          have Hx0 := Lib.hid hx0
          have Hs0 := Lib.hid hs
          clear hs hx0
          by_cases r : s < 3 ∨ 258 < s ∨ f < 1
          · have Hf := Lib.hid (Hbd.out 3 _ (by decide) (chkTok4 x s f z Hs0.out Hx0.out r))
            clear Hsn Hbd
            by_cases r1 : s < 3
            · clear r
              go_wp2_with fail
              go_ret
              exact ⟨ret_int Hf.out.symm, (Hb.out.alloc Hb.out.size _)⟩
            · by_cases r2 : 258 < s
              · clear r
                go_wp2_with fail
                go_ret
                exact ⟨ret_int Hf.out.symm, (Hb.out.alloc Hb.out.size _)⟩
              · have r3 : f < 1 := by omega
                clear r
                go_wp2_with fail
                go_ret
                exact ⟨ret_int Hf.out.symm, (Hb.out.alloc Hb.out.size _)⟩
          · have r1 : ¬ s < 3 := by omega
            have r2 : ¬ 258 < s := by omega
            have r3 : ¬ f < 1 := by omega
            by_cases r4 : z < f
            · have Hf := Lib.hid (Hbd.out 9 _ (by decide) (chkTok7 x s f z Hs0.out Hx0.out r r4))
              clear Hsn Hbd r
              go_wp2_with fail
              go_ret
              exact ⟨ret_int Hf.out.symm, (Hb.out.alloc Hb.out.size _)⟩
            · have Hs := Lib.hid (Hsn.out _ (chkTok8 x s f z Hs0.out Hx0.out r r4))
              clear Hsn Hbd r
              go_wp2_with fail
              go_roundw
              case rel => exact ⟨k + 1, _, by omega, by go_num, Hs.out, rfl, Hb.out.alloc Hb.out.size _⟩
              case measure => simp [intOf]; omega
        · obtain ⟨f1, f2⟩ := n8_pos x hx0
          have Hf := Lib.hid (Hbd.out 4 _ (by decide) (chkTok3 x s f z hs hx0))
          clear Hsn Hbd hs hx0
          go_wp2_with fail
          go_ret
          exact ⟨ret_int Hf.out.symm, (Hb.out.alloc Hb.out.size _)⟩
    · obtain rfl : k = n := by omega
      have hal := Hz.out
      rw [List.take_of_length_le (by rw [Hn.out]; omega)] at hal
      have Hf := Lib.hid (chk_all l z hal (by rw [Hn.out]; exact hx))
      clear hal
      by_cases h3 : 3000 < z
      · have Hr : Hid (chk l = 2) := Lib.hid (by rw [Hf.out, if_pos h3])
        go_wp2_with fail
        go_ret
        exact ⟨ret_int Hr.out.symm, Hb.out⟩
      · have Hr : Hid (chk l = 0) := Lib.hid (by rw [Hf.out, if_neg h3])
        go_wp2_with fail
        go_ret
        exact ⟨ret_int Hr.out.symm, Hb.out⟩
theorem check_any (A : Option Addr) (n c : Nat) (l : List Tok) (w : World) (hn : l.length = n) (hx : n ≤ maxLen) (hA : SlAt w A (l.flatMap tokC)) (hwf : ∀ t ∈ l, wfT t) :
    Calls Try.prog 31 #[.slice A n c] w fun e w' => e = .returned (.int .i64 (chk l)) ∧ Below w.heap.size w w' := by
  by_cases h : n ≤ 3000
  · exact check_few A n c l w hn h hA hwf
  · have Hc : Hid (chk l = 2) := Lib.hid (by unfold chk; rw [if_pos (by omega)])
    have hnm : 3000 < (n : Int) := by omega
    unfold maxLen at hx
    clear hn hA hwf
    go_enter Try.func31, Try.ntmps31
    go_wp2_with fail
    go_ret
    exact ⟨ret_int Hc.out.symm, Below.refl _ _⟩

set_option maxRecDepth 100000 in
set_option maxHeartbeats 4000000 in
theorem checkR_few (A : Option Addr) (n c : Nat) (l : List Tok) (w : World) (hn : l.length = n) (hx : n ≤ 3000) (hA : SlAt w A (l.flatMap tokC)) (hwf : ∀ t ∈ l, wfT t) :
    Calls Try.prog 29 #[.slice A n c] w fun e w' => e = .returned (.int .i64 (chk l)) ∧ Below w.heap.size w w' := by
  have Hn := Lib.hid hn
  have HA := Lib.hid hA
  have Hwf := Lib.hid hwf
  clear hn hA hwf
  have hnm : ¬ (3000 < (n : Int)) := by omega
  go_enter Try.func29, Try.ntmps29
  go_wp2_with fail
  go_loopw [3, 11] (fun v i wr => ∃ k : Nat, ∃ z : Int, k ≤ n ∧ i = .int .i64 (k : Int) ∧ chkAll (l.take k) 0 = (0, z) ∧ v = .int .i64 z ∧ Below w.heap.size w wr) (fun _ i _ => n - (intOf i).toNat)
  case atStart => exact ⟨0, 0, Nat.zero_le _, rfl, rfl, rfl, Below.refl _ _⟩
  case round =>
    obtain ⟨k, z, hk, rfl, hz, rfl, hb⟩ := hrel
    have Hb := Lib.hid hb
    have Hz := Lib.hid hz
    have hbd := chkAll_bd (l.take k) 0 (by omega) (by rw [hz])
    rw [hz] at hbd
    have hz0 : 0 ≤ z := hbd.1
    have hz1 : z ≤ 774000 := by have := hbd.2; simp at this; omega
    clear hb hz hbd
    by_cases hlt : k < n
    · have hkl : k < l.length := by rw [Hn.out]; exact hlt
      obtain ⟨b, o, rfl, hc⟩ := slat_elem (size := 3) (fun _ => rfl) (by omega) (HA.out.below Hb.out) hkl
      have hc0 := hc 0 _ rfl
      have hc1 := hc 1 _ rfl
      have hc2 := hc 2 _ rfl
      have hw := Hwf.out l[k] (List.getElem_mem hkl)
      have Hsn : Hid (∀ m, chkTok z l[k] = (0, m) → chkAll (l.take (k + 1)) 0 = (0, m)) := Lib.hid (fun m h => chk_snoc l k hkl z m Hz.out h)
      have Hbd : Hid (∀ e m, e ≠ 0 → chkTok z l[k] = (e, m) → chk l = e) := Lib.hid (fun e m he h => chk_bad l k hkl z m e Hz.out he h (by rw [Hn.out]; exact hx))
      clear hc
      generalize l[k] = t at *
      obtain ⟨x, s, f⟩ := t
      simp only [iv, u8v, Nat.add_zero] at hc0 hc1 hc2
      have hws := wf_i64 hw.1
      have hwf2 := wf_i64 hw.2
      dsimp only at hws hwf2
      clear hw
      by_cases hs : s = 0
      · have g1 : (s == 0) = true := by simpa using hs
        have g2 : (s != 0) = false := by simpa using hs
        by_cases hf : f = 0
        · have f1 : (f == 0) = true := by simpa using hf
          have f2 : (f != 0) = false := by simpa using hf
          have Hs := Lib.hid (Hsn.out _ (chkTok2 x s f z hs hf))
          clear Hsn Hbd hs hf
          go_wp2_with fail
          go_roundw
          case rel => exact ⟨k + 1, _, by omega, by go_num, Hs.out, rfl, Hb.out.alloc Hb.out.size _⟩
          case measure => simp [intOf]; omega
        · have f1 : (f == 0) = false := by simpa using hf
          have f2 : (f != 0) = true := by simpa using hf
          have Hf := Lib.hid (Hbd.out 4 _ (by decide) (chkTok1 x s f z hs hf))
          clear Hsn Hbd hs hf
          go_wp2_with fail
          go_ret
          exact ⟨ret_int Hf.out.symm, (Hb.out.alloc Hb.out.size _)⟩
      · have g1 : (s == 0) = false := by simpa using hs
        have g2 : (s != 0) = true := by simpa using hs
        by_cases hx0 : x = 0
        · obtain ⟨f1, f2⟩ := n8_zero x hx0
          have Hx0 := Lib.hid hx0
          have Hs0 := Lib.hid hs
          clear hs hx0
          by_cases r : s < 3 ∨ 258 < s ∨ f < 1
          · have Hf := Lib.hid (Hbd.out 3 _ (by decide) (chkTok4 x s f z Hs0.out Hx0.out r))
            clear Hsn Hbd
            by_cases r1 : s < 3
            · clear r
              go_wp2_with fail
              go_ret
              exact ⟨ret_int Hf.out.symm, (Hb.out.alloc Hb.out.size _)⟩
            · by_cases r2 : 258 < s
              · clear r
                go_wp2_with fail
                go_ret
                exact ⟨ret_int Hf.out.symm, (Hb.out.alloc Hb.out.size _)⟩
              · have r3 : f < 1 := by omega
                clear r
                go_wp2_with fail
                go_ret
                exact ⟨ret_int Hf.out.symm, (Hb.out.alloc Hb.out.size _)⟩
          · have r1 : ¬ s < 3 := by omega
            have r2 : ¬ 258 < s := by omega
            have r3 : ¬ f < 1 := by omega
            by_cases r4 : z < f
            · have Hf := Lib.hid (Hbd.out 9 _ (by decide) (chkTok7 x s f z Hs0.out Hx0.out r r4))
              clear Hsn Hbd r
              go_wp2_with fail
              go_ret
              exact ⟨ret_int Hf.out.symm, (Hb.out.alloc Hb.out.size _)⟩
            · have Hs := Lib.hid (Hsn.out _ (chkTok8 x s f z Hs0.out Hx0.out r r4))
              clear Hsn Hbd r
              go_wp2_with fail
              go_roundw
              case rel => exact ⟨k + 1, _, by omega, by go_num, Hs.out, rfl, Hb.out.alloc Hb.out.size _⟩
              case measure => simp [intOf]; omega
        · obtain ⟨f1, f2⟩ := n8_pos x hx0
          have Hf := Lib.hid (Hbd.out 4 _ (by decide) (chkTok3 x s f z hs hx0))
          clear Hsn Hbd hs hx0
          go_wp2_with fail
          go_ret
          exact ⟨ret_int Hf.out.symm, (Hb.out.alloc Hb.out.size _)⟩
    · obtain rfl : k = n := by omega
      have hal := Hz.out
      rw [List.take_of_length_le (by rw [Hn.out]; omega)] at hal
      have Hf := Lib.hid (chk_all l z hal (by rw [Hn.out]; exact hx))
      clear hal
      by_cases h3 : 3000 < z
      · have Hr : Hid (chk l = 2) := Lib.hid (by rw [Hf.out, if_pos h3])
        go_wp2_with fail
        go_ret
        exact ⟨ret_int Hr.out.symm, Hb.out⟩
      · have Hr : Hid (chk l = 0) := Lib.hid (by rw [Hf.out, if_neg h3])
        go_wp2_with fail
        go_ret
        exact ⟨ret_int Hr.out.symm, Hb.out⟩
theorem checkR_any (A : Option Addr) (n c : Nat) (l : List Tok) (w : World) (hn : l.length = n) (hx : n ≤ maxLen) (hA : SlAt w A (l.flatMap tokC)) (hwf : ∀ t ∈ l, wfT t) :
    Calls Try.prog 29 #[.slice A n c] w fun e w' => e = .returned (.int .i64 (chk l)) ∧ Below w.heap.size w w' := by
  by_cases h : n ≤ 3000
  · exact checkR_few A n c l w hn h hA hwf
  · have Hc : Hid (chk l = 2) := Lib.hid (by unfold chk; rw [if_pos (by omega)])
    have hnm : 3000 < (n : Int) := by omega
    unfold maxLen at hx
    clear hn hA hwf
    go_enter Try.func29, Try.ntmps29
    go_wp2_with fail
    go_ret
    exact ⟨ret_int Hc.out.symm, Below.refl _ _⟩
end Go.Proofs.Ytoncjlbgheaabaa.Match
