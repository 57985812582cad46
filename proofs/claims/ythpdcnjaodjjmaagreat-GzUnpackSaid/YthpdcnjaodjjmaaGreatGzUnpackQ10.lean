/- texts joined: CdsChk UnpTold UnpPos. -/
import Derived.Test.YthpdcnjaodjjmaaGreatGzUnpackQ1
import Derived.Test.YthpdcnjaodjjmaaGreatGzUnpackQ9
import Derived.Test.YthpdcnjaodjjmaaGreatGzUnpackQ5
import Derived.Deep.CutRange
import Derived.Deep.CutBlock
/- package reliquaryref: Room, CheckLengths. -/
namespace Go.Proofs.YthpdcnjaodjjmaaGreat.Cds
open Go Go.RowKit Go.Proofs.YthpdcnjaodjjmaaGreat Go.Proofs.YthpdcnjaodjjmaaGreat.Code
set_option linter.unusedVariables false

theorem half_down (x : Nat) (h : x ≤ 15) : (32768 : Int) / 2 ^ x = ((2 ^ (15 - x) : Nat) : Int) := by
 have : ∀ x < 16, (32768 : Int) / 2 ^ x = ((2 ^ (15 - x) : Nat) : Int) := by decide
 exact this x (by omega)
set_option maxRecDepth 100000 in
set_option maxHeartbeats 1600000 in
theorem room_any (A : Option Addr) (n c : Nat) (zs : List Int) (w : World) (hn : zs.length = n) (hx : n ≤ 288) (hz : ∀ z ∈ zs, 0 ≤ z ∧ z ≤ 15) (hA : InAt w A zs) :
  Calls Tryz.prog 86 #[.slice A n c] w fun e w' => e = .returned (.int .i64 ((room (lsOf zs) : Nat) : Int)) ∧ w' = w := by
 have Hn := Lib.hid hn
 have HA := Lib.hid hA
 have HZ := Lib.hid hz
 clear hn hA hz
 go_enter Tryz.func86, Tryz.ntmps86
 go_wp2_with fail
 go_loop [3, 8] (fun r i => ∃ k : Nat, k ≤ n ∧ i = .int .i64 (k : Int) ∧ r = .int .i64 ((room (lsOf (zs.take k)) : Nat) : Int)) (fun _ i => n - (intOf i).toNat)
 case atStart => exact ⟨0, Nat.zero_le _, rfl, rfl⟩
 case round =>
  obtain ⟨k, hk, rfl, rfl⟩ := hrel
  have hroom : room (lsOf (zs.take k)) ≤ 9437184 := by
   have h1 := room_le (lsOf (zs.take k))
   have h2 : (lsOf (zs.take k)).length ≤ 288 := by unfold lsOf; rw [List.length_map, List.length_take]; omega
   omega
  by_cases hlt : k < n
  ·have hkl : k < zs.length := by rw [Hn.out]; exact hlt
   obtain ⟨b, o, rfl, hc⟩ := HA.out.get hkl
   have Hr := Lib.hid (room_take zs k hkl)
   have hzk := HZ.out _ (List.getElem_mem hkl)
   generalize room (lsOf (zs.take k)) = r at *
   generalize zs[k] = z at *
   obtain ⟨x, rfl⟩ := Int.eq_ofNat_of_zero_le hzk.1
   rw [Int.toNat_natCast] at Hr
   by_cases h0 : x = 0
   ·subst h0
    have Hr' : Hid (room (lsOf (zs.take (k + 1))) = r) := Lib.hid (by rw [Hr.out]; rfl)
    go_wp2_with fail
    go_round
    case rel => exact ⟨k + 1, by omega, by go_num, by rw [Hr'.out]⟩
    case measure => simp [intOf]; omega
   ·have hx1 : 1 ≤ x := by omega
    have h0i : (0 : Int) < (x : Int) := by omega
    have Hr' : Hid (room (lsOf (zs.take (k + 1))) = r + 2 ^ (15 - x)) := Lib.hid (by rw [Hr.out, if_neg h0])
    have h3 : (2 : Nat) ^ (15 - x) ≤ 2 ^ 15 := Nat.pow_le_pow_right (by omega) (by omega)
    have ht := half_down x (by omega)
    generalize 2 ^ (15 - x) = y at *
    go_wp2_with fail
    go_round
    case rel => exact ⟨k + 1, by omega, by go_num, by rw [Hr'.out]; go_num⟩
    case measure => simp [intOf]; omega
  ·obtain rfl : k = n := by omega
   have Htk := Lib.hid (List.take_of_length_le (by rw [Hn.out]; omega : zs.length ≤ k))
   rw [Htk.out] at hroom ⊢
   go_wp2_with fail
   go_ret
   exact ⟨rfl, rfl⟩
set_option maxRecDepth 100000 in
set_option maxHeartbeats 1600000 in
theorem lengths_few (A : Option Addr) (n c : Nat) (zs : List Int) (w : World) (hn : zs.length = n) (hx : n ≤ 288) (hA : InAt w A zs) :
  Calls Tryz.prog 63 #[.slice A n c] w fun e w' => e = .returned (.int .i64 (chkL zs)) ∧ w' = w := by
 have Hn := Lib.hid hn
 have HA := Lib.hid hA
 clear hn hA
 have hnm : ¬ (288 < (n : Int)) := by omega
 go_enter Tryz.func63, Tryz.ntmps63
 go_wp2_with fail
 go_loop [10] (fun i => ∃ k : Nat, k ≤ n ∧ i = .int .i64 (k : Int) ∧ (zs.take k).any badLen = false) (fun i => n - (intOf i).toNat)
 case atStart => exact ⟨0, Nat.zero_le _, rfl, rfl⟩
 case round =>
  obtain ⟨k, hk, rfl, hany⟩ := hrel
  have Hany := Lib.hid hany
  clear hany
  by_cases hlt : k < n
  ·have hkl : k < zs.length := by rw [Hn.out]; exact hlt
   obtain ⟨b, o, rfl, hc⟩ := HA.out.get hkl
   have Hany2 := Lib.hid (any_take zs k hkl Hany.out)
   have Hbad := Lib.hid (chk_range zs k hkl (by rw [Hn.out]; exact hx))
   generalize zs[k] = z at *
   by_cases h1 : z < 0
   ·have Hf := Lib.hid (Hbad.out (by simp [badLen, h1]))
    clear Hbad Hany2
    go_wp2_with fail
    go_ret
    exact ⟨ret_int Hf.out.symm, rfl⟩
   ·by_cases h2 : 15 < z
    ·have Hf := Lib.hid (Hbad.out (by simp [badLen, h2]))
     clear Hbad Hany2
     go_wp2_with fail
     go_ret
     exact ⟨ret_int Hf.out.symm, rfl⟩
    ·have Ha := Lib.hid (Hany2.out (by simp [badLen]; omega))
     clear Hbad Hany2
     go_wp2_with fail
     go_round
     case rel => exact ⟨k + 1, by omega, by go_num, Ha.out⟩
     case measure => simp [intOf]; omega
  ·obtain rfl : k = n := by omega
   have hal := Hany.out
   have Htk := Lib.hid (List.take_of_length_le (by rw [Hn.out]; omega : zs.length ≤ k))
   rw [Htk.out] at hal
   have Hf := Lib.hid (chk_done zs (by rw [Hn.out]; exact hx) hal)
   have hz : ∀ z ∈ zs, 0 ≤ z ∧ z ≤ 15 := fun z hz => by
    have := List.any_eq_false.1 hal z hz
    simp [badLen] at this; exact this
   have HR := Lib.hid (room_any A k c zs w Hn.out hx hz HA.out)
   have hroom : room (lsOf zs) ≤ 9437184 := by
    have h1 := room_le (lsOf zs)
    have h2 : (lsOf zs).length = k := by unfold lsOf; rw [List.length_map]; exact Hn.out
    omega
   clear hal hz
   go_wp2_with fail
   refine (HR.out).mono ?_
   rintro e w2 ⟨rfl, hw⟩
   cases hw
   generalize room (lsOf zs) = r at *
   by_cases h3 : 32768 < r
   ·have Hr : Hid (chkL zs = 8) := Lib.hid (by rw [Hf.out, if_pos h3])
    go_wp2_with fail
    go_ret
    exact ⟨ret_int Hr.out.symm, rfl⟩
   ·have Hr : Hid (chkL zs = 0) := Lib.hid (by rw [Hf.out, if_neg h3])
    go_wp2_with fail
    go_ret
    exact ⟨ret_int Hr.out.symm, rfl⟩
theorem lengths_any (A : Option Addr) (n c : Nat) (zs : List Int) (w : World) (hn : zs.length = n) (hx : n ≤ maxLen) (hA : InAt w A zs) :
  Calls Tryz.prog 63 #[.slice A n c] w fun e w' => e = .returned (.int .i64 (chkL zs)) ∧ w' = w := by
 by_cases h : n ≤ 288
 ·exact lengths_few A n c zs w hn h hA
 ·have hnm : 288 < (n : Int) := by omega
  have Hf : Hid (chkL zs = 2) := Lib.hid (by unfold chkL; rw [if_pos (by omega)])
  clear hn hA
  go_enter Tryz.func63, Tryz.ntmps63
  go_wp2_with fail
  go_ret
  exact ⟨ret_int Hf.out.symm, rfl⟩
end Go.Proofs.YthpdcnjaodjjmaaGreat.Cds

/- reliquaryref: the unpacker: told: the walk. -/
namespace Go.Proofs.YthpdcnjaodjjmaaGreat.Unp
open Go Go.RowKit Go.Proofs.YthpdcnjaodjjmaaGreat Go.Proofs.YthpdcnjaodjjmaaGreat.Bits Go.Proofs.YthpdcnjaodjjmaaGreat.Code
open Go.Proofs.YthpdcnjaodjjmaaGreat.Inf hiding then_ok tyI
open Go.Proofs.YthpdcnjaodjjmaaGreat.Cds (HasBook next_any codebook_any lkup)
set_option linter.unusedVariables false
set_option linter.unusedSimpArgs false

def tolL (m : Nat) (l : List Nat × St) : (List Nat × List Nat) × St :=
 if l.2.e ≠ 0 then (([], []), l.2)
 else if l.1.getD 256 0 = 0 ∨ chkL (zsOf (l.1.take m)) ≠ 0 ∨ chkL (zsOf (l.1.drop m)) ≠ 0 then (([], []), uwrong l.2 8)
 else ((l.1.take m, l.1.drop m), l.2)
def tolZ (row : List Bool) (m n : Nat) (sm : List Nat) (s6 : St) : (List Nat × List Nat) × St :=
 if s6.e ≠ 0 then (([], []), s6) else tolL m (ulens row sm (m + n) (m + n) [] s6)
def tolS (row : List Bool) (m n : Nat) (z : List Nat × St) : (List Nat × List Nat) × St := tolZ row m n z.1 (uif (chkL (zsOf z.1) ≠ 0) z.2 8)
def s4of (m n : Nat) (s : St) : St := if 286 < m ∨ 30 < n then uwrong s 8 else s
theorem told_eq (row : List Bool) (s : St) : utold row s = tolS row ((uget row s 5).1 + 257) ((uget row (uget row s 5).2 5).1 + 1)
  (usizes row (orderL.take ((uget row (uget row (uget row s 5).2 5).2 4).1 + 4)) (List.replicate 19 0) (s4of ((uget row s 5).1 + 257) ((uget row (uget row s 5).2 5).1 + 1) (uget row (uget row (uget row s 5).2 5).2 4).2)) := rfl
theorem get_pos {row : List Bool} {s : St} {n : Nat} (h : s.pos ≤ row.length) : (uget row s n).2.pos ≤ row.length := by
 unfold uget
 split
 ·unfold getR
  split
  ·rename_i heq; split at heq
   ·injection heq with heq; subst heq; assumption
   ·cases heq
  ·rename_i heq; split at heq
   ·cases heq
   ·exact h
 ·exact h
theorem get_lt (row : List Bool) (s : St) (n : Nat) : (uget row s n).1 < 2 ^ n := by
 have hp : 0 < 2 ^ n := Nat.pow_pos (by omega)
 unfold uget
 split
 ·unfold getR
  split
  ·rename_i heq; split at heq
   ·injection heq with heq; subst heq
    have := num_lt ((row.drop s.pos).take n)
    exact Nat.lt_of_lt_of_le this (Nat.pow_le_pow_right (by omega) (by rw [List.length_take]; omega))
   ·cases heq
  ·exact hp
 ·exact hp
theorem get_out (row : List Bool) (s : St) (n : Nat) : (uget row s n).2.out = s.out ∧ (uget row s n).2.ks = s.ks := by
 unfold uget
 split
 ·split <;> exact ⟨rfl, rfl⟩
 ·exact ⟨rfl, rfl⟩
theorem place_pos {row : List Bool} {ls : List Nat} {s : St} (h : s.pos ≤ row.length) : (uplace row ls s).2.pos ≤ row.length := by
 unfold uplace
 split
 ·unfold symR
  split
  ·rename_i heq; split at heq
   ·injection heq with heq; subst heq
    dsimp only
    have := nxt_pos ls (row.drop s.pos) 15 1
    rw [List.length_drop] at this
    have e : next ls (row.drop s.pos) = nxt ls (row.drop s.pos) 15 1 := rfl
    rw [e]; omega
   ·cases heq
  ·rename_i heq; split at heq
   ·cases heq
   ·exact h
 ·exact h
theorem place_out (row : List Bool) (ls : List Nat) (s : St) : (uplace row ls s).2.out = s.out ∧ (uplace row ls s).2.ks = s.ks := by
 unfold uplace
 split
 ·split <;> exact ⟨rfl, rfl⟩
 ·exact ⟨rfl, rfl⟩
theorem findC_len (ls : List Nat) (n c i : Nat) (h : findC ls n c = some i) : i < ls.length := by
 exact (findC_inv ls n c i h).1
theorem nxt_fst (ls : List Nat) (row : List Bool) : ∀ k n : Nat, (nxt ls row k n).1 ≤ ls.length
 | 0, n => Nat.zero_le _
 | k + 1, n => by
  unfold nxt
  split
  ·exact Nat.zero_le _
  ·split
   ·rename_i i hf; exact Nat.le_of_lt (findC_len _ _ _ _ hf)
   ·exact nxt_fst ls row k (n + 1)
theorem place_lt (row : List Bool) (ls : List Nat) (s : St) : (uplace row ls s).1 ≤ ls.length := by
 unfold uplace
 split
 ·unfold symR
  split
  ·rename_i heq; split at heq
   ·injection heq with heq; subst heq
    exact nxt_fst ls _ 15 1
   ·cases heq
  ·exact Nat.zero_le _
 ·exact Nat.zero_le _
theorem wrong_same (s : St) (z : Int) : (uwrong s z).pos = s.pos ∧ (uwrong s z).out = s.out ∧ (uwrong s z).ks = s.ks := by
 unfold uwrong
 split <;> exact ⟨rfl, rfl, rfl⟩
theorem if_same (c : Prop) [Decidable c] (s : St) (z : Int) : (uif c s z).pos = s.pos ∧ (uif c s z).out = s.out ∧ (uif c s z).ks = s.ks := by
 unfold uif
 split
 ·exact wrong_same s z
 ·exact ⟨rfl, rfl, rfl⟩
theorem sizes_snoc (row : List Bool) (x : Nat) : ∀ (ks sm : List Nat) (s : St), usizes row (ks ++ [x]) sm s = ((usizes row ks sm s).1.set x (uget row (usizes row ks sm s).2 3).1, (uget row (usizes row ks sm s).2 3).2)
 | [], sm, s => rfl
 | k :: ks, sm, s => sizes_snoc row x ks _ _
theorem sizes_len (row : List Bool) : ∀ (ks sm : List Nat) (s : St), (usizes row ks sm s).1.length = sm.length
 | [], sm, s => rfl
 | k :: ks, sm, s => by
  have := sizes_len row ks (sm.set k (uget row s 3).1) (uget row s 3).2
  rw [List.length_set] at this; exact this
theorem sizes_pos (row : List Bool) : ∀ (ks sm : List Nat) (s : St), s.pos ≤ row.length → (usizes row ks sm s).2.pos ≤ row.length
 | [], sm, s, h => h
 | k :: ks, sm, s, h => sizes_pos row ks _ _ (get_pos h)
theorem ord_lt : ∀ j < 19, orderL.getD j 0 < 19 := by decide
theorem zs_iv2 (s : List Nat) : (zsOf s).map iv = s.map natV := by unfold zsOf; rw [List.map_map]; rfl
theorem zs_len (s : List Nat) : (zsOf s).length = s.length := by unfold zsOf; rw [List.length_map]
theorem inat_zs {w : World} {A : Option Addr} {s : List Nat} (h : SlAt w A (s.map natV)) : InAt w A (zsOf s) := by unfold InAt; rw [zs_iv2]; exact h
theorem tolZ_bad {row : List Bool} {m n : Nat} {sm : List Nat} {s : St} (he : s.e = 0) (hc : chkL (zsOf sm) ≠ 0) : tolZ row m n sm (uif (chkL (zsOf sm) ≠ 0) s 8) = (([], []), uwrong s 8) := by
 have e1 : uif (chkL (zsOf sm) ≠ 0) s 8 = uwrong s 8 := by unfold uif; rw [if_pos ⟨he, hc⟩]
 unfold tolZ
 rw [e1, if_pos (by rw [wrong_yes he]; show ¬ (8 : Int) = 0; decide)]
def vlen : Value → Nat
 | .slice _ n _ => n
 | _ => 0
theorem ulens_end {row : List Bool} {ls : List Nat} {n : Nat} {l : List Nat} {s : St} (h : ¬ (l.length < n ∧ s.e = 0)) : ∀ f, ulens row ls n f l s = (l, s)
 | 0 => rfl
 | f + 1 => by unfold ulens; rw [if_neg h]
theorem times_pos (row : List Bool) (l : List Nat) (k : Nat) (s : St) : 1 ≤ (utimes row l k s).2.1 ∧ (utimes row l k s).2.1 ≤ 138 := by
 have h2 : (uget row s 2).1 < 4 := get_lt row s 2
 have h3 : (uget row s 3).1 < 8 := get_lt row s 3
 have h7 : (uget row s 7).1 < 128 := get_lt row s 7
 unfold utimes
 split
 ·dsimp only; omega
 ·split
  ·dsimp only; omega
  ·split
   ·dsimp only; omega
   ·split
    ·dsimp only; omega
    ·dsimp only; omega
theorem times_posR {row : List Bool} {l : List Nat} {k : Nat} {s : St} (h : s.pos ≤ row.length) : (utimes row l k s).2.2.pos ≤ row.length := by
 unfold utimes
 split
 ·dsimp only; rw [(wrong_same s 8).1]; exact h
 ·split
  ·exact get_pos h
  ·split
   ·exact get_pos h
   ·split
    ·exact get_pos h
    ·exact h
theorem own_last {w : World} {B L cl : Nat} {Al : Option Addr} {l : List Nat} (hol : w.ownsRow B 3 1 (.slice Al L cl) L (l.map natV)) (hL : L = l.length) (h0 : l ≠ []) : ∃ b o, Al = some ⟨b, o, none⟩ ∧ ∀ W T base, Keeps base T w W → 3 ∉ T → W.cell? ⟨b, o + (L - 1), none⟩ = some (.int .i64 (l.getLastD 0 : Int)) := by
 have hp : 0 < l.length := List.length_pos_iff.2 h0
 subst hL
 obtain ⟨A1, c1, e, _, _, hsl, _⟩ := own_slat hol
 injection e with e1 e2 e3
 subst e1
 obtain ⟨b, o, rfl, _⟩ := hsl (by rw [List.length_map]; exact hp)
 refine ⟨b, o, rfl, fun W T base hk h2 => ?_⟩
 obtain ⟨A', c', e, _, _, hs', _⟩ := own_slat (hk.own hol h2)
 injection e with e1 e2 e3
 subst e1
 obtain ⟨b', o', e, hc⟩ := hs' (by rw [List.length_map]; exact hp)
 injection e with e
 injection e with e1 e2 e3
 subst e1 e2
 refine hc (l.length - 1) _ ?_
 rw [List.getElem?_map, List.getElem?_eq_getElem (by omega)]
 have e : l[l.length - 1]'(by omega) = l.getLastD 0 := by
  rw [List.getLastD_eq_getLast?, List.getLast?_eq_getElem?, List.getElem?_eq_getElem (by omega)]; rfl
 rw [e]
 rfl
theorem ord_take1 (k : Nat) (h : k < 19) : orderL.take (k + 1) = orderL.take k ++ [orderL.getD k 0] := by
 rw [take_snoc orderL k h, List.getD_eq_getElem?_getD, List.getElem?_eq_getElem (show k < orderL.length from h)]; rfl
set_option maxRecDepth 100000 in
set_option maxHeartbeats 8000000 in
theorem told_u (base p : Nat) (row : List Bool) (s : St) (w : World) {vo vk : Value} (h : UAt w base p row s vo vk) (hp : s.pos ≤ row.length) (hr : row.length ≤ 1000000) :
  Calls Tryz.prog 37 #[.pointer (some ⟨p, 0, none⟩)] w fun e w' => (∃ A na ca B nb cb, e = .returned (.tuple #[.slice A na ca, .slice B nb cb]) ∧ ((utold row s).2.e = 0 → na = (utold row s).1.1.length ∧ nb = (utold row s).1.2.length ∧ SlAt w' A ((utold row s).1.1.map natV) ∧ SlAt w' B ((utold row s).1.2.map natV))) ∧
   UAt w' base p row (utold row s).2 vo vk ∧ Keeps base unpT w w' := by
 obtain ⟨T, hT⟩ : ∃ T, T = utold row s := ⟨_, rfl⟩
 rw [← hT]
 rw [told_eq] at hT
 have hbw := h.bs
 obtain ⟨hpB, hvo, hvk⟩ := h.owns
 have HVo := Lib.hid hvo
 have HVk := Lib.hid hvk
 clear hvo hvk
 have HG1 := Lib.hid (get_u base p 5 row s w h hp hr (by omega))
 have q1 := get_pos (n := 5) hp
 have x1 : (uget row s 5).1 < 32 := get_lt row s 5
 generalize uget row s 5 = g at *
 obtain ⟨a, s1⟩ := g
 dsimp only at q1 x1 HG1 hT
 have HT := Lib.hid hT
 clear hT h hp
 go_enter Tryz.func37, Tryz.ntmps37
 go_wp2_with fail
 refine (HG1.out).mono ?_
 rintro e w1 ⟨rfl, hu1, hk1⟩
 have HG2 := Lib.hid (get_u base p 5 row s1 w1 hu1 q1 hr (by omega))
 have q2 := get_pos (n := 5) q1
 have x2 : (uget row s1 5).1 < 32 := get_lt row s1 5
 generalize uget row s1 5 = g at *
 obtain ⟨b, s2⟩ := g
 dsimp only at q2 x2 HG2 HT
 have Hk1 := Lib.hid hk1
 clear hu1 hk1 HG1
 obtain ⟨m, hm⟩ : ∃ m, m = a + 257 := ⟨_, rfl⟩
 obtain ⟨n, hn⟩ : ∃ n, n = b + 1 := ⟨_, rfl⟩
 have hs1 : IntKind.i64.wrap ((a : Int) + 257) = (m : Int) := by rw [show (a : Int) + 257 = (m : Int) by omega]; exact IntWalk.i64_in _ (by omega)
 have hs2 : IntKind.i64.wrap ((b : Int) + 1) = (n : Int) := by rw [show (b : Int) + 1 = (n : Int) by omega]; exact IntWalk.i64_in _ (by omega)
 rw [← hm, ← hn] at HT
 have hm1 : 257 ≤ m ∧ m ≤ 288 := by omega
 have hn1 : 1 ≤ n ∧ n ≤ 32 := by omega
 clear x1 x2 hm hn
 go_wp2_with fail
 refine (HG2.out).mono ?_
 rintro e w2 ⟨rfl, hu2, hk2⟩
 have HG3 := Lib.hid (get_u base p 4 row s2 w2 hu2 q2 hr (by omega))
 have q3 := get_pos (n := 4) q2
 have x3 : (uget row s2 4).1 < 16 := get_lt row s2 4
 generalize uget row s2 4 = g at *
 obtain ⟨c0, s3⟩ := g
 dsimp only at q3 x3 HG3 HT
 have Hk2 := Lib.hid (Hk1.out.trans hk2)
 clear hu2 hk2 HG2 Hk1
 obtain ⟨c, hc⟩ : ∃ c, c = c0 + 4 := ⟨_, rfl⟩
 have hs3 : IntKind.i64.wrap ((c0 : Int) + 4) = (c : Int) := by rw [show (c0 : Int) + 4 = (c : Int) by omega]; exact IntWalk.i64_in _ (by omega)
 rw [← hc] at HT
 have hc1 : 4 ≤ c ∧ c ≤ 19 := by omega
 clear hc x3
 go_wp2_with fail
 refine (HG3.out).mono ?_
 rintro e w3 ⟨rfl, hu3, hk3⟩
 have Hu3 := Lib.hid hu3
 have Hk3 := Lib.hid (Hk2.out.trans hk3)
 clear hu3 hk3 HG3 Hk2
 have hslot1 : (257 : Int) ≤ (m : Int) := by omega
 go_upto_region 2 with fail
 go_cut [29] from 24 to 29 (fun v wx => v = .bool (decide (286 < m ∨ 30 < n)) ∧ wx = w3)
 case first =>
  by_cases hb1 : 286 < m
  ·have hb1' : (286 : Int) < (m : Int) := by omega
   go_wp2_with fail
   go_meet
   case rel => exact ⟨by simp [hb1], rfl⟩
  ·have hb1' : ¬ (286 : Int) < (m : Int) := by omega
   by_cases hb2 : 30 < n
   ·have hb2' : (30 : Int) < (n : Int) := by omega
    go_wp2_with fail
    go_meet
    case rel => exact ⟨by simp [hb2], rfl⟩
   ·have hb2' : ¬ (30 : Int) < (n : Int) := by omega
    go_wp2_with fail
    go_meet
    case rel => exact ⟨by simp [hb1, hb2], rfl⟩
 case rest =>
  obtain ⟨rfl, rfl⟩ := hcut
  go_upto_if 29 with fail
  go_cut [29] from 30 to 31 (fun v wx => (∃ bb, v = .bool bb) ∧ UAt wx base p row (s4of m n s3) vo vk ∧ Keeps base unpT w wx)
  case first =>
   by_cases hbad : 286 < m ∨ 30 < n
   ·have hd : decide (286 < m ∨ 30 < n) = true := by simpa using hbad
    have HW := Lib.hid (wrong_u base p 8 row s3 wc Hu3.out)
    have Hs4 : Hid (s4of m n s3 = uwrong s3 8) := Lib.hid (by unfold s4of; rw [if_pos hbad])
    rw [hd]
    clear hbad hd
    go_wp2_with fail
    refine (HW.out).mono ?_
    rintro e w4 ⟨rfl, hu4, hk4⟩
    have Hu4 := Lib.hid hu4
    have Hk4 := Lib.hid (Hk3.out.trans hk4)
    clear hu4 hk4 HW
    go_wp2_with fail
    go_meet
    case rel => exact ⟨⟨_, rfl⟩, by rw [Hs4.out]; exact Hu4.out, Hk4.out⟩
   ·have hd : decide (286 < m ∨ 30 < n) = false := by simpa using hbad
    have Hs4 : Hid (s4of m n s3 = s3) := Lib.hid (by unfold s4of; rw [if_neg hbad])
    rw [hd]
    clear hbad hd
    go_wp2_with fail
    go_meet
    case rel => exact ⟨⟨_, rfl⟩, by rw [Hs4.out]; exact Hu3.out, Hk3.out⟩
  case rest =>
   obtain ⟨⟨bb, rfl⟩, hu4, hk4⟩ := hcut
   have Hu4 := Lib.hid hu4
   have Hk4 := Lib.hid hk4
   have q4 : (s4of m n s3).pos ≤ row.length := by
    unfold s4of
    split
    ·rw [(wrong_same s3 8).1]; exact q3
    ·exact q3
   generalize s4of m n s3 = s4 at *
   clear hu4 hk4 Hu3 Hk3 q3 hs1 hs2 hs3
   rename World => w4
   obtain ⟨zz, hzz⟩ : ∃ z, z = nats (List.replicate 19 0) := ⟨_, rfl⟩
   have hmk : ∀ u : World, (Instr.makeSlice 23 (.int .i64 19) (.int .i64 19)).run Tryz.prog u = .ok (.slice (some ⟨u.heap.size, 0, none⟩) 19 19) (u.alloc (.cells zz 3)) := fun u => by rw [hzz, ← nats_zero]; exact make_ints 19 (by omega) u
   have Hzz := Lib.hid hzz
   clear hzz
   have hc19 : (c : Int) ≤ 19 := by omega
   have hc0 : (0 : Int) ≤ (c : Int) := by omega
   go_wp2_with fail
   obtain ⟨q, hq⟩ : ∃ q, q = w4.heap.size := ⟨_, rfl⟩
   have hZ0 : Blk ((w4.alloc (.cells zz 3)).alloc (.cells #[.int .i64 16, .int .i64 17, .int .i64 18, .int .i64 0, .int .i64 8, .int .i64 7, .int .i64 9, .int .i64 6, .int .i64 10, .int .i64 5, .int .i64 11, .int .i64 4, .int .i64 12, .int .i64 3, .int .i64 13, .int .i64 2, .int .i64 14, .int .i64 1, .int .i64 15] 3)) q 3 (nats (List.replicate 19 0)) := by
    rw [hq, ← Hzz.out]; exact (Blk.new w4 3 zz).alloc _
   have hO0 : Blk ((w4.alloc (.cells zz 3)).alloc (.cells #[.int .i64 16, .int .i64 17, .int .i64 18, .int .i64 0, .int .i64 8, .int .i64 7, .int .i64 9, .int .i64 6, .int .i64 10, .int .i64 5, .int .i64 11, .int .i64 4, .int .i64 12, .int .i64 3, .int .i64 13, .int .i64 2, .int .i64 14, .int .i64 1, .int .i64 15] 3)) (q + 1) 3 ordA := by
    have := Blk.new (w4.alloc (.cells zz 3)) 3 ordA
    rw [World.size_alloc, ← hq] at this
    exact this
   have hU0 : UAt ((w4.alloc (.cells zz 3)).alloc (.cells #[.int .i64 16, .int .i64 17, .int .i64 18, .int .i64 0, .int .i64 8, .int .i64 7, .int .i64 9, .int .i64 6, .int .i64 10, .int .i64 5, .int .i64 11, .int .i64 4, .int .i64 12, .int .i64 3, .int .i64 13, .int .i64 2, .int .i64 14, .int .i64 1, .int .i64 15] 3)) base p row s4 vo vk := (Hu4.out.below ((Below.refl _ _).alloc (Nat.le_refl _) _)).below ((Below.refl _ _).alloc (Nat.le_refl _) _)
   have hq0 : w.heap.size ≤ q := by rw [hq]; exact Hk4.out.size
   have hK0 : OldK base w.heap.size unpT w ((w4.alloc (.cells zz 3)).alloc (.cells #[.int .i64 16, .int .i64 17, .int .i64 18, .int .i64 0, .int .i64 8, .int .i64 7, .int .i64 9, .int .i64 6, .int .i64 10, .int .i64 5, .int .i64 11, .int .i64 4, .int .i64 12, .int .i64 3, .int .i64 13, .int .i64 2, .int .i64 14, .int .i64 1, .int .i64 15] 3)) := by
    have h1 : OldK base w.heap.size unpT w w4 := (OldK.refl _ _ _ _).keeps Hk4.out
    have h2 : Below w.heap.size w4 (w4.alloc (.cells zz 3)) := (Below.refl _ _).alloc (by rw [← hq]; exact hq0) _
    exact (h1.below h2 hbw).below ((Below.refl _ _).alloc (by rw [World.size_alloc, ← hq]; omega) _) hbw
   rw [← hq]
   generalize hw6 : ((w4.alloc (.cells zz 3)).alloc (.cells #[.int .i64 16, .int .i64 17, .int .i64 18, .int .i64 0, .int .i64 8, .int .i64 7, .int .i64 9, .int .i64 6, .int .i64 10, .int .i64 5, .int .i64 11, .int .i64 4, .int .i64 12, .int .i64 3, .int .i64 13, .int .i64 2, .int .i64 14, .int .i64 1, .int .i64 15] 3)) = w6 at *
   have HZ0 := Lib.hid hZ0
   have HO0 := Lib.hid hO0
   have HU0 := Lib.hid hU0
   have HK0 := Lib.hid hK0
   clear hw6 hq hZ0 hO0 hU0 hK0 Hu4 Hk4 Hzz hmk
   go_loopw [37] (fun vi wr => ∃ j : Nat, j ≤ c ∧ vi = .int .i64 (j : Int) ∧ UAt wr base p row (usizes row (orderL.take j) (List.replicate 19 0) s4).2 vo vk ∧ Blk wr q 3 (nats (usizes row (orderL.take j) (List.replicate 19 0) s4).1) ∧ Blk wr (q + 1) 3 ordA ∧ OldK base w.heap.size unpT w wr) (fun vi _ => c - (intOf vi).toNat)
   case atStart => exact ⟨0, Nat.zero_le _, rfl, HU0.out, HZ0.out, HO0.out, HK0.out⟩
   case round =>
    obtain ⟨j, hj, rfl, hu, hz, ho, hk⟩ := hrel
    have HU := Lib.hid hu
    have HZ := Lib.hid hz
    have HO := Lib.hid ho
    have HK := Lib.hid hk
    have hpos := sizes_pos row (orderL.take j) (List.replicate 19 0) s4 q4
    have hlen := sizes_len row (orderL.take j) (List.replicate 19 0) s4
    rw [List.length_replicate] at hlen
    clear hu hz ho hk HU0 HZ0 HO0 HK0
    by_cases hlt : j < c
    ·obtain ⟨k, hk⟩ : ∃ k, k = orderL.getD j 0 := ⟨_, rfl⟩
     have hk19 : k < 19 := by rw [hk]; exact ord_lt j (by omega)
     have Hsn := Lib.hid (sizes_snoc row k (orderL.take j) (List.replicate 19 0) s4)
     have Htk : Hid (orderL.take (j + 1) = orderL.take j ++ [k]) := Lib.hid (by rw [hk]; exact ord_take1 j (by omega))
     have hcell : wr.cell? ⟨q + 1, j, none⟩ = some (.int .i64 (k : Int)) := by
      have hj19 : j < orderL.length := by show j < 19; omega
      rw [HO.out.cell, ordA_eq, List.getElem?_toArray, List.getElem?_map, List.getElem?_eq_getElem hj19, hk, List.getD_eq_getElem?_getD, List.getElem?_eq_getElem hj19]
      rfl
     rw [← Htk.out] at Hsn
     generalize usizes row (orderL.take j) (List.replicate 19 0) s4 = z at *
     obtain ⟨sm, sz⟩ := z
     dsimp only at hpos hlen HU HZ Hsn
     have HG := Lib.hid (get_u base p 3 row sz wr HU.out hpos hr (by omega))
     have hjC : (j : Int) < (c : Int) := by omega
     have hj0 : (0 : Int) ≤ (j : Int) := by omega
     have hk0 : (0 : Int) ≤ (k : Int) := by omega
     have hk19' : (k : Int) < 19 := by omega
     clear hk
     go_wp2_with fail
     refine (HG.out).mono ?_
     rintro e w7 ⟨rfl, hu7, hk7⟩
     have HU7 := Lib.hid hu7
     have HZ7 := Lib.hid (hk7.blk HZ.out (by decide))
     have HO7 := Lib.hid (hk7.blk HO.out (by decide))
     have HK7 := Lib.hid (HK.out.keeps hk7)
     have hc7 : w7.cell? ⟨q, k, none⟩ = some (.int .i64 ((sm.getD k 0 : Nat) : Int)) := by
      rw [HZ7.out.cell, nats_get _ _ (by rw [hlen]; exact hk19), List.getD_eq_getElem?_getD, List.getElem?_eq_getElem (by rw [hlen]; exact hk19)]
      rfl
     have hf7 := HZ7.out.frozen k
     generalize sm.getD k 0 = ov at hc7
     generalize hx : uget row sz 3 = x at *
     obtain ⟨x1, x2⟩ := x
     dsimp only at HU7 Hsn ⊢
     clear hu7 hk7 HG HU HZ HO HK hx
     go_wp2_with fail
     have Hbs : Hid (Below w.heap.size w7 (w7.setCell ⟨q, k, none⟩ (.int .i64 (x1 : Int)))) := Lib.hid ((Below.refl _ _).setCell (p := ⟨q, k, none⟩) hq0 _)
     go_roundw
     case rel => exact ⟨j + 1, by omega, by go_num, by rw [Hsn.out]; exact HU7.out.low Hbs.out hpB HVo.out HVk.out, by rw [Hsn.out]; dsimp only; rw [← nats_set]; exact HZ7.out.set_ k _, HO7.out.far (p := ⟨q, k, none⟩) (by show q + 1 ≠ q; omega) _, HK7.out.below Hbs.out hbw⟩
     case measure => simp [intOf]; omega
    ·obtain rfl : j = c := by omega
     generalize usizes row (orderL.take j) (List.replicate 19 0) s4 = z at *
     obtain ⟨sm, sz⟩ := z
     dsimp only at hpos hlen HU HZ HT
     have HT := Lib.hid (show T = tolZ row m n sm (uif (chkL (zsOf sm) ≠ 0) sz 8) from HT.out)
     have hc4 := (u_cells HU.out.2.1).2.2.2.2
     have HSl := Lib.hid (show SlAt wr (some ⟨q, 0, none⟩) (sm.map natV) from SlAt.of_heap HZ.out (by simp [nats]))
     have HC := Lib.hid (Cds.lengths_any (some ⟨q, 0, none⟩) 19 19 (zsOf sm) wr (by rw [zs_len, hlen]) (by unfold maxLen; omega) (inat_zs HSl.out))
     clear HO
     by_cases he : sz.e = 0
     ·have heb : (sz.e == 0) = true := by rw [he]; rfl
      by_cases hch : chkL (zsOf sm) = 0
      ·replace HT := Lib.hid (show T = tolL m (ulens row sm (m + n) (m + n) [] sz) by rw [HT.out]; unfold tolZ; rw [if_no (fun h => h hch), if_neg (fun h => h he)])
       have hB := Lib.hid (codebook_any (some ⟨q, 0, none⟩) 19 19 (zsOf sm) wr (by rw [zs_len, hlen]) (inat_zs HSl.out) hch)
       rw [hch] at HC
       rw [he] at hc4
       go_wp2_with fail
       refine (HC.out).mono ?_
       rintro e w8 ⟨rfl, rfl⟩
       clear HC
       go_wp2_with fail
       refine (hB.out).mono ?_
       rintro e w9 ⟨⟨gm, al, rfl, hkm, hbk⟩, hb9⟩
       have HKm := Lib.hid hkm
       rw [lsOf_zs] at hbk
       have HBk : Hid (HasBook al sm sm.length) := Lib.hid (by rw [hlen]; exact hbk)
       have Hb9 : Hid (Below w.heap.size w8 w9) := Lib.hid (hb9.mono HK.out.size)
       have HU9 := Lib.hid (HU.out.below hb9)
       have HK9 := Lib.hid (HK.out.below Hb9.out hbw)
       obtain ⟨N, hN⟩ : ∃ N, N = m + n := ⟨_, rfl⟩
       have hwN : IntKind.i64.wrap ((m : Int) + (n : Int)) = (N : Int) := by rw [show (m : Int) + (n : Int) = (N : Int) by omega]; exact IntWalk.i64_in _ (by omega)
       have hNb : 258 ≤ N ∧ N ≤ 320 := by omega
       rw [← hN] at HT
       clear hkm hbk hb9 Hb9 hB HSl HU HK HZ hc4 heb
       obtain ⟨wo, hwo⟩ : ∃ wo, wo = w9 := ⟨_, rfl⟩
       have HF : Hid (ulens row sm N N [] sz = ulens row sm N N [] sz) := Lib.hid rfl
       clear HF
       obtain ⟨F, hF⟩ : ∃ F, F = ulens row sm N N [] sz := ⟨_, rfl⟩
       rw [← hF] at HT
       have HF := Lib.hid hF
       clear hF hwo
       go_wp2_with fail
       go_loopw [11] (fun vl wr => ∃ (f : Nat) (l : List Nat) (sl : St), l.length ≤ N + 138 ∧ N ≤ l.length + f ∧ F = ulens row sm N f l sl ∧ wr.ownsRow w.heap.size 3 1 vl l.length (l.map natV) ∧ sl.pos ≤ row.length ∧ UAt wr base p row sl vo vk ∧ KM rowV wr gm al ∧ OldK base w.heap.size unpT w wr) (fun vl _ => N + 200 - vlen vl)
       case atStart => exact ⟨N, [], sz, by simp, by simp, HF.out, World.ownsRow_nil _ _ _ _, hpos, HU9.out, HKm.out, HK9.out⟩
       case round =>
        clear HF HU9 HKm HK9
        obtain ⟨f, l, sl, hlN, hf, hF, hown, hps, hu, hkm, hk⟩ := hrel
        obtain ⟨Al, cl, rfl, hlc, hlcm, hsl, hnz⟩ := own_slat hown
        obtain ⟨L, hL⟩ : ∃ L, L = l.length := ⟨_, rfl⟩
        rw [← hL] at hlN hf hown hlc hnz ⊢
        have HLl := Lib.hid hL
        have HF := Lib.hid hF
        have HOw := Lib.hid hown
        have HU := Lib.hid hu
        have HKm := Lib.hid hkm
        have HK := Lib.hid hk
        have hc4 := (u_cells hu.2.1).2.2.2.2
        clear hL hF hown hu hkm hk
        by_cases hgo : L < N ∧ sl.e = 0
        ·obtain ⟨hlt, he⟩ := hgo
         obtain ⟨f, rfl⟩ : ∃ f', f = f' + 1 := ⟨f - 1, by omega⟩
         have HP := Lib.hid (place_u base p gm al sm row sl wr HU.out hps hr HKm.out HBk.out)
         have hpp := place_pos (ls := sm) hps
         have hpl := place_lt row sm sl
         have HF := Lib.hid (show F = _ from HF.out)
         have hlt' : (L : Int) < (N : Int) := by omega
         rw [he] at hc4
         go_wp2_with fail
         refine (HP.out).mono ?_
         rintro e w11 ⟨rfl, hu11, hk11⟩
         have HOw11 := Lib.hid (hk11.own HOw.out (by decide))
         have HKm11 := Lib.hid (HKm.out.keeps hk11)
         have HK11 := Lib.hid (HK.out.keeps hk11)
         have HU11 := Lib.hid hu11
         replace HF : Hid (F = ulens row sm N f (l ++ List.replicate (utimes row l (uplace row sm sl).1 (uplace row sm sl).2).2.1 (utimes row l (uplace row sm sl).1 (uplace row sm sl).2).1) (uif (N < l.length + (utimes row l (uplace row sm sl).1 (uplace row sm sl).2).2.1) (utimes row l (uplace row sm sl).1 (uplace row sm sl).2).2.2 8)) := Lib.hid (by
          rw [HF.out]
          conv => lhs; unfold ulens
          rw [if_pos ⟨by rw [← HLl.out]; exact hlt, he⟩])
         clear hu11 hk11 HP HOw HKm HK HU hc4 he hps hnz
         generalize uplace row sm sl = y at *
         obtain ⟨k, s2⟩ := y
         dsimp only at hpp hpl HU11 HF ⊢
         rw [hlen] at hpl
         have htp := times_pos row l k s2
         have htr := times_posR (l := l) (k := k) hpp
         obtain ⟨r, hr⟩ : ∃ r, r = utimes row l k s2 := ⟨_, rfl⟩
         rw [← hr] at htp htr HF
         obtain ⟨v, t, s3⟩ := r
         dsimp only at htp htr HF
         have Hr := Lib.hid hr.symm
         rw [← HLl.out] at HF
         have hlnil : (l = []) ↔ L = 0 := by rw [HLl.out]; exact List.length_eq_zero_iff.symm
         have Hnil := Lib.hid hlnil
         clear hr hlnil
         go_upto_block 4 with fail
         go_cut [13, 14] from 83 to 116 (fun vv tt wx => vv = .int .i64 (v : Int) ∧ tt = .int .i64 (t : Int) ∧ UAt wx base p row s3 vo vk ∧ KM rowV wx gm al ∧ OldK base w.heap.size unpT w wx ∧ wx.ownsRow w.heap.size 3 1 (.slice Al L cl) L (l.map natV))
         case first =>
          by_cases h16 : k = 16
          ·subst h16
           by_cases hl0 : l = []
           ·have hL0 : L = 0 := Hnil.out.1 hl0
            have e1 : utimes row l 16 s2 = (16, 1, uwrong s2 8) := by unfold utimes; rw [if_pos ⟨rfl, hl0⟩]
            rw [e1] at Hr
            have HW := Lib.hid (wrong_u base p 8 row s2 w11 HU11.out)
            obtain ⟨rfl, rfl, rfl⟩ : 16 = v ∧ 1 = t ∧ uwrong s2 8 = s3 := by
             have := Hr.out
             injection this with e1 e2
             injection e2 with e2 e3
             exact ⟨e1, e2, e3⟩
            have hLb : ((L : Int) == 0) = true := by rw [hL0]; rfl
            clear hl0 e1 hL0
            go_wp2_with fail
            refine (HW.out).mono ?_
            rintro e w12 ⟨rfl, hu12, hk12⟩
            have HU12 := Lib.hid hu12
            have HKm12 := Lib.hid (HKm11.out.keeps hk12)
            have HK12 := Lib.hid (HK11.out.keeps hk12)
            have HO12 := Lib.hid (hk12.own HOw11.out (by decide))
            clear hu12 hk12 HW
            go_wp2_with fail
            go_meet
            case rel => exact ⟨rfl, rfl, HU12.out, HKm12.out, HK12.out, HO12.out⟩
           ·have hL1 : 1 ≤ L := by
             have : L ≠ 0 := fun h => hl0 (Hnil.out.2 h)
             omega
            have hLb : ((L : Int) == 0) = false := by rw [beq_eq_false_iff_ne]; omega
            have e1 : utimes row l 16 s2 = (l.getLastD 0, 3 + (uget row s2 2).1, (uget row s2 2).2) := by unfold utimes; rw [if_neg (fun h => hl0 h.2), if_pos rfl]
            rw [e1] at Hr
            obtain ⟨bl, ol, rfl, hSS⟩ := own_last HOw11.out HLl.out hl0
            obtain ⟨ix, hix⟩ : ∃ ix, ix = L - 1 := ⟨_, rfl⟩
            rw [← hix] at hSS
            have HSS := Lib.hid hSS
            have hwi : IntKind.i64.wrap ((L : Int) - 1) = (ix : Int) := by rw [show (L : Int) - 1 = (ix : Int) by omega]; exact IntWalk.i64_in _ (by omega)
            have hix0 : (0 : Int) ≤ (ix : Int) := by omega
            have hix1 : (ix : Int) < (L : Int) := by omega
            generalize l.getLastD 0 = la at *
            have HG := Lib.hid (get_u base p 2 row s2 w11.drew (HU11.out.drewN 1) hpp hr (by omega))
            have hx : (uget row s2 2).1 < 4 := get_lt row s2 2
            generalize uget row s2 2 = x at *
            obtain ⟨x1, x2⟩ := x
            dsimp only at hx HG Hr
            obtain ⟨rfl, hy, rfl⟩ : la = v ∧ t = 3 + x1 ∧ x2 = s3 := by
             have := Hr.out
             injection this with e1 e2
             injection e2 with e2 e3
             exact ⟨e1, e2.symm, e3⟩
            have hwx : IntKind.i64.wrap ((3 : Int) + (x1 : Int)) = (t : Int) := by rw [show (3 : Int) + (x1 : Int) = (t : Int) by omega]; exact IntWalk.i64_in _ (by omega)
            clear hy hix hSS hl0 e1
            go_wp2_with fail
            refine wp_region_S (fun W => W.cell? ⟨bl, ol + ix, none⟩ = some (.int .i64 (la : Int))) 10 (by kernel_rfl) ?_
            have hHeld := HSS.out w11.drew [] 0 ((Keeps.refl _ _ _).drew) (by simp)
            have HSS2 : Hid (∀ W, Keeps base unpT w11.drew W → W.cell? ⟨bl, ol + ix, none⟩ = some (.int .i64 (la : Int))) := Lib.hid (fun W hk => HSS.out W unpT 0 (((Keeps.refl 0 unpT w11).drew).trans (hk.mono (Nat.zero_le _) (fun _ h => h))) (by decide))
            have HKm12 := Lib.hid (HKm11.out.keeps ((Keeps.refl base unpT w11).drew))
            have HK12 := Lib.hid (HK11.out.keeps ((Keeps.refl base unpT w11).drew))
            have HO12 := Lib.hid (own_drew HOw11.out)
            generalize w11.drew = w12 at *
            clear HSS
            refine wpAnyS_takeT (i := 0) (v := ?va0) (by kernel_rfl) (by kernel_rfl) rfl (by kernel_rfl) (by kernel_rfl) (by kernel_rfl) (fun _ _ _ h => h) (by rfl) (by assumption) ?hya0 ?resta0
            case hya0 => (intro W hSW; (try dsimp only at hSW); go_simp; try with_reducible rfl)
            (try simp only [Act.put, List.getElem_toArray, List.getElem_cons_zero, List.getElem_cons_succ, List.setIfInBounds_toArray, List.set_cons_zero, List.set_cons_succ])
            refine wpAnyS_takeT (i := 1) (v := ?va1) (by kernel_rfl) (by kernel_rfl) rfl (by kernel_rfl) (by kernel_rfl) (by kernel_rfl) (fun _ _ _ h => h) (by rfl) (by assumption) ?hya1 ?resta1
            case hya1 => (intro W hSW; (try dsimp only at hSW); go_simp; try with_reducible rfl)
            (try simp only [Act.put, List.getElem_toArray, List.getElem_cons_zero, List.getElem_cons_succ, List.setIfInBounds_toArray, List.set_cons_zero, List.set_cons_succ])
            refine wpAnyS_takeT (i := 2) (v := ?va2) (by kernel_rfl) (by kernel_rfl) rfl (by kernel_rfl) (by kernel_rfl) (by kernel_rfl) (fun _ _ _ h => h) (by rfl) (by assumption) ?hya2 ?resta2
            case hya2 => (intro W hSW; (try dsimp only at hSW); go_simp; try with_reducible rfl)
            (try simp only [Act.put, List.getElem_toArray, List.getElem_cons_zero, List.getElem_cons_succ, List.setIfInBounds_toArray, List.set_cons_zero, List.set_cons_succ])
            refine wpAnyS_takeT (i := 3) (v := ?va3) (by kernel_rfl) (by kernel_rfl) rfl (by kernel_rfl) (by kernel_rfl) (by kernel_rfl) (fun _ _ _ h => h) (by rfl) (by assumption) ?hya3 ?resta3
            case hya3 => (intro W hSW; (try dsimp only at hSW); go_simp; try with_reducible rfl)
            (try simp only [Act.put, List.getElem_toArray, List.getElem_cons_zero, List.getElem_cons_succ, List.setIfInBounds_toArray, List.set_cons_zero, List.set_cons_succ])
            refine wpAnyS_takeT (i := 4) (v := ?va4) (by kernel_rfl) (by kernel_rfl) rfl (by kernel_rfl) (by kernel_rfl) (by kernel_rfl) (fun _ _ _ h => h) (by rfl) (by assumption) ?hya4 ?resta4
            case hya4 => (intro W hSW; (try dsimp only at hSW); go_simp; try with_reducible rfl)
            (try simp only [Act.put, List.getElem_toArray, List.getElem_cons_zero, List.getElem_cons_succ, List.setIfInBounds_toArray, List.set_cons_zero, List.set_cons_succ])
            refine wpAnyS_takeT (i := 5) (v := ?va5) (by kernel_rfl) (by kernel_rfl) rfl (by kernel_rfl) (by kernel_rfl) (by kernel_rfl) (fun _ _ _ h => h) (by rfl) (by assumption) ?hya5 ?resta5
            case hya5 => (intro W hSW; (try dsimp only at hSW); go_simp; try with_reducible rfl)
            (try simp only [Act.put, List.getElem_toArray, List.getElem_cons_zero, List.getElem_cons_succ, List.setIfInBounds_toArray, List.set_cons_zero, List.set_cons_succ])
            refine wpAnyS_takeT (i := 6) (v := ?va6) (by kernel_rfl) (by kernel_rfl) rfl (by kernel_rfl) (by kernel_rfl) (by kernel_rfl) (fun _ _ _ h => h) (by rfl) (by assumption) ?hya6 ?resta6
            case hya6 => (intro W hSW; (try dsimp only at hSW); go_simp; try with_reducible rfl)
            (try simp only [Act.put, List.getElem_toArray, List.getElem_cons_zero, List.getElem_cons_succ, List.setIfInBounds_toArray, List.set_cons_zero, List.set_cons_succ])
            refine wpAnyS_only (i := 7) rfl (by kernel_rfl) (fun K hK => ?_)
            go_simp
            clear hHeld
            go_at_call 33
            refine (HG.out).mono ?_
            rintro e w13 ⟨rfl, hu13, hk13⟩
            have HU13 := Lib.hid hu13
            have HKm13 := Lib.hid (HKm12.out.keeps hk13)
            have HK13 := Lib.hid (HK12.out.keeps hk13)
            have HO13 := Lib.hid (hk13.own HO12.out (by decide))
            have HS13 := Lib.hid (HSS2.out w13 hk13)
            clear hu13 hk13 HG
            refine hK.out _ _ HS13.out (fun hHeld => ?_)
            clear hK K
            (try simp only [Act.put, List.getElem_toArray, List.getElem_cons_zero, List.getElem_cons_succ, List.setIfInBounds_toArray, List.set_cons_zero, List.set_cons_succ])
            refine wpAnyS_takeT (i := 8) (v := ?vb8) (by kernel_rfl) (by kernel_rfl) rfl (by kernel_rfl) (by kernel_rfl) (by kernel_rfl) (fun _ _ _ h => h) (by rfl) (by assumption) ?hyb8 ?restb8
            case hyb8 => (intro W hSW; (try dsimp only at hSW); go_simp; try with_reducible rfl)
            (try simp only [Act.put, List.getElem_toArray, List.getElem_cons_zero, List.getElem_cons_succ, List.setIfInBounds_toArray, List.set_cons_zero, List.set_cons_succ])
            refine wpAnyS_takeT (i := 9) (v := ?vb9) (by kernel_rfl) (by kernel_rfl) rfl (by kernel_rfl) (by kernel_rfl) (by kernel_rfl) (fun _ _ _ h => h) (by rfl) (by assumption) ?hyb9 ?restb9
            case hyb9 => (intro W hSW; (try dsimp only at hSW); go_simp; try with_reducible rfl)
            (try simp only [Act.put, List.getElem_toArray, List.getElem_cons_zero, List.getElem_cons_succ, List.setIfInBounds_toArray, List.set_cons_zero, List.set_cons_succ])
            refine wpAnyS_last rfl (by kernel_rfl) (by kernel_rfl) (fun K hK => ?_)
            go_simp
            refine hK.out _ _ ?_
            clear hK K
            go_wp2_with fail
            go_meet
            case rel => exact ⟨rfl, rfl, HU13.out, HKm13.out, HK13.out, HO13.out⟩

          ·have hb16 : ((k : Int) == 16) = false := by rw [beq_eq_false_iff_ne]; omega
           have e16 : utimes row l k s2 = if k = 17 then (0, 3 + (uget row s2 3).1, (uget row s2 3).2) else if k = 18 then (0, 11 + (uget row s2 7).1, (uget row s2 7).2) else (k, 1, s2) := by unfold utimes; rw [if_neg (fun h => h16 h.1), if_neg h16]
           rw [e16] at Hr
           clear e16
           by_cases h17 : k = 17
           ·subst h17
            rw [if_pos rfl] at Hr
            have HG := Lib.hid (get_u base p 3 row s2 w11 HU11.out hpp hr (by omega))
            have hx : (uget row s2 3).1 < 8 := get_lt row s2 3
            generalize uget row s2 3 = x at *
            obtain ⟨x1, x2⟩ := x
            dsimp only at hx HG Hr
            obtain ⟨rfl, hy, rfl⟩ : 0 = v ∧ t = 3 + x1 ∧ x2 = s3 := by
             have := Hr.out
             injection this with e1 e2
             injection e2 with e2 e3
             exact ⟨e1, e2.symm, e3⟩
            have hwx : IntKind.i64.wrap ((3 : Int) + (x1 : Int)) = (t : Int) := by rw [show (3 : Int) + (x1 : Int) = (t : Int) by omega]; exact IntWalk.i64_in _ (by omega)
            clear hy
            go_wp2_with fail
            refine (HG.out).mono ?_
            rintro e w12 ⟨rfl, hu12, hk12⟩
            have HU12 := Lib.hid hu12
            have HKm12 := Lib.hid (HKm11.out.keeps hk12)
            have HK12 := Lib.hid (HK11.out.keeps hk12)
            have HO12 := Lib.hid (hk12.own HOw11.out (by decide))
            clear hu12 hk12 HG
            go_wp2_with fail
            go_meet
            case rel => exact ⟨rfl, rfl, HU12.out, HKm12.out, HK12.out, HO12.out⟩

           ·have hb17 : ((k : Int) == 17) = false := by rw [beq_eq_false_iff_ne]; omega
            rw [if_neg h17] at Hr
            by_cases h18 : k = 18
            ·subst h18
             rw [if_pos rfl] at Hr
             have HG := Lib.hid (get_u base p 7 row s2 w11 HU11.out hpp hr (by omega))
             have hx : (uget row s2 7).1 < 128 := get_lt row s2 7
             generalize uget row s2 7 = x at *
             obtain ⟨x1, x2⟩ := x
             dsimp only at hx HG Hr
             obtain ⟨rfl, hy, rfl⟩ : 0 = v ∧ t = 11 + x1 ∧ x2 = s3 := by
              have := Hr.out
              injection this with e1 e2
              injection e2 with e2 e3
              exact ⟨e1, e2.symm, e3⟩
             have hwx : IntKind.i64.wrap ((11 : Int) + (x1 : Int)) = (t : Int) := by rw [show (11 : Int) + (x1 : Int) = (t : Int) by omega]; exact IntWalk.i64_in _ (by omega)
             clear hy
             go_wp2_with fail
             refine (HG.out).mono ?_
             rintro e w12 ⟨rfl, hu12, hk12⟩
             have HU12 := Lib.hid hu12
             have HKm12 := Lib.hid (HKm11.out.keeps hk12)
             have HK12 := Lib.hid (HK11.out.keeps hk12)
             have HO12 := Lib.hid (hk12.own HOw11.out (by decide))
             clear hu12 hk12 HG
             go_wp2_with fail
             go_meet
             case rel => exact ⟨rfl, rfl, HU12.out, HKm12.out, HK12.out, HO12.out⟩

            ·have hb18 : ((k : Int) == 18) = false := by rw [beq_eq_false_iff_ne]; omega
             rw [if_neg h18] at Hr
             obtain ⟨rfl, rfl, rfl⟩ : k = v ∧ 1 = t ∧ s2 = s3 := by
              have := Hr.out
              injection this with e1 e2
              injection e2 with e2 e3
              exact ⟨e1, e2, e3⟩
             go_wp2_with fail
             go_meet
             case rel => exact ⟨rfl, rfl, HU11.out, HKm11.out, HK11.out, HOw11.out⟩
         case rest =>
          obtain ⟨rfl, rfl, hu, hkm, hk, hown⟩ := hcut
          have HU := Lib.hid hu
          have HKm := Lib.hid hkm
          have HK := Lib.hid hk
          have HOw := Lib.hid hown
          have hc4 := (u_cells hu.2.1).2.2.2.2
          have hlb : (sl.e == 0) = (sl.e == 0) := rfl
          have hwt : IntKind.i64.wrap ((L : Int) + (t : Int)) = ((L + t : Nat) : Int) := by rw [show (L : Int) + (t : Int) = ((L + t : Nat) : Int) by omega]; exact IntWalk.i64_in _ (by omega)
          obtain ⟨Lt, hLt⟩ : ∃ x, x = L + t := ⟨_, rfl⟩
          rw [← hLt] at hwt HF
          clear hu hkm hk hown HU11 HKm11 HK11 HOw11 Hr hlb
          rename World => wb
          have hLtb : Lt ≤ L + 138 := by omega
          go_upto_region 27 with fail
          go_cut [131] from 117 to 131 (fun bv wx => bv = .bool (decide (s3.e = 0 ∧ N < Lt)) ∧ wx = wb)
          case first =>
           by_cases he : s3.e = 0
           ·rw [he] at hc4
            by_cases hN : N < Lt
            ·have hN' : (N : Int) < (Lt : Int) := by omega
             go_wp2_with fail
             go_meet
             case rel => exact ⟨by simp [he, hN]; omega, rfl⟩
            ·have hN' : ¬ (N : Int) < (Lt : Int) := by omega
             go_wp2_with fail
             go_meet
             case rel => exact ⟨by simp [he, hN]; omega, rfl⟩
           ·have hes : decide (s3.e = 0 ∧ N < Lt) = false := by simp [he]
            have heb : (s3.e == 0) = false := by rw [beq_eq_false_iff_ne]; exact he
            generalize hze : s3.e = ze at *
            go_wp2_with fail
            go_meet
            case rel => exact ⟨by simp [he], rfl⟩
          case rest =>
           obtain ⟨rfl, rfl⟩ := hcut
           go_upto_if 131 with fail
           go_cut [131] from 132 to 133 (fun bv wx => (∃ bb, bv = .bool bb) ∧ UAt wx base p row (uif (N < Lt) s3 8) vo vk ∧ KM rowV wx gm al ∧ OldK base w.heap.size unpT w wx ∧ wx.ownsRow w.heap.size 3 1 (.slice Al L cl) L (l.map natV))
           case first =>
            by_cases hb : s3.e = 0 ∧ N < Lt
            ·have HW := Lib.hid (wrong_u base p 8 row s3 _ HU.out)
             have e1 : uif (N < Lt) s3 8 = uwrong s3 8 := by unfold uif; rw [if_pos hb]
             have E1 := Lib.hid e1
             rw [show decide (s3.e = 0 ∧ N < Lt) = true from by simp [hb]]
             clear e1 hb
             go_wp2_with fail
             refine (HW.out).mono ?_
             rintro e w12 ⟨rfl, hu12, hk12⟩
             have HU12 := Lib.hid hu12
             have HKm12 := Lib.hid (HKm.out.keeps hk12)
             have HK12 := Lib.hid (HK.out.keeps hk12)
             have HO12 := Lib.hid (hk12.own HOw.out (by decide))
             clear hu12 hk12 HW
             go_wp2_with fail
             go_meet
             case rel => exact ⟨⟨_, rfl⟩, by rw [E1.out]; exact HU12.out, HKm12.out, HK12.out, HO12.out⟩
            ·have e1 : uif (N < Lt) s3 8 = s3 := by unfold uif; rw [if_neg hb]
             have E1 := Lib.hid e1
             rw [show decide (s3.e = 0 ∧ N < Lt) = false from by simpa using hb]
             clear e1 hb
             go_wp2_with fail
             go_meet
             case rel => exact ⟨⟨_, rfl⟩, by rw [E1.out]; exact HU.out, HKm.out, HK.out, HOw.out⟩
           case rest =>
            obtain ⟨⟨bb2, rfl⟩, hu, hkm, hk, hown⟩ := hcut
            replace HU := Lib.hid hu
            replace HKm := Lib.hid hkm
            replace HK := Lib.hid hk
            replace HOw := Lib.hid hown
            have hsz := hk.size
            have hps4 : (uif (N < Lt) s3 8).pos ≤ row.length := by rw [(if_same _ s3 8).1]; exact htr
            generalize uif (N < Lt) s3 8 = s4' at *
            clear hu hkm hk hown hc4
            rename World => wd
            have hba : Below wd.heap.size wd (wd.alloc (.cells #[.int .i64 (v : Int)] 3)) := (Below.refl _ _).alloc (Nat.le_refl _) _
            have HV1 : Hid (SlAt (wd.alloc (.cells #[.int .i64 (v : Int)] 3)) (some ⟨wd.heap.size, 0, none⟩) [.int .i64 (v : Int)]) := Lib.hid (SlAt.of_heap (heap_alloc_new _ _) rfl)
            have Hba := Lib.hid hba
            clear hba
            go_wp2_with fail
            refine (repeat1_any (some ⟨wd.heap.size, 0, none⟩) 1 t (v : Int) _ HV1.out htp.1 (by omega)).mono ?_
            rintro e w14 ⟨⟨A4, rfl, hs4⟩, hb4⟩
            have Hb14 := Lib.hid (Hba.out.trans (hb4.mono Hba.out.size))
            obtain ⟨X, hX⟩ : ∃ X, X = List.replicate t (Value.int .i64 (v : Int)) := ⟨_, rfl⟩
            have HX := Lib.hid hX
            rw [← hX] at hs4
            have HS4 := Lib.hid hs4
            have Hxl : Hid (X.length = t * 1) := Lib.hid (by rw [hX]; simp)
            have HXo : Hid (∀ u ∈ X, u.oneCell' = true) := Lib.hid (by rw [hX]; intro u hu; rw [List.eq_of_mem_replicate hu]; rfl)
            have HA4 : Hid (A4 = none → t = 0) := Lib.hid (fun e => by
             obtain ⟨b, o, e', _⟩ := HS4.out (by rw [Hxl.out]; omega)
             rw [e] at e'
             cases e')
            have HOw14 := Lib.hid (own_keep HOw.out Hb14.out)
            have hsz14 : w.heap.size ≤ w14.heap.size := Nat.le_trans hsz Hb14.out.size
            have HU14 := Lib.hid (HU.out.below Hb14.out)
            have HKm14 := Lib.hid (HKm.out.below Hb14.out)
            have HK14 := Lib.hid (HK.out.below (Hb14.out.mono hsz) hbw)
            clear hX hs4 hb4 Hba HV1 HU HKm HK HOw Hb14
            go_wp2_with (at_builtin; refine wpList_app _ rfl (.tmp 134) (.tmp 138) _ rfl w.heap.size 3 _ 1 8 Inf.tyI _ L (l.map natV) rfl HOw14.out A4 t t X rfl Hxl.out HS4.out HXo.out HA4.out (by unfold maxLen; omega) (by omega) hsz14 ?_; intro v8 w8 hown8 hg8 _; have Hb8 : Hid (Below w.heap.size w14 w8) := Lib.hid (own_below HOw14.out hg8 (Below.refl _ _) hsz14); have Ho8 := Lib.hid hown8; have Hg8 := Lib.hid hg8; clear hown8 hg8)
            obtain ⟨A8, c8, rfl, _⟩ := own_slat Ho8.out
            have hlen8 : (l ++ List.replicate t v).length = Lt := by rw [List.length_append, List.length_replicate, ← HLl.out, hLt]
            have hmap8 : (l ++ List.replicate t v).map natV = l.map natV ++ X := by rw [List.map_append, List.map_replicate, HX.out]; rfl
            have hkmb : (Value.slice Al L cl).ownBlock ≠ some gm := fun h => by
             obtain ⟨M, k0, hm, _⟩ := HKm14.out
             obtain ⟨_, h2⟩ := HOw14.out
             rcases h2 with ⟨e, _⟩ | ⟨g, cap, cur, e, hbg, hg, _⟩
             ·rw [e] at h; cases h
             ·rw [e] at h
              injection h with h
              subst h
              rw [hm] at hg
              cases hg
            go_roundw
            case rel => exact ⟨f, l ++ List.replicate t v, s4', by rw [hlen8]; omega, by rw [hlen8]; omega, HF.out, by rw [hlen8, hmap8, hLt]; exact Ho8.out, hps4, HU14.out.low Hb8.out hpB HVo.out HVk.out, HKm14.out.grown Hg8.out hkmb, HK14.out.below Hb8.out hbw⟩
            case measure => show N + 200 - (L + t) < N + 200 - L; omega
        ·have HF2 := Lib.hid (show F = (l, sl) by rw [HF.out]; exact ulens_end (by rw [← HLl.out]; exact hgo) f)
         rw [HF2.out] at HT
         clear HF HF2
         by_cases he : sl.e = 0
         ·have hLN : N ≤ L := by
           rcases Nat.lt_or_ge L N with h | h
           ·exact absurd ⟨h, he⟩ hgo
           ·exact h
          have hlt2 : ¬ (L : Int) < (m : Int) + (n : Int) := by omega
          have hlt3 : ¬ (L : Int) < (N : Int) := by omega
          obtain ⟨bl, ol, rfl, hc256⟩ := hsl.get (k := 256) (by rw [List.length_map, ← HLl.out]; omega)
          rw [List.getElem_map] at hc256
          have hgd : l.getD 256 0 = l[256]'(by rw [← HLl.out]; omega) := by rw [List.getD_eq_getElem?_getD, List.getElem?_eq_getElem (by rw [← HLl.out]; omega)]; rfl
          have hc256' : wr.cell? ⟨bl, ol + 256, none⟩ = some (.int .i64 ((l.getD 256 0 : Nat) : Int)) := by rw [hgd]; exact hc256
          have htk : (l.take m).length = m := by rw [List.length_take, ← HLl.out]; omega
          have hdk : (l.drop m).length = L - m := by rw [List.length_drop, ← HLl.out]
          have hs1 : SlAt wr (some ⟨bl, ol, none⟩) ((l.take m).map natV) := by rw [List.map_take]; exact hsl.take m
          have hs2 : SlAt wr (some ⟨bl, ol + m, none⟩) ((l.drop m).map natV) := by rw [List.map_drop]; exact hsl.drop m
          have HC1 := Lib.hid (Cds.lengths_any (some ⟨bl, ol, none⟩) m cl (zsOf (l.take m)) wr (by rw [zs_len, htk]) (by unfold maxLen; omega) (inat_zs hs1))
          have HC2 := Lib.hid (Cds.lengths_any (some ⟨bl, ol + m, none⟩) (L - m) (cl - m) (zsOf (l.drop m)) wr (by rw [zs_len, hdk]) (by unfold maxLen; omega) (inat_zs hs2))
          have HS1 := Lib.hid hs1
          have HS2 := Lib.hid hs2
          have Htk := Lib.hid htk
          have Hdk := Lib.hid hdk
          replace HT := Lib.hid (show T = if l.getD 256 0 = 0 ∨ chkL (zsOf (l.take m)) ≠ 0 ∨ chkL (zsOf (l.drop m)) ≠ 0 then (([], []), uwrong sl 8) else ((l.take m, l.drop m), sl) by
           rw [HT.out]; unfold tolL; rw [if_neg (fun h => h he)])
          have HW := Lib.hid (wrong_u base p 8 row sl wr HU.out)
          have he8 : (uwrong sl 8).e = 8 := by rw [wrong_yes he]
          have He8 := Lib.hid he8
          have HK9 := Lib.hid (HK.out.toKeeps)
          have HE := Lib.hid he
          have h256 : (256 : Int) < (L : Int) := by omega
          have hmL : (m : Int) ≤ (L : Int) := by omega
          have hmc : (m : Int) ≤ (cl : Int) := by omega
          have hLc : (L : Int) ≤ (cl : Int) := by omega
          have hmcn : ¬ (cl = m) := by omega
          have hm0 : (0 : Int) ≤ (m : Int) := by omega
          rw [he] at hc4
          generalize l.getD 256 0 = v at *
          generalize chkL (zsOf (l.take m)) = z1 at *
          generalize chkL (zsOf (l.drop m)) = z2 at *
          generalize l.take m = la at *
          generalize l.drop m = lb at *
          clear hgo hc256 hgd hs1 hs2 htk hdk hsl he he8 hps HOw HKm
          by_cases hv : v = 0
          ·replace HT := Lib.hid (show T = (([], []), uwrong sl 8) by rw [HT.out, if_pos (.inl hv)])
           have hvb : ((v : Int) == 0) = true := by rw [hv]; rfl
           clear hv
           go_wp2_with fail
           refine (HW.out).mono ?_
           rintro e w30 ⟨rfl, hu30, hk30⟩
           have HU30 := Lib.hid hu30
           have HK30 := Lib.hid (HK9.out.trans hk30)
           clear hu30 hk30 HW
           go_wp2_with fail
           go_ret2
           exact ⟨⟨_, _, _, _, _, _, rfl, fun h => by rw [HT.out] at h; exact absurd (He8.out.symm.trans h) (by decide)⟩, by rw [HT.out]; exact HU30.out, HK30.out⟩
          ·have hvb : ((v : Int) == 0) = false := by rw [beq_eq_false_iff_ne]; omega
           by_cases h1 : z1 = 0
           ·subst h1
            by_cases h2 : z2 = 0
            ·subst h2
             replace HT := Lib.hid (show T = ((la, lb), sl) by rw [HT.out, if_neg (by intro h; rcases h with h | h | h <;> first | exact hv h | exact h rfl)])
             clear hv
             go_wp2_with fail
             refine (HC1.out).mono ?_
             rintro e w20 ⟨rfl, hw20⟩
             subst hw20
             go_wp2_with fail
             refine (HC2.out).mono ?_
             rintro e w21 ⟨rfl, hw21⟩
             subst hw21
             go_wp2_with fail
             go_quiet (fail)
             go_wp2_with fail
             go_ret2
             exact ⟨⟨_, _, _, _, _, _, rfl, fun _ => by rw [HT.out]; exact ⟨Htk.out.symm, Hdk.out.symm, HS1.out, HS2.out⟩⟩, by rw [HT.out]; exact HU.out.drewN _, HK9.out.drewN _⟩
            ·replace HT := Lib.hid (show T = (([], []), uwrong sl 8) by rw [HT.out, if_pos (.inr (.inr h2))])
             have hb2 : (z2 == 0) = false := by rw [beq_eq_false_iff_ne]; exact h2
             have hn2 : (z2 != 0) = true := by rw [bne, hb2]; rfl
             clear hv h2
             go_wp2_with fail
             refine (HC1.out).mono ?_
             rintro e w20 ⟨rfl, hw20⟩
             subst hw20
             go_wp2_with fail
             refine (HC2.out).mono ?_
             rintro e w21 ⟨rfl, hw21⟩
             subst hw21
             go_wp2_with fail
             refine (HW.out).mono ?_
             rintro e w30 ⟨rfl, hu30, hk30⟩
             have HU30 := Lib.hid hu30
             have HK30 := Lib.hid (HK9.out.trans hk30)
             clear hu30 hk30 HW
             go_wp2_with fail
             go_ret2
             exact ⟨⟨_, _, _, _, _, _, rfl, fun h => by rw [HT.out] at h; exact absurd (He8.out.symm.trans h) (by decide)⟩, by rw [HT.out]; exact HU30.out, HK30.out⟩
           ·replace HT := Lib.hid (show T = (([], []), uwrong sl 8) by rw [HT.out, if_pos (.inr (.inl h1))])
            have hb1 : (z1 == 0) = false := by rw [beq_eq_false_iff_ne]; exact h1
            have hn1 : (z1 != 0) = true := by rw [bne, hb1]; rfl
            clear hv h1
            go_wp2_with fail
            refine (HC1.out).mono ?_
            rintro e w20 ⟨rfl, hw20⟩
            subst hw20
            go_wp2_with fail
            refine (HW.out).mono ?_
            rintro e w30 ⟨rfl, hu30, hk30⟩
            have HU30 := Lib.hid hu30
            have HK30 := Lib.hid (HK9.out.trans hk30)
            clear hu30 hk30 HW
            go_wp2_with fail
            go_ret2
            exact ⟨⟨_, _, _, _, _, _, rfl, fun h => by rw [HT.out] at h; exact absurd (He8.out.symm.trans h) (by decide)⟩, by rw [HT.out]; exact HU30.out, HK30.out⟩
         ·have heb : (sl.e == 0) = false := by rw [beq_eq_false_iff_ne]; exact he
          have hen : (sl.e != 0) = true := by rw [bne, heb]; rfl
          replace HT := Lib.hid (show T = (([], []), sl) by rw [HT.out]; unfold tolL; rw [if_pos he])
          have HK9 := Lib.hid (HK.out.toKeeps)
          have Hne := Lib.hid he
          generalize hze : sl.e = ze at *
          by_cases hlt : L < N
          ·have hlt2 : (L : Int) < (m : Int) + (n : Int) := by omega
           have hlt3 : (L : Int) < (N : Int) := by omega
           clear he hgo
           go_wp2_with fail
           go_ret2
           exact ⟨⟨_, _, _, _, _, _, rfl, fun h => by rw [HT.out] at h; exact absurd (hze.symm.trans h) Hne.out⟩, by rw [HT.out]; exact HU.out, HK9.out⟩
          ·have hlt2 : ¬ (L : Int) < (m : Int) + (n : Int) := by omega
           have hlt3 : ¬ (L : Int) < (N : Int) := by omega
           clear he hgo
           go_wp2_with fail
           go_ret2
           exact ⟨⟨_, _, _, _, _, ⟨_, rfl⟩, fun h => by rw [HT.out] at h; exact absurd (hze.symm.trans h) Hne.out⟩, by rw [HT.out]; exact HU.out, HK9.out⟩
      ·have hcb : (chkL (zsOf sm) == 0) = false := by rw [beq_eq_false_iff_ne]; exact hch
       have hcn : (chkL (zsOf sm) != 0) = true := by rw [bne, hcb]; rfl
       replace HT := Lib.hid (show T = (([], []), uwrong sz 8) by rw [HT.out]; exact tolZ_bad he hch)
       have HW := Lib.hid (wrong_u base p 8 row sz wr HU.out)
       have he8 : (uwrong sz 8).e = 8 := by rw [wrong_yes he]
       generalize chkL (zsOf sm) = zc at *
       rw [he] at hc4
       go_wp2_with fail
       refine (HC.out).mono ?_
       rintro e w8 ⟨rfl, rfl⟩
       clear HC
       go_wp2_with fail
       refine (HW.out).mono ?_
       rintro e w10 ⟨rfl, hu10, hk10⟩
       have HU10 := Lib.hid hu10
       have HK10 := Lib.hid (HK.out.keeps hk10).toKeeps
       have hd4 := (u_cells hu10.2.1).2.2.2.2
       rw [he8] at hd4
       clear hu10 hk10 hc4 HW HK HU HZ HSl
       go_wp2_with fail
       go_ret2
       exact ⟨⟨_, _, _, _, _, _, rfl, fun h => by rw [HT.out] at h; exact absurd (he8.symm.trans h) (by decide)⟩, by rw [HT.out]; exact HU10.out, HK10.out⟩
     ·have heb : (sz.e == 0) = false := by rw [beq_eq_false_iff_ne]; exact he
      have hen : (sz.e != 0) = true := by rw [bne, heb]; rfl
      replace HT := Lib.hid (show T = (([], []), sz) by rw [HT.out]; unfold tolZ; rw [if_stuck he, if_pos he])
      have HK9 := Lib.hid (HK.out.toKeeps)
      have Hne := Lib.hid he
      generalize hze : sz.e = ze at *
      clear HC HSl he
      go_wp2_with fail
      go_ret2
      exact ⟨⟨_, _, _, _, _, _, rfl, fun h => by rw [HT.out] at h; exact absurd (hze.symm.trans h) Hne.out⟩, by rw [HT.out]; exact HU.out, HK9.out⟩
end Go.Proofs.YthpdcnjaodjjmaaGreat.Unp

/- reliquaryref: the unpacker: how far, how great; told's lengths are fine. No walk in sight. -/
namespace Go.Proofs.YthpdcnjaodjjmaaGreat.Unp
open Go Go.RowKit Go.Proofs.YthpdcnjaodjjmaaGreat Go.Proofs.YthpdcnjaodjjmaaGreat.Bits Go.Proofs.YthpdcnjaodjjmaaGreat.Code
open Go.Proofs.YthpdcnjaodjjmaaGreat.Inf hiding then_ok tyI
set_option linter.unusedVariables false

theorem sizes_same (row : List Bool) : ∀ (ks sm : List Nat) (s : St), (usizes row ks sm s).2.out = s.out ∧ (usizes row ks sm s).2.ks = s.ks
 | [], sm, s => ⟨rfl, rfl⟩
 | k :: ks, sm, s => by
  have h1 := sizes_same row ks (sm.set k (uget row s 3).1) (uget row s 3).2
  have h2 := get_out row s 3
  exact ⟨h1.1.trans h2.1, h1.2.trans h2.2⟩
theorem times_same (row : List Bool) (l : List Nat) (k : Nat) (s : St) : (utimes row l k s).2.2.out = s.out ∧ (utimes row l k s).2.2.ks = s.ks := by
 unfold utimes
 split
 ·exact (wrong_same s 8).2
 ·split
  ·exact get_out row s 2
  ·split
   ·exact get_out row s 3
   ·split
    ·exact get_out row s 7
    ·exact ⟨rfl, rfl⟩
theorem lens_same (row : List Bool) (ls : List Nat) (n : Nat) : ∀ (f : Nat) (l : List Nat) (s : St), (ulens row ls n f l s).2.out = s.out ∧ (ulens row ls n f l s).2.ks = s.ks
 | 0, l, s => ⟨rfl, rfl⟩
 | f + 1, l, s => by
  unfold ulens
  split
  ·have h1 := lens_same row ls n f (l ++ List.replicate (utimes row l (uplace row ls s).1 (uplace row ls s).2).2.1 (utimes row l (uplace row ls s).1 (uplace row ls s).2).1) (uif (n < l.length + (utimes row l (uplace row ls s).1 (uplace row ls s).2).2.1) (utimes row l (uplace row ls s).1 (uplace row ls s).2).2.2 8)
   have h2 := if_same (n < l.length + (utimes row l (uplace row ls s).1 (uplace row ls s).2).2.1) (utimes row l (uplace row ls s).1 (uplace row ls s).2).2.2 8
   have h3 := times_same row l (uplace row ls s).1 (uplace row ls s).2
   have h4 := place_out row ls s
   exact ⟨((h1.1.trans h2.2.1).trans h3.1).trans h4.1, ((h1.2.trans h2.2.2).trans h3.2).trans h4.2⟩
  ·exact ⟨rfl, rfl⟩
theorem lens_pos (row : List Bool) (ls : List Nat) (n : Nat) : ∀ (f : Nat) (l : List Nat) (s : St), s.pos ≤ row.length → (ulens row ls n f l s).2.pos ≤ row.length
 | 0, l, s, h => h
 | f + 1, l, s, h => by
  unfold ulens
  split
  ·refine lens_pos row ls n f _ _ ?_
   rw [(if_same _ _ 8).1]
   exact times_posR (place_pos h)
  ·exact h
theorem tolL_facts (m : Nat) (l : List Nat × St) : (tolL m l).2.pos = l.2.pos ∧ (tolL m l).2.out = l.2.out ∧ (tolL m l).2.ks = l.2.ks ∧ ((tolL m l).2.e = 0 → chkL (zsOf (tolL m l).1.1) = 0 ∧ chkL (zsOf (tolL m l).1.2) = 0) := by
 unfold tolL
 by_cases h : l.2.e ≠ 0
 ·rw [if_pos h]; exact ⟨rfl, rfl, rfl, fun he => absurd he h⟩
 ·rw [if_neg h]
  have he : l.2.e = 0 := by simpa using h
  by_cases h2 : l.1.getD 256 0 = 0 ∨ chkL (zsOf (l.1.take m)) ≠ 0 ∨ chkL (zsOf (l.1.drop m)) ≠ 0
  ·rw [if_pos h2]
   have hw := wrong_same l.2 8
   refine ⟨hw.1, hw.2.1, hw.2.2, fun h3 => ?_⟩
   have h4 : (uwrong l.2 8).e = 0 := h3
   rw [wrong_yes he] at h4
   exact absurd h4 (by show ¬ (8 : Int) = 0; decide)
  ·rw [if_neg h2]
   refine ⟨rfl, rfl, rfl, fun _ => ⟨?_, ?_⟩⟩
   ·exact Decidable.byContradiction fun h3 => h2 (.inr (.inl h3))
   ·exact Decidable.byContradiction fun h3 => h2 (.inr (.inr h3))
theorem tolZ_facts (row : List Bool) (m n : Nat) (sm : List Nat) (s6 : St) (hp : s6.pos ≤ row.length) : (tolZ row m n sm s6).2.pos ≤ row.length ∧ (tolZ row m n sm s6).2.out = s6.out ∧ (tolZ row m n sm s6).2.ks = s6.ks ∧ ((tolZ row m n sm s6).2.e = 0 → chkL (zsOf (tolZ row m n sm s6).1.1) = 0 ∧ chkL (zsOf (tolZ row m n sm s6).1.2) = 0) := by
 unfold tolZ
 by_cases h : s6.e ≠ 0
 ·rw [if_pos h]; exact ⟨hp, rfl, rfl, fun he => absurd he h⟩
 ·rw [if_neg h]
  have h1 := tolL_facts m (ulens row sm (m + n) (m + n) [] s6)
  have h2 := lens_same row sm (m + n) (m + n) [] s6
  have h3 := lens_pos row sm (m + n) (m + n) [] s6 hp
  exact ⟨by rw [h1.1]; exact h3, h1.2.1.trans h2.1, h1.2.2.1.trans h2.2, h1.2.2.2⟩
theorem s4of_same (m n : Nat) (s : St) : (s4of m n s).pos = s.pos ∧ (s4of m n s).out = s.out ∧ (s4of m n s).ks = s.ks := by
 unfold s4of
 split
 ·exact wrong_same s 8
 ·exact ⟨rfl, rfl, rfl⟩
theorem told_facts (row : List Bool) (s : St) (hp : s.pos ≤ row.length) : (utold row s).2.pos ≤ row.length ∧ (utold row s).2.out = s.out ∧ (utold row s).2.ks = s.ks ∧ ((utold row s).2.e = 0 → chkL (zsOf (utold row s).1.1) = 0 ∧ chkL (zsOf (utold row s).1.2) = 0) := by
 rw [told_eq]
 have q1 := get_pos (n := 5) hp
 have o1 := get_out row s 5
 generalize uget row s 5 = a at *
 have q2 := get_pos (n := 5) q1
 have o2 := get_out row a.2 5
 generalize uget row a.2 5 = b at *
 have q3 := get_pos (n := 4) q2
 have o3 := get_out row b.2 4
 generalize uget row b.2 4 = c at *
 have h4 := s4of_same (a.1 + 257) (b.1 + 1) c.2
 generalize s4of (a.1 + 257) (b.1 + 1) c.2 = s4 at *
 have q4 : s4.pos ≤ row.length := by rw [h4.1]; exact q3
 have q5 := sizes_pos row (orderL.take (c.1 + 4)) (List.replicate 19 0) s4 q4
 have o5 := sizes_same row (orderL.take (c.1 + 4)) (List.replicate 19 0) s4
 generalize usizes row (orderL.take (c.1 + 4)) (List.replicate 19 0) s4 = z at *
 have h6 := if_same (chkL (zsOf z.1) ≠ 0) z.2 8
 have hZ := tolZ_facts row (a.1 + 257) (b.1 + 1) z.1 (uif (chkL (zsOf z.1) ≠ 0) z.2 8) (by rw [h6.1]; exact q5)
 refine ⟨hZ.1, ?_, ?_, hZ.2.2.2⟩
 ·exact (((((hZ.2.1.trans h6.2.1).trans o5.1).trans h4.2.1).trans o3.1).trans o2.1).trans o1.1
 ·exact (((((hZ.2.2.1.trans h6.2.2).trans o5.2).trans h4.2.2).trans o3.2).trans o2.2).trans o1.2
theorem fix_chk : chkL (zsOf fixedA) = 0 ∧ chkL (zsOf fixedB) = 0 := by decide +kernel
theorem nxt_adv (ls : List Nat) (row : List Bool) : ∀ k n : Nat, (nxt ls row k n).2.2 = 0 → n ≤ (nxt ls row k n).2.1
 | 0, n, h => by unfold nxt at h; simp at h
 | k + 1, n, h => by
  unfold nxt at h ⊢
  split at h
  ·simp at h
  ·split at h
   ·rename_i h1 _ _ _
    rw [if_neg h1]; exact Nat.le_refl _
   ·rename_i h1 _ _
    rw [if_neg h1]
    have := nxt_adv ls row k (n + 1) h
    omega
theorem place_adv (row : List Bool) (ls : List Nat) (s : St) (he : s.e = 0) (h : (uplace row ls s).2.e = 0) : s.pos + 1 ≤ (uplace row ls s).2.pos := by
 unfold uplace at h ⊢
 rw [if_pos he] at h ⊢
 unfold symR at h ⊢
 by_cases hn : (next ls (row.drop s.pos)).2.2 = 0
 ·rw [if_pos hn]
  have := nxt_adv ls (row.drop s.pos) 15 1 hn
  show s.pos + 1 ≤ s.pos + (next ls (row.drop s.pos)).2.1
  have e : next ls (row.drop s.pos) = nxt ls (row.drop s.pos) 15 1 := rfl
  rw [e]; omega
 ·rw [if_neg hn] at h
  exact absurd h hn
theorem get_adv (row : List Bool) (s : St) (n : Nat) : s.pos ≤ (uget row s n).2.pos := by
 unfold uget
 split
 ·unfold getR
  split
  ·rename_i heq; split at heq
   ·injection heq with heq; subst heq; exact Nat.le_add_right _ _
   ·cases heq
  ·exact Nat.le_refl _
 ·exact Nat.le_refl _
end Go.Proofs.YthpdcnjaodjjmaaGreat.Unp
