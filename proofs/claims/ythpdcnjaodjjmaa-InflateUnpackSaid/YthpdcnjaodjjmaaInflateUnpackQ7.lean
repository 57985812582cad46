/- texts joined: UnpGet ConcatI UnpSizes CdsChk UnpTold UnpPos. -/
import Derived.Test.YthpdcnjaodjjmaaInflateUnpackQ4
import Derived.Test.YthpdcnjaodjjmaaInflateUnpackQ5
import Derived.Test.YthpdcnjaodjjmaaInflateUnpackQ6
import Derived.StillTailTactics
import Derived.Test.YthpdcnjaodjjmaaInflateUnpackQ1
import Derived.Test.YthpdcnjaodjjmaaProg
import Derived.WalkSpells
import Derived.Lib.AppendZeros
import Derived.Test.YthpdcnjaodjjmaaInflateUnpackQ2
import Derived.Test.YthpdcnjaodjjmaaInflateUnpackQ3
import Derived.Deep.CutRange
import Derived.Deep.CutBlock
/- reliquaryref: the unpacker: get, place, say, wrong: the walks. -/
namespace Go.Proofs.Ythpdcnjaodjjmaa.Unp
open Go Go.RowKit Go.Proofs.Ythpdcnjaodjjmaa Go.Proofs.Ythpdcnjaodjjmaa.Bits Go.Proofs.Ythpdcnjaodjjmaa.Code
open Go.Proofs.Ythpdcnjaodjjmaa.Inf hiding then_ok
open Go.Proofs.Ythpdcnjaodjjmaa.Cds (HasBook next_any codebook_any lkup)
set_option linter.unusedVariables false

theorem own_low {w w' : World} {base B0 : Nat} {e : TypeId} {size n : Nat} {v : Value} {xs : List Value} (h : w.ownsRow base e size v n xs) (hv : ∀ b, v.ownBlock = some b → b < B0) (hb : Below B0 w w') : w'.ownsRow base e size v n xs := by
  obtain ⟨h1, h2⟩ := h
  refine ⟨h1, ?_⟩
  rcases h2 with h | ⟨g, cap, cur, rfl, hbg, r⟩
  · exact .inl h
  · have hg : g < B0 := hv g rfl
    refine .inr ⟨g, cap, cur, rfl, hbg, ?_⟩
    rw [hb.block g hg]
    exact r
def unpT : List TypeId := [61, 5]
/-- an unpacker at p, its memory from 'base' on -/
def UAt (w : World) (base p : Nat) (row : List Bool) (s : St) (vo vk : Value) : Prop :=
  base ≤ p ∧ Blk w p 61 #[rowV row, .int .i64 (s.pos : Int), vo, vk, .int .i64 s.e] ∧ w.ownsRow base 5 1 vo s.out.length (s.out.map u8v) ∧ w.ownsRow base 3 1 vk s.ks.length (s.ks.map natV)
section
variable {w w' : World} {base p : Nat} {row : List Bool} {s : St} {vo vk : Value}
theorem UAt.below (h : UAt w base p row s vo vk) (hb : Below w.heap.size w w') : UAt w' base p row s vo vk := by
  obtain ⟨h1, h2, h3, h4⟩ := h
  exact ⟨h1, h2.below hb h2.lt, own_keep h3 hb, own_keep h4 hb⟩
theorem UAt.lt (h : UAt w base p row s vo vk) : p < w.heap.size := by
  obtain ⟨h1, h2, h3, h4⟩ := h
  exact h2.lt
theorem UAt.bs (h : UAt w base p row s vo vk) : base ≤ w.heap.size := Nat.le_trans h.1 (Nat.le_of_lt h.lt)
theorem UAt.low {B0 : Nat} (h : UAt w base p row s vo vk) (hb : Below B0 w w') (hp : p < B0) (ho : ∀ b, vo.ownBlock = some b → b < B0) (hk : ∀ b, vk.ownBlock = some b → b < B0) : UAt w' base p row s vo vk := by
  obtain ⟨h1, h2, h3, h4⟩ := h
  refine ⟨h1, ?_, own_low h3 ho hb, own_low h4 hk hb⟩
  unfold Blk at h2 ⊢
  rw [hb.block p hp]; exact h2
theorem UAt.owns (h : UAt w base p row s vo vk) : p < w.heap.size ∧ (∀ b, vo.ownBlock = some b → b < w.heap.size) ∧ (∀ b, vk.ownBlock = some b → b < w.heap.size) := by
  have hl := h.lt
  obtain ⟨h1, h2, h3, h4⟩ := h
  exact ⟨hl, fun b hb => (h3.lt b hb).2, fun b hb => (h4.lt b hb).2⟩
theorem UAt.drewN (h : UAt w base p row s vo vk) (n : Nat) : UAt (w.drewN n) base p row s vo vk := h
end
theorem u_set {w : World} {base p i : Nat} {cs : Array Value} {vo vk u : Value} {os ks : List Value} {no nk : Nat} (hB : Blk w p 61 cs) (hO : w.ownsRow base 5 1 vo no os) (hK : w.ownsRow base 3 1 vk nk ks) :
    Blk (w.setCell ⟨p, i, none⟩ u) p 61 (cs.setIfInBounds i u) ∧ (w.setCell ⟨p, i, none⟩ u).ownsRow base 5 1 vo no os ∧ (w.setCell ⟨p, i, none⟩ u).ownsRow base 3 1 vk nk ks :=
  ⟨hB.set_ i u, ownsRow_setCell_other hO (own_ne hO hB (by decide)) u, ownsRow_setCell_other hK (own_ne hK hB (by decide)) u⟩
theorem row_mid (l : List Bool) (a b : Nat) (hab : a ≤ b) (hb : b ≤ l.length) : (strB (rowS l)).extract a b = strB (rowS ((l.drop a).take (b - a))) := by
  apply ByteArray.ext
  rw [ByteArray.data_extract]
  show ((rowS l).toArray).extract a b = (rowS ((l.drop a).take (b - a))).toArray
  unfold rowS
  rw [List.extract_toArray, List.extract_eq_take_drop, ← List.map_drop, ← List.map_take]
theorem u_cells {w : World} {p : Nat} {a b c d e : Value} (hB : Blk w p 61 #[a, b, c, d, e]) : w.cell? ⟨p, 0, none⟩ = some a ∧ w.cell? ⟨p, 1, none⟩ = some b ∧ w.cell? ⟨p, 2, none⟩ = some c ∧ w.cell? ⟨p, 3, none⟩ = some d ∧ w.cell? ⟨p, 4, none⟩ = some e := by
  refine ⟨?_, ?_, ?_, ?_, ?_⟩ <;> rw [hB.cell] <;> rfl
set_option maxRecDepth 100000 in
set_option maxHeartbeats 1600000 in
theorem get_u (base p n : Nat) {vo vk : Value} (row : List Bool) (s : St) (w : World) (h : UAt w base p row s vo vk) (hp : s.pos ≤ row.length) (hr : row.length ≤ 1000000) (hn : n ≤ 16) :
    Calls Try.prog 49 #[.pointer (some ⟨p, 0, none⟩), .int .i64 (n : Int)] w fun e w' => e = .returned (.int .i64 ((uget row s n).1 : Int)) ∧ UAt w' base p row (uget row s n).2 vo vk ∧ Keeps base unpT w w' := by
  obtain ⟨pos, out, ks, er⟩ := s
  dsimp only at hp
  obtain ⟨hbp, hB, hO, hK⟩ := h
  dsimp only at hB hO hK
  have hsz : (strB (rowS row)).size = row.length := by rw [strB_size, rowS_length]
  have HB := Lib.hid hB
  have HO := Lib.hid hO
  have HK := Lib.hid hK
  obtain ⟨c0, c1, c2, c3, c4⟩ := u_cells hB
  unfold rowV at c0
  clear hB hO hK c2 c3
  by_cases he : er = 0
  · subst he
    have hz : ((0 : Int) == 0) = true := rfl
    have hsum : IntKind.i64.wrap ((pos : Int) + (n : Int)) = (pos : Int) + (n : Int) := IntWalk.i64_in _ (by omega)
    by_cases ht : row.length < pos + n
    · have ht' : (row.length : Int) < (pos : Int) + (n : Int) := by omega
      have HG : Hid (uget row ⟨pos, out, ks, 0⟩ n = (0, ⟨pos, out, ks, 7⟩)) := Lib.hid (get_bad rfl (by unfold getR; rw [if_neg (by dsimp only; omega)]))
      rw [HG.out]
      generalize strB (rowS row) = S at *
      generalize hm : row.length = m at *
      clear hm
      go_enter Try.func49, Try.ntmps49
      go_wp2_with fail
      go_quiet (fail)
      have HB1 := Lib.hid (HB.out.drewN nq)
      have HO1 : Hid ((w.drewN nq).ownsRow base 5 1 vo out.length (out.map u8v)) := HO
      have HK1 : Hid ((w.drewN nq).ownsRow base 3 1 vk ks.length (ks.map natV)) := HK
      have Hk1 := Lib.hid ((Keeps.refl base unpT w).drewN nq)
      generalize w.drewN nq = w1 at *
      have f4 := HB1.out.frozen 4
      have HS := Lib.hid (u_set (i := 4) (u := .int .i64 7) HB1.out HO1.out HK1.out)
      have Hk2 := Lib.hid (Hk1.out.setBlk HB1.out (by simp [unpT]) hbp 4 (.int .i64 7))
      clear c0 c1 c4 hsum HB HO HK
      obtain ⟨_, _, _, _, d4⟩ := u_cells HB1.out
      go_wp2_with fail
      go_ret
      exact ⟨rfl, ⟨hbp, HS.out.1, HS.out.2.1, HS.out.2.2⟩, Hk2.out⟩
    · have ht' : ¬ (row.length : Int) < (pos : Int) + (n : Int) := by omega
      obtain ⟨sg, hsg⟩ : ∃ sg, sg = (row.drop pos).take n := ⟨_, rfl⟩
      have hsl : sg.length ≤ 60 := by rw [hsg, List.length_take]; omega
      have HG : Hid (uget row ⟨pos, out, ks, 0⟩ n = (num sg, ⟨pos + n, out, ks, 0⟩)) := Lib.hid (by
        rw [hsg]; exact get_ok (a := (num ((row.drop pos).take n), pos + n)) rfl (by unfold getR; rw [if_pos (by dsimp only; omega)]))
      have hex : (strB (rowS row)).extract pos (pos + n) = strB (rowS sg) := by
        have := row_mid row pos (pos + n) (by omega) (by omega)
        rw [show pos + n - pos = n by omega, ← hsg] at this
        exact this
      have HN := Lib.hid (fun w' => ofNumber_any sg w' hsl)
      unfold rowV at HN
      rw [HG.out]
      have HRow : Hid (rowV row = .string (strB (rowS row))) := Lib.hid rfl
      generalize strB (rowS row) = S at *
      generalize strB (rowS sg) = S2 at *
      generalize hm : row.length = m at *
      clear hm hsg
      go_enter Try.func49, Try.ntmps49
      go_wp2_with fail
      go_quiet (fail)
      have HB1 := Lib.hid (HB.out.drewN nq)
      have HO1 : Hid ((w.drewN nq).ownsRow base 5 1 vo out.length (out.map u8v)) := HO
      have HK1 : Hid ((w.drewN nq).ownsRow base 3 1 vk ks.length (ks.map natV)) := HK
      have Hk1 := Lib.hid ((Keeps.refl base unpT w).drewN nq)
      generalize w.drewN nq = w1 at *
      clear c0 c1 c4 HB HO HK
      obtain ⟨_, d1, _, _, d4⟩ := u_cells HB1.out
      have f1 := HB1.out.frozen 1
      have hpn : ((pos : Int) + (n : Int)) = ((pos + n : Nat) : Int) := by omega
      have HS := Lib.hid (u_set (i := 1) (u := .int .i64 ((pos + n : Nat) : Int)) HB1.out HO1.out HK1.out)
      have Hk2 := Lib.hid (Hk1.out.setBlk HB1.out (by simp [unpT]) hbp 1 (.int .i64 ((pos + n : Nat) : Int)))
      rw [← hpn] at HS Hk2
      clear hpn
      go_wp2_with fail
      generalize w1.setCell ⟨p, 1, none⟩ (.int .i64 ((pos : Int) + (n : Int))) = w2 at *
      clear d1 d4 f1 HB1 HO1 HK1 Hk1
      have hpn : ((pos : Int) + (n : Int)) = ((pos + n : Nat) : Int) := by omega
      rw [hpn] at HS
      obtain ⟨c0, c1, _, _, _⟩ := u_cells HS.out.1
      rw [HRow.out] at c0
      have hsub : IntKind.i64.wrap (((pos + n : Nat) : Int) - (n : Int)) = (pos : Int) := by rw [show ((pos + n : Nat) : Int) - (n : Int) = (pos : Int) by omega]; exact IntWalk.i64_in _ (by omega)
      generalize hq : pos + n = q at *
      have hpq : (pos : Int) ≤ (q : Int) := by omega
      have Hq := Lib.hid hq
      have hqm : (q : Int) ≤ (m : Int) := by omega
      go_still_tail 15, (by kernel_rfl)
      change wpList _ _ _ _ _ w2.drew
      have HB3 := Lib.hid (HS.out.1.drewN 1)
      have HO3 : Hid (w2.drew.ownsRow base 5 1 vo out.length (out.map u8v)) := Lib.hid HS.out.2.1
      have HK3 : Hid (w2.drew.ownsRow base 3 1 vk ks.length (ks.map natV)) := Lib.hid HS.out.2.2
      have Hk3 := Lib.hid (Hk2.out.drew)
      have HB3' : Hid (Blk w2.drew p 61 #[.string S, .int .i64 (q : Int), vo, vk, .int .i64 0]) := Lib.hid (by have := HS.out.1; rw [HRow.out] at this; exact this)
      clear HB3 HS Hk2 c0 c1
      generalize w2.drew = w3 at *
      go_wp2_with fail
      refine (HN.out _).mono ?_
      rintro e w4 ⟨rfl, rfl⟩
      go_wp2_with fail
      go_ret
      exact ⟨rfl, ⟨hbp, by rw [HRow.out]; dsimp only; rw [Hq.out]; exact HB3'.out, HO3.out, HK3.out⟩, Hk3.out⟩
  · have hz : (er == 0) = false := by rw [beq_eq_false_iff_ne]; exact he
    have hzn : (er != 0) = true := by rw [bne, hz]; rfl
    have HG : Hid (uget row ⟨pos, out, ks, er⟩ n = (0, ⟨pos, out, ks, er⟩)) := Lib.hid (get_stuck he)
    rw [HG.out]
    generalize strB (rowS row) = S at *
    clear he
    go_enter Try.func49, Try.ntmps49
    go_wp2_with fail
    go_quiet (fail)
    have HB1 := Lib.hid (HB.out.drewN nq)
    have HO1 : Hid ((w.drewN nq).ownsRow base 5 1 vo out.length (out.map u8v)) := HO
    have HK1 : Hid ((w.drewN nq).ownsRow base 3 1 vk ks.length (ks.map natV)) := HK
    have Hk1 := Lib.hid ((Keeps.refl base unpT w).drewN nq)
    generalize w.drewN nq = w1 at *
    clear c0 c1 c4 HB HO HK
    obtain ⟨_, _, _, _, d4⟩ := u_cells HB1.out
    go_wp2_with fail
    go_ret
    exact ⟨rfl, ⟨hbp, HB1.out, HO1.out, HK1.out⟩, Hk1.out⟩
theorem nxt_bad (ls : List Nat) (row : List Bool) : ∀ k n : Nat, (nxt ls row k n).2.2 ≠ 0 → (nxt ls row k n).1 = 0 ∧ (nxt ls row k n).2.1 = 0
  | 0, n, _ => ⟨rfl, rfl⟩
  | k + 1, n, h => by
    unfold nxt at h ⊢
    split at h
    · rename_i h1; rw [if_pos h1]; exact ⟨rfl, rfl⟩
    · rename_i h1
      rw [if_neg h1]
      split at h
      · exact absurd rfl h
      · rename_i h2
        exact nxt_bad ls row k (n + 1) h
theorem next_bad (ls : List Nat) (row : List Bool) (h : (next ls row).2.2 ≠ 0) : (next ls row).1 = 0 ∧ (next ls row).2.1 = 0 := nxt_bad ls row 15 1 h
theorem row_tail (l : List Bool) (n : Nat) : (strB (rowS l)).extract n (strB (rowS l)).size = strB (rowS (l.drop n)) := by
  apply ByteArray.ext
  rw [ByteArray.data_extract]
  show ((rowS l).toArray).extract n (strB (rowS l)).size = (rowS (l.drop n)).toArray
  have e : (strB (rowS l)).size = l.length := by rw [strB_size, rowS_length]
  rw [e]
  unfold rowS
  rw [List.extract_toArray, List.extract_eq_take_drop, ← List.map_drop, List.take_of_length_le (by rw [List.length_map, List.length_drop]; omega)]
theorem nxt_pos (ls : List Nat) (row : List Bool) : ∀ k n : Nat, (nxt ls row k n).2.1 ≤ row.length
  | 0, n => Nat.zero_le _
  | k + 1, n => by
    unfold nxt
    split
    · exact Nat.zero_le _
    · split
      · dsimp only; omega
      · exact nxt_pos ls row k (n + 1)
set_option maxRecDepth 100000 in
set_option maxHeartbeats 1600000 in
theorem place_u (base p gm : Nat) {vo vk : Value} (al : List (List Bool × Value)) (ls : List Nat) (row : List Bool) (s : St) (w : World) (h : UAt w base p row s vo vk) (hp : s.pos ≤ row.length) (hr : row.length ≤ 1000000) (hM : KM rowV w gm al) (hH : HasBook al ls ls.length) :
    Calls Try.prog 56 #[.pointer (some ⟨p, 0, none⟩), .map (some gm)] w fun e w' => e = .returned (.int .i64 ((uplace row ls s).1 : Int)) ∧ UAt w' base p row (uplace row ls s).2 vo vk ∧ Keeps base unpT w w' := by
  obtain ⟨pos, out, ks, er⟩ := s
  dsimp only at hp
  obtain ⟨hbp, hB, hO, hK⟩ := h
  dsimp only at hB hO hK
  have hsz : (strB (rowS row)).size = row.length := by rw [strB_size, rowS_length]
  have HB := Lib.hid hB
  have HO := Lib.hid hO
  have HK := Lib.hid hK
  obtain ⟨c0, c1, c2, c3, c4⟩ := u_cells hB
  unfold rowV at c0
  clear hB hO hK c2 c3
  by_cases he : er = 0
  · subst he
    have hz : ((0 : Int) != 0) = false := rfl
    have hex := row_tail row pos
    have HN := Lib.hid (fun w' hK => next_any gm al ls (row.drop pos) w' hK hH (by rw [List.length_drop]; omega))
    have hnp : (next ls (row.drop pos)).2.1 ≤ row.length - pos := by have := nxt_pos ls (row.drop pos) 15 1; rw [List.length_drop] at this; exact this
    have HG : Hid (uplace row ls ⟨pos, out, ks, 0⟩ = ((next ls (row.drop pos)).1, ⟨pos + (next ls (row.drop pos)).2.1, out, ks, (next ls (row.drop pos)).2.2⟩)) := Lib.hid (by
      by_cases hz : (next ls (row.drop pos)).2.2 = 0
      · rw [hz]
        exact place_ok (a := ((next ls (row.drop pos)).1, pos + (next ls (row.drop pos)).2.1)) rfl (by unfold symR; rw [if_pos hz])
      · have h1 := place_bad (row := row) (ls := ls) (s := ⟨pos, out, ks, 0⟩) (z := (next ls (row.drop pos)).2.2) rfl (by unfold symR; rw [if_neg hz])
        have h2 := next_bad ls (row.drop pos) hz
        rw [h1]
        rw [h2.1, h2.2]
        rfl)
    rw [HG.out]
    generalize next ls (row.drop pos) = R at *
    obtain ⟨r1, r2, r3⟩ := R
    dsimp only at *
    unfold rowV at HN
    have HRow : Hid (rowV row = .string (strB (rowS row))) := Lib.hid rfl
    rw [hsz] at hex
    generalize strB (rowS row) = S at *
    generalize strB (rowS (row.drop pos)) = S2 at *
    generalize hm : row.length = m at *
    clear hm
    have hpm : (pos : Int) ≤ (m : Int) := by omega
    have HMw := Lib.hid hM
    clear hM
    go_enter Try.func56, Try.ntmps56
    go_wp2_with fail
    have HNw := Lib.hid (fun d => HN.out (w.drewN d) (show KM rowV (w.drewN d) gm al from HMw.out))
    go_quiet ((go_at_call 84; exact Calls.quiet_of_same (HN.out _ HMw.out)))
    simp only [natV]
    have HB1 := Lib.hid (HB.out.drewN nq)
    have HO1 : Hid ((w.drewN nq).ownsRow base 5 1 vo out.length (out.map u8v)) := HO
    have HK1 : Hid ((w.drewN nq).ownsRow base 3 1 vk ks.length (ks.map natV)) := HK
    have Hk1 := Lib.hid ((Keeps.refl base unpT w).drewN nq)
    generalize w.drewN nq = w1 at *
    clear c0 c1 c4 HB HO HK HNw HMw HN hex
    obtain ⟨_, d1, _, _, d4⟩ := u_cells HB1.out
    have f1 := HB1.out.frozen 1
    have f4 := HB1.out.frozen 4
    have HS4 := Lib.hid (u_set (i := 4) (u := .int .i64 r3) HB1.out HO1.out HK1.out)
    have Hk2 := Lib.hid (Hk1.out.setBlk HB1.out (by simp [unpT]) hbp 4 (.int .i64 r3))
    have hsum : IntKind.i64.wrap ((pos : Int) + (r2 : Int)) = ((pos + r2 : Nat) : Int) := by rw [show ((pos : Int) + (r2 : Int)) = ((pos + r2 : Nat) : Int) by omega]; exact IntWalk.i64_in _ (by omega)
    obtain ⟨q, hq⟩ : ∃ q, q = pos + r2 := ⟨_, rfl⟩
    rw [← hq] at hsum
    have Hq := Lib.hid hq
    clear hq
    have HS1 := Lib.hid (u_set (i := 1) (u := .int .i64 (q : Int)) HS4.out.1 HS4.out.2.1 HS4.out.2.2)
    have Hk3 := Lib.hid (Hk2.out.setBlk HS4.out.1 (by simp [unpT]) hbp 1 (.int .i64 (q : Int)))
    go_wp2_with fail
    go_ret
    refine ⟨rfl, ⟨hbp, ?_, HS1.out.2.1, HS1.out.2.2⟩, Hk3.out⟩
    have := HS1.out.1
    dsimp only
    rw [← Hq.out]
    exact this
  · have hz : (er == 0) = false := by rw [beq_eq_false_iff_ne]; exact he
    have hzn : (er != 0) = true := by rw [bne, hz]; rfl
    have HG : Hid (uplace row ls ⟨pos, out, ks, er⟩ = (0, ⟨pos, out, ks, er⟩)) := Lib.hid (place_stuck he)
    rw [HG.out]
    clear he hM
    go_enter Try.func56, Try.ntmps56
    go_wp2_with fail
    go_ret
    exact ⟨rfl, ⟨hbp, HB.out, HO.out, HK.out⟩, Keeps.refl _ _ _⟩
set_option maxRecDepth 100000 in
theorem wrong_u (base p : Nat) {vo vk : Value} (z : Int) (row : List Bool) (s : St) (w : World) (h : UAt w base p row s vo vk) :
    Calls Try.prog 50 #[.pointer (some ⟨p, 0, none⟩), .int .i64 z] w fun e w' => e = .returned (.tuple #[]) ∧ UAt w' base p row (uwrong s z) vo vk ∧ Keeps base unpT w w' := by
  obtain ⟨pos, out, ks, er⟩ := s
  obtain ⟨hbp, hB, hO, hK⟩ := h
  dsimp only at hB hO hK
  have HB := Lib.hid hB
  have HO := Lib.hid hO
  have HK := Lib.hid hK
  obtain ⟨c0, c1, c2, c3, c4⟩ := u_cells hB
  have f4 := hB.frozen 4
  clear hB hO hK c0 c1 c2 c3
  by_cases he : er = 0
  · subst he
    have hz : ((0 : Int) == 0) = true := rfl
    have HG : Hid (uwrong ⟨pos, out, ks, 0⟩ z = ⟨pos, out, ks, z⟩) := Lib.hid rfl
    rw [HG.out]
    have HS := Lib.hid (u_set (i := 4) (u := .int .i64 z) HB.out HO.out HK.out)
    have Hk2 := Lib.hid ((Keeps.refl base unpT w).setBlk HB.out (by simp [unpT]) hbp 4 (.int .i64 z))
    go_enter Try.func50, Try.ntmps50
    go_wp2_with fail
    go_end0
    exact ⟨rfl, ⟨hbp, HS.out.1, HS.out.2.1, HS.out.2.2⟩, Hk2.out⟩
  · have hz : (er == 0) = false := by rw [beq_eq_false_iff_ne]; exact he
    have HG : Hid (uwrong ⟨pos, out, ks, er⟩ z = ⟨pos, out, ks, er⟩) := Lib.hid (wrong_stuck he)
    rw [HG.out]
    clear he
    go_enter Try.func50, Try.ntmps50
    go_wp2_with fail
    go_end0
    exact ⟨rfl, ⟨hbp, HB.out, HO.out, HK.out⟩, Keeps.refl _ _ _⟩
set_option maxRecDepth 100000 in
set_option maxHeartbeats 1600000 in
theorem say_u (base p : Nat) {vo vk : Value} (x : UInt8) (row : List Bool) (s : St) (w : World) (h : UAt w base p row s vo vk) (ho3 : s.out.length ≤ 3000) :
    Calls Try.prog 51 #[.pointer (some ⟨p, 0, none⟩), .int .u8 (n8 x)] w fun e w' => e = .returned (.tuple #[]) ∧ (∃ vo', UAt w' base p row (usay s x) vo' vk) ∧ Keeps base unpT w w' := by
  have hbw := h.bs
  obtain ⟨pos, out, ks, er⟩ := s
  obtain ⟨hbp, hB, hO, hK⟩ := h
  dsimp only at hB hO hK ho3
  obtain ⟨Ao, co, rfl, _⟩ := own_slat hO
  have HB := Lib.hid hB
  have HO := Lib.hid hO
  have HK := Lib.hid hK
  obtain ⟨c0, c1, c2, c3, c4⟩ := u_cells hB
  have f4 := hB.frozen 4
  have f2 := hB.frozen 2
  clear hB hO hK c0 c1 c3
  by_cases he : er = 0
  · subst he
    have hz : ((0 : Int) == 0) = true := rfl
    by_cases h3 : out.length = 3000
    · have HG : Hid (usay ⟨pos, out, ks, 0⟩ x = ⟨pos, out, ks, 2⟩) := Lib.hid (say_bad rfl (by unfold pushR; rw [if_pos h3]))
      rw [HG.out]
      have h3' : ((out.length : Int) == 3000) = true := by simp; omega
      have HS := Lib.hid (u_set (i := 4) (u := .int .i64 2) HB.out HO.out HK.out)
      have Hk2 := Lib.hid ((Keeps.refl base unpT w).setBlk HB.out (by simp [unpT]) hbp 4 (.int .i64 2))
      generalize hol : out.length = ol at *
      have Hol := Lib.hid hol
      clear hol h3
      go_enter Try.func51, Try.ntmps51
      go_wp2_with fail
      go_end0
      exact ⟨rfl, ⟨.slice Ao ol co, hbp, HS.out.1, by rw [Hol.out]; exact HS.out.2.1, HS.out.2.2⟩, Hk2.out⟩
    · have HG : Hid (usay ⟨pos, out, ks, 0⟩ x = ⟨pos, out ++ [x], ks, 0⟩) := Lib.hid (say_ok rfl (by unfold pushR; rw [if_neg h3]))
      rw [HG.out]
      have h3' : ((out.length : Int) == 3000) = false := by rw [beq_eq_false_iff_ne]; omega
      generalize hol : out.length = ol at *
      have Hol := Lib.hid hol
      clear hol h3
      have hba : Below w.heap.size w (w.alloc (.cells #[.int .u8 (n8 x)] 5)) := (Below.refl _ _).alloc (Nat.le_refl _) _
      have HBa := Lib.hid (HB.out.alloc (.cells #[.int .u8 (n8 x)] 5))
      have HOa := Lib.hid (own_keep HO.out hba)
      have HKa := Lib.hid (own_keep HK.out hba)
      have Hka := Lib.hid ((Keeps.refl base unpT w).alloc hbw (.cells #[.int .u8 (n8 x)] 5))
      have HZ : Hid (SlAt (w.alloc (.cells #[.int .u8 (n8 x)] 5)) (some ⟨w.heap.size, 0, none⟩) [.int .u8 (n8 x)]) := Lib.hid (SlAt.of_heap (heap_alloc_new _ _) rfl)
      have Hbs : Hid (base ≤ (w.alloc (.cells #[.int .u8 (n8 x)] 5)).heap.size) := Lib.hid (Nat.le_trans hbw (by simp))
      clear hba HO HK
      go_enter Try.func51, Try.ntmps51
      go_wp2_with (at_builtin; refine wpList_app _ rfl (.tmp 29) (.tmp 31) _ rfl base 5 _ 1 1 ty8 _ ol (out.map u8v) rfl HOa.out (some ⟨w.heap.size, 0, none⟩) 1 1 [.int .u8 (n8 x)] rfl rfl HZ.out (by simp [Value.oneCell']) (by simp) (by unfold maxLen; omega) (by omega) Hbs.out ?_; intro v8 w8 hown8 hg8 _; obtain ⟨g8, cap8, hv8, _, _⟩ := hown8.form (by omega); subst hv8; have HO8 := Lib.hid hown8; have HB8 := Lib.hid (HBa.out.grown hg8 (own_ne HOa.out HBa.out (by decide))); have HK8 := Lib.hid (Weigh.own_grownV HKa.out HOa.out hg8 (by decide)); have Hk8 := Lib.hid (Hka.out.grown HOa.out hg8 (by simp [unpT]) Hbs.out); clear hown8 hg8; have f8 := HB8.out.frozen 2; obtain ⟨_, _, e2, _, _⟩ := u_cells HB8.out)
      go_end0
      have HS := u_set (i := 2) (u := .slice (some ⟨g8, 0, none⟩) (ol + 1) cap8) HB8.out HO8.out HK8.out
      exact ⟨rfl, ⟨_, hbp, HS.1, by dsimp only; rw [List.length_append, List.map_append, Hol.out]; exact HS.2.1, HS.2.2⟩, Hk8.out.setBlk HB8.out (by simp [unpT]) hbp 2 _⟩
  · have hz : (er == 0) = false := by rw [beq_eq_false_iff_ne]; exact he
    have HG : Hid (usay ⟨pos, out, ks, er⟩ x = ⟨pos, out, ks, er⟩) := Lib.hid (say_stuck he)
    rw [HG.out]
    clear he
    go_enter Try.func51, Try.ntmps51
    go_wp2_with fail
    go_end0
    exact ⟨rfl, ⟨_, hbp, HB.out, HO.out, HK.out⟩, Keeps.refl _ _ _⟩
end Go.Proofs.Ythpdcnjaodjjmaa.Unp

/- slices.Concat[[]int,int]. -/
namespace Go.Proofs.Ythpdcnjaodjjmaa.ConcatI
open Go Go.RowKit Go.Proofs.Ythpdcnjaodjjmaa
set_option linter.unusedVariables false

theorem ty : SliceTy Try.prog 30 3 (.int .i64 0) 1 8 := ⟨Try.underlying30, by kernel_rfl, rfl, by omega⟩
theorem zeroCells_size (z : Array Value) (n : Nat) : (Builtin.zeroCells z n).size = n * z.size := by simp [Builtin.zeroCells]

set_option maxHeartbeats 400000 in
/-- room for so many, where there was none -/
theorem grow_any (n : Nat) (w : World) (hn : n * 8 ≤ 140737488355328) :
    Calls Try.prog 99 #[.slice none 0 0, .int .i64 (n : Int)] w fun e w' => ∃ v, e = .returned v ∧ w'.ownsRow w.heap.size 3 1 v 0 [] ∧ Below w.heap.size w w' := by
  by_cases h0 : n = 0
  · subst h0
    go_enter Try.func99, Try.ntmps99
    go_wp2_with fail
    go_ret
    exact ⟨_, rfl, World.ownsRow_nil _ _ _ _, Below.refl _ _⟩
  · obtain ⟨ht, i, hi, hz, hsize, hby, hzs, hsz⟩ := ty.parts
    have hpos : 0 < n := by omega
    have h1 : ¬ ((n : Int) < 0) := by omega
    have hp : (0 : Int) < (n : Int) := by omega
    have hb63 : (n : Int) ≤ 140737488355328 := by omega
    have hrun := Lib.run_append_nil_zeros (P := Try.prog) w 30 3 30 3 i (.int .i64 0) .i64 .i64 ht Try.underlying3 hi hz n hpos (by omega) (by omega) (by rw [hby]; omega)
    have hcap := grownCap_ge w n 0 3
    have hcm := grownCap_le_maxLen w n 0 3 (by unfold maxLen; omega)
    have hsz2 : (Builtin.zeroCells (Value.cells (.int .i64 0)) n ++ Builtin.zeroCells (Value.cells (.int .i64 0)) (grownCap w n 0 3 - n)).size = grownCap w n 0 3 * 1 := by
      rw [Array.size_append, zeroCells_size, zeroCells_size, hzs, ← Nat.add_mul, Nat.add_sub_cancel' hcap]
    have hblk : (w.drew.alloc (.cells (Builtin.zeroCells (Value.cells (.int .i64 0)) n ++ Builtin.zeroCells (Value.cells (.int .i64 0)) (grownCap w n 0 3 - n)) 3)).heap[w.heap.size]? = some (.cells (Builtin.zeroCells (Value.cells (.int .i64 0)) n ++ Builtin.zeroCells (Value.cells (.int .i64 0)) (grownCap w n 0 3 - n)) 3 (0, 0)) := heap_alloc_new w.drew _
    have hbel : Below w.heap.size w (w.drew.alloc (.cells (Builtin.zeroCells (Value.cells (.int .i64 0)) n ++ Builtin.zeroCells (Value.cells (.int .i64 0)) (grownCap w n 0 3 - n)) 3)) := ((Below.refl _ _).drew).alloc (Nat.le_refl _) _
    generalize (w.drew.alloc (.cells (Builtin.zeroCells (Value.cells (.int .i64 0)) n ++ Builtin.zeroCells (Value.cells (.int .i64 0)) (grownCap w n 0 3 - n)) 3)) = W at *
    generalize (Builtin.zeroCells (Value.cells (.int .i64 0)) n ++ Builtin.zeroCells (Value.cells (.int .i64 0)) (grownCap w n 0 3 - n)) = cs at *
    generalize grownCap w n 0 3 = cap at *
    have Hrun := Lib.hid hrun
    have Hsz := Lib.hid hsz2
    have Hblk := Lib.hid hblk
    have Hbel := Lib.hid hbel
    have hcm2 : cap ≤ 9223372036854775807 := by unfold maxLen at hcm; omega
    have Hcm := Lib.hid hcm
    clear hrun hsz2 hblk hbel hi hz hsize hby hzs hsz ht hcm
    go_enter Try.func99, Try.ntmps99
    go_wp2_with (at_builtin; refine Lib.wpList_append_run _ rfl (.tmp 20) (.tmp 21) _ _ rfl _ _ rfl rfl _ _ Hrun.out ?_)
    go_ret
    exact ⟨_, rfl, own_zero _ _ _ _ w.heap.size cap cs (Nat.le_refl _) Hblk.out Hcm.out Hsz.out, Hbel.out⟩

def total (rows : List (Value × Nat × List Value)) : Nat := (rows.map (·.2.1)).sum
def cellsOf (rows : List (Value × Nat × List Value)) : List Value := (rows.map (·.2.2)).flatten
theorem total_snoc (rows : List (Value × Nat × List Value)) (k : Nat) (h : k < rows.length) : total (rows.take (k + 1)) = total (rows.take k) + rows[k].2.1 := by
  unfold total; rw [take_snoc _ _ h]
  simp only [List.map_append, List.map_cons, List.map_nil, List.sum_append, List.sum_cons, List.sum_nil, Nat.add_zero]
theorem cellsOf_snoc (rows : List (Value × Nat × List Value)) (k : Nat) (h : k < rows.length) : cellsOf (rows.take (k + 1)) = cellsOf (rows.take k) ++ rows[k].2.2 := by
  unfold cellsOf; rw [take_snoc _ _ h]
  simp only [List.map_append, List.map_cons, List.map_nil, List.flatten_append, List.flatten_cons, List.flatten_nil, List.append_nil]
theorem sum_take_le (l : List Nat) (k : Nat) : (l.take k).sum ≤ l.sum := by
  induction l generalizing k with
  | nil => simp
  | cons a l ih => cases k with
    | zero => simp
    | succ k => simp only [List.take_succ_cons, List.sum_cons]; have := ih k; omega
theorem total_le (rows : List (Value × Nat × List Value)) (k : Nat) : total (rows.take k) ≤ total rows := by
  unfold total; rw [List.map_take]; exact sum_take_le _ _

set_option maxHeartbeats 800000 in
theorem concat_any (A : Option Addr) (m c : Nat) (rows : List (Value × Nat × List Value)) (w : World) (hm : rows.length = m) (hml : m ≤ 4611686018427387904) (ha : SlAt w A (rows.map (·.1)))
    (hrows : ∀ r ∈ rows, IsSl w 1 r.1 r.2.1 r.2.2) (h1 : ∀ r ∈ rows, ∀ u ∈ r.2.2, u.oneCell' = true) (ht : total rows * 8 ≤ 140737488355328) :
    Calls Try.prog 80 #[.slice A m c] w fun e w' => ∃ v, e = .returned v ∧ w'.ownsRow w.heap.size 3 1 v (total rows) (cellsOf rows) ∧ Below w.heap.size w w' := by
  have Hm := Lib.hid hm
  have Ha := Lib.hid ha
  have Hrows := Lib.hid hrows
  have H1 := Lib.hid h1
  have Ht := Lib.hid ht
  clear hm ha hrows h1 ht
  go_enter Try.func80, Try.ntmps80
  go_wp2_with fail
  go_loop [3, 11] (fun s i => ∃ k : Nat, k ≤ m ∧ i = .int .i64 k ∧ s = .int .i64 (total (rows.take k) : Nat)) (fun _ i => m - (intOf i).toNat)
  case atStart => exact ⟨0, Nat.zero_le _, rfl, rfl⟩
  case round =>
    obtain ⟨k, hk, rfl, rfl⟩ := hrel
    by_cases hlt : k < m
    · have hkr : k < rows.length := by rw [Hm.out]; exact hlt
      obtain ⟨b, o, rfl, hcell⟩ := Ha.out.get (k := k) (by simpa using hkr)
      obtain ⟨B, cb, hv, hl1, hl2, hl3, hB, hB0⟩ := Hrows.out rows[k] (List.getElem_mem hkr)
      simp only [List.getElem_map] at hcell
      rw [hv] at hcell
      have Hs := Lib.hid (total_snoc rows k hkr)
      have htl := total_le rows (k + 1)
      rw [Hs.out] at htl
      have hb1 : total (rows.take k) + rows[k].2.1 ≤ 140737488355328 := by have := Ht.out; omega
      have hnn : 0 ≤ ((total (rows.take k) : Nat) : Int) + ((rows[k].2.1 : Nat) : Int) := by omega
      clear htl hB hB0 hl3 hv
      generalize total (rows.take k) = s0 at *
      generalize rows[k].2.1 = n0 at *
      go_wp2_with fail
      go_round
      case rel => exact ⟨k + 1, by omega, by go_num, by rw [Hs.out]; go_num⟩
      case measure => simp [intOf]; omega
    · have hk2 : k = m := by omega
      have Hall : Hid (rows.take k = rows) := Lib.hid (List.take_of_length_le (by rw [Hm.out]; omega))
      rw [Hall.out]
      have htt : total rows ≤ 140737488355328 := by have := Ht.out; omega
      obtain ⟨T, hT⟩ : ∃ T, T = total rows := ⟨_, rfl⟩
      rw [← hT] at htt ⊢
      have HT := Lib.hid hT
      clear hT Hall hk2
      go_wp2_with fail
      refine (grow_any T _ (by rw [HT.out]; exact Ht.out)).mono ?_
      rintro e w1 ⟨v1, rfl, hown1, hb1⟩
      have Ho := Lib.hid hown1
      have Hb := Lib.hid hb1
      clear hown1 hb1
      go_wp2_with fail
      go_loopw [6, 27] (fun s i wr => ∃ k : Nat, k ≤ m ∧ i = .int .i64 k ∧ wr.ownsRow w.heap.size 3 1 s (total (rows.take k)) (cellsOf (rows.take k)) ∧ Below w.heap.size w wr) (fun _ i _ => m - (intOf i).toNat)
      case atStart => exact ⟨0, Nat.zero_le _, rfl, Ho.out, Hb.out⟩
      case round =>
        obtain ⟨k, hk, rfl, hown, hbr⟩ := hrel
        rename_i v3 _ _ _ _ _ _ _ _ _
        have How := Lib.hid hown
        have Hbr := Lib.hid hbr
        by_cases hlt : k < m
        · have hkr : k < rows.length := by rw [Hm.out]; exact hlt
          obtain ⟨b, o, rfl, hcell⟩ := (Ha.out.below hbr).get (k := k) (by simpa using hkr)
          obtain ⟨B, cb, hv, hl1, hl2, hl3, hB, hB0⟩ := (Hrows.out rows[k] (List.getElem_mem hkr)).below hbr
          simp only [List.getElem_map] at hcell
          rw [hv] at hcell
          have Hs := Lib.hid (total_snoc rows k hkr)
          have Hcs := Lib.hid (cellsOf_snoc rows k hkr)
          have htl := total_le rows (k + 1)
          rw [Hs.out] at htl
          have hb1 : total (rows.take k) + rows[k].2.1 ≤ maxLen ∧ (total (rows.take k) + rows[k].2.1) * 8 ≤ 140737488355328 := by
            have := Ht.out; unfold maxLen; omega
          have HB := Lib.hid hB
          have HB0 := Lib.hid hB0
          have Hl3 := Lib.hid hl3
          have Hone := Lib.hid (H1.out rows[k] (List.getElem_mem hkr))
          have Hb1 := Lib.hid hb1
          clear htl hv hB hB0 hl3 hb1 hown hbr
          go_wp2_with (at_builtin; refine wpList_appb rfl (.tmp 31) (.tmp 32) _ rfl 3 _ 1 8 ty _ _ _ rfl How.out Hbr.out B _ cb _ rfl Hl3.out HB.out Hone.out HB0.out Hb1.out.1 Hb1.out.2 ?_; intro v4 w4 hown4 hb4 _ _; have How4 := Lib.hid hown4; have Hb4 := Lib.hid hb4; clear hown4 hb4)
          go_roundw
          case rel => exact ⟨k + 1, by omega, by go_num, by rw [Hs.out, Hcs.out]; exact How4.out, Hb4.out⟩
          case measure => simp [intOf]; omega
        · have Hall : Hid (rows.take k = rows) := Lib.hid (List.take_of_length_le (by rw [Hm.out]; omega))
          go_wp2_with fail
          go_ret
          exact ⟨_, rfl, by have := How.out; rw [Hall.out] at this; exact this, Hbr.out⟩
end Go.Proofs.Ythpdcnjaodjjmaa.ConcatI

/- reliquaryref: Sizes, FixedLengths: the walks. -/
namespace Go.Proofs.Ythpdcnjaodjjmaa.Unp
open Go Go.RowKit Go.Proofs.Ythpdcnjaodjjmaa Go.Proofs.Ythpdcnjaodjjmaa.Bits
open Go.Proofs.Ythpdcnjaodjjmaa.Inf hiding then_ok
open Go.Proofs.Ythpdcnjaodjjmaa.Code (natV nats)
set_option linter.unusedVariables false

theorem ty2 : SliceTy Try.prog 92 98 (.agg #[.int .i64 0, .int .i64 0]) 2 16 := ⟨Try.underlying92, by kernel_rfl, rfl, by omega⟩
theorem run_min2' {P : Program} (ts : Array TypeId) (t : TypeId) (a b : Int) (w : World) :
    (Builtin.min_ ts t #[.int .i64 a, .int .i64 b]).run P w = .ok (.int .i64 (min a b)) w := by
  simp [Builtin.min_, Builtin.min2]
  (repeat' split) <;> omega
def bL : List Nat := [0, 0, 0, 0, 0, 0, 0, 0, 1, 1, 1, 1, 2, 2, 2, 2, 3, 3, 3, 3, 4, 4, 4, 4, 5, 5, 5, 5]
theorem bL_get : ∀ k < 28, bL.getD k 0 = k / 4 - 1 := by decide
set_option maxRecDepth 100000 in
set_option maxHeartbeats 3000000 in
theorem sizes_any (w : World) : Calls Try.prog 54 #[] w fun e w' => (∃ A a B b, e = .returned (.tuple #[.slice A 29 a, .slice B 30 b]) ∧ KAt w' 98 A (sameL.flatMap exC) ∧ KAt w' 98 B (farL.flatMap exC)) ∧ Below w.heap.size w w' := by
  go_enter Try.func54, Try.ntmps54
  go_wp2_with fail
  obtain ⟨w1, hw1⟩ : ∃ x, x = w.alloc (.cells #[.int .i64 0, .int .i64 0, .int .i64 0, .int .i64 0, .int .i64 0, .int .i64 0, .int .i64 0, .int .i64 0, .int .i64 1, .int .i64 1, .int .i64 1, .int .i64 1, .int .i64 2, .int .i64 2, .int .i64 2, .int .i64 2, .int .i64 3, .int .i64 3, .int .i64 3, .int .i64 3, .int .i64 4, .int .i64 4, .int .i64 4, .int .i64 4, .int .i64 5, .int .i64 5, .int .i64 5, .int .i64 5] 3) := ⟨_, rfl⟩
  rw [← hw1]
  have HL : Hid (Blk w1 w.heap.size 3 (nats bL)) := Lib.hid (by rw [hw1]; exact Blk.new w _ _)
  have Hb1 : Hid (Below w.heap.size w w1) := Lib.hid (by rw [hw1]; exact (Below.refl _ _).alloc (Nat.le_refl _) _)
  clear hw1
  go_loopw [0, 2, 9] (fun pl pf vi wr => ∃ k : Nat, k ≤ 28 ∧ vi = .int .i64 (k : Int) ∧ pf = .int .i64 (fromS k : Int) ∧ wr.ownsRow w1.heap.size 98 2 pl k ((sameL.take k).flatMap exC) ∧ Below w1.heap.size w1 wr) (fun _ _ vi _ => 28 - (intOf vi).toNat)
  case atStart => exact ⟨0, Nat.zero_le _, rfl, rfl, World.ownsRow_nil .., Below.refl _ _⟩
  case round =>
    obtain ⟨k, hk, rfl, rfl, ho, hb⟩ := hrel
    have HO := Lib.hid ho
    have Hb := Lib.hid hb
    clear ho hb
    by_cases hlt : k < 28
    · obtain ⟨h1, h2⟩ := sameL_get k hlt
      have hcell : wr.cell? ⟨w.heap.size, k, none⟩ = some (.int .i64 ((k / 4 - 1 : Nat) : Int)) := by
        rw [(HL.out.below Hb.out HL.out.lt).cell, Code.nats_get bL k (by show k < 28; exact hlt)]
        have := bL_get k hlt
        rw [List.getD_eq_getElem?_getD, List.getElem?_eq_getElem (show k < bL.length from hlt)] at this
        rw [show bL[k]'(show k < bL.length from hlt) = k / 4 - 1 from this]
      obtain ⟨b, hb⟩ : ∃ b, b = k / 4 - 1 := ⟨_, rfl⟩
      rw [← hb] at h1 hcell
      have hnx := fromS_next k
      rw [← hb] at hnx
      obtain ⟨f, hf⟩ : ∃ f, f = fromS k := ⟨_, rfl⟩
      rw [← hf] at h1 h2 hnx ⊢
      have hb8 : b ≤ 8 := by omega
      have hp2 : 2 ^ b ≤ 256 := Nat.le_trans (Nat.pow_le_pow_right (by omega) hb8) (by decide)
      have hpi : ((2 : Int) ^ b) = ((2 ^ b : Nat) : Int) := by simp
      have hsh : IntKind.i64.wrap ((2 : Int) ^ b) = (2 : Int) ^ b := by
        rw [hpi]
        exact IntWalk.i64_in _ (by omega)
      have hsm : IntKind.i64.wrap ((f : Int) + (2 : Int) ^ b) = ((f + 2 ^ b : Nat) : Int) := by
        rw [hpi, ← Int.natCast_add]
        exact IntWalk.i64_in _ (by omega)
      have H1 := Lib.hid h1
      have Hnx := Lib.hid hnx
      have hba : Below wr.heap.size wr (wr.alloc (.cells #[.int .i64 (f : Int), .int .i64 (b : Int)] 98)) := (Below.refl _ _).alloc (Nat.le_refl _) _
      have HO2 := Lib.hid (own_keep HO.out hba)
      have Hb2 := Lib.hid (Hb.out.trans (hba.mono Hb.out.size))
      have HZ : Hid (SlAt (wr.alloc (.cells #[.int .i64 (f : Int), .int .i64 (b : Int)] 98)) (some ⟨wr.heap.size, 0, none⟩) [.int .i64 (f : Int), .int .i64 (b : Int)]) := Lib.hid (SlAt.of_heap (heap_alloc_new _ _) rfl)
      clear h1 hnx hf hb hba hpi
      go_wp2_with (at_builtin; refine wpList_app _ rfl (.tmp 13) (.tmp 17) _ rfl w1.heap.size 98 _ 2 16 ty2 _ k ((sameL.take k).flatMap exC) rfl HO2.out (some ⟨wr.heap.size, 0, none⟩) 1 1 [.int .i64 (f : Int), .int .i64 (b : Int)] rfl rfl HZ.out (by simp [Value.oneCell']) (by simp) (by unfold maxLen; omega) (by omega) Hb2.out.size ?_; intro v8 w8 hown8 hg8 _; have Hb8 := Lib.hid (own_below HO2.out hg8 Hb2.out Hb2.out.size); have Ho8 := Lib.hid hown8; clear hown8 hg8)
      go_roundw
      case rel => exact ⟨k + 1, by omega, by go_num, by rw [Hnx.out]; simp, by
        have h : sameL.take (k + 1) = sameL.take k ++ [(f, b)] := by
          have hk29 : k < sameL.length := by show k < 29; omega
          rw [take_snoc _ _ hk29]
          congr 2
          have := H1.out
          rw [List.getD_eq_getElem?_getD, List.getElem?_eq_getElem hk29] at this
          exact this
        rw [h, List.flatMap_append]
        exact Ho8.out, Hb8.out⟩
      case measure => simp [intOf]; omega
    · obtain rfl : k = 28 := by omega
      have hba : Below wr.heap.size wr (wr.alloc (.cells #[.int .i64 258, .int .i64 0] 98)) := (Below.refl _ _).alloc (Nat.le_refl _) _
      have HO2 := Lib.hid (own_keep HO.out hba)
      have Hb2 := Lib.hid (Hb.out.trans (hba.mono Hb.out.size))
      have HZ : Hid (SlAt (wr.alloc (.cells #[.int .i64 258, .int .i64 0] 98)) (some ⟨wr.heap.size, 0, none⟩) [.int .i64 258, .int .i64 0]) := Lib.hid (SlAt.of_heap (heap_alloc_new _ _) rfl)
      clear hba hlt hk
      go_wp2_with (at_builtin; refine wpList_app _ rfl (.tmp 24) (.tmp 26) _ rfl w1.heap.size 98 _ 2 16 ty2 _ 28 ((sameL.take 28).flatMap exC) rfl HO2.out (some ⟨wr.heap.size, 0, none⟩) 1 1 [.int .i64 258, .int .i64 0] rfl rfl HZ.out (by simp [Value.oneCell']) (by simp) (by unfold maxLen; omega) (by omega) Hb2.out.size ?_; intro v8 w8 hown8 hg8 _; have Hb8 := Lib.hid (own_below HO2.out hg8 Hb2.out Hb2.out.size); have Ho8 := Lib.hid hown8; clear hown8 hg8)
      obtain ⟨A8, c8, rfl, _, _, hk8, _⟩ := own_kat Ho8.out
      have HSa : Hid (KAt w8 98 A8 (sameL.flatMap exC)) := Lib.hid hk8
      have Hb9 := Lib.hid (Hb1.out.trans (Hb8.out.mono Hb1.out.size))
      clear hk8 Ho8 Hb8 HO2 Hb2 HZ HO Hb HL Hb1
      go_loopw [1, 2, 28] (fun pl pf vi wr => ∃ k : Nat, k ≤ 30 ∧ vi = .int .i64 (k : Int) ∧ pf = .int .i64 (fromF k : Int) ∧ wr.ownsRow w8.heap.size 98 2 pl k ((farL.take k).flatMap exC) ∧ Below w8.heap.size w8 wr) (fun _ _ vi _ => 30 - (intOf vi).toNat)
      case atStart => exact ⟨0, Nat.zero_le _, rfl, rfl, World.ownsRow_nil .., Below.refl _ _⟩
      case round =>
        obtain ⟨k, hk, rfl, rfl, ho, hb⟩ := hrel
        have HO := Lib.hid ho
        have Hb := Lib.hid hb
        clear ho hb
        by_cases hlt : k < 30
        · obtain ⟨h1, h2⟩ := farL_get k hlt
          obtain ⟨b, hb⟩ : ∃ b, b = k / 2 - 1 := ⟨_, rfl⟩
          rw [← hb] at h1
          have hnx := fromF_next k
          rw [← hb] at hnx
          obtain ⟨f, hf⟩ : ∃ f, f = fromF k := ⟨_, rfl⟩
          rw [← hf] at h1 h2 hnx ⊢
          have hb8 : b ≤ 14 := by omega
          have hp2 : 2 ^ b ≤ 16384 := Nat.le_trans (Nat.pow_le_pow_right (by omega) hb8) (by decide)
          have hpi : ((2 : Int) ^ b) = ((2 ^ b : Nat) : Int) := by simp
          have hsh : IntKind.i64.wrap ((2 : Int) ^ b) = (2 : Int) ^ b := by
            rw [hpi]
            exact IntWalk.i64_in _ (by omega)
          have hsm : IntKind.i64.wrap ((f : Int) + (2 : Int) ^ b) = ((f + 2 ^ b : Nat) : Int) := by
            rw [hpi, ← Int.natCast_add]
            exact IntWalk.i64_in _ (by omega)
          obtain ⟨y, hy⟩ : ∃ y : Int, y = (k : Int) / 2 - 1 := ⟨_, rfl⟩
          obtain ⟨x, hx⟩ : ∃ x : Nat, x = min 1 (k / 4) := ⟨_, rfl⟩
          have hmin : ∀ (ts : Array TypeId) (ty : TypeId) (W : World), (Builtin.min_ ts ty #[.int .i64 1, .int .i64 ((k : Int) / 4)]).run Try.prog W = .ok (.int .i64 (x : Int)) W := fun ts ty W => by rw [run_min2', show min (1 : Int) ((k : Int) / 4) = (x : Int) by omega]
          have hyw : IntKind.i64.wrap ((k : Int) / 2 - 1) = y := by rw [← hy]; exact IntWalk.i64_in _ (by omega)
          have hx2 : x < 2 := by omega
          have hx2' : (x : Int) < 2 := by omega
          have hcell : (wr.alloc (.cells #[.int .i64 0, .int .i64 y] 3)).cell? ⟨wr.heap.size, x, none⟩ = some (.int .i64 (b : Int)) := by
            rw [(Blk.new wr 3 #[.int .i64 0, .int .i64 y]).cell]
            rcases (by omega : x = 0 ∨ x = 1) with h | h
            · subst h
              rw [show b = 0 by omega]; rfl
            · subst h
              rw [show (b : Int) = y by omega]; rfl
          have H1 := Lib.hid h1
          have Hnx := Lib.hid hnx
          have hb0 : Below wr.heap.size wr (wr.alloc (.cells #[.int .i64 0, .int .i64 y] 3)) := (Below.refl _ _).alloc (Nat.le_refl _) _
          have HOx := Lib.hid (own_keep HO.out hb0)
          have Hbx := Lib.hid (Hb.out.trans (hb0.mono Hb.out.size))
          have hba : Below (wr.alloc (.cells #[.int .i64 0, .int .i64 y] 3)).heap.size (wr.alloc (.cells #[.int .i64 0, .int .i64 y] 3)) ((wr.alloc (.cells #[.int .i64 0, .int .i64 y] 3)).alloc (.cells #[.int .i64 (f : Int), .int .i64 (b : Int)] 98)) := (Below.refl _ _).alloc (Nat.le_refl _) _
          have HO2 := Lib.hid (own_keep HOx.out hba)
          have Hb2 := Lib.hid (Hbx.out.trans (hba.mono Hbx.out.size))
          have HZ : Hid (SlAt ((wr.alloc (.cells #[.int .i64 0, .int .i64 y] 3)).alloc (.cells #[.int .i64 (f : Int), .int .i64 (b : Int)] 98)) (some ⟨(wr.alloc (.cells #[.int .i64 0, .int .i64 y] 3)).heap.size, 0, none⟩) [.int .i64 (f : Int), .int .i64 (b : Int)]) := Lib.hid (SlAt.of_heap (heap_alloc_new _ _) rfl)
          rw [World.size_alloc] at HZ
          clear h1 hnx hf hb hba hpi hy hx hb0
          go_wp2_with (at_builtin; refine wpList_app _ rfl (.tmp 40) (.tmp 44) _ rfl w8.heap.size 98 _ 2 16 ty2 _ k ((farL.take k).flatMap exC) rfl HO2.out (some ⟨wr.heap.size + 1, 0, none⟩) 1 1 [.int .i64 (f : Int), .int .i64 (b : Int)] rfl rfl HZ.out (by simp [Value.oneCell']) (by simp) (by unfold maxLen; omega) (by omega) Hb2.out.size ?_; intro v7 w7 hown8 hg8 _; have Hb7 := Lib.hid (own_below HO2.out hg8 Hb2.out Hb2.out.size); have Ho7 := Lib.hid hown8; clear hown8 hg8)
          go_roundw
          case rel => exact ⟨_, _, _, _, _, _, _, _, _, _, _, _, _, _, _, _, _, _, _, _, _, _, _, _, _, _, _, ⟨k + 1, by omega, by go_num, by rw [Hnx.out]; simp, by
            have h : farL.take (k + 1) = farL.take k ++ [(f, b)] := by
              have hk29 : k < farL.length := by show k < 30; omega
              rw [take_snoc _ _ hk29]
              congr 2
              have := H1.out
              rw [List.getD_eq_getElem?_getD, List.getElem?_eq_getElem hk29] at this
              exact this
            rw [h, List.flatMap_append]
            exact Ho7.out, Hb7.out⟩, rfl⟩
          case measure => simp [intOf]; omega
        · obtain rfl : k = 30 := by omega
          obtain ⟨B8, d8, rfl, _, _, hk9, _⟩ := own_kat HO.out
          have HFa : Hid (KAt wr 98 B8 (farL.flatMap exC)) := Lib.hid hk9
          clear hk9
          go_wp2_with fail
          go_ret2
          exact ⟨⟨A8, c8, B8, d8, rfl, HSa.out.below Hb.out, HFa.out⟩, Hb9.out.trans (Hb.out.mono Hb9.out.size)⟩
theorem issl_of {w : World} {A : Option Addr} {n c : Nat} {cs : List Value} (h : SlAt w A cs) (hn : cs.length = n) (hnc : n ≤ c) (hc : c ≤ maxLen) : IsSl w 1 (.slice A n c) n cs := by
  refine ⟨A, c, rfl, hnc, hc, by rw [hn, Nat.mul_one], h, fun h0 => ?_⟩
  rcases Nat.eq_zero_or_pos n with h1 | h1
  · exact h1
  · obtain ⟨b, o, e, _⟩ := h (by omega)
    rw [h0] at e; cases e
theorem fixedA_eq : List.replicate 144 8 ++ (List.replicate 112 9 ++ (List.replicate 24 7 ++ List.replicate 8 8)) = fixedA := by decide +kernel
set_option maxRecDepth 100000 in
set_option maxHeartbeats 3000000 in
theorem fixedL_any (w : World) : Calls Try.prog 52 #[] w fun e w' => (∃ A a B b, e = .returned (.tuple #[.slice A 288 a, .slice B 32 b]) ∧ SlAt w' A (fixedA.map natV) ∧ SlAt w' B (fixedB.map natV)) ∧ Below w.heap.size w w' := by
  have rp : ∀ (k v : Nat) (u : World), 1 ≤ k → k ≤ 1000 → Calls Try.prog 81 #[.slice (some ⟨u.heap.size, 0, none⟩) 1 1, .int .i64 (k : Int)] (u.alloc (.cells #[.int .i64 (v : Int)] 3)) fun e w' => (∃ A', e = .returned (.slice A' k k) ∧ SlAt w' A' ((List.replicate k v).map natV)) ∧ Below u.heap.size u w' := fun k v u h1 h2 =>
    (repeat1_any (some ⟨u.heap.size, 0, none⟩) 1 k (v : Int) (u.alloc (.cells #[.int .i64 (v : Int)] 3)) (SlAt.of_heap (heap_alloc_new _ _) rfl) h1 h2).mono fun e w' ⟨⟨A', he, hs⟩, hb⟩ =>
      ⟨⟨A', he, by rw [List.map_replicate]; exact hs⟩, ((Below.refl u.heap.size u).alloc (Nat.le_refl _) _).trans (hb.mono (by simp))⟩
  have Rp := Lib.hid rp
  clear rp
  go_enter Try.func52, Try.ntmps52
  have R1 := Lib.hid (Rp.out 144 8 w (by omega) (by omega))
  go_wp2_with fail
  refine (R1.out).mono ?_
  rintro e w1 ⟨⟨A1, rfl, hs1⟩, hb1⟩
  have S1 := Lib.hid hs1
  have B1 := Lib.hid hb1
  clear hs1 hb1 R1
  have R2 := Lib.hid (Rp.out 112 9 w1 (by omega) (by omega))
  go_wp2_with fail
  refine (R2.out).mono ?_
  rintro e w2 ⟨⟨A2, rfl, hs2⟩, hb2⟩
  have S2 := Lib.hid hs2
  have S12 := Lib.hid (SlAt.below S1.out hb2)
  have B2 := Lib.hid (B1.out.trans (hb2.mono B1.out.size))
  clear hs2 hb2 R2 S1 B1
  have R3 := Lib.hid (Rp.out 24 7 w2 (by omega) (by omega))
  go_wp2_with fail
  refine (R3.out).mono ?_
  rintro e w3 ⟨⟨A3, rfl, hs3⟩, hb3⟩
  have S3 := Lib.hid hs3
  have S13 := Lib.hid (SlAt.below S12.out hb3)
  have S23 := Lib.hid (SlAt.below S2.out hb3)
  have B3 := Lib.hid (B2.out.trans (hb3.mono B2.out.size))
  clear hs3 hb3 R3 S12 S2 B2
  have R4 := Lib.hid (Rp.out 8 8 w3 (by omega) (by omega))
  go_wp2_with fail
  refine (R4.out).mono ?_
  rintro e w4 ⟨⟨A4, rfl, hs4⟩, hb4⟩
  have B4 := Lib.hid (B3.out.trans (hb4.mono B3.out.size))
  have hba : Below w4.heap.size w4 (w4.alloc (.cells #[.slice A1 144 144, .slice A2 112 112, .slice A3 24 24, .slice A4 8 8] 30)) := (Below.refl _ _).alloc (Nat.le_refl _) _
  have C := Lib.hid (ConcatI.concat_any (some ⟨w4.heap.size, 0, none⟩) 4 4 [(.slice A1 144 144, 144, (List.replicate 144 8).map natV), (.slice A2 112 112, 112, (List.replicate 112 9).map natV), (.slice A3 24 24, 24, (List.replicate 24 7).map natV), (.slice A4 8 8, 8, (List.replicate 8 8).map natV)] _ rfl (by omega) (SlAt.of_heap (heap_alloc_new w4 (.cells #[.slice A1 144 144, .slice A2 112 112, .slice A3 24 24, .slice A4 8 8] 30)) rfl) (fun r hr => by
      simp only [List.mem_cons, List.not_mem_nil, or_false] at hr
      rcases hr with rfl | rfl | rfl | rfl
      · exact issl_of ((S13.out.below hb4).below hba) (by rw [List.length_map, List.length_replicate]) (Nat.le_refl _) (by unfold maxLen; omega)
      · exact issl_of ((S23.out.below hb4).below hba) (by rw [List.length_map, List.length_replicate]) (Nat.le_refl _) (by unfold maxLen; omega)
      · exact issl_of ((S3.out.below hb4).below hba) (by rw [List.length_map, List.length_replicate]) (Nat.le_refl _) (by unfold maxLen; omega)
      · exact issl_of (SlAt.below hs4 hba) (by rw [List.length_map, List.length_replicate]) (Nat.le_refl _) (by unfold maxLen; omega))
    (fun r hr u hu => by
      simp only [List.mem_cons, List.not_mem_nil, or_false] at hr
      rcases hr with rfl | rfl | rfl | rfl <;> (obtain ⟨x, _, rfl⟩ := List.mem_map.1 hu; rfl)) (by simp [ConcatI.total]))
  have Bb := Lib.hid (B4.out.trans (hba.mono B4.out.size))
  have Ht : Hid (ConcatI.total [(.slice A1 144 144, 144, (List.replicate 144 8).map natV), (.slice A2 112 112, 112, (List.replicate 112 9).map natV), (.slice A3 24 24, 24, (List.replicate 24 7).map natV), (.slice A4 8 8, 8, (List.replicate 8 8).map natV)] = 288) := Lib.hid (by simp [ConcatI.total])
  have Hc : Hid (ConcatI.cellsOf [(.slice A1 144 144, 144, (List.replicate 144 8).map natV), (.slice A2 112 112, 112, (List.replicate 112 9).map natV), (.slice A3 24 24, 24, (List.replicate 24 7).map natV), (.slice A4 8 8, 8, (List.replicate 8 8).map natV)] = fixedA.map natV) := Lib.hid (by
    rw [← fixedA_eq, List.map_append, List.map_append, List.map_append]
    simp only [ConcatI.cellsOf, List.map_cons, List.map_nil, List.flatten_cons, List.flatten_nil, List.append_nil])
  rw [Ht.out, Hc.out] at C
  clear hs4 hb4 R4 hba S13 S23 S3 B3 B4 Ht Hc
  go_wp2_with fail
  refine (C.out).mono ?_
  rintro e w5 ⟨v5, rfl, ho5, hb5⟩
  obtain ⟨A5, c5, rfl, _, _, s5, _⟩ := own_slat ho5
  have S5 := Lib.hid s5
  have B5 := Lib.hid (Bb.out.trans (hb5.mono Bb.out.size))
  clear s5 ho5 hb5 C Bb
  have R6 := Lib.hid (Rp.out 32 5 w5 (by omega) (by omega))
  go_wp2_with fail
  refine (R6.out).mono ?_
  rintro e w6 ⟨⟨A6, rfl, hs6⟩, hb6⟩
  have S6 := Lib.hid hs6
  have S56 := Lib.hid (SlAt.below S5.out hb6)
  have B6 := Lib.hid (B5.out.trans (hb6.mono B5.out.size))
  clear hs6 hb6 R6
  go_wp2_with fail
  go_ret2
  exact ⟨⟨A5, c5, A6, 32, rfl, S56.out, S6.out⟩, B6.out⟩
end Go.Proofs.Ythpdcnjaodjjmaa.Unp

/- package reliquaryref: Room, CheckLengths. -/
namespace Go.Proofs.Ythpdcnjaodjjmaa.Cds
open Go Go.RowKit Go.Proofs.Ythpdcnjaodjjmaa Go.Proofs.Ythpdcnjaodjjmaa.Code
set_option linter.unusedVariables false

theorem half_down (x : Nat) (h : x ≤ 15) : (32768 : Int) / 2 ^ x = ((2 ^ (15 - x) : Nat) : Int) := by
  have : ∀ x < 16, (32768 : Int) / 2 ^ x = ((2 ^ (15 - x) : Nat) : Int) := by decide
  exact this x (by omega)
set_option maxRecDepth 100000 in
set_option maxHeartbeats 1600000 in
theorem room_any (A : Option Addr) (n c : Nat) (zs : List Int) (w : World) (hn : zs.length = n) (hx : n ≤ 288) (hz : ∀ z ∈ zs, 0 ≤ z ∧ z ≤ 15) (hA : InAt w A zs) :
    Calls Try.prog 101 #[.slice A n c] w fun e w' => e = .returned (.int .i64 ((room (lsOf zs) : Nat) : Int)) ∧ w' = w := by
  have Hn := Lib.hid hn
  have HA := Lib.hid hA
  have HZ := Lib.hid hz
  clear hn hA hz
  go_enter Try.func101, Try.ntmps101
  go_wp2_with fail
  go_loop [3, 8] (fun r i => ∃ k : Nat, k ≤ n ∧ i = .int .i64 (k : Int) ∧ r = .int .i64 ((room (lsOf (zs.take k)) : Nat) : Int)) (fun _ i => n - (intOf i).toNat)
  case atStart => exact ⟨0, Nat.zero_le _, rfl, rfl⟩
  case round =>
    obtain ⟨k, hk, rfl, rfl⟩ := hrel
    have hroom : room (lsOf (zs.take k)) ≤ 9437184 := by
      have h1 := room_le (lsOf (zs.take k))
      have h2 : (lsOf (zs.take k)).length ≤ 288 := by unfold lsOf; rw [List.length_map, List.length_take]; omega
      omega
    by_cases hlt : k < n
    · have hkl : k < zs.length := by rw [Hn.out]; exact hlt
      obtain ⟨b, o, rfl, hc⟩ := HA.out.get hkl
      have Hr := Lib.hid (room_take zs k hkl)
      have hzk := HZ.out _ (List.getElem_mem hkl)
      generalize room (lsOf (zs.take k)) = r at *
      generalize zs[k] = z at *
      obtain ⟨x, rfl⟩ := Int.eq_ofNat_of_zero_le hzk.1
      rw [Int.toNat_natCast] at Hr
      by_cases h0 : x = 0
      · subst h0
        have Hr' : Hid (room (lsOf (zs.take (k + 1))) = r) := Lib.hid (by rw [Hr.out]; rfl)
        go_wp2_with fail
        go_round
        case rel => exact ⟨k + 1, by omega, by go_num, by rw [Hr'.out]⟩
        case measure => simp [intOf]; omega
      · have hx1 : 1 ≤ x := by omega
        have h0i : (0 : Int) < (x : Int) := by omega
        have Hr' : Hid (room (lsOf (zs.take (k + 1))) = r + 2 ^ (15 - x)) := Lib.hid (by rw [Hr.out, if_neg h0])
        have h3 : (2 : Nat) ^ (15 - x) ≤ 2 ^ 15 := Nat.pow_le_pow_right (by omega) (by omega)
        have ht := half_down x (by omega)
        generalize 2 ^ (15 - x) = y at *
        go_wp2_with fail
        go_round
        case rel => exact ⟨k + 1, by omega, by go_num, by rw [Hr'.out]; go_num⟩
        case measure => simp [intOf]; omega
    · obtain rfl : k = n := by omega
      have Htk := Lib.hid (List.take_of_length_le (by rw [Hn.out]; omega : zs.length ≤ k))
      rw [Htk.out] at hroom ⊢
      go_wp2_with fail
      go_ret
      exact ⟨rfl, rfl⟩
set_option maxRecDepth 100000 in
set_option maxHeartbeats 1600000 in
theorem lengths_few (A : Option Addr) (n c : Nat) (zs : List Int) (w : World) (hn : zs.length = n) (hx : n ≤ 288) (hA : InAt w A zs) :
    Calls Try.prog 82 #[.slice A n c] w fun e w' => e = .returned (.int .i64 (chkL zs)) ∧ w' = w := by
  have Hn := Lib.hid hn
  have HA := Lib.hid hA
  clear hn hA
  have hnm : ¬ (288 < (n : Int)) := by omega
  go_enter Try.func82, Try.ntmps82
  go_wp2_with fail
  go_loop [10] (fun i => ∃ k : Nat, k ≤ n ∧ i = .int .i64 (k : Int) ∧ (zs.take k).any badLen = false) (fun i => n - (intOf i).toNat)
  case atStart => exact ⟨0, Nat.zero_le _, rfl, rfl⟩
  case round =>
    obtain ⟨k, hk, rfl, hany⟩ := hrel
    have Hany := Lib.hid hany
    clear hany
    by_cases hlt : k < n
    · have hkl : k < zs.length := by rw [Hn.out]; exact hlt
      obtain ⟨b, o, rfl, hc⟩ := HA.out.get hkl
      have Hany2 := Lib.hid (any_take zs k hkl Hany.out)
      have Hbad := Lib.hid (chk_range zs k hkl (by rw [Hn.out]; exact hx))
      generalize zs[k] = z at *
      by_cases h1 : z < 0
      · have Hf := Lib.hid (Hbad.out (by simp [badLen, h1]))
        clear Hbad Hany2
        go_wp2_with fail
        go_ret
        exact ⟨ret_int Hf.out.symm, rfl⟩
      · by_cases h2 : 15 < z
        · have Hf := Lib.hid (Hbad.out (by simp [badLen, h2]))
          clear Hbad Hany2
          go_wp2_with fail
          go_ret
          exact ⟨ret_int Hf.out.symm, rfl⟩
        · have Ha := Lib.hid (Hany2.out (by simp [badLen]; omega))
          clear Hbad Hany2
          go_wp2_with fail
          go_round
          case rel => exact ⟨k + 1, by omega, by go_num, Ha.out⟩
          case measure => simp [intOf]; omega
    · obtain rfl : k = n := by omega
      have hal := Hany.out
      have Htk := Lib.hid (List.take_of_length_le (by rw [Hn.out]; omega : zs.length ≤ k))
      rw [Htk.out] at hal
      have Hf := Lib.hid (chk_done zs (by rw [Hn.out]; exact hx) hal)
      have hz : ∀ z ∈ zs, 0 ≤ z ∧ z ≤ 15 := fun z hz => by
        have := List.any_eq_false.1 hal z hz
        simp [badLen] at this; exact this
      have HR := Lib.hid (room_any A k c zs w Hn.out hx hz HA.out)
      have hroom : room (lsOf zs) ≤ 9437184 := by
        have h1 := room_le (lsOf zs)
        have h2 : (lsOf zs).length = k := by unfold lsOf; rw [List.length_map]; exact Hn.out
        omega
      clear hal hz
      go_wp2_with fail
      refine (HR.out).mono ?_
      rintro e w2 ⟨rfl, hw⟩
      cases hw
      generalize room (lsOf zs) = r at *
      by_cases h3 : 32768 < r
      · have Hr : Hid (chkL zs = 8) := Lib.hid (by rw [Hf.out, if_pos h3])
        go_wp2_with fail
        go_ret
        exact ⟨ret_int Hr.out.symm, rfl⟩
      · have Hr : Hid (chkL zs = 0) := Lib.hid (by rw [Hf.out, if_neg h3])
        go_wp2_with fail
        go_ret
        exact ⟨ret_int Hr.out.symm, rfl⟩
theorem lengths_any (A : Option Addr) (n c : Nat) (zs : List Int) (w : World) (hn : zs.length = n) (hx : n ≤ maxLen) (hA : InAt w A zs) :
    Calls Try.prog 82 #[.slice A n c] w fun e w' => e = .returned (.int .i64 (chkL zs)) ∧ w' = w := by
  by_cases h : n ≤ 288
  · exact lengths_few A n c zs w hn h hA
  · have hnm : 288 < (n : Int) := by omega
    have Hf : Hid (chkL zs = 2) := Lib.hid (by unfold chkL; rw [if_pos (by omega)])
    clear hn hA
    go_enter Try.func82, Try.ntmps82
    go_wp2_with fail
    go_ret
    exact ⟨ret_int Hf.out.symm, rfl⟩
end Go.Proofs.Ythpdcnjaodjjmaa.Cds

/- reliquaryref: the unpacker: told: the walk. -/
namespace Go.Proofs.Ythpdcnjaodjjmaa.Unp
open Go Go.RowKit Go.Proofs.Ythpdcnjaodjjmaa Go.Proofs.Ythpdcnjaodjjmaa.Bits Go.Proofs.Ythpdcnjaodjjmaa.Code
open Go.Proofs.Ythpdcnjaodjjmaa.Inf hiding then_ok tyI
open Go.Proofs.Ythpdcnjaodjjmaa.Cds (HasBook next_any codebook_any lkup)
set_option linter.unusedVariables false
set_option linter.unusedSimpArgs false

/-! told, in its steps -/
def tolL (m : Nat) (l : List Nat × St) : (List Nat × List Nat) × St :=
  if l.2.e ≠ 0 then (([], []), l.2)
  else if l.1.getD 256 0 = 0 ∨ chkL (zsOf (l.1.take m)) ≠ 0 ∨ chkL (zsOf (l.1.drop m)) ≠ 0 then (([], []), uwrong l.2 8)
  else ((l.1.take m, l.1.drop m), l.2)
def tolZ (row : List Bool) (m n : Nat) (sm : List Nat) (s6 : St) : (List Nat × List Nat) × St :=
  if s6.e ≠ 0 then (([], []), s6) else tolL m (ulens row sm (m + n) (m + n) [] s6)
def tolS (row : List Bool) (m n : Nat) (z : List Nat × St) : (List Nat × List Nat) × St := tolZ row m n z.1 (uif (chkL (zsOf z.1) ≠ 0) z.2 8)
def s4of (m n : Nat) (s : St) : St := if 286 < m ∨ 30 < n then uwrong s 8 else s
theorem told_eq (row : List Bool) (s : St) : utold row s = tolS row ((uget row s 5).1 + 257) ((uget row (uget row s 5).2 5).1 + 1)
    (usizes row (orderL.take ((uget row (uget row (uget row s 5).2 5).2 4).1 + 4)) (List.replicate 19 0) (s4of ((uget row s 5).1 + 257) ((uget row (uget row s 5).2 5).1 + 1) (uget row (uget row (uget row s 5).2 5).2 4).2)) := rfl
/-! how far, how great -/
theorem get_pos {row : List Bool} {s : St} {n : Nat} (h : s.pos ≤ row.length) : (uget row s n).2.pos ≤ row.length := by
  unfold uget
  split
  · unfold getR
    split
    · rename_i heq; split at heq
      · injection heq with heq; subst heq; assumption
      · cases heq
    · rename_i heq; split at heq
      · cases heq
      · exact h
  · exact h
theorem get_lt (row : List Bool) (s : St) (n : Nat) : (uget row s n).1 < 2 ^ n := by
  have hp : 0 < 2 ^ n := Nat.pow_pos (by omega)
  unfold uget
  split
  · unfold getR
    split
    · rename_i heq; split at heq
      · injection heq with heq; subst heq
        have := num_lt ((row.drop s.pos).take n)
        exact Nat.lt_of_lt_of_le this (Nat.pow_le_pow_right (by omega) (by rw [List.length_take]; omega))
      · cases heq
    · exact hp
  · exact hp
theorem get_out (row : List Bool) (s : St) (n : Nat) : (uget row s n).2.out = s.out ∧ (uget row s n).2.ks = s.ks := by
  unfold uget
  split
  · split <;> exact ⟨rfl, rfl⟩
  · exact ⟨rfl, rfl⟩
theorem place_pos {row : List Bool} {ls : List Nat} {s : St} (h : s.pos ≤ row.length) : (uplace row ls s).2.pos ≤ row.length := by
  unfold uplace
  split
  · unfold symR
    split
    · rename_i heq; split at heq
      · injection heq with heq; subst heq
        dsimp only
        have := nxt_pos ls (row.drop s.pos) 15 1
        rw [List.length_drop] at this
        have e : next ls (row.drop s.pos) = nxt ls (row.drop s.pos) 15 1 := rfl
        rw [e]; omega
      · cases heq
    · rename_i heq; split at heq
      · cases heq
      · exact h
  · exact h
theorem place_out (row : List Bool) (ls : List Nat) (s : St) : (uplace row ls s).2.out = s.out ∧ (uplace row ls s).2.ks = s.ks := by
  unfold uplace
  split
  · split <;> exact ⟨rfl, rfl⟩
  · exact ⟨rfl, rfl⟩
theorem findC_len (ls : List Nat) (n c i : Nat) (h : findC ls n c = some i) : i < ls.length := by
  exact (findC_inv ls n c i h).1
theorem nxt_fst (ls : List Nat) (row : List Bool) : ∀ k n : Nat, (nxt ls row k n).1 ≤ ls.length
  | 0, n => Nat.zero_le _
  | k + 1, n => by
    unfold nxt
    split
    · exact Nat.zero_le _
    · split
      · rename_i i hf; exact Nat.le_of_lt (findC_len _ _ _ _ hf)
      · exact nxt_fst ls row k (n + 1)
theorem place_lt (row : List Bool) (ls : List Nat) (s : St) : (uplace row ls s).1 ≤ ls.length := by
  unfold uplace
  split
  · unfold symR
    split
    · rename_i heq; split at heq
      · injection heq with heq; subst heq
        exact nxt_fst ls _ 15 1
      · cases heq
    · exact Nat.zero_le _
  · exact Nat.zero_le _
theorem wrong_same (s : St) (z : Int) : (uwrong s z).pos = s.pos ∧ (uwrong s z).out = s.out ∧ (uwrong s z).ks = s.ks := by
  unfold uwrong
  split <;> exact ⟨rfl, rfl, rfl⟩
theorem if_same (c : Prop) [Decidable c] (s : St) (z : Int) : (uif c s z).pos = s.pos ∧ (uif c s z).out = s.out ∧ (uif c s z).ks = s.ks := by
  unfold uif
  split
  · exact wrong_same s z
  · exact ⟨rfl, rfl, rfl⟩
theorem sizes_snoc (row : List Bool) (x : Nat) : ∀ (ks sm : List Nat) (s : St), usizes row (ks ++ [x]) sm s = ((usizes row ks sm s).1.set x (uget row (usizes row ks sm s).2 3).1, (uget row (usizes row ks sm s).2 3).2)
  | [], sm, s => rfl
  | k :: ks, sm, s => sizes_snoc row x ks _ _
theorem sizes_len (row : List Bool) : ∀ (ks sm : List Nat) (s : St), (usizes row ks sm s).1.length = sm.length
  | [], sm, s => rfl
  | k :: ks, sm, s => by
    have := sizes_len row ks (sm.set k (uget row s 3).1) (uget row s 3).2
    rw [List.length_set] at this; exact this
theorem sizes_pos (row : List Bool) : ∀ (ks sm : List Nat) (s : St), s.pos ≤ row.length → (usizes row ks sm s).2.pos ≤ row.length
  | [], sm, s, h => h
  | k :: ks, sm, s, h => sizes_pos row ks _ _ (get_pos h)
theorem ord_lt : ∀ j < 19, orderL.getD j 0 < 19 := by decide
theorem zs_iv2 (s : List Nat) : (zsOf s).map iv = s.map natV := by unfold zsOf; rw [List.map_map]; rfl
theorem zs_len (s : List Nat) : (zsOf s).length = s.length := by unfold zsOf; rw [List.length_map]
theorem inat_zs {w : World} {A : Option Addr} {s : List Nat} (h : SlAt w A (s.map natV)) : InAt w A (zsOf s) := by unfold InAt; rw [zs_iv2]; exact h
theorem tolZ_bad {row : List Bool} {m n : Nat} {sm : List Nat} {s : St} (he : s.e = 0) (hc : chkL (zsOf sm) ≠ 0) : tolZ row m n sm (uif (chkL (zsOf sm) ≠ 0) s 8) = (([], []), uwrong s 8) := by
  have e1 : uif (chkL (zsOf sm) ≠ 0) s 8 = uwrong s 8 := by unfold uif; rw [if_pos ⟨he, hc⟩]
  unfold tolZ
  rw [e1, if_pos (by rw [wrong_yes he]; show ¬ (8 : Int) = 0; decide)]
def vlen : Value → Nat
  | .slice _ n _ => n
  | _ => 0
theorem ulens_end {row : List Bool} {ls : List Nat} {n : Nat} {l : List Nat} {s : St} (h : ¬ (l.length < n ∧ s.e = 0)) : ∀ f, ulens row ls n f l s = (l, s)
  | 0 => rfl
  | f + 1 => by unfold ulens; rw [if_neg h]
theorem times_pos (row : List Bool) (l : List Nat) (k : Nat) (s : St) : 1 ≤ (utimes row l k s).2.1 ∧ (utimes row l k s).2.1 ≤ 138 := by
  have h2 : (uget row s 2).1 < 4 := get_lt row s 2
  have h3 : (uget row s 3).1 < 8 := get_lt row s 3
  have h7 : (uget row s 7).1 < 128 := get_lt row s 7
  unfold utimes
  split
  · dsimp only; omega
  · split
    · dsimp only; omega
    · split
      · dsimp only; omega
      · split
        · dsimp only; omega
        · dsimp only; omega
theorem times_posR {row : List Bool} {l : List Nat} {k : Nat} {s : St} (h : s.pos ≤ row.length) : (utimes row l k s).2.2.pos ≤ row.length := by
  unfold utimes
  split
  · dsimp only; rw [(wrong_same s 8).1]; exact h
  · split
    · exact get_pos h
    · split
      · exact get_pos h
      · split
        · exact get_pos h
        · exact h
/-- the last number, in every world that has the row -/
theorem own_last {w : World} {B L cl : Nat} {Al : Option Addr} {l : List Nat} (hol : w.ownsRow B 3 1 (.slice Al L cl) L (l.map natV)) (hL : L = l.length) (h0 : l ≠ []) : ∃ b o, Al = some ⟨b, o, none⟩ ∧ ∀ W T base, Keeps base T w W → 3 ∉ T → W.cell? ⟨b, o + (L - 1), none⟩ = some (.int .i64 (l.getLastD 0 : Int)) := by
  have hp : 0 < l.length := List.length_pos_iff.2 h0
  subst hL
  obtain ⟨A1, c1, e, _, _, hsl, _⟩ := own_slat hol
  injection e with e1 e2 e3
  subst e1
  obtain ⟨b, o, rfl, _⟩ := hsl (by rw [List.length_map]; exact hp)
  refine ⟨b, o, rfl, fun W T base hk h2 => ?_⟩
  obtain ⟨A', c', e, _, _, hs', _⟩ := own_slat (hk.own hol h2)
  injection e with e1 e2 e3
  subst e1
  obtain ⟨b', o', e, hc⟩ := hs' (by rw [List.length_map]; exact hp)
  injection e with e
  injection e with e1 e2 e3
  subst e1 e2
  refine hc (l.length - 1) _ ?_
  rw [List.getElem?_map, List.getElem?_eq_getElem (by omega)]
  have e : l[l.length - 1]'(by omega) = l.getLastD 0 := by
    rw [List.getLastD_eq_getLast?, List.getLast?_eq_getElem?, List.getElem?_eq_getElem (by omega)]; rfl
  rw [e]
  rfl
theorem ord_take1 (k : Nat) (h : k < 19) : orderL.take (k + 1) = orderL.take k ++ [orderL.getD k 0] := by
  rw [take_snoc orderL k h, List.getD_eq_getElem?_getD, List.getElem?_eq_getElem (show k < orderL.length from h)]; rfl
set_option maxRecDepth 100000 in
set_option maxHeartbeats 8000000 in
theorem told_u (base p : Nat) (row : List Bool) (s : St) (w : World) {vo vk : Value} (h : UAt w base p row s vo vk) (hp : s.pos ≤ row.length) (hr : row.length ≤ 1000000) :
    Calls Try.prog 53 #[.pointer (some ⟨p, 0, none⟩)] w fun e w' => (∃ A na ca B nb cb, e = .returned (.tuple #[.slice A na ca, .slice B nb cb]) ∧ ((utold row s).2.e = 0 → na = (utold row s).1.1.length ∧ nb = (utold row s).1.2.length ∧ SlAt w' A ((utold row s).1.1.map natV) ∧ SlAt w' B ((utold row s).1.2.map natV))) ∧
      UAt w' base p row (utold row s).2 vo vk ∧ Keeps base unpT w w' := by
  obtain ⟨T, hT⟩ : ∃ T, T = utold row s := ⟨_, rfl⟩
  rw [← hT]
  rw [told_eq] at hT
  have hbw := h.bs
  obtain ⟨hpB, hvo, hvk⟩ := h.owns
  have HVo := Lib.hid hvo
  have HVk := Lib.hid hvk
  clear hvo hvk
  have HG1 := Lib.hid (get_u base p 5 row s w h hp hr (by omega))
  have q1 := get_pos (n := 5) hp
  have x1 : (uget row s 5).1 < 32 := get_lt row s 5
  generalize uget row s 5 = g at *
  obtain ⟨a, s1⟩ := g
  dsimp only at q1 x1 HG1 hT
  have HT := Lib.hid hT
  clear hT h hp
  go_enter Try.func53, Try.ntmps53
  go_wp2_with fail
  refine (HG1.out).mono ?_
  rintro e w1 ⟨rfl, hu1, hk1⟩
  have HG2 := Lib.hid (get_u base p 5 row s1 w1 hu1 q1 hr (by omega))
  have q2 := get_pos (n := 5) q1
  have x2 : (uget row s1 5).1 < 32 := get_lt row s1 5
  generalize uget row s1 5 = g at *
  obtain ⟨b, s2⟩ := g
  dsimp only at q2 x2 HG2 HT
  have Hk1 := Lib.hid hk1
  clear hu1 hk1 HG1
  obtain ⟨m, hm⟩ : ∃ m, m = a + 257 := ⟨_, rfl⟩
  obtain ⟨n, hn⟩ : ∃ n, n = b + 1 := ⟨_, rfl⟩
  have hs1 : IntKind.i64.wrap ((a : Int) + 257) = (m : Int) := by rw [show (a : Int) + 257 = (m : Int) by omega]; exact IntWalk.i64_in _ (by omega)
  have hs2 : IntKind.i64.wrap ((b : Int) + 1) = (n : Int) := by rw [show (b : Int) + 1 = (n : Int) by omega]; exact IntWalk.i64_in _ (by omega)
  rw [← hm, ← hn] at HT
  have hm1 : 257 ≤ m ∧ m ≤ 288 := by omega
  have hn1 : 1 ≤ n ∧ n ≤ 32 := by omega
  clear x1 x2 hm hn
  go_wp2_with fail
  refine (HG2.out).mono ?_
  rintro e w2 ⟨rfl, hu2, hk2⟩
  have HG3 := Lib.hid (get_u base p 4 row s2 w2 hu2 q2 hr (by omega))
  have q3 := get_pos (n := 4) q2
  have x3 : (uget row s2 4).1 < 16 := get_lt row s2 4
  generalize uget row s2 4 = g at *
  obtain ⟨c0, s3⟩ := g
  dsimp only at q3 x3 HG3 HT
  have Hk2 := Lib.hid (Hk1.out.trans hk2)
  clear hu2 hk2 HG2 Hk1
  obtain ⟨c, hc⟩ : ∃ c, c = c0 + 4 := ⟨_, rfl⟩
  have hs3 : IntKind.i64.wrap ((c0 : Int) + 4) = (c : Int) := by rw [show (c0 : Int) + 4 = (c : Int) by omega]; exact IntWalk.i64_in _ (by omega)
  rw [← hc] at HT
  have hc1 : 4 ≤ c ∧ c ≤ 19 := by omega
  clear hc x3
  go_wp2_with fail
  refine (HG3.out).mono ?_
  rintro e w3 ⟨rfl, hu3, hk3⟩
  have Hu3 := Lib.hid hu3
  have Hk3 := Lib.hid (Hk2.out.trans hk3)
  clear hu3 hk3 HG3 Hk2
  have hslot1 : (257 : Int) ≤ (m : Int) := by omega
  go_upto_region 2 with fail
  go_cut [29] from 24 to 29 (fun v wx => v = .bool (decide (286 < m ∨ 30 < n)) ∧ wx = w3)
  case first =>
    by_cases hb1 : 286 < m
    · have hb1' : (286 : Int) < (m : Int) := by omega
      go_wp2_with fail
      go_meet
      case rel => exact ⟨by simp [hb1], rfl⟩
    · have hb1' : ¬ (286 : Int) < (m : Int) := by omega
      by_cases hb2 : 30 < n
      · have hb2' : (30 : Int) < (n : Int) := by omega
        go_wp2_with fail
        go_meet
        case rel => exact ⟨by simp [hb2], rfl⟩
      · have hb2' : ¬ (30 : Int) < (n : Int) := by omega
        go_wp2_with fail
        go_meet
        case rel => exact ⟨by simp [hb1, hb2], rfl⟩
  case rest =>
    obtain ⟨rfl, rfl⟩ := hcut
    go_upto_if 29 with fail
    go_cut [29] from 30 to 31 (fun v wx => (∃ bb, v = .bool bb) ∧ UAt wx base p row (s4of m n s3) vo vk ∧ Keeps base unpT w wx)
    case first =>
      by_cases hbad : 286 < m ∨ 30 < n
      · have hd : decide (286 < m ∨ 30 < n) = true := by simpa using hbad
        have HW := Lib.hid (wrong_u base p 8 row s3 wc Hu3.out)
        have Hs4 : Hid (s4of m n s3 = uwrong s3 8) := Lib.hid (by unfold s4of; rw [if_pos hbad])
        rw [hd]
        clear hbad hd
        go_wp2_with fail
        refine (HW.out).mono ?_
        rintro e w4 ⟨rfl, hu4, hk4⟩
        have Hu4 := Lib.hid hu4
        have Hk4 := Lib.hid (Hk3.out.trans hk4)
        clear hu4 hk4 HW
        go_wp2_with fail
        go_meet
        case rel => exact ⟨⟨_, rfl⟩, by rw [Hs4.out]; exact Hu4.out, Hk4.out⟩
      · have hd : decide (286 < m ∨ 30 < n) = false := by simpa using hbad
        have Hs4 : Hid (s4of m n s3 = s3) := Lib.hid (by unfold s4of; rw [if_neg hbad])
        rw [hd]
        clear hbad hd
        go_wp2_with fail
        go_meet
        case rel => exact ⟨⟨_, rfl⟩, by rw [Hs4.out]; exact Hu3.out, Hk3.out⟩
    case rest =>
      obtain ⟨⟨bb, rfl⟩, hu4, hk4⟩ := hcut
      have Hu4 := Lib.hid hu4
      have Hk4 := Lib.hid hk4
      have q4 : (s4of m n s3).pos ≤ row.length := by
        unfold s4of
        split
        · rw [(wrong_same s3 8).1]; exact q3
        · exact q3
      generalize s4of m n s3 = s4 at *
      clear hu4 hk4 Hu3 Hk3 q3 hs1 hs2 hs3
      rename World => w4
      obtain ⟨zz, hzz⟩ : ∃ z, z = nats (List.replicate 19 0) := ⟨_, rfl⟩
      have hmk : ∀ u : World, (Instr.makeSlice 30 (.int .i64 19) (.int .i64 19)).run Try.prog u = .ok (.slice (some ⟨u.heap.size, 0, none⟩) 19 19) (u.alloc (.cells zz 3)) := fun u => by rw [hzz, ← nats_zero]; exact make_ints 19 (by omega) u
      have Hzz := Lib.hid hzz
      clear hzz
      have hc19 : (c : Int) ≤ 19 := by omega
      have hc0 : (0 : Int) ≤ (c : Int) := by omega
      go_wp2_with fail
      obtain ⟨q, hq⟩ : ∃ q, q = w4.heap.size := ⟨_, rfl⟩
      have hZ0 : Blk ((w4.alloc (.cells zz 3)).alloc (.cells #[.int .i64 16, .int .i64 17, .int .i64 18, .int .i64 0, .int .i64 8, .int .i64 7, .int .i64 9, .int .i64 6, .int .i64 10, .int .i64 5, .int .i64 11, .int .i64 4, .int .i64 12, .int .i64 3, .int .i64 13, .int .i64 2, .int .i64 14, .int .i64 1, .int .i64 15] 3)) q 3 (nats (List.replicate 19 0)) := by
        rw [hq, ← Hzz.out]; exact (Blk.new w4 3 zz).alloc _
      have hO0 : Blk ((w4.alloc (.cells zz 3)).alloc (.cells #[.int .i64 16, .int .i64 17, .int .i64 18, .int .i64 0, .int .i64 8, .int .i64 7, .int .i64 9, .int .i64 6, .int .i64 10, .int .i64 5, .int .i64 11, .int .i64 4, .int .i64 12, .int .i64 3, .int .i64 13, .int .i64 2, .int .i64 14, .int .i64 1, .int .i64 15] 3)) (q + 1) 3 ordA := by
        have := Blk.new (w4.alloc (.cells zz 3)) 3 ordA
        rw [World.size_alloc, ← hq] at this
        exact this
      have hU0 : UAt ((w4.alloc (.cells zz 3)).alloc (.cells #[.int .i64 16, .int .i64 17, .int .i64 18, .int .i64 0, .int .i64 8, .int .i64 7, .int .i64 9, .int .i64 6, .int .i64 10, .int .i64 5, .int .i64 11, .int .i64 4, .int .i64 12, .int .i64 3, .int .i64 13, .int .i64 2, .int .i64 14, .int .i64 1, .int .i64 15] 3)) base p row s4 vo vk := (Hu4.out.below ((Below.refl _ _).alloc (Nat.le_refl _) _)).below ((Below.refl _ _).alloc (Nat.le_refl _) _)
      have hq0 : w.heap.size ≤ q := by rw [hq]; exact Hk4.out.size
      have hK0 : OldK base w.heap.size unpT w ((w4.alloc (.cells zz 3)).alloc (.cells #[.int .i64 16, .int .i64 17, .int .i64 18, .int .i64 0, .int .i64 8, .int .i64 7, .int .i64 9, .int .i64 6, .int .i64 10, .int .i64 5, .int .i64 11, .int .i64 4, .int .i64 12, .int .i64 3, .int .i64 13, .int .i64 2, .int .i64 14, .int .i64 1, .int .i64 15] 3)) := by
        have h1 : OldK base w.heap.size unpT w w4 := (OldK.refl _ _ _ _).keeps Hk4.out
        have h2 : Below w.heap.size w4 (w4.alloc (.cells zz 3)) := (Below.refl _ _).alloc (by rw [← hq]; exact hq0) _
        exact (h1.below h2 hbw).below ((Below.refl _ _).alloc (by rw [World.size_alloc, ← hq]; omega) _) hbw
      rw [← hq]
      generalize hw6 : ((w4.alloc (.cells zz 3)).alloc (.cells #[.int .i64 16, .int .i64 17, .int .i64 18, .int .i64 0, .int .i64 8, .int .i64 7, .int .i64 9, .int .i64 6, .int .i64 10, .int .i64 5, .int .i64 11, .int .i64 4, .int .i64 12, .int .i64 3, .int .i64 13, .int .i64 2, .int .i64 14, .int .i64 1, .int .i64 15] 3)) = w6 at *
      have HZ0 := Lib.hid hZ0
      have HO0 := Lib.hid hO0
      have HU0 := Lib.hid hU0
      have HK0 := Lib.hid hK0
      clear hw6 hq hZ0 hO0 hU0 hK0 Hu4 Hk4 Hzz hmk
      go_loopw [37] (fun vi wr => ∃ j : Nat, j ≤ c ∧ vi = .int .i64 (j : Int) ∧ UAt wr base p row (usizes row (orderL.take j) (List.replicate 19 0) s4).2 vo vk ∧ Blk wr q 3 (nats (usizes row (orderL.take j) (List.replicate 19 0) s4).1) ∧ Blk wr (q + 1) 3 ordA ∧ OldK base w.heap.size unpT w wr) (fun vi _ => c - (intOf vi).toNat)
      case atStart => exact ⟨0, Nat.zero_le _, rfl, HU0.out, HZ0.out, HO0.out, HK0.out⟩
      case round =>
        obtain ⟨j, hj, rfl, hu, hz, ho, hk⟩ := hrel
        have HU := Lib.hid hu
        have HZ := Lib.hid hz
        have HO := Lib.hid ho
        have HK := Lib.hid hk
        have hpos := sizes_pos row (orderL.take j) (List.replicate 19 0) s4 q4
        have hlen := sizes_len row (orderL.take j) (List.replicate 19 0) s4
        rw [List.length_replicate] at hlen
        clear hu hz ho hk HU0 HZ0 HO0 HK0
        by_cases hlt : j < c
        · obtain ⟨k, hk⟩ : ∃ k, k = orderL.getD j 0 := ⟨_, rfl⟩
          have hk19 : k < 19 := by rw [hk]; exact ord_lt j (by omega)
          have Hsn := Lib.hid (sizes_snoc row k (orderL.take j) (List.replicate 19 0) s4)
          have Htk : Hid (orderL.take (j + 1) = orderL.take j ++ [k]) := Lib.hid (by rw [hk]; exact ord_take1 j (by omega))
          have hcell : wr.cell? ⟨q + 1, j, none⟩ = some (.int .i64 (k : Int)) := by
            have hj19 : j < orderL.length := by show j < 19; omega
            rw [HO.out.cell, ordA_eq, List.getElem?_toArray, List.getElem?_map, List.getElem?_eq_getElem hj19, hk, List.getD_eq_getElem?_getD, List.getElem?_eq_getElem hj19]
            rfl
          rw [← Htk.out] at Hsn
          generalize usizes row (orderL.take j) (List.replicate 19 0) s4 = z at *
          obtain ⟨sm, sz⟩ := z
          dsimp only at hpos hlen HU HZ Hsn
          have HG := Lib.hid (get_u base p 3 row sz wr HU.out hpos hr (by omega))
          have hjC : (j : Int) < (c : Int) := by omega
          have hj0 : (0 : Int) ≤ (j : Int) := by omega
          have hk0 : (0 : Int) ≤ (k : Int) := by omega
          have hk19' : (k : Int) < 19 := by omega
          clear hk
          go_wp2_with fail
          refine (HG.out).mono ?_
          rintro e w7 ⟨rfl, hu7, hk7⟩
          have HU7 := Lib.hid hu7
          have HZ7 := Lib.hid (hk7.blk HZ.out (by decide))
          have HO7 := Lib.hid (hk7.blk HO.out (by decide))
          have HK7 := Lib.hid (HK.out.keeps hk7)
          have hc7 : w7.cell? ⟨q, k, none⟩ = some (.int .i64 ((sm.getD k 0 : Nat) : Int)) := by
            rw [HZ7.out.cell, nats_get _ _ (by rw [hlen]; exact hk19), List.getD_eq_getElem?_getD, List.getElem?_eq_getElem (by rw [hlen]; exact hk19)]
            rfl
          have hf7 := HZ7.out.frozen k
          generalize sm.getD k 0 = ov at hc7
          generalize hx : uget row sz 3 = x at *
          obtain ⟨x1, x2⟩ := x
          dsimp only at HU7 Hsn ⊢
          clear hu7 hk7 HG HU HZ HO HK hx
          go_wp2_with fail
          have Hbs : Hid (Below w.heap.size w7 (w7.setCell ⟨q, k, none⟩ (.int .i64 (x1 : Int)))) := Lib.hid ((Below.refl _ _).setCell (p := ⟨q, k, none⟩) hq0 _)
          go_roundw
          case rel => exact ⟨j + 1, by omega, by go_num, by rw [Hsn.out]; exact HU7.out.low Hbs.out hpB HVo.out HVk.out, by rw [Hsn.out]; dsimp only; rw [← nats_set]; exact HZ7.out.set_ k _, HO7.out.far (p := ⟨q, k, none⟩) (by show q + 1 ≠ q; omega) _, HK7.out.below Hbs.out hbw⟩
          case measure => simp [intOf]; omega
        · obtain rfl : j = c := by omega
          generalize usizes row (orderL.take j) (List.replicate 19 0) s4 = z at *
          obtain ⟨sm, sz⟩ := z
          dsimp only at hpos hlen HU HZ HT
          have HT := Lib.hid (show T = tolZ row m n sm (uif (chkL (zsOf sm) ≠ 0) sz 8) from HT.out)
          have hc4 := (u_cells HU.out.2.1).2.2.2.2
          have HSl := Lib.hid (show SlAt wr (some ⟨q, 0, none⟩) (sm.map natV) from SlAt.of_heap HZ.out (by simp [nats]))
          have HC := Lib.hid (Cds.lengths_any (some ⟨q, 0, none⟩) 19 19 (zsOf sm) wr (by rw [zs_len, hlen]) (by unfold maxLen; omega) (inat_zs HSl.out))
          clear HO
          by_cases he : sz.e = 0
          · have heb : (sz.e == 0) = true := by rw [he]; rfl
            by_cases hch : chkL (zsOf sm) = 0
            · replace HT := Lib.hid (show T = tolL m (ulens row sm (m + n) (m + n) [] sz) by rw [HT.out]; unfold tolZ; rw [if_no (fun h => h hch), if_neg (fun h => h he)])
              have hB := Lib.hid (codebook_any (some ⟨q, 0, none⟩) 19 19 (zsOf sm) wr (by rw [zs_len, hlen]) (inat_zs HSl.out) hch)
              rw [hch] at HC
              rw [he] at hc4
              go_wp2_with fail
              refine (HC.out).mono ?_
              rintro e w8 ⟨rfl, rfl⟩
              clear HC
              go_wp2_with fail
              refine (hB.out).mono ?_
              rintro e w9 ⟨⟨gm, al, rfl, hkm, hbk⟩, hb9⟩
              have HKm := Lib.hid hkm
              rw [lsOf_zs] at hbk
              have HBk : Hid (HasBook al sm sm.length) := Lib.hid (by rw [hlen]; exact hbk)
              have Hb9 : Hid (Below w.heap.size w8 w9) := Lib.hid (hb9.mono HK.out.size)
              have HU9 := Lib.hid (HU.out.below hb9)
              have HK9 := Lib.hid (HK.out.below Hb9.out hbw)
              obtain ⟨N, hN⟩ : ∃ N, N = m + n := ⟨_, rfl⟩
              have hwN : IntKind.i64.wrap ((m : Int) + (n : Int)) = (N : Int) := by rw [show (m : Int) + (n : Int) = (N : Int) by omega]; exact IntWalk.i64_in _ (by omega)
              have hNb : 258 ≤ N ∧ N ≤ 320 := by omega
              rw [← hN] at HT
              clear hkm hbk hb9 Hb9 hB HSl HU HK HZ hc4 heb
              obtain ⟨wo, hwo⟩ : ∃ wo, wo = w9 := ⟨_, rfl⟩
              have HF : Hid (ulens row sm N N [] sz = ulens row sm N N [] sz) := Lib.hid rfl
              clear HF
              obtain ⟨F, hF⟩ : ∃ F, F = ulens row sm N N [] sz := ⟨_, rfl⟩
              rw [← hF] at HT
              have HF := Lib.hid hF
              clear hF hwo
              go_wp2_with fail
              go_loopw [11] (fun vl wr => ∃ (f : Nat) (l : List Nat) (sl : St), l.length ≤ N + 138 ∧ N ≤ l.length + f ∧ F = ulens row sm N f l sl ∧ wr.ownsRow w.heap.size 3 1 vl l.length (l.map natV) ∧ sl.pos ≤ row.length ∧ UAt wr base p row sl vo vk ∧ KM rowV wr gm al ∧ OldK base w.heap.size unpT w wr) (fun vl _ => N + 200 - vlen vl)
              case atStart => exact ⟨N, [], sz, by simp, by simp, HF.out, World.ownsRow_nil _ _ _ _, hpos, HU9.out, HKm.out, HK9.out⟩
              case round =>
                clear HF HU9 HKm HK9
                obtain ⟨f, l, sl, hlN, hf, hF, hown, hps, hu, hkm, hk⟩ := hrel
                obtain ⟨Al, cl, rfl, hlc, hlcm, hsl, hnz⟩ := own_slat hown
                obtain ⟨L, hL⟩ : ∃ L, L = l.length := ⟨_, rfl⟩
                rw [← hL] at hlN hf hown hlc hnz ⊢
                have HLl := Lib.hid hL
                have HF := Lib.hid hF
                have HOw := Lib.hid hown
                have HU := Lib.hid hu
                have HKm := Lib.hid hkm
                have HK := Lib.hid hk
                have hc4 := (u_cells hu.2.1).2.2.2.2
                clear hL hF hown hu hkm hk
                by_cases hgo : L < N ∧ sl.e = 0
                · obtain ⟨hlt, he⟩ := hgo
                  obtain ⟨f, rfl⟩ : ∃ f', f = f' + 1 := ⟨f - 1, by omega⟩
                  have HP := Lib.hid (place_u base p gm al sm row sl wr HU.out hps hr HKm.out HBk.out)
                  have hpp := place_pos (ls := sm) hps
                  have hpl := place_lt row sm sl
                  have HF := Lib.hid (show F = _ from HF.out)
                  have hlt' : (L : Int) < (N : Int) := by omega
                  rw [he] at hc4
                  go_wp2_with fail
                  refine (HP.out).mono ?_
                  rintro e w11 ⟨rfl, hu11, hk11⟩
                  have HOw11 := Lib.hid (hk11.own HOw.out (by decide))
                  have HKm11 := Lib.hid (HKm.out.keeps hk11)
                  have HK11 := Lib.hid (HK.out.keeps hk11)
                  have HU11 := Lib.hid hu11
                  replace HF : Hid (F = ulens row sm N f (l ++ List.replicate (utimes row l (uplace row sm sl).1 (uplace row sm sl).2).2.1 (utimes row l (uplace row sm sl).1 (uplace row sm sl).2).1) (uif (N < l.length + (utimes row l (uplace row sm sl).1 (uplace row sm sl).2).2.1) (utimes row l (uplace row sm sl).1 (uplace row sm sl).2).2.2 8)) := Lib.hid (by
                    rw [HF.out]
                    conv => lhs; unfold ulens
                    rw [if_pos ⟨by rw [← HLl.out]; exact hlt, he⟩])
                  clear hu11 hk11 HP HOw HKm HK HU hc4 he hps hnz
                  generalize uplace row sm sl = y at *
                  obtain ⟨k, s2⟩ := y
                  dsimp only at hpp hpl HU11 HF ⊢
                  rw [hlen] at hpl
                  have htp := times_pos row l k s2
                  have htr := times_posR (l := l) (k := k) hpp
                  obtain ⟨r, hr⟩ : ∃ r, r = utimes row l k s2 := ⟨_, rfl⟩
                  rw [← hr] at htp htr HF
                  obtain ⟨v, t, s3⟩ := r
                  dsimp only at htp htr HF
                  have Hr := Lib.hid hr.symm
                  rw [← HLl.out] at HF
                  have hlnil : (l = []) ↔ L = 0 := by rw [HLl.out]; exact List.length_eq_zero_iff.symm
                  have Hnil := Lib.hid hlnil
                  clear hr hlnil
                  go_upto_block 4 with fail
                  go_cut [13, 14] from 83 to 116 (fun vv tt wx => vv = .int .i64 (v : Int) ∧ tt = .int .i64 (t : Int) ∧ UAt wx base p row s3 vo vk ∧ KM rowV wx gm al ∧ OldK base w.heap.size unpT w wx ∧ wx.ownsRow w.heap.size 3 1 (.slice Al L cl) L (l.map natV))
                  case first =>
                    by_cases h16 : k = 16
                    · subst h16
                      by_cases hl0 : l = []
                      · have hL0 : L = 0 := Hnil.out.1 hl0
                        have e1 : utimes row l 16 s2 = (16, 1, uwrong s2 8) := by unfold utimes; rw [if_pos ⟨rfl, hl0⟩]
                        rw [e1] at Hr
                        have HW := Lib.hid (wrong_u base p 8 row s2 w11 HU11.out)
                        obtain ⟨rfl, rfl, rfl⟩ : 16 = v ∧ 1 = t ∧ uwrong s2 8 = s3 := by
                          have := Hr.out
                          injection this with e1 e2
                          injection e2 with e2 e3
                          exact ⟨e1, e2, e3⟩
                        have hLb : ((L : Int) == 0) = true := by rw [hL0]; rfl
                        clear hl0 e1 hL0
                        go_wp2_with fail
                        refine (HW.out).mono ?_
                        rintro e w12 ⟨rfl, hu12, hk12⟩
                        have HU12 := Lib.hid hu12
                        have HKm12 := Lib.hid (HKm11.out.keeps hk12)
                        have HK12 := Lib.hid (HK11.out.keeps hk12)
                        have HO12 := Lib.hid (hk12.own HOw11.out (by decide))
                        clear hu12 hk12 HW
                        go_wp2_with fail
                        go_meet
                        case rel => exact ⟨rfl, rfl, HU12.out, HKm12.out, HK12.out, HO12.out⟩
                      · have hL1 : 1 ≤ L := by
                          have : L ≠ 0 := fun h => hl0 (Hnil.out.2 h)
                          omega
                        have hLb : ((L : Int) == 0) = false := by rw [beq_eq_false_iff_ne]; omega
                        have e1 : utimes row l 16 s2 = (l.getLastD 0, 3 + (uget row s2 2).1, (uget row s2 2).2) := by unfold utimes; rw [if_neg (fun h => hl0 h.2), if_pos rfl]
                        rw [e1] at Hr
                        obtain ⟨bl, ol, rfl, hSS⟩ := own_last HOw11.out HLl.out hl0
                        obtain ⟨ix, hix⟩ : ∃ ix, ix = L - 1 := ⟨_, rfl⟩
                        rw [← hix] at hSS
                        have HSS := Lib.hid hSS
                        have hwi : IntKind.i64.wrap ((L : Int) - 1) = (ix : Int) := by rw [show (L : Int) - 1 = (ix : Int) by omega]; exact IntWalk.i64_in _ (by omega)
                        have hix0 : (0 : Int) ≤ (ix : Int) := by omega
                        have hix1 : (ix : Int) < (L : Int) := by omega
                        generalize l.getLastD 0 = la at *
                        have HG := Lib.hid (get_u base p 2 row s2 w11.drew (HU11.out.drewN 1) hpp hr (by omega))
                        have hx : (uget row s2 2).1 < 4 := get_lt row s2 2
                        generalize uget row s2 2 = x at *
                        obtain ⟨x1, x2⟩ := x
                        dsimp only at hx HG Hr
                        obtain ⟨rfl, hy, rfl⟩ : la = v ∧ t = 3 + x1 ∧ x2 = s3 := by
                          have := Hr.out
                          injection this with e1 e2
                          injection e2 with e2 e3
                          exact ⟨e1, e2.symm, e3⟩
                        have hwx : IntKind.i64.wrap ((3 : Int) + (x1 : Int)) = (t : Int) := by rw [show (3 : Int) + (x1 : Int) = (t : Int) by omega]; exact IntWalk.i64_in _ (by omega)
                        clear hy hix hSS hl0 e1
                        go_wp2_with fail
                        refine wp_region_S (fun W => W.cell? ⟨bl, ol + ix, none⟩ = some (.int .i64 (la : Int))) 10 (by kernel_rfl) ?_
                        have hHeld := HSS.out w11.drew [] 0 ((Keeps.refl _ _ _).drew) (by simp)
                        have HSS2 : Hid (∀ W, Keeps base unpT w11.drew W → W.cell? ⟨bl, ol + ix, none⟩ = some (.int .i64 (la : Int))) := Lib.hid (fun W hk => HSS.out W unpT 0 (((Keeps.refl 0 unpT w11).drew).trans (hk.mono (Nat.zero_le _) (fun _ h => h))) (by decide))
                        have HKm12 := Lib.hid (HKm11.out.keeps ((Keeps.refl base unpT w11).drew))
                        have HK12 := Lib.hid (HK11.out.keeps ((Keeps.refl base unpT w11).drew))
                        have HO12 := Lib.hid (own_drew HOw11.out)
                        generalize w11.drew = w12 at *
                        clear HSS
                        refine wpAnyS_takeT (i := 0) (v := ?va0) (by kernel_rfl) (by kernel_rfl) rfl (by kernel_rfl) (by kernel_rfl) (by kernel_rfl) (fun _ _ _ h => h) (by rfl) (by assumption) ?hya0 ?resta0
                        case hya0 => (intro W hSW; (try dsimp only at hSW); go_simp; try with_reducible rfl)
                        (try simp only [Act.put, List.getElem_toArray, List.getElem_cons_zero, List.getElem_cons_succ, List.setIfInBounds_toArray, List.set_cons_zero, List.set_cons_succ])
                        refine wpAnyS_takeT (i := 1) (v := ?va1) (by kernel_rfl) (by kernel_rfl) rfl (by kernel_rfl) (by kernel_rfl) (by kernel_rfl) (fun _ _ _ h => h) (by rfl) (by assumption) ?hya1 ?resta1
                        case hya1 => (intro W hSW; (try dsimp only at hSW); go_simp; try with_reducible rfl)
                        (try simp only [Act.put, List.getElem_toArray, List.getElem_cons_zero, List.getElem_cons_succ, List.setIfInBounds_toArray, List.set_cons_zero, List.set_cons_succ])
                        refine wpAnyS_takeT (i := 2) (v := ?va2) (by kernel_rfl) (by kernel_rfl) rfl (by kernel_rfl) (by kernel_rfl) (by kernel_rfl) (fun _ _ _ h => h) (by rfl) (by assumption) ?hya2 ?resta2
                        case hya2 => (intro W hSW; (try dsimp only at hSW); go_simp; try with_reducible rfl)
                        (try simp only [Act.put, List.getElem_toArray, List.getElem_cons_zero, List.getElem_cons_succ, List.setIfInBounds_toArray, List.set_cons_zero, List.set_cons_succ])
                        refine wpAnyS_takeT (i := 3) (v := ?va3) (by kernel_rfl) (by kernel_rfl) rfl (by kernel_rfl) (by kernel_rfl) (by kernel_rfl) (fun _ _ _ h => h) (by rfl) (by assumption) ?hya3 ?resta3
                        case hya3 => (intro W hSW; (try dsimp only at hSW); go_simp; try with_reducible rfl)
                        (try simp only [Act.put, List.getElem_toArray, List.getElem_cons_zero, List.getElem_cons_succ, List.setIfInBounds_toArray, List.set_cons_zero, List.set_cons_succ])
                        refine wpAnyS_takeT (i := 4) (v := ?va4) (by kernel_rfl) (by kernel_rfl) rfl (by kernel_rfl) (by kernel_rfl) (by kernel_rfl) (fun _ _ _ h => h) (by rfl) (by assumption) ?hya4 ?resta4
                        case hya4 => (intro W hSW; (try dsimp only at hSW); go_simp; try with_reducible rfl)
                        (try simp only [Act.put, List.getElem_toArray, List.getElem_cons_zero, List.getElem_cons_succ, List.setIfInBounds_toArray, List.set_cons_zero, List.set_cons_succ])
                        refine wpAnyS_takeT (i := 5) (v := ?va5) (by kernel_rfl) (by kernel_rfl) rfl (by kernel_rfl) (by kernel_rfl) (by kernel_rfl) (fun _ _ _ h => h) (by rfl) (by assumption) ?hya5 ?resta5
                        case hya5 => (intro W hSW; (try dsimp only at hSW); go_simp; try with_reducible rfl)
                        (try simp only [Act.put, List.getElem_toArray, List.getElem_cons_zero, List.getElem_cons_succ, List.setIfInBounds_toArray, List.set_cons_zero, List.set_cons_succ])
                        refine wpAnyS_takeT (i := 6) (v := ?va6) (by kernel_rfl) (by kernel_rfl) rfl (by kernel_rfl) (by kernel_rfl) (by kernel_rfl) (fun _ _ _ h => h) (by rfl) (by assumption) ?hya6 ?resta6
                        case hya6 => (intro W hSW; (try dsimp only at hSW); go_simp; try with_reducible rfl)
                        (try simp only [Act.put, List.getElem_toArray, List.getElem_cons_zero, List.getElem_cons_succ, List.setIfInBounds_toArray, List.set_cons_zero, List.set_cons_succ])
                        refine wpAnyS_only (i := 7) rfl (by kernel_rfl) (fun K hK => ?_)
                        go_simp
                        clear hHeld
                        go_at_call 49
                        refine (HG.out).mono ?_
                        rintro e w13 ⟨rfl, hu13, hk13⟩
                        have HU13 := Lib.hid hu13
                        have HKm13 := Lib.hid (HKm12.out.keeps hk13)
                        have HK13 := Lib.hid (HK12.out.keeps hk13)
                        have HO13 := Lib.hid (hk13.own HO12.out (by decide))
                        have HS13 := Lib.hid (HSS2.out w13 hk13)
                        clear hu13 hk13 HG
                        refine hK.out _ _ HS13.out (fun hHeld => ?_)
                        clear hK K
                        (try simp only [Act.put, List.getElem_toArray, List.getElem_cons_zero, List.getElem_cons_succ, List.setIfInBounds_toArray, List.set_cons_zero, List.set_cons_succ])
                        refine wpAnyS_takeT (i := 8) (v := ?vb8) (by kernel_rfl) (by kernel_rfl) rfl (by kernel_rfl) (by kernel_rfl) (by kernel_rfl) (fun _ _ _ h => h) (by rfl) (by assumption) ?hyb8 ?restb8
                        case hyb8 => (intro W hSW; (try dsimp only at hSW); go_simp; try with_reducible rfl)
                        (try simp only [Act.put, List.getElem_toArray, List.getElem_cons_zero, List.getElem_cons_succ, List.setIfInBounds_toArray, List.set_cons_zero, List.set_cons_succ])
                        refine wpAnyS_takeT (i := 9) (v := ?vb9) (by kernel_rfl) (by kernel_rfl) rfl (by kernel_rfl) (by kernel_rfl) (by kernel_rfl) (fun _ _ _ h => h) (by rfl) (by assumption) ?hyb9 ?restb9
                        case hyb9 => (intro W hSW; (try dsimp only at hSW); go_simp; try with_reducible rfl)
                        (try simp only [Act.put, List.getElem_toArray, List.getElem_cons_zero, List.getElem_cons_succ, List.setIfInBounds_toArray, List.set_cons_zero, List.set_cons_succ])
                        refine wpAnyS_last rfl (by kernel_rfl) (by kernel_rfl) (fun K hK => ?_)
                        go_simp
                        refine hK.out _ _ ?_
                        clear hK K
                        go_wp2_with fail
                        go_meet
                        case rel => exact ⟨rfl, rfl, HU13.out, HKm13.out, HK13.out, HO13.out⟩

                    · have hb16 : ((k : Int) == 16) = false := by rw [beq_eq_false_iff_ne]; omega
                      have e16 : utimes row l k s2 = if k = 17 then (0, 3 + (uget row s2 3).1, (uget row s2 3).2) else if k = 18 then (0, 11 + (uget row s2 7).1, (uget row s2 7).2) else (k, 1, s2) := by unfold utimes; rw [if_neg (fun h => h16 h.1), if_neg h16]
                      rw [e16] at Hr
                      clear e16
                      by_cases h17 : k = 17
                      · subst h17
                        rw [if_pos rfl] at Hr
                        have HG := Lib.hid (get_u base p 3 row s2 w11 HU11.out hpp hr (by omega))
                        have hx : (uget row s2 3).1 < 8 := get_lt row s2 3
                        generalize uget row s2 3 = x at *
                        obtain ⟨x1, x2⟩ := x
                        dsimp only at hx HG Hr
                        obtain ⟨rfl, hy, rfl⟩ : 0 = v ∧ t = 3 + x1 ∧ x2 = s3 := by
                          have := Hr.out
                          injection this with e1 e2
                          injection e2 with e2 e3
                          exact ⟨e1, e2.symm, e3⟩
                        have hwx : IntKind.i64.wrap ((3 : Int) + (x1 : Int)) = (t : Int) := by rw [show (3 : Int) + (x1 : Int) = (t : Int) by omega]; exact IntWalk.i64_in _ (by omega)
                        clear hy
                        go_wp2_with fail
                        refine (HG.out).mono ?_
                        rintro e w12 ⟨rfl, hu12, hk12⟩
                        have HU12 := Lib.hid hu12
                        have HKm12 := Lib.hid (HKm11.out.keeps hk12)
                        have HK12 := Lib.hid (HK11.out.keeps hk12)
                        have HO12 := Lib.hid (hk12.own HOw11.out (by decide))
                        clear hu12 hk12 HG
                        go_wp2_with fail
                        go_meet
                        case rel => exact ⟨rfl, rfl, HU12.out, HKm12.out, HK12.out, HO12.out⟩

                      · have hb17 : ((k : Int) == 17) = false := by rw [beq_eq_false_iff_ne]; omega
                        rw [if_neg h17] at Hr
                        by_cases h18 : k = 18
                        · subst h18
                          rw [if_pos rfl] at Hr
                          have HG := Lib.hid (get_u base p 7 row s2 w11 HU11.out hpp hr (by omega))
                          have hx : (uget row s2 7).1 < 128 := get_lt row s2 7
                          generalize uget row s2 7 = x at *
                          obtain ⟨x1, x2⟩ := x
                          dsimp only at hx HG Hr
                          obtain ⟨rfl, hy, rfl⟩ : 0 = v ∧ t = 11 + x1 ∧ x2 = s3 := by
                            have := Hr.out
                            injection this with e1 e2
                            injection e2 with e2 e3
                            exact ⟨e1, e2.symm, e3⟩
                          have hwx : IntKind.i64.wrap ((11 : Int) + (x1 : Int)) = (t : Int) := by rw [show (11 : Int) + (x1 : Int) = (t : Int) by omega]; exact IntWalk.i64_in _ (by omega)
                          clear hy
                          go_wp2_with fail
                          refine (HG.out).mono ?_
                          rintro e w12 ⟨rfl, hu12, hk12⟩
                          have HU12 := Lib.hid hu12
                          have HKm12 := Lib.hid (HKm11.out.keeps hk12)
                          have HK12 := Lib.hid (HK11.out.keeps hk12)
                          have HO12 := Lib.hid (hk12.own HOw11.out (by decide))
                          clear hu12 hk12 HG
                          go_wp2_with fail
                          go_meet
                          case rel => exact ⟨rfl, rfl, HU12.out, HKm12.out, HK12.out, HO12.out⟩

                        · have hb18 : ((k : Int) == 18) = false := by rw [beq_eq_false_iff_ne]; omega
                          rw [if_neg h18] at Hr
                          obtain ⟨rfl, rfl, rfl⟩ : k = v ∧ 1 = t ∧ s2 = s3 := by
                            have := Hr.out
                            injection this with e1 e2
                            injection e2 with e2 e3
                            exact ⟨e1, e2, e3⟩
                          go_wp2_with fail
                          go_meet
                          case rel => exact ⟨rfl, rfl, HU11.out, HKm11.out, HK11.out, HOw11.out⟩
                  case rest =>
                    obtain ⟨rfl, rfl, hu, hkm, hk, hown⟩ := hcut
                    have HU := Lib.hid hu
                    have HKm := Lib.hid hkm
                    have HK := Lib.hid hk
                    have HOw := Lib.hid hown
                    have hc4 := (u_cells hu.2.1).2.2.2.2
                    have hlb : (sl.e == 0) = (sl.e == 0) := rfl
                    have hwt : IntKind.i64.wrap ((L : Int) + (t : Int)) = ((L + t : Nat) : Int) := by rw [show (L : Int) + (t : Int) = ((L + t : Nat) : Int) by omega]; exact IntWalk.i64_in _ (by omega)
                    obtain ⟨Lt, hLt⟩ : ∃ x, x = L + t := ⟨_, rfl⟩
                    rw [← hLt] at hwt HF
                    clear hu hkm hk hown HU11 HKm11 HK11 HOw11 Hr hlb
                    rename World => wb
                    have hLtb : Lt ≤ L + 138 := by omega
                    go_upto_region 27 with fail
                    go_cut [131] from 117 to 131 (fun bv wx => bv = .bool (decide (s3.e = 0 ∧ N < Lt)) ∧ wx = wb)
                    case first =>
                      by_cases he : s3.e = 0
                      · rw [he] at hc4
                        by_cases hN : N < Lt
                        · have hN' : (N : Int) < (Lt : Int) := by omega
                          go_wp2_with fail
                          go_meet
                          case rel => exact ⟨by simp [he, hN]; omega, rfl⟩
                        · have hN' : ¬ (N : Int) < (Lt : Int) := by omega
                          go_wp2_with fail
                          go_meet
                          case rel => exact ⟨by simp [he, hN]; omega, rfl⟩
                      · have hes : decide (s3.e = 0 ∧ N < Lt) = false := by simp [he]
                        have heb : (s3.e == 0) = false := by rw [beq_eq_false_iff_ne]; exact he
                        generalize hze : s3.e = ze at *
                        go_wp2_with fail
                        go_meet
                        case rel => exact ⟨by simp [he], rfl⟩
                    case rest =>
                      obtain ⟨rfl, rfl⟩ := hcut
                      go_upto_if 131 with fail
                      go_cut [131] from 132 to 133 (fun bv wx => (∃ bb, bv = .bool bb) ∧ UAt wx base p row (uif (N < Lt) s3 8) vo vk ∧ KM rowV wx gm al ∧ OldK base w.heap.size unpT w wx ∧ wx.ownsRow w.heap.size 3 1 (.slice Al L cl) L (l.map natV))
                      case first =>
                        by_cases hb : s3.e = 0 ∧ N < Lt
                        · have HW := Lib.hid (wrong_u base p 8 row s3 _ HU.out)
                          have e1 : uif (N < Lt) s3 8 = uwrong s3 8 := by unfold uif; rw [if_pos hb]
                          have E1 := Lib.hid e1
                          rw [show decide (s3.e = 0 ∧ N < Lt) = true from by simp [hb]]
                          clear e1 hb
                          go_wp2_with fail
                          refine (HW.out).mono ?_
                          rintro e w12 ⟨rfl, hu12, hk12⟩
                          have HU12 := Lib.hid hu12
                          have HKm12 := Lib.hid (HKm.out.keeps hk12)
                          have HK12 := Lib.hid (HK.out.keeps hk12)
                          have HO12 := Lib.hid (hk12.own HOw.out (by decide))
                          clear hu12 hk12 HW
                          go_wp2_with fail
                          go_meet
                          case rel => exact ⟨⟨_, rfl⟩, by rw [E1.out]; exact HU12.out, HKm12.out, HK12.out, HO12.out⟩
                        · have e1 : uif (N < Lt) s3 8 = s3 := by unfold uif; rw [if_neg hb]
                          have E1 := Lib.hid e1
                          rw [show decide (s3.e = 0 ∧ N < Lt) = false from by simpa using hb]
                          clear e1 hb
                          go_wp2_with fail
                          go_meet
                          case rel => exact ⟨⟨_, rfl⟩, by rw [E1.out]; exact HU.out, HKm.out, HK.out, HOw.out⟩
                      case rest =>
                        obtain ⟨⟨bb2, rfl⟩, hu, hkm, hk, hown⟩ := hcut
                        replace HU := Lib.hid hu
                        replace HKm := Lib.hid hkm
                        replace HK := Lib.hid hk
                        replace HOw := Lib.hid hown
                        have hsz := hk.size
                        have hps4 : (uif (N < Lt) s3 8).pos ≤ row.length := by rw [(if_same _ s3 8).1]; exact htr
                        generalize uif (N < Lt) s3 8 = s4' at *
                        clear hu hkm hk hown hc4
                        rename World => wd
                        have hba : Below wd.heap.size wd (wd.alloc (.cells #[.int .i64 (v : Int)] 3)) := (Below.refl _ _).alloc (Nat.le_refl _) _
                        have HV1 : Hid (SlAt (wd.alloc (.cells #[.int .i64 (v : Int)] 3)) (some ⟨wd.heap.size, 0, none⟩) [.int .i64 (v : Int)]) := Lib.hid (SlAt.of_heap (heap_alloc_new _ _) rfl)
                        have Hba := Lib.hid hba
                        clear hba
                        go_wp2_with fail
                        refine (repeat1_any (some ⟨wd.heap.size, 0, none⟩) 1 t (v : Int) _ HV1.out htp.1 (by omega)).mono ?_
                        rintro e w14 ⟨⟨A4, rfl, hs4⟩, hb4⟩
                        have Hb14 := Lib.hid (Hba.out.trans (hb4.mono Hba.out.size))
                        obtain ⟨X, hX⟩ : ∃ X, X = List.replicate t (Value.int .i64 (v : Int)) := ⟨_, rfl⟩
                        have HX := Lib.hid hX
                        rw [← hX] at hs4
                        have HS4 := Lib.hid hs4
                        have Hxl : Hid (X.length = t * 1) := Lib.hid (by rw [hX]; simp)
                        have HXo : Hid (∀ u ∈ X, u.oneCell' = true) := Lib.hid (by rw [hX]; intro u hu; rw [List.eq_of_mem_replicate hu]; rfl)
                        have HA4 : Hid (A4 = none → t = 0) := Lib.hid (fun e => by
                          obtain ⟨b, o, e', _⟩ := HS4.out (by rw [Hxl.out]; omega)
                          rw [e] at e'
                          cases e')
                        have HOw14 := Lib.hid (own_keep HOw.out Hb14.out)
                        have hsz14 : w.heap.size ≤ w14.heap.size := Nat.le_trans hsz Hb14.out.size
                        have HU14 := Lib.hid (HU.out.below Hb14.out)
                        have HKm14 := Lib.hid (HKm.out.below Hb14.out)
                        have HK14 := Lib.hid (HK.out.below (Hb14.out.mono hsz) hbw)
                        clear hX hs4 hb4 Hba HV1 HU HKm HK HOw Hb14
                        go_wp2_with (at_builtin; refine wpList_app _ rfl (.tmp 134) (.tmp 138) _ rfl w.heap.size 3 _ 1 8 Inf.tyI _ L (l.map natV) rfl HOw14.out A4 t t X rfl Hxl.out HS4.out HXo.out HA4.out (by unfold maxLen; omega) (by omega) hsz14 ?_; intro v8 w8 hown8 hg8 _; have Hb8 : Hid (Below w.heap.size w14 w8) := Lib.hid (own_below HOw14.out hg8 (Below.refl _ _) hsz14); have Ho8 := Lib.hid hown8; have Hg8 := Lib.hid hg8; clear hown8 hg8)
                        obtain ⟨A8, c8, rfl, _⟩ := own_slat Ho8.out
                        have hlen8 : (l ++ List.replicate t v).length = Lt := by rw [List.length_append, List.length_replicate, ← HLl.out, hLt]
                        have hmap8 : (l ++ List.replicate t v).map natV = l.map natV ++ X := by rw [List.map_append, List.map_replicate, HX.out]; rfl
                        have hkmb : (Value.slice Al L cl).ownBlock ≠ some gm := fun h => by
                          obtain ⟨M, k0, hm, _⟩ := HKm14.out
                          obtain ⟨_, h2⟩ := HOw14.out
                          rcases h2 with ⟨e, _⟩ | ⟨g, cap, cur, e, hbg, hg, _⟩
                          · rw [e] at h; cases h
                          · rw [e] at h
                            injection h with h
                            subst h
                            rw [hm] at hg
                            cases hg
                        go_roundw
                        case rel => exact ⟨f, l ++ List.replicate t v, s4', by rw [hlen8]; omega, by rw [hlen8]; omega, HF.out, by rw [hlen8, hmap8, hLt]; exact Ho8.out, hps4, HU14.out.low Hb8.out hpB HVo.out HVk.out, HKm14.out.grown Hg8.out hkmb, HK14.out.below Hb8.out hbw⟩
                        case measure => show N + 200 - (L + t) < N + 200 - L; omega
                · have HF2 := Lib.hid (show F = (l, sl) by rw [HF.out]; exact ulens_end (by rw [← HLl.out]; exact hgo) f)
                  rw [HF2.out] at HT
                  clear HF HF2
                  by_cases he : sl.e = 0
                  · have hLN : N ≤ L := by
                      rcases Nat.lt_or_ge L N with h | h
                      · exact absurd ⟨h, he⟩ hgo
                      · exact h
                    have hlt2 : ¬ (L : Int) < (m : Int) + (n : Int) := by omega
                    have hlt3 : ¬ (L : Int) < (N : Int) := by omega
                    obtain ⟨bl, ol, rfl, hc256⟩ := hsl.get (k := 256) (by rw [List.length_map, ← HLl.out]; omega)
                    rw [List.getElem_map] at hc256
                    have hgd : l.getD 256 0 = l[256]'(by rw [← HLl.out]; omega) := by rw [List.getD_eq_getElem?_getD, List.getElem?_eq_getElem (by rw [← HLl.out]; omega)]; rfl
                    have hc256' : wr.cell? ⟨bl, ol + 256, none⟩ = some (.int .i64 ((l.getD 256 0 : Nat) : Int)) := by rw [hgd]; exact hc256
                    have htk : (l.take m).length = m := by rw [List.length_take, ← HLl.out]; omega
                    have hdk : (l.drop m).length = L - m := by rw [List.length_drop, ← HLl.out]
                    have hs1 : SlAt wr (some ⟨bl, ol, none⟩) ((l.take m).map natV) := by rw [List.map_take]; exact hsl.take m
                    have hs2 : SlAt wr (some ⟨bl, ol + m, none⟩) ((l.drop m).map natV) := by rw [List.map_drop]; exact hsl.drop m
                    have HC1 := Lib.hid (Cds.lengths_any (some ⟨bl, ol, none⟩) m cl (zsOf (l.take m)) wr (by rw [zs_len, htk]) (by unfold maxLen; omega) (inat_zs hs1))
                    have HC2 := Lib.hid (Cds.lengths_any (some ⟨bl, ol + m, none⟩) (L - m) (cl - m) (zsOf (l.drop m)) wr (by rw [zs_len, hdk]) (by unfold maxLen; omega) (inat_zs hs2))
                    have HS1 := Lib.hid hs1
                    have HS2 := Lib.hid hs2
                    have Htk := Lib.hid htk
                    have Hdk := Lib.hid hdk
                    replace HT := Lib.hid (show T = if l.getD 256 0 = 0 ∨ chkL (zsOf (l.take m)) ≠ 0 ∨ chkL (zsOf (l.drop m)) ≠ 0 then (([], []), uwrong sl 8) else ((l.take m, l.drop m), sl) by
                      rw [HT.out]; unfold tolL; rw [if_neg (fun h => h he)])
                    have HW := Lib.hid (wrong_u base p 8 row sl wr HU.out)
                    have he8 : (uwrong sl 8).e = 8 := by rw [wrong_yes he]
                    have He8 := Lib.hid he8
                    have HK9 := Lib.hid (HK.out.toKeeps)
                    have HE := Lib.hid he
                    have h256 : (256 : Int) < (L : Int) := by omega
                    have hmL : (m : Int) ≤ (L : Int) := by omega
                    have hmc : (m : Int) ≤ (cl : Int) := by omega
                    have hLc : (L : Int) ≤ (cl : Int) := by omega
                    have hmcn : ¬ (cl = m) := by omega
                    have hm0 : (0 : Int) ≤ (m : Int) := by omega
                    rw [he] at hc4
                    generalize l.getD 256 0 = v at *
                    generalize chkL (zsOf (l.take m)) = z1 at *
                    generalize chkL (zsOf (l.drop m)) = z2 at *
                    generalize l.take m = la at *
                    generalize l.drop m = lb at *
                    clear hgo hc256 hgd hs1 hs2 htk hdk hsl he he8 hps HOw HKm
                    by_cases hv : v = 0
                    · replace HT := Lib.hid (show T = (([], []), uwrong sl 8) by rw [HT.out, if_pos (.inl hv)])
                      have hvb : ((v : Int) == 0) = true := by rw [hv]; rfl
                      clear hv
                      go_wp2_with fail
                      refine (HW.out).mono ?_
                      rintro e w30 ⟨rfl, hu30, hk30⟩
                      have HU30 := Lib.hid hu30
                      have HK30 := Lib.hid (HK9.out.trans hk30)
                      clear hu30 hk30 HW
                      go_wp2_with fail
                      go_ret2
                      exact ⟨⟨_, _, _, _, _, _, rfl, fun h => by rw [HT.out] at h; exact absurd (He8.out.symm.trans h) (by decide)⟩, by rw [HT.out]; exact HU30.out, HK30.out⟩
                    · have hvb : ((v : Int) == 0) = false := by rw [beq_eq_false_iff_ne]; omega
                      by_cases h1 : z1 = 0
                      · subst h1
                        by_cases h2 : z2 = 0
                        · subst h2
                          replace HT := Lib.hid (show T = ((la, lb), sl) by rw [HT.out, if_neg (by intro h; rcases h with h | h | h <;> first | exact hv h | exact h rfl)])
                          clear hv
                          go_wp2_with fail
                          refine (HC1.out).mono ?_
                          rintro e w20 ⟨rfl, hw20⟩
                          subst hw20
                          go_wp2_with fail
                          refine (HC2.out).mono ?_
                          rintro e w21 ⟨rfl, hw21⟩
                          subst hw21
                          go_wp2_with fail
                          go_quiet (fail)
                          go_wp2_with fail
                          go_ret2
                          exact ⟨⟨_, _, _, _, _, _, rfl, fun _ => by rw [HT.out]; exact ⟨Htk.out.symm, Hdk.out.symm, HS1.out, HS2.out⟩⟩, by rw [HT.out]; exact HU.out.drewN _, HK9.out.drewN _⟩
                        · replace HT := Lib.hid (show T = (([], []), uwrong sl 8) by rw [HT.out, if_pos (.inr (.inr h2))])
                          have hb2 : (z2 == 0) = false := by rw [beq_eq_false_iff_ne]; exact h2
                          have hn2 : (z2 != 0) = true := by rw [bne, hb2]; rfl
                          clear hv h2
                          go_wp2_with fail
                          refine (HC1.out).mono ?_
                          rintro e w20 ⟨rfl, hw20⟩
                          subst hw20
                          go_wp2_with fail
                          refine (HC2.out).mono ?_
                          rintro e w21 ⟨rfl, hw21⟩
                          subst hw21
                          go_wp2_with fail
                          refine (HW.out).mono ?_
                          rintro e w30 ⟨rfl, hu30, hk30⟩
                          have HU30 := Lib.hid hu30
                          have HK30 := Lib.hid (HK9.out.trans hk30)
                          clear hu30 hk30 HW
                          go_wp2_with fail
                          go_ret2
                          exact ⟨⟨_, _, _, _, _, _, rfl, fun h => by rw [HT.out] at h; exact absurd (He8.out.symm.trans h) (by decide)⟩, by rw [HT.out]; exact HU30.out, HK30.out⟩
                      · replace HT := Lib.hid (show T = (([], []), uwrong sl 8) by rw [HT.out, if_pos (.inr (.inl h1))])
                        have hb1 : (z1 == 0) = false := by rw [beq_eq_false_iff_ne]; exact h1
                        have hn1 : (z1 != 0) = true := by rw [bne, hb1]; rfl
                        clear hv h1
                        go_wp2_with fail
                        refine (HC1.out).mono ?_
                        rintro e w20 ⟨rfl, hw20⟩
                        subst hw20
                        go_wp2_with fail
                        refine (HW.out).mono ?_
                        rintro e w30 ⟨rfl, hu30, hk30⟩
                        have HU30 := Lib.hid hu30
                        have HK30 := Lib.hid (HK9.out.trans hk30)
                        clear hu30 hk30 HW
                        go_wp2_with fail
                        go_ret2
                        exact ⟨⟨_, _, _, _, _, _, rfl, fun h => by rw [HT.out] at h; exact absurd (He8.out.symm.trans h) (by decide)⟩, by rw [HT.out]; exact HU30.out, HK30.out⟩
                  · have heb : (sl.e == 0) = false := by rw [beq_eq_false_iff_ne]; exact he
                    have hen : (sl.e != 0) = true := by rw [bne, heb]; rfl
                    replace HT := Lib.hid (show T = (([], []), sl) by rw [HT.out]; unfold tolL; rw [if_pos he])
                    have HK9 := Lib.hid (HK.out.toKeeps)
                    have Hne := Lib.hid he
                    generalize hze : sl.e = ze at *
                    by_cases hlt : L < N
                    · have hlt2 : (L : Int) < (m : Int) + (n : Int) := by omega
                      have hlt3 : (L : Int) < (N : Int) := by omega
                      clear he hgo
                      go_wp2_with fail
                      go_ret2
                      exact ⟨⟨_, _, _, _, _, _, rfl, fun h => by rw [HT.out] at h; exact absurd (hze.symm.trans h) Hne.out⟩, by rw [HT.out]; exact HU.out, HK9.out⟩
                    · have hlt2 : ¬ (L : Int) < (m : Int) + (n : Int) := by omega
                      have hlt3 : ¬ (L : Int) < (N : Int) := by omega
                      clear he hgo
                      go_wp2_with fail
                      go_ret2
                      exact ⟨⟨_, _, _, _, _, ⟨_, rfl⟩, fun h => by rw [HT.out] at h; exact absurd (hze.symm.trans h) Hne.out⟩, by rw [HT.out]; exact HU.out, HK9.out⟩
            · have hcb : (chkL (zsOf sm) == 0) = false := by rw [beq_eq_false_iff_ne]; exact hch
              have hcn : (chkL (zsOf sm) != 0) = true := by rw [bne, hcb]; rfl
              replace HT := Lib.hid (show T = (([], []), uwrong sz 8) by rw [HT.out]; exact tolZ_bad he hch)
              have HW := Lib.hid (wrong_u base p 8 row sz wr HU.out)
              have he8 : (uwrong sz 8).e = 8 := by rw [wrong_yes he]
              generalize chkL (zsOf sm) = zc at *
              rw [he] at hc4
              go_wp2_with fail
              refine (HC.out).mono ?_
              rintro e w8 ⟨rfl, rfl⟩
              clear HC
              go_wp2_with fail
              refine (HW.out).mono ?_
              rintro e w10 ⟨rfl, hu10, hk10⟩
              have HU10 := Lib.hid hu10
              have HK10 := Lib.hid (HK.out.keeps hk10).toKeeps
              have hd4 := (u_cells hu10.2.1).2.2.2.2
              rw [he8] at hd4
              clear hu10 hk10 hc4 HW HK HU HZ HSl
              go_wp2_with fail
              go_ret2
              exact ⟨⟨_, _, _, _, _, _, rfl, fun h => by rw [HT.out] at h; exact absurd (he8.symm.trans h) (by decide)⟩, by rw [HT.out]; exact HU10.out, HK10.out⟩
          · have heb : (sz.e == 0) = false := by rw [beq_eq_false_iff_ne]; exact he
            have hen : (sz.e != 0) = true := by rw [bne, heb]; rfl
            replace HT := Lib.hid (show T = (([], []), sz) by rw [HT.out]; unfold tolZ; rw [if_stuck he, if_pos he])
            have HK9 := Lib.hid (HK.out.toKeeps)
            have Hne := Lib.hid he
            generalize hze : sz.e = ze at *
            clear HC HSl he
            go_wp2_with fail
            go_ret2
            exact ⟨⟨_, _, _, _, _, _, rfl, fun h => by rw [HT.out] at h; exact absurd (hze.symm.trans h) Hne.out⟩, by rw [HT.out]; exact HU.out, HK9.out⟩
end Go.Proofs.Ythpdcnjaodjjmaa.Unp

/- reliquaryref: the unpacker: how far, how great; told's lengths are fine. No walk in sight. -/
namespace Go.Proofs.Ythpdcnjaodjjmaa.Unp
open Go Go.RowKit Go.Proofs.Ythpdcnjaodjjmaa Go.Proofs.Ythpdcnjaodjjmaa.Bits Go.Proofs.Ythpdcnjaodjjmaa.Code
open Go.Proofs.Ythpdcnjaodjjmaa.Inf hiding then_ok tyI
set_option linter.unusedVariables false

theorem sizes_same (row : List Bool) : ∀ (ks sm : List Nat) (s : St), (usizes row ks sm s).2.out = s.out ∧ (usizes row ks sm s).2.ks = s.ks
  | [], sm, s => ⟨rfl, rfl⟩
  | k :: ks, sm, s => by
    have h1 := sizes_same row ks (sm.set k (uget row s 3).1) (uget row s 3).2
    have h2 := get_out row s 3
    exact ⟨h1.1.trans h2.1, h1.2.trans h2.2⟩
theorem times_same (row : List Bool) (l : List Nat) (k : Nat) (s : St) : (utimes row l k s).2.2.out = s.out ∧ (utimes row l k s).2.2.ks = s.ks := by
  unfold utimes
  split
  · exact (wrong_same s 8).2
  · split
    · exact get_out row s 2
    · split
      · exact get_out row s 3
      · split
        · exact get_out row s 7
        · exact ⟨rfl, rfl⟩
theorem lens_same (row : List Bool) (ls : List Nat) (n : Nat) : ∀ (f : Nat) (l : List Nat) (s : St), (ulens row ls n f l s).2.out = s.out ∧ (ulens row ls n f l s).2.ks = s.ks
  | 0, l, s => ⟨rfl, rfl⟩
  | f + 1, l, s => by
    unfold ulens
    split
    · have h1 := lens_same row ls n f (l ++ List.replicate (utimes row l (uplace row ls s).1 (uplace row ls s).2).2.1 (utimes row l (uplace row ls s).1 (uplace row ls s).2).1) (uif (n < l.length + (utimes row l (uplace row ls s).1 (uplace row ls s).2).2.1) (utimes row l (uplace row ls s).1 (uplace row ls s).2).2.2 8)
      have h2 := if_same (n < l.length + (utimes row l (uplace row ls s).1 (uplace row ls s).2).2.1) (utimes row l (uplace row ls s).1 (uplace row ls s).2).2.2 8
      have h3 := times_same row l (uplace row ls s).1 (uplace row ls s).2
      have h4 := place_out row ls s
      exact ⟨((h1.1.trans h2.2.1).trans h3.1).trans h4.1, ((h1.2.trans h2.2.2).trans h3.2).trans h4.2⟩
    · exact ⟨rfl, rfl⟩
theorem lens_pos (row : List Bool) (ls : List Nat) (n : Nat) : ∀ (f : Nat) (l : List Nat) (s : St), s.pos ≤ row.length → (ulens row ls n f l s).2.pos ≤ row.length
  | 0, l, s, h => h
  | f + 1, l, s, h => by
    unfold ulens
    split
    · refine lens_pos row ls n f _ _ ?_
      rw [(if_same _ _ 8).1]
      exact times_posR (place_pos h)
    · exact h
theorem tolL_facts (m : Nat) (l : List Nat × St) : (tolL m l).2.pos = l.2.pos ∧ (tolL m l).2.out = l.2.out ∧ (tolL m l).2.ks = l.2.ks ∧ ((tolL m l).2.e = 0 → chkL (zsOf (tolL m l).1.1) = 0 ∧ chkL (zsOf (tolL m l).1.2) = 0) := by
  unfold tolL
  by_cases h : l.2.e ≠ 0
  · rw [if_pos h]; exact ⟨rfl, rfl, rfl, fun he => absurd he h⟩
  · rw [if_neg h]
    have he : l.2.e = 0 := by simpa using h
    by_cases h2 : l.1.getD 256 0 = 0 ∨ chkL (zsOf (l.1.take m)) ≠ 0 ∨ chkL (zsOf (l.1.drop m)) ≠ 0
    · rw [if_pos h2]
      have hw := wrong_same l.2 8
      refine ⟨hw.1, hw.2.1, hw.2.2, fun h3 => ?_⟩
      have h4 : (uwrong l.2 8).e = 0 := h3
      rw [wrong_yes he] at h4
      exact absurd h4 (by show ¬ (8 : Int) = 0; decide)
    · rw [if_neg h2]
      refine ⟨rfl, rfl, rfl, fun _ => ⟨?_, ?_⟩⟩
      · exact Decidable.byContradiction fun h3 => h2 (.inr (.inl h3))
      · exact Decidable.byContradiction fun h3 => h2 (.inr (.inr h3))
theorem tolZ_facts (row : List Bool) (m n : Nat) (sm : List Nat) (s6 : St) (hp : s6.pos ≤ row.length) : (tolZ row m n sm s6).2.pos ≤ row.length ∧ (tolZ row m n sm s6).2.out = s6.out ∧ (tolZ row m n sm s6).2.ks = s6.ks ∧ ((tolZ row m n sm s6).2.e = 0 → chkL (zsOf (tolZ row m n sm s6).1.1) = 0 ∧ chkL (zsOf (tolZ row m n sm s6).1.2) = 0) := by
  unfold tolZ
  by_cases h : s6.e ≠ 0
  · rw [if_pos h]; exact ⟨hp, rfl, rfl, fun he => absurd he h⟩
  · rw [if_neg h]
    have h1 := tolL_facts m (ulens row sm (m + n) (m + n) [] s6)
    have h2 := lens_same row sm (m + n) (m + n) [] s6
    have h3 := lens_pos row sm (m + n) (m + n) [] s6 hp
    exact ⟨by rw [h1.1]; exact h3, h1.2.1.trans h2.1, h1.2.2.1.trans h2.2, h1.2.2.2⟩
theorem s4of_same (m n : Nat) (s : St) : (s4of m n s).pos = s.pos ∧ (s4of m n s).out = s.out ∧ (s4of m n s).ks = s.ks := by
  unfold s4of
  split
  · exact wrong_same s 8
  · exact ⟨rfl, rfl, rfl⟩
theorem told_facts (row : List Bool) (s : St) (hp : s.pos ≤ row.length) : (utold row s).2.pos ≤ row.length ∧ (utold row s).2.out = s.out ∧ (utold row s).2.ks = s.ks ∧ ((utold row s).2.e = 0 → chkL (zsOf (utold row s).1.1) = 0 ∧ chkL (zsOf (utold row s).1.2) = 0) := by
  rw [told_eq]
  have q1 := get_pos (n := 5) hp
  have o1 := get_out row s 5
  generalize uget row s 5 = a at *
  have q2 := get_pos (n := 5) q1
  have o2 := get_out row a.2 5
  generalize uget row a.2 5 = b at *
  have q3 := get_pos (n := 4) q2
  have o3 := get_out row b.2 4
  generalize uget row b.2 4 = c at *
  have h4 := s4of_same (a.1 + 257) (b.1 + 1) c.2
  generalize s4of (a.1 + 257) (b.1 + 1) c.2 = s4 at *
  have q4 : s4.pos ≤ row.length := by rw [h4.1]; exact q3
  have q5 := sizes_pos row (orderL.take (c.1 + 4)) (List.replicate 19 0) s4 q4
  have o5 := sizes_same row (orderL.take (c.1 + 4)) (List.replicate 19 0) s4
  generalize usizes row (orderL.take (c.1 + 4)) (List.replicate 19 0) s4 = z at *
  have h6 := if_same (chkL (zsOf z.1) ≠ 0) z.2 8
  have hZ := tolZ_facts row (a.1 + 257) (b.1 + 1) z.1 (uif (chkL (zsOf z.1) ≠ 0) z.2 8) (by rw [h6.1]; exact q5)
  refine ⟨hZ.1, ?_, ?_, hZ.2.2.2⟩
  · exact (((((hZ.2.1.trans h6.2.1).trans o5.1).trans h4.2.1).trans o3.1).trans o2.1).trans o1.1
  · exact (((((hZ.2.2.1.trans h6.2.2).trans o5.2).trans h4.2.2).trans o3.2).trans o2.2).trans o1.2
theorem fix_chk : chkL (zsOf fixedA) = 0 ∧ chkL (zsOf fixedB) = 0 := by decide +kernel
/-- a place that is found is behind a bit at the least -/
theorem nxt_adv (ls : List Nat) (row : List Bool) : ∀ k n : Nat, (nxt ls row k n).2.2 = 0 → n ≤ (nxt ls row k n).2.1
  | 0, n, h => by unfold nxt at h; simp at h
  | k + 1, n, h => by
    unfold nxt at h ⊢
    split at h
    · simp at h
    · split at h
      · rename_i h1 _ _ _
        rw [if_neg h1]; exact Nat.le_refl _
      · rename_i h1 _ _
        rw [if_neg h1]
        have := nxt_adv ls row k (n + 1) h
        omega
theorem place_adv (row : List Bool) (ls : List Nat) (s : St) (he : s.e = 0) (h : (uplace row ls s).2.e = 0) : s.pos + 1 ≤ (uplace row ls s).2.pos := by
  unfold uplace at h ⊢
  rw [if_pos he] at h ⊢
  unfold symR at h ⊢
  by_cases hn : (next ls (row.drop s.pos)).2.2 = 0
  · rw [if_pos hn]
    have := nxt_adv ls (row.drop s.pos) 15 1 hn
    show s.pos + 1 ≤ s.pos + (next ls (row.drop s.pos)).2.1
    have e : next ls (row.drop s.pos) = nxt ls (row.drop s.pos) 15 1 := rfl
    rw [e]; omega
  · rw [if_neg hn] at h
    exact absurd h hn
theorem get_adv (row : List Bool) (s : St) (n : Nat) : s.pos ≤ (uget row s n).2.pos := by
  unfold uget
  split
  · unfold getR
    split
    · rename_i heq; split at heq
      · injection heq with heq; subst heq; exact Nat.le_add_right _ _
      · cases heq
    · exact Nat.le_refl _
  · exact Nat.le_refl _
end Go.Proofs.Ythpdcnjaodjjmaa.Unp
