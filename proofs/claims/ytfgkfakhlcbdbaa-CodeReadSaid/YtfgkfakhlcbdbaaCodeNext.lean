/- package code: Table.Read. -/
import Derived.Test.YtfgkfakhlcbdbaaCodeTable
namespace Go.Proofs.Ytfgkfakhlcbdbaa.Code
open Go Go.RowKit Go.Proofs.Ytfgkfakhlcbdbaa Go.Proofs.Ytfgkfakhlcbdbaa.Bits
set_option linter.unusedVariables false

theorem val_next (row : List Bool) (t : Nat) (h : t < row.length) : val (row.take (t + 1)) = 2 * val (row.take t) + num ((row.drop t).take 1) := by
  rw [take_snoc _ _ h, val_snoc, List.drop_eq_getElem_cons h]
  show 2 * _ + _ = 2 * _ + num [row[t]]
  simp [num]
theorem one_bit (l : List Bool) : num (l.take 1) ≤ 1 := by
  have := num_lt (l.take 1)
  have h2 : (l.take 1).length ≤ 1 := by rw [List.length_take]; omega
  have h3 : 2 ^ (l.take 1).length ≤ 2 ^ 1 := Nat.pow_le_pow_right (by omega) h2
  omega
theorem or_next (v b : Nat) (hv : v ≤ 1000000) (hb : b ≤ 1) : Go.bits .or .i64 (2 * (v : Int)) (b : Int) = ((2 * v + b : Nat) : Int) := by
  have := or64 (2 * v) b 1 (by omega) (by omega) (by omega)
  rwa [Int.natCast_mul] at this
theorem SlAt.keepsB {w w' : World} {A : Option Addr} {cs : List Value} {q : Nat} {T : List TypeId} (h : SlAt w A cs) (hk : Keeps q T w w') (hlt : ∀ b o, A = some ⟨b, o, none⟩ → 0 < cs.length → b < q) : SlAt w' A cs := fun hp => by
  obtain ⟨b, o, e, hc⟩ := h hp
  refine ⟨b, o, e, fun j v hj => ?_⟩
  rw [World.cell?_of_block (hk.block b (hlt b o e hp))]
  exact hc j v hj
/-- what Read of a table hands back -/
def NextPost (q : Nat) (A : Option Addr) (n c pos : Nat) (xs : List UInt8) (ls : List Nat) (w : World) (e : Ending) (w' : World) : Prop :=
  (∃ k m x, next ls ((bitsL xs).drop pos) = (k, m, x) ∧ e = .returned (.tuple #[.int .i64 (k : Int), .int .i64 x]) ∧ (x = 0 → SrcAt w' q A n c (pos + m) ∧ pos + m ≤ 8 * n)) ∧ Keeps q srcT w w'
theorem TabAt.keeps {w w' : World} {base p q : Nat} {ls : List Nat} (h : TabAt w base p ls) (hk : Keeps q srcT w w') : TabAt w' base p ls := by
  obtain ⟨h1, v, h2, h3⟩ := h
  exact ⟨h1, v, hk.blk h2 (by simp [srcT]), hk.own h3 (by simp [srcT])⟩
theorem TabAt.cnt {w : World} {base p : Nat} {ls : List Nat} (h : TabAt w base p ls) (s : Nat) (hs : s < 16) : w.cell? ⟨p, s, none⟩ = some (.int .i64 (cnt ls s : Int)) := by
  obtain ⟨h1, v, h2, h3⟩ := h
  rw [h2.cell, tab_get _ _ _ (by rw [cntL_length]; exact hs), cntL_get _ _ hs]
theorem TabAt.ord {w : World} {base p : Nat} {ls : List Nat} (h : TabAt w base p ls) : ∃ A cap, w.cell? ⟨p, 16, none⟩ = some (.slice A (ordUp ls 15).length cap) ∧ SlAt w A ((ordUp ls 15).map natV) := by
  obtain ⟨h1, v, h2, h3⟩ := h
  obtain ⟨A, cap, rfl, _, _, h4, _⟩ := own_slat h3
  exact ⟨A, cap, by rw [h2.cell, ← cntL_length ls, tab_last], h4⟩
set_option maxRecDepth 100000 in
set_option maxHeartbeats 1600000 in
theorem tread_any (base p q : Nat) (A : Option Addr) (n c pos : Nat) (xs : List UInt8) (ls : List Nat) (w : World) (hT : TabAt w base p ls) (hS : SrcAt w q A n c pos) (hn : xs.length = n) (hA : ByAt w A xs) (hp : pos ≤ 8 * n) (hnn : n ≤ 1099511627776)
    (hbx : ∀ b o, A = some ⟨b, o, none⟩ → 0 < n → b < q) (hl : ∀ x ∈ ls, x ≤ 15) (hr : room ls ≤ 32768) (hlen : ls.length ≤ 288) :
    Calls Try.prog 40 #[.pointer (some ⟨p, 0, none⟩), .pointer (some ⟨q, 0, none⟩)] w (NextPost q A n c pos xs ls w) := by
  have HT := Lib.hid hT
  have HS := Lib.hid hS
  have Hn := Lib.hid hn
  have HA := Lib.hid hA
  have Hbx := Lib.hid hbx
  have Hacc : Hid (∀ s, s ≤ 15 → first ls s + cnt ls s ≤ 32768) := Lib.hid (fun s hs => by
    have h1 := acc_le ls s hs hl hr
    have h2 : (2 : Nat) ^ s ≤ 2 ^ 15 := Nat.pow_le_pow_right (by omega) hs
    omega)
  have Hlen := Lib.hid hlen
  clear hT hS hn hA hbx hl hr
  go_enter Try.func40, Try.ntmps40
  go_wp2_with fail
  go_loopw [6, 7, 8, 9] (fun cd ft at_ sz wr => ∃ t : Nat, t ≤ 15 ∧ sz = .int .i64 ((t : Int) + 1) ∧ cd = .int .i64 ((2 * val (((bitsL xs).drop pos).take t) : Nat) : Int) ∧ ft = .int .i64 ((first ls (t + 1) : Nat) : Int) ∧ at_ = .int .i64 ((ordUp ls t).length : Int) ∧
    first ls (t + 1) ≤ 2 * val (((bitsL xs).drop pos).take t) ∧ pos + t ≤ 8 * n ∧ next ls ((bitsL xs).drop pos) = nxt ls ((bitsL xs).drop pos) (15 - t) (t + 1) ∧ SrcAt wr q A n c (pos + t) ∧ TabAt wr base p ls ∧ ByAt wr A xs ∧ Keeps q srcT w wr) (fun _ _ _ sz _ => 17 - (intOf sz).toNat)
  case atStart => exact ⟨0, Nat.zero_le _, rfl, rfl, rfl, rfl, by simp [first, cnt, val_nil], hp, rfl, HS.out, HT.out, HA.out, Keeps.refl _ _ _⟩
  case round =>
    obtain ⟨t, ht, rfl, rfl, rfl, rfl, hfi, hpt, hnx, hsrc, htab, hby, hk⟩ := hrel
    have Hnx := Lib.hid hnx
    have Htab := Lib.hid htab
    have Hk := Lib.hid hk
    have hrl : ((bitsL xs).drop pos).length = 8 * n - pos := by rw [List.length_drop, bitsL_length, Hn.out]
    have Hrl := Lib.hid hrl
    by_cases hlt : t < 15
    · have Hget := Lib.hid (get_any q A n c (pos + t) 1 xs wr hsrc Hn.out hby (by omega) hpt hnn (fun b o e h => Nat.ne_of_lt (Hbx.out b o e h)))
      have Hbyr := Lib.hid hby
      clear hsrc htab hby hk hnx hrl
      go_wp2_with fail
      refine (Hget.out).mono ?_
      rintro e w1 ⟨hg, hk1⟩
      have Hk1 := Lib.hid (Hk.out.trans hk1)
      have Htab1 := Lib.hid (Htab.out.keeps hk1)
      have Hby : Hid (ByAt w1 A xs) := Lib.hid (SlAt.keepsB Hbyr.out hk1 (fun b o e h => Hbx.out b o e (by rw [List.length_map, Hn.out] at h; exact h)))
      clear Hbyr
      clear hk1
      rcases hg with ⟨hfit, rfl, hs3⟩ | ⟨hno, rfl, q3, hs3⟩
      · have Hs3 := Lib.hid hs3
        clear hs3
        have htl : t < ((bitsL xs).drop pos).length := by rw [Hrl.out]; omega
        have Hval := Lib.hid (val_next _ t htl)
        rw [List.drop_drop] at Hval
        have hb1 := one_bit ((bitsL xs).drop (pos + t))
        have hvl := val_lt (((bitsL xs).drop pos).take t)
        have hv2 : val (((bitsL xs).drop pos).take t) ≤ 32768 := by
          have h1 : (((bitsL xs).drop pos).take t).length ≤ 15 := by rw [List.length_take]; omega
          have h2 : (2 : Nat) ^ (((bitsL xs).drop pos).take t).length ≤ 2 ^ 15 := Nat.pow_le_pow_right (by omega) h1
          omega
        generalize num (((bitsL xs).drop (pos + t)).take 1) = b at *
        generalize val (((bitsL xs).drop pos).take t) = v at *
        have hor := or_next v b (by omega) hb1
        have hcn := Htab1.out.cnt (t + 1) (by omega)
        have ha1 := Hacc.out (t + 1) (by omega)
        have hup : (ordUp ls t).length ≤ 5000 := by
          have h1 := ordUp_le ls t
          have h2 := Nat.mul_le_mul ht Hlen.out
          omega
        have Hff : Hid (first ls (t + 1 + 1) = 2 * (first ls (t + 1) + cnt ls (t + 1))) := Lib.hid rfl
        have Hupn : Hid ((ordUp ls (t + 1)).length = (ordUp ls t).length + cnt ls (t + 1)) := Lib.hid (by rw [ordUp_succ, List.length_append]; simp [cnt])
        clear hvl
        by_cases hit : 2 * v + b < first ls (t + 1) + cnt ls (t + 1)
        · obtain ⟨i, hi1, hi2⟩ := findC_some ls (t + 1) (val (((bitsL xs).drop pos).take (t + 1))) (by rw [Hval.out]; omega)
          have Hhit := Lib.hid (nxt_hit ls ((bitsL xs).drop pos) (14 - t) (t + 1) i (by omega) hi1)
          have Hpl := Lib.hid (ordUp_get ls t _ i hlt hi1)
          rw [Hval.out] at Hpl
          obtain ⟨B, cap, hB1, hB2⟩ := Htab1.out.ord
          have Hnn := Hnx.out
          rw [show 15 - t = 14 - t + 1 by omega, Hhit.out] at Hnn
          have hlk := (List.getElem?_eq_some_iff.1 Hpl.out).1
          obtain ⟨b2, o2, hBe, hBc⟩ := SlAt.get hB2 (k := (ordUp ls t).length + (2 * v + b - first ls (t + 1))) (by simpa using hlk)
          subst hBe
          have hcell : w1.cell? ⟨b2, o2 + ((ordUp ls t).length + (2 * v + b - first ls (t + 1))), none⟩ = some (.int .i64 (i : Int)) := by
            rw [hBc]
            have h1 := Hpl.out
            rw [List.getElem?_eq_getElem hlk] at h1
            injection h1 with h1
            simp [natV, h1]
          have Hdone := Lib.hid Hnn
          clear hBc hB2 hi1 hi2 Hnn Hhit Hpl Hval Hupn Hff
          generalize hix : (ordUp ls t).length + (2 * v + b - first ls (t + 1)) = ix at *
          have hixI : (((ordUp ls t).length : Nat) : Int) + ((2 * v + b : Nat) : Int) - ((first ls (t + 1) : Nat) : Int) = (ix : Int) := by omega
          generalize (ordUp ls 15).length = m15 at *
          generalize (ordUp ls t).length = ut at *
          generalize first ls (t + 1) = ff at *
          generalize cnt ls (t + 1) = cc at *
          generalize hvb : 2 * v + b = vb at *
          have hlt1 : ((vb : Nat) : Int) - (ff : Int) < (cc : Int) := by omega
          go_wp2_with fail
          go_ret2
          refine ⟨⟨i, t + 1, 0, Hdone.out, rfl, fun _ => ⟨?_, by omega⟩⟩, Hk1.out⟩
          rw [← Nat.add_assoc]; exact Hs3.out
        · have hno : ¬ (first ls (t + 1) ≤ val (((bitsL xs).drop pos).take (t + 1)) ∧ val (((bitsL xs).drop pos).take (t + 1)) < first ls (t + 1) + cnt ls (t + 1)) := by rw [Hval.out]; omega
          have Hmiss := Lib.hid (nxt_miss ls ((bitsL xs).drop pos) (14 - t) (t + 1) (by omega) (findC_none ls _ _ hno))
          have Hnn := Hnx.out
          rw [show 15 - t = 14 - t + 1 by omega, Hmiss.out] at Hnn
          have Hnx2 := Lib.hid Hnn
          clear hno Hmiss Hnn Hnx
          generalize hut : (ordUp ls t).length = ut at *
          generalize hff : first ls (t + 1) = ff at *
          generalize hcc : cnt ls (t + 1) = cc at *
          generalize hvb : 2 * v + b = vb at *
          have Hcc := Lib.hid hcc
          clear hcc hut hff
          have hlt1 : ¬ (((vb : Nat) : Int) - (ff : Int) < (cc : Int)) := by omega
          go_wp2_with fail
          go_roundw
          case rel =>
            refine ⟨t + 1, by omega, by go_num, int_eq (by rw [Hval.out]; omega), int_eq (by rw [Hff.out]; omega), int_eq (by rw [Hupn.out]; omega), by rw [Hval.out, Hff.out]; omega, by omega, ?_, ?_, Htab1.out, Hby.out, Hk1.out⟩
            · rw [Hnx2.out, show 15 - (t + 1) = 14 - t by omega]
            · rw [← Nat.add_assoc]; exact Hs3.out
          case measure => simp [intOf]; omega
      · have Ht := Lib.hid (nxt_torn ls ((bitsL xs).drop pos) (14 - t) (t + 1) (by rw [Hrl.out]; omega))
        have Hnn := Hnx.out
        rw [show 15 - t = 14 - t + 1 by omega, Ht.out] at Hnn
        have Hdone := Lib.hid Hnn
        clear Hnn Ht hs3
        go_wp2_with fail
        go_ret2
        exact ⟨⟨0, 0, 7, Hdone.out, rfl, fun h => by omega⟩, Hk1.out⟩
    · obtain rfl : t = 15 := by omega
      clear hsrc htab hby hk hnx hrl
      go_wp2_with fail
      go_ret2
      exact ⟨⟨0, 0, 8, by rw [Hnx.out]; rfl, rfl, fun h => by omega⟩, Hk.out⟩
end Go.Proofs.Ytfgkfakhlcbdbaa.Code
