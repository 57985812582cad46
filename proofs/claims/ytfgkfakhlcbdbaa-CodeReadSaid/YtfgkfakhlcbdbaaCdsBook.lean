/- package reliquaryref: Codebook, Next. -/
import Derived.Test.YtfgkfakhlcbdbaaCdsCodes
import Derived.Test.YtfgkfakhlcbdbaaKMap
namespace Go.Proofs.Ytfgkfakhlcbdbaa.Cds
open Go Go.RowKit Go.Proofs.Ytfgkfakhlcbdbaa Go.Proofs.Ytfgkfakhlcbdbaa.Bits Go.Proofs.Ytfgkfakhlcbdbaa.Code Go.MapKept
set_option linter.unusedVariables false
set_option linter.unusedSimpArgs false

theorem row_inj (a b : List Bool) (h : rowV a = rowV b) : a = b := by
  unfold rowV at h
  injection h with h
  have h2 : rowS a = rowS b := by
    have := congrArg (fun s : ByteArray => s.data.toList) h
    simpa [strB] using this
  unfold rowS at h2
  have hinj : ∀ x y : Bool, ch x = ch y → x = y := by decide
  clear h
  induction a generalizing b with
  | nil => cases b with
    | nil => rfl
    | cons c b => simp at h2
  | cons c a ih => cases b with
    | nil => simp at h2
    | cons d b =>
      simp only [List.map_cons, List.cons.injEq] at h2
      rw [hinj _ _ h2.1, ih b h2.2]
theorem keyF_row : KeyF .string rowV := ⟨fun a => trivial, row_inj⟩
theorem hi_val (s : List Bool) : hi s.length (val s) = s := by
  unfold hi val
  have : numBits (num s.reverse) s.length = s.reverse := by
    have h := numBits_num s.reverse
    rw [List.length_reverse] at h
    exact h
  rw [this, List.reverse_reverse]
/-- what a row of bits says among the first k codes -/
def lkup (ls : List Nat) (k : Nat) (s : List Bool) : Option Nat := if s = [] then none else match findC ls s.length (val s) with
  | some i => if i < k then some i else none
  | none => none
def HasBook (al : List (List Bool × Value)) (ls : List Nat) (k : Nat) : Prop := ∀ s, mget al s = (lkup ls k s).map natV
theorem book_none (ls : List Nat) : HasBook [] ls 0 := by
  intro s
  have : lkup ls 0 s = none := by
    unfold lkup
    split
    · rfl
    · split
      · rw [if_neg (by omega)]
      · rfl
  rw [this]; rfl
theorem lkup_same (ls : List Nat) (k : Nat) (s : List Bool) (h : s = [] ∨ s ≠ codeS ls k) : lkup ls (k + 1) s = lkup ls k s := by
  unfold lkup
  by_cases h0 : s = []
  · rw [if_pos h0, if_pos h0]
  · rw [if_neg h0, if_neg h0]
    cases hf : findC ls s.length (val s) with
    | none => rfl
    | some i =>
      obtain ⟨h1, h2, h3, h4⟩ := findC_inv ls _ _ i hf
      have : i ≠ k := by
        intro e
        subst e
        rcases h with h | h
        · exact h0 h
        · refine h ?_
          unfold codeS
          rw [h2, h4, hi_val]
      dsimp only
      by_cases hk : i < k
      · rw [if_pos hk, if_pos (by omega)]
      · rw [if_neg hk, if_neg (by omega)]
theorem book_skip (al : List (List Bool × Value)) (ls : List Nat) (k : Nat) (h : HasBook al ls k) (h0 : codeS ls k = []) : HasBook al ls (k + 1) := by
  intro s
  rw [h s, lkup_same ls k s]
  by_cases e : s = []
  · exact .inl e
  · exact .inr (by rw [h0]; exact e)
theorem book_put (al : List (List Bool × Value)) (ls : List Nat) (k : Nat) (hl : ∀ x ∈ ls, x ≤ 15) (hr : room ls ≤ 32768) (hk : k < ls.length) (h : HasBook al ls k) (h0 : codeS ls k ≠ []) : HasBook (mput al (codeS ls k) (natV k)) ls (k + 1) := by
  intro s
  rw [mget_put]
  by_cases e : codeS ls k = s
  · rw [if_pos e]
    have hn : ls.getD k 0 ≠ 0 := fun hz => h0 (codeS_none ls k hz)
    have hlen : s.length = ls.getD k 0 := by rw [← e]; exact hi_length _ _
    have hv : val s = codeOf ls k := by rw [← e]; exact val_hi _ _ (codeOf_lt ls k hk hn hl hr)
    unfold lkup
    rw [if_neg (by rw [← e]; exact h0), hlen, hv, findC_code ls k hk hn]
    dsimp only
    rw [if_pos (by omega)]; rfl
  · rw [if_neg e, h s, lkup_same ls k s (.inr (fun e2 => e e2.symm))]
theorem book_all (al : List (List Bool × Value)) (ls : List Nat) (h : HasBook al ls ls.length) (s : List Bool) (h0 : s ≠ []) : mget al s = (findC ls s.length (val s)).map natV := by
  rw [h s]
  unfold lkup
  rw [if_neg h0]
  cases hf : findC ls s.length (val s) with
  | none => rfl
  | some i =>
    dsimp only
    rw [if_pos (findC_inv ls _ _ i hf).1]
theorem zeroI (w : World) : (zeroValue 3).run Try.prog w = .ok (.int .i64 0) w := by kernel_rfl
theorem row_empty (l : List Bool) : (strB (rowS l)).toList.isEmpty = decide (l = []) := by
  have e : ((strB (rowS l)).toList == (strB (rowS [])).toList) = (strB (rowS l)).toList.isEmpty := by
    have : (strB (rowS [])).toList = [] := by decide +kernel
    rw [this]
    cases (strB (rowS l)).toList <;> rfl
  rw [← e, strB_inj, decide_eq_decide]
  constructor
  · intro h; exact row_inj _ _ (by unfold rowV; rw [h])
  · intro h; rw [h]
set_option maxRecDepth 100000 in
set_option maxHeartbeats 4000000 in
theorem codebook_any (A : Option Addr) (n c : Nat) (zs : List Int) (w : World) (hn : zs.length = n) (hA : InAt w A zs) (hc : chkL zs = 0) :
    Calls Try.prog 17 #[.slice A n c] w fun e w' => (∃ gm al, e = .returned (.map (some gm)) ∧ KM rowV w' gm al ∧ HasBook al (lsOf zs) n) ∧ Below w.heap.size w w' := by
  obtain ⟨f1, f2, f3, f4, f5⟩ := chk_fine zs hc
  have hx : n ≤ 288 := by omega
  have Hl := Lib.hid (lsOf_len zs)
  rw [hn] at Hl
  have HP := Lib.hid (fun al k hk h h0 => book_put al (lsOf zs) k f4 f3 hk h h0)
  have HK0 := Lib.hid (KM.made rowV w)
  have Hb0 := Lib.hid ((Below.refl w.heap.size w).alloc (Nat.le_refl _) (.map #[] 0))
  have HC := Lib.hid (codesOf_any A n c zs (w.alloc (.map #[] 0)) hn (SlAt.alloc hA _) hc)
  have hmm := @run_makeMap Try.prog
  clear hn hA hc f1 f2 f3 f4 f5
  go_enter Try.func17, Try.ntmps17
  go_wp2_with fail
  clear hmm
  refine (HC.out).mono ?_
  generalize w.alloc (.map #[] 0) = w1 at *
  generalize hgm : w.heap.size = gm at *
  have Hgm := Lib.hid hgm
  clear hgm
  rintro e w2 ⟨⟨gs, rfl, hgs, hcs⟩, hb2⟩
  have HK2 := Lib.hid (HK0.out.below hb2)
  have Hb2 := Lib.hid (Hb0.out.trans (hb2.mono (by have := Hb0.out.size; rw [Hgm.out] at this; exact this)))
  have Hcs2 := Lib.hid hcs
  have hgl : gm < w1.heap.size := HK0.out.lt
  have hne : gs ≠ gm := by omega
  clear hb2 hcs HC
  go_wp2_with fail
  go_loopw [10] (fun i wr => ∃ (k : Nat) (al : List (List Bool × Value)), k ≤ n ∧ i = .int .i64 (k : Int) ∧ KM rowV wr gm al ∧ HasBook al (lsOf zs) k ∧ Blk wr gs 9 ((List.range n).map fun i => rowV (codeS (lsOf zs) i)).toArray ∧ Below gm w wr) (fun i _ => n - (intOf i).toNat)
  case atStart => exact ⟨0, [], Nat.zero_le _, rfl, HK2.out, book_none _, Hcs2.out, Hb2.out⟩
  case round =>
    obtain ⟨k, al, hk, rfl, hkm, hbook, hcs, hb⟩ := hrel
    have HKm := Lib.hid hkm
    have HBk := Lib.hid hbook
    have Hcs := Lib.hid hcs
    have Hb := Lib.hid hb
    clear hkm hbook hcs hb HK2 Hcs2 Hb2
    by_cases hlt : k < n
    · have hc2 : wr.cell? ⟨gs, k, none⟩ = some (rowV (codeS (lsOf zs) k)) := by rw [Hcs.out.cell]; simp [hlt]
      have hcb := row_empty (codeS (lsOf zs) k)
      by_cases h0 : codeS (lsOf zs) k = []
      · rw [h0] at hc2 hcb
        have hcb2 : (strB (rowS ([] : List Bool))).toList.isEmpty = true := by rw [hcb]; rfl
        clear hcb
        have Hs := Lib.hid (book_skip al _ k HBk.out h0)
        unfold rowV at hc2
        go_wp2_with fail
        go_roundw
        case rel => exact ⟨k + 1, al, by omega, by go_num, HKm.out, Hs.out, Hcs.out, Hb.out⟩
        case measure => simp [intOf]; omega
      · have hcb2 : (strB (rowS (codeS (lsOf zs) k))).toList.isEmpty = false := by rw [hcb]; simp [h0]
        have Hs := Lib.hid (HP.out al k (by rw [Hl.out]; exact hlt) HBk.out h0)
        clear hcb h0
        unfold rowV at hc2
        go_wp2_with (at_mapUpdate; refine wpList_kmput rfl (.tmp 17) (.tmp 18) (.tmp 19) _ rfl gm al HKm.out Try.underlying46 Try.underlying9 keyF_row (codeS (lsOf zs) k) (natV k) rfl rfl rfl ?_; intro w5 hk5 hg5; have Hk5 := Lib.hid hk5; have Hg5 := Lib.hid hg5; clear hk5 hg5)
        go_roundw
        case rel =>
          refine ⟨k + 1, _, by omega, by go_num, Hk5.out, Hs.out, Blk.grown Hcs.out Hg5.out (fun e => by injection e with e; exact hne e.symm), ?_⟩
          exact Hb.out.grown Hg5.out (by have := Hb.out.size; rw [Hgm.out] at this; exact this) (fun j hj => by injection hj with hj; omega)
        case measure => simp [intOf]; omega
    · obtain rfl : k = n := by omega
      go_wp2_with fail
      go_ret
      exact ⟨⟨gm, al, rfl, HKm.out, HBk.out⟩, by rw [Hgm.out]; exact Hb.out⟩
set_option maxRecDepth 100000 in
set_option maxHeartbeats 4000000 in
theorem next_any (gm : Nat) (al : List (List Bool × Value)) (ls : List Nat) (row : List Bool) (w : World) (hK : KM rowV w gm al) (hB : HasBook al ls ls.length) (hr : row.length ≤ 1000000) :
    Calls Try.prog 19 #[.map (some gm), rowV row] w fun e w' => e = .returned (.tuple #[natV (next ls row).1, natV (next ls row).2.1, .int .i64 (next ls row).2.2]) ∧ w' = w := by
  have HK := Lib.hid hK
  have HB := Lib.hid hB
  have hsz : (strB (rowS row)).size = row.length := by rw [strB_size, rowS_length]
  clear hK hB
  obtain ⟨R, hR⟩ : ∃ R, R = next ls row := ⟨_, rfl⟩
  rw [← hR]
  have HR := Lib.hid hR
  clear hR
  have hrow : rowV row = .string (strB (rowS row)) := rfl
  rw [hrow]
  clear hrow
  generalize hS : strB (rowS row) = S at *
  generalize hm : row.length = m at *
  have HS := Lib.hid hS
  have Hm := Lib.hid hm
  clear hS hm
  go_enter Try.func19, Try.ntmps19
  go_wp2_with fail
  go_loop [7] (fun i => ∃ (n k : Nat), 1 ≤ n ∧ n + k = 16 ∧ i = .int .i64 (n : Int) ∧ nxt ls row k n = R) (fun i => 17 - (intOf i).toNat)
  case atStart => exact ⟨1, 15, Nat.le_refl _, rfl, rfl, HR.out.symm⟩
  case round =>
    obtain ⟨n, k, hn1, hnk, rfl, hnx⟩ := hrel
    have Hnx := Lib.hid hnx
    clear hnx
    by_cases h15 : n ≤ 15
    · obtain ⟨k, rfl⟩ : ∃ j, k = j + 1 := ⟨k - 1, by omega⟩
      by_cases ht : m < n
      · have hx : R = (0, 0, 7) := by rw [← Hnx.out, nxt_torn ls row k n (by rw [Hm.out]; exact ht)]
        have ht2 : (m : Int) < (n : Int) := by omega
        subst hx
        go_wp2_with fail
        go_ret3
        exact ⟨rfl, rfl⟩
      · have ht2 : ¬ (m : Int) < (n : Int) := by omega
        have hnm : (n : Int) ≤ (m : Int) := by omega
        have hkey : S.extract 0 n = strB (rowS (row.take n)) := by rw [← HS.out]; exact rowS_take row n
        have hlen : (row.take n).length = n := by rw [List.length_take, Hm.out]; omega
        have hmg := book_all al ls HB.out (row.take n) (fun e => by rw [e] at hlen; simp at hlen; omega)
        rw [hlen] at hmg
        have Hkey : Hid (Value.string (S.extract 0 n) = rowV (row.take n)) := Lib.hid (congrArg Value.string hkey)
        cases hf : findC ls n (val (row.take n)) with
        | some i =>
          rw [hf] at hmg
          have hx : R = (i, n, 0) := by rw [← Hnx.out, nxt_hit ls row k n i (by rw [Hm.out]; omega) hf]
          subst hx
          have HG1 : Hid ((mget al (row.take n)).getD (.int .i64 0) = natV i) := Lib.hid (by rw [hmg]; rfl)
          have HG2 : Hid ((mget al (row.take n)).isSome = true) := Lib.hid (by rw [hmg]; rfl)
          clear hmg hf hkey hlen
          go_wp2_with (at_lookup; refine wpList_kmlook_ok' rfl (.tmp 19) (.tmp 22) 46 rfl gm al HK.out Try.underlying46 Try.underlying9 keyF_row (zeroI _) (row.take n) rfl Hkey.out _ _ HG1.out HG2.out ?_)
          go_ret3
          exact ⟨rfl, rfl⟩
        | none =>
          rw [hf] at hmg
          have Hn2 : Hid (nxt ls row k (n + 1) = R) := Lib.hid (by rw [← Hnx.out, nxt_miss ls row k n (by rw [Hm.out]; omega) hf])
          have HG1 : Hid ((mget al (row.take n)).getD (.int .i64 0) = .int .i64 0) := Lib.hid (by rw [hmg]; rfl)
          have HG2 : Hid ((mget al (row.take n)).isSome = false) := Lib.hid (by rw [hmg]; rfl)
          clear hmg hf hkey hlen
          go_wp2_with (at_lookup; refine wpList_kmlook_ok' rfl (.tmp 19) (.tmp 22) 46 rfl gm al HK.out Try.underlying46 Try.underlying9 keyF_row (zeroI _) (row.take n) rfl Hkey.out _ _ HG1.out HG2.out ?_)
          go_round
          case rel => exact ⟨n + 1, k, by omega, by omega, by go_num, Hn2.out⟩
          case measure => simp [intOf]; omega
    · obtain rfl : n = 16 := by omega
      obtain rfl : k = 0 := by omega
      have hx : R = (0, 0, 8) := Hnx.out.symm
      subst hx
      go_wp2_with fail
      go_ret3
      exact ⟨rfl, rfl⟩
end Go.Proofs.Ytfgkfakhlcbdbaa.Cds
