/- slices.BinarySearchFunc at files whose names rise. -/
import Derived.Test.YtdoegpklephelaaDoorMergeShow
namespace Go.Proofs.YtdoegpklephelaaDoor.Merge
open Go Go.RowKit Go.Proofs.YtdoegpklephelaaDoor Go.Proofs.YtdoegpklephelaaDoor.Name
set_option linter.unusedVariables false

set_option maxHeartbeats 400000 in
theorem nameCmp_any (x : Fx) (t : List UInt8) (w : World) :
    Calls Tryd.prog 47 #[fV x, .string (strB t)] w fun e w' => e = .returned (.int .i64 (cb x.1.name t)) ∧ Below w.heap.size w w' := by
  obtain ⟨⟨nm, bs, st, nd, gn⟩, A, n, c⟩ := x
  unfold fV slv
  dsimp only
  go_enter Tryd.func47, Tryd.ntmps47
  go_wp2_with fail
  refine (stringsCompare_any nm t _).mono ?_
  rintro e w1 ⟨rfl, rfl⟩
  go_wp2_with fail
  go_ret
  exact ⟨rfl, (Below.refl _ _).alloc (Nat.le_refl _) _⟩
theorem enameCmp : ∀ args w', (callFunc 47 args).run Tryd.prog w' = .ok (.enter 47 args) w' := enters_of Tryd.func47 (by kernel_rfl) rfl
theorem srt_get {l : List Fx} (hs : Srt (l.map Prod.fst)) {i j : Nat} (hi : i < l.length) (hj : j < l.length) (h : i < j) : cb l[i].1.name l[j].1.name < 0 := by
  have := List.pairwise_iff_getElem.1 hs i j (by simpa using hi) (by simpa using hj) h
  simpa using this
theorem bs_lt {l : List Fx} (hs : Srt (l.map Prod.fst)) {t : List UInt8} {h : Nat} (hh : h < l.length) (hc : cb l[h].1.name t < 0) : ∀ (i : Nat) (hi : i < l.length), i ≤ h → cb l[i].1.name t < 0 := fun i hi hle => by
  rcases Nat.lt_or_eq_of_le hle with g | rfl
  · exact cb_lt_trans (srt_get hs hi hh g) hc
  · exact hc
theorem bs_ge {l : List Fx} (hs : Srt (l.map Prod.fst)) {t : List UInt8} {h : Nat} (hh : h < l.length) (hc : 0 ≤ cb l[h].1.name t) : ∀ (i : Nat) (hi : i < l.length), h ≤ i → 0 ≤ cb l[i].1.name t := fun i hi hle => by
  rcases Nat.lt_or_eq_of_le hle with g | rfl
  · have := cb_lt_trans (srt_get hs hh hi g) (c := t); omega
  · exact hc
theorem bs_found {l : List Fx} (hs : Srt (l.map Prod.fst)) {t : List UInt8} {i : Nat} (hi : i < l.length) (h : cb l[i].1.name t = 0) : lk (l.map Prod.fst) t = some l[i].1 := by
  have e := cb_eq h
  rw [← e]
  exact lk_some hs (List.mem_map_of_mem (List.getElem_mem hi))
theorem bs_none {l : List Fx} (hs : Srt (l.map Prod.fst)) {t : List UInt8} {i : Nat} (h1 : ∀ (k : Nat) (hk : k < l.length), k < i → cb l[k].1.name t < 0) (h2 : ∀ (k : Nat) (hk : k < l.length), i ≤ k → 0 ≤ cb l[k].1.name t)
    (h : ∀ hi : i < l.length, cb l[i].1.name t ≠ 0) : lk (l.map Prod.fst) t = none := by
  rw [lk_none]
  intro f hf he
  obtain ⟨x, hx, rfl⟩ := List.mem_map.1 hf
  obtain ⟨k, hk, rfl⟩ := List.getElem_of_mem hx
  have h0 : cb l[k].1.name t = 0 := by rw [he]; exact cb_refl t
  rcases (by omega : k < i ∨ k = i ∨ i < k) with g | g | g
  · have := h1 k hk g; omega
  · subst g; exact h hk h0
  · have hi : i < l.length := by omega
    have a1 := srt_get hs hi hk g
    rw [cb_eq h0] at a1
    have := h2 i hi (Nat.le_refl _); omega
structure BsR where
  k : Nat
  ok : Bool
def BsOk (l : List Fx) (t : List UInt8) (r : BsR) : Prop := (r.ok = true → ∃ h : r.k < l.length, lk (l.map Prod.fst) t = some l[r.k].1) ∧ (r.ok = false → lk (l.map Prod.fst) t = none)
def BsPost (l : List Fx) (t : List UInt8) (w : World) (e : Ending) (w' : World) : Prop :=
  ∃ r : BsR, e = .returned (.tuple #[.int .i64 (r.k : Int), .bool r.ok]) ∧ BsOk l t r ∧ Below w.heap.size w w'
set_option maxRecDepth 100000 in
set_option maxHeartbeats 2000000 in
theorem search_files (A : Option Addr) (n c : Nat) (l : List Fx) (t : List UInt8) (w : World) (hn : l.length = n) (hx : n ≤ 1000000) (ha : SlAt w A (l.flatMap fC)) (hs : Srt (l.map Prod.fst)) :
    Calls Tryd.prog 46 #[.slice A n c, .string (strB t), .func (.func 47) #[] #[]] w (BsPost l t w) := by
  have Hn := Lib.hid hn
  have Ha := Lib.hid ha
  have Hs := Lib.hid hs
  clear hn ha hs
  unfold BsPost
  go_enter Tryd.func46, Tryd.ntmps46
  go_wp2_with fail
  go_loopw [9, 10] (fun vi vj wr => ∃ i j : Nat, i ≤ j ∧ j ≤ n ∧ vi = .int .i64 (i : Int) ∧ vj = .int .i64 (j : Int) ∧ (∀ (k : Nat) (hk : k < l.length), k < i → cb l[k].1.name t < 0) ∧ (∀ (k : Nat) (hk : k < l.length), j ≤ k → 0 ≤ cb l[k].1.name t) ∧ Below w.heap.size w wr) (fun vi vj _ => (intOf vj).toNat - (intOf vi).toNat)
  case atStart => exact ⟨0, n, Nat.zero_le _, Nat.le_refl _, rfl, rfl, fun k _ h => by omega, fun k hk h => by have := Hn.out; omega, Below.refl _ _⟩
  case round =>
    obtain ⟨i, j, hij, hj, rfl, rfl, h1, h2, hb⟩ := hrel
    have H1 := Lib.hid h1
    have H2 := Lib.hid h2
    have Hb := Lib.hid hb
    clear h1 h2 hb
    by_cases hlt : i < j
    · obtain ⟨h, hh⟩ : ∃ h, h = (i + j) / 2 := ⟨_, rfl⟩
      have hih : i ≤ h := by omega
      have hhj : h < j := by omega
      have hhl : h < l.length := by have := Hn.out; omega
      have Hh := Lib.hid hh
      have hsum : ((i : Int) + (j : Int)) / 2 = (h : Int) := by omega
      clear hh
      obtain ⟨b, o, rfl, hc0, hc1, hc2, hc3, hc4⟩ := files_cells (Ha.out.below Hb.out) hhl
      have HG := Lib.hid (nameCmp_any l[h] t)
      have HL := Lib.hid (bs_lt Hs.out (t := t) hhl)
      have HGe := Lib.hid (bs_ge Hs.out (t := t) hhl)
      generalize l[h] = x at *
      obtain ⟨⟨nm, bs, st, nd, gn⟩, As, ln, cp⟩ := x
      simp only [slv] at hc0 hc1 hc2 hc3 hc4
      unfold fV slv at HG
      dsimp only at HG HL HGe
      go_wp2_with fail
      refine (HG.out _).mono ?_
      rintro e w1 ⟨rfl, hb1⟩
      have Hb1 := Lib.hid (stepN Hb.out hb1)
      clear hb1 HG
      by_cases hz : cb nm t < 0
      · have HL2 := Lib.hid (HL.out hz)
        have hd1 : decide (cb nm t < 0) = true := decide_eq_true hz
        generalize cb nm t = z at *
        clear HL HGe
        go_wp2_with fail
        go_roundw
        case rel => exact ⟨h + 1, j, by omega, hj, by go_num, rfl, fun k hk hkh => HL2.out k hk (by omega), H2.out, Hb1.out⟩
        case measure => simp [intOf]; omega
      · have HL2 := Lib.hid (HGe.out (by omega))
        have hd1 : decide (cb nm t < 0) = false := decide_eq_false hz
        generalize cb nm t = z at *
        clear HL HGe
        go_wp2_with fail
        go_roundw
        case rel => exact ⟨i, h, hih, by omega, rfl, rfl, H1.out, fun k hk hkh => HL2.out k hk hkh, Hb1.out⟩
        case measure => simp [intOf]; omega
    · obtain rfl : i = j := by omega
      by_cases hin : i < n
      · have hil : i < l.length := by have := Hn.out; omega
        obtain ⟨b, o, rfl, hc0, hc1, hc2, hc3, hc4⟩ := files_cells (Ha.out.below Hb.out) hil
        have HG := Lib.hid (nameCmp_any l[i] t)
        have HY := Lib.hid (bs_found Hs.out (t := t) hil)
        have HN : Hid (cb l[i].1.name t ≠ 0 → lk (l.map Prod.fst) t = none) := Lib.hid (fun h => bs_none Hs.out H1.out H2.out (fun _ => h))
        obtain ⟨x, hx⟩ : ∃ x, x = l[i] := ⟨_, rfl⟩
        have Hx := Lib.hid hx
        rw [← hx] at hc0 hc1 hc2 hc3 hc4 HG HY HN
        clear hx
        obtain ⟨⟨nm, bs, st, nd, gn⟩, As, ln, cp⟩ := x
        simp only [slv] at hc0 hc1 hc2 hc3 hc4
        unfold fV slv at HG
        dsimp only at HG HY HN
        go_wp2_with fail
        refine (HG.out _).mono ?_
        rintro e w1 ⟨rfl, hb1⟩
        have Hb1 := Lib.hid (stepN Hb.out hb1)
        clear hb1 HG
        obtain ⟨z, hz⟩ : ∃ z, cb nm t = z := ⟨_, rfl⟩
        rw [hz] at HY HN ⊢
        clear hz
        by_cases h0 : z = 0
        · subst h0
          go_wp2_with fail
          go_ret2
          exact ⟨⟨i, true⟩, rfl, ⟨fun _ => ⟨hil, by rw [HY.out trivial, ← Hx.out]⟩, (fun h => by cases h)⟩, Hb1.out⟩
        · have hz0 : (z == 0) = false := by simpa using h0
          go_wp2_with fail
          go_ret2
          exact ⟨⟨i, false⟩, rfl, ⟨(fun h => by cases h), fun _ => HN.out h0⟩, Hb1.out⟩
      · have HN : Hid (lk (l.map Prod.fst) t = none) := Lib.hid (bs_none Hs.out H1.out H2.out (fun h => absurd h (by have := Hn.out; omega)))
        go_wp2_with fail
        go_ret2
        exact ⟨⟨i, false⟩, rfl, ⟨(fun h => by cases h), fun _ => HN.out⟩, Hb.out⟩
end Go.Proofs.YtdoegpklephelaaDoor.Merge
