/- sort.SliceStable at an own row of places, none too. -/
import Derived.Test.YtfgkfakhlcbdbaaSlcSort
import Derived.Test.YtfgkfakhlcbdbaaApp
namespace Go.Proofs.Ytfgkfakhlcbdbaa.Slc
open Go Go.RowKit Go.Proofs.Ytfgkfakhlcbdbaa Go.Proofs.Ytfgkfakhlcbdbaa.SP
set_option linter.unusedVariables false

set_option maxRecDepth 100000 in
set_option maxHeartbeats 1600000 in
theorem sliceStable_nil (gv : Nat) (w : World) :
    Calls Try.prog 33 #[.iface 66 (.slice none 0 0), lessV gv] w fun e w' => e = .returned (.tuple #[]) ∧ Below w.heap.size w w' := by
  obtain ⟨a, b, hent⟩ := entries
  have hval := hent.val
  have hlen := hent.len ⟨w.heap.size, 0, none⟩ none 0 0 ((w.alloc (.cells #[.slice none 0 0] 66)).alloc (.cells #[.pointer (some a), .pointer (some ⟨w.heap.size, 0, none⟩), .int .u64 151] 89)) (by simp)
  have hswap := hent.swap none 0 0
  rw [if_pos rfl] at hswap
  clear hent
  obtain ⟨w2, hw2⟩ : ∃ w2, w2 = ((w.alloc (.cells #[.slice none 0 0] 66)).alloc (.cells #[.pointer (some a), .pointer (some ⟨w.heap.size, 0, none⟩), .int .u64 151] 89)) := ⟨_, rfl⟩
  have hb2 : Below w.heap.size w w2 := by rw [hw2]; exact ((Below.refl _ _).alloc (Nat.le_refl _) _).alloc (by simp) _
  have Hb2 := Lib.hid hb2
  have Hw2 := Lib.hid hw2
  have HS := Lib.hid (stable_none gv 0 56 w2 (by omega))
  rw [hw2] at HS
  clear hb2 hw2
  unfold lessV noSwap at *
  go_enter Try.func33, Try.ntmps33
  go_wp2_with fail
  refine (HS.out).mono ?_
  rintro e w3 ⟨rfl, hb3⟩
  rw [← Hw2.out] at hb3
  have HB3 := Lib.hid (Hb2.out.trans (hb3.mono Hb2.out.size))
  clear hb3 hval hlen hswap
  go_wp2_with fail
  go_end0
  exact ⟨rfl, HB3.out⟩
def plC (e : El) : List Value := [nv e.1, nv e.2]
theorem plC_len (l : List El) : (l.flatMap plC).length = l.length * 2 := by
  induction l with
  | nil => rfl
  | cons a l ih => rw [List.flatMap_cons, List.length_append, ih]; simp [plC]; omega
/-- an own row of places, sorted -/
theorem sort_own (base gv N : Nat) (v : Value) (l : List El) (w : World) (ho : w.ownsRow base 68 2 v N (l.flatMap plC)) (hv : Blk w gv 66 #[v]) (hgv : gv < base) (hN : N ≤ 1000000) :
    Calls Try.prog 33 #[.iface 66 v, lessV gv] w fun e w' => e = .returned (.tuple #[]) ∧ w'.ownsRow base 68 2 v N ((stab ekey l).flatMap plC) ∧ w.grownBy w' v.ownBlock := by
  have hl : l.length = N := by have := ho.1; rw [plC_len] at this; omega
  rcases ho.2 with ⟨rfl, hn⟩ | ⟨g, cap, cur, rfl, hbg, hg, hnc, hcm, hcs, htake⟩
  · have h0 : l = [] := List.eq_nil_of_length_eq_zero (hl.trans hn)
    subst h0
    refine (sliceStable_nil gv w).mono ?_
    rintro e w' ⟨rfl, hb⟩
    rw [List.perm_nil.1 (stab_perm ekey ([] : List El))]
    subst hn
    exact ⟨rfl, World.ownsRow_nil _ _ _ _, grown_below (World.grownBy.refl _ _) hb⟩
  · have hR : RowAt w g (cur.toList.drop (N * 2)) l := by
      unfold RowAt Blk
      rw [hg]
      have : l.flatMap (fun e => [nv e.1, nv e.2]) = cur.toList.take (N * 2) := htake.symm
      rw [this, List.take_append_drop]
    refine (sliceStable_any g gv N cap _ l w hR ⟨hv, by omega⟩ hl hN).mono ?_
    rintro e w' ⟨rfl, hR', hgr⟩
    refine ⟨rfl, ⟨by rw [plC_len, stab_length]; omega, .inr ⟨g, cap, _, rfl, hbg, hR', hnc, hcm, ?_, ?_⟩⟩, hgr⟩
    · have h1 : ((stab ekey l).flatMap plC).length = N * 2 := by rw [plC_len, stab_length, hl]
      show (((stab ekey l).flatMap plC) ++ cur.toList.drop (N * 2)).toArray.size = cap * 2
      have h2 : N * 2 ≤ cap * 2 := by omega
      simp [h1, hcs]; omega
    · have h1 : ((stab ekey l).flatMap plC).length = N * 2 := by rw [plC_len, stab_length, hl]
      show ((((stab ekey l).flatMap plC) ++ cur.toList.drop (N * 2)).toArray.toList).take (N * 2) = _
      rw [List.toList_toArray, List.take_append_of_le_length (by omega), List.take_of_length_le (by omega)]
end Go.Proofs.Ytfgkfakhlcbdbaa.Slc
