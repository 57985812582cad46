/- package match: put and find of the index. -/
import Derived.Test.YtoncjlbgheaabaaMatchIndex
import Derived.Test.YtoncjlbgheaabaaMatchSame
namespace Go.Proofs.Ytoncjlbgheaabaa.Match
open Go Go.RowKit Go.Proofs.Ytoncjlbgheaabaa
set_option linter.unusedVariables false

def tl (t : Tri) : List UInt8 := [t.1, t.2.1, t.2.2]
theorem tl_inj {s t : Tri} (h : tl s = tl t) : s = t := by
  obtain ⟨a, b, c⟩ := s
  obtain ⟨a', b', c'⟩ := t
  simp [tl] at h
  obtain ⟨rfl, rfl, rfl⟩ := h
  rfl
/-- the index of the places ahead of K -/
def IdxAt (w : World) (base b : Nat) (xs : List UInt8) (K : Nat) : Prop := GAt w base b (fun t => occ xs (tl t) K)
theorem tri_eq (xs : List UInt8) (k : Nat) (h : k + 3 ≤ xs.length) : tri xs k = tl (xs[k], xs[k + 1], xs[k + 2]) := by
  unfold tri tl
  rw [List.drop_eq_getElem_cons (by omega), List.drop_eq_getElem_cons (by omega), List.drop_eq_getElem_cons (by omega), List.take_succ_cons, List.take_succ_cons, List.take_succ_cons, List.take_zero]
theorem idx_next {w : World} {base b : Nat} {xs : List UInt8} {K : Nat} (hK : K + 3 ≤ xs.length) (t : Tri) (ht : tri xs K = tl t) (h : GAt w base b (upd (fun t => occ xs (tl t) K) t (occ xs (tl t) K ++ [K]))) : IdxAt w base b xs (K + 1) := by
  unfold IdxAt
  have e : (fun t => occ xs (tl t) (K + 1)) = upd (fun t => occ xs (tl t) K) t (occ xs (tl t) K ++ [K]) := by
    funext u
    unfold upd
    rw [occ_succ]
    by_cases hu : u = t
    · subst hu; rw [if_pos ⟨hK, ht⟩, if_pos rfl]
    · rw [if_neg hu, if_neg (fun h => hu (tl_inj (h.2.symm.trans ht)))]; simp
  rw [e]; exact h
theorem idx_stay {w : World} {base b : Nat} {xs : List UInt8} {K : Nat} (hK : ¬ K + 3 ≤ xs.length) (h : IdxAt w base b xs K) : IdxAt w base b xs (K + 1) := by
  unfold IdxAt at h ⊢
  have e : (fun t => occ xs (tl t) (K + 1)) = (fun t => occ xs (tl t) K) := by
    funext u; rw [occ_succ, if_neg (fun h => hK h.1)]; simp
  rw [e]; exact h
def intT : List TypeId := [3]
/-- what put leaves: all but the map and the rows of ints -/
structure KeepsM (base b : Nat) (w w' : World) : Prop where
  below : Below base w w'
  other : ∀ (k : Nat) (o : Obj), w.heap[k]? = some o → k ≠ b → (∀ cs t fr, o = Obj.cells cs t fr → t ≠ 3) → w'.heap[k]? = some o

section
variable {base b : Nat} {w w' w'' : World}
theorem KeepsM.refl (base b : Nat) (w : World) : KeepsM base b w w := ⟨Below.refl _ _, fun _ _ h _ _ => h⟩
theorem KeepsM.alloc (h : KeepsM base b w w') (hb : base ≤ w'.heap.size) (o : Obj) : KeepsM base b w (w'.alloc o) :=
  ⟨h.below.alloc hb o, fun k u hu hkb ht => by
    have := h.other k u hu hkb ht
    rw [Below.heap_alloc w' o k (Array.getElem?_eq_some_iff.1 this).1]; exact this⟩
theorem KeepsM.map (h : KeepsM base b w w') (hbb : base ≤ b) (hb : base ≤ w'.heap.size) (hg : w'.grownBy w'' (some b)) : KeepsM base b w w'' :=
  ⟨h.below.trans ⟨hg.os, hg.tape, hg.output, hg.size, fun k hk => hg.block k (by omega) (by simp; omega)⟩, fun k u hu hkb ht => by
    have := h.other k u hu hkb ht
    rw [hg.block k (Array.getElem?_eq_some_iff.1 this).1 (by simpa using hkb)]; exact this⟩
theorem KeepsM.row (h : KeepsM base b w w') (hb : base ≤ w'.heap.size) {v : Value} {n : Nat} {xs : List Value} (ho : w'.ownsRow base 3 1 v n xs) (hg : w'.grownBy w'' v.ownBlock) : KeepsM base b w w'' := by
  have key : ∀ (k : Nat), v.ownBlock = some k → base ≤ k ∧ ∃ cs fr, w'.heap[k]? = some (.cells cs 3 fr) := fun k hk => by
    rcases ho.2 with ⟨rfl, _⟩ | ⟨g, cap, cur, rfl, h1, h2, _⟩
    · simp [Value.ownBlock] at hk
    · simp only [Value.ownBlock, Option.some.injEq] at hk
      subst hk; exact ⟨h1, _, _, h2⟩
  refine ⟨h.below.trans ⟨hg.os, hg.tape, hg.output, hg.size, fun k hk => hg.block k (by omega) (fun e => ?_)⟩, fun k u hu hkb ht => ?_⟩
  · have := (key k e.symm).1; omega
  · have := h.other k u hu hkb ht
    rw [hg.block k (Array.getElem?_eq_some_iff.1 this).1 (fun e => ?_)]
    · exact this
    · obtain ⟨_, cs, fr, hc⟩ := key k e.symm
      rw [this] at hc; injection hc with hc; subst hc
      exact ht _ _ _ rfl rfl
end
theorem run_arrayAt (w : World) (a : Option Addr) (m : Nat) : (Instr.arrayAt 109 (.slice a 3 m)).run Try.prog w = .ok (.pointer a) w := by
  simp [Instr.arrayAt, run_underlying Try.underlying109]
set_option maxRecDepth 100000 in
set_option maxHeartbeats 1600000 in
theorem put_yes (A : Option Addr) (n c K base b : Nat) (xs : List UInt8) (w : World) (hn : xs.length = n) (hnc : n ≤ c) (hx : n ≤ 1000000) (hA : ByAt w A xs) (hk : K + 3 ≤ n) (hI : IdxAt w base b xs K) :
    Calls Try.prog 57 #[.map (some b), .slice A n c, .int .i64 (K : Int)] w fun e w' => e = .returned (.tuple #[]) ∧ IdxAt w' base b xs (K + 1) ∧ KeepsM base b w w' := by
  have HI := Lib.hid hI
  have Hn := Lib.hid hn
  have hk' : K + 3 ≤ xs.length := by omega
  obtain ⟨bb, o, rfl, hc0⟩ := hA.get (k := K) (by omega)
  obtain ⟨b', o', hb, hc1⟩ := hA.get (k := K + 1) (by omega)
  injection hb with hb; injection hb with e1 e2 e3; subst e1 e2
  obtain ⟨b', o', hb, hc2⟩ := hA.get (k := K + 2) (by omega)
  injection hb with hb; injection hb with e1 e2 e3; subst e1 e2
  have Ht := Lib.hid (tri_eq xs K hk')
  clear hI hA
  generalize xs[K] = x0 at *
  generalize xs[K + 1] = x1 at *
  generalize xs[K + 2] = x2 at *
  clear hn
  rw [← Nat.add_assoc] at hc1 hc2
  have g1 : (K : Int) + 3 ≤ (c : Int) := by omega
  have g2 : (0 : Int) ≤ (K : Int) + 3 := by omega
  have g3 : ¬ c = K := by omega
  have ka := run_arrayAt
  go_enter Try.func57, Try.ntmps57
  go_wp2_with fail
  have hblt := HI.out.lt
  have hbb := HI.out.1
  obtain ⟨v, st, w1, hrun, hown, hg1, hsz1, hvb, hback⟩ := GAt.entry ((HI.out.alloc (.cells #[.int .u8 (n8 x0), .int .u8 (n8 x1), .int .u8 (n8 x2)] 109)).alloc (.cells #[.int .i64 (K : Int)] 3)) (x0, x1, x2)
  have hr : (Instr.mapEntry 100 (.map (some b)) (.agg #[.int .u8 (n8 x0), .int .u8 (n8 x1), .int .u8 (n8 x2)])).run Try.prog ((w.alloc (.cells #[.int .u8 (n8 x0), .int .u8 (n8 x1), .int .u8 (n8 x2)] 109)).alloc (.cells #[.int .i64 (K : Int)] 3)) = .ok (.tuple #[v, goInt st]) w1 := hrun
  have Hback := Lib.hid hback
  have Hown := Lib.hid hown
  have Hg1 := Lib.hid hg1
  have Hvb := Lib.hid hvb
  have Hsz1 := Lib.hid hsz1
  have Hr := Lib.hid hr
  have Hol := Lib.hid (occ_len xs (tl (x0, x1, x2)) K)
  have HSl : Hid (SlAt w1 (some ⟨w.heap.size + 1, 0, none⟩) [.int .i64 (K : Int)]) := Lib.hid (by
    have := slat_one (w.alloc (.cells #[.int .u8 (n8 x0), .int .u8 (n8 x1), .int .u8 (n8 x2)] 109)) 3 (.int .i64 (K : Int))
    intro hp
    obtain ⟨q, r, e, hq⟩ := this hp
    refine ⟨q, r, by simpa using e, fun j u hj => ?_⟩
    have h1 := hq j u hj
    have eq : w.heap.size + 1 = q := by simp at e; omega
    have a1 : q < ((w.alloc (.cells #[.int .u8 (n8 x0), .int .u8 (n8 x1), .int .u8 (n8 x2)] 109)).alloc (.cells #[.int .i64 (K : Int)] 3)).heap.size := by simp; omega
    have a2 : some q ≠ some b := by simp only [Option.some.injEq, ne_eq]; omega
    rw [World.cell?_of_block (hg1.block q a1 a2)]
    exact h1)
  clear hback hown hg1 hvb hsz1 hr hrun
  generalize hls0 : occ xs (tl (x0, x1, x2)) K = ls at *
  have Hls := Lib.hid hls0
  clear hls0
  have hls : ls.length ≤ 1000000 := by have := Hol.out; omega
  rw [Hr.out]
  go_wp2_with (at_builtin; refine wpList_app _ rfl (.tmp 21) (.tmp 23) _ rfl base 3 _ 1 8 tyI v ls.length (ls.map natV) rfl Hown.out (some ⟨w.heap.size + 1, 0, none⟩) 1 1 [.int .i64 (K : Int)] rfl rfl HSl.out (by simp [Value.oneCell']) (by simp) (by unfold maxLen; omega) (by omega) (by have := Hsz1.out; simp at this; omega) ?_; intro v2 w2 hown2 hg2 hl2)
  obtain ⟨w3, hr3, hG, hg3⟩ := Hback.out w2 v2 (ls ++ [K]) hg2 (by rw [List.length_append, List.map_append]; exact hown2) (by rw [← Hsz1.out]; exact hl2)
  have HK := Lib.hid ((((((KeepsM.refl base b w).alloc (by omega) (.cells #[.int .u8 (n8 x0), .int .u8 (n8 x1), .int .u8 (n8 x2)] 109)).alloc (by simp; omega) (.cells #[.int .i64 (K : Int)] 3)).map hbb (by simp; omega) Hg1.out).row (by have := Hsz1.out; simp at this; omega) Hown.out hg2).map hbb (by have := Hsz1.out; have := hg2.size; simp at *; omega) hg3)
  have HG := Lib.hid hG
  have Hr3 : Hid ((Instr.entryStore 100 (.map (some b)) (.int .i64 st) v2).run Try.prog w2 = .ok () w3) := Lib.hid hr3
  clear hG hg3 hr3 hown2 hg2 hl2
  rw [Hr3.out]
  go_wp2_with fail
  go_end0
  exact ⟨rfl, idx_next (by rw [Hn.out]; exact hk) _ Ht.out (by rw [Hls.out]; exact HG.out), HK.out⟩

set_option maxHeartbeats 400000 in
theorem put_no (A : Option Addr) (n c K b : Nat) (w : World) (hx : n ≤ 1000000) (hk : n < K + 3) (hK : K ≤ n) :
    Calls Try.prog 57 #[.map (some b), .slice A n c, .int .i64 (K : Int)] w fun e w' => e = .returned (.tuple #[]) ∧ w' = w := by
  have hI : ¬ ((K : Int) + 3 ≤ (n : Int)) := by omega
  go_enter Try.func57, Try.ntmps57
  go_wp2_with fail
  go_end0
  exact ⟨rfl, rfl⟩
theorem put_any (A : Option Addr) (n c K base b : Nat) (xs : List UInt8) (w : World) (hn : xs.length = n) (hnc : n ≤ c) (hx : n ≤ 1000000) (hA : ByAt w A xs) (hK : K ≤ n) (hI : IdxAt w base b xs K) :
    Calls Try.prog 57 #[.map (some b), .slice A n c, .int .i64 (K : Int)] w fun e w' => e = .returned (.tuple #[]) ∧ IdxAt w' base b xs (K + 1) ∧ KeepsM base b w w' := by
  by_cases h : K + 3 ≤ n
  · exact put_yes A n c K base b xs w hn hnc hx hA h hI
  · refine (put_no A n c K b w hx (by omega) hK).mono ?_
    rintro e w' ⟨rfl, rfl⟩
    exact ⟨rfl, idx_stay (by omega) hI, KeepsM.refl _ _ _⟩
def FindPost (xs : List UInt8) (k : Nat) (w : World) (e : Ending) (w' : World) : Prop := e = .returned (.tuple #[.int .i64 (((longest xs k).1 : Nat) : Int), .int .i64 (((longest xs k).2 : Nat) : Int)]) ∧ ∃ d, w' = w.drewN d
theorem tryAll_le (xs : List UInt8) (k : Nat) (l : List Nat) (h : ∀ p ∈ l, p ≤ k) : (tryAll xs k l).1 ≤ 258 ∧ (tryAll xs k l).2 ≤ k := by
  have key : ∀ (l : List Nat) (s : Nat × Nat), (∀ p ∈ l, p ≤ k) → s.1 ≤ 258 ∧ s.2 ≤ k → (l.foldl (tryAt xs k) s).1 ≤ 258 ∧ (l.foldl (tryAt xs k) s).2 ≤ k := by
    intro l
    induction l with
    | nil => intro s _ h; exact h
    | cons a l ih =>
      intro s hl hs
      refine ih _ (fun p hp => hl p (by simp [hp])) ?_
      have := same_le xs a k (hl a (by simp))
      unfold tryAt
      split
      · exact ⟨this.1, Nat.sub_le _ _⟩
      · exact hs
  exact key l (0, 0) h ⟨by simp, by simp⟩
set_option maxRecDepth 100000 in
set_option maxHeartbeats 1600000 in
theorem find_yes (A : Option Addr) (n c k base b : Nat) (xs : List UInt8) (w : World) (hn : xs.length = n) (hnc : n ≤ c) (hx : n ≤ 1000000) (hA : ByAt w A xs) (hk : k + 3 ≤ n) (hI : IdxAt w base b xs k) :
    Calls Try.prog 56 #[.map (some b), .slice A n c, .int .i64 (k : Int)] w (FindPost xs k w) := by
  have Hn := Lib.hid hn
  have HA := Lib.hid hA
  have hk' : k + 3 ≤ xs.length := by omega
  obtain ⟨bb, o, rfl, hc0⟩ := hA.get (k := k) (by omega)
  obtain ⟨b', o', hb, hc1⟩ := hA.get (k := k + 1) (by omega)
  injection hb with hb; injection hb with e1 e2 e3; subst e1 e2
  obtain ⟨b', o', hb, hc2⟩ := hA.get (k := k + 2) (by omega)
  injection hb with hb; injection hb with e1 e2 e3; subst e1 e2
  have Hl := Lib.hid (find_eq xs k hk')
  have Ht := tri_eq xs k hk'
  rw [Ht] at Hl
  have Hlt : Hid (∀ p ∈ occ xs (tl (xs[k], xs[k + 1], xs[k + 2])) k, p < k) := Lib.hid (fun p hp => (occ_lt xs _ k p hp).1)
  have Hol := Lib.hid (occ_len xs (tl (xs[k], xs[k + 1], xs[k + 2])) k)
  obtain ⟨v, hr, hown⟩ := hI.look (xs[k], xs[k + 1], xs[k + 2])
  simp only [kv, u8v] at hr
  obtain ⟨B, cap, rfl, hv1, hv2, hsl, hv0⟩ := own_slat hown
  have Hsl := Lib.hid hsl
  clear hI hA hown Ht hsl hv0
  generalize occ xs (tl (xs[k], xs[k + 1], xs[k + 2])) k = ls at *
  generalize xs[k] = x0 at *
  generalize xs[k + 1] = x1 at *
  generalize xs[k + 2] = x2 at *
  clear hn
  rw [← Nat.add_assoc] at hc1 hc2
  have g1 : (k : Int) + 3 ≤ (c : Int) := by omega
  have g2 : (0 : Int) ≤ (k : Int) + 3 := by omega
  have g3 : ¬ c = k := by omega
  have ka := run_arrayAt
  have hls : ls.length ≤ 1000000 := by have := Hol.out; omega
  generalize hN : ls.length = N at *
  have HN := Lib.hid hN
  clear hN
  go_enter Try.func56, Try.ntmps56
  go_wp2_with fail
  clear hr hc0 hc1 hc2 ka
  go_loopw [6, 7, 9] (fun a f j wr => ∃ d : Nat, d ≤ N ∧ j = .int .i64 ((N : Int) - 1 - (d : Int)) ∧ a = .int .i64 (((tryAll xs k (ls.reverse.take d)).1 : Nat) : Int) ∧ f = .int .i64 (((tryAll xs k (ls.reverse.take d)).2 : Nat) : Int) ∧ ∃ d, wr = w.drewN d) (fun _ _ i _ => (intOf i + 1).toNat)
  case atStart => exact ⟨0, Nat.zero_le _, by simp, rfl, rfl, 0, rfl⟩
  case round =>
    obtain ⟨d, hd, rfl, rfl, rfl, q, rfl⟩ := hrel
    have hl := tryAll_le xs k (ls.reverse.take d) (fun p hp => Nat.le_of_lt (Hlt.out p (by have := List.mem_of_mem_take hp; simpa using this)))
    have hl1 := hl.1
    have hl2 := hl.2
    clear hl
    by_cases hlt : d < N
    · have hdr : d < ls.reverse.length := by simp; have := HN.out; omega
      have hge : (0 : Int) ≤ (N : Int) - 1 - (d : Int) := by omega
      have hi : ((N : Int) - 1 - (d : Int)) = ((N - 1 - d : Nat) : Int) := by omega
      have hdl : N - 1 - d < ls.length := by have := HN.out; omega
      have Hs := Lib.hid (show tryAll xs k (ls.reverse.take (d + 1)) = tryAt xs k (tryAll xs k (ls.reverse.take d)) ls.reverse[d] by rw [take_snoc _ _ hdr, tryAll_snoc])
      have Hg : Hid (ls.reverse[d] = ls[N - 1 - d]) := Lib.hid (by rw [List.getElem_reverse]; congr 1; have := HN.out; omega)
      obtain ⟨bi, oi, rfl, hci⟩ := Hsl.out.get (k := N - 1 - d) (by simpa using hdl)
      simp only [List.getElem_map, natV] at hci
      have hpk := Hlt.out ls[N - 1 - d] (List.getElem_mem hdl)
      rw [Hg.out] at Hs
      rw [hi] at hge ⊢
      have Hd : Hid (d + 1 + (N - 1 - d) = N) := Lib.hid (by omega)
      clear hi hdr Hg
      generalize tryAll xs k (ls.reverse.take d) = s at *
      obtain ⟨a, f⟩ := s
      generalize ls[N - 1 - d] = i at *
      clear hdl
      generalize N - 1 - d = z at *
      dsimp only at hl1 hl2 ⊢
      have hzN : z < N := by have := Hd.out; omega
      have hzN' : (z : Int) < (N : Int) := by omega
      have hki : IntKind.i64.wrap ((k : Int) - (i : Int)) = (k : Int) - (i : Int) := IntWalk.i64_in _ (by omega)
      go_wp2_with fail
      refine (same_any _ n c i k xs _ Hn.out hx (by exact HA.out) (by omega) (by omega)).mono ?_
      rintro e w1 ⟨rfl, q2, rfl⟩
      have htry1 : Hid (a < sameN xs i k → tryAt xs k (a, f) i = (sameN xs i k, k - i)) := Lib.hid (fun h => if_pos h)
      have htry2 : Hid (¬ a < sameN xs i k → tryAt xs k (a, f) i = (a, f)) := Lib.hid (fun h => if_neg h)
      generalize sameN xs i k = m at *
      by_cases hz : a < m
      · have Hs2 : Hid (tryAll xs k (ls.reverse.take (d + 1)) = (m, k - i)) := Lib.hid (by rw [Hs.out]; exact htry1.out hz)
        go_wp2_with fail
        go_quiet (fail)
        go_wp2_with fail
        go_roundw
        case rel => exact ⟨d + 1, by omega, int_eq (by have := Hd.out; omega), by rw [Hs2.out], by rw [Hs2.out]; exact int_eq (by dsimp only; omega), _, rfl⟩
        case measure => simp [intOf]
      · have Hs2 : Hid (tryAll xs k (ls.reverse.take (d + 1)) = (a, f)) := Lib.hid (by rw [Hs.out]; exact htry2.out hz)
        go_wp2_with fail
        go_roundw
        case rel => exact ⟨d + 1, by omega, int_eq (by have := Hd.out; omega), by rw [Hs2.out], by rw [Hs2.out], _, rfl⟩
        case measure => simp [intOf]
    · obtain rfl : d = N := by omega
      have Hall : Hid (tryAll xs k (ls.reverse.take d) = longest xs k) := Lib.hid (by
        rw [List.take_of_length_le (by simp; have := HN.out; omega)]; exact Hl.out)
      rw [Hall.out] at hl1 hl2 ⊢
      go_wp2_with fail
      go_ret2
      exact ⟨rfl, _, rfl⟩
theorem find_no (A : Option Addr) (n c k b : Nat) (xs : List UInt8) (w : World) (hn : xs.length = n) (hx : n ≤ 1000000) (hk : n < k + 3) (hK : k ≤ n) :
    Calls Try.prog 56 #[.map (some b), .slice A n c, .int .i64 (k : Int)] w (FindPost xs k w) := by
  have Hl := Lib.hid (longest_end xs k (by omega))
  have hI : ¬ ((k : Int) + 3 ≤ (n : Int)) := by omega
  clear hn
  go_enter Try.func56, Try.ntmps56
  go_wp2_with fail
  go_ret2
  exact ⟨by rw [Hl.out]; rfl, 0, rfl⟩
theorem find_any (A : Option Addr) (n c k base b : Nat) (xs : List UInt8) (w : World) (hn : xs.length = n) (hnc : n ≤ c) (hx : n ≤ 1000000) (hA : ByAt w A xs) (hk : k ≤ n) (hI : IdxAt w base b xs k) :
    Calls Try.prog 56 #[.map (some b), .slice A n c, .int .i64 (k : Int)] w (FindPost xs k w) := by
  by_cases h : k + 3 ≤ n
  · exact find_yes A n c k base b xs w hn hnc hx hA h hI
  · exact find_no A n c k b xs w hn hx (by omega) hk
end Go.Proofs.Ytoncjlbgheaabaa.Match
