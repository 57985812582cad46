/- package match: what stood ahead; the plain law. No program in sight. -/
import Derived.Test.YtoncjlbgheaabaaWords
namespace Go.Proofs.Ytoncjlbgheaabaa.Match
set_option linter.unusedVariables false

/-- how many bytes from i and from k on are the same, at most 258 -/
def sameN (b : List UInt8) (i k : Nat) : Nat := (((b.drop i).zip ((b.drop k).take 258)).takeWhile (fun p => p.1 == p.2)).length
theorem tw_le {α : Type} (p : α → Bool) (l : List α) : (l.takeWhile p).length ≤ l.length := by
  induction l with
  | nil => simp
  | cons a l ih => simp only [List.takeWhile_cons]; split <;> simp <;> omega
theorem tw_step {α : Type} (p : α → Bool) (l : List α) (n : Nat) (h : n ≤ (l.takeWhile p).length) (hn : n < l.length) (hp : p l[n] = true) : n + 1 ≤ (l.takeWhile p).length := by
  induction l generalizing n with
  | nil => simp at hn
  | cons a l ih =>
    simp only [List.takeWhile_cons] at h ⊢
    cases n with
    | zero => simp at hp; simp [hp]
    | succ n =>
      cases hpa : p a with
      | false => simp [hpa] at h
      | true =>
        simp only [hpa, if_true, List.length_cons] at h ⊢
        have := ih n (by omega) (by simpa using hn) (by simpa using hp)
        omega
theorem tw_get {α : Type} (p : α → Bool) (l : List α) (n : Nat) (h : n < (l.takeWhile p).length) : ∃ hn : n < l.length, p l[n] = true := by
  induction l generalizing n with
  | nil => simp at h
  | cons a l ih =>
    simp only [List.takeWhile_cons] at h
    cases hpa : p a with
    | false => simp [hpa] at h
    | true =>
      simp only [hpa, if_true, List.length_cons] at h
      cases n with
      | zero => exact ⟨by simp, by simpa using hpa⟩
      | succ n =>
        obtain ⟨h1, h2⟩ := ih n (by omega)
        exact ⟨by simpa using h1, by simpa using h2⟩
theorem zip_len (b : List UInt8) (i k : Nat) (hik : i ≤ k) : ((b.drop i).zip ((b.drop k).take 258)).length = min 258 (b.length - k) := by
  simp; omega
theorem same_le (b : List UInt8) (i k : Nat) (hik : i ≤ k) : sameN b i k ≤ 258 ∧ sameN b i k ≤ b.length - k := by
  have := tw_le (fun p : UInt8 × UInt8 => p.1 == p.2) ((b.drop i).zip ((b.drop k).take 258))
  rw [zip_len b i k hik] at this
  unfold sameN; omega
theorem same_step (b : List UInt8) (i k n : Nat) (hik : i ≤ k) (h : n ≤ sameN b i k) (h1 : n < 258) (h2 : k + n < b.length) (h3 : b[i + n]'(by omega) = b[k + n]) : n + 1 ≤ sameN b i k := by
  refine tw_step _ _ n h (by rw [zip_len b i k hik]; omega) ?_
  simpa using h3
theorem same_stop (b : List UInt8) (i k n : Nat) (hik : i ≤ k) (h : n ≤ sameN b i k) (hs : ¬ (n < 258) ∨ ¬ (k + n < b.length) ∨ ∃ (h : k + n < b.length), b[i + n]'(by omega) ≠ b[k + n]) : sameN b i k = n := by
  rcases Nat.lt_or_ge n (sameN b i k) with hlt | hge
  · have hl := same_le b i k hik
    rcases hs with hs | hs | ⟨h2, h3⟩
    · omega
    · omega
    · obtain ⟨_, hp⟩ := tw_get _ _ n hlt
      simp at hp
      exact absurd hp h3
  · omega
theorem same_get (b : List UInt8) (i k n : Nat) (hik : i ≤ k) (h : n < sameN b i k) : ∃ h2 : k + n < b.length, b[i + n]'(by omega) = b[k + n] := by
  have hl := same_le b i k hik
  obtain ⟨_, hp⟩ := tw_get _ _ n h
  simp at hp
  exact ⟨by omega, hp⟩

/-- one place tried: the longer one stays -/
def tryAt (b : List UInt8) (k : Nat) (s : Nat × Nat) (i : Nat) : Nat × Nat := if s.1 < sameN b i k then (sameN b i k, k - i) else s
/-- the d nearest places tried -/
def longD (b : List UInt8) (k : Nat) : Nat → Nat × Nat
  | 0 => (0, 0)
  | d + 1 => tryAt b k (longD b k d) (k - (d + 1))
def cut3 (s : Nat × Nat) : Nat × Nat := if s.1 < 3 then (0, 0) else s
def longest (b : List UInt8) (k : Nat) : Nat × Nat := cut3 (longD b k k)
theorem longD_le (b : List UInt8) (k d : Nat) (hd : d ≤ k) : (longD b k d).1 ≤ 258 ∧ (longD b k d).1 ≤ b.length - k ∧ (longD b k d).2 ≤ d ∧ (0 < (longD b k d).1 → 0 < (longD b k d).2 ∧ (longD b k d).1 = sameN b (k - (longD b k d).2) k) := by
  induction d with
  | zero => simp [longD]
  | succ d ih =>
    obtain ⟨h1, h2, h3, h4⟩ := ih (by omega)
    have hs := same_le b (k - (d + 1)) k (by omega)
    unfold longD tryAt
    split
    · refine ⟨hs.1, hs.2, by simp; omega, fun _ => ⟨by simp; omega, ?_⟩⟩
      have : k - (k - (k - (d + 1))) = k - (d + 1) := by omega
      simp [this]
    · exact ⟨h1, h2, by omega, h4⟩
theorem longest_le (b : List UInt8) (k : Nat) : (longest b k).1 ≤ 258 ∧ (longest b k).1 ≤ b.length - k ∧ (longest b k).2 ≤ k ∧ (0 < (longest b k).1 → 3 ≤ (longest b k).1 ∧ 0 < (longest b k).2 ∧ (longest b k).1 = sameN b (k - (longest b k).2) k) := by
  obtain ⟨h1, h2, h3, h4⟩ := longD_le b k k (Nat.le_refl _)
  by_cases h : (longD b k k).1 < 3
  · have : longest b k = (0, 0) := by unfold longest cut3; rw [if_pos h]
    rw [this]; simp
  · have : longest b k = longD b k k := by unfold longest cut3; rw [if_neg h]
    rw [this]
    exact ⟨h1, h2, h3, fun h => ⟨by omega, h4 h⟩⟩
theorem longest_zero (b : List UInt8) (k : Nat) (h : (longest b k).1 = 0) : longest b k = (0, 0) := by
  by_cases h' : (longD b k k).1 < 3
  · unfold longest cut3; rw [if_pos h']
  · have : longest b k = longD b k k := by unfold longest cut3; rw [if_neg h']
    rw [this] at h; omega

/-- the three bytes from a place on -/
def tri (b : List UInt8) (k : Nat) : List UInt8 := (b.drop k).take 3
/-- the places ahead of K where the three bytes t stand, in order -/
def occ (b : List UInt8) (t : List UInt8) (K : Nat) : List Nat := (List.range K).filter fun p => decide (p + 3 ≤ b.length) && (tri b p == t)
theorem occ_succ (b : List UInt8) (t : List UInt8) (K : Nat) : occ b t (K + 1) = occ b t K ++ if K + 3 ≤ b.length ∧ tri b K = t then [K] else [] := by
  unfold occ
  rw [List.range_succ, List.filter_append]
  by_cases h1 : K + 3 ≤ b.length <;> by_cases h2 : tri b K = t <;> simp [h1, h2]
theorem occ_lt (b : List UInt8) (t : List UInt8) (K : Nat) : ∀ p ∈ occ b t K, p < K ∧ p + 3 ≤ b.length ∧ tri b p = t := by
  intro p hp
  unfold occ at hp
  simpa using hp
theorem occ_len (b : List UInt8) (t : List UInt8) (K : Nat) : (occ b t K).length ≤ K := by
  have := List.length_filter_le (fun p => decide (p + 3 ≤ b.length) && (tri b p == t)) (List.range K)
  simpa [occ] using this
theorem tri_same (b : List UInt8) (i k : Nat) (hik : i ≤ k) (hk : k + 3 ≤ b.length) : tri b i = tri b k ↔ 3 ≤ sameN b i k := by
  have e : ∀ j, j + 3 ≤ b.length → ∃ (h : j + 3 ≤ b.length), tri b j = [b[j], b[j + 1], b[j + 2]] := by
    intro j h
    refine ⟨h, ?_⟩
    unfold tri
    rw [List.drop_eq_getElem_cons (by omega), List.drop_eq_getElem_cons (by omega), List.drop_eq_getElem_cons (by omega), List.take_succ_cons, List.take_succ_cons, List.take_succ_cons, List.take_zero]
  obtain ⟨h1, e1⟩ := e i (by omega)
  obtain ⟨h2, e2⟩ := e k hk
  rw [e1, e2]
  constructor
  · intro h
    simp at h
    obtain ⟨a1, a2, a3⟩ := h
    have s1 := same_step b i k 0 hik (by omega) (by omega) (by omega) a1
    have s2 := same_step b i k 1 hik s1 (by omega) (by omega) a2
    exact same_step b i k 2 hik s2 (by omega) (by omega) a3
  · intro h
    obtain ⟨_, a1⟩ := same_get b i k 0 hik (by omega)
    obtain ⟨_, a2⟩ := same_get b i k 1 hik (by omega)
    obtain ⟨_, a3⟩ := same_get b i k 2 hik (by omega)
    simp at a1 a2 a3 ⊢
    exact ⟨a1, a2, a3⟩
/-- places tried one after another -/
def tryAll (b : List UInt8) (k : Nat) (l : List Nat) : Nat × Nat := l.foldl (tryAt b k) (0, 0)
theorem tryAll_snoc (b : List UInt8) (k : Nat) (l : List Nat) (i : Nat) : tryAll b k (l ++ [i]) = tryAt b k (tryAll b k l) i := by
  unfold tryAll; rw [List.foldl_append]; rfl
theorem longD_eq (b : List UInt8) (k d : Nat) (hd : d ≤ k) : longD b k d = tryAll b k ((List.range' (k - d) d).reverse) := by
  induction d with
  | zero => simp [longD, tryAll]
  | succ d ih =>
    have : List.range' (k - (d + 1)) (d + 1) = (k - (d + 1)) :: List.range' (k - d) d := by
      rw [List.range'_succ]; congr 2; omega
    rw [this, List.reverse_cons, tryAll_snoc, ← ih (by omega)]
    rfl
theorem filt_fold (b : List UInt8) (k : Nat) (l : List Nat) (q : Nat → Bool) (hq : ∀ i ∈ l, q i = true ↔ 3 ≤ sameN b i k) :
    (tryAll b k l).1 < 3 ∧ tryAll b k (l.filter q) = (0, 0) ∨ 3 ≤ (tryAll b k l).1 ∧ tryAll b k (l.filter q) = tryAll b k l := by
  have key : ∀ (l : List Nat) (s t : Nat × Nat), (∀ i ∈ l, q i = true ↔ 3 ≤ sameN b i k) → (s.1 < 3 ∧ t = (0, 0) ∨ 3 ≤ s.1 ∧ t = s) →
      ((l.foldl (tryAt b k) s).1 < 3 ∧ (l.filter q).foldl (tryAt b k) t = (0, 0) ∨ 3 ≤ (l.foldl (tryAt b k) s).1 ∧ (l.filter q).foldl (tryAt b k) t = l.foldl (tryAt b k) s) := by
    intro l
    induction l with
    | nil => intro s t _ h; simpa using h
    | cons a l ih =>
      intro s t hl h
      have ha := hl a (by simp)
      have hl' : ∀ i ∈ l, q i = true ↔ 3 ≤ sameN b i k := fun i hi => hl i (by simp [hi])
      cases hqa : q a with
      | true =>
        rw [List.filter_cons_of_pos hqa, List.foldl_cons, List.foldl_cons]
        refine ih _ _ hl' ?_
        have h3 := ha.1 hqa
        unfold tryAt
        rcases h with ⟨h1, rfl⟩ | ⟨h1, rfl⟩
        · rw [if_pos (by omega), if_pos (by simp; omega)]
          exact Or.inr ⟨h3, rfl⟩
        · split
          · exact Or.inr ⟨h3, rfl⟩
          · exact Or.inr ⟨h1, rfl⟩
      | false =>
        rw [List.filter_cons_of_neg (by simp [hqa]), List.foldl_cons]
        refine ih _ _ hl' ?_
        have h3 : ¬ 3 ≤ sameN b a k := fun h => by rw [ha.2 h] at hqa; cases hqa
        unfold tryAt
        rcases h with ⟨h1, rfl⟩ | ⟨h1, rfl⟩
        · split
          · exact Or.inl ⟨by simp; omega, rfl⟩
          · exact Or.inl ⟨h1, rfl⟩
        · rw [if_neg (by omega)]
          exact Or.inr ⟨h1, rfl⟩
  exact key l (0, 0) (0, 0) hq (Or.inl ⟨by simp, rfl⟩)
/-- among the places where the three bytes stood the longest is the longest of all -/
theorem find_eq (b : List UInt8) (k : Nat) (hk : k + 3 ≤ b.length) : tryAll b k ((occ b (tri b k) k).reverse) = longest b k := by
  have e : (occ b (tri b k) k).reverse = ((List.range' 0 k).reverse).filter (fun p => decide (p + 3 ≤ b.length) && (tri b p == tri b k)) := by
    unfold occ; rw [List.filter_reverse, List.range_eq_range']
  rw [e]
  have hf := filt_fold b k ((List.range' 0 k).reverse) (fun p => decide (p + 3 ≤ b.length) && (tri b p == tri b k)) (by
    intro i hi
    simp at hi
    rw [← tri_same b i k (by omega) hk]
    simp
    intro _; omega)
  have el : longD b k k = tryAll b k ((List.range' 0 k).reverse) := by rw [longD_eq b k k (Nat.le_refl _)]; simp
  unfold longest cut3
  rw [el]
  rcases hf with ⟨h1, h2⟩ | ⟨h1, h2⟩
  · rw [if_pos h1, h2]
  · rw [if_neg (by omega), h2]
theorem longest_end (b : List UInt8) (k : Nat) (hk : b.length < k + 3) : longest b k = (0, 0) := by
  refine longest_zero b k ?_
  obtain ⟨h1, h2, h3, h4⟩ := longest_le b k
  rcases Nat.eq_zero_or_pos (longest b k).1 with h | h
  · exact h
  · have := h4 h; omega
/-- a token: its byte, how many are the same, how far they stood -/
abbrev Tok := UInt8 × Int × Int
/-- one token at a place, ahead of which so many are told -/
def tstep (b : List UInt8) (s : Nat × List Tok) : Nat × List Tok :=
  if s.1 < b.length then
    if (longest b s.1).1 = 0 ∨ (s.1 + 1 < b.length ∧ (longest b s.1).1 < (longest b (s.1 + 1)).1) then (s.1 + 1, s.2 ++ [(b.getD s.1 0, 0, 0)])
    else (s.1 + (longest b s.1).1, s.2 ++ [(0, ((longest b s.1).1 : Int), ((longest b s.1).2 : Int))])
  else s
def titer (b : List UInt8) : Nat → Nat × List Tok
  | 0 => (0, [])
  | m + 1 => tstep b (titer b m)
def toks (b : List UInt8) : List Tok := (titer b b.length).2
theorem tstep_done (b : List UInt8) (s : Nat × List Tok) (h : b.length ≤ s.1) : tstep b s = s := by unfold tstep; rw [if_neg (by omega)]
theorem titer_le (b : List UInt8) (m : Nat) : (titer b m).1 ≤ b.length ∧ (b.length ≤ (titer b m).1 ∨ m ≤ (titer b m).1) ∧ (titer b m).2.length ≤ (titer b m).1 := by
  induction m with
  | zero => simp [titer]
  | succ m ih =>
    obtain ⟨h1, h2, h3⟩ := ih
    have hl := longest_le b (titer b m).1
    unfold titer tstep
    by_cases ha : (titer b m).1 < b.length
    · rw [if_pos ha]
      by_cases hb : (longest b (titer b m).1).1 = 0 ∨ ((titer b m).1 + 1 < b.length ∧ (longest b (titer b m).1).1 < (longest b ((titer b m).1 + 1)).1)
      · rw [if_pos hb]; simp; omega
      · rw [if_neg hb]; simp
        have : 0 < (longest b (titer b m).1).1 := by omega
        omega
    · rw [if_neg ha]; omega
theorem titer_add (b : List UInt8) (m j : Nat) (h : b.length ≤ (titer b m).1) : titer b (m + j) = titer b m := by
  induction j with
  | zero => rfl
  | succ j ih => show tstep b (titer b (m + j)) = _; rw [ih, tstep_done b _ h]
theorem titer_done (b : List UInt8) (m : Nat) (h : b.length ≤ (titer b m).1) : (titer b m).2 = toks b := by
  unfold toks
  have h2 : b.length ≤ (titer b b.length).1 := by have := (titer_le b b.length).2.1; omega
  rcases Nat.le_total m b.length with hm | hm
  · obtain ⟨j, hj⟩ := Nat.exists_eq_add_of_le hm
    rw [hj, titer_add b m j h]
  · obtain ⟨j, hj⟩ := Nat.exists_eq_add_of_le hm
    have := titer_add b b.length j h2
    rw [hj, this]

/-- so many bytes that stood d ahead, one after another -/
def cpy (d : Nat) : Nat → List UInt8 → List UInt8
  | 0, l => l
  | n + 1, l => cpy d n l ++ [(cpy d n l).getD ((cpy d n l).length - d) 0]
def putTok (l : List UInt8) (t : Tok) : List UInt8 := if t.2.1 = 0 then l ++ [t.1] else cpy t.2.2.toNat t.2.1.toNat l
def expand (ts : List Tok) : List UInt8 := ts.foldl putTok []
theorem cpy_length (d n : Nat) (l : List UInt8) : (cpy d n l).length = l.length + n := by
  induction n with
  | zero => rfl
  | succ n ih => simp [cpy, ih]; omega
theorem cpy_take (b : List UInt8) (k d n : Nat) (hd0 : 0 < d) (hd : d ≤ k) (hn : n ≤ sameN b (k - d) k) : cpy d n (b.take k) = b.take (k + n) := by
  induction n with
  | zero => rfl
  | succ n ih =>
    obtain ⟨h2, h3⟩ := same_get b (k - d) k n (by omega) (by omega)
    have e := ih (by omega)
    simp only [cpy]
    rw [e]
    have hlen : (b.take (k + n)).length = k + n := by simp; omega
    rw [hlen, ← Nat.add_assoc, List.take_succ_eq_append_getElem h2]
    congr 2
    rw [List.getD_eq_getElem?_getD, List.getElem?_take, if_pos (by omega), List.getElem?_eq_getElem (by omega)]
    have : k + n - d = k - d + n := by omega
    simp only [this, Option.getD_some]
    exact h3
theorem expand_titer (b : List UInt8) (m : Nat) : expand (titer b m).2 = b.take (titer b m).1 := by
  induction m with
  | zero => simp [titer, expand]
  | succ m ih =>
    have hle := titer_le b m
    have hl := longest_le b (titer b m).1
    unfold titer tstep
    by_cases ha : (titer b m).1 < b.length
    · rw [if_pos ha]
      by_cases hb : (longest b (titer b m).1).1 = 0 ∨ ((titer b m).1 + 1 < b.length ∧ (longest b (titer b m).1).1 < (longest b ((titer b m).1 + 1)).1)
      · rw [if_pos hb]
        unfold expand at ih ⊢
        rw [List.foldl_append, ih]
        simp only [List.foldl_cons, List.foldl_nil, putTok, if_true]
        rw [List.take_succ_eq_append_getElem ha, List.getD_eq_getElem?_getD, List.getElem?_eq_getElem ha]; rfl
      · rw [if_neg hb]
        unfold expand at ih ⊢
        rw [List.foldl_append, ih]
        have h0 : 0 < (longest b (titer b m).1).1 := by omega
        obtain ⟨h3, h4, h5⟩ := hl.2.2.2 h0
        simp only [List.foldl_cons, List.foldl_nil, putTok]
        rw [if_neg (by omega)]
        simp only [Int.toNat_natCast]
        exact cpy_take b _ _ _ h4 hl.2.2.1 (by omega)
    · rw [if_neg ha]; exact ih
theorem titer_end (b : List UInt8) : (titer b b.length).1 = b.length := by
  have := titer_le b b.length; omega
theorem expand_toks (b : List UInt8) : expand (toks b) = b := by
  unfold toks; rw [expand_titer, titer_end, List.take_length]
theorem toks_len (b : List UInt8) : (toks b).length ≤ b.length := by
  have := titer_le b b.length; unfold toks; omega

/-- what is wrong with a token behind so many bytes; how many they are then -/
def chkTok (n : Int) (t : Tok) : Int × Int :=
  if t.2.1 = 0 then (if t.2.2 ≠ 0 then (4, n) else (0, n + 1))
  else if t.1 ≠ 0 then (4, n)
  else if t.2.1 < 3 ∨ 258 < t.2.1 ∨ t.2.2 < 1 then (3, n)
  else if n < t.2.2 then (9, n)
  else (0, n + t.2.1)
def chkAll : List Tok → Int → Int × Int
  | [], n => (0, n)
  | t :: ts, n => if (chkTok n t).1 = 0 then chkAll ts (chkTok n t).2 else ((chkTok n t).1, n)
def chk (ts : List Tok) : Int := if 3000 < ts.length then 2 else if (chkAll ts 0).1 ≠ 0 then (chkAll ts 0).1 else if 3000 < (chkAll ts 0).2 then 2 else 0
theorem chkAll_append (a c : List Tok) (n : Int) (h : (chkAll a n).1 = 0) : chkAll (a ++ c) n = chkAll c (chkAll a n).2 := by
  induction a generalizing n with
  | nil => rfl
  | cons t a ih =>
    simp only [List.cons_append, chkAll] at h ⊢
    split
    · rename_i h1; rw [if_pos h1] at h; rw [ih _ h]
    · rename_i h1; rw [if_neg h1] at h; exact absurd h h1
theorem chkTok_ok (n s f : Int) (h1 : 3 ≤ s) (h2 : s ≤ 258) (h3 : 1 ≤ f) (h4 : f ≤ n) : chkTok n (0, s, f) = (0, n + s) := by
  unfold chkTok
  dsimp only
  rw [if_neg (by omega), if_neg (by simp), if_neg (by omega), if_neg (by omega)]
theorem chkAll_titer (b : List UInt8) (m : Nat) : chkAll (titer b m).2 0 = (0, ((titer b m).1 : Int)) := by
  induction m with
  | zero => simp [titer, chkAll]
  | succ m ih =>
    have hl := longest_le b (titer b m).1
    unfold titer tstep
    by_cases ha : (titer b m).1 < b.length
    · rw [if_pos ha]
      by_cases hb : (longest b (titer b m).1).1 = 0 ∨ ((titer b m).1 + 1 < b.length ∧ (longest b (titer b m).1).1 < (longest b ((titer b m).1 + 1)).1)
      · rw [if_pos hb, chkAll_append _ _ _ (by rw [ih]), ih]
        simp [chkAll, chkTok]
      · rw [if_neg hb, chkAll_append _ _ _ (by rw [ih]), ih]
        have h0 : 0 < (longest b (titer b m).1).1 := by omega
        obtain ⟨h3, h4, h5⟩ := hl.2.2.2 h0
        have e := chkTok_ok ((titer b m).1 : Int) ((longest b (titer b m).1).1 : Int) ((longest b (titer b m).1).2 : Int) (by omega) (by omega) (by omega) (by omega)
        unfold chkAll chkAll
        rw [e]
        simp
    · rw [if_neg ha]; exact ih
theorem chk_toks (b : List UInt8) (hb : b.length ≤ 3000) : chk (toks b) = 0 := by
  have h1 := toks_len b
  have h2 : chkAll (toks b) 0 = (0, (b.length : Int)) := by unfold toks; rw [chkAll_titer, titer_end]
  unfold chk
  rw [if_neg (by omega), h2]
  simp; omega
/-- right tokens say as many bytes as were counted, and none goes back beyond the beginning -/
theorem expand_count (ts : List Tok) (l : List UInt8) (h : (chkAll ts (l.length : Int)).1 = 0) : ((ts.foldl putTok l).length : Int) = (chkAll ts (l.length : Int)).2 := by
  induction ts generalizing l with
  | nil => simp [chkAll]
  | cons t ts ih =>
    simp only [chkAll, List.foldl_cons] at h ⊢
    split
    · rename_i h1
      rw [if_pos h1] at h
      have e : (chkTok (l.length : Int) t).2 = ((putTok l t).length : Int) := by
        unfold chkTok at h1 ⊢
        unfold putTok
        by_cases g : t.2.1 = 0
        · rw [if_pos g] at h1 ⊢
          rw [if_pos g]
          by_cases g2 : t.2.2 = 0
          · rw [if_neg (by simp [g2])]; simp
          · rw [if_pos g2] at h1; simp at h1
        · rw [if_neg g] at h1 ⊢
          rw [if_neg g]
          by_cases g2 : t.1 ≠ 0
          · rw [if_pos g2] at h1; simp at h1
          · rw [if_neg g2] at h1 ⊢
            by_cases g3 : t.2.1 < 3 ∨ 258 < t.2.1 ∨ t.2.2 < 1
            · rw [if_pos g3] at h1; simp at h1
            · rw [if_neg g3] at h1 ⊢
              by_cases g4 : (l.length : Int) < t.2.2
              · rw [if_pos g4] at h1; simp at h1
              · rw [if_neg g4, cpy_length]; simp; omega
      rw [e] at h ⊢
      exact ih _ h
    · rename_i h1; rw [if_neg h1] at h; exact absurd h h1
end Go.Proofs.Ytoncjlbgheaabaa.Match
