/- package inflate: what blocks of bits say; the plain law. No program in sight. -/
import Derived.Test.YthfbjgdophjelaaCodePure
namespace Go.Proofs.Ythfbjgdophjelaa.Inf
open Go.Proofs.Ythfbjgdophjelaa.Bits Go.Proofs.Ythfbjgdophjelaa.Code
set_option linter.unusedVariables false

/-- what reading gives: a value, or what is wrong -/
inductive Rd (α : Type) where
  | bad (e : Int)
  | ok (a : α)
def Rd.then_ {α β : Type} (r : Rd α) (f : α → Rd β) : Rd β := match r with | .bad e => .bad e | .ok a => f a
theorem then_ok {α β : Type} (a : α) (f : α → Rd β) : (Rd.ok a).then_ f = f a := rfl
theorem then_bad {α β : Type} (e : Int) (f : α → Rd β) : (Rd.bad e : Rd α).then_ f = .bad e := rfl
/-- a number of n bits -/
def getR (row : List Bool) (p n : Nat) : Rd (Nat × Nat) := if p + n ≤ row.length then .ok (num ((row.drop p).take n), p + n) else .bad 7
def symR (row : List Bool) (ls : List Nat) (p : Nat) : Rd (Nat × Nat) :=
  if (next ls (row.drop p)).2.2 = 0 then .ok ((next ls (row.drop p)).1, p + (next ls (row.drop p)).2.1) else .bad (next ls (row.drop p)).2.2
def pushR (out : List UInt8) (x : UInt8) : Rd (List UInt8) := if out.length = 3000 then .bad 2 else .ok (out ++ [x])
def fillP (p : Nat) : Nat := (p + 7) / 8 * 8
/-- so many bytes, as they stand -/
def rawR (row : List Bool) : Nat → Nat → List UInt8 → Rd (Nat × List UInt8)
  | 0, p, out => .ok (p, out)
  | n + 1, p, out => (getR row p 8).then_ fun x => (pushR out (UInt8.ofNat x.1)).then_ fun o => rawR row n x.2 o
def storedR (row : List Bool) (p : Nat) (out : List UInt8) : Rd (Nat × List UInt8) :=
  (getR row (fillP p) 16).then_ fun x => (getR row x.2 16).then_ fun y => if x.1 + y.1 ≠ 65535 then .bad 4 else rawR row x.1 y.2 out
def tableR (zs : List Int) : Rd (List Nat) := if chkL zs = 0 then .ok (lsOf zs) else .bad 8
/-- the same length so many times -/
def againR (n : Nat) (l : List Nat) (v k : Nat) : Rd (List Nat) := if n < l.length + k then .bad 8 else .ok (l ++ List.replicate k v)
def lenStep (row : List Bool) (ls : List Nat) (n p : Nat) (l : List Nat) : Rd (Nat × List Nat) :=
  (symR row ls p).then_ fun k =>
    if k.1 = 16 then (if l = [] then .bad 8 else (getR row k.2 2).then_ fun x => (againR n l (l.getLastD 0) (3 + x.1)).then_ fun m => .ok (x.2, m))
    else if k.1 = 17 then (getR row k.2 3).then_ fun x => (againR n l 0 (3 + x.1)).then_ fun m => .ok (x.2, m)
    else if k.1 = 18 then (getR row k.2 7).then_ fun x => (againR n l 0 (11 + x.1)).then_ fun m => .ok (x.2, m)
    else (againR n l k.1 1).then_ fun m => .ok (k.2, m)
def lenR (row : List Bool) (ls : List Nat) (n : Nat) : Nat → Nat → List Nat → Rd (Nat × List Nat)
  | 0, p, l => .ok (p, l)
  | f + 1, p, l => if n ≤ l.length then .ok (p, l) else (lenStep row ls n p l).then_ fun x => lenR row ls n f x.1 x.2
def orderL : List Nat := [16, 17, 18, 0, 8, 7, 9, 6, 10, 5, 11, 4, 12, 3, 13, 2, 14, 1, 15]
def sizesR (row : List Bool) : List Nat → Nat → List Nat → Rd (Nat × List Nat)
  | [], p, s => .ok (p, s)
  | k :: ks, p, s => (getR row p 3).then_ fun x => sizesR row ks x.2 (s.set k x.1)
def zsOf (l : List Nat) : List Int := l.map Int.ofNat
def headR (row : List Bool) (p : Nat) : Rd (Nat × List Nat × List Nat) :=
  (getR row p 5).then_ fun a => (getR row a.2 5).then_ fun b => (getR row b.2 4).then_ fun c =>
    if 286 < a.1 + 257 ∨ 30 < b.1 + 1 then .bad 8
    else (sizesR row (orderL.take (c.1 + 4)) c.2 (List.replicate 19 0)).then_ fun s => (tableR (zsOf s.2)).then_ fun t =>
      (lenR row t (a.1 + 257 + (b.1 + 1)) (a.1 + 257 + (b.1 + 1)) s.1 []).then_ fun l =>
        if l.2.getD 256 0 = 0 then .bad 8
        else (tableR (zsOf (l.2.take (a.1 + 257)))).then_ fun x => (tableR (zsOf (l.2.drop (a.1 + 257)))).then_ fun y => .ok (l.1, x, y)
def sameL : List (Nat × Nat) := [(3, 0), (4, 0), (5, 0), (6, 0), (7, 0), (8, 0), (9, 0), (10, 0), (11, 1), (13, 1), (15, 1), (17, 1), (19, 2), (23, 2), (27, 2), (31, 2), (35, 3), (43, 3), (51, 3), (59, 3), (67, 4), (83, 4), (99, 4), (115, 4), (131, 5), (163, 5), (195, 5), (227, 5), (258, 0)]
def farL : List (Nat × Nat) := [(1, 0), (2, 0), (3, 0), (4, 0), (5, 1), (7, 1), (9, 2), (13, 2), (17, 3), (25, 3), (33, 4), (49, 4), (65, 5), (97, 5), (129, 6), (193, 6), (257, 7), (385, 7), (513, 8), (769, 8), (1025, 9), (1537, 9), (2049, 10), (3073, 10), (4097, 11), (6145, 11), (8193, 12), (12289, 12), (16385, 13), (24577, 13)]
def copyR (d : Nat) : Nat → List UInt8 → Rd (List UInt8)
  | 0, out => .ok out
  | n + 1, out => (pushR out (out.getD (out.length - d) 0)).then_ fun o => copyR d n o
/-- one symbol of a block's body: none: it ends -/
def bodyStep (row : List Bool) (lit far : List Nat) (p : Nat) (out : List UInt8) : Rd (Bool × Nat × List UInt8) :=
  (symR row lit p).then_ fun k =>
    if k.1 < 256 then (pushR out (UInt8.ofNat k.1)).then_ fun o => .ok (false, k.2, o)
    else if k.1 = 256 then .ok (true, k.2, out)
    else if 29 ≤ k.1 - 257 then .bad 8
    else (getR row k.2 (sameL.getD (k.1 - 257) (0, 0)).2).then_ fun x => (symR row far x.2).then_ fun f =>
      if 30 ≤ f.1 then .bad 8
      else (getR row f.2 (farL.getD f.1 (0, 0)).2).then_ fun y =>
        if out.length < (farL.getD f.1 (0, 0)).1 + y.1 then .bad 9
        else (copyR ((farL.getD f.1 (0, 0)).1 + y.1) ((sameL.getD (k.1 - 257) (0, 0)).1 + x.1) out).then_ fun o => .ok (false, y.2, o)
def bodyR (row : List Bool) (lit far : List Nat) : Nat → Nat → List UInt8 → Rd (Nat × List UInt8)
  | 0, p, out => .bad 7
  | f + 1, p, out => (bodyStep row lit far p out).then_ fun x => if x.1 = true then .ok x.2 else bodyR row lit far f x.2.1 x.2.2
def fixedA : List Nat := (List.range 288).map fun k => if 144 ≤ k ∧ k < 256 then 9 else if 256 ≤ k ∧ k < 280 then 7 else 8
def fixedB : List Nat := List.replicate 32 5
def blockR (row : List Bool) (p : Nat) (out : List UInt8) : Rd (Bool × Nat × Nat × List UInt8) :=
  (getR row p 1).then_ fun l => (getR row l.2 2).then_ fun k =>
    if k.1 = 0 then (storedR row k.2 out).then_ fun x => .ok (l.1 == 1, k.1, x.1, x.2)
    else if k.1 = 1 then (bodyR row fixedA fixedB (row.length + 1) k.2 out).then_ fun x => .ok (l.1 == 1, k.1, x.1, x.2)
    else if k.1 = 2 then (headR row k.2).then_ fun h => (bodyR row h.2.1 h.2.2 (row.length + 1) h.1 out).then_ fun x => .ok (l.1 == 1, k.1, x.1, x.2)
    else .bad 4
def blocksR (row : List Bool) : Nat → Nat → List UInt8 → List Nat → Rd (Nat × List UInt8 × List Nat)
  | 0, p, out, ks => .bad 7
  | f + 1, p, out, ks => (blockR row p out).then_ fun x => if x.1 = true then .ok (x.2.2.1, x.2.2.2, ks ++ [x.2.1]) else blocksR row f x.2.2.1 x.2.2.2 (ks ++ [x.2.1])
/-- what Unpack gives -/
def unpackR (b : List UInt8) : Rd (List UInt8 × Nat × List Nat) :=
  if 6000 < b.length then .bad 2 else (blocksR (bitsL b) (8 * b.length + 1) 0 [] []).then_ fun x => .ok (x.2.1, (x.1 + 7) / 8, x.2.2)

/-! ### a beginning of the row says the same, as far as it goes -/
/-- of a shorter row: the same, if what is read lies in it; else it ends too soon -/
def Cut {α : Type} (L : Nat) (pos : α → Nat) (r r' : Rd α) : Prop := ∀ a, r = .ok a → if pos a ≤ L then r' = .ok a else r' = .bad 7
theorem cut_get {row : List Bool} {L p n : Nat} (hp : p ≤ L) (hL : L ≤ row.length) : Cut L (fun x : Nat × Nat => x.2) (getR row p n) (getR (row.take L) p n) := by
  intro a ha
  unfold getR at ha
  split at ha
  · rename_i h
    injection ha with ha
    subst ha
    dsimp only
    unfold getR
    rw [List.length_take, Nat.min_eq_left hL]
    by_cases h2 : p + n ≤ L
    · rw [if_pos h2, if_pos h2]
      congr 3
      rw [List.drop_take, List.take_take, Nat.min_eq_left (by omega)]
    · rw [if_neg h2, if_neg h2]
  · cases ha
theorem cut_then {α β : Type} {L : Nat} {pa : α → Nat} {pb : β → Nat} {r r' : Rd α} {f f' : α → Rd β} (h : Cut L pa r r')
    (hf : ∀ a, r = .ok a → pa a ≤ L → Cut L pb (f a) (f' a)) (hm : ∀ a b, r = .ok a → f a = .ok b → pa a ≤ pb b) : Cut L pb (r.then_ f) (r'.then_ f') := by
  intro b hb
  cases hr : r with
  | bad e => rw [hr] at hb; cases hb
  | ok a =>
    rw [hr] at hb
    have h1 := h a hr
    by_cases hl : pa a ≤ L
    · rw [if_pos hl] at h1
      rw [h1, then_ok]
      exact hf a hr hl b hb
    · rw [if_neg hl] at h1
      have := hm a b hr hb
      rw [if_neg (by omega), h1]
      rfl
theorem nxt_take (ls : List Nat) (row : List Bool) (L : Nat) (hL : L ≤ row.length) : ∀ (k n i m : Nat), 1 ≤ n → nxt ls row k n = (i, m, 0) → n ≤ m ∧ m ≤ row.length ∧ (if m ≤ L then nxt ls (row.take L) k n = (i, m, 0) else nxt ls (row.take L) k n = (0, 0, 7))
  | 0, n, i, m, _, h => by simp [nxt] at h
  | k + 1, n, i, m, hn, h => by
    by_cases h1 : row.length < n
    · rw [nxt_torn _ _ _ _ h1] at h
      simp at h
    · cases hf : findC ls n (val (row.take n)) with
      | some j =>
        rw [nxt_hit ls row k n j (by omega) hf] at h
        simp only [Prod.mk.injEq] at h
        obtain ⟨rfl, rfl, _⟩ := h
        refine ⟨Nat.le_refl _, by omega, ?_⟩
        by_cases h2 : n ≤ L
        · rw [if_pos h2]
          refine nxt_hit ls _ k n j (by rw [List.length_take]; omega) ?_
          rw [List.take_take, Nat.min_eq_left h2]
          exact hf
        · rw [if_neg h2]
          exact nxt_torn _ _ _ _ (by rw [List.length_take]; omega)
      | none =>
        rw [nxt_miss ls row k n (by omega) hf] at h
        obtain ⟨h3, h4, h5⟩ := nxt_take ls row L hL k (n + 1) i m (by omega) h
        refine ⟨by omega, h4, ?_⟩
        by_cases h2 : n ≤ L
        · have e : nxt ls (row.take L) (k + 1) n = nxt ls (row.take L) k (n + 1) := by
            refine nxt_miss ls _ k n (by rw [List.length_take]; omega) ?_
            rw [List.take_take, Nat.min_eq_left h2]
            exact hf
          rw [e]
          exact h5
        · rw [if_neg (by omega)]
          exact nxt_torn _ _ _ _ (by rw [List.length_take]; omega)
theorem cut_sym {row : List Bool} {L p : Nat} {ls : List Nat} (hp : p ≤ L) (hL : L ≤ row.length) : Cut L (fun x : Nat × Nat => x.2) (symR row ls p) (symR (row.take L) ls p) := by
  intro a ha
  unfold symR at ha
  split at ha
  · rename_i h
    injection ha with ha
    obtain ⟨i, m, z, hn⟩ : ∃ i m z, next ls (row.drop p) = (i, m, z) := ⟨_, _, _, rfl⟩
    rw [hn] at h ha
    dsimp only at h ha
    subst h ha
    unfold next at hn
    obtain ⟨h1, h2, h3⟩ := nxt_take ls (row.drop p) (L - p) (by rw [List.length_drop]; omega) 15 1 i m (Nat.le_refl _) hn
    unfold symR next
    rw [List.drop_take]
    dsimp only
    by_cases h4 : m ≤ L - p
    · rw [if_pos h4] at h3
      rw [if_pos (by omega), h3]
      rfl
    · rw [if_neg h4] at h3
      rw [if_neg (by omega), h3]
      rfl
  · cases ha
end Go.Proofs.Ythfbjgdophjelaa.Inf
