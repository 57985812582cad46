/- package inflate: bytes stored by hand, block by block, are unpacked. No program in sight. -/
import Derived.Test.YthfbjgdophjelaaInfMono
namespace Go.Proofs.Ythfbjgdophjelaa.Inf
open Go.Proofs.Ythfbjgdophjelaa.Bits Go.Proofs.Ythfbjgdophjelaa.Code
set_option linter.unusedVariables false

/-- a number that stands in the middle of a row -/
theorem get_mid {row a m z : List Bool} {n p : Nat} (hr : row = a ++ (m ++ z)) (hp : p = a.length) (hm : m.length = n) : getR row p n = .ok (num m, p + n) := by
  subst hr hp hm
  unfold getR
  rw [if_pos (by simp), List.drop_left, List.take_left]
theorem bits_one (x : UInt8) : bitsL [x] = bitsOf x := by unfold bitsL; simp
theorem num_bitsOf (x : UInt8) : num (bitsOf x) = x.toNat := by
  unfold bitsOf
  rw [num_numBits]
  exact Nat.mod_eq_of_lt x.toNat_lt
theorem num16 (a b : UInt8) : num (bitsOf a ++ bitsOf b) = a.toNat + 256 * b.toNat := by
  rw [num_append, num_bitsOf, num_bitsOf, bitsOf_length]
theorem raw_mid {row z : List Bool} : ∀ {bs : List UInt8} {a : List Bool} {out : List UInt8}, row = a ++ (bitsL bs ++ z) → out.length + bs.length ≤ 3000 → rawR row bs.length a.length out = .ok (a.length + 8 * bs.length, out ++ bs)
  | [], a, out, hr, hf => by simp [rawR]
  | x :: bs, a, out, hr, hf => by
    have hx : getR row a.length 8 = .ok (x.toNat, a.length + 8) := by
      rw [← num_bitsOf x]
      exact get_mid (m := bitsOf x) (z := bitsL bs ++ z) (by rw [hr, bitsL_cons, List.append_assoc]) rfl (bitsOf_length x)
    have hc : UInt8.ofNat x.toNat = x := by simp
    rw [List.length_cons] at hf
    show (getR row a.length 8).then_ _ = _
    rw [hx, then_ok]
    show (pushR out (UInt8.ofNat x.toNat)).then_ _ = _
    rw [hc]
    unfold pushR
    rw [if_neg (by omega), then_ok]
    have h := raw_mid (row := row) (z := z) (bs := bs) (a := a ++ bitsOf x) (out := out ++ [x]) (by rw [hr, bitsL_cons]; simp) (by rw [List.length_append]; simp; omega)
    rw [List.length_append, bitsOf_length] at h
    rw [h, List.length_cons]
    simp [List.append_assoc]
    omega
/-- a stored block's bytes, from the next whole byte on -/
theorem stored_mid {row a z : List Bool} {p : Nat} {bs out : List UInt8} {l h nl nh : UInt8} (hr : row = a ++ (bitsL (l :: h :: nl :: nh :: bs) ++ z)) (hp : fillP p = a.length) (hl : l.toNat + 256 * h.toNat = bs.length)
    (hn : nl.toNat + 256 * nh.toNat + bs.length = 65535) (hf : out.length + bs.length ≤ 3000) : storedR row p out = .ok (a.length + 32 + 8 * bs.length, out ++ bs) := by
  have g1 : getR row (fillP p) 16 = .ok (bs.length, a.length + 16) := by
    rw [hp, ← hl, ← num16]
    exact get_mid (m := bitsOf l ++ bitsOf h) (z := bitsL (nl :: nh :: bs) ++ z) (by rw [hr]; simp [bitsL_cons]) rfl (by simp [bitsOf_length])
  have g2 : getR row (a.length + 16) 16 = .ok (nl.toNat + 256 * nh.toNat, a.length + 16 + 16) := by
    rw [← num16]
    exact get_mid (a := a ++ (bitsOf l ++ bitsOf h)) (m := bitsOf nl ++ bitsOf nh) (z := bitsL bs ++ z) (by rw [hr]; simp [bitsL_cons]) (by simp [bitsOf_length]) (by simp [bitsOf_length])
  unfold storedR
  rw [g1, then_ok]
  dsimp only
  rw [g2, then_ok]
  dsimp only
  rw [if_neg (by omega)]
  have := raw_mid (row := row) (z := z) (bs := bs) (a := a ++ (bitsOf l ++ bitsOf h ++ (bitsOf nl ++ bitsOf nh))) (out := out) (by rw [hr]; simp [bitsL_cons]) hf
  simp only [List.length_append, bitsOf_length] at this
  rw [show a.length + 16 + 16 = a.length + (8 + 8 + (8 + 8)) by omega, this]
def hdr (f : UInt8) (n : Nat) : List UInt8 := [f, UInt8.ofNat n, UInt8.ofNat (n / 256), UInt8.ofNat (255 - n % 256), UInt8.ofNat (255 - n / 256 % 256)]
def hand (ps : List (List UInt8)) : List UInt8 := (ps.map fun p => hdr 0 p.length ++ p).flatten
theorem ofNat_toNat (n : Nat) : (UInt8.ofNat n).toNat = n % 256 := by simp
/-- one block -/
theorem block_hand {row a z : List Bool} {f : UInt8} {bs out : List UInt8} (hr : row = a ++ (bitsL (hdr f bs.length ++ bs) ++ z)) (ha : a.length % 8 = 0) (hf : f = 0 ∨ f = 1) (hl : out.length + bs.length ≤ 3000) :
    blockR row a.length out = .ok (f == 1, 0, a.length + 40 + 8 * bs.length, out ++ bs) := by
  have e8 : bitsOf f = (f == 1) :: [false, false] ++ [false, false, false, false, false] := by rcases hf with rfl | rfl <;> decide
  have g1 : getR row a.length 1 = .ok ((f == 1).toNat, a.length + 1) := by
    have := get_mid (row := row) (a := a) (m := [f == 1]) (z := [false, false, false, false, false, false, false] ++ (bitsL (hdr f bs.length ++ bs).tail ++ z)) (n := 1) (by rw [hr]; simp [hdr, bitsL_cons, e8]) rfl rfl
    rw [this]
    simp [num]
  have g2 : getR row (a.length + 1) 2 = .ok (0, a.length + 1 + 2) := by
    have := get_mid (row := row) (a := a ++ [f == 1]) (m := [false, false]) (z := [false, false, false, false, false] ++ (bitsL (hdr f bs.length ++ bs).tail ++ z)) (n := 2) (p := a.length + 1) (by rw [hr]; simp [hdr, bitsL_cons, e8]) (by simp) rfl
    rw [this]
    simp [num]
  have g3 := stored_mid (row := row) (a := a ++ bitsOf f) (z := z) (p := a.length + 1 + 2) (bs := bs) (out := out) (l := UInt8.ofNat bs.length) (h := UInt8.ofNat (bs.length / 256)) (nl := UInt8.ofNat (255 - bs.length % 256)) (nh := UInt8.ofNat (255 - bs.length / 256 % 256))
    (by rw [hr]; simp [hdr, bitsL_cons]) (by unfold fillP; rw [List.length_append, bitsOf_length]; omega) (by rw [ofNat_toNat, ofNat_toNat]; omega) (by rw [ofNat_toNat, ofNat_toNat]; omega) hl
  unfold blockR
  rw [g1, then_ok]
  dsimp only
  rw [g2, then_ok]
  dsimp only
  rw [if_pos rfl, g3, then_ok]
  dsimp only
  rw [List.length_append, bitsOf_length]
  congr 2
  rcases hf with rfl | rfl <;> rfl
theorem blocks_unf (row : List Bool) (f p : Nat) (o : List UInt8) (ks : List Nat) : blocksR row (f + 1) p o ks = (blockR row p o).then_ fun x => if x.1 = true then .ok (x.2.2.1, x.2.2.2, ks ++ [x.2.1]) else blocksR row f x.2.2.1 x.2.2.2 (ks ++ [x.2.1]) := rfl
theorem hdr_length (f : UInt8) (n : Nat) : (hdr f n).length = 5 := rfl
theorem blocks_hand {row : List Bool} : ∀ {ps : List (List UInt8)} {pre : List UInt8} {out : List UInt8} {ks : List Nat} {f : Nat}, row = bitsL (pre ++ (hand ps ++ hdr 1 0)) → out.length + ps.flatten.length ≤ 3000 → ps.length < f →
    blocksR row f (8 * pre.length) out ks = .ok (8 * (pre ++ (hand ps ++ hdr 1 0)).length, out ++ ps.flatten, ks ++ List.replicate (ps.length + 1) 0)
  | [], pre, out, ks, 0, hr, hl, hf => by omega
  | [], pre, out, ks, f + 1, hr, hl, hf => by
    have h := block_hand (row := row) (a := bitsL pre) (z := []) (f := 1) (bs := []) (out := out) (by rw [hr]; simp [hand, bitsL_append]) (by rw [bitsL_length]; omega) (.inr rfl) (by simpa using hl)
    rw [bitsL_length] at h
    rw [blocks_unf, h, then_ok]
    simp [hand, hdr]
    omega
  | p :: ps, pre, out, ks, 0, hr, hl, hf => by omega
  | p :: ps, pre, out, ks, f + 1, hr, hl, hf => by
    rw [List.flatten_cons, List.length_append] at hl
    have h := block_hand (row := row) (a := bitsL pre) (z := bitsL (hand ps ++ hdr 1 0)) (f := 0) (bs := p) (out := out) (by rw [hr]; simp [hand, bitsL_append]) (by rw [bitsL_length]; omega) (.inl rfl) (by omega)
    rw [bitsL_length] at h
    have h2 := blocks_hand (row := row) (ps := ps) (pre := pre ++ (hdr 0 p.length ++ p)) (out := out ++ p) (ks := ks ++ [0]) (f := f) (by rw [hr]; simp [hand]) (by rw [List.length_append]; omega) (by rw [List.length_cons] at hf; omega)
    rw [blocks_unf, h, then_ok]
    rw [if_neg (by simp)]
    dsimp only
    rw [show 8 * pre.length + 40 + 8 * p.length = 8 * (pre ++ (hdr 0 p.length ++ p)).length by simp [hdr_length]; omega, h2]
    congr 2
    · simp [hand]
    · congr 1
      · simp
      · rw [List.append_assoc, List.length_cons, show ([0] : List Nat) = List.replicate 1 0 from rfl, List.replicate_append_replicate]
        congr 2
        omega
theorem unpack_hand {ps : List (List UInt8)} (hl : ps.flatten.length ≤ 3000) (hb : (hand ps ++ hdr 1 0).length ≤ 6000) : unpackR (hand ps ++ hdr 1 0) = .ok (ps.flatten, (hand ps ++ hdr 1 0).length, List.replicate (ps.length + 1) 0) := by
  have hn : ps.length ≤ (hand ps).length := by
    clear hl hb
    induction ps with
    | nil => simp
    | cons p ps ih =>
      unfold hand at ih ⊢
      rw [List.map_cons, List.flatten_cons, List.length_append, List.length_append, hdr_length, List.length_cons]
      omega
  unfold unpackR
  rw [if_neg (by omega)]
  have h := blocks_hand (row := bitsL (hand ps ++ hdr 1 0)) (ps := ps) (pre := []) (out := []) (ks := []) (f := 8 * (hand ps ++ hdr 1 0).length + 1) rfl (by simpa using hl) (by rw [List.length_append]; omega)
  rw [List.length_nil, Nat.mul_zero] at h
  rw [h, then_ok]
  simp only [List.nil_append]
  congr 3
  omega
end Go.Proofs.Ythfbjgdophjelaa.Inf
