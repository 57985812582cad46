/- bits.Turn, bits.Unpack: the walks. -/
import Derived.Test.YtoncjlbgheaabaaBitsPack
import Derived.Test.YtoncjlbgheaabaaSrc
import Derived.Test.YtoncjlbgheaabaaFuncI
namespace Go.Proofs.Ytoncjlbgheaabaa.Bits
open Go Go.RowKit Go.Proofs.Ytoncjlbgheaabaa
set_option linter.unusedVariables false

/-- the number whose bits stand the other way round -/
def turned (n size : Nat) : Nat := num (numBits n size).reverse
theorem turned_succ (n k : Nat) : turned n (k + 1) = 2 * turned n k + (n.testBit k).toNat := by
  unfold turned; rw [numBits_succ, List.reverse_append]; simp [num]; omega
theorem turned_lt (n k : Nat) : turned n k < 2 ^ k := by
  have := num_lt (numBits n k).reverse
  simpa [turned, numBits_length] using this
theorem or_turn (n k : Nat) (b : Bool) (hk : k ≤ 16) : bits .or .i64 ((turned n k : Int) * 2) (bitI b) = ((2 * turned n k + b.toNat : Nat) : Int) := by
  have h := turned_lt n k
  have h2 : 2 ^ k ≤ 2 ^ 16 := Nat.pow_le_pow_right (by omega) hk
  have hb : b.toNat ≤ 1 := by cases b <;> simp
  have e : ((turned n k : Int) * 2) = ((turned n k * 2 : Nat) : Int) := by simp
  rw [e]
  have := or64 (turned n k * 2) b.toNat 1 (by simp) (by simp; omega) (by omega)
  show bits .or .i64 _ (b.toNat : Int) = _
  rw [this, Nat.mul_comm]
theorem and_odd (n k : Nat) (h : n < 9223372036854775808) : bits .and .i64 ((n / 2 ^ k : Nat) : Int) 1 = bitI (n.testBit k) := by
  have := and_bitI n k h
  rwa [show (n : Int) / 2 ^ k = ((n / 2 ^ k : Nat) : Int) by simp] at this
theorem numBits_shift (n k : Nat) : n / 2 ^ (k + 1) = n / 2 ^ k / 2 := by
  rw [Nat.pow_succ, Nat.div_div_eq_div_mul]

/-- what Turn hands back -/
def TurnPost (n size : Int) (e : Ending) : Prop :=
  fits (n, size) = true ∧ e = .returned (.tuple #[.int .i64 (turned n.toNat size.toNat : Nat), .int .i64 0]) ∨ fits (n, size) = false ∧ e = .returned (.tuple #[.int .i64 0, .int .i64 3])
theorem turn_no (n size : Int) (w : World) (h : fits (n, size) = false) :
    Calls Try.prog 25 #[.int .i64 n, .int .i64 size] w fun e w' => TurnPost n size e ∧ w = w' := by
  have Hf := Lib.hid h
  by_cases h1 : size < 0
  · clear h
    go_enter Try.func25, Try.ntmps25
    go_wp2_with fail
    go_ret2
    exact ⟨.inr ⟨Hf.out, rfl⟩, rfl⟩
  · by_cases h2 : 16 < size
    · clear h
      go_enter Try.func25, Try.ntmps25
      go_wp2_with fail
      go_ret2
      exact ⟨.inr ⟨Hf.out, rfl⟩, rfl⟩
    · by_cases h3 : n < 0
      · clear h
        go_enter Try.func25, Try.ntmps25
        go_wp2_with fail
        go_ret2
        exact ⟨.inr ⟨Hf.out, rfl⟩, rfl⟩
      · have hq := fits_shr n size (by omega) (by omega) (by omega)
        rw [h] at hq
        simp only [Bool.not_false] at hq
        clear h
        go_enter Try.func25, Try.ntmps25
        go_wp2_with fail
        go_ret2
        exact ⟨.inr ⟨Hf.out, rfl⟩, rfl⟩
theorem turn_yes (n size : Nat) (w : World) (h : fits ((n : Int), (size : Int)) = true) (hn : n < 65536) (hs : size ≤ 16) :
    Calls Try.prog 25 #[.int .i64 (n : Int), .int .i64 (size : Int)] w fun e w' => TurnPost n size e ∧ w = w' := by
  have Hf := Lib.hid h
  have hq := fits_shr n size (by omega) (by omega) (by omega)
  rw [h] at hq
  simp only [Bool.not_true, Int.toNat_natCast] at hq
  have h1 : ¬ ((size : Int) < 0) := by omega
  have h2 : ¬ (16 < (size : Int)) := by omega
  have h3 : ¬ ((n : Int) < 0) := by omega
  have h4 : (0 : Int) ≤ (size : Int) := by omega
  clear h
  go_enter Try.func25, Try.ntmps25
  go_wp2_with fail
  clear hq
  go_loop [0, 6, 24] (fun m o i => ∃ k : Nat, k ≤ size ∧ i = .int .i64 k ∧ m = .int .i64 (n / 2 ^ k : Nat) ∧ o = .int .i64 (turned n k : Nat)) (fun _ _ i => size - (intOf i).toNat)
  case atStart => exact ⟨0, Nat.zero_le _, rfl, by simp, rfl⟩
  case round =>
    obtain ⟨k, hk, rfl, rfl, rfl⟩ := hrel
    by_cases hlt : k < size
    · have hand := and_odd n k (by omega)
      have hor := or_turn n k (n.testBit k) (by omega)
      have Hs := Lib.hid (turned_succ n k)
      have Hd := Lib.hid (numBits_shift n k)
      have hlt2 := turned_lt n k
      have hp2 : 2 ^ k ≤ 2 ^ 16 := Nat.pow_le_pow_right (by omega) (by omega)
      have hm : n / 2 ^ k ≤ n := Nat.div_le_self _ _
      have ht : turned n k < 65536 := by omega
      generalize turned n k = o at *
      generalize n.testBit k = b at *
      generalize hmm : n / 2 ^ k = m at *
      clear hlt2 hp2 hmm
      go_wp2_with fail
      go_round
      case rel => exact ⟨k + 1, by omega, by go_num, int_eq (by rw [Hd.out]; omega), int_eq (by rw [Hs.out]; omega)⟩
      case measure => simp [intOf]; omega
    · obtain rfl : k = size := by omega
      go_wp2_with fail
      go_ret2
      exact ⟨.inl ⟨Hf.out, rfl⟩, rfl⟩
theorem turn_any (n size : Int) (w : World) : Calls Try.prog 25 #[.int .i64 n, .int .i64 size] w fun e w' => TurnPost n size e ∧ w = w' := by
  cases h : fits (n, size) with
  | false => exact turn_no n size w h
  | true =>
    have h2 := h
    simp [fits] at h2
    obtain ⟨⟨⟨a, b⟩, c⟩, d⟩ := h2
    obtain ⟨m, rfl⟩ := Int.eq_ofNat_of_zero_le c
    obtain ⟨z, rfl⟩ := Int.eq_ofNat_of_zero_le a
    have hz : z ≤ 16 := by omega
    have hp : (2 : Int) ^ z ≤ 65536 := by
      have : (2 : Nat) ^ z ≤ 2 ^ 16 := Nat.pow_le_pow_right (by omega) hz
      have h3 : ((2 ^ z : Nat) : Int) ≤ ((2 ^ 16 : Nat) : Int) := by omega
      simpa using h3
    simp only [Int.toNat_natCast] at d
    exact turn_yes m z w h (by omega) hz

/-- the numbers of these sizes -/
def unpackL : List Bool → List Nat → List Nat
  | _, [] => []
  | bs, s :: r => num (bs.take s) :: unpackL (bs.drop s) r
theorem unpackL_snoc (bs : List Bool) (l : List Nat) (s : Nat) : unpackL bs (l ++ [s]) = unpackL bs l ++ [num ((bs.drop l.sum).take s)] := by
  induction l generalizing bs with
  | nil => simp [unpackL]
  | cons a l ih => simp [unpackL, ih, List.drop_drop]
theorem unpackL_length (bs : List Bool) (l : List Nat) : (unpackL bs l).length = l.length := by
  induction l generalizing bs with
  | nil => rfl
  | cons a l ih => simp [unpackL, ih]
theorem unpackL_lt (bs : List Bool) (l : List Nat) (h : ∀ s ∈ l, s ≤ 16) : ∀ x ∈ unpackL bs l, x < 65536 := by
  induction l generalizing bs with
  | nil => simp [unpackL]
  | cons a l ih =>
    intro x hx
    simp only [unpackL, List.mem_cons] at hx
    rcases hx with rfl | hx
    · have h1 := num_lt (bs.take a)
      have h2 : (bs.take a).length ≤ 16 := by have := h a (by simp); simp; omega
      have h3 : 2 ^ (bs.take a).length ≤ 2 ^ 16 := Nat.pow_le_pow_right (by omega) h2
      omega
    · exact ih _ (fun s hs => h s (by simp [hs])) x hx
theorem tyI : SliceTy Try.prog 24 3 (.int .i64 0) 1 8 := ⟨Try.underlying24, by kernel_rfl, rfl, by omega⟩
def natV (n : Nat) : Value := .int .i64 (n : Int)
def badSize (x : Int) : Bool := decide (x < 0) || decide (16 < x)
theorem badSize_any (x : Int) (w : World) : Calls Try.prog 53 #[.int .i64 x] w fun e w' => e = .returned (.bool (badSize x)) ∧ w = w' := by
  by_cases h1 : x < 0
  · have hb : badSize x = true := by simp [badSize, h1]
    rw [hb]
    go_enter Try.func53, Try.ntmps53
    go_wp2
    go_ret
    exact ⟨rfl, rfl⟩
  · have hb : badSize x = decide (16 < x) := by simp [badSize, h1]
    rw [hb]
    go_enter Try.func53, Try.ntmps53
    go_wp2
    go_ret
    exact ⟨rfl, rfl⟩
/-- what Unpack hands back -/
def UnpackPost (xs : List UInt8) (zs : List Int) (w : World) (e : Ending) (w' : World) : Prop :=
  (zs.any badSize = true ∧ e = .returned (.tuple #[.slice none 0 0, .int .i64 3]) ∨
   zs.any badSize = false ∧ (zs.map Int.toNat).sum ≤ 8 * xs.length ∧ (∃ v, e = .returned (.tuple #[v, .int .i64 0]) ∧ w'.ownsRow w.heap.size 3 1 v zs.length ((unpackL (bitsL xs) (zs.map Int.toNat)).map natV)) ∨
   zs.any badSize = false ∧ 8 * xs.length < (zs.map Int.toNat).sum ∧ e = .returned (.tuple #[.slice none 0 0, .int .i64 7])) ∧ Below w.heap.size w w'
theorem sum_take_le' (l : List Nat) (k : Nat) : (l.take k).sum ≤ l.sum := by
  induction l generalizing k with
  | nil => simp
  | cons a l ih => cases k with
    | zero => simp
    | succ k => simp only [List.take_succ_cons, List.sum_cons]; have := ih k; omega

set_option maxRecDepth 100000 in
set_option maxHeartbeats 1600000 in
theorem unpack_any (A B : Option Addr) (n m ca cb : Nat) (xs : List UInt8) (zs : List Int) (w : World) (hn : xs.length = n) (hm : zs.length = m) (hn6 : n ≤ 6000) (hm3 : m ≤ 3000) (hA : ByAt w A xs) (hB : InAt w B zs) (hz : ∀ x ∈ zs, wfI x) :
    Calls Try.prog 27 #[.slice A n ca, .slice B m cb] w (UnpackPost xs zs w) := by
  have h6 : ¬ (6000 < (n : Int)) := by omega
  have h3 : ¬ (3000 < (m : Int)) := by omega
  have Hn := Lib.hid hn
  have Hm := Lib.hid hm
  have HA := Lib.hid hA
  have HB := Lib.hid hB
  have Hz := Lib.hid hz
  clear hn hm hA hB hz
  go_enter Try.func27, Try.ntmps27
  go_wp2_with fail
  refine (containsFunc_ints B m cb zs 53 #[] badSize _ Hm.out (by unfold maxLen; omega) HB.out (fun _ _ => by kernel_rfl) (fun x _ w' _ => ?_)).mono ?_
  · refine (badSize_any x w').mono ?_
    rintro e w2 ⟨rfl, rfl⟩
    exact ⟨rfl, Below.refl _ _⟩
  rintro e w1 ⟨rfl, hb1⟩
  have Hb1 := Lib.hid hb1
  clear hb1
  cases hbad : zs.any badSize with
  | true =>
    have Hbad := Lib.hid hbad
    clear hbad
    go_wp2_with fail
    go_ret2
    exact ⟨.inl ⟨Hbad.out, rfl⟩, Hb1.out⟩
  | false =>
    have Hbad := Lib.hid hbad
    clear hbad
    go_wp2_with fail
    refine (of_any A n ca _).mono ?_
    rintro e w2 ⟨rfl, hsrc, hb2⟩
    have Hb2 := Lib.hid (Hb1.out.trans (hb2.mono Hb1.out.size))
    have Hp := Lib.hid Hb1.out.size
    have Hsrc := Lib.hid hsrc
    clear hb2 hsrc
    generalize w1.heap.size = p at *
    go_wp2_with fail
    go_loopw [7, 26] (fun v i wr => ∃ k : Nat, k ≤ m ∧ ((zs.map Int.toNat).take k).sum ≤ 8 * n ∧ i = .int .i64 k ∧ wr.ownsRow w.heap.size 3 1 v k ((unpackL (bitsL xs) ((zs.map Int.toNat).take k)).map natV) ∧ SrcAt wr p A n ca ((zs.map Int.toNat).take k).sum ∧ Below w.heap.size w wr) (fun _ i _ => m - (intOf i).toNat)
    case atStart => exact ⟨0, Nat.zero_le _, by simp, rfl, World.ownsRow_nil _ _ _ _, Hsrc.out, Hb2.out⟩
    case round =>
      obtain ⟨k, hk, hsum, rfl, hown, hs, hbr⟩ := hrel
      have Hown := Lib.hid hown
      have Hs := Lib.hid hs
      have Hbr := Lib.hid hbr
      clear hown hs
      by_cases hlt : k < m
      · have hkx : k < zs.length := by rw [Hm.out]; exact hlt
        have hkt : k < (zs.map Int.toNat).length := by simpa using hkx
        obtain ⟨b, o, rfl, hc⟩ := (HB.out.below hbr).get hkx
        have hz0 : badSize zs[k] = false := by
          have := Hbad.out
          rw [List.any_eq_false] at this
          simpa using this zs[k] (List.getElem_mem hkx)
        have hzb : 0 ≤ zs[k] ∧ zs[k] ≤ 16 := by simp [badSize] at hz0; omega
        have Hsum := Lib.hid (show ((zs.map Int.toNat).take (k + 1)).sum = ((zs.map Int.toNat).take k).sum + zs[k].toNat by rw [take_snoc _ _ hkt]; simp)
        have Hun := Lib.hid (show unpackL (bitsL xs) ((zs.map Int.toNat).take (k + 1)) = unpackL (bitsL xs) ((zs.map Int.toNat).take k) ++ [num (((bitsL xs).drop ((zs.map Int.toNat).take k).sum).take zs[k].toNat)] by rw [take_snoc _ _ hkt, unpackL_snoc]; simp)
        have Hle := Lib.hid (sum_take_le' (zs.map Int.toNat) (k + 1))
        have HAr := Lib.hid (HA.out.below hbr)
        generalize zs[k] = z at *
        obtain ⟨s, rfl⟩ := Int.eq_ofNat_of_zero_le hzb.1
        simp only [Int.toNat_natCast] at Hsum Hun
        generalize ((zs.map Int.toNat).take k).sum = pos at *
        clear hbr hz0
        have Hne := Lib.hid (show ∀ b o, A = some ⟨b, o, none⟩ → 0 < n → b ≠ p from fun b o e h0 => by
          obtain ⟨b', o', e', hc'⟩ := HA.out.get (k := 0) (by rw [Hn.out]; exact h0)
          rw [e] at e'; injection e' with e'; injection e' with e1 _ _
          have := block_lt_of_cell hc'
          simp at this
          have := Hp.out
          omega)
        go_wp2_with fail
        refine (get_any p A n ca pos s xs _ Hs.out Hn.out HAr.out (by omega) hsum (by omega) Hne.out).mono ?_
        rintro e w3 ⟨hg, hkp⟩
        have Hb3 := Lib.hid (Hbr.out.trans (hkp.below.mono Hp.out))
        have Hown3 := Lib.hid (hkp.own Hown.out (by decide))
        clear hkp
        rcases hg with ⟨hfit, rfl, hs3⟩ | ⟨hno, rfl, q, hs3⟩
        · have Hs3 := Lib.hid hs3
          clear hs3
          have hv : num (((bitsL xs).drop pos).take s) < 65536 := by
            have h1 := num_lt (((bitsL xs).drop pos).take s)
            have h2 : (((bitsL xs).drop pos).take s).length ≤ 16 := by simp; omega
            have h3 : 2 ^ (((bitsL xs).drop pos).take s).length ≤ 2 ^ 16 := Nat.pow_le_pow_right (by omega) h2
            omega
          generalize num (((bitsL xs).drop pos).take s) = x at *
          have Hone := Lib.hid (slat_one w3 3 (.int .i64 (x : Int)))
          have Hown4 := Lib.hid (Hown3.out.alloc (.cells #[.int .i64 (x : Int)] 3))
          have Hb4 := Lib.hid (Hb3.out.alloc Hb3.out.size (.cells #[.int .i64 (x : Int)] 3))
          have Hs4 := Lib.hid (Hs3.out.alloc (.cells #[.int .i64 (x : Int)] 3))
          go_wp2_with (at_builtin; refine wpList_appb rfl (.tmp 38) (.tmp 40) _ rfl 3 _ 1 8 tyI _ k _ rfl Hown4.out Hb4.out (some ⟨w3.heap.size, 0, none⟩) 1 1 [.int .i64 (x : Int)] rfl rfl Hone.out (by simp [Value.oneCell']) (by simp) (by unfold maxLen; omega) (by omega) ?_; intro v5 w5 hown5 hb5 hg5 _; have Ho5 := Lib.hid hown5; have Hb5 := Lib.hid hb5; have Hs5 := Lib.hid (Hs4.out.grown hg5 (own_ne Hown4.out Hs4.out (by decide))); clear hown5 hb5 hg5)
          go_roundw
          case rel =>
            refine ⟨k + 1, by omega, by rw [Hsum.out]; exact hfit, by go_num, ?_, by rw [Hsum.out]; exact Hs5.out, Hb5.out⟩
            rw [Hun.out, List.map_append]; exact Ho5.out
          case measure => simp [intOf]; omega
        · go_wp2_with fail
          go_ret2
          exact ⟨.inr (.inr ⟨Hbad.out, by rw [Hn.out]; have := Hle.out; rw [Hsum.out] at this; omega, rfl⟩), Hb3.out⟩
      · have hk2 : k = m := by omega
        have Hall := Lib.hid (show (zs.map Int.toNat).take k = zs.map Int.toNat from List.take_of_length_le (by rw [List.length_map, Hm.out]; omega))
        have Hk2 := Lib.hid hk2
        clear hbr hk2
        go_wp2_with fail
        go_ret2
        refine ⟨.inr (.inl ⟨Hbad.out, by rw [Hn.out, ← Hall.out]; exact hsum, _, rfl, ?_⟩), Hbr.out⟩
        have := Hown.out
        rw [Hall.out, Hk2.out] at this
        rw [Hm.out]; exact this
end Go.Proofs.Ytoncjlbgheaabaa.Bits
