/- bits.Pack: the walk. -/
import Derived.Test.YtoncjlbgheaabaaRow
import Derived.Test.YtoncjlbgheaabaaPairs
namespace Go.Proofs.Ytoncjlbgheaabaa.Bits
open Go Go.RowKit Go.Proofs.Ytoncjlbgheaabaa
set_option linter.unusedVariables false

/-- is x a number of so many bits, and these from 0 to 16? -/
def fits (p : Int × Int) : Bool := decide (0 ≤ p.2) && decide (p.2 ≤ 16) && decide (0 ≤ p.1) && decide (p.1 < 2 ^ p.2.toNat)
def bitsP (l : List (Int × Int)) : List Bool := l.flatMap fun p => numBits p.1.toNat p.2.toNat
theorem fits_shr (a b : Int) (h1 : 0 ≤ b) (h2 : b ≤ 16) (h3 : 0 ≤ a) : (a / 2 ^ b.toNat != 0) = !fits (a, b) := by
  have : fits (a, b) = decide (a < 2 ^ b.toNat) := by simp [fits, h1, h2, h3]
  rw [this, Bool.eq_iff_iff]
  have hp : (0 : Int) < 2 ^ b.toNat := Int.pow_pos (by omega)
  simp only [bne_iff_ne, ne_eq, Bool.not_eq_true', decide_eq_false_iff_not, Int.not_lt]
  constructor
  · intro h
    apply Classical.byContradiction
    intro hn
    exact h (Int.ediv_eq_zero_of_lt h3 (by omega))
  · intro h hz
    have := Int.mul_ediv_add_emod a (2 ^ b.toNat)
    have hm := Int.emod_lt_of_pos a hp
    rw [hz] at this
    omega

theorem fits_no (a b : Int) (h : b < 0 ∨ 16 < b ∨ a < 0) : fits (a, b) = false := by
  cases hf : fits (a, b) with
  | false => rfl
  | true => simp [fits] at hf; omega
theorem all_take_succ (l : List (Int × Int)) (k : Nat) (h : k < l.length) (h1 : (l.take k).all fits = true) (h2 : fits l[k] = true) : (l.take (k + 1)).all fits = true := by
  rw [take_snoc _ _ h, List.all_append, h1]; simp [h2]
theorem all_not (l : List (Int × Int)) (k : Nat) (h : k < l.length) (h2 : fits l[k] = false) : l.all fits = false := by
  rw [List.all_eq_false]; exact ⟨l[k], List.getElem_mem h, by simp [h2]⟩
theorem bitsP_snoc (l : List (Int × Int)) (k : Nat) (h : k < l.length) : bitsP (l.take (k + 1)) = bitsP (l.take k) ++ numBits l[k].1.toNat l[k].2.toNat := by
  unfold bitsP; rw [take_snoc _ _ h, List.flatMap_append]; simp
theorem bitsP_len (l : List (Int × Int)) (h : l.all fits = true) : (bitsP l).length ≤ 16 * l.length := by
  induction l with
  | nil => simp [bitsP]
  | cons p l ih =>
    have h2 : fits p = true ∧ l.all fits = true := by simpa using h
    have e : bitsP (p :: l) = numBits p.1.toNat p.2.toNat ++ bitsP l := rfl
    have h3 := ih h2.2
    have h4 : p.2 ≤ 16 := by have := h2.1; simp [fits] at this; omega
    rw [e, List.length_append, numBits_length, List.length_cons]; omega
/-- what Pack hands back -/
def PackPost (l : List (Int × Int)) (w : World) (e : Ending) (w' : World) : Prop :=
  (l.all fits = true ∧ (∃ v, e = .returned (.tuple #[v, .int .i64 0]) ∧ w'.ownsRow w.heap.size 5 1 v (pack (bitsP l)).length ((pack (bitsP l)).map u8v)) ∨
    l.all fits = false ∧ e = .returned (.tuple #[.slice none 0 0, .int .i64 3])) ∧ Below w.heap.size w w'

set_option maxRecDepth 100000 in
set_option maxHeartbeats 1600000 in
theorem pack_any (A : Option Addr) (n cap : Nat) (l : List (Int × Int)) (w : World) (hn : l.length = n) (hm : n ≤ 3000) (hA : SlAt w A (l.flatMap pairC)) (hw : ∀ p ∈ l, wfI p.1 ∧ wfI p.2) :
    Calls Try.prog 24 #[.slice A n cap] w (PackPost l w) := by
  have Hn := Lib.hid hn
  have HA := Lib.hid hA
  have Hw := Lib.hid hw
  clear hn hA hw
  have h3000 : ¬ (3000 < (n : Int)) := by omega
  go_enter Try.func24, Try.ntmps24
  go_wp2_with fail
  go_loopw [14] (fun i wr => ∃ k : Nat, k ≤ n ∧ i = .int .i64 k ∧ (l.take k).all fits = true ∧ Below w.heap.size w wr) (fun i _ => n - (intOf i).toNat)
  case atStart => exact ⟨0, Nat.zero_le _, rfl, rfl, Below.refl _ _⟩
  case round =>
    obtain ⟨k, hk, rfl, hall, hbr⟩ := hrel
    have Hall := Lib.hid hall
    have Hbr := Lib.hid hbr
    clear hall
    by_cases hlt : k < n
    · have hkl : k < l.length := by rw [Hn.out]; exact hlt
      obtain ⟨b, o, rfl, hc⟩ := slat_elem (size := 2) (fun _ => rfl) (by omega) (HA.out.below hbr) hkl
      have hc0 := hc 0 _ rfl
      have hc1 := hc 1 _ rfl
      have Hwk := Lib.hid (Hw.out l[k] (List.getElem_mem hkl))
      have Hyes := Lib.hid (all_take_succ l k hkl Hall.out)
      have Hno := Lib.hid (all_not l k hkl)
      clear hc hbr
      generalize l[k] = x at *
      obtain ⟨x0, x1⟩ := x
      simp only [iv, Nat.add_zero] at hc0 hc1
      by_cases h1 : x1 < 0
      · have Hf := Lib.hid (fits_no x0 x1 (by omega))
        go_wp2_with fail
        go_ret2
        exact ⟨.inr ⟨Hno.out Hf.out, rfl⟩, Hbr.out.alloc Hbr.out.size _⟩
      · by_cases h2 : 16 < x1
        · have Hf := Lib.hid (fits_no x0 x1 (by omega))
          go_wp2_with fail
          go_ret2
          exact ⟨.inr ⟨Hno.out Hf.out, rfl⟩, Hbr.out.alloc Hbr.out.size _⟩
        · by_cases h3 : x0 < 0
          · have Hf := Lib.hid (fits_no x0 x1 (by omega))
            go_wp2_with fail
            go_ret2
            exact ⟨.inr ⟨Hno.out Hf.out, rfl⟩, Hbr.out.alloc Hbr.out.size _⟩
          · have hq := fits_shr x0 x1 (by omega) (by omega) (by omega)
            cases hf : fits (x0, x1) with
            | false =>
              rw [hf] at hq
              have Hf := Lib.hid hf
              clear hf
              simp only [Bool.not_false] at hq
              go_wp2_with fail
              go_ret2
              exact ⟨.inr ⟨Hno.out Hf.out, rfl⟩, Hbr.out.alloc Hbr.out.size _⟩
            | true =>
              rw [hf] at hq
              have Hf := Lib.hid hf
              clear hf
              simp only [Bool.not_true] at hq
              go_wp2_with fail
              go_roundw
              case rel => exact ⟨k + 1, by omega, by go_num, Hyes.out Hf.out, Hbr.out.alloc Hbr.out.size _⟩
              case measure => simp [intOf]; omega
    · have Hfit : Hid (l.all fits = true) := Lib.hid (by have := Hall.out; rwa [List.take_of_length_le (by rw [Hn.out]; omega)] at this)
      clear hbr
      go_wp2_with fail
      have Hb1 := Lib.hid (Hbr.out.alloc Hbr.out.size (.cells #[.slice none 0 0, .int .i64 0] 90))
      have Hr1 := Lib.hid (RowAt.new wr Hbr.out.size)
      generalize wr.alloc (.cells #[.slice none 0 0, .int .i64 0] 90) = W at *
      generalize wr.heap.size = p at *
      go_loopw [42] (fun i wr => ∃ k : Nat, k ≤ n ∧ i = .int .i64 k ∧ RowAt wr w.heap.size p (bitsP (l.take k)) ∧ Below w.heap.size w wr) (fun i _ => n - (intOf i).toNat)
      case atStart => exact ⟨0, Nat.zero_le _, rfl, Hr1.out, Hb1.out⟩
      case round =>
        obtain ⟨k, hk, rfl, hrow, hbr⟩ := hrel
        have Hrow := Lib.hid hrow
        have Hbr := Lib.hid hbr
        clear hrow
        by_cases hlt : k < n
        · have hkl : k < l.length := by rw [Hn.out]; exact hlt
          obtain ⟨b, o, rfl, hc⟩ := slat_elem (size := 2) (fun _ => rfl) (by omega) (HA.out.below hbr) hkl
          have hc0 := hc 0 _ rfl
          have hc1 := hc 1 _ rfl
          have hfk : fits l[k] = true := (List.all_eq_true.1 Hfit.out) _ (List.getElem_mem hkl)
          have Hs := Lib.hid (bitsP_snoc l k hkl)
          have hlen : (bitsP (l.take k)).length ≤ 48000 := by
            have h1 := bitsP_len (l.take k) (by
              rw [List.all_eq_true]; intro x hx
              exact (List.all_eq_true.1 Hfit.out) x (List.mem_of_mem_take hx))
            have h2 : (l.take k).length ≤ k := List.length_take_le _ _
            omega
          have Hwk := Lib.hid (Hw.out l[k] (List.getElem_mem hkl))
          clear hc hbr
          generalize l[k] = x at *
          obtain ⟨x0, x1⟩ := x
          simp only [iv, Nat.add_zero] at hc0 hc1
          have hx : 0 ≤ x1 ∧ x1 ≤ 16 ∧ 0 ≤ x0 := by simp [fits] at hfk; omega
          have hx0 := wf_i64 Hwk.out.1
          clear hfk
          obtain ⟨m, rfl⟩ := Int.eq_ofNat_of_zero_le hx.2.2
          obtain ⟨sz, rfl⟩ := Int.eq_ofNat_of_zero_le hx.1
          simp only [Int.toNat_natCast] at Hs
          generalize bitsP (l.take k) = bs at *
          go_wp2_with fail
          refine (put_any _ _ m sz bs _ (Hrow.out.below ((Below.refl _ _).alloc (Nat.le_refl _) _)) (by omega) (by omega) (by omega)).mono ?_
          rintro e w2 ⟨rfl, hrow2, hk2⟩
          have Hrow2 := Lib.hid hrow2
          have Hk2 := Lib.hid ((Hbr.out.alloc Hbr.out.size (.cells #[.int .i64 (m : Int), .int .i64 (sz : Int)] 46)).trans hk2.below)
          clear hrow2 hk2
          go_wp2_with fail
          go_roundw
          case rel => exact ⟨k + 1, by omega, by go_num, by rw [Hs.out]; exact Hrow2.out, Hk2.out⟩
          case measure => simp [intOf]; omega
        · have Hlast : Hid (l.take k = l) := Lib.hid (List.take_of_length_le (by rw [Hn.out]; omega))
          rw [Hlast.out] at Hrow
          obtain ⟨_, v, hblk, hown⟩ := Hrow.out
          have Hblk := Lib.hid hblk
          have Hown := Lib.hid hown
          clear hblk hown hbr
          go_wp2_with fail
          refine (bytes_any p v _ _ Hblk.out).mono ?_
          rintro e w3 ⟨rfl, rfl⟩
          go_wp2_with fail
          go_ret2
          exact ⟨.inl ⟨Hfit.out, _, rfl, Hown.out⟩, Hbr.out⟩
theorem pack_many (A : Option Addr) (n cap : Nat) (w : World) (hm : 3000 < n) (hx : n ≤ maxLen) :
    Calls Try.prog 24 #[.slice A n cap] w fun e w' => e = .returned (.tuple #[.slice none 0 0, .int .i64 2]) ∧ w = w' := by
  unfold maxLen at hx
  have h3 : 3000 < (n : Int) := by omega
  go_enter Try.func24, Try.ntmps24
  go_wp2_with fail
  go_ret2
  exact ⟨rfl, rfl⟩
end Go.Proofs.Ytoncjlbgheaabaa.Bits
