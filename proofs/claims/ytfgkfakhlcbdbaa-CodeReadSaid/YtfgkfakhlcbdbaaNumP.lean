/- reliquaryref: rows of '0' and '1': OfNumber, BytesOf. -/
import Derived.Test.YtfgkfakhlcbdbaaEqualB
import Derived.Test.YtfgkfakhlcbdbaaBitsPure
import Derived.Test.YtfgkfakhlcbdbaaSrc
namespace Go.Proofs.Ytfgkfakhlcbdbaa.Bits
open Go Go.RowKit Go.Proofs.Ytfgkfakhlcbdbaa
set_option linter.unusedVariables false

def ch (b : Bool) : UInt8 := if b then 49 else 48
def rowS (l : List Bool) : List UInt8 := l.map ch
def rowV (l : List Bool) : Value := .string (strB (rowS l))
theorem strB_size (l : List UInt8) : (strB l).size = l.length := by simp [strB, ByteArray.size]
theorem rowS_length (l : List Bool) : (rowS l).length = l.length := by simp [rowS]
theorem strB_append (a b : List UInt8) : strB a ++ strB b = strB (a ++ b) := by
  apply ByteArray.ext
  simp [strB]
theorem rowS_append (a b : List Bool) : rowS (a ++ b) = rowS a ++ rowS b := by simp [rowS]
theorem one_ch (b : Bool) (m : Nat) (h : b = decide (m % 2 = 1)) : strOfNums [48 + (m : Int) % 2] = strB (rowS [b]) := by
  have : [48 + (m : Int) % 2] = ([ch b]).map n8 := by
    subst h
    by_cases h : m % 2 = 1
    · have : (m : Int) % 2 = 1 := by omega
      simp [h, this, ch, n8]
    · have : (m : Int) % 2 = 0 := by omega
      simp [h, this, ch, n8]
  rw [this, strB_nums]; rfl
theorem conv_one (c : Int) (w : World) : (convert 23 9 (.slice (some ⟨w.heap.size, 0, none⟩) 1 1)).run Try.prog (w.alloc (.cells #[.int .u8 c] 5)) = .ok (.string (strOfNums [c])) (w.alloc (.cells #[.int .u8 c] 5)) := by
  refine run_convert_bytes_arg _ _ _ Try.underlying23 Try.underlying5 _ _ _ _ [c] rfl (fun i hi => ?_) _ Try.underlying9
  have : i = 0 := by simpa using hi
  subst this
  have := (Blk.new w 5 #[.int .u8 c]).cell 0
  simp
theorem num_drop (l : List Bool) (k : Nat) (h : k < l.length) : num (l.drop k) = 2 * num (l.drop (k + 1)) + l[k].toNat := by
  rw [List.drop_eq_getElem_cons h]; simp [num]; omega
theorem num_bound (l : List Bool) (k : Nat) (h : l.length ≤ 60) : num (l.drop k) < 1152921504606846976 := by
  have h1 := num_lt (l.drop k)
  have h2 : 2 ^ (l.drop k).length ≤ 2 ^ 60 := Nat.pow_le_pow_right (by omega) (by simp; omega)
  omega
theorem ch_get (l : List Bool) (j : Nat) (h : j < l.length) {hs : j < (strB (rowS l)).size} : (((strB (rowS l))[j]'hs).toNat : Int) = 48 + (l[j].toNat : Int) := by
  have : (strB (rowS l))[j]'hs = ch l[j] := by
    show (strB (rowS l)).data[j]'hs = _
    simp [strB, rowS]
  rw [this]
  cases l[j] <;> simp [ch]
set_option maxHeartbeats 400000 in
theorem ofNumber_any (l : List Bool) (w : World) (hl : l.length ≤ 60) :
    Calls Try.prog 26 #[rowV l] w fun e w' => e = .returned (.int .i64 (num l : Nat)) ∧ w' = w := by
  unfold rowV
  have hsz : (strB (rowS l)).size ≤ 60 := by rw [strB_size, rowS_length]; exact hl
  go_enter Try.func26, Try.ntmps26
  go_wp2_with fail
  go_loopw [4, 3] (fun i m wr => ∃ k : Nat, k ≤ l.length ∧ i = .int .i64 ((k : Int) - 1) ∧ m = .int .i64 ((num (l.drop k) : Nat) : Int) ∧ wr = w) (fun i _ _ => ((intOf i) + 1).toNat)
  case atStart =>
    refine ⟨l.length, Nat.le_refl _, ?_, ?_, rfl⟩
    · rw [strB_size, rowS_length]
    · simp [num]
  case round =>
    obtain ⟨k, hk, rfl, rfl, rfl⟩ := hrel
    by_cases hlt : 0 < k
    · obtain ⟨j, rfl⟩ : ∃ j, k = j + 1 := ⟨k - 1, by omega⟩
      have Hn := Lib.hid (num_drop l j (by omega))
      have hb := num_bound l (j + 1) hl
      have hjs : j < (strB (rowS l)).size := by rw [strB_size, rowS_length]; omega
      generalize num (l.drop (j + 1)) = m at *
      have e : (((j + 1 : Nat) : Int) - 1) = (j : Int) := by omega
      rw [e]
      clear e
      go_wp2_with fail
      go_roundw
      case rel =>
        refine ⟨j, by omega, rfl, ?_, trivial⟩
        apply int_eq
        rw [Hn.out, ch_get l j (by omega)]
        have : l[j].toNat ≤ 1 := by cases l[j] <;> simp
        omega
      case measure => simp [intOf]
    · obtain rfl : k = 0 := by omega
      go_wp2_with fail
      go_ret
      exact ⟨by simp, rfl⟩
def seg (l : List Bool) (q : Nat) : List Bool := (l.drop (8 * q)).take 8
theorem seg_length (l : List Bool) (q : Nat) : (seg l q).length = min 8 (l.length - 8 * q) := by simp [seg]
theorem seg_get (l : List Bool) (q j : Nat) (h : j < (seg l q).length) : (seg l q)[j] = l[8 * q + j]'(by rw [seg_length] at h; omega) := by simp [seg]
theorem pack_small (m : List Bool) (h0 : 0 < m.length) (h : m.length ≤ 8) : pack m = [byteOf m] := by
  have e : (m.length + 7) / 8 = 1 := by omega
  apply List.ext_getElem
  · rw [pack_length, e]; rfl
  · intro i h1 h2
    obtain rfl : i = 0 := by simpa using h2
    rw [pack_get m 0 (by omega)]
    simp [List.take_of_length_le h]
theorem pack_seg (l : List Bool) (q : Nat) (h : 8 * q < l.length) : pack (l.take (8 * (q + 1))) = pack (l.take (8 * q)) ++ [byteOf (seg l q)] := by
  have e : l.take (8 * (q + 1)) = l.take (8 * q) ++ seg l q := by
    unfold seg; rw [show 8 * (q + 1) = 8 * q + 8 by omega, List.take_add]
  rw [e, pack_append _ _ (by simp; omega), pack_small (seg l q) (by rw [seg_length]; omega) (by rw [seg_length]; omega)]
set_option maxRecDepth 100000 in
set_option maxHeartbeats 800000 in
theorem bytesOf_any (l : List Bool) (w : World) (hl : l.length ≤ 1000000000) :
    Calls Try.prog 14 #[rowV l] w fun e w' => (∃ v, e = .returned v ∧ w'.ownsRow w.heap.size 5 1 v (pack l).length ((pack l).map u8v)) ∧ Below w.heap.size w w' := by
  unfold rowV
  have hsz : (strB (rowS l)).size ≤ 1000000000 := by rw [strB_size, rowS_length]; exact hl
  have Hsz := Lib.hid (show (strB (rowS l)).size = l.length by rw [strB_size, rowS_length])
  go_enter Try.func14, Try.ntmps14
  go_wp2_with fail
  go_loopw [4, 3] (fun i v wr => ∃ q : Nat, 8 * q ≤ l.length + 7 ∧ i = .int .i64 ((8 * q : Nat) : Int) ∧ wr.ownsRow w.heap.size 5 1 v (pack (l.take (8 * q))).length ((pack (l.take (8 * q))).map u8v) ∧ Below w.heap.size w wr) (fun i _ _ => l.length + 8 - (intOf i).toNat)
  case atStart => exact ⟨0, by omega, rfl, by simp [pack]; exact World.ownsRow_nil .., Below.refl _ _⟩
  case round =>
    obtain ⟨q, hq, rfl, ho, hb⟩ := hrel
    have Ho := Lib.hid ho
    have Hb := Lib.hid hb
    clear ho hb
    generalize hi : 8 * q = i at *
    have Hi := Lib.hid hi
    clear hi
    by_cases hlt : i < l.length
    · have hlz : i < (strB (rowS l)).size := by rw [Hsz.out]; exact hlt
      have Hsl := Lib.hid (seg_length l q)
      have Hsg := Lib.hid (seg_get l q)
      have Hps := Lib.hid (pack_seg l q (by have := Hi.out; omega))
      go_wp2_with fail
      go_loopw [6, 5] (fun k n wx => ∃ j : Nat, j ≤ (seg l q).length ∧ k = .int .i64 ((i : Int) + j - 1) ∧ n = .int .i64 ((num ((seg l q).drop j) : Nat) : Int) ∧ wx = wr) (fun k _ _ => ((intOf k) + 1).toNat)
      case atStart =>
        refine ⟨(seg l q).length, Nat.le_refl _, ?_, ?_, rfl⟩
        · apply int_eq
          rw [Hsz.out, Hsl.out]
          have := Hi.out
          omega
        · simp [num]
      case round =>
        obtain ⟨j, hj, rfl, rfl, rfl⟩ := hrel
        by_cases hj0 : 0 < j
        · obtain ⟨m, rfl⟩ : ∃ m, j = m + 1 := ⟨j - 1, by omega⟩
          have hs8 : (seg l q).length ≤ 8 := by rw [Hsl.out]; omega
          have Hn := Lib.hid (num_drop (seg l q) m (by omega))
          have hbd := num_bound (seg l q) (m + 1) (by omega)
          have hL : i + m < l.length := by have h1 := Hsl.out; have := Hi.out; omega
          have hjs : i + m < (strB (rowS l)).size := by rw [Hsz.out]; exact hL
          have Hg : Hid ((seg l q)[m]'(by omega) = l[i + m]) := Lib.hid (by have h1 := Hsg.out m (by omega); have := Hi.out; subst this; exact h1)
          generalize num ((seg l q).drop (m + 1)) = z at *
          have e : ((i : Int) + ((m + 1 : Nat) : Int) - 1) = ((i + m : Nat) : Int) := by omega
          rw [e]
          clear e
          have hge : (i : Int) ≤ ((i + m : Nat) : Int) := by omega
          generalize hmi : i + m = im at *
          have Hmi := Lib.hid hmi
          clear hmi
          go_wp2_with fail
          go_roundw
          case rel =>
            refine ⟨m, by omega, int_eq (by have := Hmi.out; omega), ?_, trivial⟩
            apply int_eq
            rw [Hn.out, ch_get l im (by omega), Hg.out]
            have : l[im].toNat ≤ 1 := by cases l[im] <;> simp
            have : (48 + (l[im].toNat : Int) - 48) % 256 = (l[im].toNat : Int) := by omega
            rw [this]; simp
          case measure => simp [intOf]
        · obtain rfl : j = 0 := by omega
          have hs8 : (seg l q).length ≤ 8 := by rw [Hsl.out]; omega
          have Hby := Lib.hid (byteOf_num (seg l q) hs8)
          have hnb : num (seg l q) < 256 := by have h1 := num_lt (seg l q); have : 2 ^ (seg l q).length ≤ 2 ^ 8 := Nat.pow_le_pow_right (by omega) hs8; omega
          have hlen : (pack (l.take i)).length ≤ 1000000000 := by rw [pack_length]; simp; omega
          simp only [List.drop_zero]
          generalize hN : num (seg l q) = z at *
          have HN := Lib.hid hN
          clear hN
          generalize hP : pack (l.take i) = pk at *
          have HP := Lib.hid hP
          clear hP
          have Hone := Lib.hid (slat_one wr 5 (.int .u8 (z : Int)))
          have Hown4 := Lib.hid (own_keep Ho.out ((Below.refl wr.heap.size wr).alloc (Nat.le_refl _) (.cells #[.int .u8 (z : Int)] 5)))
          have Hb4 := Lib.hid (Hb.out.alloc Hb.out.size (.cells #[.int .u8 (z : Int)] 5))
          go_wp2_with (at_builtin; refine wpList_appb rfl (.tmp 32) (.tmp 35) _ rfl 5 _ 1 1 ty8 _ pk.length _ rfl Hown4.out Hb4.out (some ⟨wr.heap.size, 0, none⟩) 1 1 [.int .u8 (z : Int)] rfl rfl Hone.out (by simp [Value.oneCell']) (by simp) (by unfold maxLen; omega) (by omega) ?_; intro v5 w5 hown5 hb5 hg5 _; have Ho5 := Lib.hid hown5; have Hb5 := Lib.hid hb5; clear hown5 hb5 hg5)
          go_roundw
          case rel =>
            refine ⟨q + 1, by have := Hi.out; omega, int_eq (by have := Hi.out; omega), ?_, Hb5.out⟩
            have e1 : Value.int .u8 (z : Int) = u8v (byteOf (seg l q)) := by
              unfold u8v n8; rw [Hby.out]
            rw [Hps.out, Hi.out, HP.out, List.length_append, List.map_append, List.map_singleton, ← e1]
            exact Ho5.out
          case measure => simp [intOf]; omega
    · have hle : l.length ≤ i := by omega
      have hlz : (strB (rowS l)).size ≤ i := by rw [Hsz.out]; exact hle
      have Hall := Lib.hid (List.take_of_length_le hle)
      go_wp2_with fail
      go_ret
      refine ⟨⟨_, rfl, ?_⟩, Hb.out⟩
      have := Ho.out
      rwa [Hall.out] at this
end Go.Proofs.Ytfgkfakhlcbdbaa.Bits
