/- bytes.Equal, and []byte to string. -/
import Derived.Test.YtfgkfakhlcbdbaaApp
import Derived.Test.YtfgkfakhlcbdbaaProg
import Derived.Laws.BytesArg
import Derived.Shelf.Bytes.SlSmallAll
namespace Go.Proofs.Ytfgkfakhlcbdbaa
open Go Go.RowKit
set_option linter.unusedVariables false

def strB (xs : List UInt8) : ByteArray := ⟨xs.toArray⟩
theorem strB_inj (xs ys : List UInt8) : ((strB xs).toList == (strB ys).toList) = decide (xs = ys) := by
  rw [ByteArray.toList_eq, ByteArray.toList_eq, Bool.eq_iff_iff]; simp [strB]
theorem strB_nums (xs : List UInt8) : strOfNums (xs.map n8) = strB xs := by
  unfold strOfNums strB
  rw [List.map_map]
  have : ((fun n => UInt8.ofNat n.toNat) ∘ n8) = id := by
    funext x; simp [n8]
  rw [this, List.map_id]
theorem conv_bytes (A : Option Addr) (n c : Nat) (xs : List UInt8) (w : World) (hn : xs.length = n) (h : ByAt w A xs) :
    (convert 23 9 (.slice A n c)).run Try.prog w = .ok (.string (strB xs)) w := by
  rw [← strB_nums]
  cases n with
  | zero =>
    have : xs = [] := List.eq_nil_of_length_eq_zero hn
    subst this
    exact run_convert_bytes_zero w _ _ Try.underlying23 Try.underlying5 A c _ Try.underlying9
  | succ n =>
    obtain ⟨b, o, rfl, _⟩ := SlAt.get h (k := 0) (by simp; omega)
    refine run_convert_bytes_arg w _ _ Try.underlying23 Try.underlying5 b o _ c _ (by simpa using hn) (fun i hi => ?_) _ Try.underlying9
    obtain ⟨b', o', hb, hc⟩ := SlAt.get h (k := i) (by simp; omega)
    injection hb with hb; injection hb with h1 h2 h3
    subst h1 h2
    rw [hc]
    have : i < xs.length := by omega
    simp [List.getD, u8v, this]

set_option maxHeartbeats 400000 in
theorem equal_bytes (A B : Option Addr) (n m ca cb : Nat) (xs ys : List UInt8) (w : World) (hn : xs.length = n) (hm : ys.length = m) (ha : ByAt w A xs) (hb : ByAt w B ys) :
    Calls Try.prog 13 #[.slice A n ca, .slice B m cb] w fun e w' => e = .returned (.bool (decide (xs = ys))) ∧ w' = w := by
  have k1 := conv_bytes A n ca xs w hn ha
  have k2 := conv_bytes B m cb ys w hm hb
  have K := Lib.hid (strB_inj xs ys)
  clear hn hm ha hb
  go_enter Try.func13, Try.ntmps13
  go_wp2_with fail
  go_ret
  exact ⟨ret_bool K.out, rfl⟩
end Go.Proofs.Ytfgkfakhlcbdbaa
