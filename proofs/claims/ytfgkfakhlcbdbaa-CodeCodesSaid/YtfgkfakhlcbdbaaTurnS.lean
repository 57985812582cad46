/- reliquaryref.Turned. -/
import Derived.Test.YtfgkfakhlcbdbaaNumP
import Derived.Test.YtfgkfakhlcbdbaaReverse
import Derived.Lib.ConvBytes
namespace Go.Proofs.Ytfgkfakhlcbdbaa.Bits
open Go Go.RowKit Go.Proofs.Ytfgkfakhlcbdbaa
set_option linter.unusedVariables false

/-- []byte(s): a new block -/
theorem conv_to (l : List UInt8) (w : World) : ∃ w' c, (convert 9 23 (.string (strB l))).run Try.prog w = .ok (.slice (some ⟨w.heap.size, 0, none⟩) l.length c) w' ∧ Head w' w.heap.size l ∧ Below w.heap.size w w' := by
  have h0 := Lib.run_convert_string_bytes (P := Try.prog) w 9 23 5 (strB l) Try.underlying9 Try.underlying23 Try.underlying5
  rw [strB_size] at h0
  refine ⟨_, _, h0, ?_, ?_⟩
  · have h := Lib.bytesWorld_at_new w 5 (strB l)
    have e : Lib.bytesCells w 5 (strB l) = (l.map u8v ++ List.replicate (grownCap w (strB l).size 0 5 - (strB l).size) (Value.int .u8 0)).toArray := by
      simp [Lib.bytesCells, strB]
      exact fun _ _ => rfl
    have hz : l.length ≤ (Lib.bytesCells w 5 (strB l)).size := by rw [e]; simp
    refine ⟨List.replicate (grownCap w (strB l).size 0 5 - (strB l).size) (Value.int .u8 0), (Lib.bytesCells w 5 (strB l)).size, (Lib.bytesCells w 5 (strB l)).size + 1, ?_, fun k hk hh => by omega⟩
    rw [h, ← e]
  · refine ⟨?_, ?_, ?_, by rw [Lib.bytesWorld_size]; omega, fun k hk => Lib.bytesWorld_at_old w _ _ k hk⟩ <;> rfl
set_option maxHeartbeats 400000 in
theorem turnedS_any (l : List Bool) (w : World) (hl : l.length ≤ 1000000000) :
    Calls Try.prog 27 #[rowV l] w fun e w' => e = .returned (rowV l.reverse) ∧ Below w.heap.size w w' := by
  unfold rowV
  obtain ⟨w1, c, k1, hh, hb⟩ := conv_to (rowS l) w
  have Hh := Lib.hid hh
  have Hb := Lib.hid hb
  have hlen := rowS_length l
  rw [hlen] at k1
  have Hlen := Lib.hid hlen
  clear hlen hh hb
  go_enter Try.func27, Try.ntmps27
  go_wp2_with fail
  refine (reverse_any w.heap.size l.length c (rowS l) w1 Hlen.out hl Hh.out).mono ?_
  rintro e w2 ⟨rfl, hh2, hb2⟩
  have k2 := conv_bytes (some ⟨w.heap.size, 0, none⟩) l.length c (rowS l).reverse w2 (by rw [List.length_reverse, Hlen.out]) hh2.slat
  have Hr := Lib.hid (show (rowS l).reverse = rowS l.reverse by simp [rowS])
  have Hb2 := Lib.hid (Hb.out.trans hb2)
  clear hh2 hb2
  go_wp2_with fail
  go_ret
  exact ⟨by rw [Hr.out]; rfl, Hb2.out⟩
end Go.Proofs.Ytfgkfakhlcbdbaa.Bits
