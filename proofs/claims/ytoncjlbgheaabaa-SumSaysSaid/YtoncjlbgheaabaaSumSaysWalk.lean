/- reliquarylaw.SumSays: the walk. -/
import Derived.Test.YtoncjlbgheaabaaSumWalk
import Derived.Test.YtoncjlbgheaabaaOpen
namespace Go.Proofs.Ytoncjlbgheaabaa.SumSays
open Go Go.RowKit Go.Proofs.Ytoncjlbgheaabaa Go.Proofs.Ytoncjlbgheaabaa.Sum

set_option maxRecDepth 100000 in
set_option maxHeartbeats 800000 in
theorem walk_few (c : W32) (A : Option Addr) (n cap : Nat) (xs : List UInt8) (w : World) (hn : xs.length = n) (hm : n ≤ 12000) (hc : ByAt w A xs) :
    Calls Try.prog 4 #[.int .u32 (n32 c), .slice A n cap] w fun e w' => e = .returned (.bool true) ∧ Below w.heap.size w w' := by
  have Hn := Lib.hid hn
  have Hc := Lib.hid hc
  clear hn hc
  have h12 : ¬ (12000 < (n : Int)) := by omega
  go_enter Try.func4, Try.ntmps4
  go_wp2_with fail
  refine (crc_any c _ rfl A n cap xs _ Hn.out hm Hc.out).mono ?_
  rintro e w1 ⟨rfl, hb1⟩
  have Hb1 := Lib.hid hb1
  have hc1 := Hc.out.below hb1
  clear hb1
  have Hc1 := Lib.hid hc1
  clear hc1
  go_wp2_with fail
  refine (adler_any A n cap xs _ Hn.out hm Hc1.out).mono ?_
  rintro e w2 ⟨rfl, rfl⟩
  go_wp2_with fail
  refine (summed_any _).mono ?_
  rintro e w3 ⟨rfl, hb3⟩
  have Hb3 := Lib.hid hb3
  have Hc3 := Lib.hid (Hc1.out.below hb3)
  clear hb3
  go_wp2_with fail
  refine (crcof_any c A n cap xs _ Hn.out (by unfold maxLen; omega) Hc3.out).mono ?_
  rintro e w4 ⟨rfl, rfl⟩
  go_wp2_with fail
  refine (adlerof_any A n cap xs _ Hn.out hm Hc3.out).mono ?_
  rintro e w5 ⟨rfl, rfl⟩
  go_wp2_with fail
  go_ret
  exact ⟨rfl, Hb1.out.trans (Hb3.out.mono Hb1.out.size)⟩

set_option maxRecDepth 100000 in
set_option maxHeartbeats 800000 in
theorem walk_many (c : Int) (A : Option Addr) (n cap : Nat) (w : World) (hm : 12000 < n) (hx : n ≤ maxLen) :
    Calls Try.prog 4 #[.int .u32 c, .slice A n cap] w fun e w' => e = .returned (.bool true) ∧ Below w.heap.size w w' := by
  have Hx := Lib.hid hx
  have h12 : (12000 < (n : Int)) := by omega
  have hxx : (n : Int) ≤ 9223372036854775807 := by unfold maxLen at hx; omega
  clear hx
  go_enter Try.func4, Try.ntmps4
  go_wp2_with fail
  refine (crc_big c A n cap _ hm Hx.out).mono ?_
  rintro e w1 ⟨rfl, rfl⟩
  go_wp2_with fail
  refine (adler_big A n cap _ hm Hx.out).mono ?_
  rintro e w2 ⟨rfl, rfl⟩
  go_wp2_with fail
  refine (summed_any _).mono ?_
  rintro e w3 ⟨rfl, hb3⟩
  have Hb3 := Lib.hid hb3
  clear hb3
  go_wp2_with fail
  refine (summed_any _).mono ?_
  rintro e w4 ⟨rfl, hb4⟩
  have Hb4 := Lib.hid hb4
  clear hb4
  go_wp2_with fail
  go_ret
  exact ⟨rfl, Hb3.out.trans (Hb4.out.mono Hb3.out.size)⟩

theorem walk (w : World) (ai : Int) (w0 : (Lit.int .u32 ai).wf = true) (v : Value) (xs : List UInt8) (h : IsBytes w v xs) :
    Calls Try.prog 4 #[.int .u32 ai, v] w fun e w' => e = .returned (.bool true) ∧ Below w.heap.size w w' := by
  obtain ⟨c, rfl⟩ := wf_u32 w0
  obtain ⟨A, cap, rfl, hle, hmax, hc⟩ := h
  by_cases hm : xs.length ≤ 12000
  · exact walk_few c A _ cap xs _ rfl hm hc
  · exact walk_many _ A _ cap _ (by omega) (by omega)
end Go.Proofs.Ytoncjlbgheaabaa.SumSays
