/- reliquaryref.StepOf: any happening, done to a right world, gives what the law says. -/
import Derived.Test.YtdoegpklephelaaGreatDoorStepOfOther
import Derived.Test.YtdoegpklephelaaGreatDoorStepOfPut
import Derived.Test.YtdoegpklephelaaGreatDoorStepOfTake
import Derived.Test.YtdoegpklephelaaGreatDoorStepOfSend
import Derived.Test.YtdoegpklephelaaGreatDoorStepOfArrive
import Derived.Test.YtdoegpklephelaaGreatDoorStepOfLose
import Derived.Test.YtdoegpklephelaaGreatDoorStepOfDouble
namespace Go.Proofs.YtdoegpklephelaaGreatDoor.Worlds
open Go Go.RowKit Go.Proofs.YtdoegpklephelaaGreatDoor Go.Proofs.YtdoegpklephelaaGreatDoor.Name Go.Proofs.YtdoegpklephelaaGreatDoor.Merge

theorem stepOf_any (x : Wx) (h : Hx) (w : World) (hml : ML w) (hx : IsWorld w x) (hwd : WdK sizedK x) (hok : WOk x.wd) (hh : HapAt w h) (b0 : Nat) (hb0 : b0 ≤ w.heap.size) (hlow : h.1.bytes ≠ [] → ∀ a, h.2.1 = some a → a.block < b0) :
    Calls Tryz.prog 12 #[wV x, hV h] w (RStepPost b0 (stepR x.wd h.1) w) := by
  rcases (by omega : h.1.kind < 1 ∨ 6 < h.1.kind ∨ h.1.kind = 1 ∨ h.1.kind = 2 ∨ h.1.kind = 3 ∨ h.1.kind = 4 ∨ h.1.kind = 5 ∨ h.1.kind = 6) with hk | hk | hk | hk | hk | hk | hk | hk
  · exact stepOf_other x h w hml hx hwd hok hh b0 hb0 hlow (.inl hk)
  · exact stepOf_other x h w hml hx hwd hok hh b0 hb0 hlow (.inr hk)
  · exact stepOf_put x h w hml hx hwd hok hh b0 hb0 hlow hk
  · exact stepOf_take x h w hml hx hwd hok hh b0 hb0 hlow hk
  · exact stepOf_send x h w hml hx hwd hok hh b0 hb0 hlow hk
  · exact stepOf_arrive x h w hml hx hwd hok hh b0 hb0 hlow hk
  · exact stepOf_lose x h w hml hx hwd hok hh b0 hb0 hlow hk
  · exact stepOf_double x h w hml hx hwd hok hh b0 hb0 hlow hk
theorem hap_low {w : World} {h : Hx} (hh : HapAt w h) : h.1.bytes ≠ [] → ∀ a, h.2.1 = some a → a.block < w.heap.size := fun hne a ha => by
  obtain ⟨b, o, e, hc⟩ := hh.at_ (by rw [List.length_map]; exact List.length_pos_iff.2 hne)
  rw [e] at ha
  injection ha with ha
  subst ha
  cases hb : h.1.bytes with
  | nil => exact absurd hb hne
  | cons x xs => exact block_lt_of_cell (hc 0 (u8v x) (by rw [hb]; rfl))
end Go.Proofs.YtdoegpklephelaaGreatDoor.Worlds
