/- what the form's reach gives of an argument that is a slice. No program in sight. -/
import Derived.Test.YtdoegpklephelaaDoorOpen
import Derived.SizedLaws
namespace Go.Proofs.YtdoegpklephelaaDoor
open Go

theorem sized_dlen {H : Type} {P : Program} {ts : List TypeId} {ds : List (DataW H)} (h : (DataW.weightsEach P ts ds).all (· ≤ reachBytes) = true) {j : Nat} {t e : TypeId} {d : DataW H} (ht : ts[j]? = some t) (hd : ds[j]? = some d) (hu : P.underlying t = some (.slice e)) {n b : Nat} (hb : P.bytesOf e = b) (hn : dlen d = n) : n * b ≤ 140737488355328 := by
  have hr := reachBytes_lt
  subst hb hn
  cases d with
  | slice elems spare =>
    have := sized_slice h ht hd hu
    rw [Nat.add_mul] at this
    simp only [dlen]
    omega
  | _ => simp [dlen]
end Go.Proofs.YtdoegpklephelaaDoor
