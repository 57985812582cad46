/- opening: what an argument that came in is to the walks. -/
import Derived.Test.YtfgkfakhlcbdbaaMem
import Derived.ProofKit
import Derived.OpenShut
import Derived.ShutString
import Derived.ChangeOld
import Derived.JoinedCond
namespace Go.Proofs.Ytfgkfakhlcbdbaa
open Go Go.ChangeShapes Go.WideShapes Go.ChangeAt Go.RowKit

/-- a []byte that came in -/
def IsBytes (w : World) (v : Value) (xs : List UInt8) : Prop :=
  ∃ A cap, v = .slice A xs.length cap ∧ xs.length ≤ cap ∧ cap ≤ maxLen ∧ ByAt w A xs
theorem cell_spot {w : World} {b o : Nat} {s : Option Nat} {v : Value} (h : w.cell? ⟨b, o, s⟩ = some v) : s = none := World.cell?_spot h

/-- how many elements a datum has, if it is a slice -/
def dlen {H : Type} : DataW H → Nat
  | .slice e _ => e.length
  | _ => 0
theorem open_bytes_dlen {H : Type} {enc : TypeId × Value → H} {P : Program} {w : World} {base fuel : Nat} {spare : Nat → Bool} {held : Bool} {t e : TypeId} {A : Option Addr} {len cap : Nat} {d : DataW H} {ps : List MemPlace}
    (ht : P.underlying t = some (.slice e)) (he : P.underlying e = some (.int .u8)) (hc : P.cellsOf e = 1)
    (hf : DataW.trod enc P w base spare held fuel t [.slice A len cap] = some (d, ps)) : ∃ xs, IsBytes w (.slice A len cap) xs ∧ dlen d = xs.length := by
  rcases open_ints ht he hc hf with ⟨hcs, hd⟩ | ⟨x, l, c, zs, hcs, _, hl, hm, hz, hd, hcell, hwz⟩
  · simp at hcs
    obtain ⟨rfl, rfl, rfl⟩ := hcs
    simp only [Prod.mk.injEq] at hd
    obtain ⟨rfl, _⟩ := hd
    exact ⟨[], ⟨none, 0, rfl, Nat.le_refl _, by unfold maxLen; omega, SlAt.nil⟩, rfl⟩
  · simp at hcs
    obtain ⟨rfl, rfl, rfl⟩ := hcs
    have hlen : len ≤ zs.length := by rw [hz]; split <;> omega
    have hb : ∀ i, i < zs.length → zs.getD i 0 = n8 (UInt8.ofNat (zs.getD i 0).toNat) := by
      intro i hi
      have eg : zs.getD i 0 = zs[i] := by simp [List.getD, hi]
      have hw := hwz (zs.getD i 0) (by rw [eg]; exact List.getElem_mem hi)
      have : 0 ≤ zs.getD i 0 ∧ zs.getD i 0 ≤ 255 := by simpa [Lit.wf, IntKind.min, IntKind.max, IntKind.signed, IntKind.bits] using hw
      unfold n8; rw [UInt8.toNat_ofNat']; omega
    simp only [Prod.mk.injEq] at hd
    obtain ⟨rfl, _⟩ := hd
    refine ⟨(zs.take len).map fun z => UInt8.ofNat z.toNat, ⟨some x, cap, ?_, ?_, hm, ?_⟩, by simp [dlen, lits]⟩
    · simp; omega
    · simp; omega
    · intro hp
      obtain ⟨b, o, s⟩ := x
      have h0 : 0 < zs.length := by simp at hp; omega
      have hs : s = none := by have := hcell 0 h0; simp [Addr.add] at this; exact cell_spot this
      subst hs
      refine ⟨b, o, rfl, fun j u hj => ?_⟩
      simp only [List.getElem?_map] at hj
      by_cases hjl : j < (zs.take len).length
      · have hjz : j < zs.length := by simp at hjl; omega
        have hc1 := hcell j hjz
        have e1 : (Addr.add ⟨b, o, none⟩ j) = ⟨b, o + j, none⟩ := by
          unfold Addr.add; split
          · subst_vars; rfl
          · rfl
        rw [e1] at hc1
        rw [hc1, hb j hjz]
        rw [List.getElem?_eq_getElem hjl] at hj
        simp at hj
        rw [← hj]
        have eg : zs.getD j 0 = zs[j] := by simp [List.getD, hjz]
        rw [eg]; rfl
      · rw [List.getElem?_eq_none (by omega)] at hj
        simp at hj
theorem open_bytes_trod {H : Type} {enc : TypeId × Value → H} {P : Program} {w : World} {base fuel : Nat} {spare : Nat → Bool} {held : Bool} {t e : TypeId} {A : Option Addr} {len cap : Nat} {x : DataW H × List MemPlace}
    (ht : P.underlying t = some (.slice e)) (he : P.underlying e = some (.int .u8)) (hc : P.cellsOf e = 1)
    (hf : DataW.trod enc P w base spare held fuel t [.slice A len cap] = some x) : ∃ xs, IsBytes w (.slice A len cap) xs := by
  obtain ⟨d, ps⟩ := x
  obtain ⟨xs, h, _⟩ := open_bytes_dlen ht he hc hf
  exact ⟨xs, h⟩
theorem open_bytes {H : Type} {enc : TypeId × Value → H} {P : Program} {w : World} {base b0 : Nat} {spare : Nat → Bool} {held : Bool} {r : Reach} {t e : TypeId} {v : Value} {d : DataW H} {ps : List MemPlace}
    (ht : P.underlying t = some (.slice e)) (he : P.underlying e = some (.int .u8)) (hc : P.cellsOf e = 1) (hv : Value.okWide P w r b0 t v)
    (h : DataW.Trod enc P w base spare held t v d ps) : ∃ xs, IsBytes w v xs ∧ dlen d = xs.length := by
  obtain ⟨A, len, cap, rfl⟩ := okWide_slice ht hv
  obtain ⟨fuel, hf⟩ := h
  exact open_bytes_dlen ht he hc hf
theorem wf_u32 {x : Int} (h : (Lit.int .u32 x).wf = true) : ∃ c : BitVec 32, x = n32 c := by
  have : 0 ≤ x ∧ x ≤ 4294967295 := by simpa [Lit.wf, IntKind.min, IntKind.max, IntKind.signed, IntKind.bits] using h
  exact ⟨BitVec.ofNat 32 x.toNat, by unfold n32; simp; omega⟩
theorem wf_u8 {x : Int} (h : (Lit.int .u8 x).wf = true) : ∃ c : UInt8, x = n8 c := by
  have : 0 ≤ x ∧ x ≤ 255 := by simpa [Lit.wf, IntKind.min, IntKind.max, IntKind.signed, IntKind.bits] using h
  exact ⟨UInt8.ofNat x.toNat, by unfold n8; rw [UInt8.toNat_ofNat']; omega⟩
theorem wf_i64 {x : Int} (h : (Lit.int .i64 x).wf = true) : -9223372036854775808 ≤ x ∧ x ≤ 9223372036854775807 := by
  simpa [Lit.wf, IntKind.min, IntKind.max, IntKind.signed, IntKind.bits] using h
end Go.Proofs.Ytfgkfakhlcbdbaa
