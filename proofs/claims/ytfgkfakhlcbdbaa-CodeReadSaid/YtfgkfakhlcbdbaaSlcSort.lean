/- sort.SliceStable at a row of places. -/
import Derived.Test.YtfgkfakhlcbdbaaSlcStab
namespace Go.Proofs.Ytfgkfakhlcbdbaa.Slc
open Go Go.RowKit Go.Proofs.Ytfgkfakhlcbdbaa Go.Proofs.Ytfgkfakhlcbdbaa.SP
set_option linter.unusedVariables false

def RowAt (w : World) (g : Nat) (rest : List Value) (l : List El) : Prop := Blk w g 68 (l.flatMap (fun e => [nv e.1, nv e.2]) ++ rest).toArray
theorem pk_row (w : World) (g : Nat) (rest : List Value) (d : List TE) : PkAt w g rest d ↔ RowAt w g rest (d.map (·.1)) := by
  unfold PkAt RowAt
  rw [List.flatMap_map]; rfl
def noSwap (f : FuncId) : Value := .func (.func f) #[] #[]
set_option maxRecDepth 100000 in
set_option maxHeartbeats 1600000 in
theorem insertion_none (gv n : Nat) (f : FuncId) (w : World) (hn : n ≤ 1) :
    Calls Try.prog 65 #[.agg #[lessV gv, noSwap f], .int .i64 0, .int .i64 (n : Int)] w fun e w' => e = .returned (.tuple #[]) ∧ Below w.heap.size w w' := by
  have h1 : ¬ (1 : Int) < (n : Int) := by omega
  unfold lessV noSwap
  go_enter Try.func65, Try.ntmps65
  go_wp2_with fail
  go_loopw [6] (fun i wr => i = .int .i64 1 ∧ Below w.heap.size w wr) (fun i _ => 0)
  case atStart => exact ⟨rfl, (Below.refl _ _).alloc (Nat.le_refl _) _⟩
  case round =>
    obtain ⟨rfl, hb⟩ := hrel
    have HB := Lib.hid hb
    clear hb
    go_wp2_with fail
    go_end0
    exact ⟨rfl, HB.out⟩
set_option maxRecDepth 100000 in
set_option maxHeartbeats 1600000 in
theorem stable_none (gv n : Nat) (f : FuncId) (w : World) (hn : n ≤ 1) :
    Calls Try.prog 47 #[.agg #[lessV gv, noSwap f], .int .i64 (n : Int)] w fun e w' => e = .returned (.tuple #[]) ∧ Below w.heap.size w w' := by
  have h1 : ¬ (20 : Int) ≤ (n : Int) := by omega
  have h2 : ¬ (20 : Int) < (n : Int) := by omega
  have HB : Hid (Below w.heap.size w (w.alloc (.cells #[lessV gv, noSwap f] 94))) := Lib.hid ((Below.refl _ _).alloc (Nat.le_refl _) _)
  have HI := Lib.hid (insertion_none gv n f (w.alloc (.cells #[lessV gv, noSwap f] 94)) hn)
  unfold lessV noSwap at *
  go_enter Try.func47, Try.ntmps47
  go_wp2_with fail
  go_loopw [5, 6] (fun a b wr => a = .int .i64 0 ∧ b = .int .i64 20 ∧ wr = w.alloc (.cells #[.func (.func 34) #[] #[.pointer (some ⟨gv, 0, none⟩)], .func (.func f) #[] #[]] 94)) (fun _ _ _ => 0)
  case atStart => exact ⟨rfl, rfl, rfl⟩
  case round =>
    obtain ⟨rfl, rfl, rfl⟩ := hrel
    go_wp2_with fail
    refine (HI.out).mono ?_
    rintro e w2 ⟨rfl, hb⟩
    have HB2 := Lib.hid (HB.out.trans (hb.mono HB.out.size))
    clear hb
    go_wp2_with fail
    go_loopw [4] (fun a wr => a = .int .i64 20 ∧ wr = w2) (fun _ _ => 0)
    case atStart => exact ⟨rfl, rfl⟩
    case round =>
      obtain ⟨rfl, rfl⟩ := hrel
      go_wp2_with fail
      go_end0
      exact ⟨rfl, HB2.out⟩
/-- what the library's entries give at a slice of places -/
structure Ent (a b : Addr) : Prop where
  val : ∀ (p : Option Addr) (n c : Nat) (W : World), (callFunc 45 #[.iface 66 (.slice p n c)]).run Try.prog W = .ok (.value (.agg #[.pointer (some a), .pointer (some ⟨W.heap.size, 0, none⟩), .int .u64 151])) (W.alloc (.cells #[.slice p n c] 66))
  len : ∀ (x : Addr) (p : Option Addr) (n c : Nat) (W : World), W.cell? x = some (.slice p n c) → (callFunc 48 #[.agg #[.pointer (some a), .pointer (some x), .int .u64 151]]).run Try.prog W = .ok (.value (.int .i64 (n : Int))) W
  swap : ∀ (p : Option Addr) (n c : Nat) (W : World), (callFunc 46 #[.iface 66 (.slice p n c)]).run Try.prog W = .ok (.value (if n = 0 then noSwap 56 else if n = 1 then noSwap 57 else .func (.func 64) #[] #[.slice p n c, .pointer (some b)])) W
  hdl : hdl = .pointer (some b)
theorem kind_place (w : World) : (Extern.Rtype.kind 68).run Try.prog w = .ok 25 w := by kernel_rfl
theorem entries : ∃ a b, Ent a b := by
  have h1 : (Try.prog.info? 66).map (fun i => i.desc) = some (.slice 68) := by kernel_rfl
  cases hi : Try.prog.info? 66 with
  | none => rw [hi] at h1; cases h1
  | some i =>
    rw [hi] at h1
    have hd : i.desc = .slice 68 := by simpa using h1
    have h2 : (Try.prog.info? 68).map (fun i => (i.hasPointers, i.bytes)) = some (false, 16) := by kernel_rfl
    cases hie : Try.prog.info? 68 with
    | none => rw [hie] at h2; cases h2
    | some ie =>
      rw [hie] at h2
      simp only [Option.map_some, Option.some.injEq, Prod.mk.injEq] at h2
      refine ⟨⟨Try.prog.globals.size, 66, none⟩, ⟨Try.prog.globals.size, 68, none⟩, ?_, ?_, ?_, rfl⟩
      · intro p n c W
        rw [run_callFunc_extern Try.func45 (by kernel_rfl) (by kernel_rfl) (by kernel_rfl) (e := fun args => Extern.ReflectliteValue.unpack (args.getD 0 (.tuple #[]))) (by kernel_rfl)]
        rw [show Sem.run Try.prog ((fun args : Array Value => Extern.ReflectliteValue.unpack (args.getD 0 (.tuple #[]))) #[.iface 66 (.slice p n c)]) W = _ from Lib.run_valueOf_slice (P := Try.prog) _ _ i hi hd p n c W]
        rfl
      · intro x p n c W hx
        rw [run_callFunc_extern Try.func48 (by kernel_rfl) (by kernel_rfl) (by kernel_rfl) (e := Extern.ReflectliteValue.method (Extern.ReflectliteValue.valueError "reflectlite.Value.Len" 0) Extern.ReflectliteValue.len) (by kernel_rfl)]
        rw [show Sem.run Try.prog (Extern.ReflectliteValue.method (Extern.ReflectliteValue.valueError "reflectlite.Value.Len" 0) Extern.ReflectliteValue.len #[.agg #[.pointer (some ⟨Try.prog.globals.size, 66, none⟩), .pointer (some x), .int .u64 151]]) W = _ from Lib.run_valueLen_slice (P := Try.prog) _ _ i hi hd (by kernel_rfl) x p n c W hx]
        rfl
      · intro p n c W
        rw [run_callFunc_extern Try.func46 (by kernel_rfl) (by kernel_rfl) (by kernel_rfl) (e := Extern.ReflectliteSwapper.swapper "internal/reflectlite" (Extern.ReflectliteValue.valueError "Swapper")) (by kernel_rfl)]
        rcases Nat.eq_zero_or_pos n with h0 | h0
        · subst h0
          have e9 : Lib.swapperK 0 ie 25 = 1 := rfl
          rw [Lib.run_swapper_slice (P := Try.prog) _ _ i ie hi hd hie 25 kind_place p 0 c 56 (by rw [e9]; kernel_rfl) W, e9]
          rfl
        · by_cases h1' : n = 1
          · subst h1'
            have e9 : Lib.swapperK 1 ie 25 = 2 := rfl
            rw [Lib.run_swapper_slice (P := Try.prog) _ _ i ie hi hd hie 25 kind_place p 1 c 57 (by rw [e9]; kernel_rfl) W, e9]
            rfl
          · have e9 : Lib.swapperK n ie 25 = 9 := by
              unfold Lib.swapperK
              rw [h2.1, h2.2]
              have e0 : (n == 0) = false := by simp; omega
              have e1 : (n == 1) = false := by simp; exact h1'
              simp [e0, e1]
            rw [Lib.run_swapper_slice (P := Try.prog) _ _ i ie hi hd hie 25 kind_place p n c 64 (by rw [e9]; kernel_rfl) W, e9, if_neg (by omega), if_neg (by omega), if_neg h1']
            rfl
set_option maxRecDepth 100000 in
set_option maxHeartbeats 1600000 in
theorem sliceStable_any (g gv N cap : Nat) (rest : List Value) (l : List El) (w : World) (h : RowAt w g rest l) (hv : Var w g gv N cap) (hN : l.length = N) (hN2 : N ≤ 1000000) :
    Calls Try.prog 33 #[.iface 66 (.slice (some ⟨g, 0, none⟩) N cap), lessV gv] w fun e w' => e = .returned (.tuple #[]) ∧ RowAt w' g rest (stab ekey l) ∧ w.grownBy w' (some g) := by
  obtain ⟨a, b, hent⟩ := entries
  have hval := hent.val
  have hlen := hent.len ⟨w.heap.size, 0, none⟩ (some ⟨g, 0, none⟩) N cap ((w.alloc (.cells #[.slice (some ⟨g, 0, none⟩) N cap] 66)).alloc (.cells #[.pointer (some a), .pointer (some ⟨w.heap.size, 0, none⟩), .int .u64 151] 89)) (by simp)
  have hswap := hent.swap (some ⟨g, 0, none⟩) N cap
  have Hh := Lib.hid hent.hdl
  have HR := Lib.hid h
  have HV := Lib.hid hv
  have HN := Lib.hid hN
  have hgv : gv < w.heap.size := hv.var.lt
  have hgg : g < w.heap.size := Blk.lt h
  clear hent h hv hN
  obtain ⟨w2, hw2⟩ : ∃ w2, w2 = ((w.alloc (.cells #[.slice (some ⟨g, 0, none⟩) N cap] 66)).alloc (.cells #[.pointer (some a), .pointer (some ⟨w.heap.size, 0, none⟩), .int .u64 151] 89)) := ⟨_, rfl⟩
  have hb2 : Below w.heap.size w w2 := by rw [hw2]; exact ((Below.refl _ _).alloc (Nat.le_refl _) _).alloc (by simp) _
  have Hb2 := Lib.hid hb2
  have HR2 : Hid (RowAt w2 g rest l) := Lib.hid (Blk.below HR.out hb2 hgg)
  have HV2 : Hid (Var w2 g gv N cap) := Lib.hid ⟨Blk.below HV.out.var hb2 hgv, HV.out.ne⟩
  have Hw2 := Lib.hid hw2
  clear hb2 hw2
  rcases (by omega : N = 0 ∨ N = 1 ∨ 2 ≤ N) with h0 | h0 | h0
  · subst h0
    rw [if_pos rfl] at hswap
    have HS := Lib.hid (stable_none gv 0 56 w2 (by omega))
    have hl : l = [] := List.eq_nil_of_length_eq_zero HN.out
    subst hl
    rw [Hw2.out] at HS
    unfold lessV noSwap at *
    go_enter Try.func33, Try.ntmps33
    go_wp2_with fail
    refine (HS.out).mono ?_
    rintro e w3 ⟨rfl, hb3⟩
    rw [← Hw2.out] at hb3
    have HB3 := Lib.hid (Hb2.out.trans (hb3.mono Hb2.out.size))
    have HR3 : Hid (RowAt w3 g rest []) := Lib.hid (Blk.below HR2.out hb3 (Blk.lt HR2.out))
    clear hb3 hval hlen hswap
    go_wp2_with fail
    go_end0
    exact ⟨rfl, by rw [List.perm_nil.1 (stab_perm ekey ([] : List El))]; exact HR3.out, grown_below (World.grownBy.refl _ _) HB3.out⟩
  · subst h0
    rw [if_neg (by omega), if_pos rfl] at hswap
    have HS := Lib.hid (stable_none gv 1 57 w2 (by omega))
    have hl : stab ekey l = l := by
      have := HN.out
      match l, this with
      | [x], _ => exact List.perm_singleton.1 (stab_perm ekey [x])
    have Hl := Lib.hid hl
    rw [Hw2.out] at HS
    unfold lessV noSwap at *
    clear hl
    go_enter Try.func33, Try.ntmps33
    go_wp2_with fail
    refine (HS.out).mono ?_
    rintro e w3 ⟨rfl, hb3⟩
    rw [← Hw2.out] at hb3
    have HB3 := Lib.hid (Hb2.out.trans (hb3.mono Hb2.out.size))
    have HR3 : Hid (RowAt w3 g rest l) := Lib.hid (Blk.below HR2.out hb3 (Blk.lt HR2.out))
    clear hb3 hval hlen hswap
    go_wp2_with fail
    go_end0
    exact ⟨rfl, by rw [Hl.out]; exact HR3.out, grown_below (World.grownBy.refl _ _) HB3.out⟩
  · rw [if_neg (by omega), if_neg (by omega)] at hswap
    have HS := Lib.hid (stable_any g gv N cap rest l.zipIdx w2 ((pk_row w2 g rest _).2 (by rw [List.zipIdx_map_fst]; exact HR2.out)) HV2.out (by simpa using HN.out) hN2 (rise_zip l 0))
    rw [Hw2.out] at HS
    unfold lessV swapV at *
    rw [Hh.out] at HS
    go_enter Try.func33, Try.ntmps33
    go_wp2_with fail
    refine (HS.out).mono ?_
    rintro e w3 ⟨rfl, ⟨d', hp, hpe, hso⟩, hg⟩
    rw [← Hw2.out] at hg
    have HR3 : Hid (RowAt w3 g rest (stab ekey l)) := Lib.hid (by
      rw [← stab_unique ekey l d' hpe hso]; exact (pk_row _ _ _ _).1 hp)
    have HG := Lib.hid ((grown_below (World.grownBy.refl w (some g)) Hb2.out).trans hg)
    clear hp hpe hso hg hval hlen hswap
    go_wp2_with fail
    go_end0
    exact ⟨rfl, HR3.out, HG.out⟩
end Go.Proofs.Ytfgkfakhlcbdbaa.Slc
