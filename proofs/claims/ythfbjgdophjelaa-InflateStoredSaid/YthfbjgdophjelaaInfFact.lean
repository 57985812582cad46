/- reliquarylaw.inflated: a closed fact. -/
import Derived.Test.YthfbjgdophjelaaInfUnpack
import Derived.Test.YthfbjgdophjelaaEqualB
import Derived.Test.YthfbjgdophjelaaEqual
namespace Go.Proofs.Ythfbjgdophjelaa.Inf
open Go Go.RowKit Go.Proofs.Ythfbjgdophjelaa Go.Proofs.Ythfbjgdophjelaa.Bits Go.Proofs.Ythfbjgdophjelaa.Code
set_option linter.unusedVariables false
set_option linter.unusedSimpArgs false

theorem fact_inf : unpackR [0, 1, 0, 254, 255, 120, 3, 0, 9] = .ok ([120], 8, [0, 1]) := by kernel_rfl
theorem below1 {w1 w2 : World} {o : Obj} (h2 : Below (w1.alloc o).heap.size (w1.alloc o) w2) : Below w1.heap.size w1 w2 :=
  ((Below.refl w1.heap.size w1).alloc (Nat.le_refl _) o).trans (h2.mono (by simp))
theorem slat_iv {w : World} {A : Option Addr} {l : List Nat} (h : SlAt w A (l.map natV)) : InAt w A (l.map Int.ofNat) := by
  unfold InAt; rw [List.map_map]; exact h
set_option maxRecDepth 100000 in
set_option maxHeartbeats 800000 in
theorem inflated_any (w : World) : Calls Try.prog 6 #[] w fun e w' => e = .returned (.bool true) ∧ Below w.heap.size w w' := by
  go_enter Try.func6, Try.ntmps6
  go_wp2_with fail
  refine (unpack_any _ 9 9 [0, 1, 0, 254, 255, 120, 3, 0, 9] _ rfl (by decide) (SlAt.of_heap (heap_alloc_new _ _) rfl)).mono ?_
  rintro e w1 ⟨hu, hb1⟩
  unfold UPost at hu
  rw [fact_inf] at hu
  obtain ⟨_, Ao, co, Ak, ck, rfl, ho, hk⟩ := hu
  dsimp only [List.length_cons, List.length_nil] at ho hk ⊢
  obtain ⟨_, _, e1, _, _, so, _⟩ := own_slat ho
  injection e1 with e1 _ e2
  subst e1 e2
  obtain ⟨_, _, e1, _, _, sk, hkn⟩ := own_slat hk
  injection e1 with e1 _ e2
  subst e1 e2
  have hcv : (convert 22 9 (.slice Ao 1 co)).run Try.prog w1 = .ok (.string ⟨#[120]⟩) w1 := conv_bytes Ao 1 co [120] w1 rfl so
  have HB := Lib.hid (below1 hb1)
  have SK := Lib.hid sk
  clear ho hk so sk hb1 hkn
  go_wp2_with fail
  refine (equal_ints _ _ 2 2 _ _ [0, 1] [0, 1] _ rfl rfl (by unfold maxLen; omega) (by unfold maxLen; omega) (SlAt.alloc (slat_iv SK.out) _) (SlAt.of_heap (heap_alloc_new _ _) rfl)).mono ?_
  rintro e w2 ⟨rfl, d, rfl⟩
  rw [show decide (([0, 1] : List Int) = [0, 1]) = true from by simp]
  go_wp2_with fail
  go_ret
  exact ⟨rfl, below_drewN' (HB.out.alloc HB.out.size _) _⟩
/-! ### what is wrong is never 0 -/
def Nz {α : Type} (r : Rd α) : Prop := ∀ z, r = .bad z → z ≠ 0
theorem nz_ok {α : Type} {a : α} : Nz (.ok a) := fun z h => by cases h
theorem nz_bad {α : Type} {z : Int} (h : z ≠ 0) : Nz (.bad z : Rd α) := fun y e => by injection e with e; subst e; exact h
theorem nz_then {α β : Type} {r : Rd α} {f : α → Rd β} (h : Nz r) (hf : ∀ a, Nz (f a)) : Nz (r.then_ f) := by
  cases r with
  | bad e => exact fun z hz => h z (by injection hz with hz; rw [hz])
  | ok a => exact hf a
theorem nz_ite {α : Type} {c : Prop} [Decidable c] {r s : Rd α} (h : Nz r) (k : Nz s) : Nz (if c then r else s) := by split <;> assumption
theorem nz_get (row : List Bool) (p n : Nat) : Nz (getR row p n) := nz_ite nz_ok (nz_bad (by decide))
theorem nz_sym (row : List Bool) (ls : List Nat) (p : Nat) : Nz (symR row ls p) := by
  unfold symR
  split
  · exact nz_ok
  · rename_i h; exact nz_bad h
theorem nz_push (out : List UInt8) (x : UInt8) : Nz (pushR out x) := nz_ite (nz_bad (by decide)) nz_ok
theorem nz_raw (row : List Bool) : ∀ (n p : Nat) (out : List UInt8), Nz (rawR row n p out)
  | 0, _, _ => nz_ok
  | n + 1, p, out => nz_then (nz_get _ _ _) fun x => nz_then (nz_push _ _) fun o => nz_raw row n _ _
theorem nz_table (zs : List Int) : Nz (tableR zs) := nz_ite nz_ok (nz_bad (by decide))
theorem nz_again (n : Nat) (l : List Nat) (v k : Nat) : Nz (againR n l v k) := nz_ite (nz_bad (by decide)) nz_ok
theorem nz_lenStep (row : List Bool) (ls : List Nat) (n p : Nat) (l : List Nat) : Nz (lenStep row ls n p l) := by
  have key : ∀ (q nb v add : Nat), Nz ((getR row q nb).then_ fun x => (againR n l v (add + x.1)).then_ fun m => Rd.ok (x.2, m)) := fun q nb v add => nz_then (nz_get _ _ _) fun x => nz_then (nz_again _ _ _ _) fun m => nz_ok
  exact nz_then (nz_sym _ _ _) fun k => nz_ite (nz_ite (nz_bad (by decide)) (key _ _ _ _)) (nz_ite (key _ _ _ _) (nz_ite (key _ _ _ _) (nz_then (nz_again _ _ _ _) fun m => nz_ok)))
theorem nz_len (row : List Bool) (ls : List Nat) (n : Nat) : ∀ (f p : Nat) (l : List Nat), Nz (lenR row ls n f p l)
  | 0, _, _ => nz_ok
  | f + 1, p, l => nz_ite nz_ok (nz_then (nz_lenStep _ _ _ _ _) fun x => nz_len row ls n f _ _)
theorem nz_sizes (row : List Bool) : ∀ (ks : List Nat) (p : Nat) (s : List Nat), Nz (sizesR row ks p s)
  | [], _, _ => nz_ok
  | k :: ks, p, s => nz_then (nz_get _ _ _) fun x => nz_sizes row ks _ _
theorem nz_head (row : List Bool) (p : Nat) : Nz (headR row p) :=
  nz_then (nz_get _ _ _) fun a => nz_then (nz_get _ _ _) fun b => nz_then (nz_get _ _ _) fun c => nz_ite (nz_bad (by decide)) (nz_then (nz_sizes _ _ _ _) fun s => nz_then (nz_table _) fun t =>
    nz_then (nz_len _ _ _ _ _ _) fun l => nz_ite (nz_bad (by decide)) (nz_then (nz_table _) fun x => nz_then (nz_table _) fun y => nz_ok))
theorem nz_copy (d : Nat) : ∀ (n : Nat) (out : List UInt8), Nz (copyR d n out)
  | 0, _ => nz_ok
  | n + 1, out => nz_then (nz_push _ _) fun o => nz_copy d n o
theorem nz_bodyStep (row : List Bool) (lit far : List Nat) (p : Nat) (out : List UInt8) : Nz (bodyStep row lit far p out) :=
  nz_then (nz_sym _ _ _) fun k => nz_ite (nz_then (nz_push _ _) fun o => nz_ok) (nz_ite nz_ok (nz_ite (nz_bad (by decide)) (nz_then (nz_get _ _ _) fun x => nz_then (nz_sym _ _ _) fun f =>
    nz_ite (nz_bad (by decide)) (nz_then (nz_get _ _ _) fun y => nz_ite (nz_bad (by decide)) (nz_then (nz_copy _ _ _) fun o => nz_ok)))))
theorem nz_body (row : List Bool) (lit far : List Nat) : ∀ (f p : Nat) (out : List UInt8), Nz (bodyR row lit far f p out)
  | 0, _, _ => nz_bad (by decide)
  | f + 1, p, out => nz_then (nz_bodyStep _ _ _ _ _) fun x => nz_ite nz_ok (nz_body row lit far f _ _)
theorem nz_stored (row : List Bool) (p : Nat) (out : List UInt8) : Nz (storedR row p out) :=
  nz_then (nz_get _ _ _) fun x => nz_then (nz_get _ _ _) fun y => nz_ite (nz_bad (by decide)) (nz_raw _ _ _ _)
theorem nz_block (row : List Bool) (p : Nat) (out : List UInt8) : Nz (blockR row p out) :=
  nz_then (nz_get _ _ _) fun l => nz_then (nz_get _ _ _) fun k => nz_ite (nz_then (nz_stored _ _ _) fun x => nz_ok) (nz_ite (nz_then (nz_body _ _ _ _ _ _) fun x => nz_ok)
    (nz_ite (nz_then (nz_head _ _) fun h => nz_then (nz_body _ _ _ _ _ _) fun x => nz_ok) (nz_bad (by decide))))
theorem nz_blocks (row : List Bool) : ∀ (f p : Nat) (out : List UInt8) (ks : List Nat), Nz (blocksR row f p out ks)
  | 0, _, _, _ => nz_bad (by decide)
  | f + 1, p, out, ks => nz_then (nz_block _ _ _) fun x => nz_ite nz_ok (nz_blocks row f _ _ _)
theorem nz_unpack (b : List UInt8) : Nz (unpackR b) := nz_ite (nz_bad (by decide)) (nz_then (nz_blocks _ _ _ _ _) fun x => nz_ok)
end Go.Proofs.Ythfbjgdophjelaa.Inf
