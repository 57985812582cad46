/- texts joined: InfMono InfUnpack InfFact ConcatB CatB Ints Her0. -/
import Derived.Test.YthpdcnjaodjjmaaBaseQ5
import Derived.Test.YthpdcnjaodjjmaaBaseQ7
import Derived.Test.YthpdcnjaodjjmaaBaseQ2
import Derived.Test.YthpdcnjaodjjmaaBaseQ1
import Derived.Test.YthpdcnjaodjjmaaProg
import Derived.WalkSpells
import Derived.Lib.AppendZeros
import Derived.SizedLaws
/- package inflate: where reading stands goes on, and never beyond the row. No program in sight. -/
namespace Go.Proofs.Ythpdcnjaodjjmaa.Inf
open Go.Proofs.Ythpdcnjaodjjmaa.Bits Go.Proofs.Ythpdcnjaodjjmaa.Code
set_option linter.unusedVariables false

theorem then_inv {α β : Type} {r : Rd α} {f : α → Rd β} {b : β} (h : r.then_ f = .ok b) : ∃ a, r = .ok a ∧ f a = .ok b := by
  cases r with
  | bad e => cases h
  | ok a => exact ⟨a, rfl, h⟩
theorem fillP_le (p : Nat) : p ≤ fillP p := by unfold fillP; omega
theorem raw_mono {row : List Bool} : ∀ {n p : Nat} {out : List UInt8} {a : Nat × List UInt8}, rawR row n p out = .ok a → p ≤ row.length → p ≤ a.1 ∧ a.1 ≤ row.length
  | 0, p, out, a, h, hp => by injection h with h; subst h; exact ⟨Nat.le_refl _, hp⟩
  | n + 1, p, out, a, h, hp => by
    obtain ⟨x, hx, h⟩ := then_inv h
    obtain ⟨o, ho, h⟩ := then_inv h
    have h1 := getR_pos hx
    have h2 := raw_mono h (by omega)
    omega
theorem stored_mono {row : List Bool} {p : Nat} {out : List UInt8} {a : Nat × List UInt8} (h : storedR row p out = .ok a) : p ≤ a.1 ∧ a.1 ≤ row.length := by
  obtain ⟨x, hx, h⟩ := then_inv h
  obtain ⟨y, hy, h⟩ := then_inv h
  have h1 := getR_pos hx
  have h2 := getR_pos hy
  have h3 := fillP_le p
  split at h
  · cases h
  · have h4 := raw_mono h (by omega)
    omega
theorem lenStep_mono {row : List Bool} {ls l : List Nat} {n p : Nat} {a : Nat × List Nat} (h : lenStep row ls n p l = .ok a) (hp : p ≤ row.length) : p ≤ a.1 ∧ a.1 ≤ row.length := by
  obtain ⟨k, hk, h⟩ := then_inv h
  have h1 := symR_lt hk hp
  have key : ∀ (q nb v add : Nat), ((getR row q nb).then_ fun x => (againR n l v (add + x.1)).then_ fun m => Rd.ok (x.2, m)) = .ok a → q ≤ a.1 ∧ a.1 ≤ row.length := by
    intro q nb v add h
    obtain ⟨x, hx, h⟩ := then_inv h
    obtain ⟨m, _, h⟩ := then_inv h
    have := getR_pos hx
    injection h with h
    subst h
    (try dsimp only)
    omega
  split at h
  · split at h
    · cases h
    · have := key _ _ _ _ h; omega
  · split at h
    · have := key _ _ _ _ h; omega
    · split at h
      · have := key _ _ _ _ h; omega
      · obtain ⟨m, _, h⟩ := then_inv h
        injection h with h
        subst h
        (try dsimp only)
        omega
theorem len_mono {row : List Bool} {ls : List Nat} {n : Nat} : ∀ {f p : Nat} {l : List Nat} {a : Nat × List Nat}, lenR row ls n f p l = .ok a → p ≤ row.length → p ≤ a.1 ∧ a.1 ≤ row.length
  | 0, p, l, a, h, hp => by injection h with h; subst h; exact ⟨Nat.le_refl _, hp⟩
  | f + 1, p, l, a, h, hp => by
    unfold lenR at h
    split at h
    · injection h with h; subst h; exact ⟨Nat.le_refl _, hp⟩
    · obtain ⟨x, hx, h⟩ := then_inv h
      have h1 := lenStep_mono hx hp
      have h2 := len_mono h h1.2
      omega
theorem sizes_mono {row : List Bool} : ∀ {ks : List Nat} {p : Nat} {s : List Nat} {a : Nat × List Nat}, sizesR row ks p s = .ok a → p ≤ row.length → p ≤ a.1 ∧ a.1 ≤ row.length
  | [], p, s, a, h, hp => by injection h with h; subst h; exact ⟨Nat.le_refl _, hp⟩
  | k :: ks, p, s, a, h, hp => by
    obtain ⟨x, hx, h⟩ := then_inv h
    have h1 := getR_pos hx
    have h2 := sizes_mono h (by omega)
    omega
theorem head_mono {row : List Bool} {p : Nat} {a : Nat × List Nat × List Nat} (h : headR row p = .ok a) : p ≤ a.1 ∧ a.1 ≤ row.length := by
  obtain ⟨x, hx, h⟩ := then_inv h
  obtain ⟨y, hy, h⟩ := then_inv h
  obtain ⟨z, hz, h⟩ := then_inv h
  have h1 := getR_pos hx
  have h2 := getR_pos hy
  have h3 := getR_pos hz
  split at h
  · cases h
  · obtain ⟨s, hs, h⟩ := then_inv h
    obtain ⟨t, _, h⟩ := then_inv h
    obtain ⟨l, hl, h⟩ := then_inv h
    have h4 := sizes_mono hs (by omega)
    have h5 := len_mono hl h4.2
    split at h
    · cases h
    · obtain ⟨u, _, h⟩ := then_inv h
      obtain ⟨v, _, h⟩ := then_inv h
      injection h with h
      subst h
      (try dsimp only)
      omega
theorem bodyStep_mono {row : List Bool} {lit far : List Nat} {p : Nat} {out : List UInt8} {a : Bool × Nat × List UInt8} (h : bodyStep row lit far p out = .ok a) (hp : p ≤ row.length) : p < a.2.1 ∧ a.2.1 ≤ row.length := by
  obtain ⟨k, hk, h⟩ := then_inv h
  have h1 := symR_lt hk hp
  split at h
  · obtain ⟨o, _, h⟩ := then_inv h
    injection h with h; subst h; dsimp only; omega
  · split at h
    · injection h with h; subst h; dsimp only; omega
    · split at h
      · cases h
      · obtain ⟨x, hx, h⟩ := then_inv h
        obtain ⟨f, hf, h⟩ := then_inv h
        have h2 := getR_pos hx
        have h3 := symR_lt hf (by omega)
        split at h
        · cases h
        · obtain ⟨y, hy, h⟩ := then_inv h
          have h4 := getR_pos hy
          split at h
          · cases h
          · obtain ⟨o, _, h⟩ := then_inv h
            injection h with h; subst h; dsimp only; omega
theorem body_mono {row : List Bool} {lit far : List Nat} : ∀ {f p : Nat} {out : List UInt8} {a : Nat × List UInt8}, bodyR row lit far f p out = .ok a → p ≤ row.length → p ≤ a.1 ∧ a.1 ≤ row.length
  | 0, p, out, a, h, hp => by cases h
  | f + 1, p, out, a, h, hp => by
    obtain ⟨x, hx, h⟩ := then_inv h
    have h1 := bodyStep_mono hx hp
    split at h
    · injection h with h; subst h; omega
    · have h2 := body_mono h h1.2
      omega
theorem block_mono {row : List Bool} {p : Nat} {out : List UInt8} {a : Bool × Nat × Nat × List UInt8} (h : blockR row p out = .ok a) : p < a.2.2.1 ∧ a.2.2.1 ≤ row.length := by
  obtain ⟨l, hl, h⟩ := then_inv h
  obtain ⟨k, hk, h⟩ := then_inv h
  have h1 := getR_pos hl
  have h2 := getR_pos hk
  split at h
  · obtain ⟨x, hx, h⟩ := then_inv h
    have := stored_mono hx
    injection h with h; subst h; dsimp only; omega
  · split at h
    · obtain ⟨x, hx, h⟩ := then_inv h
      have := body_mono hx (by omega)
      injection h with h; subst h; dsimp only; omega
    · split at h
      · obtain ⟨y, hy, h⟩ := then_inv h
        obtain ⟨x, hx, h⟩ := then_inv h
        have h3 := head_mono hy
        have := body_mono hx h3.2
        injection h with h; subst h; dsimp only; omega
      · cases h
theorem blocks_mono {row : List Bool} : ∀ {f p : Nat} {out : List UInt8} {ks : List Nat} {a : Nat × List UInt8 × List Nat}, blocksR row f p out ks = .ok a → p < a.1 ∧ a.1 ≤ row.length ∧ a.2.2 ≠ []
  | 0, p, out, ks, a, h => by cases h
  | f + 1, p, out, ks, a, h => by
    obtain ⟨x, hx, h⟩ := then_inv h
    have h1 := block_mono hx
    split at h
    · injection h with h; subst h; exact ⟨h1.1, h1.2, by simp⟩
    · have h2 := blocks_mono h
      exact ⟨by omega, h2.2⟩
/-! ### a beginning of the row says the same, as far as it goes -/
theorem cut_ok {α : Type} {L : Nat} {pos : α → Nat} {a : α} (h : pos a ≤ L) : Cut L pos (.ok a) (.ok a) := by
  intro b hb
  injection hb with hb
  subst hb
  rw [if_pos h]
theorem cut_bad {α : Type} {L : Nat} {pos : α → Nat} {e : Int} {r : Rd α} : Cut L pos (.bad e) r := by intro b hb; cases hb
/-- what comes of a value that is the same, where it stands as it stood -/
theorem cut_same {α β : Type} {L : Nat} {pb : β → Nat} {r : Rd α} {f f' : α → Rd β} (hf : ∀ a, r = .ok a → Cut L pb (f a) (f' a)) : Cut L pb (r.then_ f) (r.then_ f') := by
  cases r with
  | bad e => exact cut_bad
  | ok a => exact hf a rfl
variable {row : List Bool} {L : Nat}
theorem cut_raw (hL : L ≤ row.length) : ∀ {n p : Nat} {out : List UInt8}, p ≤ L → Cut L (fun x : Nat × List UInt8 => x.1) (rawR row n p out) (rawR (row.take L) n p out)
  | 0, p, out, hp => cut_ok hp
  | n + 1, p, out, hp => by
    refine cut_then (cut_get hp hL) (fun x hx hxl => cut_same (fun o ho => cut_raw hL hxl)) (fun x b hx h => ?_)
    obtain ⟨o, _, h⟩ := then_inv h
    have := getR_pos hx
    exact (raw_mono h (by omega)).1
theorem getP_mono {p n : Nat} {a : Nat × Nat} (h : getR row p n = .ok a) : a.2 ≤ row.length := by have := getR_pos h; omega
/-- reading that begins beyond the shorter row ends too soon -/
theorem get_torn {p n : Nat} (h : L < p) (hL : L ≤ row.length) : getR (row.take L) p n = .bad 7 := by
  unfold getR
  rw [if_neg (by rw [List.length_take]; omega)]
theorem cut_get' {p n : Nat} (hL : L ≤ row.length) : Cut L (fun x : Nat × Nat => x.2) (getR row p n) (getR (row.take L) p n) := by
  rcases Nat.lt_or_ge L p with h | h
  · intro a ha
    have := getR_pos ha
    (try dsimp only)
    rw [if_neg (by omega)]
    exact get_torn h hL
  · exact cut_get h hL
theorem cut_stored (hL : L ≤ row.length) {p : Nat} {out : List UInt8} : Cut L (fun x : Nat × List UInt8 => x.1) (storedR row p out) (storedR (row.take L) p out) := by
  refine cut_then (cut_get' hL) (fun x hx hxl => ?_) (fun x b hx h => ?_)
  · refine cut_then (cut_get hxl hL) (fun y hy hyl => ?_) (fun y b hy h => ?_)
    · (try dsimp only)
      split
      · exact cut_bad
      · exact cut_raw hL hyl
    · split at h
      · cases h
      · exact (raw_mono h (getP_mono hy)).1
  · obtain ⟨y, hy, h⟩ := then_inv h
    have := getR_pos hy
    split at h
    · cases h
    · have := raw_mono h (getP_mono hy)
      omega
theorem cut_lenStep (hL : L ≤ row.length) {ls l : List Nat} {n p : Nat} (hp : p ≤ L) : Cut L (fun x : Nat × List Nat => x.1) (lenStep row ls n p l) (lenStep (row.take L) ls n p l) := by
  have key : ∀ (q nb v add : Nat), q ≤ L → Cut L (fun x : Nat × List Nat => x.1) ((getR row q nb).then_ fun x => (againR n l v (add + x.1)).then_ fun m => Rd.ok (x.2, m)) ((getR (row.take L) q nb).then_ fun x => (againR n l v (add + x.1)).then_ fun m => Rd.ok (x.2, m)) := by
    intro q nb v add hq
    refine cut_then (cut_get hq hL) (fun x hx hxl => cut_same (fun m hm => cut_ok hxl)) (fun x b hx h => ?_)
    obtain ⟨m, _, h⟩ := then_inv h
    injection h with h
    subst h
    exact Nat.le_refl _
  refine cut_then (cut_sym hp hL) (fun k hk hkl => ?_) (fun k b hk h => ?_)
  · (try dsimp only)
    split
    · split
      · exact cut_bad
      · exact key _ _ _ _ hkl
    · split
      · exact key _ _ _ _ hkl
      · split
        · exact key _ _ _ _ hkl
        · exact cut_same (fun m hm => cut_ok hkl)
  · have hk2 := symR_lt hk (by omega)
    have k2 : ∀ (q nb v add : Nat), ((getR row q nb).then_ fun x => (againR n l v (add + x.1)).then_ fun m => Rd.ok (x.2, m)) = .ok b → q ≤ b.1 := by
      intro q nb v add h
      obtain ⟨x, hx, h⟩ := then_inv h
      obtain ⟨m, _, h⟩ := then_inv h
      have := getR_pos hx
      injection h with h
      subst h
      (try dsimp only)
      omega
    split at h
    · split at h
      · cases h
      · exact k2 _ _ _ _ h
    · split at h
      · exact k2 _ _ _ _ h
      · split at h
        · exact k2 _ _ _ _ h
        · obtain ⟨m, _, h⟩ := then_inv h
          injection h with h
          subst h
          exact Nat.le_refl _
theorem cut_len (hL : L ≤ row.length) {ls : List Nat} {n : Nat} : ∀ {f p : Nat} {l : List Nat}, p ≤ L → Cut L (fun x : Nat × List Nat => x.1) (lenR row ls n f p l) (lenR (row.take L) ls n f p l)
  | 0, p, l, hp => cut_ok hp
  | f + 1, p, l, hp => by
    unfold lenR
    split
    · exact cut_ok hp
    · refine cut_then (cut_lenStep hL hp) (fun x hx hxl => cut_len hL hxl) (fun x b hx h => ?_)
      have := lenStep_mono hx (by omega)
      exact (len_mono h this.2).1
theorem cut_sizes (hL : L ≤ row.length) : ∀ {ks : List Nat} {p : Nat} {s : List Nat}, p ≤ L → Cut L (fun x : Nat × List Nat => x.1) (sizesR row ks p s) (sizesR (row.take L) ks p s)
  | [], p, s, hp => cut_ok hp
  | k :: ks, p, s, hp => by
    refine cut_then (cut_get hp hL) (fun x hx hxl => cut_sizes hL hxl) (fun x b hx h => ?_)
    exact (sizes_mono h (getP_mono hx)).1
theorem cut_head (hL : L ≤ row.length) {p : Nat} (hp : p ≤ L) : Cut L (fun x : Nat × List Nat × List Nat => x.1) (headR row p) (headR (row.take L) p) := by
  have tl : ∀ {m n : Nat} {t : List Nat} {s : Nat × List Nat} {b : Nat × List Nat × List Nat}, s.1 ≤ row.length → ((lenR row t n n s.1 []).then_ fun l => if l.2.getD 256 0 = 0 then Rd.bad 8 else (tableR (zsOf (l.2.take m))).then_ fun x => (tableR (zsOf (l.2.drop m))).then_ fun y => .ok (l.1, x, y)) = .ok b → s.1 ≤ b.1 := by
    intro m n t s b hs h
    obtain ⟨l, hl, h⟩ := then_inv h
    have h1 := len_mono hl hs
    split at h
    · cases h
    · obtain ⟨u, _, h⟩ := then_inv h
      obtain ⟨v, _, h⟩ := then_inv h
      injection h with h
      subst h
      exact h1.1
  refine cut_then (cut_get hp hL) (fun x hx hxl => ?_) (fun x b hx h => ?_)
  · refine cut_then (cut_get hxl hL) (fun y hy hyl => ?_) (fun y b hy h => ?_)
    · refine cut_then (cut_get hyl hL) (fun z hz hzl => ?_) (fun z b hz h => ?_)
      · (try dsimp only)
        split
        · exact cut_bad
        · refine cut_then (cut_sizes hL hzl) (fun s hs hsl => ?_) (fun s b hs h => ?_)
          · refine cut_same (fun t ht => ?_)
            refine cut_then (cut_len hL hsl) (fun l hl hll => ?_) (fun l b hl h => ?_)
            · (try dsimp only)
              split
              · exact cut_bad
              · exact cut_same (fun u hu => cut_same (fun v hv => cut_ok hll))
            · split at h
              · cases h
              · obtain ⟨u, _, h⟩ := then_inv h
                obtain ⟨v, _, h⟩ := then_inv h
                injection h with h
                subst h
                exact Nat.le_refl _
          · obtain ⟨t, _, h⟩ := then_inv h
            exact tl (sizes_mono hs (getP_mono hz)).2 h
      · split at h
        · cases h
        · obtain ⟨s, hs, h⟩ := then_inv h
          obtain ⟨t, _, h⟩ := then_inv h
          have h1 := sizes_mono hs (getP_mono hz)
          have h2 := tl h1.2 h
          omega
    · obtain ⟨z, hz, h⟩ := then_inv h
      have h0 := getR_pos hz
      split at h
      · cases h
      · obtain ⟨s, hs, h⟩ := then_inv h
        obtain ⟨t, _, h⟩ := then_inv h
        have h1 := sizes_mono hs (getP_mono hz)
        have h2 := tl h1.2 h
        omega
  · obtain ⟨y, hy, h⟩ := then_inv h
    obtain ⟨z, hz, h⟩ := then_inv h
    have h0 := getR_pos hz
    have h0' := getR_pos hy
    split at h
    · cases h
    · obtain ⟨s, hs, h⟩ := then_inv h
      obtain ⟨t, _, h⟩ := then_inv h
      have h1 := sizes_mono hs (getP_mono hz)
      have h2 := tl h1.2 h
      omega
theorem cut_bodyStep (hL : L ≤ row.length) {lit far : List Nat} {p : Nat} {out : List UInt8} (hp : p ≤ L) : Cut L (fun x : Bool × Nat × List UInt8 => x.2.1) (bodyStep row lit far p out) (bodyStep (row.take L) lit far p out) := by
  have tl : ∀ {f : Nat × Nat} {n : Nat} {b : Bool × Nat × List UInt8}, (if 30 ≤ f.1 then Rd.bad 8 else (getR row f.2 (farL.getD f.1 (0, 0)).2).then_ fun y => if out.length < (farL.getD f.1 (0, 0)).1 + y.1 then .bad 9 else (copyR ((farL.getD f.1 (0, 0)).1 + y.1) n out).then_ fun o => .ok (false, y.2, o)) = .ok b → f.2 ≤ b.2.1 := by
    intro f n b h
    split at h
    · cases h
    · obtain ⟨y, hy, h⟩ := then_inv h
      have := getR_pos hy
      split at h
      · cases h
      · obtain ⟨o, _, h⟩ := then_inv h
        injection h with h
        subst h
        (try dsimp only)
        omega
  refine cut_then (cut_sym hp hL) (fun k hk hkl => ?_) (fun k b hk h => ?_)
  · (try dsimp only)
    split
    · exact cut_same (fun o ho => cut_ok hkl)
    · split
      · exact cut_ok hkl
      · split
        · exact cut_bad
        · refine cut_then (cut_get hkl hL) (fun x hx hxl => ?_) (fun x b hx h => ?_)
          · refine cut_then (cut_sym hxl hL) (fun f hf hfl => ?_) (fun f b hf h => tl h)
            (try dsimp only)
            split
            · exact cut_bad
            · refine cut_then (cut_get hfl hL) (fun y hy hyl => ?_) (fun y b hy h => ?_)
              · (try dsimp only)
                split
                · exact cut_bad
                · exact cut_same (fun o ho => cut_ok hyl)
              · split at h
                · cases h
                · obtain ⟨o, _, h⟩ := then_inv h
                  injection h with h
                  subst h
                  exact Nat.le_refl _
          · obtain ⟨f, hf, h⟩ := then_inv h
            have h1 := symR_lt hf (getP_mono hx)
            have h2 := tl h
            omega
  · have h1 := symR_lt hk (by omega)
    split at h
    · obtain ⟨o, _, h⟩ := then_inv h
      injection h with h; subst h; exact Nat.le_refl _
    · split at h
      · injection h with h; subst h; exact Nat.le_refl _
      · split at h
        · cases h
        · obtain ⟨x, hx, h⟩ := then_inv h
          obtain ⟨f, hf, h⟩ := then_inv h
          have h2 := getR_pos hx
          have h3 := symR_lt hf (getP_mono hx)
          have h4 := tl h
          omega
theorem cut_body (hL : L ≤ row.length) {lit far : List Nat} : ∀ {f f' p : Nat} {out : List UInt8}, p ≤ L → L + 1 ≤ p + f' → Cut L (fun x : Nat × List UInt8 => x.1) (bodyR row lit far f p out) (bodyR (row.take L) lit far f' p out)
  | 0, f', p, out, hp, hf => cut_bad
  | f + 1, 0, p, out, hp, hf => by omega
  | f + 1, f' + 1, p, out, hp, hf => by
    refine cut_then (cut_bodyStep hL hp) (fun x hx hxl => ?_) (fun x b hx h => ?_)
    · have h1 := bodyStep_mono hx (by omega)
      (try dsimp only at hxl ⊢)
      split
      · exact cut_ok hxl
      · exact cut_body hL hxl (by omega)
    · have h1 := bodyStep_mono hx (by omega)
      split at h
      · injection h with h; subst h; exact Nat.le_refl _
      · exact (body_mono h h1.2).1
theorem cut_block (hL : L ≤ row.length) {p : Nat} {out : List UInt8} (hp : p ≤ L) : Cut L (fun x : Bool × Nat × Nat × List UInt8 => x.2.2.1) (blockR row p out) (blockR (row.take L) p out) := by
  have hlen : (row.take L).length = L := by rw [List.length_take]; omega
  refine cut_then (cut_get hp hL) (fun l hl hll => ?_) (fun l b hl h => ?_)
  · refine cut_then (cut_get hll hL) (fun k hk hkl => ?_) (fun k b hk h => ?_)
    · (try dsimp only at hkl ⊢)
      split
      · refine cut_then (cut_stored hL) (fun x hx hxl => cut_ok hxl) (fun x b hx h => ?_)
        injection h with h; subst h; exact Nat.le_refl _
      · split
        · refine cut_then (cut_body hL hkl (by omega)) (fun x hx hxl => cut_ok hxl) (fun x b hx h => ?_)
          injection h with h; subst h; exact Nat.le_refl _
        · split
          · refine cut_then (cut_head hL hkl) (fun x hx hxl => ?_) (fun x b hx h => ?_)
            · refine cut_then (cut_body hL hxl (by (try dsimp only at hxl); omega)) (fun y hy hyl => cut_ok hyl) (fun y b hy h => ?_)
              injection h with h; subst h; exact Nat.le_refl _
            · obtain ⟨y, hy, h⟩ := then_inv h
              have h1 := head_mono hx
              have h2 := body_mono hy h1.2
              injection h with h; subst h; dsimp only; omega
          · exact cut_bad
    · have h0 := getR_pos hk
      split at h
      · obtain ⟨x, hx, h⟩ := then_inv h
        have := stored_mono hx
        injection h with h; subst h; dsimp only; omega
      · split at h
        · obtain ⟨x, hx, h⟩ := then_inv h
          have := body_mono hx (getP_mono hk)
          injection h with h; subst h; dsimp only; omega
        · split at h
          · obtain ⟨y, hy, h⟩ := then_inv h
            obtain ⟨x, hx, h⟩ := then_inv h
            have h3 := head_mono hy
            have := body_mono hx h3.2
            injection h with h; subst h; dsimp only; omega
          · cases h
  · have hb : blockR row p out = .ok b := by
      show (getR row p 1).then_ _ = _
      rw [hl]
      exact h
    have h1 := getR_pos hl
    obtain ⟨k, hk, h⟩ := then_inv h
    have h0 := getR_pos hk
    split at h
    · obtain ⟨x, hx, h⟩ := then_inv h
      have := stored_mono hx
      injection h with h; subst h; dsimp only; omega
    · split at h
      · obtain ⟨x, hx, h⟩ := then_inv h
        have := body_mono hx (getP_mono hk)
        injection h with h; subst h; dsimp only; omega
      · split at h
        · obtain ⟨y, hy, h⟩ := then_inv h
          obtain ⟨x, hx, h⟩ := then_inv h
          have h3 := head_mono hy
          have := body_mono hx h3.2
          injection h with h; subst h; dsimp only; omega
        · cases h
theorem cut_blocks (hL : L ≤ row.length) : ∀ {f f' p : Nat} {out : List UInt8} {ks : List Nat}, p ≤ L → L + 1 ≤ p + f' → Cut L (fun x : Nat × List UInt8 × List Nat => x.1) (blocksR row f p out ks) (blocksR (row.take L) f' p out ks)
  | 0, f', p, out, ks, hp, hf => cut_bad
  | f + 1, 0, p, out, ks, hp, hf => by omega
  | f + 1, f' + 1, p, out, ks, hp, hf => by
    refine cut_then (cut_block hL hp) (fun x hx hxl => ?_) (fun x b hx h => ?_)
    · have h1 := block_mono hx
      (try dsimp only at hxl ⊢)
      split
      · exact cut_ok hxl
      · exact cut_blocks hL hxl (by omega)
    · split at h
      · injection h with h; subst h; exact Nat.le_refl _
      · exact Nat.le_of_lt (blocks_mono h).1
theorem bitsL_takeN (b : List UInt8) (k : Nat) (hk : k ≤ b.length) : bitsL (b.take k) = (bitsL b).take (8 * k) := by
  have e : bitsL b = bitsL (b.take k) ++ bitsL (b.drop k) := by rw [← bitsL_append, List.take_append_drop]
  rw [e, List.take_left' (by rw [bitsL_length, List.length_take, Nat.min_eq_left hk])]
/-- what was unpacked comes of the bytes that were read alone -/
theorem unpack_take {b : List UInt8} {out : List UInt8} {used : Nat} {ks : List Nat} (h : unpackR b = .ok (out, used, ks)) : 1 ≤ used ∧ used ≤ b.length ∧ ks ≠ [] ∧ unpackR (b.take (used - 1)) = .bad 7 ∧ unpackR (b.take used) = .ok (out, used, ks) := by
  unfold unpackR at h
  split at h
  · cases h
  · rename_i h6
    obtain ⟨x, hx, h⟩ := then_inv h
    injection h with h
    obtain ⟨p, o, l⟩ := x
    dsimp only at h
    injection h with h1 h2
    injection h2 with h2 h3
    subst h1 h2 h3
    have hm := blocks_mono hx
    rw [bitsL_length] at hm
    dsimp only at hm
    have hk : ∀ k, k ≤ b.length → bitsL (b.take k) = (bitsL b).take (8 * k) := by
      intro k hk
      exact bitsL_takeN b k hk
    have hc : ∀ k, k ≤ b.length → Cut (8 * k) (fun x : Nat × List UInt8 × List Nat => x.1) (blocksR (bitsL b) (8 * b.length + 1) 0 [] []) (blocksR ((bitsL b).take (8 * k)) (8 * k + 1) 0 [] []) := fun k hk => cut_blocks (by rw [bitsL_length]; omega) (Nat.zero_le _) (by omega)
    refine ⟨by omega, by omega, hm.2.2, ?_, ?_⟩
    · have := hc ((p + 7) / 8 - 1) (by omega) _ hx
      dsimp only at this
      rw [if_neg (by omega)] at this
      unfold unpackR
      rw [if_neg (by rw [List.length_take]; omega), hk _ (by omega), List.length_take, Nat.min_eq_left (by omega), this]
      rfl
    · have := hc ((p + 7) / 8) (by omega) _ hx
      dsimp only at this
      rw [if_pos (by omega)] at this
      unfold unpackR
      rw [if_neg (by rw [List.length_take]; omega), hk _ (by omega), List.length_take, Nat.min_eq_left (by omega), this]
      rfl
end Go.Proofs.Ythpdcnjaodjjmaa.Inf

/- package inflate: Unpack. -/
namespace Go.Proofs.Ythpdcnjaodjjmaa.Inf
open Go Go.RowKit Go.Proofs.Ythpdcnjaodjjmaa Go.Proofs.Ythpdcnjaodjjmaa.Bits Go.Proofs.Ythpdcnjaodjjmaa.Code
set_option linter.unusedVariables false
set_option linter.unusedSimpArgs false

/-- what Unpack hands back -/
def UPost (w : World) (xs : List UInt8) (e : Ending) (w' : World) : Prop := match unpackR xs with
  | .bad z => e = .returned (.tuple #[.slice none 0 0, .int .i64 0, .slice none 0 0, .int .i64 z])
  | .ok a => a.1.length ≤ 3000 ∧ ∃ Ao co Ak ck, e = .returned (.tuple #[.slice Ao a.1.length co, .int .i64 (a.2.1 : Int), .slice Ak a.2.2.length ck, .int .i64 0]) ∧
      w'.ownsRow w.heap.size 5 1 (.slice Ao a.1.length co) a.1.length (a.1.map u8v) ∧ w'.ownsRow w.heap.size 3 1 (.slice Ak a.2.2.length ck) a.2.2.length (a.2.2.map natV)
theorem unp_long {xs : List UInt8} (h : 6000 < xs.length) : unpackR xs = .bad 2 := by unfold unpackR; rw [if_pos h]
theorem unp_some {xs : List UInt8} (h : ¬ 6000 < xs.length) : unpackR xs = (blocksR (bitsL xs) (8 * xs.length + 1) 0 [] []).then_ fun x => .ok (x.2.1, (x.1 + 7) / 8, x.2.2) := by unfold unpackR; rw [if_neg h]
theorem blocks_step (row : List Bool) (f p : Nat) (o : List UInt8) (ks : List Nat) : blocksR row (f + 1) p o ks = (blockR row p o).then_ fun x => if x.1 = true then .ok (x.2.2.1, x.2.2.2, ks ++ [x.2.1]) else blocksR row f x.2.2.1 x.2.2.2 (ks ++ [x.2.1]) := rfl
theorem results4 {P : Program} {fn : Func} {p2 p3 p4 p5 : Tmp} {t2 t3 t4 t5 : TypeId} (h : fn.results = #[.cell p2 t2, .cell p3 t3, .cell p4 t4, .cell p5 t5]) (tmps : Array Value) (w : World) (a2 a3 a4 a5 : Addr) (v2 v3 v4 v5 : Value)
    (h2 : tmps.getD p2 undef = .pointer (some a2)) (h3 : tmps.getD p3 undef = .pointer (some a3)) (h4 : tmps.getD p4 undef = .pointer (some a4)) (h5 : tmps.getD p5 undef = .pointer (some a5))
    (l2 : (loadVar t2 a2).run P w = .ok v2 w) (l3 : (loadVar t3 a3).run P w = .ok v3 w) (l4 : (loadVar t4 a4).run P w = .ok v4 w) (l5 : (loadVar t5 a5).run P w = .ok v5 w) :
    (results fn tmps).run P w = .ok (.tuple #[v2, v3, v4, v5]) w := by
  have h2' : tmps[p2]?.getD undef = .pointer (some a2) := by simpa using h2
  have h3' : tmps[p3]?.getD undef = .pointer (some a3) := by simpa using h3
  have h4' : tmps[p4]?.getD undef = .pointer (some a4) := by simpa using h4
  have h5' : tmps[p5]?.getD undef = .pointer (some a5) := by simpa using h5
  simp [results, h, h2', h3', h4', h5', asAddr, l2, l3, l4, l5]
theorem lv_sl8 (w : World) (a : Addr) (v : Value) (h : w.cell? a = some v) : (loadVar 22 a).run Try.prog w = .ok v w := by
  simp [loadVar, run_underlying Try.underlying22, go_sem, h]
theorem lv_int (w : World) (a : Addr) (v : Value) (h : w.cell? a = some v) : (loadVar 3 a).run Try.prog w = .ok v w := by
  simp [loadVar, run_underlying Try.underlying3, go_sem, h]
theorem lv_sli (w : World) (a : Addr) (v : Value) (h : w.cell? a = some v) : (loadVar 30 a).run Try.prog w = .ok v w := by
  simp [loadVar, run_underlying Try.underlying30, go_sem, h]
theorem lv_err (w : World) (a : Addr) (v : Value) (h : w.cell? a = some v) : (loadVar 23 a).run Try.prog w = .ok v w := by
  simp [loadVar, run_underlying Try.underlying23, go_sem, h]
theorem OutAt.kept {w w' : World} {B g2 g3 g4 g5 : Nat} {T : List TypeId} {v2 v3 v4 v5 : Value} (h : OutAt w B g2 g3 g4 g5 v2 v3 v4 v5) (hk : Keeps w.heap.size T w w') : OutAt w' B g2 g3 g4 g5 v2 v3 v4 v5 :=
  ⟨h.le2, h.le3, h.le4, h.le5, (hk.block g2 h.b2.lt).trans h.b2, (hk.block g3 h.b3.lt).trans h.b3, (hk.block g4 h.b4.lt).trans h.b4, (hk.block g5 h.b5.lt).trans h.b5⟩
theorem below_keeps {B : Nat} {T : List TypeId} {w w4 w' : World} (h : Below B w w4) (hk : Keeps w4.heap.size T w4 w') (hB : B ≤ w4.heap.size) : Below B w w' :=
  h.trans ⟨hk.os, hk.tape, hk.output, hk.size, fun k hkB => hk.block k (by omega)⟩
theorem wp_calm {P : Program} {c : Code} {Q : Exit → Act → World → Prop} {a : Act} {w : World} (h : c.wp P (fun e a w => e = .normal ∧ Q .normal a w) a w) : c.wp P Q a w :=
  wp_mono h (by rintro e a w ⟨rfl, h⟩; exact h)
/-- what the results are made of -/
structure Rest (w : World) (g B : Nat) (A : Option Addr) (n c p : Nat) (Ao : Option Addr) (ol co : Nat) (Ak : Option Addr) (kl ck : Nat) (o : List UInt8) (ks : List Nat) : Prop where
  rdr : Blk w g 56 #[.pointer (some ⟨B, 0, none⟩), .slice Ao ol co, .slice Ak kl ck]
  src : SrcAt w B A n c p
  out : w.ownsRow B 5 1 (.slice Ao ol co) ol (o.map u8v)
  kinds : w.ownsRow B 3 1 (.slice Ak kl ck) kl (ks.map natV)
theorem Rest.held {w : World} {g B n c p ol co kl ck : Nat} {A Ao Ak : Option Addr} {o : List UInt8} {ks : List Nat} (h : Rest w g B A n c p Ao ol co Ak kl ck o ks) : w.cell? ⟨g, 0, none⟩ = some (.pointer (some ⟨B, 0, none⟩)) ∧ w.cell? ⟨g, 1, none⟩ = some (.slice Ao ol co) ∧ w.cell? ⟨g, 2, none⟩ = some (.slice Ak kl ck) := ⟨h.rdr.cell 0, h.rdr.cell 1, h.rdr.cell 2⟩
theorem Rest.set_ {w : World} {g B n c p ol co kl ck x : Nat} {A Ao Ak : Option Addr} {o : List UInt8} {ks : List Nat} {t : TypeId} {cs : Array Value} (h : Rest w g B A n c p Ao ol co Ak kl ck o ks) (hx : Blk w x t cs) (hB : x < B) (hg : g ≠ x) (u : Value) : Rest (w.setCell ⟨x, 0, none⟩ u) g B A n c p Ao ol co Ak kl ck o ks :=
  ⟨h.rdr.far (p := ⟨x, 0, none⟩) hg u, Blk.far h.src (p := ⟨x, 0, none⟩) (by show B ≠ x; omega) u, ownsRow_setCell_below h.out (a := ⟨x, 0, none⟩) hB u, ownsRow_setCell_below h.kinds (a := ⟨x, 0, none⟩) hB u⟩
set_option maxRecDepth 100000 in
set_option maxHeartbeats 1600000 in
theorem at_any (q : Nat) (A : Option Addr) (n c pos : Nat) (w : World) (h : SrcAt w q A n c pos) (hp : pos ≤ 8 * n) (hn : n ≤ 1099511627776) :
    Calls Try.prog 27 #[.pointer (some ⟨q, 0, none⟩)] w fun e w' => e = .returned (.int .i64 (((pos + 7) / 8 : Nat) : Int)) ∧ w' = w := by
  have c1 : w.cell? ⟨q, 1, none⟩ = some (.int .i64 (pos : Int)) := by rw [h.cell]; rfl
  have h1 : IntKind.i64.wrap ((pos : Int) + 7) = (pos : Int) + 7 := IntWalk.i64_in _ (by omega)
  have h4 : ((pos : Int) + 7).tdiv 8 = ((pos : Int) + 7) / 8 := Int.tdiv_eq_ediv_of_nonneg (by omega)
  have h2 : IntKind.i64.wrap (((pos : Int) + 7) / 8) = (((pos + 7) / 8 : Nat) : Int) := by
    rw [show ((pos : Int) + 7) / 8 = (((pos + 7) / 8 : Nat) : Int) by omega]
    exact IntWalk.i64_in _ (by omega)
  have hq := Blk.lt h
  clear h
  generalize (pos + 7) / 8 = u at *
  go_enter Try.func27, Try.ntmps27
  go_wp2_with fail
  go_ret
  exact ⟨rfl, rfl⟩
theorem results_out {w : World} {g2 g3 g4 g5 : Nat} {v2 v3 v4 v5 : Value} (h : OutC w g2 g3 g4 g5 v2 v3 v4 v5) (tmps : Array Value)
    (h2 : tmps.getD 2 undef = .pointer (some ⟨g2, 0, none⟩)) (h3 : tmps.getD 3 undef = .pointer (some ⟨g3, 0, none⟩)) (h4 : tmps.getD 4 undef = .pointer (some ⟨g4, 0, none⟩)) (h5 : tmps.getD 5 undef = .pointer (some ⟨g5, 0, none⟩)) :
    (results Try.f12 tmps).run Try.prog w = .ok (.tuple #[v2, v3, v4, v5]) w :=
  results4 Try.results12 tmps w _ _ _ _ _ _ _ _ h2 h3 h4 h5 (lv_sl8 _ _ _ h.c2) (lv_int _ _ _ h.c3) (lv_sli _ _ _ h.c4) (lv_err _ _ _ h.c5)
theorem out_new (w : World) (x : Value) : OutAt ((((w.alloc (.cells #[.slice none 0 0] 22)).alloc (.cells #[.int .i64 0] 3)).alloc (.cells #[.slice none 0 0] 30)).alloc (.cells #[x] 23)) w.heap.size w.heap.size (w.heap.size + 1) (w.heap.size + 1 + 1) (w.heap.size + 1 + 1 + 1) (.slice none 0 0) (.int .i64 0) (.slice none 0 0) x := by
  have b2 := (((Blk.new w 22 #[.slice none 0 0]).alloc (.cells #[.int .i64 0] 3)).alloc (.cells #[.slice none 0 0] 30)).alloc (.cells #[x] 23)
  have b3 := ((Blk.new (w.alloc (.cells #[.slice none 0 0] 22)) 3 #[.int .i64 0]).alloc (.cells #[.slice none 0 0] 30)).alloc (.cells #[x] 23)
  have b4 := (Blk.new ((w.alloc (.cells #[.slice none 0 0] 22)).alloc (.cells #[.int .i64 0] 3)) 30 #[.slice none 0 0]).alloc (.cells #[x] 23)
  have b5 := Blk.new (((w.alloc (.cells #[.slice none 0 0] 22)).alloc (.cells #[.int .i64 0] 3)).alloc (.cells #[.slice none 0 0] 30)) 23 #[x]
  simp only [World.size_alloc] at b2 b3 b4 b5
  exact ⟨Nat.le_refl _, by omega, by omega, by omega, b2, b3, b4, b5⟩
theorem slat_lt8 {w : World} {b o : Nat} {cs : List Value} (h : SlAt w (some ⟨b, o, none⟩) cs) (hp : 0 < cs.length) : b < w.heap.size := by
  obtain ⟨b', o', e, hc⟩ := h hp
  injection e with e
  injection e with e1 e2
  subst e1 e2
  obtain ⟨x, hx⟩ : ∃ x, cs[0]? = some x := ⟨cs[0], List.getElem?_eq_getElem hp⟩
  exact block_lt_of_cell (hc 0 x hx)
theorem out_below (w : World) (x : Value) : Below w.heap.size w ((((w.alloc (.cells #[.slice none 0 0] 22)).alloc (.cells #[.int .i64 0] 3)).alloc (.cells #[.slice none 0 0] 30)).alloc (.cells #[x] 23)) :=
  ((((Below.refl _ _).alloc (Nat.le_refl _) _).alloc (by simp) _).alloc (by simp; omega) _).alloc (by simp; omega) _
set_option maxRecDepth 100000 in
set_option maxHeartbeats 1600000 in
theorem unpack_any (A : Option Addr) (n c : Nat) (xs : List UInt8) (w : World) (hn : xs.length = n) (hx : n ≤ maxLen) (hA : ByAt w A xs) :
    Calls Try.prog 12 #[.slice A n c] w fun e w' => UPost w xs e w' ∧ Below w.heap.size w w' := by
  unfold maxLen at hx
  have hmf : ∀ (fn : Fn) (first cap : Array Value) (w : World), (Instr.makeFunc fn first cap).run Try.prog w = .ok (.func fn first cap) w := fun _ _ _ _ => rfl
  have Hn := Lib.hid hn
  have HA := Lib.hid hA
  clear hn hA
  by_cases h6 : 6000 < n
  · have h6' : (6000 : Int) < (n : Int) := by omega
    have HU := Lib.hid (unp_long (show 6000 < xs.length by rw [Hn.out]; exact h6))
    go_enter_defers Try.func12, Try.ntmps12
    go_wp2_with fail
    refine ⟨_, results_out (out_new w (.int .i64 2)).cells _ rfl rfl rfl rfl, ?_, out_below w _⟩
    unfold UPost
    rw [HU.out]
  · have h6' : ¬ (6000 : Int) < (n : Int) := by omega
    have HU := Lib.hid (unp_some (show ¬ 6000 < xs.length by rw [Hn.out]; exact h6))
    go_enter_defers Try.func12, Try.ntmps12
    go_wp2_with fail
    have HOut := Lib.hid (out_new w (.int .i64 0))
    have Hb4 := Lib.hid (out_below w (.int .i64 0))
    generalize ((((w.alloc (.cells #[.slice none 0 0] 22)).alloc (.cells #[.int .i64 0] 3)).alloc (.cells #[.slice none 0 0] 30)).alloc (.cells #[.int .i64 0] 23)) = w4 at *
    generalize hg3 : w.heap.size + 1 = g3 at *
    generalize hg4 : g3 + 1 = g4 at *
    generalize hg5 : g4 + 1 = g5 at *
    generalize hg2 : w.heap.size = g2 at *
    have Hg2 := Lib.hid hg2
    have HA4 := Lib.hid (SlAt.below HA.out (by rw [hg2]; exact Hb4.out))
    have hBw : g2 ≤ w4.heap.size := by have := Hb4.out.size; omega
    have hlow : ∀ b o, A = some ⟨b, o, none⟩ → 0 < n → b < w4.heap.size := fun b o e hp => by
      have := slat_lt8 (e ▸ HA.out) (by rw [List.length_map, Hn.out]; exact hp)
      omega
    clear hg2 hg3 hg4 hg5 HA
    refine (of_any A n c w4).mono ?_
    rintro e w5 ⟨rfl, hsrc, hb5⟩
    have HS5 := Lib.hid hsrc
    have Hb5 := Lib.hid hb5
    clear hsrc hb5
    go_wp2_with fail
    obtain ⟨G, hG⟩ : ∃ G : Nat × List UInt8 × List Nat → Rd (List UInt8 × Nat × List Nat), G = fun x => .ok (x.2.1, (x.1 + 7) / 8, x.2.2) := ⟨_, rfl⟩
    obtain ⟨R, hR⟩ : ∃ R, R = unpackR xs := ⟨_, rfl⟩
    have HU := Lib.hid (show R = (blocksR (bitsL xs) (8 * n + 1) 0 [] []).then_ G by rw [hR, HU.out, hG, Hn.out])
    have HGd := Lib.hid hG
    have HRd := Lib.hid hR
    clear hG hR
    have hrow : (bitsL xs).length = 8 * n := by rw [bitsL_length, Hn.out]
    have Hrow := Lib.hid hrow
    clear hrow
    have hbx : Below w4.heap.size w4 (w5.alloc (.cells #[.pointer (some ⟨w4.heap.size, 0, none⟩), .slice none 0 0, .slice none 0 0] 56)) := Hb5.out.alloc Hb5.out.size _
    have HOut6 := Lib.hid (HOut.out.below hbx)
    have HK6 : Hid (Keeps w4.heap.size infT2 w4 (w5.alloc (.cells #[.pointer (some ⟨w4.heap.size, 0, none⟩), .slice none 0 0, .slice none 0 0] 56))) := Lib.hid (Keeps.of_below hbx (Nat.le_refl _))
    have HR6 : Hid (RdAt (w5.alloc (.cells #[.pointer (some ⟨w4.heap.size, 0, none⟩), .slice none 0 0, .slice none 0 0] 56)) w4.heap.size w5.heap.size w4.heap.size A n c 0 [] []) := Lib.hid
      ⟨Hb5.out.size, Nat.le_refl _, by omega, by simp, ⟨_, _, Blk.new _ _ _, World.ownsRow_nil _ _ _ _, World.ownsRow_nil _ _ _ _⟩, Blk.alloc HS5.out _⟩
    have HI4 : Hid (InAt_ w4 w4.heap.size A n xs) := Lib.hid ⟨Hn.out, by omega, HA4.out, hlow⟩
    generalize w5.alloc (.cells #[.pointer (some ⟨w4.heap.size, 0, none⟩), .slice none 0 0, .slice none 0 0] 56) = w6 at *
    generalize w5.heap.size = g at *
    obtain ⟨B, hB⟩ : ∃ B, B = w4.heap.size := ⟨_, rfl⟩
    rw [← hB] at HK6 HR6 HI4 hBw ⊢
    have HBe := Lib.hid hB
    clear hB hbx hlow HS5 Hb5 HA4
    go_loopw [] (fun wr => ∃ (f p : Nat) (o : List UInt8) (ks : List Nat), 8 * n + 1 ≤ p + f ∧ ks.length ≤ p ∧ R = (blocksR (bitsL xs) f p o ks).then_ G ∧ RdAt wr B g B A n c p o ks ∧ Keeps B infT2 w4 wr) (fun wr => 8 * n - posOf B wr)
    case atStart => exact ⟨8 * n + 1, 0, [], [], by omega, by simp, HU.out, HR6.out, HK6.out⟩
    case round =>
      obtain ⟨f, p, o, ks, hpf, hkp, hR, hrd, hk⟩ := hrel
      have hple := hrd.ple
      obtain ⟨f, rfl⟩ : ∃ f', f = f' + 1 := ⟨f - 1, by omega⟩
      have HU := Lib.hid (show R = ((blockR (bitsL xs) p o).then_ fun x => if x.1 = true then .ok (x.2.2.1, x.2.2.2, ks ++ [x.2.1]) else blocksR (bitsL xs) f x.2.2.1 x.2.2.2 (ks ++ [x.2.1])).then_ G from hR)
      have Hpos : Hid (posOf B wr = p) := Lib.hid (posOf_src hrd.src)
      have HK := Lib.hid hk
      have HIr : Hid (InAt_ wr B A n xs) := Lib.hid (HI4.out.keeps hk)
      have HBk := Lib.hid (block_r B g B A n c p xs o ks wr hrd HIr.out (by omega) (by omega))
      have HOutr : Hid (OutAt wr g2 g2 g3 g4 g5 (.slice none 0 0) (.int .i64 0) (.slice none 0 0) (.int .i64 0)) := Lib.hid (HOut.out.kept (HBe.out ▸ hk))
      clear hR hrd hk HR6 HK6 HOut6 HIr
      go_wp2_with fail
      refine (HBk.out).mono ?_
      rintro e w7 ⟨hr7, hk7⟩
      have HK7 := Lib.hid (HK.out.trans hk7)
      have HOut7 : Hid (OutAt w7 g2 g2 g3 g4 g5 (.slice none 0 0) (.int .i64 0) (.slice none 0 0) (.int .i64 0)) := Lib.hid (HOut.out.kept (HBe.out ▸ HK7.out))
      have Hb7 : Hid (Below g2 w w7) := Lib.hid (below_keeps Hb4.out (HBe.out ▸ HK7.out) (HBe.out ▸ hBw))
      cases hg7 : blockR (bitsL xs) p o with
      | bad z =>
        have he := rpost_bad hr7 hg7
        subst he
        have HU := Lib.hid (show R = .bad z by rw [HU.out, hg7]; rfl)
        clear hr7 hk7 hg7
        unfold stopE
        go_wp2_with fail
        refine leaves_cons (f := 24) (args := #[.pointer (some ⟨g2, 0, none⟩), .pointer (some ⟨g3, 0, none⟩), .pointer (some ⟨g4, 0, none⟩), .pointer (some ⟨g5, 0, none⟩)]) (by simp) (by simp [go_sem]) ?_
        refine (catch_panicking g2 g2 g3 g4 g5 _ _ _ _ z [] w7 (Nat.le_trans (HBe.out ▸ hBw) HK7.out.size |> fun h => by have := HK7.out.size; have := HBe.out; omega) HOut7.out).mono ?_
        rintro e u' w8 ⟨rfl, rfl, hout8, hb8⟩
        refine ⟨_, results_out hout8.cells _ rfl rfl rfl rfl, ?_, ?_⟩
        · unfold UPost
          rw [← HRd.out, HU.out]
        · rw [Hg2.out]
          exact Hb7.out.trans hb8
      | ok a =>
        obtain ⟨he, hrd7⟩ := rpost_ok hr7 hg7
        subst he
        have hm := block_mono hg7
        rw [Hrow.out] at hm
        replace HU := Lib.hid (HU.out.trans (by rw [hg7, then_ok]))
        have HR7 := Lib.hid hrd7
        obtain ⟨lb, k, p7, o7⟩ := a
        dsimp only at HU HR7 hm ⊢
        clear hr7 hk7 hg7 hrd7 HBk
        cases lb with
        | false =>
          replace HU := Lib.hid (HU.out.trans (by rw [if_neg (by simp)]))
          go_wp2_with fail
          go_roundw
          case rel => exact ⟨f, p7, o7, ks ++ [k], by omega, by simp; omega, HU.out, HR7.out, HK7.out⟩
          case measure => rw [Hpos.out, posOf_src HR7.out.src]; omega
        | true =>
          replace HU := Lib.hid (HU.out.trans (by rw [if_pos rfl, then_ok, HGd.out]))
          dsimp only at HU
          obtain ⟨vo, Ak, kl, ck, ekl, hb, ho, hkk⟩ := kind_any HR7.out
          obtain ⟨Ao, co, rfl, _⟩ := own_slat ho
          obtain ⟨ol, hol⟩ : ∃ ol, ol = o7.length := ⟨_, rfl⟩
          rw [← hol] at hb ho
          have Hol := Lib.hid hol
          have Hekl := Lib.hid ekl
          have HO7 := Lib.hid ho
          have HKK7 := Lib.hid hkk
          have HBR := Lib.hid hb
          have HS7 := Lib.hid HR7.out.src
          have hfew := HR7.out.few
          have hp7 := HR7.out.ple
          have hBB : g2 ≤ B := hBw
          have hBe := HBe.out
          have hlt2 : g2 < B := by have := HOut.out.b2.lt; omega
          have hlt3 : g3 < B := by have := HOut.out.b3.lt; omega
          have hlt4 : g4 < B := by have := HOut.out.b4.lt; omega
          have hlt5 : g5 < B := by have := HOut.out.b5.lt; omega
          have hgB : B ≤ g := by obtain ⟨h1, _⟩ := HR7.out; exact h1
          clear hBe
          clear hol ekl ho hkk hb HOut Hb4 HI4
          go_wp2_with fail
          refine wp_calm ?_
          refine wp_region_S (fun W => W.cell? ⟨g, 0, none⟩ = some (.pointer (some ⟨B, 0, none⟩)) ∧ W.cell? ⟨g, 1, none⟩ = some (.slice Ao ol co) ∧ W.cell? ⟨g, 2, none⟩ = some (.slice Ak kl ck)) 16 (by kernel_rfl) ?_
          have hHeld : w7.drew.cell? ⟨g, 0, none⟩ = some (.pointer (some ⟨B, 0, none⟩)) ∧ w7.drew.cell? ⟨g, 1, none⟩ = some (.slice Ao ol co) ∧ w7.drew.cell? ⟨g, 2, none⟩ = some (.slice Ak kl ck) := ⟨HBR.out.cell 0, HBR.out.cell 1, HBR.out.cell 2⟩
          have H3 := Lib.hid (HOut7.out.below ((Below.refl _ _).drew))
          have Hb3 := Lib.hid (Hb7.out.trans ((Below.refl g2 w7).drew))
          have HX3 : Hid (Rest w7.drew g B A n c p7 Ao ol co Ak kl ck o7 (ks ++ [k])) := Lib.hid ⟨HBR.out, HS7.out, HO7.out, HKK7.out⟩
          have HAt := Lib.hid (at_any B A n c p7 w7.drew HX3.out.src hp7 (by omega))
          clear HOut7 Hb7 HBR HO7 HKK7 HS7
          generalize w7.drew = w3 at *
          refine wpAnyS_takeT (i := 0) (v := ?va0) (by kernel_rfl) (by kernel_rfl) rfl (by kernel_rfl) (by kernel_rfl) (by kernel_rfl) (fun _ _ _ h => by cases h.1) (by rfl) (by assumption) ?hya0 ?resta0
          case hya0 => (intro W hSW; (try dsimp only at hSW); go_simp; try with_reducible rfl)
          (try simp only [Act.put, List.getElem_toArray, List.getElem_cons_zero, List.getElem_cons_succ, List.setIfInBounds_toArray, List.set_cons_zero, List.set_cons_succ])
          refine wpAnyS_takeT (i := 1) (v := ?va1) (by kernel_rfl) (by kernel_rfl) rfl (by kernel_rfl) (by kernel_rfl) (by kernel_rfl) (fun _ _ _ h => by cases h.1) (by rfl) (by assumption) ?hya1 ?resta1
          case hya1 => (intro W hSW; (try dsimp only at hSW); go_simp; try with_reducible rfl)
          (try simp only [Act.put, List.getElem_toArray, List.getElem_cons_zero, List.getElem_cons_succ, List.setIfInBounds_toArray, List.set_cons_zero, List.set_cons_succ])
          refine wpAnyS_takeT (i := 2) (v := ?va2) (by kernel_rfl) (by kernel_rfl) rfl (by kernel_rfl) (by kernel_rfl) (by kernel_rfl) (fun _ _ _ h => by cases h.1) (by rfl) (by assumption) ?hya2 ?resta2
          case hya2 => (intro W hSW; (try dsimp only at hSW); go_simp; try with_reducible rfl)
          (try simp only [Act.put, List.getElem_toArray, List.getElem_cons_zero, List.getElem_cons_succ, List.setIfInBounds_toArray, List.set_cons_zero, List.set_cons_succ])
          refine wpAnyS_takeT (i := 3) (v := ?va3) (by kernel_rfl) (by kernel_rfl) rfl (by kernel_rfl) (by kernel_rfl) (by kernel_rfl) (fun _ _ _ h => by cases h.1) (by rfl) (by assumption) ?hya3 ?resta3
          case hya3 => (intro W hSW; (try dsimp only at hSW); go_simp; try with_reducible rfl)
          (try simp only [Act.put, List.getElem_toArray, List.getElem_cons_zero, List.getElem_cons_succ, List.setIfInBounds_toArray, List.set_cons_zero, List.set_cons_succ])
          refine wpAnyS_takeT (i := 4) (v := ?va4) (by kernel_rfl) (by kernel_rfl) rfl (by kernel_rfl) (by kernel_rfl) (by kernel_rfl) (fun _ _ _ h => by cases h.1) (by rfl) (by assumption) ?hya4 ?resta4
          case hya4 => (intro W hSW; (try dsimp only at hSW); go_simp; try with_reducible rfl)
          (try simp only [Act.put, List.getElem_toArray, List.getElem_cons_zero, List.getElem_cons_succ, List.setIfInBounds_toArray, List.set_cons_zero, List.set_cons_succ])
          refine wpAnyS_takeT (i := 5) (v := ?va5) (by kernel_rfl) (by kernel_rfl) rfl (by kernel_rfl) (by kernel_rfl) (by kernel_rfl) (fun _ _ _ h => by cases h.1) (by rfl) (by assumption) ?hya5 ?resta5
          case hya5 => (intro W hSW; (try dsimp only at hSW); go_simp; try with_reducible rfl)
          (try simp only [Act.put, List.getElem_toArray, List.getElem_cons_zero, List.getElem_cons_succ, List.setIfInBounds_toArray, List.set_cons_zero, List.set_cons_succ])
          refine wpAnyS_takeT (i := 6) (v := ?va6) (by kernel_rfl) (by kernel_rfl) rfl (by kernel_rfl) (by kernel_rfl) (by kernel_rfl) (fun _ _ _ h => by cases h.1) (by rfl) (by assumption) ?hya6 ?resta6
          case hya6 => (intro W hSW; (try dsimp only at hSW); go_simp; try with_reducible rfl)
          (try simp only [Act.put, List.getElem_toArray, List.getElem_cons_zero, List.getElem_cons_succ, List.setIfInBounds_toArray, List.set_cons_zero, List.set_cons_succ])
          refine wpAnyS_takeT (i := 7) (v := ?va7) (by kernel_rfl) (by kernel_rfl) rfl (by kernel_rfl) (by kernel_rfl) (by kernel_rfl) (fun _ _ _ h => by cases h.1) (by rfl) (by assumption) ?hya7 ?resta7
          case hya7 => (intro W hSW; (try dsimp only at hSW); go_simp; try with_reducible rfl)
          (try simp only [Act.put, List.getElem_toArray, List.getElem_cons_zero, List.getElem_cons_succ, List.setIfInBounds_toArray, List.set_cons_zero, List.set_cons_succ])
          refine wpAnyS_takeT (i := 9) (v := ?va9) (by kernel_rfl) (by kernel_rfl) rfl (by kernel_rfl) (by kernel_rfl) (by kernel_rfl) (fun _ _ _ h => by cases h.1) (by rfl) (by assumption) ?hya9 ?resta9
          case hya9 => (intro W hSW; (try dsimp only at hSW); go_simp; try with_reducible rfl)
          (try simp only [Act.put, List.getElem_toArray, List.getElem_cons_zero, List.getElem_cons_succ, List.setIfInBounds_toArray, List.set_cons_zero, List.set_cons_succ])
          refine wpAnyS_takeT (i := 10) (v := ?va10) (by kernel_rfl) (by kernel_rfl) rfl (by kernel_rfl) (by kernel_rfl) (by kernel_rfl) (fun _ _ _ h => by cases h.1) (by rfl) (by assumption) ?hya10 ?resta10
          case hya10 => (intro W hSW; (try dsimp only at hSW); go_simp; try with_reducible rfl)
          (try simp only [Act.put, List.getElem_toArray, List.getElem_cons_zero, List.getElem_cons_succ, List.setIfInBounds_toArray, List.set_cons_zero, List.set_cons_succ])
          refine wpAnyS_takeT (i := 11) (v := ?va11) (by kernel_rfl) (by kernel_rfl) rfl (by kernel_rfl) (by kernel_rfl) (by kernel_rfl) (fun _ _ _ h => by cases h.1) (by rfl) (by assumption) ?hya11 ?resta11
          case hya11 => (intro W hSW; (try dsimp only at hSW); go_simp; try with_reducible rfl)
          (try simp only [Act.put, List.getElem_toArray, List.getElem_cons_zero, List.getElem_cons_succ, List.setIfInBounds_toArray, List.set_cons_zero, List.set_cons_succ])
          refine wpAnyS_takeT (i := 12) (v := ?va12) (by kernel_rfl) (by kernel_rfl) rfl (by kernel_rfl) (by kernel_rfl) (by kernel_rfl) (fun _ _ _ h => by cases h.1) (by rfl) (by assumption) ?hya12 ?resta12
          case hya12 => (intro W hSW; (try dsimp only at hSW); go_simp; try with_reducible rfl)
          (try simp only [Act.put, List.getElem_toArray, List.getElem_cons_zero, List.getElem_cons_succ, List.setIfInBounds_toArray, List.set_cons_zero, List.set_cons_succ])
          refine wpAnyS_only (i := 8) rfl (by kernel_rfl) (fun K hK => ?_)
          go_simp
          go_at_call 27
          refine (HAt.out).mono ?_
          rintro e w3' ⟨rfl, hw3'⟩
          cases hw3'
          refine hK.out _ _ hHeld (fun hHeld => ?_)
          clear hK K
          (try simp only [Act.put, List.getElem_toArray, List.getElem_cons_zero, List.getElem_cons_succ, List.setIfInBounds_toArray, List.set_cons_zero, List.set_cons_succ])
          obtain ⟨us, hus⟩ : ∃ us, us = (p7 + 7) / 8 := ⟨_, rfl⟩
          rw [← hus] at HU ⊢
          clear hus
          obtain ⟨c2, c3, c4, c5, f2, f3, f4, f5⟩ := H3.out.cells
          refine wpAnyS_only (i := 13) rfl (by kernel_rfl) (fun K hK => ?_)
          go_simp
          have H4 := Lib.hid (H3.out.s2 (.slice Ao ol co))
          have Hb4 := Lib.hid (Hb3.out.setCell (p := ⟨g2, 0, none⟩) H3.out.le2 (.slice Ao ol co))
          have HX4 := Lib.hid (HX3.out.set_ H3.out.b2 hlt2 (by omega) (.slice Ao ol co))
          clear hHeld c2 c3 c4 c5 f2 f3 f4 f5
          refine hK.out _ _ HX4.out.held (fun hHeld => ?_)
          clear hK K H3 Hb3 HX3
          (try simp only [Act.put, List.getElem_toArray, List.getElem_cons_zero, List.getElem_cons_succ, List.setIfInBounds_toArray, List.set_cons_zero, List.set_cons_succ])
          generalize w3.setCell ⟨g2, 0, none⟩ (.slice Ao ol co) = w4 at *
          obtain ⟨c2, c3, c4, c5, f2, f3, f4, f5⟩ := H4.out.cells
          refine wpAnyS_only (i := 14) rfl (by kernel_rfl) (fun K hK => ?_)
          go_simp
          have H5 := Lib.hid (H4.out.s3 (.int .i64 (us : Int)))
          have Hb5 := Lib.hid (Hb4.out.setCell (p := ⟨g3, 0, none⟩) H4.out.le3 (.int .i64 (us : Int)))
          have HX5 := Lib.hid (HX4.out.set_ H4.out.b3 hlt3 (by omega) (.int .i64 (us : Int)))
          clear hHeld c2 c3 c4 c5 f2 f3 f4 f5
          refine hK.out _ _ HX5.out.held (fun hHeld => ?_)
          clear hK K H4 Hb4 HX4
          (try simp only [Act.put, List.getElem_toArray, List.getElem_cons_zero, List.getElem_cons_succ, List.setIfInBounds_toArray, List.set_cons_zero, List.set_cons_succ])
          generalize w4.setCell ⟨g3, 0, none⟩ (.int .i64 (us : Int)) = w5 at *
          obtain ⟨c2, c3, c4, c5, f2, f3, f4, f5⟩ := H5.out.cells
          refine wpAnyS_only (i := 15) rfl (by kernel_rfl) (fun K hK => ?_)
          go_simp
          have H6 := Lib.hid (H5.out.s4 (.slice Ak kl ck))
          have Hb6 := Lib.hid (Hb5.out.setCell (p := ⟨g4, 0, none⟩) H5.out.le4 (.slice Ak kl ck))
          have HX6 := Lib.hid (HX5.out.set_ H5.out.b4 hlt4 (by omega) (.slice Ak kl ck))
          clear hHeld c2 c3 c4 c5 f2 f3 f4 f5
          refine hK.out _ _ HX6.out.held (fun hHeld => ?_)
          clear hK K H5 Hb5 HX5
          (try simp only [Act.put, List.getElem_toArray, List.getElem_cons_zero, List.getElem_cons_succ, List.setIfInBounds_toArray, List.set_cons_zero, List.set_cons_succ])
          generalize w5.setCell ⟨g4, 0, none⟩ (.slice Ak kl ck) = w6 at *
          obtain ⟨c2, c3, c4, c5, f2, f3, f4, f5⟩ := H6.out.cells
          refine wpAnyS_last rfl (by kernel_rfl) (by kernel_rfl) (fun K hK => ?_)
          go_simp
          have H7 := Lib.hid (H6.out.s5 (.int .i64 0))
          have Hb7 := Lib.hid (Hb6.out.setCell (p := ⟨g5, 0, none⟩) H6.out.le5 (.int .i64 0))
          have HX7 := Lib.hid (HX6.out.set_ H6.out.b5 hlt5 (by omega) (.int .i64 0))
          clear hHeld c2 c3 c4 c5 f2 f3 f4 f5
          refine hK.out _ _ ⟨rfl, ?_⟩
          clear hK K
          go_wp2_with fail
          refine leaves_cons (f := 24) (args := #[.pointer (some ⟨g2, 0, none⟩), .pointer (some ⟨g3, 0, none⟩), .pointer (some ⟨g4, 0, none⟩), .pointer (some ⟨g5, 0, none⟩)]) (by simp) (by simp [go_sem]) ?_
          refine (catch_idle g2 g3 g4 g5 _).mono ?_
          rintro e u' w8 ⟨rfl, rfl, rfl⟩
          refine ⟨_, results_out H7.out.cells _ rfl rfl rfl rfl, ?_, ?_⟩
          · unfold UPost
            rw [← HRd.out, HU.out]
            dsimp only
            have h1 := HX7.out.out
            have h2 := HX7.out.kinds
            rw [Hol.out] at h1
            rw [Hekl.out] at h2
            refine ⟨hfew, Ao, co, Ak, ck, ?_, own_base h1 (by rw [Hg2.out]; exact hBB), own_base h2 (by rw [Hg2.out]; exact hBB)⟩
            rw [Hol.out, Hekl.out]
          · rw [Hg2.out]
            exact Hb7.out
end Go.Proofs.Ythpdcnjaodjjmaa.Inf

/- reliquarylaw.inflated: a closed fact. -/
namespace Go.Proofs.Ythpdcnjaodjjmaa.Inf
open Go Go.RowKit Go.Proofs.Ythpdcnjaodjjmaa Go.Proofs.Ythpdcnjaodjjmaa.Bits Go.Proofs.Ythpdcnjaodjjmaa.Code
set_option linter.unusedVariables false
set_option linter.unusedSimpArgs false

theorem fact_inf : unpackR [0, 1, 0, 254, 255, 120, 3, 0, 9] = .ok ([120], 8, [0, 1]) := by kernel_rfl
theorem below1 {w1 w2 : World} {o : Obj} (h2 : Below (w1.alloc o).heap.size (w1.alloc o) w2) : Below w1.heap.size w1 w2 :=
  ((Below.refl w1.heap.size w1).alloc (Nat.le_refl _) o).trans (h2.mono (by simp))
theorem slat_iv {w : World} {A : Option Addr} {l : List Nat} (h : SlAt w A (l.map natV)) : InAt w A (l.map Int.ofNat) := by
  unfold InAt; rw [List.map_map]; exact h
set_option maxRecDepth 100000 in
set_option maxHeartbeats 800000 in
theorem inflated_any (w : World) : Calls Try.prog 13 #[] w fun e w' => e = .returned (.bool true) ∧ Below w.heap.size w w' := by
  go_enter Try.func13, Try.ntmps13
  go_wp2_with fail
  refine (unpack_any _ 9 9 [0, 1, 0, 254, 255, 120, 3, 0, 9] _ rfl (by decide) (SlAt.of_heap (heap_alloc_new _ _) rfl)).mono ?_
  rintro e w1 ⟨hu, hb1⟩
  unfold UPost at hu
  rw [fact_inf] at hu
  obtain ⟨_, Ao, co, Ak, ck, rfl, ho, hk⟩ := hu
  dsimp only [List.length_cons, List.length_nil] at ho hk ⊢
  obtain ⟨_, _, e1, _, _, so, _⟩ := own_slat ho
  injection e1 with e1 _ e2
  subst e1 e2
  obtain ⟨_, _, e1, _, _, sk, hkn⟩ := own_slat hk
  injection e1 with e1 _ e2
  subst e1 e2
  have hcv : (convert 22 9 (.slice Ao 1 co)).run Try.prog w1 = .ok (.string ⟨#[120]⟩) w1 := conv_bytes Ao 1 co [120] w1 rfl so
  have HB := Lib.hid (below1 hb1)
  have SK := Lib.hid sk
  clear ho hk so sk hb1 hkn
  go_wp2_with fail
  refine (equal_ints _ _ 2 2 _ _ [0, 1] [0, 1] _ rfl rfl (by unfold maxLen; omega) (by unfold maxLen; omega) (SlAt.alloc (slat_iv SK.out) _) (SlAt.of_heap (heap_alloc_new _ _) rfl)).mono ?_
  rintro e w2 ⟨rfl, d, rfl⟩
  rw [show decide (([0, 1] : List Int) = [0, 1]) = true from by simp]
  go_wp2_with fail
  go_ret
  exact ⟨rfl, below_drewN' (HB.out.alloc HB.out.size _) _⟩
/-! ### what is wrong is never 0 -/
def Nz {α : Type} (r : Rd α) : Prop := ∀ z, r = .bad z → z ≠ 0
theorem nz_ok {α : Type} {a : α} : Nz (.ok a) := fun z h => by cases h
theorem nz_bad {α : Type} {z : Int} (h : z ≠ 0) : Nz (.bad z : Rd α) := fun y e => by injection e with e; subst e; exact h
theorem nz_then {α β : Type} {r : Rd α} {f : α → Rd β} (h : Nz r) (hf : ∀ a, Nz (f a)) : Nz (r.then_ f) := by
  cases r with
  | bad e => exact fun z hz => h z (by injection hz with hz; rw [hz])
  | ok a => exact hf a
theorem nz_ite {α : Type} {c : Prop} [Decidable c] {r s : Rd α} (h : Nz r) (k : Nz s) : Nz (if c then r else s) := by split <;> assumption
theorem nz_get (row : List Bool) (p n : Nat) : Nz (getR row p n) := nz_ite nz_ok (nz_bad (by decide))
theorem nz_sym (row : List Bool) (ls : List Nat) (p : Nat) : Nz (symR row ls p) := by
  unfold symR
  split
  · exact nz_ok
  · rename_i h; exact nz_bad h
theorem nz_push (out : List UInt8) (x : UInt8) : Nz (pushR out x) := nz_ite (nz_bad (by decide)) nz_ok
theorem nz_raw (row : List Bool) : ∀ (n p : Nat) (out : List UInt8), Nz (rawR row n p out)
  | 0, _, _ => nz_ok
  | n + 1, p, out => nz_then (nz_get _ _ _) fun x => nz_then (nz_push _ _) fun o => nz_raw row n _ _
theorem nz_table (zs : List Int) : Nz (tableR zs) := nz_ite nz_ok (nz_bad (by decide))
theorem nz_again (n : Nat) (l : List Nat) (v k : Nat) : Nz (againR n l v k) := nz_ite (nz_bad (by decide)) nz_ok
theorem nz_lenStep (row : List Bool) (ls : List Nat) (n p : Nat) (l : List Nat) : Nz (lenStep row ls n p l) := by
  have key : ∀ (q nb v add : Nat), Nz ((getR row q nb).then_ fun x => (againR n l v (add + x.1)).then_ fun m => Rd.ok (x.2, m)) := fun q nb v add => nz_then (nz_get _ _ _) fun x => nz_then (nz_again _ _ _ _) fun m => nz_ok
  exact nz_then (nz_sym _ _ _) fun k => nz_ite (nz_ite (nz_bad (by decide)) (key _ _ _ _)) (nz_ite (key _ _ _ _) (nz_ite (key _ _ _ _) (nz_then (nz_again _ _ _ _) fun m => nz_ok)))
theorem nz_len (row : List Bool) (ls : List Nat) (n : Nat) : ∀ (f p : Nat) (l : List Nat), Nz (lenR row ls n f p l)
  | 0, _, _ => nz_ok
  | f + 1, p, l => nz_ite nz_ok (nz_then (nz_lenStep _ _ _ _ _) fun x => nz_len row ls n f _ _)
theorem nz_sizes (row : List Bool) : ∀ (ks : List Nat) (p : Nat) (s : List Nat), Nz (sizesR row ks p s)
  | [], _, _ => nz_ok
  | k :: ks, p, s => nz_then (nz_get _ _ _) fun x => nz_sizes row ks _ _
theorem nz_head (row : List Bool) (p : Nat) : Nz (headR row p) :=
  nz_then (nz_get _ _ _) fun a => nz_then (nz_get _ _ _) fun b => nz_then (nz_get _ _ _) fun c => nz_ite (nz_bad (by decide)) (nz_then (nz_sizes _ _ _ _) fun s => nz_then (nz_table _) fun t =>
    nz_then (nz_len _ _ _ _ _ _) fun l => nz_ite (nz_bad (by decide)) (nz_then (nz_table _) fun x => nz_then (nz_table _) fun y => nz_ok))
theorem nz_copy (d : Nat) : ∀ (n : Nat) (out : List UInt8), Nz (copyR d n out)
  | 0, _ => nz_ok
  | n + 1, out => nz_then (nz_push _ _) fun o => nz_copy d n o
theorem nz_bodyStep (row : List Bool) (lit far : List Nat) (p : Nat) (out : List UInt8) : Nz (bodyStep row lit far p out) :=
  nz_then (nz_sym _ _ _) fun k => nz_ite (nz_then (nz_push _ _) fun o => nz_ok) (nz_ite nz_ok (nz_ite (nz_bad (by decide)) (nz_then (nz_get _ _ _) fun x => nz_then (nz_sym _ _ _) fun f =>
    nz_ite (nz_bad (by decide)) (nz_then (nz_get _ _ _) fun y => nz_ite (nz_bad (by decide)) (nz_then (nz_copy _ _ _) fun o => nz_ok)))))
theorem nz_body (row : List Bool) (lit far : List Nat) : ∀ (f p : Nat) (out : List UInt8), Nz (bodyR row lit far f p out)
  | 0, _, _ => nz_bad (by decide)
  | f + 1, p, out => nz_then (nz_bodyStep _ _ _ _ _) fun x => nz_ite nz_ok (nz_body row lit far f _ _)
theorem nz_stored (row : List Bool) (p : Nat) (out : List UInt8) : Nz (storedR row p out) :=
  nz_then (nz_get _ _ _) fun x => nz_then (nz_get _ _ _) fun y => nz_ite (nz_bad (by decide)) (nz_raw _ _ _ _)
theorem nz_block (row : List Bool) (p : Nat) (out : List UInt8) : Nz (blockR row p out) :=
  nz_then (nz_get _ _ _) fun l => nz_then (nz_get _ _ _) fun k => nz_ite (nz_then (nz_stored _ _ _) fun x => nz_ok) (nz_ite (nz_then (nz_body _ _ _ _ _ _) fun x => nz_ok)
    (nz_ite (nz_then (nz_head _ _) fun h => nz_then (nz_body _ _ _ _ _ _) fun x => nz_ok) (nz_bad (by decide))))
theorem nz_blocks (row : List Bool) : ∀ (f p : Nat) (out : List UInt8) (ks : List Nat), Nz (blocksR row f p out ks)
  | 0, _, _, _ => nz_bad (by decide)
  | f + 1, p, out, ks => nz_then (nz_block _ _ _) fun x => nz_ite nz_ok (nz_blocks row f _ _ _)
theorem nz_unpack (b : List UInt8) : Nz (unpackR b) := nz_ite (nz_bad (by decide)) (nz_then (nz_blocks _ _ _ _ _) fun x => nz_ok)
end Go.Proofs.Ythpdcnjaodjjmaa.Inf

/- slices.Concat[[]byte,byte]. -/
namespace Go.Proofs.Ythpdcnjaodjjmaa.ConcatB
open Go Go.RowKit Go.Proofs.Ythpdcnjaodjjmaa
set_option linter.unusedVariables false

theorem ty : SliceTy Try.prog 22 5 (.int .u8 0) 1 1 := ⟨Try.underlying22, by kernel_rfl, rfl, by omega⟩
theorem zeroCells_size (z : Array Value) (n : Nat) : (Builtin.zeroCells z n).size = n * z.size := by simp [Builtin.zeroCells]

set_option maxHeartbeats 400000 in
/-- room for so many, where there was none -/
theorem grow_any (n : Nat) (w : World) (hn : n * 1 ≤ 140737488355328) :
    Calls Try.prog 30 #[.slice none 0 0, .int .i64 (n : Int)] w fun e w' => ∃ v, e = .returned v ∧ w'.ownsRow w.heap.size 5 1 v 0 [] ∧ Below w.heap.size w w' := by
  by_cases h0 : n = 0
  · subst h0
    go_enter Try.func30, Try.ntmps30
    go_wp2_with fail
    go_ret
    exact ⟨_, rfl, World.ownsRow_nil _ _ _ _, Below.refl _ _⟩
  · obtain ⟨ht, i, hi, hz, hsize, hby, hzs, hsz⟩ := ty.parts
    have hpos : 0 < n := by omega
    have h1 : ¬ ((n : Int) < 0) := by omega
    have hp : (0 : Int) < (n : Int) := by omega
    have hb63 : (n : Int) ≤ 140737488355328 := by omega
    have hrun := Lib.run_append_nil_zeros (P := Try.prog) w 22 3 22 5 i (.int .u8 0) .i64 .i64 ht Try.underlying3 hi hz n hpos (by omega) (by omega) (by rw [hby]; omega)
    have hcap := grownCap_ge w n 0 5
    have hcm := grownCap_le_maxLen w n 0 5 (by unfold maxLen; omega)
    have hsz2 : (Builtin.zeroCells (Value.cells (.int .u8 0)) n ++ Builtin.zeroCells (Value.cells (.int .u8 0)) (grownCap w n 0 5 - n)).size = grownCap w n 0 5 * 1 := by
      rw [Array.size_append, zeroCells_size, zeroCells_size, hzs, ← Nat.add_mul, Nat.add_sub_cancel' hcap]
    have hblk : (w.drew.alloc (.cells (Builtin.zeroCells (Value.cells (.int .u8 0)) n ++ Builtin.zeroCells (Value.cells (.int .u8 0)) (grownCap w n 0 5 - n)) 5)).heap[w.heap.size]? = some (.cells (Builtin.zeroCells (Value.cells (.int .u8 0)) n ++ Builtin.zeroCells (Value.cells (.int .u8 0)) (grownCap w n 0 5 - n)) 5 (0, 0)) := heap_alloc_new w.drew _
    have hbel : Below w.heap.size w (w.drew.alloc (.cells (Builtin.zeroCells (Value.cells (.int .u8 0)) n ++ Builtin.zeroCells (Value.cells (.int .u8 0)) (grownCap w n 0 5 - n)) 5)) := ((Below.refl _ _).drew).alloc (Nat.le_refl _) _
    generalize (w.drew.alloc (.cells (Builtin.zeroCells (Value.cells (.int .u8 0)) n ++ Builtin.zeroCells (Value.cells (.int .u8 0)) (grownCap w n 0 5 - n)) 5)) = W at *
    generalize (Builtin.zeroCells (Value.cells (.int .u8 0)) n ++ Builtin.zeroCells (Value.cells (.int .u8 0)) (grownCap w n 0 5 - n)) = cs at *
    generalize grownCap w n 0 5 = cap at *
    have Hrun := Lib.hid hrun
    have Hsz := Lib.hid hsz2
    have Hblk := Lib.hid hblk
    have Hbel := Lib.hid hbel
    have hcm2 : cap ≤ 9223372036854775807 := by unfold maxLen at hcm; omega
    have Hcm := Lib.hid hcm
    clear hrun hsz2 hblk hbel hi hz hsize hby hzs hsz ht hcm
    go_enter Try.func30, Try.ntmps30
    go_wp2_with (at_builtin; refine Lib.wpList_append_run _ rfl (.tmp 20) (.tmp 21) _ _ rfl _ _ rfl rfl _ _ Hrun.out ?_)
    go_ret
    exact ⟨_, rfl, own_zero _ _ _ _ w.heap.size cap cs (Nat.le_refl _) Hblk.out Hcm.out Hsz.out, Hbel.out⟩

def total (rows : List (Value × Nat × List Value)) : Nat := (rows.map (·.2.1)).sum
def cellsOf (rows : List (Value × Nat × List Value)) : List Value := (rows.map (·.2.2)).flatten
theorem total_snoc (rows : List (Value × Nat × List Value)) (k : Nat) (h : k < rows.length) : total (rows.take (k + 1)) = total (rows.take k) + rows[k].2.1 := by
  unfold total; rw [take_snoc _ _ h]
  simp only [List.map_append, List.map_cons, List.map_nil, List.sum_append, List.sum_cons, List.sum_nil, Nat.add_zero]
theorem cellsOf_snoc (rows : List (Value × Nat × List Value)) (k : Nat) (h : k < rows.length) : cellsOf (rows.take (k + 1)) = cellsOf (rows.take k) ++ rows[k].2.2 := by
  unfold cellsOf; rw [take_snoc _ _ h]
  simp only [List.map_append, List.map_cons, List.map_nil, List.flatten_append, List.flatten_cons, List.flatten_nil, List.append_nil]
theorem sum_take_le (l : List Nat) (k : Nat) : (l.take k).sum ≤ l.sum := by
  induction l generalizing k with
  | nil => simp
  | cons a l ih => cases k with
    | zero => simp
    | succ k => simp only [List.take_succ_cons, List.sum_cons]; have := ih k; omega
theorem total_le (rows : List (Value × Nat × List Value)) (k : Nat) : total (rows.take k) ≤ total rows := by
  unfold total; rw [List.map_take]; exact sum_take_le _ _

set_option maxHeartbeats 800000 in
theorem concat_any (A : Option Addr) (m c : Nat) (rows : List (Value × Nat × List Value)) (w : World) (hm : rows.length = m) (hml : m ≤ 4611686018427387904) (ha : SlAt w A (rows.map (·.1)))
    (hrows : ∀ r ∈ rows, IsSl w 1 r.1 r.2.1 r.2.2) (h1 : ∀ r ∈ rows, ∀ u ∈ r.2.2, u.oneCell' = true) (ht : total rows * 1 ≤ 140737488355328) :
    Calls Try.prog 16 #[.slice A m c] w fun e w' => ∃ v, e = .returned v ∧ w'.ownsRow w.heap.size 5 1 v (total rows) (cellsOf rows) ∧ Below w.heap.size w w' := by
  have Hm := Lib.hid hm
  have Ha := Lib.hid ha
  have Hrows := Lib.hid hrows
  have H1 := Lib.hid h1
  have Ht := Lib.hid ht
  clear hm ha hrows h1 ht
  go_enter Try.func16, Try.ntmps16
  go_wp2_with fail
  go_loop [3, 11] (fun s i => ∃ k : Nat, k ≤ m ∧ i = .int .i64 k ∧ s = .int .i64 (total (rows.take k) : Nat)) (fun _ i => m - (intOf i).toNat)
  case atStart => exact ⟨0, Nat.zero_le _, rfl, rfl⟩
  case round =>
    obtain ⟨k, hk, rfl, rfl⟩ := hrel
    by_cases hlt : k < m
    · have hkr : k < rows.length := by rw [Hm.out]; exact hlt
      obtain ⟨b, o, rfl, hcell⟩ := Ha.out.get (k := k) (by simpa using hkr)
      obtain ⟨B, cb, hv, hl1, hl2, hl3, hB, hB0⟩ := Hrows.out rows[k] (List.getElem_mem hkr)
      simp only [List.getElem_map] at hcell
      rw [hv] at hcell
      have Hs := Lib.hid (total_snoc rows k hkr)
      have htl := total_le rows (k + 1)
      rw [Hs.out] at htl
      have hb1 : total (rows.take k) + rows[k].2.1 ≤ 140737488355328 := by have := Ht.out; omega
      have hnn : 0 ≤ ((total (rows.take k) : Nat) : Int) + ((rows[k].2.1 : Nat) : Int) := by omega
      clear htl hB hB0 hl3 hv
      generalize total (rows.take k) = s0 at *
      generalize rows[k].2.1 = n0 at *
      go_wp2_with fail
      go_round
      case rel => exact ⟨k + 1, by omega, by go_num, by rw [Hs.out]; go_num⟩
      case measure => simp [intOf]; omega
    · have hk2 : k = m := by omega
      have Hall : Hid (rows.take k = rows) := Lib.hid (List.take_of_length_le (by rw [Hm.out]; omega))
      rw [Hall.out]
      have htt : total rows ≤ 140737488355328 := by have := Ht.out; omega
      obtain ⟨T, hT⟩ : ∃ T, T = total rows := ⟨_, rfl⟩
      rw [← hT] at htt ⊢
      have HT := Lib.hid hT
      clear hT Hall hk2
      go_wp2_with fail
      refine (grow_any T _ (by rw [HT.out]; exact Ht.out)).mono ?_
      rintro e w1 ⟨v1, rfl, hown1, hb1⟩
      have Ho := Lib.hid hown1
      have Hb := Lib.hid hb1
      clear hown1 hb1
      go_wp2_with fail
      go_loopw [6, 27] (fun s i wr => ∃ k : Nat, k ≤ m ∧ i = .int .i64 k ∧ wr.ownsRow w.heap.size 5 1 s (total (rows.take k)) (cellsOf (rows.take k)) ∧ Below w.heap.size w wr) (fun _ i _ => m - (intOf i).toNat)
      case atStart => exact ⟨0, Nat.zero_le _, rfl, Ho.out, Hb.out⟩
      case round =>
        obtain ⟨k, hk, rfl, hown, hbr⟩ := hrel
        rename_i v3 _ _ _ _ _ _ _ _ _
        have How := Lib.hid hown
        have Hbr := Lib.hid hbr
        by_cases hlt : k < m
        · have hkr : k < rows.length := by rw [Hm.out]; exact hlt
          obtain ⟨b, o, rfl, hcell⟩ := (Ha.out.below hbr).get (k := k) (by simpa using hkr)
          obtain ⟨B, cb, hv, hl1, hl2, hl3, hB, hB0⟩ := (Hrows.out rows[k] (List.getElem_mem hkr)).below hbr
          simp only [List.getElem_map] at hcell
          rw [hv] at hcell
          have Hs := Lib.hid (total_snoc rows k hkr)
          have Hcs := Lib.hid (cellsOf_snoc rows k hkr)
          have htl := total_le rows (k + 1)
          rw [Hs.out] at htl
          have hb1 : total (rows.take k) + rows[k].2.1 ≤ maxLen ∧ (total (rows.take k) + rows[k].2.1) * 1 ≤ 140737488355328 := by
            have := Ht.out; unfold maxLen; omega
          have HB := Lib.hid hB
          have HB0 := Lib.hid hB0
          have Hl3 := Lib.hid hl3
          have Hone := Lib.hid (H1.out rows[k] (List.getElem_mem hkr))
          have Hb1 := Lib.hid hb1
          clear htl hv hB hB0 hl3 hb1 hown hbr
          go_wp2_with (at_builtin; refine wpList_appb rfl (.tmp 31) (.tmp 32) _ rfl 5 _ 1 1 ty _ _ _ rfl How.out Hbr.out B _ cb _ rfl Hl3.out HB.out Hone.out HB0.out Hb1.out.1 Hb1.out.2 ?_; intro v4 w4 hown4 hb4 _ _; have How4 := Lib.hid hown4; have Hb4 := Lib.hid hb4; clear hown4 hb4)
          go_roundw
          case rel => exact ⟨k + 1, by omega, by go_num, by rw [Hs.out, Hcs.out]; exact How4.out, Hb4.out⟩
          case measure => simp [intOf]; omega
        · have Hall : Hid (rows.take k = rows) := Lib.hid (List.take_of_length_le (by rw [Hm.out]; omega))
          go_wp2_with fail
          go_ret
          exact ⟨_, rfl, by have := How.out; rw [Hall.out] at this; exact this, Hbr.out⟩
end Go.Proofs.Ythpdcnjaodjjmaa.ConcatB

/- slices.Concat of rows of bytes. -/
namespace Go.Proofs.Ythpdcnjaodjjmaa
open Go Go.RowKit
set_option linter.unusedVariables false

theorem issl_bytes {w : World} {A : Option Addr} {n c : Nat} {xs : List UInt8} (h : ByAt w A xs) (hn : xs.length = n) (hnc : n ≤ c) (hc : c ≤ maxLen) : IsSl w 1 (.slice A n c) n (xs.map u8v) := by
  refine ⟨A, c, rfl, hnc, hc, by rw [List.length_map, hn, Nat.mul_one], h, fun h0 => ?_⟩
  rcases Nat.eq_zero_or_pos n with h1 | h1
  · exact h1
  · obtain ⟨b, o, e, _⟩ := h (by rw [List.length_map]; omega)
    rw [h0] at e; cases e
theorem flat_sing {α : Type} (f : α → Value) (l : List α) : l.flatMap (fun a => [f a]) = l.map f := by
  induction l with
  | nil => rfl
  | cons a l ih => rw [List.flatMap_cons, ih]; rfl
def catR (q : Value × List UInt8) : Value × Nat × List Value := (q.1, q.2.length, q.2.map u8v)
theorem cat_total (l : List (Value × List UInt8)) : ConcatB.total (l.map catR) = (l.map (·.2)).flatten.length := by
  induction l with
  | nil => rfl
  | cons q l ih =>
    unfold ConcatB.total at ih ⊢
    simp only [List.map_cons, List.sum_cons, List.flatten_cons, List.length_append]
    rw [ih]; rfl
theorem cat_cells (l : List (Value × List UInt8)) : ConcatB.cellsOf (l.map catR) = (l.map (·.2)).flatten.map u8v := by
  induction l with
  | nil => rfl
  | cons q l ih =>
    unfold ConcatB.cellsOf at ih ⊢
    simp only [List.map_cons, List.flatten_cons, List.map_append]
    rw [ih]; rfl
/-- rows of bytes, joined -/
theorem concat_bytes (A : Option Addr) (m c : Nat) (l : List (Value × List UInt8)) (ys : List UInt8) (w : World) (hm : l.length = m) (hml : m ≤ 4611686018427387904) (ha : SlAt w A (l.map (·.1))) (hd : ∀ q ∈ l, IsBytes w q.1 q.2) (hy : (l.map (·.2)).flatten = ys) (ht : ys.length ≤ 140737488355328) :
    Calls Try.prog 16 #[.slice A m c] w fun e w' => (∃ v, e = .returned v ∧ w'.ownsRow w.heap.size 5 1 v ys.length (ys.map u8v)) ∧ Below w.heap.size w w' := by
  have e1 := cat_total l
  have e2 := cat_cells l
  rw [hy] at e1 e2
  refine (ConcatB.concat_any A m c (l.map catR) w (by rw [List.length_map, hm]) hml (by rw [List.map_map]; exact ha) ?_ ?_ (by rw [e1]; omega)).mono ?_
  · intro r hr
    obtain ⟨q, hq, rfl⟩ := List.mem_map.1 hr
    obtain ⟨A', c', h1, h2, h3, h4⟩ := hd q hq
    show IsSl w 1 q.1 q.2.length (q.2.map u8v)
    rw [h1]
    exact issl_bytes h4 rfl h2 h3
  · intro r hr
    obtain ⟨q, hq, rfl⟩ := List.mem_map.1 hr
    exact u8s_one q.2
  · rintro e w' ⟨v, rfl, ho, hb⟩
    rw [e1, e2] at ho
    exact ⟨⟨v, rfl, ho⟩, hb⟩
end Go.Proofs.Ythpdcnjaodjjmaa

/- []int that came in. No program in sight. -/
namespace Go.Proofs.Ythpdcnjaodjjmaa
open Go Go.RowKit
abbrev Ints (w : World) (v : Value) (l : List Int) : Prop := IsL w intC wfI v l
theorem flat_iv (l : List Int) : l.flatMap intC = l.map iv := by
  induction l with
  | nil => rfl
  | cons a l ih => rw [List.flatMap_cons, ih]; rfl
theorem ints_at {w : World} {A : Option Addr} {l : List Int} (h : SlAt w A (l.flatMap intC)) : InAt w A l := by
  unfold InAt; rw [← flat_iv]; exact h
end Go.Proofs.Ythpdcnjaodjjmaa

/- reading, with what the form's reach gives of whatever lies deeper. No program in sight. -/
namespace Go.Proofs.Ythpdcnjaodjjmaa.Hr
open Go Go.RowKit Go.ChangeShapes Go.WideShapes Go.ChangeAt Go.Proofs.Ythpdcnjaodjjmaa
set_option linter.unusedVariables false

/-- what is inherited: M holds of what lies in what M holds of; K: so many of so many bytes -/
structure Her {H : Type} (P : Program) (M : TypeId → DataW H → Prop) (K : Nat → Nat → Prop) : Prop where
  slice : ∀ {t e : TypeId} {es sp : List (DataW H)}, P.underlying t = some (.slice e) → M t (.slice es sp) → (∀ d ∈ es, M e d) ∧ K es.length (P.bytesOf e)
  agg : ∀ {t : TypeId} {fs : Array Field} {ps : List (DataW H)}, P.underlying t = some (.struct fs) → M t (.agg ps) → ∀ (j : Nat) (f : Field) (d : DataW H), fs[j]? = some f → ps[j]? = some d → M f.type d
  zero : ∀ b, K 0 b
def sizedM {H : Type} (P : Program) (t : TypeId) (d : DataW H) : Prop := (d.weights P t).all (· ≤ reachBytes) = true
def sizedK (n b : Nat) : Prop := n * b ≤ 140737488351232
theorem weights_all {H : Type} {P : Program} {e : TypeId} : ∀ {es : List (DataW H)} {d : DataW H}, d ∈ es → ∀ n ∈ d.weights P e, n ∈ DataW.weightsAll P e es
  | x :: es, d, hd, n, hn => by
    simp only [DataW.weightsAll, List.mem_append]
    rcases List.mem_cons.1 hd with rfl | hd
    · exact .inl hn
    · exact .inr (weights_all hd n hn)
theorem her_sized {H : Type} (P : Program) : Her (H := H) P (sizedM P) sizedK where
  slice := by
    intro t e es sp ht h
    unfold sizedM at *
    rw [List.all_eq_true] at h
    refine ⟨fun d hd => ?_, ?_⟩
    · rw [List.all_eq_true]
      intro n hn
      exact h n (by simp only [DataW.weights, ht, List.mem_cons, List.mem_append]; exact .inr (.inl (weights_all hd n hn)))
    · have := h ((es.length + sp.length) * P.bytesOf e) (by simp [DataW.weights, ht])
      rw [decide_eq_true_iff, Nat.add_mul] at this
      have hr : reachBytes = 140737488351232 := by decide
      unfold sizedK
      omega
  agg := by
    intro t fs ps ht h j f d hj hd
    unfold sizedM at *
    rw [List.all_eq_true] at h ⊢
    intro n hn
    refine h n ?_
    simp only [DataW.weights, ht]
    exact DataW.weights_mem_each (ts := fs.toList.map (·.type)) (j := j) (by simp [hj]) hd n hn
  zero := fun b => by unfold sizedK; omega
/-- reading, under M -/
def RdM {α : Type} (H : Type) (enc : TypeId × Value → H) (P : Program) (w : World) (M : TypeId → DataW H → Prop) (t : TypeId) (cells : α → List Value) (deep : α → Prop) : Prop :=
  ∀ (base : Nat) (spare : Nat → Bool) (held : Bool) (fuel : Nat) (cs : List Value) (x : DataW H × List MemPlace), DataW.trod enc P w base spare held fuel t cs = some x → M t x.1 → ∃ a, cs = cells a ∧ deep a
theorem Rd.m {α : Type} {H : Type} {enc : TypeId × Value → H} {P : Program} {w : World} {M : TypeId → DataW H → Prop} {t : TypeId} {cells : α → List Value} {deep : α → Prop} (h : Rd H enc P w t cells deep) : RdM H enc P w M t cells deep :=
  fun base spare held fuel cs x hx _ => h base spare held fuel cs x hx
section
variable {H : Type} {enc : TypeId × Value → H} {P : Program} {w : World} {M : TypeId → DataW H → Prop} {K : Nat → Nat → Prop}
theorem rdM_slice {α : Type} [Inhabited α] {t e : TypeId} {cells : α → List Value} {deep : α → Prop} {size : Nat} (ht : P.underlying t = some (.slice e)) (hsz : P.cellsOf e = size) (hpos : 0 < size) (hc : ∀ a, (cells a).length = size) (hH : Her P M K) (he : RdM H enc P w M e cells deep)
    {base : Nat} {spare : Nat → Bool} {held : Bool} {fuel : Nat} {cs : List Value} {x : DataW H × List MemPlace} (h : DataW.trod enc P w base spare held fuel t cs = some x) (hM : M t x.1) :
    ∃ s : SlV α, cs = slCells s ∧ slDeep w cells deep s ∧ K s.l.length (P.bytesOf e) := by
  rcases Deep.open_slice ht h with ⟨rfl, rfl⟩ | ⟨a, len, cap, m, n, D, Pl, rfl, hb, hl, hm, hmm, rfl, hel⟩
  · exact ⟨⟨none, 0, []⟩, rfl, ⟨Nat.le_refl _, (by show (0 : Nat) ≤ maxLen; unfold maxLen; omega), SlAt.nil, fun _ => rfl, fun a ha => by simp at ha⟩, hH.zero _⟩
  · rw [hsz] at hel
    have hlm : len ≤ m := by rw [hmm]; split <;> omega
    obtain ⟨f, hf⟩ := Deep.choose_lt (α := α) (p := fun i a => w.cells? base (Addr.add ‹Addr› (i * size)) size = some (cells a) ∧ deep a) (n := len) (fun i hi => by
      obtain ⟨cs', h1, h2⟩ := hel i (by omega)
      obtain ⟨a', rfl, hd⟩ := he _ _ _ _ _ _ h2 ((hH.slice ht hM).1 _ (List.mem_map_of_mem (List.mem_range.2 hi)))
      exact ⟨a', h1, hd⟩)
    refine ⟨⟨some a, cap, (List.range len).map f⟩, by simp [slCells], ⟨by simpa using hl, hm, ?_, by simp, ?_⟩, by have := (hH.slice ht hM).2; simpa using this⟩
    · intro hp
      have hlen : 0 < len := by
        rcases Nat.eq_zero_or_pos len with h0 | h0
        · subst h0; simp at hp
        · exact h0
      obtain ⟨b, o, s⟩ := a
      have hs : s = none := by
        obtain ⟨h1, _⟩ := hf 0 hlen
        obtain ⟨h2, h3⟩ := cells_some h1
        have := h3 0 ((cells (f 0))[0]'(by rw [hc]; exact hpos)) (by simp)
        simp [Addr.add] at this
        exact cell_spot this
      subst hs
      refine ⟨b, o, rfl, fun j v hj => ?_⟩
      obtain ⟨a', h1, h2⟩ := flat_get cells size hc hpos _ _ _ hj
      have hjl : j / size < len := by
        have : j / size < ((List.range len).map f).length := by
          rcases Nat.lt_or_ge (j / size) ((List.range len).map f).length with h | h
          · exact h
          · rw [List.getElem?_eq_none h] at h1; cases h1
        simpa using this
      have ha' : f (j / size) = a' := by simpa [hjl] using h1
      obtain ⟨h3, _⟩ := hf _ hjl
      rw [ha', addr_add] at h3
      obtain ⟨_, h4⟩ := cells_some h3
      have h5 := h4 _ _ h2
      rw [addr_add] at h5
      rw [← h5]
      congr 2
      have := Nat.div_add_mod j size
      rw [Nat.mul_comm] at this
      omega
    · intro a' ha'
      simp at ha'
      obtain ⟨i, hi, rfl⟩ := ha'
      exact (hf i hi).2
theorem rdM_bytes {t e : TypeId} (hH : Her P M K) (ht : P.underlying t = some (.slice e)) (he : P.underlying e = some (.int .u8)) (hc : P.cellsOf e = 1) :
    RdM H enc P w M t (fun p : Value × List UInt8 => [p.1]) (fun p => IsBytes w p.1 p.2 ∧ K p.2.length (P.bytesOf e)) := by
  intro base spare held fuel cs x h hM
  obtain ⟨A, len, cap, hcs⟩ : ∃ A len cap, cs = [Value.slice A len cap] := by
    rcases open_ints ht he hc h with ⟨hcs, _⟩ | ⟨x, l, c, zs, hcs, _⟩
    · exact ⟨_, _, _, hcs⟩
    · exact ⟨_, _, _, hcs⟩
  subst hcs
  obtain ⟨d, ps⟩ := x
  obtain ⟨xs, hx, hl⟩ := open_bytes_dlen (enc := enc) ht he hc h
  refine ⟨(_, xs), rfl, hx, ?_⟩
  rw [← hl]
  dsimp only at hM
  cases d with
  | slice es sp => exact (hH.slice ht hM).2
  | _ => exact hH.zero _
end
/-- of an argument -/
theorem sizedM_arg {H : Type} {P : Program} {ts : List TypeId} {ds : List (DataW H)} (h : (DataW.weightsEach P ts ds).all (· ≤ reachBytes) = true) {j : Nat} {t : TypeId} {d : DataW H} (ht : ts[j]? = some t) (hd : ds[j]? = some d) : sizedM P t d := by
  unfold sizedM
  rw [List.all_eq_true] at h ⊢
  exact fun n hn => h n (DataW.weights_mem_each ht hd n hn)
/-- how many a slice's argument holds, by the form's reach -/
theorem sized_len {H : Type} {P : Program} {t e : TypeId} {d : DataW H} {n : Nat} (ht : P.underlying t = some (.slice e)) (hb : P.bytesOf e = 1) (h : sizedM P t d) (hn : dlen d = n) : n ≤ 140737488351232 := by
  subst hn
  cases d with
  | slice es sp =>
    have := ((her_sized P).slice ht h).2
    unfold sizedK at this
    rw [hb] at this
    show es.length ≤ _
    omega
  | _ => exact Nat.zero_le _
/-- rows of bytes that came in -/
theorem open_bytess {H : Type} {enc : TypeId × Value → H} {P : Program} {w : World} {t e u : TypeId} (ht : P.underlying t = some (.slice e)) (he : P.underlying e = some (.slice u)) (hu : P.underlying u = some (.int .u8)) (hc : P.cellsOf u = 1) (hce : P.cellsOf e = 1) (hb : P.bytesOf e = 24) (hb1 : P.bytesOf u = 1)
    {base b0 : Nat} {spare : Nat → Bool} {held : Bool} {r : Reach} {v : Value} {d : DataW H} {ps : List MemPlace} (hv : Value.okWide P w r b0 t v) (h : DataW.Trod enc P w base spare held t v d ps) (hM : sizedM P t d) :
    ∃ l : List (Value × List UInt8), IsL w (fun p : Value × List UInt8 => [p.1]) (fun p => IsBytes w p.1 p.2 ∧ p.2.length ≤ 140737488351232) v l ∧ l.length ≤ 140737488351232 := by
  obtain ⟨A, len, cap, rfl⟩ := okWide_slice ht hv
  obtain ⟨fuel, hf⟩ := h
  obtain ⟨s, h1, h2, h3⟩ := rdM_slice ht hce (by omega) (fun _ => rfl) (her_sized P) (rdM_bytes (her_sized P) he hu hc) hf hM
  unfold sizedK at h3
  rw [hb] at h3
  refine ⟨s.l, ⟨s.A, s.cap, ?_, ?_⟩, by omega⟩
  · simpa [Value.cells, slCells] using h1
  · obtain ⟨k1, k2, k3, k4, k5⟩ := h2
    refine ⟨k1, k2, k3, k4, fun a ha => ⟨(k5 a ha).1, ?_⟩⟩
    have := (k5 a ha).2
    unfold sizedK at this
    rw [hb1] at this
    omega
end Go.Proofs.Ythpdcnjaodjjmaa.Hr
