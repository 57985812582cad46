/- package inflate: where reading stands goes on, and never beyond the row. No program in sight. -/
import Derived.Test.YthfbjgdophjelaaInfBody
namespace Go.Proofs.Ythfbjgdophjelaa.Inf
open Go.Proofs.Ythfbjgdophjelaa.Bits Go.Proofs.Ythfbjgdophjelaa.Code
set_option linter.unusedVariables false

theorem then_inv {α β : Type} {r : Rd α} {f : α → Rd β} {b : β} (h : r.then_ f = .ok b) : ∃ a, r = .ok a ∧ f a = .ok b := by
  cases r with
  | bad e => cases h
  | ok a => exact ⟨a, rfl, h⟩
theorem fillP_le (p : Nat) : p ≤ fillP p := by unfold fillP; omega
theorem raw_mono {row : List Bool} : ∀ {n p : Nat} {out : List UInt8} {a : Nat × List UInt8}, rawR row n p out = .ok a → p ≤ row.length → p ≤ a.1 ∧ a.1 ≤ row.length
  | 0, p, out, a, h, hp => by injection h with h; subst h; exact ⟨Nat.le_refl _, hp⟩
  | n + 1, p, out, a, h, hp => by
    obtain ⟨x, hx, h⟩ := then_inv h
    obtain ⟨o, ho, h⟩ := then_inv h
    have h1 := getR_pos hx
    have h2 := raw_mono h (by omega)
    omega
theorem stored_mono {row : List Bool} {p : Nat} {out : List UInt8} {a : Nat × List UInt8} (h : storedR row p out = .ok a) : p ≤ a.1 ∧ a.1 ≤ row.length := by
  obtain ⟨x, hx, h⟩ := then_inv h
  obtain ⟨y, hy, h⟩ := then_inv h
  have h1 := getR_pos hx
  have h2 := getR_pos hy
  have h3 := fillP_le p
  split at h
  · cases h
  · have h4 := raw_mono h (by omega)
    omega
theorem lenStep_mono {row : List Bool} {ls l : List Nat} {n p : Nat} {a : Nat × List Nat} (h : lenStep row ls n p l = .ok a) (hp : p ≤ row.length) : p ≤ a.1 ∧ a.1 ≤ row.length := by
  obtain ⟨k, hk, h⟩ := then_inv h
  have h1 := symR_lt hk hp
  have key : ∀ (q nb v add : Nat), ((getR row q nb).then_ fun x => (againR n l v (add + x.1)).then_ fun m => Rd.ok (x.2, m)) = .ok a → q ≤ a.1 ∧ a.1 ≤ row.length := by
    intro q nb v add h
    obtain ⟨x, hx, h⟩ := then_inv h
    obtain ⟨m, _, h⟩ := then_inv h
    have := getR_pos hx
    injection h with h
    subst h
    (try dsimp only)
    omega
  split at h
  · split at h
    · cases h
    · have := key _ _ _ _ h; omega
  · split at h
    · have := key _ _ _ _ h; omega
    · split at h
      · have := key _ _ _ _ h; omega
      · obtain ⟨m, _, h⟩ := then_inv h
        injection h with h
        subst h
        (try dsimp only)
        omega
theorem len_mono {row : List Bool} {ls : List Nat} {n : Nat} : ∀ {f p : Nat} {l : List Nat} {a : Nat × List Nat}, lenR row ls n f p l = .ok a → p ≤ row.length → p ≤ a.1 ∧ a.1 ≤ row.length
  | 0, p, l, a, h, hp => by injection h with h; subst h; exact ⟨Nat.le_refl _, hp⟩
  | f + 1, p, l, a, h, hp => by
    unfold lenR at h
    split at h
    · injection h with h; subst h; exact ⟨Nat.le_refl _, hp⟩
    · obtain ⟨x, hx, h⟩ := then_inv h
      have h1 := lenStep_mono hx hp
      have h2 := len_mono h h1.2
      omega
theorem sizes_mono {row : List Bool} : ∀ {ks : List Nat} {p : Nat} {s : List Nat} {a : Nat × List Nat}, sizesR row ks p s = .ok a → p ≤ row.length → p ≤ a.1 ∧ a.1 ≤ row.length
  | [], p, s, a, h, hp => by injection h with h; subst h; exact ⟨Nat.le_refl _, hp⟩
  | k :: ks, p, s, a, h, hp => by
    obtain ⟨x, hx, h⟩ := then_inv h
    have h1 := getR_pos hx
    have h2 := sizes_mono h (by omega)
    omega
theorem head_mono {row : List Bool} {p : Nat} {a : Nat × List Nat × List Nat} (h : headR row p = .ok a) : p ≤ a.1 ∧ a.1 ≤ row.length := by
  obtain ⟨x, hx, h⟩ := then_inv h
  obtain ⟨y, hy, h⟩ := then_inv h
  obtain ⟨z, hz, h⟩ := then_inv h
  have h1 := getR_pos hx
  have h2 := getR_pos hy
  have h3 := getR_pos hz
  split at h
  · cases h
  · obtain ⟨s, hs, h⟩ := then_inv h
    obtain ⟨t, _, h⟩ := then_inv h
    obtain ⟨l, hl, h⟩ := then_inv h
    have h4 := sizes_mono hs (by omega)
    have h5 := len_mono hl h4.2
    split at h
    · cases h
    · obtain ⟨u, _, h⟩ := then_inv h
      obtain ⟨v, _, h⟩ := then_inv h
      injection h with h
      subst h
      (try dsimp only)
      omega
theorem bodyStep_mono {row : List Bool} {lit far : List Nat} {p : Nat} {out : List UInt8} {a : Bool × Nat × List UInt8} (h : bodyStep row lit far p out = .ok a) (hp : p ≤ row.length) : p < a.2.1 ∧ a.2.1 ≤ row.length := by
  obtain ⟨k, hk, h⟩ := then_inv h
  have h1 := symR_lt hk hp
  split at h
  · obtain ⟨o, _, h⟩ := then_inv h
    injection h with h; subst h; dsimp only; omega
  · split at h
    · injection h with h; subst h; dsimp only; omega
    · split at h
      · cases h
      · obtain ⟨x, hx, h⟩ := then_inv h
        obtain ⟨f, hf, h⟩ := then_inv h
        have h2 := getR_pos hx
        have h3 := symR_lt hf (by omega)
        split at h
        · cases h
        · obtain ⟨y, hy, h⟩ := then_inv h
          have h4 := getR_pos hy
          split at h
          · cases h
          · obtain ⟨o, _, h⟩ := then_inv h
            injection h with h; subst h; dsimp only; omega
theorem body_mono {row : List Bool} {lit far : List Nat} : ∀ {f p : Nat} {out : List UInt8} {a : Nat × List UInt8}, bodyR row lit far f p out = .ok a → p ≤ row.length → p ≤ a.1 ∧ a.1 ≤ row.length
  | 0, p, out, a, h, hp => by cases h
  | f + 1, p, out, a, h, hp => by
    obtain ⟨x, hx, h⟩ := then_inv h
    have h1 := bodyStep_mono hx hp
    split at h
    · injection h with h; subst h; omega
    · have h2 := body_mono h h1.2
      omega
theorem block_mono {row : List Bool} {p : Nat} {out : List UInt8} {a : Bool × Nat × Nat × List UInt8} (h : blockR row p out = .ok a) : p < a.2.2.1 ∧ a.2.2.1 ≤ row.length := by
  obtain ⟨l, hl, h⟩ := then_inv h
  obtain ⟨k, hk, h⟩ := then_inv h
  have h1 := getR_pos hl
  have h2 := getR_pos hk
  split at h
  · obtain ⟨x, hx, h⟩ := then_inv h
    have := stored_mono hx
    injection h with h; subst h; dsimp only; omega
  · split at h
    · obtain ⟨x, hx, h⟩ := then_inv h
      have := body_mono hx (by omega)
      injection h with h; subst h; dsimp only; omega
    · split at h
      · obtain ⟨y, hy, h⟩ := then_inv h
        obtain ⟨x, hx, h⟩ := then_inv h
        have h3 := head_mono hy
        have := body_mono hx h3.2
        injection h with h; subst h; dsimp only; omega
      · cases h
theorem blocks_mono {row : List Bool} : ∀ {f p : Nat} {out : List UInt8} {ks : List Nat} {a : Nat × List UInt8 × List Nat}, blocksR row f p out ks = .ok a → p < a.1 ∧ a.1 ≤ row.length ∧ a.2.2 ≠ []
  | 0, p, out, ks, a, h => by cases h
  | f + 1, p, out, ks, a, h => by
    obtain ⟨x, hx, h⟩ := then_inv h
    have h1 := block_mono hx
    split at h
    · injection h with h; subst h; exact ⟨h1.1, h1.2, by simp⟩
    · have h2 := blocks_mono h
      exact ⟨by omega, h2.2⟩
/-! ### a beginning of the row says the same, as far as it goes -/
theorem cut_ok {α : Type} {L : Nat} {pos : α → Nat} {a : α} (h : pos a ≤ L) : Cut L pos (.ok a) (.ok a) := by
  intro b hb
  injection hb with hb
  subst hb
  rw [if_pos h]
theorem cut_bad {α : Type} {L : Nat} {pos : α → Nat} {e : Int} {r : Rd α} : Cut L pos (.bad e) r := by intro b hb; cases hb
/-- what comes of a value that is the same, where it stands as it stood -/
theorem cut_same {α β : Type} {L : Nat} {pb : β → Nat} {r : Rd α} {f f' : α → Rd β} (hf : ∀ a, r = .ok a → Cut L pb (f a) (f' a)) : Cut L pb (r.then_ f) (r.then_ f') := by
  cases r with
  | bad e => exact cut_bad
  | ok a => exact hf a rfl
variable {row : List Bool} {L : Nat}
theorem cut_raw (hL : L ≤ row.length) : ∀ {n p : Nat} {out : List UInt8}, p ≤ L → Cut L (fun x : Nat × List UInt8 => x.1) (rawR row n p out) (rawR (row.take L) n p out)
  | 0, p, out, hp => cut_ok hp
  | n + 1, p, out, hp => by
    refine cut_then (cut_get hp hL) (fun x hx hxl => cut_same (fun o ho => cut_raw hL hxl)) (fun x b hx h => ?_)
    obtain ⟨o, _, h⟩ := then_inv h
    have := getR_pos hx
    exact (raw_mono h (by omega)).1
theorem getP_mono {p n : Nat} {a : Nat × Nat} (h : getR row p n = .ok a) : a.2 ≤ row.length := by have := getR_pos h; omega
/-- reading that begins beyond the shorter row ends too soon -/
theorem get_torn {p n : Nat} (h : L < p) (hL : L ≤ row.length) : getR (row.take L) p n = .bad 7 := by
  unfold getR
  rw [if_neg (by rw [List.length_take]; omega)]
theorem cut_get' {p n : Nat} (hL : L ≤ row.length) : Cut L (fun x : Nat × Nat => x.2) (getR row p n) (getR (row.take L) p n) := by
  rcases Nat.lt_or_ge L p with h | h
  · intro a ha
    have := getR_pos ha
    (try dsimp only)
    rw [if_neg (by omega)]
    exact get_torn h hL
  · exact cut_get h hL
theorem cut_stored (hL : L ≤ row.length) {p : Nat} {out : List UInt8} : Cut L (fun x : Nat × List UInt8 => x.1) (storedR row p out) (storedR (row.take L) p out) := by
  refine cut_then (cut_get' hL) (fun x hx hxl => ?_) (fun x b hx h => ?_)
  · refine cut_then (cut_get hxl hL) (fun y hy hyl => ?_) (fun y b hy h => ?_)
    · (try dsimp only)
      split
      · exact cut_bad
      · exact cut_raw hL hyl
    · split at h
      · cases h
      · exact (raw_mono h (getP_mono hy)).1
  · obtain ⟨y, hy, h⟩ := then_inv h
    have := getR_pos hy
    split at h
    · cases h
    · have := raw_mono h (getP_mono hy)
      omega
theorem cut_lenStep (hL : L ≤ row.length) {ls l : List Nat} {n p : Nat} (hp : p ≤ L) : Cut L (fun x : Nat × List Nat => x.1) (lenStep row ls n p l) (lenStep (row.take L) ls n p l) := by
  have key : ∀ (q nb v add : Nat), q ≤ L → Cut L (fun x : Nat × List Nat => x.1) ((getR row q nb).then_ fun x => (againR n l v (add + x.1)).then_ fun m => Rd.ok (x.2, m)) ((getR (row.take L) q nb).then_ fun x => (againR n l v (add + x.1)).then_ fun m => Rd.ok (x.2, m)) := by
    intro q nb v add hq
    refine cut_then (cut_get hq hL) (fun x hx hxl => cut_same (fun m hm => cut_ok hxl)) (fun x b hx h => ?_)
    obtain ⟨m, _, h⟩ := then_inv h
    injection h with h
    subst h
    exact Nat.le_refl _
  refine cut_then (cut_sym hp hL) (fun k hk hkl => ?_) (fun k b hk h => ?_)
  · (try dsimp only)
    split
    · split
      · exact cut_bad
      · exact key _ _ _ _ hkl
    · split
      · exact key _ _ _ _ hkl
      · split
        · exact key _ _ _ _ hkl
        · exact cut_same (fun m hm => cut_ok hkl)
  · have hk2 := symR_lt hk (by omega)
    have k2 : ∀ (q nb v add : Nat), ((getR row q nb).then_ fun x => (againR n l v (add + x.1)).then_ fun m => Rd.ok (x.2, m)) = .ok b → q ≤ b.1 := by
      intro q nb v add h
      obtain ⟨x, hx, h⟩ := then_inv h
      obtain ⟨m, _, h⟩ := then_inv h
      have := getR_pos hx
      injection h with h
      subst h
      (try dsimp only)
      omega
    split at h
    · split at h
      · cases h
      · exact k2 _ _ _ _ h
    · split at h
      · exact k2 _ _ _ _ h
      · split at h
        · exact k2 _ _ _ _ h
        · obtain ⟨m, _, h⟩ := then_inv h
          injection h with h
          subst h
          exact Nat.le_refl _
theorem cut_len (hL : L ≤ row.length) {ls : List Nat} {n : Nat} : ∀ {f p : Nat} {l : List Nat}, p ≤ L → Cut L (fun x : Nat × List Nat => x.1) (lenR row ls n f p l) (lenR (row.take L) ls n f p l)
  | 0, p, l, hp => cut_ok hp
  | f + 1, p, l, hp => by
    unfold lenR
    split
    · exact cut_ok hp
    · refine cut_then (cut_lenStep hL hp) (fun x hx hxl => cut_len hL hxl) (fun x b hx h => ?_)
      have := lenStep_mono hx (by omega)
      exact (len_mono h this.2).1
theorem cut_sizes (hL : L ≤ row.length) : ∀ {ks : List Nat} {p : Nat} {s : List Nat}, p ≤ L → Cut L (fun x : Nat × List Nat => x.1) (sizesR row ks p s) (sizesR (row.take L) ks p s)
  | [], p, s, hp => cut_ok hp
  | k :: ks, p, s, hp => by
    refine cut_then (cut_get hp hL) (fun x hx hxl => cut_sizes hL hxl) (fun x b hx h => ?_)
    exact (sizes_mono h (getP_mono hx)).1
theorem cut_head (hL : L ≤ row.length) {p : Nat} (hp : p ≤ L) : Cut L (fun x : Nat × List Nat × List Nat => x.1) (headR row p) (headR (row.take L) p) := by
  have tl : ∀ {m n : Nat} {t : List Nat} {s : Nat × List Nat} {b : Nat × List Nat × List Nat}, s.1 ≤ row.length → ((lenR row t n n s.1 []).then_ fun l => if l.2.getD 256 0 = 0 then Rd.bad 8 else (tableR (zsOf (l.2.take m))).then_ fun x => (tableR (zsOf (l.2.drop m))).then_ fun y => .ok (l.1, x, y)) = .ok b → s.1 ≤ b.1 := by
    intro m n t s b hs h
    obtain ⟨l, hl, h⟩ := then_inv h
    have h1 := len_mono hl hs
    split at h
    · cases h
    · obtain ⟨u, _, h⟩ := then_inv h
      obtain ⟨v, _, h⟩ := then_inv h
      injection h with h
      subst h
      exact h1.1
  refine cut_then (cut_get hp hL) (fun x hx hxl => ?_) (fun x b hx h => ?_)
  · refine cut_then (cut_get hxl hL) (fun y hy hyl => ?_) (fun y b hy h => ?_)
    · refine cut_then (cut_get hyl hL) (fun z hz hzl => ?_) (fun z b hz h => ?_)
      · (try dsimp only)
        split
        · exact cut_bad
        · refine cut_then (cut_sizes hL hzl) (fun s hs hsl => ?_) (fun s b hs h => ?_)
          · refine cut_same (fun t ht => ?_)
            refine cut_then (cut_len hL hsl) (fun l hl hll => ?_) (fun l b hl h => ?_)
            · (try dsimp only)
              split
              · exact cut_bad
              · exact cut_same (fun u hu => cut_same (fun v hv => cut_ok hll))
            · split at h
              · cases h
              · obtain ⟨u, _, h⟩ := then_inv h
                obtain ⟨v, _, h⟩ := then_inv h
                injection h with h
                subst h
                exact Nat.le_refl _
          · obtain ⟨t, _, h⟩ := then_inv h
            exact tl (sizes_mono hs (getP_mono hz)).2 h
      · split at h
        · cases h
        · obtain ⟨s, hs, h⟩ := then_inv h
          obtain ⟨t, _, h⟩ := then_inv h
          have h1 := sizes_mono hs (getP_mono hz)
          have h2 := tl h1.2 h
          omega
    · obtain ⟨z, hz, h⟩ := then_inv h
      have h0 := getR_pos hz
      split at h
      · cases h
      · obtain ⟨s, hs, h⟩ := then_inv h
        obtain ⟨t, _, h⟩ := then_inv h
        have h1 := sizes_mono hs (getP_mono hz)
        have h2 := tl h1.2 h
        omega
  · obtain ⟨y, hy, h⟩ := then_inv h
    obtain ⟨z, hz, h⟩ := then_inv h
    have h0 := getR_pos hz
    have h0' := getR_pos hy
    split at h
    · cases h
    · obtain ⟨s, hs, h⟩ := then_inv h
      obtain ⟨t, _, h⟩ := then_inv h
      have h1 := sizes_mono hs (getP_mono hz)
      have h2 := tl h1.2 h
      omega
theorem cut_bodyStep (hL : L ≤ row.length) {lit far : List Nat} {p : Nat} {out : List UInt8} (hp : p ≤ L) : Cut L (fun x : Bool × Nat × List UInt8 => x.2.1) (bodyStep row lit far p out) (bodyStep (row.take L) lit far p out) := by
  have tl : ∀ {f : Nat × Nat} {n : Nat} {b : Bool × Nat × List UInt8}, (if 30 ≤ f.1 then Rd.bad 8 else (getR row f.2 (farL.getD f.1 (0, 0)).2).then_ fun y => if out.length < (farL.getD f.1 (0, 0)).1 + y.1 then .bad 9 else (copyR ((farL.getD f.1 (0, 0)).1 + y.1) n out).then_ fun o => .ok (false, y.2, o)) = .ok b → f.2 ≤ b.2.1 := by
    intro f n b h
    split at h
    · cases h
    · obtain ⟨y, hy, h⟩ := then_inv h
      have := getR_pos hy
      split at h
      · cases h
      · obtain ⟨o, _, h⟩ := then_inv h
        injection h with h
        subst h
        (try dsimp only)
        omega
  refine cut_then (cut_sym hp hL) (fun k hk hkl => ?_) (fun k b hk h => ?_)
  · (try dsimp only)
    split
    · exact cut_same (fun o ho => cut_ok hkl)
    · split
      · exact cut_ok hkl
      · split
        · exact cut_bad
        · refine cut_then (cut_get hkl hL) (fun x hx hxl => ?_) (fun x b hx h => ?_)
          · refine cut_then (cut_sym hxl hL) (fun f hf hfl => ?_) (fun f b hf h => tl h)
            (try dsimp only)
            split
            · exact cut_bad
            · refine cut_then (cut_get hfl hL) (fun y hy hyl => ?_) (fun y b hy h => ?_)
              · (try dsimp only)
                split
                · exact cut_bad
                · exact cut_same (fun o ho => cut_ok hyl)
              · split at h
                · cases h
                · obtain ⟨o, _, h⟩ := then_inv h
                  injection h with h
                  subst h
                  exact Nat.le_refl _
          · obtain ⟨f, hf, h⟩ := then_inv h
            have h1 := symR_lt hf (getP_mono hx)
            have h2 := tl h
            omega
  · have h1 := symR_lt hk (by omega)
    split at h
    · obtain ⟨o, _, h⟩ := then_inv h
      injection h with h; subst h; exact Nat.le_refl _
    · split at h
      · injection h with h; subst h; exact Nat.le_refl _
      · split at h
        · cases h
        · obtain ⟨x, hx, h⟩ := then_inv h
          obtain ⟨f, hf, h⟩ := then_inv h
          have h2 := getR_pos hx
          have h3 := symR_lt hf (getP_mono hx)
          have h4 := tl h
          omega
theorem cut_body (hL : L ≤ row.length) {lit far : List Nat} : ∀ {f f' p : Nat} {out : List UInt8}, p ≤ L → L + 1 ≤ p + f' → Cut L (fun x : Nat × List UInt8 => x.1) (bodyR row lit far f p out) (bodyR (row.take L) lit far f' p out)
  | 0, f', p, out, hp, hf => cut_bad
  | f + 1, 0, p, out, hp, hf => by omega
  | f + 1, f' + 1, p, out, hp, hf => by
    refine cut_then (cut_bodyStep hL hp) (fun x hx hxl => ?_) (fun x b hx h => ?_)
    · have h1 := bodyStep_mono hx (by omega)
      (try dsimp only at hxl ⊢)
      split
      · exact cut_ok hxl
      · exact cut_body hL hxl (by omega)
    · have h1 := bodyStep_mono hx (by omega)
      split at h
      · injection h with h; subst h; exact Nat.le_refl _
      · exact (body_mono h h1.2).1
theorem cut_block (hL : L ≤ row.length) {p : Nat} {out : List UInt8} (hp : p ≤ L) : Cut L (fun x : Bool × Nat × Nat × List UInt8 => x.2.2.1) (blockR row p out) (blockR (row.take L) p out) := by
  have hlen : (row.take L).length = L := by rw [List.length_take]; omega
  refine cut_then (cut_get hp hL) (fun l hl hll => ?_) (fun l b hl h => ?_)
  · refine cut_then (cut_get hll hL) (fun k hk hkl => ?_) (fun k b hk h => ?_)
    · (try dsimp only at hkl ⊢)
      split
      · refine cut_then (cut_stored hL) (fun x hx hxl => cut_ok hxl) (fun x b hx h => ?_)
        injection h with h; subst h; exact Nat.le_refl _
      · split
        · refine cut_then (cut_body hL hkl (by omega)) (fun x hx hxl => cut_ok hxl) (fun x b hx h => ?_)
          injection h with h; subst h; exact Nat.le_refl _
        · split
          · refine cut_then (cut_head hL hkl) (fun x hx hxl => ?_) (fun x b hx h => ?_)
            · refine cut_then (cut_body hL hxl (by (try dsimp only at hxl); omega)) (fun y hy hyl => cut_ok hyl) (fun y b hy h => ?_)
              injection h with h; subst h; exact Nat.le_refl _
            · obtain ⟨y, hy, h⟩ := then_inv h
              have h1 := head_mono hx
              have h2 := body_mono hy h1.2
              injection h with h; subst h; dsimp only; omega
          · exact cut_bad
    · have h0 := getR_pos hk
      split at h
      · obtain ⟨x, hx, h⟩ := then_inv h
        have := stored_mono hx
        injection h with h; subst h; dsimp only; omega
      · split at h
        · obtain ⟨x, hx, h⟩ := then_inv h
          have := body_mono hx (getP_mono hk)
          injection h with h; subst h; dsimp only; omega
        · split at h
          · obtain ⟨y, hy, h⟩ := then_inv h
            obtain ⟨x, hx, h⟩ := then_inv h
            have h3 := head_mono hy
            have := body_mono hx h3.2
            injection h with h; subst h; dsimp only; omega
          · cases h
  · have hb : blockR row p out = .ok b := by
      show (getR row p 1).then_ _ = _
      rw [hl]
      exact h
    have h1 := getR_pos hl
    obtain ⟨k, hk, h⟩ := then_inv h
    have h0 := getR_pos hk
    split at h
    · obtain ⟨x, hx, h⟩ := then_inv h
      have := stored_mono hx
      injection h with h; subst h; dsimp only; omega
    · split at h
      · obtain ⟨x, hx, h⟩ := then_inv h
        have := body_mono hx (getP_mono hk)
        injection h with h; subst h; dsimp only; omega
      · split at h
        · obtain ⟨y, hy, h⟩ := then_inv h
          obtain ⟨x, hx, h⟩ := then_inv h
          have h3 := head_mono hy
          have := body_mono hx h3.2
          injection h with h; subst h; dsimp only; omega
        · cases h
theorem cut_blocks (hL : L ≤ row.length) : ∀ {f f' p : Nat} {out : List UInt8} {ks : List Nat}, p ≤ L → L + 1 ≤ p + f' → Cut L (fun x : Nat × List UInt8 × List Nat => x.1) (blocksR row f p out ks) (blocksR (row.take L) f' p out ks)
  | 0, f', p, out, ks, hp, hf => cut_bad
  | f + 1, 0, p, out, ks, hp, hf => by omega
  | f + 1, f' + 1, p, out, ks, hp, hf => by
    refine cut_then (cut_block hL hp) (fun x hx hxl => ?_) (fun x b hx h => ?_)
    · have h1 := block_mono hx
      (try dsimp only at hxl ⊢)
      split
      · exact cut_ok hxl
      · exact cut_blocks hL hxl (by omega)
    · split at h
      · injection h with h; subst h; exact Nat.le_refl _
      · exact Nat.le_of_lt (blocks_mono h).1
theorem bitsL_takeN (b : List UInt8) (k : Nat) (hk : k ≤ b.length) : bitsL (b.take k) = (bitsL b).take (8 * k) := by
  have e : bitsL b = bitsL (b.take k) ++ bitsL (b.drop k) := by rw [← bitsL_append, List.take_append_drop]
  rw [e, List.take_left' (by rw [bitsL_length, List.length_take, Nat.min_eq_left hk])]
/-- what was unpacked comes of the bytes that were read alone -/
theorem unpack_take {b : List UInt8} {out : List UInt8} {used : Nat} {ks : List Nat} (h : unpackR b = .ok (out, used, ks)) : 1 ≤ used ∧ used ≤ b.length ∧ ks ≠ [] ∧ unpackR (b.take (used - 1)) = .bad 7 ∧ unpackR (b.take used) = .ok (out, used, ks) := by
  unfold unpackR at h
  split at h
  · cases h
  · rename_i h6
    obtain ⟨x, hx, h⟩ := then_inv h
    injection h with h
    obtain ⟨p, o, l⟩ := x
    dsimp only at h
    injection h with h1 h2
    injection h2 with h2 h3
    subst h1 h2 h3
    have hm := blocks_mono hx
    rw [bitsL_length] at hm
    dsimp only at hm
    have hk : ∀ k, k ≤ b.length → bitsL (b.take k) = (bitsL b).take (8 * k) := by
      intro k hk
      exact bitsL_takeN b k hk
    have hc : ∀ k, k ≤ b.length → Cut (8 * k) (fun x : Nat × List UInt8 × List Nat => x.1) (blocksR (bitsL b) (8 * b.length + 1) 0 [] []) (blocksR ((bitsL b).take (8 * k)) (8 * k + 1) 0 [] []) := fun k hk => cut_blocks (by rw [bitsL_length]; omega) (Nat.zero_le _) (by omega)
    refine ⟨by omega, by omega, hm.2.2, ?_, ?_⟩
    · have := hc ((p + 7) / 8 - 1) (by omega) _ hx
      dsimp only at this
      rw [if_neg (by omega)] at this
      unfold unpackR
      rw [if_neg (by rw [List.length_take]; omega), hk _ (by omega), List.length_take, Nat.min_eq_left (by omega), this]
      rfl
    · have := hc ((p + 7) / 8) (by omega) _ hx
      dsimp only at this
      rw [if_pos (by omega)] at this
      unfold unpackR
      rw [if_neg (by rw [List.length_take]; omega), hk _ (by omega), List.length_take, Nat.min_eq_left (by omega), this]
      rfl
end Go.Proofs.Ythfbjgdophjelaa.Inf
