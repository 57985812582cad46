/- reading, with what the form's reach gives of whatever lies deeper. No program in sight. -/
import Derived.Test.YthfbjgdophjelaaPairs
import Derived.SizedLaws
namespace Go.Proofs.Ythfbjgdophjelaa.Hr
open Go Go.RowKit Go.ChangeShapes Go.WideShapes Go.ChangeAt Go.Proofs.Ythfbjgdophjelaa
set_option linter.unusedVariables false

/-- what is inherited: M holds of what lies in what M holds of; K: so many of so many bytes -/
structure Her {H : Type} (P : Program) (M : TypeId → DataW H → Prop) (K : Nat → Nat → Prop) : Prop where
  slice : ∀ {t e : TypeId} {es sp : List (DataW H)}, P.underlying t = some (.slice e) → M t (.slice es sp) → (∀ d ∈ es, M e d) ∧ K es.length (P.bytesOf e)
  agg : ∀ {t : TypeId} {fs : Array Field} {ps : List (DataW H)}, P.underlying t = some (.struct fs) → M t (.agg ps) → ∀ (j : Nat) (f : Field) (d : DataW H), fs[j]? = some f → ps[j]? = some d → M f.type d
  zero : ∀ b, K 0 b
def sizedM {H : Type} (P : Program) (t : TypeId) (d : DataW H) : Prop := (d.weights P t).all (· ≤ reachBytes) = true
def sizedK (n b : Nat) : Prop := n * b ≤ 140737488351232
theorem weights_all {H : Type} {P : Program} {e : TypeId} : ∀ {es : List (DataW H)} {d : DataW H}, d ∈ es → ∀ n ∈ d.weights P e, n ∈ DataW.weightsAll P e es
  | x :: es, d, hd, n, hn => by
    simp only [DataW.weightsAll, List.mem_append]
    rcases List.mem_cons.1 hd with rfl | hd
    · exact .inl hn
    · exact .inr (weights_all hd n hn)
theorem her_sized {H : Type} (P : Program) : Her (H := H) P (sizedM P) sizedK where
  slice := by
    intro t e es sp ht h
    unfold sizedM at *
    rw [List.all_eq_true] at h
    refine ⟨fun d hd => ?_, ?_⟩
    · rw [List.all_eq_true]
      intro n hn
      exact h n (by simp only [DataW.weights, ht, List.mem_cons, List.mem_append]; exact .inr (.inl (weights_all hd n hn)))
    · have := h ((es.length + sp.length) * P.bytesOf e) (by simp [DataW.weights, ht])
      rw [decide_eq_true_iff, Nat.add_mul] at this
      have hr : reachBytes = 140737488351232 := by decide
      unfold sizedK
      omega
  agg := by
    intro t fs ps ht h j f d hj hd
    unfold sizedM at *
    rw [List.all_eq_true] at h ⊢
    intro n hn
    refine h n ?_
    simp only [DataW.weights, ht]
    exact DataW.weights_mem_each (ts := fs.toList.map (·.type)) (j := j) (by simp [hj]) hd n hn
  zero := fun b => by unfold sizedK; omega
/-- reading, under M -/
def RdM {α : Type} (H : Type) (enc : TypeId × Value → H) (P : Program) (w : World) (M : TypeId → DataW H → Prop) (t : TypeId) (cells : α → List Value) (deep : α → Prop) : Prop :=
  ∀ (base : Nat) (spare : Nat → Bool) (held : Bool) (fuel : Nat) (cs : List Value) (x : DataW H × List MemPlace), DataW.trod enc P w base spare held fuel t cs = some x → M t x.1 → ∃ a, cs = cells a ∧ deep a
theorem Rd.m {α : Type} {H : Type} {enc : TypeId × Value → H} {P : Program} {w : World} {M : TypeId → DataW H → Prop} {t : TypeId} {cells : α → List Value} {deep : α → Prop} (h : Rd H enc P w t cells deep) : RdM H enc P w M t cells deep :=
  fun base spare held fuel cs x hx _ => h base spare held fuel cs x hx
section
variable {H : Type} {enc : TypeId × Value → H} {P : Program} {w : World} {M : TypeId → DataW H → Prop} {K : Nat → Nat → Prop}
theorem rdM_slice {α : Type} [Inhabited α] {t e : TypeId} {cells : α → List Value} {deep : α → Prop} {size : Nat} (ht : P.underlying t = some (.slice e)) (hsz : P.cellsOf e = size) (hpos : 0 < size) (hc : ∀ a, (cells a).length = size) (hH : Her P M K) (he : RdM H enc P w M e cells deep)
    {base : Nat} {spare : Nat → Bool} {held : Bool} {fuel : Nat} {cs : List Value} {x : DataW H × List MemPlace} (h : DataW.trod enc P w base spare held fuel t cs = some x) (hM : M t x.1) :
    ∃ s : SlV α, cs = slCells s ∧ slDeep w cells deep s ∧ K s.l.length (P.bytesOf e) := by
  rcases Deep.open_slice ht h with ⟨rfl, rfl⟩ | ⟨a, len, cap, m, n, D, Pl, rfl, hb, hl, hm, hmm, rfl, hel⟩
  · exact ⟨⟨none, 0, []⟩, rfl, ⟨Nat.le_refl _, (by show (0 : Nat) ≤ maxLen; unfold maxLen; omega), SlAt.nil, fun _ => rfl, fun a ha => by simp at ha⟩, hH.zero _⟩
  · rw [hsz] at hel
    have hlm : len ≤ m := by rw [hmm]; split <;> omega
    obtain ⟨f, hf⟩ := Deep.choose_lt (α := α) (p := fun i a => w.cells? base (Addr.add ‹Addr› (i * size)) size = some (cells a) ∧ deep a) (n := len) (fun i hi => by
      obtain ⟨cs', h1, h2⟩ := hel i (by omega)
      obtain ⟨a', rfl, hd⟩ := he _ _ _ _ _ _ h2 ((hH.slice ht hM).1 _ (List.mem_map_of_mem (List.mem_range.2 hi)))
      exact ⟨a', h1, hd⟩)
    refine ⟨⟨some a, cap, (List.range len).map f⟩, by simp [slCells], ⟨by simpa using hl, hm, ?_, by simp, ?_⟩, by have := (hH.slice ht hM).2; simpa using this⟩
    · intro hp
      have hlen : 0 < len := by
        rcases Nat.eq_zero_or_pos len with h0 | h0
        · subst h0; simp at hp
        · exact h0
      obtain ⟨b, o, s⟩ := a
      have hs : s = none := by
        obtain ⟨h1, _⟩ := hf 0 hlen
        obtain ⟨h2, h3⟩ := cells_some h1
        have := h3 0 ((cells (f 0))[0]'(by rw [hc]; exact hpos)) (by simp)
        simp [Addr.add] at this
        exact cell_spot this
      subst hs
      refine ⟨b, o, rfl, fun j v hj => ?_⟩
      obtain ⟨a', h1, h2⟩ := flat_get cells size hc hpos _ _ _ hj
      have hjl : j / size < len := by
        have : j / size < ((List.range len).map f).length := by
          rcases Nat.lt_or_ge (j / size) ((List.range len).map f).length with h | h
          · exact h
          · rw [List.getElem?_eq_none h] at h1; cases h1
        simpa using this
      have ha' : f (j / size) = a' := by simpa [hjl] using h1
      obtain ⟨h3, _⟩ := hf _ hjl
      rw [ha', addr_add] at h3
      obtain ⟨_, h4⟩ := cells_some h3
      have h5 := h4 _ _ h2
      rw [addr_add] at h5
      rw [← h5]
      congr 2
      have := Nat.div_add_mod j size
      rw [Nat.mul_comm] at this
      omega
    · intro a' ha'
      simp at ha'
      obtain ⟨i, hi, rfl⟩ := ha'
      exact (hf i hi).2
theorem rdM_bytes {t e : TypeId} (hH : Her P M K) (ht : P.underlying t = some (.slice e)) (he : P.underlying e = some (.int .u8)) (hc : P.cellsOf e = 1) :
    RdM H enc P w M t (fun p : Value × List UInt8 => [p.1]) (fun p => IsBytes w p.1 p.2 ∧ K p.2.length (P.bytesOf e)) := by
  intro base spare held fuel cs x h hM
  obtain ⟨A, len, cap, hcs⟩ : ∃ A len cap, cs = [Value.slice A len cap] := by
    rcases open_ints ht he hc h with ⟨hcs, _⟩ | ⟨x, l, c, zs, hcs, _⟩
    · exact ⟨_, _, _, hcs⟩
    · exact ⟨_, _, _, hcs⟩
  subst hcs
  obtain ⟨d, ps⟩ := x
  obtain ⟨xs, hx, hl⟩ := open_bytes_dlen (enc := enc) ht he hc h
  refine ⟨(_, xs), rfl, hx, ?_⟩
  rw [← hl]
  dsimp only at hM
  cases d with
  | slice es sp => exact (hH.slice ht hM).2
  | _ => exact hH.zero _
end
/-- of an argument -/
theorem sizedM_arg {H : Type} {P : Program} {ts : List TypeId} {ds : List (DataW H)} (h : (DataW.weightsEach P ts ds).all (· ≤ reachBytes) = true) {j : Nat} {t : TypeId} {d : DataW H} (ht : ts[j]? = some t) (hd : ds[j]? = some d) : sizedM P t d := by
  unfold sizedM
  rw [List.all_eq_true] at h ⊢
  exact fun n hn => h n (DataW.weights_mem_each ht hd n hn)
/-- rows of bytes that came in -/
theorem open_bytess {H : Type} {enc : TypeId × Value → H} {P : Program} {w : World} {t e u : TypeId} (ht : P.underlying t = some (.slice e)) (he : P.underlying e = some (.slice u)) (hu : P.underlying u = some (.int .u8)) (hc : P.cellsOf u = 1) (hce : P.cellsOf e = 1) (hb : P.bytesOf e = 24) (hb1 : P.bytesOf u = 1)
    {base b0 : Nat} {spare : Nat → Bool} {held : Bool} {r : Reach} {v : Value} {d : DataW H} {ps : List MemPlace} (hv : Value.okWide P w r b0 t v) (h : DataW.Trod enc P w base spare held t v d ps) (hM : sizedM P t d) :
    ∃ l : List (Value × List UInt8), IsL w (fun p : Value × List UInt8 => [p.1]) (fun p => IsBytes w p.1 p.2 ∧ p.2.length ≤ 140737488351232) v l ∧ l.length ≤ 140737488351232 := by
  obtain ⟨A, len, cap, rfl⟩ := okWide_slice ht hv
  obtain ⟨fuel, hf⟩ := h
  obtain ⟨s, h1, h2, h3⟩ := rdM_slice ht hce (by omega) (fun _ => rfl) (her_sized P) (rdM_bytes (her_sized P) he hu hc) hf hM
  unfold sizedK at h3
  rw [hb] at h3
  refine ⟨s.l, ⟨s.A, s.cap, ?_, ?_⟩, by omega⟩
  · simpa [Value.cells, slCells] using h1
  · obtain ⟨k1, k2, k3, k4, k5⟩ := h2
    refine ⟨k1, k2, k3, k4, fun a ha => ⟨(k5 a ha).1, ?_⟩⟩
    have := (k5 a ha).2
    unfold sizedK at this
    rw [hb1] at this
    omega
end Go.Proofs.Ythfbjgdophjelaa.Hr
