/- package world: what it reckons, in plain Lean: nodes that send one another what they have. No program in sight. -/
import Derived.Test.YtdoegpklephelaaGreatDoorMergePure
namespace Go.Proofs.YtdoegpklephelaaGreatDoor.Worlds
open Go Go.Proofs.YtdoegpklephelaaGreatDoor.Merge
set_option linter.unusedVariables false

/-- a message: to whom, what -/
structure Ms where
  to_ : Int
  files : List Fl
/-- a world -/
structure Wd where
  nodes : List (List Fl)
  clock : List Int
  net : List Ms
/-- a happening -/
structure Hp where
  kind : Int
  node : Int
  to_ : Int
  name : List UInt8
  bytes : List UInt8
def Wd.none_ : Wd := ⟨[], [], []⟩
def lateB (l : List Fl) (c : Int) : Bool := l.any fun f => decide (c < f.stamp)
def chkNodes : List (List Fl) → List Int → Int
  | l :: ls, c :: cs => if chkF l ≠ 0 then chkF l else if c < 0 ∨ 1000000 < c ∨ lateB l c = true then 3 else chkNodes ls cs
  | _, _ => 0
def chkNet (n : Nat) : List Ms → Int
  | m :: ms => if chkF m.files ≠ 0 then chkF m.files else if m.to_ < 0 ∨ (n : Int) ≤ m.to_ then 5 else chkNet n ms
  | [] => 0
def chkW (w : Wd) : Int :=
  if w.nodes.length < 1 ∨ 4 < w.nodes.length ∨ w.clock.length ≠ w.nodes.length then 3 else if 20 < w.net.length then 2
  else if chkNodes w.nodes w.clock ≠ 0 then chkNodes w.nodes w.clock else chkNet w.nodes.length w.net
/-- a node is right -/
def NodeOk (l : List Fl) (c : Int) : Prop := chkF l = 0 ∧ 0 ≤ c ∧ c ≤ 1000000 ∧ ∀ f ∈ l, f.stamp ≤ c
def MsOk (n : Nat) (m : Ms) : Prop := chkF m.files = 0 ∧ 0 ≤ m.to_ ∧ m.to_ < n
theorem late_no {l : List Fl} {c : Int} : lateB l c = false ↔ ∀ f ∈ l, f.stamp ≤ c := by
  unfold lateB; rw [List.any_eq_false]
  constructor
  · intro h f hf; have := h f hf; simp at this; exact this
  · intro h f hf; have := h f hf; simp; exact this
theorem node_step {l : List Fl} {c : Int} (ls : List (List Fl)) (cs : List Int) (h : NodeOk l c) : chkNodes (l :: ls) (c :: cs) = chkNodes ls cs := by
  obtain ⟨h1, h2, h3, h4⟩ := h
  simp only [chkNodes]
  rw [if_neg (by simpa using h1), if_neg]
  rintro (h | h | h)
  · omega
  · omega
  · rw [late_no.2 h4] at h; cases h
theorem chkNodes_ok (ls : List (List Fl)) (cs : List Int) : chkNodes ls cs = 0 ↔ ∀ (i : Nat) l c, ls[i]? = some l → cs[i]? = some c → NodeOk l c := by
  induction ls generalizing cs with
  | nil => simp [chkNodes]
  | cons l ls ih =>
    cases cs with
    | nil => simp [chkNodes]
    | cons c cs =>
      constructor
      · intro h i x y hx hy
        simp only [chkNodes] at h
        split at h
        · rename_i h1; exact absurd h h1
        · rename_i h1
          split at h
          · simp at h
          · rename_i h2
            have hn : NodeOk l c := by
              have hl : lateB l c = false := by
                cases hb : lateB l c with
                | false => rfl
                | true => exact absurd (.inr (.inr hb)) h2
              refine ⟨by simpa using h1, ?_, ?_, late_no.1 hl⟩
              · rcases Int.lt_or_le c 0 with g | g
                · exact absurd (.inl g) h2
                · exact g
              · rcases Int.lt_or_le 1000000 c with g | g
                · exact absurd (.inr (.inl g)) h2
                · exact g
            cases i with
            | zero => simp at hx hy; subst hx hy; exact hn
            | succ i => simp at hx hy; exact (ih cs).1 h i x y hx hy
      · intro h
        rw [node_step _ _ (h 0 l c rfl rfl), ih]
        intro i x y hx hy
        exact h (i + 1) x y (by simpa using hx) (by simpa using hy)
theorem chkNet_ok (n : Nat) (ms : List Ms) : chkNet n ms = 0 ↔ ∀ m ∈ ms, MsOk n m := by
  induction ms with
  | nil => simp [chkNet]
  | cons m ms ih =>
    simp only [chkNet]
    constructor
    · intro h
      split at h
      · rename_i h1; exact absurd h h1
      · rename_i h1
        split at h
        · simp at h
        · rename_i h2
          intro x hx
          rcases List.mem_cons.1 hx with rfl | hx
          · exact ⟨by simpa using h1, by omega, by omega⟩
          · exact ih.1 h x hx
    · intro h
      obtain ⟨h1, h2, h3⟩ := h m (by simp)
      rw [if_neg (by simpa using h1), if_neg (by omega), ih]
      exact fun x hx => h x (by simp [hx])
/-- a right world -/
structure WOk (w : Wd) : Prop where
  some_ : 1 ≤ w.nodes.length
  few : w.nodes.length ≤ 4
  clock : w.clock.length = w.nodes.length
  net : w.net.length ≤ 20
  node : ∀ (i : Nat) l c, w.nodes[i]? = some l → w.clock[i]? = some c → NodeOk l c
  ms : ∀ m ∈ w.net, MsOk w.nodes.length m
theorem chkW_ok {w : Wd} : chkW w = 0 ↔ WOk w := by
  unfold chkW
  constructor
  · intro h
    split at h
    · simp at h
    · rename_i h1
      split at h
      · simp at h
      · rename_i h2
        split at h
        · rename_i h3; exact absurd h h3
        · rename_i h3
          exact ⟨by omega, by omega, by omega, by omega, (chkNodes_ok _ _).1 (by simpa using h3), (chkNet_ok _ _).1 h⟩
  · intro h
    have h1 := h.some_
    have h2 := h.few
    have h3 := h.clock
    have h4 := h.net
    have h5 := (chkNodes_ok _ _).2 h.node
    rw [if_neg (by omega), if_neg (by omega), if_neg (by simpa using h5), (chkNet_ok _ _).2 h.ms]
/-- what a node puts -/
def fileOf (x : Hp) (c : Int) : Fl := ⟨x.name, if x.kind = 1 then x.bytes else [], c + 1, x.node, decide (x.kind = 2)⟩
def hasB (l : List Fl) (n : List UInt8) : Bool := l.any fun f => decide (f.name = n) && !f.gone
def putR (w : Wd) (x : Hp) : Int × Wd :=
  if Name.nameE x.name ≠ 0 then (Name.nameE x.name, .none_)
  else if w.clock.getD x.node.toNat 0 = 1000000 then (11, .none_)
  else if x.kind = 1 ∧ 3000 < x.bytes.length then (2, .none_)
  else if x.kind ≠ 1 ∧ hasB (w.nodes.getD x.node.toNat []) x.name = false then (5, .none_)
  else if 12 < (bothL (w.nodes.getD x.node.toNat []) [fileOf x (w.clock.getD x.node.toNat 0)]).length then (11, .none_)
  else (0, ⟨w.nodes.set x.node.toNat (bothL (w.nodes.getD x.node.toNat []) [fileOf x (w.clock.getD x.node.toNat 0)]), w.clock.set x.node.toNat (w.clock.getD x.node.toNat 0 + 1), w.net⟩)
def maxStamp (c : Int) (l : List Fl) : Int := l.foldl (fun c f => max c f.stamp) c
def msAt (w : Wd) (k : Nat) : Ms := w.net.getD k ⟨0, []⟩
def arriveR (w : Wd) (k : Nat) : Int × Wd :=
  if 12 < (bothL (w.nodes.getD (msAt w k).to_.toNat []) (msAt w k).files).length then (11, .none_)
  else (0, ⟨w.nodes.set (msAt w k).to_.toNat (bothL (w.nodes.getD (msAt w k).to_.toNat []) (msAt w k).files), w.clock.set (msAt w k).to_.toNat (maxStamp (w.clock.getD (msAt w k).to_.toNat 0) (msAt w k).files), w.net.eraseIdx k⟩)
def stepR (w : Wd) (x : Hp) : Int × Wd :=
  if x.kind = 1 ∨ x.kind = 2 then (if x.node < 0 ∨ (w.nodes.length : Int) ≤ x.node then (5, .none_) else putR w x)
  else if x.kind = 3 then
    (if (x.node < 0 ∨ (w.nodes.length : Int) ≤ x.node) ∨ (x.to_ < 0 ∨ (w.nodes.length : Int) ≤ x.to_) then (5, .none_) else if w.net.length = 20 then (11, .none_)
    else (0, ⟨w.nodes, w.clock, w.net ++ [⟨x.to_, w.nodes.getD x.node.toNat []⟩]⟩))
  else if x.kind = 4 ∨ x.kind = 5 ∨ x.kind = 6 then
    (if x.to_ < 0 ∨ (w.net.length : Int) ≤ x.to_ then (5, .none_)
    else if x.kind = 4 then arriveR w x.to_.toNat
    else if x.kind = 5 then (0, ⟨w.nodes, w.clock, w.net.eraseIdx x.to_.toNat⟩)
    else if w.net.length = 20 then (11, .none_)
    else (0, ⟨w.nodes, w.clock, w.net ++ [msAt w x.to_.toNat]⟩))
  else (3, .none_)
def doR (w : Wd) (x : Hp) : Int × Wd := if chkW w ≠ 0 then (chkW w, .none_) else stepR w x
def newR (n : Int) : Int × Wd := if n < 1 ∨ 4 < n then (3, .none_) else (0, ⟨List.replicate n.toNat [], List.replicate n.toNat 0, []⟩)
/-- all files of nodes, one behind the other; none: there is no room -/
def allR : List (List Fl) → List Fl → Int × List Fl
  | [], a => (0, a)
  | l :: ls, a => if 12 < (bothL a l).length then (11, []) else allR ls (bothL a l)
def settleR (w : Wd) : Int × Wd :=
  if chkW w ≠ 0 then (chkW w, .none_) else if (allR w.nodes []).1 ≠ 0 then ((allR w.nodes []).1, .none_)
  else (0, ⟨w.nodes.map fun _ => (allR w.nodes []).2, w.clock.map fun c => maxStamp c (allR w.nodes []).2, []⟩)

/-! ### a step leaves a right world -/
theorem getD_some {α : Type} {l : List α} {i : Nat} {d x : α} (h : l[i]? = some x) : l.getD i d = x := by simp [List.getD_eq_getElem?_getD, h]
theorem get_getD {α : Type} {l : List α} {i : Nat} (d : α) (h : i < l.length) : l[i]? = some (l.getD i d) := by simp [List.getD_eq_getElem?_getD, h]
theorem maxStamp_le (c : Int) (l : List Fl) : c ≤ maxStamp c l ∧ ∀ f ∈ l, f.stamp ≤ maxStamp c l := by
  unfold maxStamp
  induction l generalizing c with
  | nil => simp
  | cons f l ih =>
    simp only [List.foldl_cons]
    obtain ⟨h1, h2⟩ := ih (max c f.stamp)
    refine ⟨by omega, fun g hg => ?_⟩
    rcases List.mem_cons.1 hg with rfl | hg
    · omega
    · exact h2 g hg
theorem maxStamp_lub (c : Int) (l : List Fl) (m : Int) (hc : c ≤ m) (h : ∀ f ∈ l, f.stamp ≤ m) : maxStamp c l ≤ m := by
  unfold maxStamp
  induction l generalizing c with
  | nil => simpa using hc
  | cons f l ih =>
    simp only [List.foldl_cons]
    refine ih _ ?_ (fun g hg => h g (by simp [hg]))
    have := h f (by simp)
    omega
theorem fileE_ok {f : Fl} : fileE f = 0 ↔ Name.nameE f.name = 0 ∧ f.bytes.length ≤ 3000 ∧ 0 ≤ f.stamp ∧ f.stamp ≤ 1000000 ∧ 0 ≤ f.node ∧ f.node < 4 ∧ ¬ (f.gone = true ∧ f.bytes ≠ []) := by
  unfold fileE
  constructor
  · intro h
    split at h
    · rename_i h1; exact absurd h h1
    · rename_i h1
      split at h
      · simp at h
      · rename_i h2
        split at h
        · simp at h
        · rename_i h3
          split at h
          · simp at h
          · rename_i h4
            exact ⟨by simpa using h1, by omega, by omega, by omega, by omega, by omega, h4⟩
  · rintro ⟨h1, h2, h3, h4, h5, h6, h7⟩
    rw [if_neg (by simpa using h1), if_neg (by omega), if_neg (by omega), if_neg h7]
theorem chk_one {f : Fl} (h : fileE f = 0) : chkF [f] = 0 := by
  rw [chkF_ok]
  refine ⟨by simp, by simpa using h, by simp [Srt]⟩
theorem stamp_bd {l : List Fl} (h : chkF l = 0) : ∀ f ∈ l, 0 ≤ f.stamp ∧ f.stamp ≤ 1000000 := by
  rw [chkF_ok] at h
  intro f hf
  have := fileE_ok.1 (h.2.1 f hf)
  exact ⟨this.2.2.1, this.2.2.2.1⟩
theorem node_grow {l m : List Fl} {c d : Int} (h1 : NodeOk l c) (h2 : chkF m = 0) (h3 : ∀ f ∈ m, f.stamp ≤ d) (h4 : c ≤ d) (h5 : d ≤ 1000000) (h6 : (bothL l m).length ≤ 12) : NodeOk (bothL l m) d := by
  refine ⟨chk_both h1.1 h2 h6, by have := h1.2.1; omega, h5, fun f hf => ?_⟩
  rcases both_in hf with h | h
  · have := h1.2.2.2 f h; omega
  · exact h3 f h
theorem wok_set {w : Wd} (h : WOk w) (k : Nat) (l : List Fl) (c : Int) (hn : k < w.nodes.length → NodeOk l c) (net : List Ms) (h20 : net.length ≤ 20) (hm : ∀ m ∈ net, MsOk w.nodes.length m) : WOk ⟨w.nodes.set k l, w.clock.set k c, net⟩ := by
  refine ⟨?_, ?_, ?_, h20, ?_, ?_⟩
  · simpa using h.some_
  · simpa using h.few
  · simpa using h.clock
  · intro i x y hx hy
    simp only [List.getElem?_set] at hx hy
    by_cases e : k = i
    · subst e
      rw [if_pos rfl] at hx hy
      split at hx
      · rename_i hlt
        have hk := hn hlt
        split at hy
        · injection hx with hx; injection hy with hy; subst hx hy; exact hk
        · cases hy
      · cases hx
    · rw [if_neg e] at hx hy
      exact h.node i x y hx hy
  · simpa using hm
theorem fileOf_ok {w : Wd} {x : Hp} {c : Int} (hw : w.nodes.length ≤ 4) (h0 : 0 ≤ x.node) (h1 : x.node < w.nodes.length) (hk : x.kind = 1 ∨ x.kind = 2) (hn : Name.nameE x.name = 0) (hc : 0 ≤ c) (hc2 : c < 1000000) (hb : ¬ (x.kind = 1 ∧ 3000 < x.bytes.length)) : fileE (fileOf x c) = 0 := by
  rw [fileE_ok]
  refine ⟨hn, ?_, ?_, ?_, h0, ?_, ?_⟩
  · show (if x.kind = 1 then x.bytes else []).length ≤ 3000
    split
    · rename_i h; have : ¬ 3000 < x.bytes.length := fun h2 => hb ⟨h, h2⟩
      omega
    · simp
  · show 0 ≤ c + 1; omega
  · show c + 1 ≤ 1000000; omega
  · show x.node < 4; omega
  · show ¬ (decide (x.kind = 2) = true ∧ (if x.kind = 1 then x.bytes else []) ≠ [])
    rintro ⟨h2, h3⟩
    have h2 : x.kind = 2 := by simpa using h2
    rw [if_neg (by omega)] at h3
    exact h3 rfl
theorem step_ok {w : Wd} {x : Hp} (h : WOk w) (hs : (stepR w x).1 = 0) : WOk (stepR w x).2 := by
  have hfew := h.few
  have hclk := h.clock
  have hnet := h.net
  unfold stepR at hs ⊢
  by_cases k1 : x.kind = 1 ∨ x.kind = 2
  · rw [if_pos k1] at hs ⊢
    by_cases k2 : x.node < 0 ∨ (w.nodes.length : Int) ≤ x.node
    · rw [if_pos k2] at hs; simp at hs
    · rw [if_neg k2] at hs ⊢
      have hk : x.node.toNat < w.nodes.length := by omega
      have hN := h.node _ _ _ (get_getD [] hk) (get_getD 0 (by omega : x.node.toNat < w.clock.length))
      unfold putR at hs ⊢
      generalize w.clock.getD x.node.toNat 0 = c at *
      generalize w.nodes.getD x.node.toNat [] = l at *
      by_cases g1 : Name.nameE x.name = 0
      · rw [if_neg (by simpa using g1)] at hs ⊢
        by_cases g2 : c = 1000000
        · rw [if_pos g2] at hs; simp at hs
        · rw [if_neg g2] at hs ⊢
          by_cases g3 : x.kind = 1 ∧ 3000 < x.bytes.length
          · rw [if_pos g3] at hs; simp at hs
          · rw [if_neg g3] at hs ⊢
            by_cases g4 : x.kind ≠ 1 ∧ hasB l x.name = false
            · rw [if_pos g4] at hs; simp at hs
            · rw [if_neg g4] at hs ⊢
              by_cases g5 : 12 < (bothL l [fileOf x c]).length
              · rw [if_pos g5] at hs; simp at hs
              · rw [if_neg g5] at hs ⊢
                have hf := fileOf_ok (w := w) (c := c) hfew (by omega) (by omega) k1 g1 hN.2.1 (by have := hN.2.2.1; omega) g3
                refine wok_set h _ _ _ (fun _ => ?_) _ hnet h.ms
                refine node_grow hN (chk_one hf) ?_ (by omega) (by have := hN.2.2.1; omega) (by omega)
                intro f hf
                simp at hf; subst hf
                show c + 1 ≤ c + 1; omega
      · rw [if_pos g1] at hs; exact absurd hs g1
  · rw [if_neg k1] at hs ⊢
    by_cases k3 : x.kind = 3
    · rw [if_pos k3] at hs ⊢
      by_cases g1 : (x.node < 0 ∨ (w.nodes.length : Int) ≤ x.node) ∨ (x.to_ < 0 ∨ (w.nodes.length : Int) ≤ x.to_)
      · rw [if_pos g1] at hs; simp at hs
      · rw [if_neg g1] at hs ⊢
        by_cases g2 : w.net.length = 20
        · rw [if_pos g2] at hs; simp at hs
        · rw [if_neg g2] at hs ⊢
          have hk : x.node.toNat < w.nodes.length := by omega
          have hN := h.node _ _ _ (get_getD [] hk) (get_getD 0 (by omega : x.node.toNat < w.clock.length))
          refine ⟨h.some_, hfew, hclk, by simp; omega, h.node, fun m hm => ?_⟩
          rcases List.mem_append.1 hm with hm | hm
          · exact h.ms m hm
          · simp at hm; subst hm; exact ⟨hN.1, by show 0 ≤ x.to_; omega, by show x.to_ < (w.nodes.length : Int); omega⟩
    · rw [if_neg k3] at hs ⊢
      by_cases k4 : x.kind = 4 ∨ x.kind = 5 ∨ x.kind = 6
      · rw [if_pos k4] at hs ⊢
        by_cases g1 : x.to_ < 0 ∨ (w.net.length : Int) ≤ x.to_
        · rw [if_pos g1] at hs; simp at hs
        · rw [if_neg g1] at hs ⊢
          have hk : x.to_.toNat < w.net.length := by omega
          have hmem : msAt w x.to_.toNat ∈ w.net := by
            have := get_getD (⟨0, []⟩ : Ms) hk
            exact List.mem_of_getElem? this
          have hers : ∀ m ∈ w.net.eraseIdx x.to_.toNat, MsOk w.nodes.length m := fun m hm => h.ms m (List.mem_of_mem_eraseIdx hm)
          have herl : (w.net.eraseIdx x.to_.toNat).length ≤ 20 := by rw [List.length_eraseIdx]; split <;> omega
          by_cases g4 : x.kind = 4
          · rw [if_pos g4] at hs ⊢
            obtain ⟨m1, m2, m3⟩ := h.ms _ hmem
            unfold arriveR at hs ⊢
            generalize msAt w x.to_.toNat = m at *
            have hk2 : m.to_.toNat < w.nodes.length := by omega
            have hN := h.node _ _ _ (get_getD [] hk2) (get_getD 0 (by omega : m.to_.toNat < w.clock.length))
            by_cases g5 : 12 < (bothL (w.nodes.getD m.to_.toNat []) m.files).length
            · rw [if_pos g5] at hs; simp at hs
            · rw [if_neg g5] at hs ⊢
              refine wok_set h _ _ _ (fun _ => ?_) _ herl hers
              refine node_grow hN m1 (maxStamp_le _ _).2 (maxStamp_le _ _).1 (maxStamp_lub _ _ _ hN.2.2.1 (fun f hf => (stamp_bd m1 f hf).2)) (by omega)
          · rw [if_neg g4] at hs ⊢
            by_cases g5 : x.kind = 5
            · rw [if_pos g5] at hs ⊢
              exact ⟨h.some_, hfew, hclk, herl, h.node, hers⟩
            · rw [if_neg g5] at hs ⊢
              by_cases g6 : w.net.length = 20
              · rw [if_pos g6] at hs; simp at hs
              · rw [if_neg g6] at hs ⊢
                refine ⟨h.some_, hfew, hclk, by simp; omega, h.node, fun m hm => ?_⟩
                rcases List.mem_append.1 hm with hm | hm
                · exact h.ms m hm
                · simp at hm; subst hm; exact h.ms _ hmem
      · rw [if_neg k4] at hs; simp at hs
theorem doR_ok {w : Wd} {x : Hp} (h : (doR w x).1 = 0) : WOk w ∧ doR w x = stepR w x ∧ WOk (doR w x).2 := by
  unfold doR at *
  by_cases g : chkW w = 0
  · rw [if_neg (by simpa using g)] at h ⊢
    have hw := chkW_ok.1 g
    exact ⟨hw, rfl, step_ok hw h⟩
  · rw [if_pos g] at h; exact absurd h g
end Go.Proofs.YtdoegpklephelaaGreatDoor.Worlds
