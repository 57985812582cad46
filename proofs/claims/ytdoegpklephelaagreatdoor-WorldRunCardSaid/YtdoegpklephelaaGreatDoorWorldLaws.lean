/- package world: laws of what it reckons, in plain Lean. No program in sight. -/
import Derived.Test.YtdoegpklephelaaGreatDoorWorldPure
namespace Go.Proofs.YtdoegpklephelaaGreatDoor.Worlds
open Go Go.Proofs.YtdoegpklephelaaGreatDoor.Merge
set_option linter.unusedVariables false

/-- files hold f, or a newer one of its name -/
def Has (l : List Fl) (f : Fl) : Prop := ∃ g, lk l f.name = some g ∧ later f g ≤ 0
theorem has_self {l : List Fl} (hs : Srt l) {f : Fl} (h : f ∈ l) : Has l f := ⟨f, lk_some hs h, by rw [later_refl]; omega⟩
theorem has_left {a b : List Fl} (ha : Srt a) (hb : Srt b) {f : Fl} (h : Has a f) : Has (bothL a b) f := by
  obtain ⟨g, h1, h2⟩ := h
  unfold Has
  rw [lk_both ha hb, h1]
  cases lk b f.name with
  | none => exact ⟨g, rfl, h2⟩
  | some y => exact ⟨maxF g y, rfl, cmp_later.trans h2 (maxF_le g y).1⟩
theorem has_right {a b : List Fl} (ha : Srt a) (hb : Srt b) {f : Fl} (h : Has b f) : Has (bothL a b) f := by
  rw [both_comm ha hb]; exact has_left hb ha h
theorem has_mem {l : List Fl} {f : Fl} (h : Has l f) : ∃ g ∈ l, g.name = f.name ∧ later f g ≤ 0 := by
  obtain ⟨g, h1, h2⟩ := h
  exact ⟨g, lk_mem h1, lk_name h1, h2⟩
theorem srt_of {l : List Fl} (h : chkF l = 0) : Srt l := (chkF_ok.1 h).2.2
theorem set_get {α : Type} (l : List α) (k i : Nat) (x d : α) (hk : k < l.length) : (l.set k x).getD i d = if k = i then x else l.getD i d := by
  simp only [List.getD_eq_getElem?_getD, List.getElem?_set]
  by_cases h : k = i
  · subst h; simp [hk]
  · simp [h]
/-- what a step leaves -/
inductive Shape (w v : Wd) (x : Hp) : Prop where
  | put (k : Nat) (f : Fl) (hk : k < w.nodes.length) (hx : x.node = k) (hc : (x.kind = 1 ∨ x.kind = 2)) (hf : fileE f = 0) (hF : f = fileOf x (w.clock.getD k 0)) (hl : (bothL (w.nodes.getD k []) [f]).length ≤ 12)
      (hn : v.nodes = w.nodes.set k (bothL (w.nodes.getD k []) [f])) (hcl : v.clock = w.clock.set k (w.clock.getD k 0 + 1)) (hne : v.net = w.net) : Shape w v x
  | arrive (k : Nat) (m : Ms) (hk : k < w.nodes.length) (hm : m ∈ w.net) (hto : m.to_ = k) (hc : x.kind = 4) (hl : (bothL (w.nodes.getD k []) m.files).length ≤ 12)
      (hn : v.nodes = w.nodes.set k (bothL (w.nodes.getD k []) m.files)) (hcl : v.clock = w.clock.set k (maxStamp (w.clock.getD k 0) m.files)) (hne : ∀ a ∈ v.net, a ∈ w.net) : Shape w v x
  | net (hc : x.kind = 3 ∨ x.kind = 5 ∨ x.kind = 6) (hn : v.nodes = w.nodes) (hcl : v.clock = w.clock) (hne : ∀ a ∈ v.net, a ∈ w.net ∨ a.files ∈ w.nodes) : Shape w v x
theorem step_shape {w : Wd} {x : Hp} (h : WOk w) (hs : (stepR w x).1 = 0) : Shape w (stepR w x).2 x := by
  have hfew := h.few
  have hclk := h.clock
  unfold stepR at hs ⊢
  by_cases k1 : x.kind = 1 ∨ x.kind = 2
  · rw [if_pos k1] at hs ⊢
    by_cases k2 : x.node < 0 ∨ (w.nodes.length : Int) ≤ x.node
    · rw [if_pos k2] at hs; simp at hs
    · rw [if_neg k2] at hs ⊢
      have hk : x.node.toNat < w.nodes.length := by omega
      have hN := h.node _ _ _ (get_getD [] hk) (get_getD 0 (by omega : x.node.toNat < w.clock.length))
      unfold putR at hs ⊢
      by_cases g1 : Name.nameE x.name = 0
      · rw [if_neg (by simpa using g1)] at hs ⊢
        by_cases g2 : w.clock.getD x.node.toNat 0 = 1000000
        · rw [if_pos g2] at hs; simp at hs
        · rw [if_neg g2] at hs ⊢
          by_cases g3 : x.kind = 1 ∧ 3000 < x.bytes.length
          · rw [if_pos g3] at hs; simp at hs
          · rw [if_neg g3] at hs ⊢
            by_cases g4 : x.kind ≠ 1 ∧ hasB (w.nodes.getD x.node.toNat []) x.name = false
            · rw [if_pos g4] at hs; simp at hs
            · rw [if_neg g4] at hs ⊢
              by_cases g5 : 12 < (bothL (w.nodes.getD x.node.toNat []) [fileOf x (w.clock.getD x.node.toNat 0)]).length
              · rw [if_pos g5] at hs; simp at hs
              · rw [if_neg g5] at hs ⊢
                have hf := fileOf_ok (w := w) (c := w.clock.getD x.node.toNat 0) hfew (by omega) (by omega) k1 g1 hN.2.1 (by have := hN.2.2.1; omega) g3
                exact .put x.node.toNat _ hk (by omega) k1 hf rfl (by omega) rfl rfl rfl
      · rw [if_pos g1] at hs; exact absurd hs g1
  · rw [if_neg k1] at hs ⊢
    by_cases k3 : x.kind = 3
    · rw [if_pos k3] at hs ⊢
      by_cases g1 : (x.node < 0 ∨ (w.nodes.length : Int) ≤ x.node) ∨ (x.to_ < 0 ∨ (w.nodes.length : Int) ≤ x.to_)
      · rw [if_pos g1] at hs; simp at hs
      · rw [if_neg g1] at hs ⊢
        by_cases g2 : w.net.length = 20
        · rw [if_pos g2] at hs; simp at hs
        · rw [if_neg g2] at hs ⊢
          have hk : x.node.toNat < w.nodes.length := by omega
          refine .net (.inl k3) rfl rfl fun a ha => ?_
          rcases List.mem_append.1 ha with ha | ha
          · exact .inl ha
          · simp at ha; subst ha; exact .inr (List.mem_of_getElem? (get_getD [] hk))
    · rw [if_neg k3] at hs ⊢
      by_cases k4 : x.kind = 4 ∨ x.kind = 5 ∨ x.kind = 6
      · rw [if_pos k4] at hs ⊢
        by_cases g1 : x.to_ < 0 ∨ (w.net.length : Int) ≤ x.to_
        · rw [if_pos g1] at hs; simp at hs
        · rw [if_neg g1] at hs ⊢
          have hk : x.to_.toNat < w.net.length := by omega
          have hmem : msAt w x.to_.toNat ∈ w.net := List.mem_of_getElem? (get_getD (⟨0, []⟩ : Ms) hk)
          by_cases g4 : x.kind = 4
          · rw [if_pos g4] at hs ⊢
            obtain ⟨m1, m2, m3⟩ := h.ms _ hmem
            unfold arriveR at hs ⊢
            by_cases g5 : 12 < (bothL (w.nodes.getD (msAt w x.to_.toNat).to_.toNat []) (msAt w x.to_.toNat).files).length
            · rw [if_pos g5] at hs; simp at hs
            · rw [if_neg g5] at hs ⊢
              exact .arrive _ (msAt w x.to_.toNat) (by omega) hmem (by omega) g4 (by omega) rfl rfl (fun a ha => List.mem_of_mem_eraseIdx ha)
          · rw [if_neg g4] at hs ⊢
            by_cases g5 : x.kind = 5
            · rw [if_pos g5] at hs ⊢
              exact .net (.inr (.inl g5)) rfl rfl fun a ha => .inl (List.mem_of_mem_eraseIdx ha)
            · rw [if_neg g5] at hs ⊢
              by_cases g6 : w.net.length = 20
              · rw [if_pos g6] at hs; simp at hs
              · rw [if_neg g6] at hs ⊢
                refine .net (by omega) rfl rfl fun a ha => ?_
                rcases List.mem_append.1 ha with ha | ha
                · exact .inl ha
                · simp at ha; subst ha; exact .inl hmem
      · rw [if_neg k4] at hs; simp at hs
/-- P13.2: no clock goes back; no file but for a newer one; one node alone turns -/
theorem grows {w v : Wd} {x : Hp} (hw : WOk w) (h : stepR w x = (0, v)) :
    v.nodes.length = w.nodes.length ∧ v.clock.length = w.clock.length ∧ (∀ i, w.clock.getD i 0 ≤ v.clock.getD i 0) ∧ (∀ i f, i < w.nodes.length → f ∈ w.nodes.getD i [] → Has (v.nodes.getD i []) f) ∧
    (∃ k, ∀ i, i ≠ k → v.nodes.getD i [] = w.nodes.getD i []) ∧ (¬ (x.kind = 1 ∨ x.kind = 2 ∨ x.kind = 4) → v.nodes = w.nodes) := by
  have hsh := step_shape hw (show (stepR w x).1 = 0 by rw [h])
  rw [h] at hsh
  have hclk := hw.clock
  have srt : ∀ i, i < w.nodes.length → Srt (w.nodes.getD i []) := fun i hi => srt_of (hw.node _ _ _ (get_getD [] hi) (get_getD 0 (by omega : i < w.clock.length))).1
  have one : ∀ (k : Nat) (m : List Fl) (c : Int), k < w.nodes.length → Srt m → w.clock.getD k 0 ≤ c → v.nodes = w.nodes.set k (bothL (w.nodes.getD k []) m) → v.clock = w.clock.set k c →
      v.nodes.length = w.nodes.length ∧ v.clock.length = w.clock.length ∧ (∀ i, w.clock.getD i 0 ≤ v.clock.getD i 0) ∧ (∀ i f, i < w.nodes.length → f ∈ w.nodes.getD i [] → Has (v.nodes.getD i []) f) ∧ (∃ k, ∀ i, i ≠ k → v.nodes.getD i [] = w.nodes.getD i []) := by
    intro k m c hk hm hc hn hcl
    refine ⟨by rw [hn]; simp, by rw [hcl]; simp, fun i => ?_, fun i f hi hf => ?_, k, fun i hi => ?_⟩
    · rw [hcl, set_get _ _ _ _ _ (by omega)]
      split
      · rename_i e; subst e; exact hc
      · omega
    · rw [hn, set_get _ _ _ _ _ hk]
      split
      · rename_i e; subst e; exact has_left (srt k hi) hm (has_self (srt k hi) hf)
      · exact has_self (srt i hi) hf
    · rw [hn, set_get _ _ _ _ _ hk, if_neg (fun e => hi e.symm)]
  cases hsh with
  | put k f hk hx hc hf hF hl hn hcl hne =>
    obtain ⟨a, b, c, d, e⟩ := one k [f] _ hk (by simp [Srt]) (by omega) hn hcl
    exact ⟨a, b, c, d, e, fun hg => absurd (by omega) hg⟩
  | arrive k m hk hm hto hc hl hn hcl hne =>
    obtain ⟨a, b, c, d, e⟩ := one k m.files _ hk (srt_of (hw.ms m hm).1) (maxStamp_le _ _).1 hn hcl
    exact ⟨a, b, c, d, e, fun hg => absurd (by omega) hg⟩
  | net hc hn hcl hne =>
    refine ⟨by rw [hn], by rw [hcl], fun i => by rw [hcl]; omega, fun i f hi hf => ?_, ⟨0, fun i _ => by rw [hn]⟩, fun _ => hn⟩
    rw [hn]; exact has_self (srt i hi) hf
/-! ### messages in another order; twice -/
def arrE (w : Wd) (k : Nat) : Int × Wd := stepR w ⟨4, 0, k, [], []⟩
theorem arr_eq (w : Wd) (k : Nat) (hk : k < w.net.length) (x : Hp) (hx : x.kind = 4) (ht : x.to_ = k) : stepR w x = arriveR w k := by
  unfold stepR
  rw [if_neg (by omega), if_neg (by omega), if_pos (.inl hx), if_neg (by omega), if_pos hx, ht, Int.toNat_natCast]
theorem arr_err (w : Wd) (k : Nat) : (arriveR w k).1 = 0 ∨ arriveR w k = (11, .none_) := by
  unfold arriveR; split
  · exact .inr rfl
  · exact .inl rfl
theorem maxStamp_max (c : Int) (l : List Fl) : maxStamp c l = max c (maxStamp c l) := by have := (maxStamp_le c l).1; omega
theorem maxStamp_two (c : Int) (a b : List Fl) : maxStamp (maxStamp c a) b = maxStamp (maxStamp c b) a := by
  apply Int.le_antisymm
  · refine maxStamp_lub _ _ _ (maxStamp_lub _ _ _ (Int.le_trans (maxStamp_le c b).1 (maxStamp_le _ a).1) (fun f hf => (maxStamp_le _ a).2 f hf)) (fun f hf => Int.le_trans ((maxStamp_le c b).2 f hf) (maxStamp_le _ a).1)
  · refine maxStamp_lub _ _ _ (maxStamp_lub _ _ _ (Int.le_trans (maxStamp_le c a).1 (maxStamp_le _ b).1) (fun f hf => (maxStamp_le _ b).2 f hf)) (fun f hf => Int.le_trans ((maxStamp_le c a).2 f hf) (maxStamp_le _ b).1)
theorem maxStamp_again (c : Int) (a : List Fl) : maxStamp (maxStamp c a) a = maxStamp c a := by
  apply Int.le_antisymm
  · exact maxStamp_lub _ _ _ (Int.le_refl _) (maxStamp_le c a).2
  · exact (maxStamp_le _ a).1
theorem both_swap {l a b : List Fl} (hl : Srt l) (ha : Srt a) (hb : Srt b) : bothL (bothL l a) b = bothL (bothL l b) a := by
  rw [both_assoc hl ha hb, both_comm ha hb, ← both_assoc hl hb ha]
theorem both_again {l a : List Fl} (hl : Srt l) (ha : Srt a) : bothL (bothL l a) a = bothL l a := by rw [both_assoc hl ha ha, both_self ha]
theorem erase_two {α : Type} (l : List α) (i k : Nat) (h : i < k) : (l.eraseIdx i).eraseIdx (k - 1) = (l.eraseIdx k).eraseIdx i := by
  induction l generalizing i k with
  | nil => simp
  | cons a l ih =>
    cases k with
    | zero => omega
    | succ k =>
      cases i with
      | zero => simp
      | succ i =>
        cases k with
        | zero => omega
        | succ k =>
          have e := ih i (k + 1) (by omega)
          simp only [Nat.add_sub_cancel] at e
          simp only [Nat.add_sub_cancel, List.eraseIdx_cons_succ]
          rw [e]
theorem erase_at {α : Type} (l : List α) (i k : Nat) (d : α) (h : i < k) : (l.eraseIdx i).getD (k - 1) d = l.getD k d ∧ (l.eraseIdx k).getD i d = l.getD i d := by
  simp only [List.getD_eq_getElem?_getD]
  rw [List.getElem?_eraseIdx, List.getElem?_eraseIdx, if_neg (by omega), if_pos (by omega), show k - 1 + 1 = k by omega]
  exact ⟨rfl, rfl⟩
/-- P13.2: in whatever order two messages come -/
theorem order {w a b : Wd} (hw : WOk w) (i k : Nat) (hi : i < k) (hk : k < w.net.length) (h1 : arriveR w i = (0, a)) (h2 : arriveR w k = (0, b)) :
    arriveR a (k - 1) = arriveR b i ∧ a.net.length = w.net.length - 1 ∧ b.net.length = w.net.length - 1 := by
  have hmi : msAt w i ∈ w.net := List.mem_of_getElem? (get_getD (⟨0, []⟩ : Ms) (by omega))
  have hmk : msAt w k ∈ w.net := List.mem_of_getElem? (get_getD (⟨0, []⟩ : Ms) hk)
  obtain ⟨i1, i2, i3⟩ := hw.ms _ hmi
  obtain ⟨k1, k2, k3⟩ := hw.ms _ hmk
  have e1 : msAt ⟨[], [], w.net.eraseIdx i⟩ (k - 1) = msAt w k := (erase_at w.net i k _ hi).1
  have e2 : msAt ⟨[], [], w.net.eraseIdx k⟩ i = msAt w i := (erase_at w.net i k _ hi).2
  unfold arriveR at h1 h2
  split at h1
  · simp at h1
  · split at h2
    · simp at h2
    · rename_i g1 g2
      injection h1 with _ h1
      injection h2 with _ h2
      subst h1 h2
      refine ⟨?_, by simp; rw [List.length_eraseIdx, if_pos (by omega)], by simp; rw [List.length_eraseIdx, if_pos (by omega)]⟩
      have srt : ∀ i, i < w.nodes.length → Srt (w.nodes.getD i []) := fun i hi => srt_of (hw.node _ _ _ (get_getD [] hi) (get_getD 0 (by rw [hw.clock]; exact hi : i < w.clock.length))).1
      unfold arriveR
      have e1' : ∀ n c, msAt ⟨n, c, w.net.eraseIdx i⟩ (k - 1) = msAt w k := fun n c => e1
      have e2' : ∀ n c, msAt ⟨n, c, w.net.eraseIdx k⟩ i = msAt w i := fun n c => e2
      simp only [e1', e2', erase_two w.net i k hi]
      have hcl := hw.clock
      generalize msAt w i = mi at *
      generalize msAt w k = mk at *
      have hpn : mi.to_.toNat < w.nodes.length := by omega
      have hqn : mk.to_.toNat < w.nodes.length := by omega
      generalize mi.to_.toNat = p at *
      generalize mk.to_.toNat = q at *
      rw [set_get _ _ _ _ _ hpn, set_get _ _ _ _ _ hqn, set_get _ _ _ _ _ (by omega), set_get _ _ _ _ _ (by omega)]
      by_cases e : p = q
      · subst e
        simp only [if_true]
        rw [both_swap (srt p hpn) (srt_of i1) (srt_of k1), maxStamp_two, List.set_set, List.set_set, List.set_set, List.set_set]
      · have e' : ¬ q = p := fun x => e x.symm
        simp only [if_neg e, if_neg e', if_neg g1, if_neg g2]
        rw [List.set_comm _ _ e, List.set_comm (l := w.clock) _ _ e]
/-- P13.2: what is lost, or comes twice -/
theorem twice {w : Wd} (hw : WOk w) (k : Nat) (hk : k < w.net.length) (h20 : w.net.length ≠ 20) :
    ∃ d, (∀ x : Hp, x.kind = 6 → x.to_ = k → stepR w x = (0, d)) ∧ d = ⟨w.nodes, w.clock, w.net ++ [msAt w k]⟩ ∧ (∀ x : Hp, x.kind = 5 → x.to_ = (w.net.length : Int) → stepR d x = (0, w)) ∧
      ∀ once, arriveR w k = (0, once) → ∃ t, arriveR d w.net.length = (0, t) ∧ t.net.length = w.net.length ∧ arriveR t k = (0, once) := by
  refine ⟨_, fun x h1 h2 => ?_, rfl, fun x h1 h2 => ?_, fun once ho => ?_⟩
  · unfold stepR
    rw [if_neg (by omega), if_neg (by omega), if_pos (by omega), if_neg (by omega), if_neg (by omega), if_neg (by omega), if_neg h20, h2, Int.toNat_natCast]
  · unfold stepR
    rw [if_neg (by omega), if_neg (by omega), if_pos (by omega), if_neg (by simp; omega), if_neg (by omega), if_pos h1, h2, Int.toNat_natCast]
    simp only
    rw [List.eraseIdx_append_of_length_le (Nat.le_refl _)]
    simp
  · have hmk : msAt w k ∈ w.net := List.mem_of_getElem? (get_getD (⟨0, []⟩ : Ms) hk)
    obtain ⟨k1, k2, k3⟩ := hw.ms _ hmk
    have hcl := hw.clock
    have hq : (msAt w k).to_.toNat < w.nodes.length := by omega
    have e1 : msAt ⟨w.nodes, w.clock, w.net ++ [msAt w k]⟩ w.net.length = msAt w k := by
      show (w.net ++ [msAt w k]).getD w.net.length _ = _
      rw [List.getD_eq_getElem?_getD]; simp
    have e2 : (w.net ++ [msAt w k]).eraseIdx w.net.length = w.net := by
      rw [List.eraseIdx_append_of_length_le (Nat.le_refl _)]; simp
    have srt : Srt (w.nodes.getD (msAt w k).to_.toNat []) := srt_of (hw.node _ _ _ (get_getD [] hq) (get_getD 0 (by omega : (msAt w k).to_.toNat < w.clock.length))).1
    unfold arriveR at ho
    split at ho
    · simp at ho
    · rename_i g
      injection ho with _ ho
      subst ho
      refine ⟨⟨w.nodes.set (msAt w k).to_.toNat (bothL (w.nodes.getD (msAt w k).to_.toNat []) (msAt w k).files), w.clock.set (msAt w k).to_.toNat (maxStamp (w.clock.getD (msAt w k).to_.toNat 0) (msAt w k).files), w.net⟩, ?_, rfl, ?_⟩
      · unfold arriveR
        rw [e1, if_neg g, e2]
      · have e3 : ∀ n c, msAt ⟨n, c, w.net⟩ k = msAt w k := fun n c => rfl
        unfold arriveR
        simp only [e3]
        rw [set_get _ _ _ _ _ hq, set_get _ _ _ _ _ (by omega), if_pos rfl, if_pos rfl, both_again srt (srt_of k1), maxStamp_again, if_neg g, List.set_set, List.set_set]
/-! ### settling -/
theorem allR_ok (ls : List (List Fl)) (a r : List Fl) (ha : chkF a = 0) (hl : ∀ l ∈ ls, chkF l = 0) (h : allR ls a = (0, r)) :
    chkF r = 0 ∧ (∀ f, Has a f → Has r f) ∧ (∀ l ∈ ls, ∀ f, Has l f → Has r f) ∧ (∀ f ∈ r, f ∈ a ∨ ∃ l ∈ ls, f ∈ l) := by
  induction ls generalizing a with
  | nil => simp [allR] at h; subst h; exact ⟨ha, fun f h => h, by simp, fun f h => .inl h⟩
  | cons l ls ih =>
    simp only [allR] at h
    split at h
    · simp at h
    · rename_i g
      have hl1 := hl l (by simp)
      obtain ⟨i1, i2, i3, i4⟩ := ih (bothL a l) (chk_both ha hl1 (by omega)) (fun m hm => hl m (by simp [hm])) h
      refine ⟨i1, fun f hf => i2 f (has_left (srt_of ha) (srt_of hl1) hf), fun m hm f hf => ?_, fun f hf => ?_⟩
      · rcases List.mem_cons.1 hm with rfl | hm
        · exact i2 f (has_right (srt_of ha) (srt_of hl1) hf)
        · exact i3 m hm f hf
      · rcases i4 f hf with h1 | ⟨m, hm, hf⟩
        · rcases both_in h1 with h1 | h1
          · exact .inl h1
          · exact .inr ⟨l, by simp, h1⟩
        · exact .inr ⟨m, by simp [hm], hf⟩
theorem allR_same (ls : List (List Fl)) (a : List Fl) (ha : chkF a = 0) (hl : ∀ l ∈ ls, l = a) : allR ls a = (0, a) := by
  induction ls with
  | nil => rfl
  | cons l ls ih =>
    have := hl l (by simp)
    subst this
    simp only [allR]
    have h12 := (chkF_ok.1 ha).1
    rw [both_self (srt_of ha), if_neg (by omega)]
    exact ih (fun m hm => hl m (by simp [hm]))
theorem allR_err (ls : List (List Fl)) (a : List Fl) (h : (allR ls a).1 ≠ 0) : allR ls a = (11, []) := by
  induction ls generalizing a with
  | nil => simp [allR] at h
  | cons l ls ih =>
    simp only [allR] at h ⊢
    split
    · rfl
    · rename_i g; rw [if_neg g] at h; exact ih _ h
theorem settle_ok {w v : Wd} (h : settleR w = (0, v)) : WOk w ∧ ∃ a, allR w.nodes [] = (0, a) ∧ chkF a = 0 ∧ v = ⟨w.nodes.map fun _ => a, w.clock.map fun c => maxStamp c a, []⟩ ∧ WOk v := by
  unfold settleR at h
  split at h
  · rename_i g; injection h with h; exact absurd h g
  · rename_i g
    have hw := chkW_ok.1 (by simpa using g)
    split at h
    · rename_i g2; injection h with h; exact absurd h g2
    · rename_i g2
      injection h with _ h
      have hall : allR w.nodes [] = (0, (allR w.nodes []).2) := by rw [← Prod.eta (allR w.nodes [])]; congr 1; simpa using g2
      generalize (allR w.nodes []).2 = a at *
      have hchk : ∀ l ∈ w.nodes, chkF l = 0 := fun l hl => by
        obtain ⟨i, hi, rfl⟩ := List.getElem_of_mem hl
        exact (hw.node i _ _ (List.getElem?_eq_getElem hi) (get_getD 0 (by rw [hw.clock]; exact hi))).1
      have hA := allR_ok w.nodes [] a (by decide) hchk hall
      refine ⟨hw, a, hall, hA.1, h.symm, ?_⟩
      subst h
      refine ⟨by simpa using hw.some_, by simpa using hw.few, by simpa using hw.clock, by simp, fun i l c hl hc => ?_, by simp⟩
      simp only [List.getElem?_map] at hl hc
      cases hx : w.nodes[i]? with
      | none => rw [hx] at hl; cases hl
      | some x =>
        cases hy : w.clock[i]? with
        | none => rw [hy] at hc; cases hc
        | some y =>
          rw [hx] at hl; rw [hy] at hc
          simp at hl hc
          subst hl hc
          have hN := hw.node i x y hx hy
          exact ⟨hA.1, by have := (maxStamp_le y a).1; have := hN.2.1; omega, maxStamp_lub _ _ _ hN.2.2.1 (fun f hf => (stamp_bd hA.1 f hf).2), (maxStamp_le y a).2⟩
theorem settle_err {w : Wd} (hw : WOk w) (h : (settleR w).1 ≠ 0) : settleR w = (11, .none_) := by
  unfold settleR at *
  have hc := chkW_ok.2 hw
  rw [if_neg (by simpa using hc)] at h ⊢
  split
  · rename_i g; rw [allR_err _ _ g]
  · rename_i g; rw [if_neg g] at h; exact absurd rfl h
/-- settled once more it stays -/
theorem settle_again {w v : Wd} (h : settleR w = (0, v)) : settleR v = (0, v) := by
  obtain ⟨hw, a, _, ha, rfl, hv⟩ := settle_ok h
  have hall : allR (w.nodes.map fun _ => a) [] = (0, a) := by
    have hs := hw.some_
    cases hn : w.nodes with
    | nil => rw [hn] at hs; simp at hs
    | cons l ls =>
      simp only [List.map_cons, allR, both_nil]
      have h12 := (chkF_ok.1 ha).1
      rw [if_neg (by omega)]
      exact allR_same _ a ha (fun m hm => by simp at hm; exact hm.2.symm)
  unfold settleR
  have hc := chkW_ok.2 hv
  rw [if_neg (by simpa using hc)]
  simp only [hall]
  rw [if_neg (by simp)]
  congr 2
  · rw [List.map_map]; rfl
  · rw [List.map_map]
    apply List.map_congr_left
    intro c _
    exact maxStamp_again c a
/-- behind a put the node has that very file -/
theorem put_has {w : Wd} (hw : WOk w) {v : Wd} {x : Hp} (h : stepR w x = (0, v)) (hk : x.kind = 1 ∨ x.kind = 2) :
    ∃ (k : Nat) (f : Fl), k < w.nodes.length ∧ x.node = k ∧ f = fileOf x (w.clock.getD k 0) ∧ lk (v.nodes.getD k []) x.name = some f ∧ f.name = x.name ∧ f.node = k ∧ f.gone = decide (x.kind = 2) := by
  have hsh := step_shape hw (show (stepR w x).1 = 0 by rw [h])
  rw [h] at hsh
  cases hsh with
  | put k f hk1 hx hc hf hF hl hn hcl hne =>
    refine ⟨k, f, hk1, hx, hF, ?_, by rw [hF]; rfl, by rw [hF]; exact hx, by rw [hF]; rfl⟩
    have hN := hw.node _ _ _ (get_getD [] hk1) (get_getD 0 (by rw [hw.clock]; exact hk1 : k < w.clock.length))
    rw [hn, set_get _ _ _ _ _ hk1, if_pos rfl, lk_both (srt_of hN.1) (by simp [Srt])]
    have hfn : f.name = x.name := by rw [hF]; rfl
    rw [lk_cons, if_pos hfn]
    cases ho : lk (w.nodes.getD k []) x.name with
    | none => rfl
    | some o =>
      simp only [jo]
      have hst := hN.2.2.2 o (lk_mem ho)
      have hfs : f.stamp = w.clock.getD k 0 + 1 := by rw [hF]; rfl
      have : later o f < 0 := by
        unfold later orI
        have : ci o.stamp f.stamp < 0 := ci_lt.2 (by omega)
        rw [if_pos (by omega)]; exact this
      unfold maxF
      rw [if_pos this]
  | arrive k m hk1 hm hto hc hl hn hcl hne => omega
  | net hc hn hcl hne => omega
theorem has_trans {l : List Fl} {f g : Fl} (h : Has l g) (hn : g.name = f.name) (hl : later f g ≤ 0) : Has l f := by
  obtain ⟨k, h1, h2⟩ := h
  exact ⟨k, by rw [← hn]; exact h1, cmp_later.trans hl h2⟩
/-- what is had is had behind a step -/
theorem has_step {w v : Wd} {x : Hp} (hw : WOk w) (h : stepR w x = (0, v)) {i : Nat} (hi : i < w.nodes.length) {f : Fl} (hf : Has (w.nodes.getD i []) f) : Has (v.nodes.getD i []) f := by
  obtain ⟨g, h1, h2, h3⟩ := has_mem hf
  exact has_trans ((grows hw h).2.2.2.1 i g hi h1) h2 h3
/-- .. and once they are settled, by all -/
theorem has_settle {w v : Wd} (h : settleR w = (0, v)) {i : Nat} (hi : i < w.nodes.length) {f : Fl} (hf : Has (w.nodes.getD i []) f) : ∀ l ∈ v.nodes, Has l f := by
  obtain ⟨hw, a, hall, ha, rfl, hv⟩ := settle_ok h
  intro l hl
  simp at hl
  obtain ⟨_, _, rfl⟩ := hl
  have hchk : ∀ l ∈ w.nodes, chkF l = 0 := fun l hl => by
    obtain ⟨j, hj, rfl⟩ := List.getElem_of_mem hl
    exact (hw.node j _ _ (List.getElem?_eq_getElem hj) (get_getD 0 (by rw [hw.clock]; exact hj))).1
  exact (allR_ok w.nodes [] a (by decide) hchk hall).2.2.1 _ (List.mem_of_getElem? (get_getD [] hi)) f hf
/-! ### a script -/
def stepRun (s : Wd × List Int) (x : Hp) : Wd × List Int := if (doR s.1 x).1 = 0 then ((doR s.1 x).2, s.2 ++ [0]) else (s.1, s.2 ++ [(doR s.1 x).1])
def runL (w : Wd) (xs : List Hp) : Wd × List Int := xs.foldl stepRun (w, [])
theorem runL_take (w : Wd) (xs : List Hp) (k : Nat) (hk : k < xs.length) : runL w (xs.take (k + 1)) = stepRun (runL w (xs.take k)) xs[k] := by
  unfold runL
  rw [List.take_succ_eq_append_getElem hk, List.foldl_append]; rfl
def newW (n : Nat) : Wd := ⟨List.replicate n [], List.replicate n 0, []⟩
theorem newW_ok (n : Nat) (h : 1 ≤ n) (h4 : n ≤ 4) : WOk (newW n) := by
  refine ⟨by simpa [newW] using h, by simpa [newW] using h4, by simp [newW], by simp [newW], fun i l c hl hc => ?_, by simp [newW]⟩
  simp only [newW, List.getElem?_replicate] at hl hc
  split at hl
  · split at hc
    · injection hl with hl
      injection hc with hc
      subst hl hc
      exact ⟨by decide, by omega, by omega, by simp⟩
    · omega
  · cases hl
theorem stepRun_ok {s : Wd × List Int} (h : WOk s.1) (x : Hp) : WOk (stepRun s x).1 := by
  unfold stepRun
  split
  · rename_i g; exact (doR_ok g).2.2
  · exact h
theorem runL_ok {w : Wd} (h : WOk w) (xs : List Hp) : WOk (runL w xs).1 := by
  unfold runL
  have : ∀ (xs : List Hp) (s : Wd × List Int), WOk s.1 → WOk (xs.foldl stepRun s).1 := by
    intro xs
    induction xs with
    | nil => intro s hs; exact hs
    | cons x xs ih => intro s hs; exact ih _ (stepRun_ok hs x)
  exact this xs (w, []) h
theorem runL_len (w : Wd) (xs : List Hp) : (runL w xs).2.length = xs.length ∧ (WOk w → (runL w xs).1.nodes.length = w.nodes.length) := by
  have : ∀ k, k ≤ xs.length → (runL w (xs.take k)).2.length = k ∧ (WOk w → (runL w (xs.take k)).1.nodes.length = w.nodes.length) := by
    intro k
    induction k with
    | zero => intro _; simp [runL]
    | succ k ih =>
      intro hk
      obtain ⟨h1, h2⟩ := ih (by omega)
      have hok : WOk w → WOk (runL w (xs.take k)).1 := fun h => runL_ok h _
      rw [runL_take _ _ _ hk]
      generalize runL w (xs.take k) = s at *
      unfold stepRun
      split
      · rename_i g
        refine ⟨by simp [h1], fun hw => ?_⟩
        have hd := doR_ok g
        have hg := grows (v := (doR s.1 xs[k]).2) hd.1 (by rw [← hd.2.1, ← g])
        rw [hg.1, h2 hw]
      · exact ⟨by simp [h1], h2⟩
  have := this xs.length (Nat.le_refl _)
  rwa [List.take_of_length_le (Nat.le_refl _)] at this
/-- who put a file -/
def PutBy (xs : List Hp) (said : List Int) (f : Fl) : Prop :=
  ∃ (i : Nat) (x : Hp), xs[i]? = some x ∧ said[i]? = some 0 ∧ x.kind = (if f.gone = true then 2 else 1) ∧ x.name = f.name ∧ x.node = f.node ∧ (f.gone = true ∨ x.bytes = f.bytes)
def AllBy (xs : List Hp) (said : List Int) (w : Wd) : Prop := (∀ l ∈ w.nodes, ∀ f ∈ l, PutBy xs said f) ∧ (∀ m ∈ w.net, ∀ f ∈ m.files, PutBy xs said f)
theorem PutBy.more {xs : List Hp} {said : List Int} {f : Fl} (h : PutBy xs said f) (e : Int) : PutBy xs (said ++ [e]) f := by
  obtain ⟨i, x, h1, h2, h3⟩ := h
  have : i < said.length := (List.getElem?_eq_some_iff.1 h2).1
  exact ⟨i, x, h1, by rw [List.getElem?_append_left this]; exact h2, h3⟩
theorem set_mem {α : Type} {l : List α} {k : Nat} {a x : α} (h : x ∈ l.set k a) : x ∈ l ∨ x = a := by
  rcases List.mem_or_eq_of_mem_set h with h | h
  · exact .inl h
  · exact .inr h
theorem getD_mem {α : Type} {l : List α} {k : Nat} {d : α} (h : k < l.length) : l.getD k d ∈ l := List.mem_of_getElem? (get_getD d h)
theorem allBy_step {xs : List Hp} {s : Wd × List Int} (hw : WOk s.1) (hb : AllBy xs s.2 s.1) {x : Hp} (hx : xs[s.2.length]? = some x) : AllBy xs (stepRun s x).2 (stepRun s x).1 := by
  unfold stepRun
  split
  · rename_i g
    have hd := doR_ok g
    have hs0 : (stepR s.1 x).1 = 0 := by rw [← hd.2.1]; exact g
    have hsh := step_shape hw hs0
    rw [hd.2.1]
    generalize (stepR s.1 x).2 = v at *
    have old1 : ∀ l ∈ s.1.nodes, ∀ f ∈ l, PutBy xs (s.2 ++ [0]) f := fun l hl f hf => (hb.1 l hl f hf).more 0
    have old2 : ∀ m ∈ s.1.net, ∀ f ∈ m.files, PutBy xs (s.2 ++ [0]) f := fun m hm f hf => (hb.2 m hm f hf).more 0
    cases hsh with
    | put k f hk hxn hc hf hF hl hn hcl hne =>
      refine ⟨fun l hl f' hf' => ?_, by rw [hne]; exact old2⟩
      rw [hn] at hl
      rcases set_mem hl with hl | rfl
      · exact old1 l hl f' hf'
      · rcases both_in hf' with h | h
        · exact old1 _ (getD_mem hk) f' h
        · simp at h
          subst h
          refine ⟨s.2.length, x, hx, by simp, ?_⟩
          subst hF
          unfold fileOf
          simp only [decide_eq_true_eq]
          rcases hc with h1 | h1
          · rw [if_neg (by omega), if_pos h1]
            exact ⟨h1, by simp, trivial, .inr rfl⟩
          · rw [if_pos h1]
            exact ⟨h1, by simp, trivial, .inl h1⟩
    | arrive k m hk hm hto hc hl hn hcl hne =>
      refine ⟨fun l hl f' hf' => ?_, fun a ha => old2 a (hne a ha)⟩
      rw [hn] at hl
      rcases set_mem hl with hl | rfl
      · exact old1 l hl f' hf'
      · rcases both_in hf' with h | h
        · exact old1 _ (getD_mem hk) f' h
        · exact old2 m hm f' h
    | net hc hn hcl hne =>
      refine ⟨by rw [hn]; exact old1, fun a ha => ?_⟩
      rcases hne a ha with h | h
      · exact old2 a h
      · exact old1 _ h
  · exact ⟨fun l hl f hf => (hb.1 l hl f hf).more _, fun m hm f hf => (hb.2 m hm f hf).more _⟩
theorem run_by (n : Nat) (h1 : 1 ≤ n) (h4 : n ≤ 4) (xs : List Hp) : AllBy xs (runL (newW n) xs).2 (runL (newW n) xs).1 := by
  have : ∀ k, k ≤ xs.length → AllBy xs (runL (newW n) (xs.take k)).2 (runL (newW n) (xs.take k)).1 := by
    intro k
    induction k with
    | zero =>
      intro _
      refine ⟨fun l hl => ?_, by simp [runL, newW]⟩
      simp [runL, newW] at hl
      rw [hl.2]; simp
    | succ k ih =>
      intro hk
      have hlen := (runL_len (newW n) (xs.take k)).1
      rw [runL_take _ _ _ hk]
      refine allBy_step (runL_ok (newW_ok n h1 h4) _) (ih (by omega)) ?_
      rw [hlen, List.length_take, Nat.min_eq_left (by omega), List.getElem?_eq_getElem hk]
  have := this xs.length (Nat.le_refl _)
  rwa [List.take_of_length_le (Nat.le_refl _)] at this
/-- P13.4: nobody has a file that nobody put -/
theorem settle_by (n : Nat) (h1 : 1 ≤ n) (h4 : n ≤ 4) (xs : List Hp) {v : Wd} (h : settleR (runL (newW n) xs).1 = (0, v)) : ∀ l ∈ v.nodes, ∀ f ∈ l, PutBy xs (runL (newW n) xs).2 f := by
  obtain ⟨hw, a, hall, ha, rfl, hv⟩ := settle_ok h
  have hb := run_by n h1 h4 xs
  generalize runL (newW n) xs = s at *
  intro l hl f hf
  simp at hl
  obtain ⟨_, _, rfl⟩ := hl
  have hchk : ∀ l ∈ s.1.nodes, chkF l = 0 := fun l hl => by
    obtain ⟨j, hj, rfl⟩ := List.getElem_of_mem hl
    exact (hw.node j _ _ (List.getElem?_eq_getElem hj) (get_getD 0 (by rw [hw.clock]; exact hj))).1
  rcases (allR_ok s.1.nodes [] a (by decide) hchk hall).2.2.2 f hf with h | ⟨m, hm, hf⟩
  · cases h
  · exact hb.1 m hm f hf
end Go.Proofs.YtdoegpklephelaaGreatDoor.Worlds
