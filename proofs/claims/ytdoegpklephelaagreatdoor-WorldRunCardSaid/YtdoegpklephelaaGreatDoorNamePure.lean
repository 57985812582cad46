/- names: texts between slashes, what is joined below a folder. No program in sight. -/
import Derived.WalkKit
import Derived.Lib.Split
import Derived.Lib.SplitLaws
import Derived.Lib.IndexBytes
import Derived.Lib.CountLaws
import Derived.Lib.Join
import Derived.Lib.Strings
namespace Go.Proofs.YtdoegpklephelaaGreatDoor.Name
open Go

/-- a text of these bytes -/
def strB (l : List UInt8) : ByteArray := ⟨l.toArray⟩
theorem strB_data (l : List UInt8) : (strB l).data.toList = l := by simp [strB]
theorem strB_size (l : List UInt8) : (strB l).size = l.length := rfl
theorem strB_back (s : ByteArray) : strB s.data.toList = s := by simp [strB]
theorem strB_inj {a b : List UInt8} (h : strB a = strB b) : a = b := by rw [← strB_data a, h, strB_data]
theorem strB_toList (l : List UInt8) : (strB l).toList = l := by rw [Lib.toList_data, strB_data]
theorem strB_extract (l : List UInt8) (a b : Nat) : (strB l).extract a b = strB ((l.drop a).take (b - a)) := by
  apply ByteArray.ext
  simp [strB]
theorem strB_app (a b : List UInt8) : strB a ++ strB b = strB (a ++ b) := by
  apply ByteArray.ext
  simp [strB]

/-- what stands between slashes -/
def parts : List UInt8 → List (List UInt8)
  | [] => [[]]
  | c :: l => if c = 47 then [] :: parts l else match parts l with | [] => [[c]] | p :: ps => (c :: p) :: ps
/-- with slashes between -/
def glue : List (List UInt8) → List UInt8
  | [] => []
  | [p] => p
  | p :: q :: r => p ++ 47 :: glue (q :: r)
theorem parts_ne (l : List UInt8) : parts l ≠ [] := by
  cases l with
  | nil => simp [parts]
  | cons c l =>
    unfold parts
    split
    · simp
    · split <;> simp
theorem parts_plain (l : List UInt8) (h : (47 : UInt8) ∉ l) : parts l = [l] := by
  induction l with
  | nil => rfl
  | cons c l ih =>
    simp only [List.mem_cons, not_or] at h
    unfold parts
    rw [if_neg (fun e => h.1 e.symm), ih h.2]
theorem parts_hit (p r : List UInt8) (h : (47 : UInt8) ∉ p) : parts (p ++ 47 :: r) = p :: parts r := by
  induction p with
  | nil => simp [parts]
  | cons c p ih =>
    simp only [List.mem_cons, not_or] at h
    rw [List.cons_append]
    conv => lhs; unfold parts
    rw [if_neg (fun e => h.1 e.symm), ih h.2]
theorem glue_cons (p : List UInt8) (ps : List (List UInt8)) (h : ps ≠ []) : glue (p :: ps) = p ++ 47 :: glue ps := by
  cases ps with
  | nil => exact absurd rfl h
  | cons q r => rfl
theorem glue_app (a b : List (List UInt8)) (ha : a ≠ []) (hb : b ≠ []) : glue (a ++ b) = glue a ++ 47 :: glue b := by
  induction a with
  | nil => exact absurd rfl ha
  | cons p a ih =>
    by_cases h : a = []
    · subst h; rw [List.cons_append, List.nil_append, glue_cons _ _ hb]; rfl
    · rw [List.cons_append, glue_cons _ _ (by simp [h]), ih h, glue_cons _ _ h]
      simp
theorem glue_parts (l : List UInt8) : glue (parts l) = l := by
  induction l with
  | nil => rfl
  | cons c l ih =>
    unfold parts
    by_cases h : c = 47
    · rw [if_pos h, glue_cons _ _ (parts_ne l), ih, h]; rfl
    · rw [if_neg h]
      generalize hp : parts l = ps at *
      match ps, ih with
      | [], _ => exact absurd hp (parts_ne l)
      | [p], ih => simp only [glue] at ih ⊢; rw [ih]
      | p :: q :: r, ih => simp only [glue] at ih ⊢; rw [← ih]; rfl
theorem parts_glue (ps : List (List UInt8)) (h : ∀ p ∈ ps, (47 : UInt8) ∉ p) (hne : ps ≠ []) : parts (glue ps) = ps := by
  induction ps with
  | nil => exact absurd rfl hne
  | cons p ps ih =>
    by_cases h0 : ps = []
    · subst h0; exact parts_plain p (h p (by simp))
    · rw [glue_cons _ _ h0, parts_hit _ _ (h p (by simp)), ih (fun q hq => h q (by simp [hq])) h0]
theorem glue_join (ps : List (List UInt8)) : Lib.join ps [47] = glue ps := by
  cases ps with
  | nil => rfl
  | cons p ps =>
    rw [Lib.join_cons]
    induction ps generalizing p with
    | nil => simp [Lib.joinTail, glue]
    | cons q r ih =>
      rw [glue_cons _ _ (by simp), ← ih q]
      simp [Lib.joinTail]
theorem parts_len (l : List UInt8) : (parts l).length ≤ l.length + 1 := by
  induction l with
  | nil => simp [parts]
  | cons c l ih =>
    unfold parts
    split
    · simp; omega
    · split
      · simp
      · rename_i hp; rw [hp] at ih; simp at ih ⊢; omega
theorem parts_sum (l : List UInt8) (p : List UInt8) (hp : p ∈ parts l) : p.length ≤ l.length := by
  induction l generalizing p with
  | nil => simp [parts] at hp; subst hp; simp
  | cons c l ih =>
    unfold parts at hp
    split at hp
    · rcases List.mem_cons.1 hp with rfl | hp
      · simp
      · have := ih p hp; simp; omega
    · split at hp
      · simp at hp; subst hp; simp
      · rename_i q qs hq
        rcases List.mem_cons.1 hp with rfl | hp
        · have := ih q (by rw [hq]; simp); simp; omega
        · have := ih p (by rw [hq]; simp [hp]); simp; omega
theorem parts_slash (l : List UInt8) (p : List UInt8) (hp : p ∈ parts l) : (47 : UInt8) ∉ p := by
  induction l generalizing p with
  | nil => simp [parts] at hp; subst hp; simp
  | cons c l ih =>
    unfold parts at hp
    split at hp
    · rcases List.mem_cons.1 hp with rfl | hp
      · simp
      · exact ih p hp
    · rename_i hc
      split at hp
      · simp at hp; subst hp; simp; exact fun e => hc e.symm
      · rename_i q qs hq
        rcases List.mem_cons.1 hp with rfl | hp
        · have := ih q (by rw [hq]; simp)
          simp only [List.mem_cons, not_or]; exact ⟨fun e => hc e.symm, this⟩
        · exact ih p (by rw [hq]; simp [hp])
/-- strings.Split at a slash -/
theorem split_parts : ∀ (n : Nat) (l : List UInt8), l.length ≤ n → Lib.splitB (strB [47]) 0 (Lib.countB (strB l) (strB [47])) (strB l) = (parts l).map strB
  | n, l, hn => by
    have e1 : Lib.indexB (strB l) (strB [47]) = Lib.indexByte l 47 := by
      show Lib.index _ _ = _
      rw [strB_data, strB_data, Lib.index_one]
    rcases Lib.indexB_cases (strB l) (strB [47]) with h | ⟨i, h, hi⟩
    · rw [Lib.splitB_miss _ _ _ _ h]
      rw [e1] at h
      have hno := Lib.indexByte_none h
      have : (47 : UInt8) ∉ l := fun hm => by
        obtain ⟨k, hk⟩ := List.mem_iff_getElem?.1 hm
        exact hno k hk
      rw [parts_plain l this]; rfl
    · rw [Lib.countB_hit _ _ i (by decide) h, Nat.add_comm, Lib.splitB_hit _ _ _ _ i h]
      rw [e1] at h
      obtain ⟨h1, h2⟩ := Lib.indexByte_some h
      rw [strB_size, strB_size] at hi
      have hi' : i < l.length := by simp at hi; omega
      have hl : l = l.take i ++ 47 :: l.drop (i + 1) := by
        have hg : l[i] = 47 := by rw [List.getElem?_eq_getElem hi'] at h1; exact Option.some.inj h1
        conv => lhs; rw [← List.take_append_drop i l, List.drop_eq_getElem_cons hi', hg]
      have hno : (47 : UInt8) ∉ l.take i := fun hm => by
        obtain ⟨k, hk⟩ := List.mem_iff_getElem?.1 hm
        rw [List.getElem?_take] at hk
        split at hk
        · rename_i hki; exact h2 k hki hk
        · cases hk
      have ex : (strB l).extract (i + (strB [47]).size) (strB l).size = strB (l.drop (i + 1)) := by
        rw [strB_extract, strB_size, strB_size]
        congr 1
        exact List.take_of_length_le (by simp)
      have ex2 : (strB l).extract 0 (i + 0) = strB (l.take i) := by rw [strB_extract]; simp
      rw [ex, ex2]
      match n, hn with
      | 0, hn => omega
      | n + 1, hn =>
        rw [split_parts n (l.drop (i + 1)) (by simp; omega)]
        conv => rhs; rw [hl, parts_hit _ _ hno]
        rfl
theorem count_parts (l : List UInt8) : Lib.countB (strB l) (strB [47]) + 1 = (parts l).length := by
  have h1 := Lib.splitB_all (strB [47]) (by decide) 0 _ (strB l) rfl
  rw [split_parts l.length l (Nat.le_refl _), List.length_map] at h1
  exact h1.symm

/-- a letter of a name -/
def letterB (c : UInt8) : Bool := (decide (97 ≤ c.toNat) && decide (c.toNat ≤ 122)) || ((decide (65 ≤ c.toNat) && decide (c.toNat ≤ 90)) || ((decide (48 ≤ c.toNat) && decide (c.toNat ≤ 57)) || decide (0 ≤ Lib.indexByte [46, 95, 45] c)))
/-- what is no part of a name -/
def badPart (p : List UInt8) : Bool := p.any (fun c => !letterB c) || (decide (p = []) || (decide (p = [46]) || decide (p = [46, 46])))
/-- what Check says of a name -/
def nameE (l : List UInt8) : Int := if 40 < l.length then 2 else if (parts l).any badPart = true then 1 else 0
theorem nameE_fine {l : List UInt8} (h : nameE l = 0) : l.length ≤ 40 ∧ ∀ p ∈ parts l, badPart p = false := by
  unfold nameE at h
  split at h
  · omega
  · split at h
    · omega
    · rename_i h1 h2
      refine ⟨by omega, fun p hp => ?_⟩
      rw [Bool.not_eq_true, List.any_eq_false] at h2
      simpa using h2 p hp
/-- one part, where it leads from what one has -/
def stepJ (mine : List (List UInt8)) (p : List UInt8) : Option (List (List UInt8)) :=
  if p = [] ∨ p = [46] then some mine else if p = [46, 46] then (if mine = [] then none else some mine.dropLast) else some (mine ++ [p])
def walkJ (ps : List (List UInt8)) : Option (List (List UInt8)) := ps.foldlM stepJ []
theorem walkJ_take (ps : List (List UInt8)) (k : Nat) (h : k < ps.length) : walkJ (ps.take (k + 1)) = (walkJ (ps.take k)).bind fun m => stepJ m ps[k] := by
  unfold walkJ
  have e : ps.take (k + 1) = ps.take k ++ [ps[k]] := by rw [List.take_add_one, List.getElem?_eq_getElem h]; rfl
  rw [e, List.foldlM_append]
  cases List.foldlM stepJ [] (ps.take k) with
  | none => rfl
  | some m => simp
theorem walkJ_none (ps : List (List UInt8)) (k : Nat) (h : walkJ (ps.take k) = none) : walkJ ps = none := by
  unfold walkJ at *
  conv => lhs; rw [← List.take_append_drop k ps, List.foldlM_append, h]
  rfl
def baseJ (folder : List UInt8) : List (List UInt8) := if folder = [] then [] else parts folder
/-- what Join says: an error, or a name -/
def joinR (folder s : List UInt8) : Int × List UInt8 :=
  if 160 < folder.length + s.length then (2, []) else if folder ≠ [] ∧ nameE folder ≠ 0 then (nameE folder, []) else
    match walkJ (parts s) with
    | none => (1, [])
    | some mine => if nameE (glue (baseJ folder ++ mine)) ≠ 0 then (nameE (glue (baseJ folder ++ mine)), []) else (0, glue (baseJ folder ++ mine))
theorem joinR_ok {folder s t : List UInt8} (h : joinR folder s = (0, t)) : nameE t = 0 ∧ folder.length + s.length ≤ 160 ∧ (folder = [] ∨ nameE folder = 0) ∧ ∃ mine, walkJ (parts s) = some mine ∧ t = glue (baseJ folder ++ mine) := by
  unfold joinR at h
  split at h
  · cases h
  · split at h
    · rename_i h1; injection h with h2 _; exact absurd h2 h1.2
    · rename_i h0 h1
      split at h
      · cases h
      · rename_i mine hw
        split at h
        · rename_i h3; injection h with h4 _; exact absurd h4 h3
        · rename_i h3
          injection h with _ h4
          refine ⟨by rw [← h4]; simpa using h3, by omega, ?_, mine, hw, h4.symm⟩
          by_cases hf : folder = []
          · exact .inl hf
          · right
            rcases Classical.em (nameE folder = 0) with h5 | h5
            · exact h5
            · exact absurd ⟨hf, h5⟩ h1
theorem good_step (m : List (List UInt8)) (p : List UInt8) (h : badPart p = false) : stepJ m p = some (m ++ [p]) := by
  simp [badPart] at h
  unfold stepJ
  rw [if_neg (by simp [h]), if_neg (by simp [h])]
theorem good_walk (ps m : List (List UInt8)) (h : ∀ p ∈ ps, badPart p = false) : ps.foldlM stepJ m = some (m ++ ps) := by
  induction ps generalizing m with
  | nil => simp
  | cons p ps ih =>
    rw [List.foldlM_cons, good_step m p (h p (by simp))]
    show List.foldlM stepJ (m ++ [p]) ps = _
    rw [ih _ (fun q hq => h q (by simp [hq]))]
    simp
/-- joined again below nothing it is the same -/
theorem join_again (t : List UInt8) (h : nameE t = 0) : joinR [] t = (0, t) := by
  obtain ⟨h1, h2⟩ := nameE_fine h
  have hw : walkJ (parts t) = some (parts t) := by unfold walkJ; rw [good_walk _ _ h2]; simp
  unfold joinR
  rw [if_neg (by simp; omega), if_neg (by simp), hw]
  simp only [baseJ, if_true, List.nil_append, glue_parts]
  rw [if_neg (by rw [h]; simp)]
theorem join_below {folder s t : List UInt8} (hf : folder ≠ []) (h : joinR folder s = (0, t)) : t = folder ∨ Lib.hasPrefix t (folder ++ [47]) = true := by
  obtain ⟨_, _, _, mine, _, rfl⟩ := joinR_ok h
  unfold baseJ
  rw [if_neg hf]
  by_cases hm : mine = []
  · left; subst hm; rw [List.append_nil, glue_parts]
  · right
    rw [glue_app _ _ (parts_ne _) hm, glue_parts]
    unfold Lib.hasPrefix
    rw [List.isPrefixOf_iff_prefix]
    exact ⟨glue mine, by simp⟩
/-- what Under says -/
def underR (s f : List UInt8) : Bool × Int := if nameE s ≠ 0 then (false, nameE s) else if nameE f ≠ 0 then (false, nameE f) else (Lib.hasPrefix s (f ++ [47]), 0)
theorem under_ok {s f : List UInt8} (hs : nameE s = 0) (hf : nameE f = 0) : underR s f = (Lib.hasPrefix s (f ++ [47]), 0) := by
  unfold underR; rw [if_neg (by rw [hs]; simp), if_neg (by rw [hf]; simp)]
theorem under_err {s f : List UInt8} (h : (underR s f).2 = 0) : nameE s = 0 ∧ nameE f = 0 := by
  unfold underR at h
  by_cases h1 : nameE s = 0
  · rw [if_neg (by rw [h1]; simp)] at h
    by_cases h2 : nameE f = 0
    · exact ⟨h1, h2⟩
    · rw [if_pos h2] at h; exact absurd h h2
  · rw [if_pos h1] at h; exact absurd h h1
theorem prefix_chain {a b c : List UInt8} (h1 : Lib.hasPrefix a (b ++ [47]) = true) (h2 : Lib.hasPrefix b (c ++ [47]) = true) : Lib.hasPrefix a (c ++ [47]) = true := by
  unfold Lib.hasPrefix at *
  rw [List.isPrefixOf_iff_prefix] at *
  exact (h2.trans (List.prefix_append b [47])).trans h1
theorem prefix_len {a b : List UInt8} (h : Lib.hasPrefix a (b ++ [47]) = true) : b.length < a.length := by
  unfold Lib.hasPrefix at h
  rw [List.isPrefixOf_iff_prefix] at h
  have := h.length_le
  simp at this; omega
end Go.Proofs.YtdoegpklephelaaGreatDoor.Name
