/- texts joined: BlockPackWalk Her0. -/
import Derived.Test.YthpdcnjaodjjmaaGreatBlockPackQ6
import Derived.Test.YthpdcnjaodjjmaaGreatBlockPackQ10
import Derived.Test.YthpdcnjaodjjmaaGreatBlockPackQ1
import Derived.SizedLaws
/- reliquarylaw.BlockPack: the walk. -/
namespace Go.Proofs.YthpdcnjaodjjmaaGreat.BlockPack
open Go Go.RowKit Go.Proofs.YthpdcnjaodjjmaaGreat Go.Proofs.YthpdcnjaodjjmaaGreat.Bits Go.Proofs.YthpdcnjaodjjmaaGreat.Inf Go.Proofs.YthpdcnjaodjjmaaGreat.Rt Go.Proofs.YthpdcnjaodjjmaaGreat.Blk
open Go.Proofs.YthpdcnjaodjjmaaGreat.Code (lsOf natV nats)
set_option linter.unusedVariables false
set_option linter.unusedSimpArgs false

theorem flat_one {α : Type} (f : α → Value) (l : List α) : l.flatMap (fun a => [f a]) = l.map f := by
  induction l with
  | nil => rfl
  | cons a l ih => rw [List.flatMap_cons, ih]; rfl
theorem lsOf_back (ks : List Int) (h : ∀ k ∈ ks, 0 ≤ k ∧ k ≤ 2) : (lsOf ks).map Int.ofNat = ks := by
  unfold lsOf
  rw [List.map_map]
  conv => rhs; rw [← List.map_id ks]
  apply List.map_congr_left
  intro k hk
  have := h k hk
  show Int.ofNat k.toNat = k
  have e : Int.ofNat k.toNat = (k.toNat : Int) := rfl
  rw [e]; omega
/-- what Pack said, in a world behind it -/
def PSay (parts : List (List UInt8)) (ks : List Int) (A : Option Addr) (n : Nat) (z : Int) (w : World) : Prop :=
  (packErr parts ks ≠ 0 ∧ z = packErr parts ks ∧ n = 0) ∨ (packErr parts ks = 0 ∧ z = 0 ∧ n = (packB parts (lsOf ks)).length ∧ ByAt w A (packB parts (lsOf ks)))
theorem psay_of {parts : List (List UInt8)} {ks : List Int} {w w' : World} {e : Ending} (h : PackPost parts ks w e w') : ∃ A n c z, e = .returned (.tuple #[.slice A n c, .int .i64 z]) ∧ n ≤ c ∧ c ≤ maxLen ∧ PSay parts ks A n z w' ∧ Below w.heap.size w w' := by
  obtain ⟨h | h, hb⟩ := h
  · exact ⟨none, 0, 0, _, h.2, Nat.le_refl _, by unfold maxLen; omega, .inl ⟨h.1, rfl, rfl⟩, hb⟩
  · obtain ⟨h1, v, rfl, ho⟩ := h
    obtain ⟨A, c, rfl, h2, h3, h4, _⟩ := own_slat ho
    exact ⟨A, _, c, 0, rfl, h2, h3, .inr ⟨h1, rfl, rfl, h4⟩, hb⟩
theorem PSay.below {parts : List (List UInt8)} {ks : List Int} {A : Option Addr} {n : Nat} {z : Int} {w w' : World} (h : PSay parts ks A n z w) (hb : Below w.heap.size w w') : PSay parts ks A n z w' := by
  rcases h with h | h
  · exact .inl h
  · exact .inr ⟨h.1, h.2.1, h.2.2.1, ByAt.below h.2.2.2 hb⟩
theorem PSay.bad {parts : List (List UInt8)} {ks : List Int} {A : Option Addr} {n : Nat} {z y : Int} {w : World} (h : PSay parts ks A n z w) (he : packErr parts ks = y) (hy : y ≠ 0) : z = y ∧ n = 0 := by
  rcases h with h | h
  · exact ⟨h.2.1.trans he, h.2.2⟩
  · exact absurd (he.symm.trans h.1) hy
theorem PSay.ok {parts : List (List UInt8)} {ks : List Int} {A : Option Addr} {n : Nat} {z : Int} {w : World} (h : PSay parts ks A n z w) (he : packErr parts ks = 0) : z = 0 ∧ n = (packB parts (lsOf ks)).length ∧ ByAt w A (packB parts (lsOf ks)) := by
  rcases h with h | h
  · exact absurd he h.1
  · exact h.2
/-- all goes well ahead of part k -/
structure Fine (parts : List (List UInt8)) (ks : List Int) (n k s mo : Nat) : Prop where
  s3 : s ≤ 3000
  k40 : k ≤ 40
  pe : packE parts ks n 0 0 = packE parts ks (n - k) k s
  len : (parts.take k).flatten.length = s
  isMo : mo = mostL parts (lsOf ks) k
  few : mo ≤ 3210 * k + 9 * s
theorem lsOf_getD (ks : List Int) (k : Nat) (z : Int) (h : ks[k]? = some z) : (lsOf ks).getD k 0 = z.toNat := by
  unfold lsOf
  rw [List.getD_eq_getElem?_getD, List.getElem?_map, h]; rfl
theorem by_none {w : World} {A : Option Addr} {xs : List UInt8} (h : ByAt w A xs) : A = none → xs.length = 0 := by
  intro e
  rcases Nat.eq_zero_or_pos xs.length with h0 | h0
  · exact h0
  · obtain ⟨b, o, hA, _⟩ := h (by rw [List.length_map]; exact h0)
    rw [e] at hA; cases hA
theorem in_get {w : World} {A : Option Addr} {ks : List Int} {k : Nat} {z : Int} (h : InAt w A ks) (hk : ks[k]? = some z) : ∃ b o, A = some ⟨b, o, none⟩ ∧ ∀ w', Below w.heap.size w w' → w'.cell? ⟨b, o + k, none⟩ = some (.int .i64 z) := by
  have hl : k < ks.length := by
    rcases Nat.lt_or_ge k ks.length with h1 | h1
    · exact h1
    · rw [List.getElem?_eq_none h1] at hk; cases hk
  obtain ⟨b, o, rfl, hc⟩ := h (by rw [List.length_map]; omega)
  refine ⟨b, o, rfl, fun w' hb => ?_⟩
  obtain ⟨b', o', e, hc'⟩ := InAt.below h hb (by rw [List.length_map]; omega)
  injection e with e
  injection e with e1 e2 e3
  subst e1 e2
  exact hc' k _ (by rw [List.getElem?_map, hk]; rfl)
theorem Fine.big {parts : List (List UInt8)} {ks : List Int} {n k s mo lx : Nat} {xs : List UInt8} (h : Fine parts ks n k s mo) (hk : k < n) (hx : parts.getD k [] = xs) (hl : xs.length = lx) (hb : 3000 < s + lx ∨ 40 ≤ k) : packE parts ks n 0 0 = 2 := by
  rw [h.pe]
  obtain ⟨f, hf⟩ : ∃ f, n - k = f + 1 := ⟨n - k - 1, by omega⟩
  rw [hf]
  unfold packE
  rw [hx, hl, if_pos hb]
theorem Fine.kind {parts : List (List UInt8)} {ks : List Int} {n k s mo lx : Nat} {xs : List UInt8} {z : Int} (h : Fine parts ks n k s mo) (hk : k < n) (hx : parts.getD k [] = xs) (hl : xs.length = lx) (hz : ks[k]? = some z) (hb : ¬ (3000 < s + lx ∨ 40 ≤ k)) (hk2 : z < 0 ∨ 2 < z) : packE parts ks n 0 0 = 3 := by
  rw [h.pe]
  obtain ⟨f, hf⟩ : ∃ f, n - k = f + 1 := ⟨n - k - 1, by omega⟩
  rw [hf]
  have hg : ks.getD k 0 = z := by rw [List.getD_eq_getElem?_getD, hz]; rfl
  unfold packE
  rw [hx, hl, if_neg hb, hg, if_pos hk2]
theorem Fine.next {parts : List (List UInt8)} {ks : List Int} {n k s mo mo' lx : Nat} {xs : List UInt8} {z : Int} (h : Fine parts ks n k s mo) (hk : k < n) (hp : parts.length = n) (hx : parts.getD k [] = xs) (hl : xs.length = lx) (hz : ks[k]? = some z) (hb : ¬ (3000 < s + lx ∨ 40 ≤ k)) (hk2 : ¬ (z < 0 ∨ 2 < z)) (hm : mo' = mo + mostK z.toNat lx) : Fine parts ks n (k + 1) (s + lx) mo' := by
  have hg : ks.getD k 0 = z := by rw [List.getD_eq_getElem?_getD, hz]; rfl
  have hK : mostK z.toNat lx ≤ 3210 + 9 * lx := by unfold mostK; (repeat' split) <;> omega
  have hf := h.few
  refine ⟨by omega, by omega, ?_, ?_, ?_, by omega⟩
  · rw [h.pe]
    obtain ⟨f, hf⟩ : ∃ f, n - k = f + 1 := ⟨n - k - 1, by omega⟩
    rw [hf, show n - (k + 1) = f by omega]
    conv => lhs; unfold packE
    rw [hx, hl, if_neg hb, hg, if_neg hk2]
  · rw [flat_take parts k (by omega), List.length_append, h.len, hx, hl]
  · rw [hm, h.isMo]
    show _ = mostL parts (lsOf ks) k + mostK ((lsOf ks).getD k 0) (parts.getD k []).length
    rw [lsOf_getD ks k z hz, hx, hl]
theorem u8_one (xs : List UInt8) : ∀ u ∈ xs.map u8v, u.oneCell' = true := by
  intro u hu
  obtain ⟨x, _, rfl⟩ := List.mem_map.1 hu
  rfl
set_option maxRecDepth 100000 in
set_option maxHeartbeats 8000000 in
theorem walk (W : World) (v0 : Value) (l : List (Value × List UInt8)) (h0 : IsL W (fun p : Value × List UInt8 => [p.1]) (fun p => IsBytes W p.1 p.2 ∧ p.2.length ≤ 140737488351232) v0 l) (b0 : l.length ≤ 140737488351232)
    (v1 : Value) (ks : List Int) (h1 : IsL W intC wfI v1 ks) :
    Calls Tryz.prog 3 #[v0, v1] W fun e W' => e = .returned (.bool true) ∧ Below W.heap.size W W' := by
  obtain ⟨PA, pc, rfl, hpl, hpm, hps, _, hpd⟩ := h0
  obtain ⟨KA, kc, rfl, hkl, hkm, hks, _, _⟩ := h1
  rw [flat_one (fun p : Value × List UInt8 => p.1)] at hps
  have hks' : InAt W KA ks := by
    have : ks.flatMap intC = ks.map iv := flat_one iv ks
    rw [this] at hks; exact hks
  have HPs := Lib.hid hps
  have HPd := Lib.hid hpd
  have HKs := Lib.hid hks'
  obtain ⟨n, hn⟩ : ∃ n, n = l.length := ⟨_, rfl⟩
  obtain ⟨m, hm⟩ : ∃ m, m = ks.length := ⟨_, rfl⟩
  rw [← hn] at hpl ⊢
  rw [← hm] at hkl ⊢
  have HP := Lib.hid (bpack_any PA KA n pc m kc l ks W hn.symm hm.symm (by omega) (by omega) hps (fun q hq => (hpd q hq).1) (fun q hq => (hpd q hq).2) hks')
  have Hn := Lib.hid hn.symm
  have Hm := Lib.hid hm.symm
  have Hm2 := Lib.hid (show m ≤ maxLen by omega)
  have hnb : n ≤ 140737488351232 := by omega
  obtain ⟨parts, hparts⟩ : ∃ p, p = l.map (·.2) := ⟨_, rfl⟩
  rw [← hparts] at HP
  have Hparts := Lib.hid hparts
  have Hpl : Hid (parts.length = n) := Lib.hid (by rw [hparts, List.length_map, hn])
  unfold maxLen at hpm hkm
  clear hps hpd hks hks' hn hm hparts
  go_enter Tryz.func3, Tryz.ntmps3
  go_wp2_with fail
  refine (HP.out).mono ?_
  rintro e w1 h
  obtain ⟨X, np, cx, z, rfl, hx1, hx2, hz, hb1⟩ := psay_of h
  have Hb1 := Lib.hid hb1
  have HZ1 := Lib.hid hz
  have HX2 := Lib.hid hx2
  unfold maxLen at hx2
  clear h hz hb1 HP
  by_cases hn0 : n = 0
  · subst hn0
    obtain ⟨rfl, rfl⟩ := HZ1.out.bad (y := 4) (by unfold packErr; rw [if_pos (.inl Hpl.out)]) (by decide)
    clear HZ1
    go_wp2_with fail
    go_loopw [7, 34] (fun vb vi wr => vb = .int .i64 4 ∧ vi = .int .i64 0 ∧ wr = w1) (fun _ _ _ => 0)
    case atStart => exact ⟨rfl, rfl, rfl⟩
    case round =>
      obtain ⟨rfl, rfl, rfl⟩ := hrel
      go_wp2_with fail
      refine (packed_any _).mono ?_
      rintro e w2 ⟨rfl, hb2⟩
      have Hb2 := Lib.hid (Hb1.out.trans (hb2.mono Hb1.out.size))
      clear hb2 Hb1
      go_wp2_with fail
      refine (packed_any _).mono ?_
      rintro e w3 ⟨rfl, hb3⟩
      have Hb3 := Lib.hid (Hb2.out.trans (hb3.mono Hb2.out.size))
      clear hb3 Hb2
      go_wp2_with fail
      go_ret
      exact ⟨rfl, Hb3.out⟩
  · have hnz : ((n : Int) == 0) = false := by rw [beq_eq_false_iff_ne]; omega
    by_cases hnm : n = m
    · subst hnm
      have hee : ((n : Int) != (n : Int)) = false := by simp
      have hpe : packErr parts ks = packE parts ks n 0 0 := by
        unfold packErr; rw [if_neg (by rw [Hpl.out, Hm.out]; omega), Hpl.out]
      have HPE := Lib.hid hpe
      clear hpe
      go_wp2_with fail
      go_loopw [7, 8, 9, 34] (fun vb va vm vi wr => ∃ k, k ≤ n ∧ vi = .int .i64 (k : Int) ∧ Below w1.heap.size w1 wr ∧ ((vb = .int .i64 3 ∧ packErr parts ks = 3) ∨ (vb = .int .i64 0 ∧ ∃ s mo, Fine parts ks n k s mo ∧ vm = .int .i64 (mo : Int) ∧ wr.ownsRow w1.heap.size 5 1 va s ((parts.take k).flatten.map u8v)))) (fun _ _ _ vi _ => n - (intOf vi).toNat)
      case atStart => exact ⟨0, Nat.zero_le _, rfl, Below.refl _ _, .inr ⟨rfl, 0, 0, ⟨by omega, by omega, by simp, by simp, rfl, by omega⟩, rfl, World.ownsRow_nil _ _ _ _⟩⟩
      case round =>
        obtain ⟨k, hkn, rfl, hbr, hcase⟩ := hrel
        have Hbr := Lib.hid hbr
        clear hbr
        rcases hcase with ⟨rfl, he3⟩ | ⟨rfl, s, mo, hfine, rfl, hown⟩
        · obtain ⟨rfl, rfl⟩ := HZ1.out.bad he3 (by decide)
          have HbW := Lib.hid (Hb1.out.trans (Hbr.out.mono Hb1.out.size))
          clear HZ1 he3 HPE
          by_cases hlt : k < n
          · have hlt' : (k : Int) < (n : Int) := by omega
            obtain ⟨bP, oP, rfl, hcP⟩ := (SlAt.below HPs.out HbW.out).get (k := k) (by rw [List.length_map, Hn.out]; exact hlt)
            generalize (l.map fun p => p.1)[k]'(by rw [List.length_map, Hn.out]; exact hlt) = pv at *
            go_wp2_with fail
            refine (packed_any _).mono ?_
            rintro e w2 ⟨rfl, hb2⟩
            have Hb2 := Lib.hid (HbW.out.trans (hb2.mono HbW.out.size))
            clear hb2
            go_wp2_with fail
            refine (packed_any _).mono ?_
            rintro e w3 ⟨rfl, hb3⟩
            have Hb3 := Lib.hid (Hb2.out.trans (hb3.mono Hb2.out.size))
            clear hb3 Hb2
            go_wp2_with fail
            go_ret
            exact ⟨rfl, Hb3.out⟩
          · have hlt' : ¬ (k : Int) < (n : Int) := by omega
            go_wp2_with fail
            refine (packed_any _).mono ?_
            rintro e w2 ⟨rfl, hb2⟩
            have Hb2 := Lib.hid (HbW.out.trans (hb2.mono HbW.out.size))
            clear hb2
            go_wp2_with fail
            refine (packed_any _).mono ?_
            rintro e w3 ⟨rfl, hb3⟩
            have Hb3 := Lib.hid (Hb2.out.trans (hb3.mono Hb2.out.size))
            clear hb3 Hb2
            go_wp2_with fail
            go_ret
            exact ⟨rfl, Hb3.out⟩
        · have HbW := Lib.hid (Hb1.out.trans (Hbr.out.mono Hb1.out.size))
          have HO := Lib.hid hown
          have HFi := Lib.hid hfine
          have hs3 := hfine.s3
          have hk40 := hfine.k40
          have hmo := hfine.few
          clear hown hfine
          by_cases hlt : k < n
          · have hlt' : (k : Int) < (n : Int) := by omega
            have hkl : k < l.length := by rw [Hn.out]; exact hlt
            obtain ⟨bP, oP, rfl, hcP⟩ := (SlAt.below HPs.out HbW.out).get (k := k) (by rw [List.length_map]; exact hkl)
            rw [List.getElem_map] at hcP
            obtain ⟨⟨Ap, cp, hv, hlc, hcm, hby⟩, hlq⟩ := HPd.out _ (List.getElem_mem hkl)
            rw [hv] at hcP
            have hpg : parts.getD k [] = (l[k]'hkl).2 := by rw [Hparts.out, List.getD_eq_getElem?_getD, List.getElem?_map, List.getElem?_eq_getElem hkl]; rfl
            generalize hxs : (l[k]'hkl).2 = xs at *
            have HBy := Lib.hid (ByAt.below hby HbW.out)
            have hAn0 := by_none hby
            obtain ⟨lx, hlx⟩ : ∃ lx, lx = xs.length := ⟨_, rfl⟩
            rw [← hlx] at hcP hlc hlq hAn0
            have hAn := Lib.hid hAn0
            have Hlx := Lib.hid hlx.symm
            have hkm' : k < ks.length := by rw [Hm.out]; exact hlt
            obtain ⟨kz, hkz⟩ : ∃ kz, ks[k]? = some kz := ⟨_, List.getElem?_eq_getElem hkm'⟩
            have Hkz := Lib.hid hkz
            obtain ⟨bK, oK, rfl, hKK⟩ := in_get HKs.out hkz
            obtain ⟨t, ht⟩ : ∃ t, t = s + lx := ⟨_, rfl⟩
            have Ht := Lib.hid ht
            have Hap : Hid ((parts.take (k + 1)).flatten.map u8v = (parts.take k).flatten.map u8v ++ xs.map u8v) := Lib.hid (by rw [flat_take parts k (by rw [Hpl.out]; exact hlt), hpg, List.map_append])
            have HKK := Lib.hid hKK
            clear hv hxs hby hlx hkz hAn0 hkm' hKK
            have hk0 : (0 : Int) ≤ (k : Int) := by omega
            by_cases hbig : 3000 < t ∨ 40 ≤ k
            · obtain ⟨rfl, rfl⟩ := HZ1.out.bad (HPE.out.trans (HFi.out.big hlt hpg Hlx.out (by rw [← Ht.out]; exact hbig))) (by decide)
              clear HZ1 HPE HFi HKK hmo
              by_cases h3 : 3000 < t
              · have h3' : (3000 : Int) < (t : Int) := by omega
                clear hbig ht
                go_wp2_with (at_builtin; refine wpList_appb rfl (.tmp 41) (.tmp 42) _ rfl 5 _ 1 1 ty8 _ s _ rfl HO.out Hbr.out Ap lx cp (xs.map u8v) rfl (by rw [List.length_map, Hlx.out, Nat.mul_one]) HBy.out (u8_one xs) hAn.out (by unfold maxLen; omega) (by omega) ?_; intro v8 w8 hown8 hb8 _ _; rw [← Hap.out] at hown8; rw [← Ht.out] at hown8; obtain ⟨A8, c8, rfl, _⟩ := own_slat hown8; have HO8 := Lib.hid hown8; have Hb8 := Lib.hid hb8; have HbW8 := Lib.hid (Hb1.out.trans (hb8.mono Hb1.out.size)); clear hown8 hb8)
                refine (packed_any _).mono ?_
                rintro e w2 ⟨rfl, hb2⟩
                have Hb2 := Lib.hid (HbW8.out.trans (hb2.mono HbW8.out.size))
                clear hb2
                go_wp2_with fail
                refine (packed_any _).mono ?_
                rintro e w3 ⟨rfl, hb3⟩
                have Hb3 := Lib.hid (Hb2.out.trans (hb3.mono Hb2.out.size))
                clear hb3 Hb2
                go_wp2_with fail
                go_ret
                exact ⟨rfl, Hb3.out⟩
              · have h3' : ¬ (3000 : Int) < (t : Int) := by omega
                have h4' : (40 : Int) ≤ (k : Int) := by omega
                clear hbig ht
                go_wp2_with (at_builtin; refine wpList_appb rfl (.tmp 41) (.tmp 42) _ rfl 5 _ 1 1 ty8 _ s _ rfl HO.out Hbr.out Ap lx cp (xs.map u8v) rfl (by rw [List.length_map, Hlx.out, Nat.mul_one]) HBy.out (u8_one xs) hAn.out (by unfold maxLen; omega) (by omega) ?_; intro v8 w8 hown8 hb8 _ _; rw [← Hap.out] at hown8; rw [← Ht.out] at hown8; obtain ⟨A8, c8, rfl, _⟩ := own_slat hown8; have HO8 := Lib.hid hown8; have Hb8 := Lib.hid hb8; have HbW8 := Lib.hid (Hb1.out.trans (hb8.mono Hb1.out.size)); clear hown8 hb8)
                refine (packed_any _).mono ?_
                rintro e w2 ⟨rfl, hb2⟩
                have Hb2 := Lib.hid (HbW8.out.trans (hb2.mono HbW8.out.size))
                clear hb2
                go_wp2_with fail
                refine (packed_any _).mono ?_
                rintro e w3 ⟨rfl, hb3⟩
                have Hb3 := Lib.hid (Hb2.out.trans (hb3.mono Hb2.out.size))
                clear hb3 Hb2
                go_wp2_with fail
                go_ret
                exact ⟨rfl, Hb3.out⟩
            · have h3' : ¬ (3000 : Int) < (t : Int) := by omega
              have h4' : ¬ (40 : Int) ≤ (k : Int) := by omega
              by_cases h0 : kz = 0
              · subst h0
                obtain ⟨e1, he1⟩ : ∃ e1, e1 = 8 * lx := ⟨_, rfl⟩
                obtain ⟨e2, he2⟩ : ∃ e2, e2 = 47 + e1 := ⟨_, rfl⟩
                obtain ⟨mo2, hmo2⟩ : ∃ mo2, mo2 = mo + e2 := ⟨_, rfl⟩
                have hfin := Lib.hid (HFi.out.next (mo' := mo2) hlt Hpl.out hpg Hlx.out Hkz.out (by omega) (by omega) (by show mo2 = mo + mostK (0 : Int).toNat lx; unfold mostK; simp; omega))
                rw [← Ht.out] at hfin
                have hw1 : IntKind.i64.wrap (8 * (lx : Int)) = (e1 : Int) := by rw [show 8 * (lx : Int) = (e1 : Int) by omega]; exact IntWalk.i64_in _ (by omega)
                have hw2 : IntKind.i64.wrap (47 + (e1 : Int)) = (e2 : Int) := by rw [show 47 + (e1 : Int) = (e2 : Int) by omega]; exact IntWalk.i64_in _ (by omega)
                have hw3 : IntKind.i64.wrap ((mo : Int) + (e2 : Int)) = (mo2 : Int) := by rw [show (mo : Int) + (e2 : Int) = (mo2 : Int) by omega]; exact IntWalk.i64_in _ (by omega)
                clear he1 he2 hmo2 ht hbig
                go_wp2_with (at_builtin; refine wpList_appb rfl (.tmp 41) (.tmp 42) _ rfl 5 _ 1 1 ty8 _ s _ rfl HO.out Hbr.out Ap lx cp (xs.map u8v) rfl (by rw [List.length_map, Hlx.out, Nat.mul_one]) HBy.out (u8_one xs) hAn.out (by unfold maxLen; omega) (by omega) ?_; intro v8 w8 hown8 hb8 _ _; rw [← Hap.out] at hown8; rw [← Ht.out] at hown8; obtain ⟨A8, c8, rfl, _⟩ := own_slat hown8; have HO8 := Lib.hid hown8; have Hb8 := Lib.hid hb8; have HbW8 := Lib.hid (Hb1.out.trans (hb8.mono Hb1.out.size)); have hcK := HKK.out _ HbW8.out; clear hown8 hb8)
                go_roundw
                case rel => exact ⟨k + 1, by omega, by go_num, Hb8.out, .inr ⟨rfl, t, mo2, hfin.out, rfl, HO8.out⟩⟩
                case measure => simp [intOf]; omega
              · have h0b : (kz == 0) = false := by rw [beq_eq_false_iff_ne]; exact h0
                by_cases h1 : kz = 1
                · subst h1
                  obtain ⟨e1, he1⟩ : ∃ e1, e1 = 9 * lx := ⟨_, rfl⟩
                  obtain ⟨e2, he2⟩ : ∃ e2, e2 = 10 + e1 := ⟨_, rfl⟩
                  obtain ⟨mo2, hmo2⟩ : ∃ mo2, mo2 = mo + e2 := ⟨_, rfl⟩
                  have hfin := Lib.hid (HFi.out.next (mo' := mo2) hlt Hpl.out hpg Hlx.out Hkz.out (by omega) (by omega) (by show mo2 = mo + mostK (1 : Int).toNat lx; unfold mostK; simp; omega))
                  rw [← Ht.out] at hfin
                  have hw1 : IntKind.i64.wrap (9 * (lx : Int)) = (e1 : Int) := by rw [show 9 * (lx : Int) = (e1 : Int) by omega]; exact IntWalk.i64_in _ (by omega)
                  have hw2 : IntKind.i64.wrap (10 + (e1 : Int)) = (e2 : Int) := by rw [show 10 + (e1 : Int) = (e2 : Int) by omega]; exact IntWalk.i64_in _ (by omega)
                  have hw3 : IntKind.i64.wrap ((mo : Int) + (e2 : Int)) = (mo2 : Int) := by rw [show (mo : Int) + (e2 : Int) = (mo2 : Int) by omega]; exact IntWalk.i64_in _ (by omega)
                  clear he1 he2 hmo2 ht hbig
                  go_wp2_with (at_builtin; refine wpList_appb rfl (.tmp 41) (.tmp 42) _ rfl 5 _ 1 1 ty8 _ s _ rfl HO.out Hbr.out Ap lx cp (xs.map u8v) rfl (by rw [List.length_map, Hlx.out, Nat.mul_one]) HBy.out (u8_one xs) hAn.out (by unfold maxLen; omega) (by omega) ?_; intro v8 w8 hown8 hb8 _ _; rw [← Hap.out] at hown8; rw [← Ht.out] at hown8; obtain ⟨A8, c8, rfl, _⟩ := own_slat hown8; have HO8 := Lib.hid hown8; have Hb8 := Lib.hid hb8; have HbW8 := Lib.hid (Hb1.out.trans (hb8.mono Hb1.out.size)); have hcK := HKK.out _ HbW8.out; clear hown8 hb8)
                  go_roundw
                  case rel => exact ⟨k + 1, by omega, by go_num, Hb8.out, .inr ⟨rfl, t, mo2, hfin.out, rfl, HO8.out⟩⟩
                  case measure => simp [intOf]; omega
                · have h1b : (kz == 1) = false := by rw [beq_eq_false_iff_ne]; exact h1
                  by_cases h2 : kz = 2
                  · subst h2
                    obtain ⟨e1, he1⟩ : ∃ e1, e1 = 9 * lx := ⟨_, rfl⟩
                    obtain ⟨e2, he2⟩ : ∃ e2, e2 = 3210 + e1 := ⟨_, rfl⟩
                    obtain ⟨mo2, hmo2⟩ : ∃ mo2, mo2 = mo + e2 := ⟨_, rfl⟩
                    have hfin := Lib.hid (HFi.out.next (mo' := mo2) hlt Hpl.out hpg Hlx.out Hkz.out (by omega) (by omega) (by show mo2 = mo + mostK (2 : Int).toNat lx; unfold mostK; simp; omega))
                    rw [← Ht.out] at hfin
                    have hw1 : IntKind.i64.wrap (9 * (lx : Int)) = (e1 : Int) := by rw [show 9 * (lx : Int) = (e1 : Int) by omega]; exact IntWalk.i64_in _ (by omega)
                    have hw2 : IntKind.i64.wrap (3210 + (e1 : Int)) = (e2 : Int) := by rw [show 3210 + (e1 : Int) = (e2 : Int) by omega]; exact IntWalk.i64_in _ (by omega)
                    have hw3 : IntKind.i64.wrap ((mo : Int) + (e2 : Int)) = (mo2 : Int) := by rw [show (mo : Int) + (e2 : Int) = (mo2 : Int) by omega]; exact IntWalk.i64_in _ (by omega)
                    clear he1 he2 hmo2 ht hbig
                    go_wp2_with (at_builtin; refine wpList_appb rfl (.tmp 41) (.tmp 42) _ rfl 5 _ 1 1 ty8 _ s _ rfl HO.out Hbr.out Ap lx cp (xs.map u8v) rfl (by rw [List.length_map, Hlx.out, Nat.mul_one]) HBy.out (u8_one xs) hAn.out (by unfold maxLen; omega) (by omega) ?_; intro v8 w8 hown8 hb8 _ _; rw [← Hap.out] at hown8; rw [← Ht.out] at hown8; obtain ⟨A8, c8, rfl, _⟩ := own_slat hown8; have HO8 := Lib.hid hown8; have Hb8 := Lib.hid hb8; have HbW8 := Lib.hid (Hb1.out.trans (hb8.mono Hb1.out.size)); have hcK := HKK.out _ HbW8.out; clear hown8 hb8)
                    go_roundw
                    case rel => exact ⟨k + 1, by omega, by go_num, Hb8.out, .inr ⟨rfl, t, mo2, hfin.out, rfl, HO8.out⟩⟩
                    case measure => simp [intOf]; omega
                  · have h2b : (kz == 2) = false := by rw [beq_eq_false_iff_ne]; exact h2
                    have he3 := Lib.hid (HPE.out.trans (HFi.out.kind hlt hpg Hlx.out Hkz.out (by rw [← Ht.out]; exact hbig) (by omega)))
                    clear h0 h1 h2 hbig ht
                    go_wp2_with (at_builtin; refine wpList_appb rfl (.tmp 41) (.tmp 42) _ rfl 5 _ 1 1 ty8 _ s _ rfl HO.out Hbr.out Ap lx cp (xs.map u8v) rfl (by rw [List.length_map, Hlx.out, Nat.mul_one]) HBy.out (u8_one xs) hAn.out (by unfold maxLen; omega) (by omega) ?_; intro v8 w8 hown8 hb8 _ _; rw [← Hap.out] at hown8; rw [← Ht.out] at hown8; obtain ⟨A8, c8, rfl, _⟩ := own_slat hown8; have HO8 := Lib.hid hown8; have Hb8 := Lib.hid hb8; have HbW8 := Lib.hid (Hb1.out.trans (hb8.mono Hb1.out.size)); have hcK := HKK.out _ HbW8.out; clear hown8 hb8)
                    go_roundw
                    case rel => exact ⟨k + 1, by omega, by go_num, Hb8.out, .inl ⟨rfl, he3.out⟩⟩
                    case measure => simp [intOf]; omega
          · have hlt' : ¬ (k : Int) < (n : Int) := by omega
            obtain rfl : k = n := by omega
            have hpe0 : packErr parts ks = 0 := HPE.out.trans (HFi.out.pe.trans (by rw [Nat.sub_self]; rfl))
            obtain ⟨rfl, hnp, hX⟩ := HZ1.out.ok hpe0
            have hpE : packE parts ks parts.length 0 0 = 0 := by rw [Hpl.out, ← HPE.out]; exact hpe0
            obtain ⟨q1, q2, q3⟩ := packE_all parts ks hpE (by rw [Hpl.out, Hm.out])
            obtain ⟨pos, hpos, hbl⟩ := blocks_pack parts (lsOf ks) (by intro h; have := Hpl.out; rw [h] at this; exact hn0 this.symm) (by unfold lsOf; rw [List.length_map, Hm.out, Hpl.out]) (fun y hy => by
              unfold lsOf at hy
              obtain ⟨x, hx, rfl⟩ := List.mem_map.1 hy
              have := q1 x hx; omega) q3
            have hbits := packB_bits parts (lsOf ks)
            rw [Hpl.out, ← hnp, ← HFi.out.isMo] at hbits
            rw [← hnp] at hpos
            have hk40b : k ≤ 40 := hk40
            have hHX := Lib.hid (ByAt.below hX Hbr.out)
            have Hnp := Lib.hid hnp.symm
            have HKb := Lib.hid (lsOf_back ks q1)
            have hlen := HFi.out.len
            have htk : (parts.take k).flatten = parts.flatten := by rw [← Hpl.out, List.take_length]
            rw [htk] at hlen HO
            obtain ⟨P, hP⟩ : ∃ P, P = packB parts (lsOf ks) := ⟨_, rfl⟩
            rw [← hP] at hHX Hnp hbl
            obtain ⟨F, hF⟩ : ∃ F, F = parts.flatten := ⟨_, rfl⟩
            rw [← hF] at hlen HO hbl
            have Hbl : Hid (Unp.blocksOf P = .ok (pos, F, lsOf ks)) := Lib.hid hbl
            have Hlen := Lib.hid hlen
            have Hpos := Lib.hid hpos
            have HF3 : Hid (F.length ≤ 3000) := Lib.hid (by rw [hF]; exact q3)
            obtain ⟨AF, cF, rfl, _, _, sF, _⟩ := own_slat HO.out
            have HSF := Lib.hid sF
            have hn40 : np ≤ 100000 := by omega
            have hwm : IntKind.i64.wrap ((mo : Int) + 7) = (mo : Int) + 7 := IntWalk.i64_in _ (by omega)
            have hle : (np : Int) ≤ ((mo : Int) + 7) / 8 := by omega
            clear hpe0 hnp hX hpE q1 q2 q3 hpos hbl hbits htk hP hF hlen sF HZ1 HPE HFi HO
            go_wp2_with fail
            refine (packed_any _).mono ?_
            rintro e w2 ⟨rfl, hb2⟩
            have Hb2 := Lib.hid (HbW.out.trans (hb2.mono HbW.out.size))
            have HX2b := Lib.hid (ByAt.below hHX.out hb2)
            have HSF2 := Lib.hid (ByAt.below HSF.out hb2)
            clear hb2 hHX HSF
            go_wp2_with fail
            refine (Unp.unpacked_any X np cx P w2 Hnp.out hn40 HX2b.out).mono ?_
            rintro e w3 ⟨hu3, hb3⟩
            unfold Unp.UsPost at hu3
            rw [Hbl.out] at hu3
            dsimp only at hu3
            obtain ⟨_, vx, vl, rfl, hx, hl⟩ := hu3
            obtain ⟨Ax, cx3, rfl, _, _, sx, _⟩ := own_slat hx
            obtain ⟨Al, cl, rfl, _, _, sl, _⟩ := own_slat hl
            have hkl2 : (lsOf ks).length = k := by unfold lsOf; rw [List.length_map, Hm.out]
            rw [Hpos.out, hkl2, Hlen.out]
            have HK3 : Hid (InAt w3 Al ks) := Lib.hid (by
              have : (lsOf ks).map natV = ks.map iv := by
                conv => rhs; rw [← HKb.out]
                rw [List.map_map]; rfl
              unfold InAt; rw [← this]; exact sl)
            have SX := Lib.hid sx
            have Hb3 := Lib.hid (Hb2.out.trans (hb3.mono Hb2.out.size))
            have SF3 := Lib.hid (ByAt.below HSF2.out hb3)
            clear hx hl sx sl hb3 HSF2 HX2b hkl2
            go_wp2_with fail
            refine (equal_bytes Ax AF s s _ _ F F w3 Hlen.out Hlen.out SX.out SF3.out).mono ?_
            rintro e w5 ⟨rfl, rfl⟩
            rw [show decide (F = F) = true from by simp]
            go_wp2_with fail
            refine (equal_ints Al KA k k _ _ ks ks _ Hm.out Hm.out Hm2.out Hm2.out HK3.out (InAt.below HKs.out Hb3.out)).mono ?_
            rintro e w6 ⟨rfl, d, rfl⟩
            rw [show decide (ks = ks) = true from by simp]
            go_wp2_with fail
            go_ret
            exact ⟨rfl, below_drewN' Hb3.out _⟩
    · have hne : ((n : Int) != (m : Int)) = true := by simp; omega
      obtain ⟨rfl, rfl⟩ := HZ1.out.bad (y := 4) (by unfold packErr; rw [if_pos (.inr (by rw [Hpl.out, Hm.out]; exact hnm))]) (by decide)
      clear HZ1
      go_wp2_with fail
      go_loopw [7, 34] (fun vb vi wr => vb = .int .i64 4 ∧ vi = .int .i64 0 ∧ wr = w1) (fun _ _ _ => 0)
      case atStart => exact ⟨rfl, rfl, rfl⟩
      case round =>
        obtain ⟨rfl, rfl, rfl⟩ := hrel
        have HbW := Hb1
        have hn1 : (0 : Int) < (n : Int) := by omega
        obtain ⟨bP, oP, rfl, hcP⟩ := (SlAt.below HPs.out Hb1.out).get (k := 0) (by rw [List.length_map, Hn.out]; omega)
        rw [Nat.add_zero] at hcP
        generalize (l.map fun p => p.1)[0]'(by rw [List.length_map, Hn.out]; omega) = pv at *
        go_wp2_with fail
        refine (packed_any _).mono ?_
        rintro e w2 ⟨rfl, hb2⟩
        have Hb2 := Lib.hid (HbW.out.trans (hb2.mono HbW.out.size))
        clear hb2
        go_wp2_with fail
        refine (packed_any _).mono ?_
        rintro e w3 ⟨rfl, hb3⟩
        have Hb3 := Lib.hid (Hb2.out.trans (hb3.mono Hb2.out.size))
        clear hb3 Hb2
        go_wp2_with fail
        go_ret
        exact ⟨rfl, Hb3.out⟩
end Go.Proofs.YthpdcnjaodjjmaaGreat.BlockPack

/- reading, with what the form's reach gives of whatever lies deeper. No program in sight. -/
namespace Go.Proofs.YthpdcnjaodjjmaaGreat.Hr
open Go Go.RowKit Go.ChangeShapes Go.WideShapes Go.ChangeAt Go.Proofs.YthpdcnjaodjjmaaGreat
set_option linter.unusedVariables false

/-- what is inherited: M holds of what lies in what M holds of; K: so many of so many bytes -/
structure Her {H : Type} (P : Program) (M : TypeId → DataW H → Prop) (K : Nat → Nat → Prop) : Prop where
  slice : ∀ {t e : TypeId} {es sp : List (DataW H)}, P.underlying t = some (.slice e) → M t (.slice es sp) → (∀ d ∈ es, M e d) ∧ K es.length (P.bytesOf e)
  agg : ∀ {t : TypeId} {fs : Array Field} {ps : List (DataW H)}, P.underlying t = some (.struct fs) → M t (.agg ps) → ∀ (j : Nat) (f : Field) (d : DataW H), fs[j]? = some f → ps[j]? = some d → M f.type d
  zero : ∀ b, K 0 b
def sizedM {H : Type} (P : Program) (t : TypeId) (d : DataW H) : Prop := (d.weights P t).all (· ≤ reachBytes) = true
def sizedK (n b : Nat) : Prop := n * b ≤ 140737488351232
theorem weights_all {H : Type} {P : Program} {e : TypeId} : ∀ {es : List (DataW H)} {d : DataW H}, d ∈ es → ∀ n ∈ d.weights P e, n ∈ DataW.weightsAll P e es
  | x :: es, d, hd, n, hn => by
    simp only [DataW.weightsAll, List.mem_append]
    rcases List.mem_cons.1 hd with rfl | hd
    · exact .inl hn
    · exact .inr (weights_all hd n hn)
theorem her_sized {H : Type} (P : Program) : Her (H := H) P (sizedM P) sizedK where
  slice := by
    intro t e es sp ht h
    unfold sizedM at *
    rw [List.all_eq_true] at h
    refine ⟨fun d hd => ?_, ?_⟩
    · rw [List.all_eq_true]
      intro n hn
      exact h n (by simp only [DataW.weights, ht, List.mem_cons, List.mem_append]; exact .inr (.inl (weights_all hd n hn)))
    · have := h ((es.length + sp.length) * P.bytesOf e) (by simp [DataW.weights, ht])
      rw [decide_eq_true_iff, Nat.add_mul] at this
      have hr : reachBytes = 140737488351232 := by decide
      unfold sizedK
      omega
  agg := by
    intro t fs ps ht h j f d hj hd
    unfold sizedM at *
    rw [List.all_eq_true] at h ⊢
    intro n hn
    refine h n ?_
    simp only [DataW.weights, ht]
    exact DataW.weights_mem_each (ts := fs.toList.map (·.type)) (j := j) (by simp [hj]) hd n hn
  zero := fun b => by unfold sizedK; omega
/-- reading, under M -/
def RdM {α : Type} (H : Type) (enc : TypeId × Value → H) (P : Program) (w : World) (M : TypeId → DataW H → Prop) (t : TypeId) (cells : α → List Value) (deep : α → Prop) : Prop :=
  ∀ (base : Nat) (spare : Nat → Bool) (held : Bool) (fuel : Nat) (cs : List Value) (x : DataW H × List MemPlace), DataW.trod enc P w base spare held fuel t cs = some x → M t x.1 → ∃ a, cs = cells a ∧ deep a
theorem Rd.m {α : Type} {H : Type} {enc : TypeId × Value → H} {P : Program} {w : World} {M : TypeId → DataW H → Prop} {t : TypeId} {cells : α → List Value} {deep : α → Prop} (h : Rd H enc P w t cells deep) : RdM H enc P w M t cells deep :=
  fun base spare held fuel cs x hx _ => h base spare held fuel cs x hx
section
variable {H : Type} {enc : TypeId × Value → H} {P : Program} {w : World} {M : TypeId → DataW H → Prop} {K : Nat → Nat → Prop}
theorem rdM_slice {α : Type} [Inhabited α] {t e : TypeId} {cells : α → List Value} {deep : α → Prop} {size : Nat} (ht : P.underlying t = some (.slice e)) (hsz : P.cellsOf e = size) (hpos : 0 < size) (hc : ∀ a, (cells a).length = size) (hH : Her P M K) (he : RdM H enc P w M e cells deep)
    {base : Nat} {spare : Nat → Bool} {held : Bool} {fuel : Nat} {cs : List Value} {x : DataW H × List MemPlace} (h : DataW.trod enc P w base spare held fuel t cs = some x) (hM : M t x.1) :
    ∃ s : SlV α, cs = slCells s ∧ slDeep w cells deep s ∧ K s.l.length (P.bytesOf e) := by
  rcases Deep.open_slice ht h with ⟨rfl, rfl⟩ | ⟨a, len, cap, m, n, D, Pl, rfl, hb, hl, hm, hmm, rfl, hel⟩
  · exact ⟨⟨none, 0, []⟩, rfl, ⟨Nat.le_refl _, (by show (0 : Nat) ≤ maxLen; unfold maxLen; omega), SlAt.nil, fun _ => rfl, fun a ha => by simp at ha⟩, hH.zero _⟩
  · rw [hsz] at hel
    have hlm : len ≤ m := by rw [hmm]; split <;> omega
    obtain ⟨f, hf⟩ := Deep.choose_lt (α := α) (p := fun i a => w.cells? base (Addr.add ‹Addr› (i * size)) size = some (cells a) ∧ deep a) (n := len) (fun i hi => by
      obtain ⟨cs', h1, h2⟩ := hel i (by omega)
      obtain ⟨a', rfl, hd⟩ := he _ _ _ _ _ _ h2 ((hH.slice ht hM).1 _ (List.mem_map_of_mem (List.mem_range.2 hi)))
      exact ⟨a', h1, hd⟩)
    refine ⟨⟨some a, cap, (List.range len).map f⟩, by simp [slCells], ⟨by simpa using hl, hm, ?_, by simp, ?_⟩, by have := (hH.slice ht hM).2; simpa using this⟩
    · intro hp
      have hlen : 0 < len := by
        rcases Nat.eq_zero_or_pos len with h0 | h0
        · subst h0; simp at hp
        · exact h0
      obtain ⟨b, o, s⟩ := a
      have hs : s = none := by
        obtain ⟨h1, _⟩ := hf 0 hlen
        obtain ⟨h2, h3⟩ := cells_some h1
        have := h3 0 ((cells (f 0))[0]'(by rw [hc]; exact hpos)) (by simp)
        simp [Addr.add] at this
        exact cell_spot this
      subst hs
      refine ⟨b, o, rfl, fun j v hj => ?_⟩
      obtain ⟨a', h1, h2⟩ := flat_get cells size hc hpos _ _ _ hj
      have hjl : j / size < len := by
        have : j / size < ((List.range len).map f).length := by
          rcases Nat.lt_or_ge (j / size) ((List.range len).map f).length with h | h
          · exact h
          · rw [List.getElem?_eq_none h] at h1; cases h1
        simpa using this
      have ha' : f (j / size) = a' := by simpa [hjl] using h1
      obtain ⟨h3, _⟩ := hf _ hjl
      rw [ha', addr_add] at h3
      obtain ⟨_, h4⟩ := cells_some h3
      have h5 := h4 _ _ h2
      rw [addr_add] at h5
      rw [← h5]
      congr 2
      have := Nat.div_add_mod j size
      rw [Nat.mul_comm] at this
      omega
    · intro a' ha'
      simp at ha'
      obtain ⟨i, hi, rfl⟩ := ha'
      exact (hf i hi).2
theorem rdM_bytes {t e : TypeId} (hH : Her P M K) (ht : P.underlying t = some (.slice e)) (he : P.underlying e = some (.int .u8)) (hc : P.cellsOf e = 1) :
    RdM H enc P w M t (fun p : Value × List UInt8 => [p.1]) (fun p => IsBytes w p.1 p.2 ∧ K p.2.length (P.bytesOf e)) := by
  intro base spare held fuel cs x h hM
  obtain ⟨A, len, cap, hcs⟩ : ∃ A len cap, cs = [Value.slice A len cap] := by
    rcases open_ints ht he hc h with ⟨hcs, _⟩ | ⟨x, l, c, zs, hcs, _⟩
    · exact ⟨_, _, _, hcs⟩
    · exact ⟨_, _, _, hcs⟩
  subst hcs
  obtain ⟨d, ps⟩ := x
  obtain ⟨xs, hx, hl⟩ := open_bytes_dlen (enc := enc) ht he hc h
  refine ⟨(_, xs), rfl, hx, ?_⟩
  rw [← hl]
  dsimp only at hM
  cases d with
  | slice es sp => exact (hH.slice ht hM).2
  | _ => exact hH.zero _
end
/-- of an argument -/
theorem sizedM_arg {H : Type} {P : Program} {ts : List TypeId} {ds : List (DataW H)} (h : (DataW.weightsEach P ts ds).all (· ≤ reachBytes) = true) {j : Nat} {t : TypeId} {d : DataW H} (ht : ts[j]? = some t) (hd : ds[j]? = some d) : sizedM P t d := by
  unfold sizedM
  rw [List.all_eq_true] at h ⊢
  exact fun n hn => h n (DataW.weights_mem_each ht hd n hn)
/-- rows of bytes that came in -/
theorem open_bytess {H : Type} {enc : TypeId × Value → H} {P : Program} {w : World} {t e u : TypeId} (ht : P.underlying t = some (.slice e)) (he : P.underlying e = some (.slice u)) (hu : P.underlying u = some (.int .u8)) (hc : P.cellsOf u = 1) (hce : P.cellsOf e = 1) (hb : P.bytesOf e = 24) (hb1 : P.bytesOf u = 1)
    {base b0 : Nat} {spare : Nat → Bool} {held : Bool} {r : Reach} {v : Value} {d : DataW H} {ps : List MemPlace} (hv : Value.okWide P w r b0 t v) (h : DataW.Trod enc P w base spare held t v d ps) (hM : sizedM P t d) :
    ∃ l : List (Value × List UInt8), IsL w (fun p : Value × List UInt8 => [p.1]) (fun p => IsBytes w p.1 p.2 ∧ p.2.length ≤ 140737488351232) v l ∧ l.length ≤ 140737488351232 := by
  obtain ⟨A, len, cap, rfl⟩ := okWide_slice ht hv
  obtain ⟨fuel, hf⟩ := h
  obtain ⟨s, h1, h2, h3⟩ := rdM_slice ht hce (by omega) (fun _ => rfl) (her_sized P) (rdM_bytes (her_sized P) he hu hc) hf hM
  unfold sizedK at h3
  rw [hb] at h3
  refine ⟨s.l, ⟨s.A, s.cap, ?_, ?_⟩, by omega⟩
  · simpa [Value.cells, slCells] using h1
  · obtain ⟨k1, k2, k3, k4, k5⟩ := h2
    refine ⟨k1, k2, k3, k4, fun a ha => ⟨(k5 a ha).1, ?_⟩⟩
    have := (k5 a ha).2
    unfold sizedK at this
    rw [hb1] at this
    omega
end Go.Proofs.YthpdcnjaodjjmaaGreat.Hr
