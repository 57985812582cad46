/- package inflate: a block. -/
import Derived.Test.YthfbjgdophjelaaInfCodes
namespace Go.Proofs.Ythfbjgdophjelaa.Inf
open Go Go.RowKit Go.Proofs.Ythfbjgdophjelaa Go.Proofs.Ythfbjgdophjelaa.Bits Go.Proofs.Ythfbjgdophjelaa.Code
set_option linter.unusedVariables false
set_option linter.unusedSimpArgs false

/-- the types of blocks that a block turns -/
def infT2 : List TypeId := [41, 44, 5, 3]
theorem kT2 {base : Nat} {w w' : World} (hk : Keeps base infT w w') : Keeps base infT2 w w' := hk.mono (Nat.le_refl _) (fun t ht => by simp only [infT, List.mem_cons, List.not_mem_nil, or_false] at ht; rcases ht with h | h | h <;> subst h <;> simp [infT2])
theorem kT3 {base : Nat} {w w' : World} (hk : Keeps base srcT w w') : Keeps base infT w w' := kT hk (Nat.le_refl _)
theorem RdAt.filledO {w w' : World} {base g q : Nat} {A : Option Addr} {n c pos pos' : Nat} {out : List UInt8} {ks : List Nat} (h : RdAt w base g q A n c pos out ks) (hk : Keeps base srcT w w') (hs : SrcAt w' q A n c pos') (hp : pos' ≤ 8 * n) : RdAt w' base g q A n c pos' out ks := by
  obtain ⟨hg, hq, _, hfew, ⟨vo, vk, hb, ho, hk'⟩, _⟩ := h
  exact ⟨hg, hq, hp, hfew, ⟨vo, vk, hk.blk hb (by decide), hk.own ho (by decide), hk.own hk' (by decide)⟩, hs⟩
theorem RdAt.rdr {w : World} {base g q : Nat} {A : Option Addr} {n c pos : Nat} {out : List UInt8} {ks : List Nat} (h : RdAt w base g q A n c pos out ks) : ∃ vo vk, Blk w g 41 #[.pointer (some ⟨q, 0, none⟩), vo, vk] := by
  obtain ⟨_, _, _, _, ⟨vo, vk, hb, _, _⟩, _⟩ := h
  exact ⟨vo, vk, hb⟩
theorem lsOf_zsOf (l : List Nat) : lsOf (zsOf l) = l := by
  unfold lsOf zsOf
  rw [List.map_map]
  exact (List.map_congr_left (fun x _ => by simp)).trans (List.map_id l)
theorem chk_fixA : chkL (zsOf fixedA) = 0 := by decide +kernel
theorem chk_fixB : chkL (zsOf fixedB) = 0 := by decide +kernel
set_option maxRecDepth 100000 in
set_option maxHeartbeats 1600000 in
/-- the kinds of blocks, one more -/
theorem kind_any {w : World} {base g q : Nat} {A : Option Addr} {n c pos : Nat} {out : List UInt8} {ks : List Nat} (h : RdAt w base g q A n c pos out ks) : ∃ vo Ak kl ck, kl = ks.length ∧ Blk w g 41 #[.pointer (some ⟨q, 0, none⟩), vo, .slice Ak kl ck] ∧ w.ownsRow base 5 1 vo out.length (out.map u8v) ∧ w.ownsRow base 3 1 (.slice Ak kl ck) kl (ks.map natV) := by
  obtain ⟨_, _, _, _, ⟨vo, vk, hb, ho, hk⟩, _⟩ := h
  obtain ⟨Ak, ck, rfl, _⟩ := own_slat hk
  exact ⟨vo, Ak, _, ck, rfl, hb, ho, hk⟩
theorem hkl_vo {w : World} {o : Obj} {g : Nat} {t : TypeId} {a vo vk vo' vk' : Value} (h1 : Blk w g t #[a, vo, vk]) (h2 : Blk (w.alloc o) g t #[a, vo', vk']) : vo = vo' := by
  have := (h1.alloc o).symm.trans h2
  injection this with this
  injection this with this
  simp at this
  exact this.1
set_option maxRecDepth 100000 in
set_option maxHeartbeats 1600000 in
theorem block_r (base g q : Nat) (A : Option Addr) (n c pos : Nat) (xs : List UInt8) (out : List UInt8) (ks : List Nat) (w : World) (h : RdAt w base g q A n c pos out ks) (hi : InAt_ w base A n xs) (hn : n ≤ 1000000) (hkl : ks.length ≤ 1000000) :
    Calls Try.prog 11 #[.pointer (some ⟨g, 0, none⟩)] w fun e w' =>
      RPost (blockR (bitsL xs) pos out) (fun a e w' => e = .returned (.bool a.1) ∧ RdAt w' base g q A n c a.2.2.1 a.2.2.2 (ks ++ [a.2.1])) e w' ∧ Keeps base infT2 w w' := by
  obtain ⟨R, hR⟩ : ∃ R, R = blockR (bitsL xs) pos out := ⟨_, rfl⟩
  rw [← hR]
  unfold blockR at hR
  have HU := Lib.hid hR
  have HR1 := Lib.hid h
  have HI := Lib.hid hi
  have hq := h.qle
  have HG := Lib.hid (get_r base g q A n c pos 1 xs out ks w h hi (by omega))
  clear h hi hR
  go_enter Try.func11, Try.ntmps11
  go_wp2_with fail
  refine (HG.out).mono ?_
  rintro e w2 ⟨hr2, hk2⟩
  have HK2 := Lib.hid (kT2 hk2)
  have HI2 := Lib.hid (HI.out.keeps hk2)
  cases hg2 : getR (bitsL xs) pos 1 with
  | bad z =>
    have he := rpost_bad hr2 hg2
    subst he
    have HU := Lib.hid (show R = .bad z by rw [HU.out, hg2]; rfl)
    clear hr2 hk2 hg2
    unfold stopE
    go_wp2_with fail
    exact ⟨rfl, bad_rpost HU.out, HK2.out⟩
  | ok a =>
    obtain ⟨he, hrd2⟩ := rpost_ok hr2 hg2
    subst he
    replace HU := Lib.hid (HU.out.trans (by rw [hg2, then_ok]))
    have HR2 := Lib.hid hrd2
    obtain ⟨x, p2⟩ := a
    dsimp only at HU HR2 ⊢
    obtain ⟨lb, hlb⟩ : ∃ lb, lb = (x == 1) := ⟨_, rfl⟩
    have hlb' : ((x : Int) == 1) = lb := by
      rw [hlb, Bool.eq_iff_iff]
      simp only [beq_iff_eq]
      omega
    rw [← hlb] at HU
    have HG := Lib.hid (get_r base g q A n c p2 2 xs out ks w2 HR2.out HI2.out (by omega))
    clear hr2 hk2 hg2 hrd2 hlb
    go_wp2_with fail
    refine (HG.out).mono ?_
    rintro e w3 ⟨hr3, hk3⟩
    have HK3 := Lib.hid (HK2.out.trans (kT2 hk3))
    have HI3 := Lib.hid (HI2.out.keeps hk3)
    cases hg3 : getR (bitsL xs) p2 2 with
    | bad z =>
      have he := rpost_bad hr3 hg3
      subst he
      have HU := Lib.hid (show R = .bad z by rw [HU.out, hg3]; rfl)
      clear hr3 hk3 hg3
      unfold stopE
      go_wp2_with fail
      exact ⟨rfl, bad_rpost HU.out, HK3.out⟩
    | ok a =>
      obtain ⟨he, hrd3⟩ := rpost_ok hr3 hg3
      subst he
      have hk4 := getR_lt hg3
      replace HU := Lib.hid (HU.out.trans (by rw [hg3, then_ok]))
      have HR3 := Lib.hid hrd3
      obtain ⟨k, p3⟩ := a
      dsimp only at HU HR3 hk4 ⊢
      clear hr3 hk3 hg3 hrd3 HG
      rcases (by omega : k = 0 ∨ k = 1 ∨ k = 2 ∨ k = 3) with hk | hk | hk | hk
      · subst hk
        replace HU := Lib.hid (HU.out.trans (if_pos rfl))
        have HG := Lib.hid (stored_r base g q A n c p3 xs out ks w3 HR3.out HI3.out)
        have hrb := HR3
        go_wp2_with fail
        refine (HG.out).mono ?_
        rintro e w4 ⟨hr4, hk4⟩
        have HK4 := Lib.hid (HK3.out.trans (kT2 hk4))
        cases hg4 : storedR (bitsL xs) p3 out with
        | bad z =>
          have he := rpost_bad hr4 hg4
          subst he
          have HU := Lib.hid (show R = .bad z by rw [HU.out, hg4]; rfl)
          clear hr4 hk4 hg4
          unfold stopE
          go_wp2_with fail
          exact ⟨rfl, bad_rpost HU.out, HK4.out⟩
        | ok a =>
          obtain ⟨he, hrd4⟩ := rpost_ok hr4 hg4
          subst he
          replace HU := Lib.hid (HU.out.trans (by rw [hg4, then_ok]))
          have HR4 := Lib.hid hrd4
          obtain ⟨p4, o4⟩ := a
          dsimp only at HU HR4 ⊢
          clear hr4 hk4 hg4 hrd4 HG hrb
          obtain ⟨vo, Ak, kl, ck, ekl, hb, ho, hkk⟩ := kind_any HR4.out
          have hbw : base ≤ w4.heap.size := HR4.out.bw
          have c2 : w4.cell? ⟨g, 2, none⟩ = some (.slice Ak kl ck) := by rw [hb.cell]; rfl
          have f2 := hb.frozen 2
          have hlt := hb.lt
          have hkl1 : kl ≤ 1000000 := by omega
          have hbA : Below w4.heap.size w4 (w4.alloc (.cells #[.int .i64 0] 3)) := (Below.refl _ _).alloc (Nat.le_refl _) _
          have HO2 := Lib.hid (own_keep hkk hbA)
          have HB2 := Lib.hid (hb.below hbA hb.lt)
          have hbw2 : base ≤ (w4.alloc (.cells #[.int .i64 0] 3)).heap.size := Nat.le_trans hbw hbA.size
          have HZ : Hid (SlAt (w4.alloc (.cells #[.int .i64 0] 3)) (some ⟨w4.heap.size, 0, none⟩) [.int .i64 0]) := Lib.hid (SlAt.of_heap (heap_alloc_new _ _) rfl)
          have Hekl := Lib.hid ekl
          have HKA := Lib.hid (Keeps.of_below (T := infT2) hbA hbw)
          clear hb ho hkk hbA ekl
          go_wp2_with (at_builtin; refine wpList_app _ rfl (.tmp 47) (.tmp 49) _ rfl base 3 _ 1 8 tyI _ kl (ks.map natV) rfl HO2.out (some ⟨w4.heap.size, 0, none⟩) 1 1 [.int .i64 0] rfl rfl HZ.out (by simp [Value.oneCell']) (by simp) (by unfold maxLen; omega) (by omega) hbw2 ?_; intro v8 w8 hown8 hg8 _; obtain ⟨A8, d8, rfl, _⟩ := own_slat hown8; have hkp : Keeps base [3] (w4.alloc (.cells #[.int .i64 0] 3)) w8 := (Keeps.refl _ _ _).grown HO2.out hg8 (by simp) hbw2; have HB8 := Lib.hid (hkp.blk HB2.out (by decide)); have HK8 := Lib.hid hkp; have Ho8 := Lib.hid hown8; have c8 : w8.cell? ⟨g, 2, none⟩ = some (.slice Ak kl ck) := (HB8.out.cell 2).trans rfl; have f8 := HB8.out.frozen 2; clear hown8 hg8 hkp)
          go_ret
          have hgg : base ≤ g := by obtain ⟨hg, _⟩ := HR4.out; exact hg
          have k8 : Keeps base [3] w4 w8 := (Keeps.of_below ((Below.refl _ _).alloc (Nat.le_refl _) _) hbw).trans HK8.out
          have k9 : Keeps base [41] w8 (w8.setCell ⟨g, 2, none⟩ (.slice A8 (kl + 1) d8)) := (Keeps.refl _ _ _).setBlk HB8.out (by simp) hgg 2 _
          have k89 : Keeps base [3, 41] w4 (w8.setCell ⟨g, 2, none⟩ (.slice A8 (kl + 1) d8)) := (k8.mono (Nat.le_refl _) (by simp)).trans (k9.mono (Nat.le_refl _) (by simp))
          refine ⟨ok_rpost HU.out ⟨rfl, ?_⟩, HK4.out.trans (k89.mono (Nat.le_refl _) (by simp [infT2]))⟩
          obtain ⟨h1, h2, h3, h4, ⟨vo', vk', h5, h6, h7⟩, h8⟩ := HR4.out
          have e5 : vo' = vo := by
            have := hkl_vo h5 HB2.out
            exact this
          subst e5
          refine ⟨h1, h2, h3, h4, ⟨vo', .slice A8 (kl + 1) d8, HB8.out.set_ 2 _, k89.own h6 (by decide), ?_⟩, k89.blk h8 (by decide)⟩
          have h9 := k9.own Ho8.out (by decide)
          rw [List.length_append, ← Hekl.out, List.map_append]
          exact h9
      · subst hk
        replace HU := Lib.hid (HU.out.trans ((if_neg (by omega)).trans (if_pos rfl)))
        have HF := Lib.hid (fixed_any w3)
        have hbw3 : base ≤ w3.heap.size := HR3.out.bw
        go_wp2_with fail
        refine (HF.out).mono ?_
        rintro e w4 ⟨Aa, ca, Ab, cb, rfl, ha, hb, hb4⟩
        have HK4 := Lib.hid (HK3.out.trans (Keeps.of_below hb4 hbw3))
        have HI4 := Lib.hid (HI3.out.keeps (T := infT) (Keeps.of_below hb4 hbw3))
        have HR4 := Lib.hid (HR3.out.below hb4)
        obtain ⟨_, _, e1, _, _, sa, _⟩ := own_slat ha
        injection e1 with e1 _ e2
        subst e1 e2
        obtain ⟨_, _, e1, _, _, sb, _⟩ := own_slat hb
        injection e1 with e1 _ e2
        subst e1 e2
        have SA := Lib.hid sa
        have SB := Lib.hid sb
        have HM := Lib.hid (make_any Aa 288 ca (zsOf fixedA) w4 (by decide) (show SlAt _ _ _ by rw [zs_iv]; exact sa) chk_fixA)
        have hbw4 : base ≤ w4.heap.size := HR4.out.bw
        clear ha hb hb4 sa sb HF
        go_wp2_with fail
        refine (HM.out).mono ?_
        rintro e w5 ⟨⟨pa, rfl, hta⟩, hb5⟩
        rw [lsOf_zsOf] at hta
        have HTa : Hid (TbAt w5 base pa fixedA) := Lib.hid (by
          rw [← lsOf_zsOf fixedA] at hta ⊢
          exact tabAt_tb hta hbw4 chk_fixA)
        have HK5 := Lib.hid (HK4.out.trans (Keeps.of_below hb5 hbw4))
        have HI5 := Lib.hid (HI4.out.keeps (T := infT) (Keeps.of_below hb5 hbw4))
        have HR5 := Lib.hid (HR4.out.below hb5)
        have SB := Lib.hid (SlAt.below SB.out hb5)
        have HM := Lib.hid (make_any Ab 32 cb (zsOf fixedB) w5 (by decide) (show SlAt _ _ _ by rw [zs_iv]; exact SB.out) chk_fixB)
        have hbw5 : base ≤ w5.heap.size := HR5.out.bw
        clear hb5 hta
        go_wp2_with fail
        refine (HM.out).mono ?_
        rintro e w6 ⟨⟨pb, rfl, htb⟩, hb6⟩
        rw [lsOf_zsOf] at htb
        have HTb : Hid (TbAt w6 base pb fixedB) := Lib.hid (by
          rw [← lsOf_zsOf fixedB] at htb ⊢
          exact tabAt_tb htb hbw5 chk_fixB)
        have HTa := Lib.hid (HTa.out.old (B0 := 0) hb6)
        have HK6 := Lib.hid (HK5.out.trans (Keeps.of_below hb6 hbw5))
        have HI6 := Lib.hid (HI5.out.keeps (T := infT) (Keeps.of_below hb6 hbw5))
        have HR6 := Lib.hid (HR5.out.below hb6)
        clear hb6 htb HM SA SB
        have HG := Lib.hid (body_r base g q pa pb A n c p3 xs out ks fixedA fixedB w6 HR6.out HI6.out HTa.out HTb.out hn)
        have hwlen : (bitsL xs).length = (bitsL xs).length := rfl
        clear hwlen
        go_wp2_with fail
        refine (HG.out).mono ?_
        rintro e w7 ⟨hr7, hk7⟩
        have HK7 := Lib.hid (HK6.out.trans (kT2 hk7))
        cases hg7 : bodyR (bitsL xs) fixedA fixedB ((bitsL xs).length + 1) p3 out with
        | bad z =>
          have he := rpost_bad hr7 hg7
          subst he
          have HU := Lib.hid (show R = .bad z by rw [HU.out, hg7]; rfl)
          clear hr7 hk7 hg7
          unfold stopE
          go_wp2_with fail
          exact ⟨rfl, bad_rpost HU.out, HK7.out⟩
        | ok a =>
          obtain ⟨he, hrd7⟩ := rpost_ok hr7 hg7
          subst he
          replace HU := Lib.hid (HU.out.trans (by rw [hg7, then_ok]))
          have HR7 := Lib.hid hrd7
          obtain ⟨p7, o7⟩ := a
          dsimp only at HU HR7 ⊢
          clear hr7 hk7 hg7 hrd7 HG
          obtain ⟨vo, Ak, kl, ck, ekl, hb, ho, hkk⟩ := kind_any HR7.out
          have hbw : base ≤ w7.heap.size := HR7.out.bw
          have c2 : w7.cell? ⟨g, 2, none⟩ = some (.slice Ak kl ck) := by rw [hb.cell]; rfl
          have f2 := hb.frozen 2
          have hlt := hb.lt
          have hkl1 : kl ≤ 1000000 := by omega
          have hbA : Below w7.heap.size w7 (w7.alloc (.cells #[.int .i64 1] 3)) := (Below.refl _ _).alloc (Nat.le_refl _) _
          have HO2 := Lib.hid (own_keep hkk hbA)
          have HB2 := Lib.hid (hb.below hbA hb.lt)
          have hbw2 : base ≤ (w7.alloc (.cells #[.int .i64 1] 3)).heap.size := Nat.le_trans hbw hbA.size
          have HZ : Hid (SlAt (w7.alloc (.cells #[.int .i64 1] 3)) (some ⟨w7.heap.size, 0, none⟩) [.int .i64 1]) := Lib.hid (SlAt.of_heap (heap_alloc_new _ _) rfl)
          have Hekl := Lib.hid ekl
          have HKA := Lib.hid (Keeps.of_below (T := infT2) hbA hbw)
          clear hb ho hkk hbA ekl
          go_wp2_with (at_builtin; refine wpList_app _ rfl (.tmp 47) (.tmp 49) _ rfl base 3 _ 1 8 tyI _ kl (ks.map natV) rfl HO2.out (some ⟨w7.heap.size, 0, none⟩) 1 1 [.int .i64 1] rfl rfl HZ.out (by simp [Value.oneCell']) (by simp) (by unfold maxLen; omega) (by omega) hbw2 ?_; intro v8 w8 hown8 hg8 _; obtain ⟨A8, d8, rfl, _⟩ := own_slat hown8; have hkp : Keeps base [3] (w7.alloc (.cells #[.int .i64 1] 3)) w8 := (Keeps.refl _ _ _).grown HO2.out hg8 (by simp) hbw2; have HB8 := Lib.hid (hkp.blk HB2.out (by decide)); have HK8 := Lib.hid hkp; have Ho8 := Lib.hid hown8; have c8 : w8.cell? ⟨g, 2, none⟩ = some (.slice Ak kl ck) := (HB8.out.cell 2).trans rfl; have f8 := HB8.out.frozen 2; clear hown8 hg8 hkp)
          go_ret
          have hgg : base ≤ g := by obtain ⟨hg, _⟩ := HR7.out; exact hg
          have k8 : Keeps base [3] w7 w8 := (Keeps.of_below ((Below.refl _ _).alloc (Nat.le_refl _) _) hbw).trans HK8.out
          have k9 : Keeps base [41] w8 (w8.setCell ⟨g, 2, none⟩ (.slice A8 (kl + 1) d8)) := (Keeps.refl _ _ _).setBlk HB8.out (by simp) hgg 2 _
          have k89 : Keeps base [3, 41] w7 (w8.setCell ⟨g, 2, none⟩ (.slice A8 (kl + 1) d8)) := (k8.mono (Nat.le_refl _) (by simp)).trans (k9.mono (Nat.le_refl _) (by simp))
          refine ⟨ok_rpost HU.out ⟨rfl, ?_⟩, HK7.out.trans (k89.mono (Nat.le_refl _) (by simp [infT2]))⟩
          obtain ⟨h1, h2, h3, h4, ⟨vo', vk', h5, h6, h7⟩, h8⟩ := HR7.out
          have e5 : vo' = vo := by
            have := hkl_vo h5 HB2.out
            exact this
          subst e5
          refine ⟨h1, h2, h3, h4, ⟨vo', .slice A8 (kl + 1) d8, HB8.out.set_ 2 _, k89.own h6 (by decide), ?_⟩, k89.blk h8 (by decide)⟩
          have h9 := k9.own Ho8.out (by decide)
          rw [List.length_append, ← Hekl.out, List.map_append]
          exact h9
      · subst hk
        replace HU := Lib.hid (HU.out.trans ((if_neg (by omega)).trans ((if_neg (by omega)).trans (if_pos rfl))))
        obtain ⟨vo0, vk0, hrdr⟩ := HR3.out.rdr
        have hbw3 : base ≤ w3.heap.size := HR3.out.bw
        have HC := Lib.hid (codes_r base g q A n c p3 xs vo0 vk0 w3 hq hbw3 hrdr HR3.out.src HR3.out.ple HI3.out)
        clear hrdr
        go_wp2_with fail
        refine (HC.out).mono ?_
        rintro e w4 ⟨hr4, hk4⟩
        have hkk := hk4.toKeeps
        have HK4 := Lib.hid (HK3.out.trans (kT2 (kT3 hkk)))
        cases hg4 : headR (bitsL xs) p3 with
        | bad z =>
          have he := rpost_bad hr4 hg4
          subst he
          have HU := Lib.hid (show R = .bad z by rw [HU.out, hg4]; rfl)
          clear hr4 hk4 hg4 hkk
          unfold stopE
          go_wp2_with fail
          exact ⟨rfl, bad_rpost HU.out, HK4.out⟩
        | ok a =>
          obtain ⟨pa, pb, he, hta, htb, hs4, hp4⟩ := rpost_ok hr4 hg4
          subst he
          replace HU := Lib.hid (HU.out.trans (by rw [hg4, then_ok]))
          have HI4 := Lib.hid (HI3.out.keeps hkk)
          have HR4 := Lib.hid (HR3.out.filledO hkk hs4 hp4)
          have HTa := Lib.hid hta
          have HTb := Lib.hid htb
          obtain ⟨p4, la, lb'⟩ := a
          dsimp only at HU HR4 HTa HTb ⊢
          clear hr4 hk4 hg4 hkk hta htb hs4 hp4 HC
          have HG := Lib.hid (body_r base g q pa pb A n c p4 xs out ks la lb' w4 HR4.out HI4.out HTa.out HTb.out hn)
          have hwlen : (bitsL xs).length = (bitsL xs).length := rfl
          clear hwlen
          go_wp2_with fail
          refine (HG.out).mono ?_
          rintro e w7 ⟨hr7, hk7⟩
          have HK7 := Lib.hid (HK4.out.trans (kT2 hk7))
          cases hg7 : bodyR (bitsL xs) la lb' ((bitsL xs).length + 1) p4 out with
          | bad z =>
            have he := rpost_bad hr7 hg7
            subst he
            have HU := Lib.hid (show R = .bad z by rw [HU.out, hg7]; rfl)
            clear hr7 hk7 hg7
            unfold stopE
            go_wp2_with fail
            exact ⟨rfl, bad_rpost HU.out, HK7.out⟩
          | ok a =>
            obtain ⟨he, hrd7⟩ := rpost_ok hr7 hg7
            subst he
            replace HU := Lib.hid (HU.out.trans (by rw [hg7, then_ok]))
            have HR7 := Lib.hid hrd7
            obtain ⟨p7, o7⟩ := a
            dsimp only at HU HR7 ⊢
            clear hr7 hk7 hg7 hrd7 HG
            obtain ⟨vo, Ak, kl, ck, ekl, hb, ho, hkk⟩ := kind_any HR7.out
            have hbw : base ≤ w7.heap.size := HR7.out.bw
            have c2 : w7.cell? ⟨g, 2, none⟩ = some (.slice Ak kl ck) := by rw [hb.cell]; rfl
            have f2 := hb.frozen 2
            have hlt := hb.lt
            have hkl1 : kl ≤ 1000000 := by omega
            have hbA : Below w7.heap.size w7 (w7.alloc (.cells #[.int .i64 2] 3)) := (Below.refl _ _).alloc (Nat.le_refl _) _
            have HO2 := Lib.hid (own_keep hkk hbA)
            have HB2 := Lib.hid (hb.below hbA hb.lt)
            have hbw2 : base ≤ (w7.alloc (.cells #[.int .i64 2] 3)).heap.size := Nat.le_trans hbw hbA.size
            have HZ : Hid (SlAt (w7.alloc (.cells #[.int .i64 2] 3)) (some ⟨w7.heap.size, 0, none⟩) [.int .i64 2]) := Lib.hid (SlAt.of_heap (heap_alloc_new _ _) rfl)
            have Hekl := Lib.hid ekl
            have HKA := Lib.hid (Keeps.of_below (T := infT2) hbA hbw)
            clear hb ho hkk hbA ekl
            go_wp2_with (at_builtin; refine wpList_app _ rfl (.tmp 47) (.tmp 49) _ rfl base 3 _ 1 8 tyI _ kl (ks.map natV) rfl HO2.out (some ⟨w7.heap.size, 0, none⟩) 1 1 [.int .i64 2] rfl rfl HZ.out (by simp [Value.oneCell']) (by simp) (by unfold maxLen; omega) (by omega) hbw2 ?_; intro v8 w8 hown8 hg8 _; obtain ⟨A8, d8, rfl, _⟩ := own_slat hown8; have hkp : Keeps base [3] (w7.alloc (.cells #[.int .i64 2] 3)) w8 := (Keeps.refl _ _ _).grown HO2.out hg8 (by simp) hbw2; have HB8 := Lib.hid (hkp.blk HB2.out (by decide)); have HK8 := Lib.hid hkp; have Ho8 := Lib.hid hown8; have c8 : w8.cell? ⟨g, 2, none⟩ = some (.slice Ak kl ck) := (HB8.out.cell 2).trans rfl; have f8 := HB8.out.frozen 2; clear hown8 hg8 hkp)
            go_ret
            have hgg : base ≤ g := by obtain ⟨hg, _⟩ := HR7.out; exact hg
            have k8 : Keeps base [3] w7 w8 := (Keeps.of_below ((Below.refl _ _).alloc (Nat.le_refl _) _) hbw).trans HK8.out
            have k9 : Keeps base [41] w8 (w8.setCell ⟨g, 2, none⟩ (.slice A8 (kl + 1) d8)) := (Keeps.refl _ _ _).setBlk HB8.out (by simp) hgg 2 _
            have k89 : Keeps base [3, 41] w7 (w8.setCell ⟨g, 2, none⟩ (.slice A8 (kl + 1) d8)) := (k8.mono (Nat.le_refl _) (by simp)).trans (k9.mono (Nat.le_refl _) (by simp))
            refine ⟨ok_rpost HU.out ⟨rfl, ?_⟩, HK7.out.trans (k89.mono (Nat.le_refl _) (by simp [infT2]))⟩
            obtain ⟨h1, h2, h3, h4, ⟨vo', vk', h5, h6, h7⟩, h8⟩ := HR7.out
            have e5 : vo' = vo := by
              have := hkl_vo h5 HB2.out
              exact this
            subst e5
            refine ⟨h1, h2, h3, h4, ⟨vo', .slice A8 (kl + 1) d8, HB8.out.set_ 2 _, k89.own h6 (by decide), ?_⟩, k89.blk h8 (by decide)⟩
            have h9 := k9.own Ho8.out (by decide)
            rw [List.length_append, ← Hekl.out, List.map_append]
            exact h9
      · replace HU := Lib.hid (show R = .bad 4 from HU.out.trans (by rw [if_neg (by omega), if_neg (by omega), if_neg (by omega)]))
        subst hk
        go_wp2_with fail
        refine (fail_any 4 _).mono ?_
        rintro e w5 ⟨rfl, rfl⟩
        unfold stopE
        go_wp2_with fail
        exact ⟨rfl, bad_rpost HU.out, HK3.out⟩
end Go.Proofs.Ythfbjgdophjelaa.Inf
