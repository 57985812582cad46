/- texts joined: UnpBlock ShelfBuild Build RowS Unpacked InflateUnpackWalk. -/
import Derived.Test.YthpdcnjaodjjmaaInflateUnpackQ7
import Derived.Test.YthpdcnjaodjjmaaInflateUnpackQ5
import Derived.Shelf.Strings.Builder1
import Derived.Test.YthpdcnjaodjjmaaProg
import Derived.Test.YthpdcnjaodjjmaaInflateUnpackQ1
import Derived.Test.YthpdcnjaodjjmaaInflateUnpackQ4
/- reliquaryref: the unpacker: a block: the walk. -/
namespace Go.Proofs.Ythpdcnjaodjjmaa.Unp
open Go Go.RowKit Go.Proofs.Ythpdcnjaodjjmaa Go.Proofs.Ythpdcnjaodjjmaa.Bits Go.Proofs.Ythpdcnjaodjjmaa.Code
open Go.Proofs.Ythpdcnjaodjjmaa.Inf hiding then_ok tyI
open Go.Proofs.Ythpdcnjaodjjmaa.Cds (HasBook next_any codebook_any lkup)
set_option linter.unusedVariables false
set_option linter.unusedSimpArgs false

theorem fill_pos {p n : Nat} (h : p ≤ n) (h8 : n % 8 = 0) : fillP p ≤ n := by unfold fillP; omega
theorem say_same (s : St) (x : UInt8) : (usay s x).pos = s.pos ∧ (usay s x).ks = s.ks := by
  unfold usay
  split
  · split <;> exact ⟨rfl, rfl⟩
  · exact ⟨rfl, rfl⟩
theorem say_len {s : St} (x : UInt8) (h : s.out.length ≤ 3000) : (usay s x).out.length ≤ 3000 := by
  unfold usay
  split
  · unfold pushR
    split
    · rename_i heq; split at heq
      · cases heq
      · injection heq with heq; subst heq
        dsimp only
        rw [List.length_append, List.length_cons, List.length_nil]
        omega
    · exact h
  · exact h
theorem fill_cast (p : Nat) : ((p : Int) + 7) / 8 * 8 = ((fillP p : Nat) : Int) := by unfold fillP; omega
theorem raw_step {row : List Bool} {n k : Nat} {s : St} (hk : k < n) (he : s.e = 0) : uraw row (n - k) s = uraw row (n - (k + 1)) (usay (uget row s 8).2 (UInt8.ofNat (uget row s 8).1)) := by
  obtain ⟨f, hf⟩ : ∃ f, n - k = f + 1 := ⟨n - k - 1, by omega⟩
  rw [hf, show n - (k + 1) = f by omega]
  conv => lhs; unfold uraw
  rw [if_pos he]
theorem raw_end {row : List Bool} {n k : Nat} {s : St} (h : ¬ (k < n ∧ s.e = 0)) : uraw row (n - k) s = s := by
  by_cases he : s.e = 0
  · rw [show n - k = 0 by omega]; rfl
  · exact raw_stuck he
/-- the unpacker's place is set -/
theorem UAt.setPos {w : World} {base p q : Nat} {row : List Bool} {s : St} {vo vk : Value} (h : UAt w base p row s vo vk) (hq : q = fillP s.pos) : UAt (w.setCell ⟨p, 1, none⟩ (.int .i64 (q : Int))) base p row (ufill s) vo vk ∧ Keeps base unpT w (w.setCell ⟨p, 1, none⟩ (.int .i64 (q : Int))) := by
  obtain ⟨h1, h2, h3, h4⟩ := h
  have hs := u_set (i := 1) (u := .int .i64 (q : Int)) h2 h3 h4
  subst hq
  exact ⟨⟨h1, hs.1, hs.2.1, hs.2.2⟩, (Keeps.refl _ _ _).setBlk h2 (by simp [unpT]) h1 1 _⟩
theorem kex {W : World} {e : TypeId} {b o : Nat} {l : List (Nat × Nat)} (h : KAt W e (some ⟨b, o, none⟩) (l.flatMap exC)) {k : Nat} (hk : k < l.length) : W.cell? ⟨b, o + k * 2, none⟩ = some (.int .i64 ((l.getD k (0, 0)).1 : Int)) ∧ W.cell? ⟨b, o + k * 2 + 1, none⟩ = some (.int .i64 ((l.getD k (0, 0)).2 : Int)) := by
  obtain ⟨b', o', e1, h1, h2⟩ := ex_cells h.slat hk
  injection e1 with e1
  injection e1 with e1 e2 e3
  subst e1 e2
  rw [List.getD_eq_getElem?_getD, List.getElem?_eq_getElem hk]
  exact ⟨h1, h2⟩
theorem same_small : ∀ j < 29, (sameL.getD j (0, 0)).2 ≤ 5 ∧ (sameL.getD j (0, 0)).1 ≤ 258 := by decide
theorem far_small : ∀ j < 30, (farL.getD j (0, 0)).2 ≤ 13 ∧ (farL.getD j (0, 0)).1 ≤ 24577 := by decide
theorem place_mono (row : List Bool) (ls : List Nat) (s : St) : s.pos ≤ (uplace row ls s).2.pos := by
  unfold uplace
  split
  · unfold symR
    split
    · rename_i heq; split at heq
      · injection heq with heq; subst heq; exact Nat.le_add_right _ _
      · cases heq
    · exact Nat.le_refl _
  · exact Nat.le_refl _
theorem say_ge (s : St) (x : UInt8) : s.out.length ≤ (usay s x).out.length := by
  unfold usay
  split
  · unfold pushR
    split
    · rename_i heq; split at heq
      · cases heq
      · injection heq with heq; subst heq
        dsimp only
        rw [List.length_append]
        exact Nat.le_add_right _ _
    · exact Nat.le_refl _
  · exact Nat.le_refl _
theorem copy_end {d r : Nat} {s : St} (h : ¬ (0 < r ∧ s.e = 0)) : ucopy d r s = s := by
  by_cases he : s.e = 0
  · have : r = 0 := by
      rcases Nat.eq_zero_or_pos r with h1 | h1
      · exact h1
      · exact absurd ⟨h1, he⟩ h
    rw [this]; rfl
  · exact copy_stuck he
theorem far_pos : ∀ j < 30, 1 ≤ (farL.getD j (0, 0)).1 := by decide
theorem lsOf_zs2 (l : List Nat) : lsOf (zsOf l) = l := lsOf_zs l
def posAt (p : Nat) (w : World) : Nat := match w.cell? ⟨p, 1, none⟩ with
  | some (.int _ z) => z.toNat
  | _ => 0
theorem posAt_u {w : World} {base p : Nat} {row : List Bool} {s : St} {vo vk : Value} (h : UAt w base p row s vo vk) : posAt p w = s.pos := by
  unfold posAt
  rw [(u_cells h.2.1).2.1]
  simp
theorem body_end {row : List Bool} {lit far : List Nat} {s : St} (h : s.e ≠ 0) (f : Nat) : ubody row lit far f s = s := body_stuck h
theorem body_go {row : List Bool} {lit far : List Nat} {f : Nat} {s : St} (h : s.e = 0) : ubody row lit far (f + 1) s = if (uplace row lit s).2.e ≠ 0 ∨ (uplace row lit s).1 = 256 then (uplace row lit s).2
      else if (uplace row lit s).1 < 256 then ubody row lit far f (usay (uplace row lit s).2 (UInt8.ofNat (uplace row lit s).1))
      else if 285 < (uplace row lit s).1 then uwrong (uplace row lit s).2 8
      else
        let q := uget row (uplace row lit s).2 (sameL.getD ((uplace row lit s).1 - 257) (0, 0)).2
        let g := uplace row far q.2
        let s4 := uif (29 < g.1) g.2 8
        if s4.e ≠ 0 then s4
        else
          let y := uget row s4 (farL.getD g.1 (0, 0)).2
          ubody row lit far f (ucopy ((farL.getD g.1 (0, 0)).1 + y.1) ((sameL.getD ((uplace row lit s).1 - 257) (0, 0)).1 + q.1) (uif (y.2.out.length < (farL.getD g.1 (0, 0)).1 + y.1) y.2 9)) := by
  conv => lhs; unfold ubody
  rw [if_pos h]
/-- what a block leaves behind -/
def BPost (base p : Nat) (row : List Bool) (R : Bool × St) (w : World) (e : Ending) (w' : World) : Prop := ∃ vo' vk', e = .returned (.bool R.1) ∧ UAt w' base p row R.2 vo' vk' ∧ Below base w w'
theorem bpost_mk {base p : Nat} {row : List Bool} {R : Bool × St} {w w' : World} {e : Ending} {b : Bool} {s : St} {vo vk : Value} (hR : R = (b, s)) (he : e = .returned (.bool b)) (hu : UAt w' base p row s vo vk) (hb : Below base w w') : BPost base p row R w e w' := ⟨vo, vk, by rw [hR]; exact he, by rw [hR]; exact hu, hb⟩
theorem one_eq (la : Nat) : ((la : Int) == 1) = (la == 1) := by
  rw [Bool.eq_iff_iff, beq_iff_eq, beq_iff_eq]; omega
theorem UAt.kind {w : World} {base p k : Nat} {row : List Bool} {s : St} {vo vk v8 : Value} {nk : Nat} (hbp : base ≤ p) (hB : Blk w p 61 #[rowV row, .int .i64 (s.pos : Int), vo, vk, .int .i64 s.e]) (hO : w.ownsRow base 5 1 vo s.out.length (s.out.map u8v)) (hn : s.ks.length = nk)
    (h8 : w.ownsRow base 3 1 v8 (nk + 1) (s.ks.map natV ++ [.int .i64 (k : Int)])) : UAt (w.setCell ⟨p, 3, none⟩ v8) base p row (ukind s k) vo v8 := by
  have hs := u_set (i := 3) (u := v8) hB hO h8
  refine ⟨hbp, hs.1, hs.2.1, ?_⟩
  show World.ownsRow _ _ _ _ _ (s.ks ++ [k]).length ((s.ks ++ [k]).map natV)
  rw [List.length_append, List.map_append, hn]
  exact hs.2.2
set_option maxRecDepth 100000 in
set_option maxHeartbeats 16000000 in
theorem block_u (base p : Nat) (row : List Bool) (s : St) (w : World) {vo vk : Value} (h : UAt w base p row s vo vk) (hp : s.pos ≤ row.length) (hr : row.length ≤ 1000000) (h8 : row.length % 8 = 0) (ho : s.out.length ≤ 3000) (hks : s.ks.length ≤ 1000000) :
    Calls Try.prog 29 #[.pointer (some ⟨p, 0, none⟩)] w (BPost base p row (ublock row s) w) := by
  have hbw := h.bs
  obtain ⟨R, hR⟩ : ∃ R, R = ublock row s := ⟨_, rfl⟩
  rw [← hR]
  have HG1 := Lib.hid (get_u base p 1 row s w h hp hr (by omega))
  have q1 := get_pos (n := 1) hp
  have o1 := get_out row s 1
  have HR := Lib.hid (show R = (if (uget row (uget row s 1).2 2).2.e ≠ 0 then (true, (uget row (uget row s 1).2 2).2) else if (uget row (uget row s 1).2 2).1 = 0 then ((uget row s 1).1 == 1, ukind (ustored row (uget row (uget row s 1).2 2).2) (uget row (uget row s 1).2 2).1)
    else
      let t := if (uget row (uget row s 1).2 2).1 = 1 then ((fixedA, fixedB), (uget row (uget row s 1).2 2).2) else if (uget row (uget row s 1).2 2).1 = 2 then utold row (uget row (uget row s 1).2 2).2 else (([], []), uwrong (uget row (uget row s 1).2 2).2 4)
      if t.2.e ≠ 0 then (true, t.2)
      else ((uget row s 1).1 == 1, ukind (ubody row t.1.1 t.1.2 (row.length + 1) t.2) (uget row (uget row s 1).2 2).1)) from hR)
  clear hR
  generalize uget row s 1 = g at *
  obtain ⟨la, s1⟩ := g
  dsimp only at q1 o1 HG1 HR
  rw [← o1.1] at ho
  rw [← o1.2] at hks
  clear h hp o1
  go_enter Try.func29, Try.ntmps29
  go_wp2_with fail
  refine (HG1.out).mono ?_
  rintro e w1 ⟨rfl, hu1, hk1⟩
  have HG2 := Lib.hid (get_u base p 2 row s1 w1 hu1 q1 hr (by omega))
  have q2 := get_pos (n := 2) q1
  have x2 : (uget row s1 2).1 < 4 := get_lt row s1 2
  have o2 := get_out row s1 2
  generalize uget row s1 2 = g at *
  obtain ⟨kd, s2⟩ := g
  dsimp only at q2 x2 HG2 HR o2
  rw [← o2.1] at ho
  rw [← o2.2] at hks
  have Hk1 := Lib.hid hk1
  clear hu1 hk1 HG1 o2 q1
  go_wp2_with fail
  refine (HG2.out).mono ?_
  rintro e w2 ⟨rfl, hu2, hk2⟩
  have Hu2 := Lib.hid hu2
  have Hk2 := Lib.hid (Hk1.out.trans hk2)
  have hc4 := (u_cells hu2.2.1).2.2.2.2
  have hc1 := (u_cells hu2.2.1).2.1
  clear hu2 hk2 HG2 Hk1
  by_cases he : s2.e = 0
  · have heb : (s2.e == 0) = true := by rw [he]; rfl
    rw [he] at hc4
    by_cases hk0 : kd = 0
    · subst hk0
      replace HR := Lib.hid (show R = (la == 1, ukind (ustored row s2) 0) by rw [HR.out, if_neg (fun h => h he), if_pos rfl])
      have hfp2 : fillP s2.pos ≤ row.length := fill_pos q2 h8
      have hfc : ((s2.pos : Int) + 7) / 8 * 8 = ((fillP s2.pos : Nat) : Int) := fill_cast _
      obtain ⟨hu3, hk3⟩ := Hu2.out.setPos rfl
      have HK3 := Lib.hid (Hk2.out.trans hk3)
      have q3 : (ufill s2).pos ≤ row.length := hfp2
      have o3 : (ufill s2).out.length ≤ 3000 := ho
      have k3 : (ufill s2).ks.length ≤ 1000000 := hks
      have HG3 := Lib.hid (get_u base p 16 row (ufill s2) _ hu3 q3 hr (by omega))
      have hf1 : w2.frozen? ⟨p, 1, none⟩ = false := Hu2.out.2.1.frozen 1
      replace HR := Lib.hid (show R = (la == 1, ukind (uraw row (uget row (ufill s2) 16).1 (uif ((uget row (ufill s2) 16).1 + (uget row (uget row (ufill s2) 16).2 16).1 ≠ 65535) (uget row (uget row (ufill s2) 16).2 16).2 4)) 0) from HR.out)
      clear hu3 hk3
      go_wp2_with fail
      refine (HG3.out).mono ?_
      rintro e w4 ⟨rfl, hu4, hk4⟩
      replace HK3 := Lib.hid (HK3.out.trans hk4)
      have q4 := get_pos (n := 16) q3
      have x4 : (uget row (ufill s2) 16).1 < 65536 := get_lt row (ufill s2) 16
      have o4 := get_out row (ufill s2) 16
      clear q3 HG3
      generalize uget row (ufill s2) 16 = g at *
      obtain ⟨n, s4⟩ := g
      dsimp only at q4 x4 o4 hu4 HR ⊢
      have HG4 := Lib.hid (get_u base p 16 row s4 w4 hu4 q4 hr (by omega))
      rw [← o4.1] at o3
      rw [← o4.2] at k3
      clear hu4 hk4 o4 hfp2 hfc hf1 hc1 hc4
      go_wp2_with fail
      refine (HG4.out).mono ?_
      rintro e w5 ⟨rfl, hu5, hk5⟩
      replace HK3 := Lib.hid (HK3.out.trans hk5)
      have q5 := get_pos (n := 16) q4
      have x5 : (uget row s4 16).1 < 65536 := get_lt row s4 16
      have o5 := get_out row s4 16
      clear q4 HG4
      generalize uget row s4 16 = g at *
      obtain ⟨nt, s5⟩ := g
      dsimp only at q5 x5 o5 hu5 HR ⊢
      rw [← o5.1] at o3
      rw [← o5.2] at k3
      have hc5 := (u_cells hu5.2.1).2.2.2.2
      have HU5 := Lib.hid hu5
      clear hu5 hk5 o5
      go_upto_region 9 with fail
      have hsum : IntKind.i64.wrap ((n : Int) + (nt : Int)) = (n : Int) + (nt : Int) := IntWalk.i64_in _ (by omega)
      go_cut [58] from 48 to 58 (fun bv wx => bv = .bool (decide (s5.e = 0 ∧ n + nt ≠ 65535)) ∧ wx = w5)
      case first =>
        by_cases he5 : s5.e = 0
        · rw [he5] at hc5
          by_cases hn : n + nt = 65535
          · have hnb : ((n : Int) + (nt : Int) == 65535) = true := by rw [beq_iff_eq]; omega
            have hnn : ((n : Int) + (nt : Int) != 65535) = false := by rw [bne, hnb]; rfl
            go_wp2_with fail
            go_meet
            case rel => exact ⟨by simp [he5, hn], rfl⟩
          · have hnb : ((n : Int) + (nt : Int) == 65535) = false := by rw [beq_eq_false_iff_ne]; omega
            have hnn : ((n : Int) + (nt : Int) != 65535) = true := by rw [bne, hnb]; rfl
            go_wp2_with fail
            go_meet
            case rel => exact ⟨by simp [he5, hn], rfl⟩
        · have heb5 : (s5.e == 0) = false := by rw [beq_eq_false_iff_ne]; exact he5
          generalize hze : s5.e = ze at *
          go_wp2_with fail
          go_meet
          case rel => exact ⟨by simp [he5], rfl⟩
      case rest =>
        obtain ⟨rfl, rfl⟩ := hcut
        go_upto_if 58 with fail
        go_cut [58] from 59 to 60 (fun bv wx => (∃ bb, bv = .bool bb) ∧ UAt wx base p row (uif (n + nt ≠ 65535) s5 4) vo vk ∧ Keeps base unpT w wx)
        case first =>
          by_cases hb : s5.e = 0 ∧ n + nt ≠ 65535
          · have HW := Lib.hid (wrong_u base p 4 row s5 _ HU5.out)
            have E1 : Hid (uif (n + nt ≠ 65535) s5 4 = uwrong s5 4) := Lib.hid (by unfold uif; rw [if_pos hb])
            rw [show decide (s5.e = 0 ∧ n + nt ≠ 65535) = true from by simpa using hb]
            clear hb
            go_wp2_with fail
            refine (HW.out).mono ?_
            rintro e w12 ⟨rfl, hu12, hk12⟩
            have HU12 := Lib.hid hu12
            have HK12 := Lib.hid (HK3.out.trans hk12)
            clear hu12 hk12 HW
            go_wp2_with fail
            go_meet
            case rel => exact ⟨⟨_, rfl⟩, by rw [E1.out]; exact HU12.out, HK12.out⟩
          · have E1 : Hid (uif (n + nt ≠ 65535) s5 4 = s5) := Lib.hid (by unfold uif; rw [if_neg hb])
            rw [show decide (s5.e = 0 ∧ n + nt ≠ 65535) = false from by simpa using hb]
            clear hb
            go_wp2_with fail
            go_meet
            case rel => exact ⟨⟨_, rfl⟩, by rw [E1.out]; exact HU5.out, HK3.out⟩
        case rest =>
          obtain ⟨⟨bb, rfl⟩, hu6, hk6⟩ := hcut
          have HU6 := Lib.hid hu6
          have HK6 := Lib.hid hk6
          have q6 : (uif (n + nt ≠ 65535) s5 4).pos ≤ row.length := by rw [(if_same _ s5 4).1]; exact q5
          have o6 : (uif (n + nt ≠ 65535) s5 4).out.length ≤ 3000 := by rw [(if_same _ s5 4).2.1]; exact o3
          have k6 : (uif (n + nt ≠ 65535) s5 4).ks = s5.ks := (if_same _ s5 4).2.2
          rw [← k6] at k3
          generalize uif (n + nt ≠ 65535) s5 4 = s6 at *
          clear hu6 hk6 hc5 HU5 HK3 k6 Hu2 Hk2
          rename World => w6
          have HU0 : Hid (uraw row n s6 = uraw row (n - 0) s6) := Lib.hid rfl
          obtain ⟨U, hU⟩ : ∃ U, U = uraw row n s6 := ⟨_, rfl⟩
          rw [← hU] at HR
          clear HU0
          have HU0 := Lib.hid hU
          clear hU
          go_wp2_with fail
          go_loopw [9] (fun vi wr => ∃ (k : Nat) (sk : St) (vo' : Value), k ≤ n ∧ vi = .int .i64 (k : Int) ∧ U = uraw row (n - k) sk ∧ sk.pos ≤ row.length ∧ sk.out.length ≤ 3000 ∧ sk.ks.length ≤ 1000000 ∧ UAt wr base p row sk vo' vk ∧ Keeps base unpT w wr) (fun vi _ => n - (intOf vi).toNat)
          case atStart => exact ⟨0, s6, vo, Nat.zero_le _, rfl, HU0.out, q6, o6, k3, HU6.out, HK6.out⟩
          case round =>
            clear HU0 HU6 HK6 q6 o6 k3
            obtain ⟨k, sk, vo', hkn, rfl, hU, qk, ok, kk, hu, hk⟩ := hrel
            have HU := Lib.hid hU
            have Hu := Lib.hid hu
            have Hk := Lib.hid hk
            have hc4 := (u_cells hu.2.1).2.2.2.2
            have hc3 := (u_cells hu.2.1).2.2.2.1
            clear hU hu hk
            by_cases hgo : k < n ∧ sk.e = 0
            · obtain ⟨hlt, he⟩ := hgo
              replace HU := Lib.hid (show U = uraw row (n - (k + 1)) (usay (uget row sk 8).2 (UInt8.ofNat (uget row sk 8).1)) by rw [HU.out]; exact raw_step hlt he)
              have HG := Lib.hid (get_u base p 8 row sk wr Hu.out qk hr (by omega))
              have q8 := get_pos (n := 8) qk
              have x8 : (uget row sk 8).1 < 256 := get_lt row sk 8
              have o8 := get_out row sk 8
              have hlt' : (k : Int) < (n : Int) := by omega
              rw [he] at hc4
              generalize uget row sk 8 = g at *
              obtain ⟨x, s8⟩ := g
              dsimp only at q8 x8 o8 HG HU
              rw [← o8.1] at ok
              rw [← o8.2] at kk
              clear o8 he
              go_wp2_with fail
              refine (HG.out).mono ?_
              rintro e w8 ⟨rfl, hu8, hk8⟩
              have hx8 : (x : Int) % 256 = n8 (UInt8.ofNat x) := by unfold n8; rw [UInt8.toNat_ofNat']; omega
              have hx9 : (x : Int) = n8 (UInt8.ofNat x) := by unfold n8; rw [UInt8.toNat_ofNat']; omega
              have HS := Lib.hid (say_u base p (UInt8.ofNat x) row s8 w8 hu8 ok)
              have Hk8 := Lib.hid (Hk.out.trans hk8)
              have q9 : (usay s8 (UInt8.ofNat x)).pos ≤ row.length := by rw [(say_same s8 _).1]; exact q8
              have k9 : (usay s8 (UInt8.ofNat x)).ks.length ≤ 1000000 := by rw [(say_same s8 _).2]; exact kk
              have o9 := say_len (UInt8.ofNat x) ok
              clear hu8 hk8 HG Hk Hu
              generalize UInt8.ofNat x = xb at *
              generalize usay s8 xb = s9 at *
              go_wp2_with fail
              refine (HS.out).mono ?_
              rintro e w10 ⟨rfl, ⟨vo2, hu10⟩, hk10⟩
              have Hu10 := Lib.hid hu10
              have Hk10 := Lib.hid (Hk8.out.trans hk10)
              clear hu10 hk10 HS Hk8
              go_wp2_with fail
              go_roundw
              case rel => exact ⟨k + 1, s9, vo2, by omega, by go_num, HU.out, q9, o9, k9, Hu10.out, Hk10.out⟩
              case measure => simp [intOf]; omega
            · have HUe : Hid (U = sk) := Lib.hid (by rw [HU.out]; exact raw_end hgo)
              rw [HUe.out] at HR
              clear HU HUe
              obtain ⟨nk0, hnk0⟩ : ∃ x, x = sk.e := ⟨_, rfl⟩
              have hex : ¬ (k < n) ∨ sk.e ≠ 0 := by
                rcases Nat.lt_or_ge k n with h | h
                · exact .inr (fun he => hgo ⟨h, he⟩)
                · exact .inl (by omega)
              clear hnk0 nk0
              by_cases hlt : k < n
              · have he : sk.e ≠ 0 := fun he => hgo ⟨hlt, he⟩
                have hlt' : (k : Int) < (n : Int) := by omega
                have heb2 : (sk.e == 0) = false := by rw [beq_eq_false_iff_ne]; exact he
                generalize hze : sk.e = ze at *
                clear he hex hgo
                have hba : Below wr.heap.size wr (wr.alloc (.cells #[.int .i64 (0 : Int)] 3)) := (Below.refl _ _).alloc (Nat.le_refl _) _
                obtain ⟨hbp, HBk, HOk, HKk⟩ := Hu.out.below hba
                have HBa := Lib.hid HBk
                have HOa := Lib.hid HOk
                have HKa := Lib.hid HKk
                have Hka := Lib.hid (Below.alloc Hk.out.below (Nat.le_trans hbw Hk.out.size) (.cells #[.int .i64 (0 : Int)] 3))
                have HZ : Hid (SlAt (wr.alloc (.cells #[.int .i64 (0 : Int)] 3)) (some ⟨wr.heap.size, 0, none⟩) [.int .i64 (0 : Int)]) := Lib.hid (SlAt.of_heap (heap_alloc_new _ _) rfl)
                have Hbs : Hid (base ≤ (wr.alloc (.cells #[.int .i64 (0 : Int)] 3)).heap.size) := Lib.hid (Nat.le_trans (Nat.le_trans hbw Hk.out.size) (by simp))
                generalize hnk : sk.ks.length = nk at *
                have Hnk := Lib.hid hnk
                clear hba HBk HOk HKk hnk
                go_wp2_with (at_builtin; refine wpList_app _ rfl (.tmp 82) (.tmp 84) _ rfl base 3 _ 1 8 Inf.tyI _ nk (sk.ks.map natV) rfl HKa.out (some ⟨wr.heap.size, 0, none⟩) 1 1 [.int .i64 (0 : Int)] rfl rfl HZ.out (by simp [Value.oneCell']) (by simp) (by unfold maxLen; omega) (by omega) Hbs.out ?_; intro v8 w8 hown8 hg8 _; obtain ⟨g8, cap8, hv8, _, _⟩ := hown8.form (by omega); subst hv8; have HO8 := Lib.hid hown8; have HB8 := Lib.hid (HBa.out.grown hg8 (own_ne HKa.out HBa.out (by decide))); have HV8 := Lib.hid (Weigh.own_grownV HOa.out HKa.out hg8 (by decide)); have Hk8 := Lib.hid (own_below HKa.out hg8 Hka.out Hbs.out); clear hown8 hg8; have f8 := HB8.out.frozen 3; obtain ⟨_, _, _, e3, _⟩ := u_cells HB8.out)
                go_ret
                rw [← one_eq] at HR
                exact bpost_mk HR.out rfl (UAt.kind hbp HB8.out HV8.out Hnk.out HO8.out) (Hk8.out.setCell (p := ⟨p, 3, none⟩) hbp _)

              · have hlt' : ¬ (k : Int) < (n : Int) := by omega
                generalize hze : sk.e = ze at *
                clear hex hgo
                have hba : Below wr.heap.size wr (wr.alloc (.cells #[.int .i64 (0 : Int)] 3)) := (Below.refl _ _).alloc (Nat.le_refl _) _
                obtain ⟨hbp, HBk, HOk, HKk⟩ := Hu.out.below hba
                have HBa := Lib.hid HBk
                have HOa := Lib.hid HOk
                have HKa := Lib.hid HKk
                have Hka := Lib.hid (Below.alloc Hk.out.below (Nat.le_trans hbw Hk.out.size) (.cells #[.int .i64 (0 : Int)] 3))
                have HZ : Hid (SlAt (wr.alloc (.cells #[.int .i64 (0 : Int)] 3)) (some ⟨wr.heap.size, 0, none⟩) [.int .i64 (0 : Int)]) := Lib.hid (SlAt.of_heap (heap_alloc_new _ _) rfl)
                have Hbs : Hid (base ≤ (wr.alloc (.cells #[.int .i64 (0 : Int)] 3)).heap.size) := Lib.hid (Nat.le_trans (Nat.le_trans hbw Hk.out.size) (by simp))
                generalize hnk : sk.ks.length = nk at *
                have Hnk := Lib.hid hnk
                clear hba HBk HOk HKk hnk
                go_wp2_with (at_builtin; refine wpList_app _ rfl (.tmp 82) (.tmp 84) _ rfl base 3 _ 1 8 Inf.tyI _ nk (sk.ks.map natV) rfl HKa.out (some ⟨wr.heap.size, 0, none⟩) 1 1 [.int .i64 (0 : Int)] rfl rfl HZ.out (by simp [Value.oneCell']) (by simp) (by unfold maxLen; omega) (by omega) Hbs.out ?_; intro v8 w8 hown8 hg8 _; obtain ⟨g8, cap8, hv8, _, _⟩ := hown8.form (by omega); subst hv8; have HO8 := Lib.hid hown8; have HB8 := Lib.hid (HBa.out.grown hg8 (own_ne HKa.out HBa.out (by decide))); have HV8 := Lib.hid (Weigh.own_grownV HOa.out HKa.out hg8 (by decide)); have Hk8 := Lib.hid (own_below HKa.out hg8 Hka.out Hbs.out); clear hown8 hg8; have f8 := HB8.out.frozen 3; obtain ⟨_, _, _, e3, _⟩ := u_cells HB8.out)
                go_ret
                rw [← one_eq] at HR
                exact bpost_mk HR.out rfl (UAt.kind hbp HB8.out HV8.out Hnk.out HO8.out) (Hk8.out.setCell (p := ⟨p, 3, none⟩) hbp _)
    · have hkb0 : ((kd : Int) == 0) = false := by rw [beq_eq_false_iff_ne]; omega
      clear hc1
      by_cases hk3 : kd = 3
      · subst hk3
        have HW := Lib.hid (wrong_u base p 4 row s2 w2 Hu2.out)
        have hw4 : (uwrong s2 4).e = 4 := by rw [wrong_yes he]
        replace HR := Lib.hid (show R = (true, uwrong s2 4) by
          have e3 : (if (3 : Nat) = 1 then ((fixedA, fixedB), s2) else if (3 : Nat) = 2 then utold row s2 else (([], []), uwrong s2 4)) = (([], []), uwrong s2 4) := rfl
          rw [HR.out, if_neg (fun h => h he), if_neg (by decide), e3, if_pos (by rw [hw4]; decide)])
        clear he
        go_wp2_with fail
        refine (HW.out).mono ?_
        rintro e w3 ⟨rfl, hu3, hk3⟩
        have hc3 := (u_cells hu3.2.1).2.2.2.2
        rw [hw4] at hc3
        have Hu3 := Lib.hid hu3
        have Hk3 := Lib.hid (Hk2.out.trans hk3)
        clear hu3 hk3 HW hc4
        go_wp2_with fail
        go_ret
        exact bpost_mk HR.out rfl Hu3.out Hk3.out.below
      · obtain ⟨t, ht⟩ : ∃ t, t = if kd = 1 then ((fixedA, fixedB), s2) else utold row s2 := ⟨_, rfl⟩
        replace HR := Lib.hid (show R = if t.2.e ≠ 0 then (true, t.2) else (la == 1, ukind (ubody row t.1.1 t.1.2 (row.length + 1) t.2) kd) by
          rw [HR.out, if_neg (fun h => h he), if_neg hk0, ht]
          rcases (show kd = 1 ∨ kd = 2 by omega) with h | h
          · rw [h]; rfl
          · rw [h]; rfl)
        have hT : t.2.pos ≤ row.length ∧ t.2.out = s2.out ∧ t.2.ks = s2.ks ∧ (t.2.e = 0 → chkL (zsOf t.1.1) = 0 ∧ chkL (zsOf t.1.2) = 0) := by
          rw [ht]
          split
          · exact ⟨q2, rfl, rfl, fun _ => fix_chk⟩
          · exact told_facts row s2 q2
        have HT := Lib.hid hT
        go_upto_block 0 with fail
        go_cut [5, 6] from 23 to 104 (fun va vb wx => ∃ A na ca B nb cb, va = .slice A na ca ∧ vb = .slice B nb cb ∧ (t.2.e = 0 → na = t.1.1.length ∧ nb = t.1.2.length ∧ SlAt wx A (t.1.1.map natV) ∧ SlAt wx B (t.1.2.map natV)) ∧ UAt wx base p row t.2 vo vk ∧ Keeps base unpT w wx)
        case first =>
          by_cases hk1 : kd = 1
          · subst hk1
            rw [if_pos rfl] at ht
            have Ht := Lib.hid ht
            clear ht hT he
            go_wp2_with fail
            refine (fixedL_any _).mono ?_
            rintro e w3 ⟨⟨A, a, B, b, rfl, h1, h2⟩, hb3⟩
            have H1 := Lib.hid h1
            have H2 := Lib.hid h2
            have Hu3 := Lib.hid (Hu2.out.below hb3)
            have Hk3 := Lib.hid (Hk2.out.trans (Keeps.of_below hb3 Hu2.out.bs))
            clear h1 h2 hb3
            go_wp2_with fail
            go_meet
            case rel => exact ⟨_, _, _, _, _, _, rfl, rfl, by rw [Ht.out]; exact fun _ => ⟨rfl, rfl, H1.out, H2.out⟩, by rw [Ht.out]; exact Hu3.out, Hk3.out⟩
          · have hk2' : kd = 2 := by omega
            subst hk2'
            rw [if_neg (by decide)] at ht
            have Ht := Lib.hid ht
            have HTl := Lib.hid (told_u base p row s2 w2 Hu2.out q2 hr)
            clear ht hT he hk1 hk3
            go_wp2_with fail
            refine (HTl.out).mono ?_
            rintro e w3 ⟨⟨A, na, ca, B, nb, cb, rfl, h1⟩, hu3, hk3⟩
            have H1 := Lib.hid h1
            have Hu3 := Lib.hid hu3
            have Hk3 := Lib.hid (Hk2.out.trans hk3)
            clear h1 hu3 hk3 HTl
            go_wp2_with fail
            go_meet
            case rel => exact ⟨_, _, _, _, _, _, rfl, rfl, by rw [Ht.out]; exact H1.out, by rw [Ht.out]; exact Hu3.out, Hk3.out⟩
        case rest =>
          obtain ⟨A, na, ca, B, nb, cb, rfl, rfl, hab, hu, hk⟩ := hcut
          have Hab := Lib.hid hab
          have Hu := Lib.hid hu
          have Hk := Lib.hid hk
          have hcE := (u_cells hu.2.1).2.2.2.2
          rename World => w3
          clear ht hT hab hu hk Hu2 Hk2 hc4 he heb
          by_cases het : t.2.e = 0
          · replace HR := Lib.hid (show R = (la == 1, ukind (ubody row t.1.1 t.1.2 (row.length + 1) t.2) kd) by rw [HR.out, if_neg (fun h => h het)])
            rw [het] at hcE
            go_wp2_with fail
            obtain ⟨⟨lit, far⟩, s3⟩ := t
            dsimp only at het HT Hab Hu hcE HR
            obtain ⟨t1, t2, t3, t4⟩ := HT.out
            obtain ⟨c1, c2⟩ := t4 het
            obtain ⟨rfl, rfl, h1, h2⟩ := Hab.out het
            rw [← t2] at ho
            rw [← t3] at hks
            have H1 := Lib.hid h1
            have H2 := Lib.hid h2
            have C1 := Lib.hid c1
            have C2 := Lib.hid c2
            clear t2 t3 t4 c1 c2 h1 h2 HT Hab
            refine (sizes_any _).mono ?_
            rintro e w4 ⟨⟨As, a, Bs, b, rfl, hs1, hs2⟩, hb4⟩
            have HS1 := Lib.hid hs1
            have HS2 := Lib.hid hs2
            have Hu4 := Lib.hid (Hu.out.below hb4)
            have Hk4 := Lib.hid (Hk.out.trans (Keeps.of_below hb4 Hu.out.bs))
            have H1' := Lib.hid (H1.out.below hb4)
            have H2' := Lib.hid (H2.out.below hb4)
            have HB1 := Lib.hid (codebook_any A lit.length ca (zsOf lit) w4 (zs_len lit) (inat_zs H1'.out) C1.out)
            clear hs1 hs2 hb4 Hu Hk H1 H2 H1'
            go_wp2_with fail
            refine (HB1.out).mono ?_
            rintro e w5 ⟨⟨gA, aA, rfl, hkA, hbA⟩, hb5⟩
            rw [lsOf_zs] at hbA
            have HA5 := Lib.hid hkA
            have HbA := Lib.hid hbA
            have HB2 := Lib.hid (codebook_any B far.length cb (zsOf far) w5 (zs_len far) (inat_zs (H2'.out.below hb5)) C2.out)
            have HS1' := Lib.hid (HS1.out.below hb5)
            have HS2' := Lib.hid (HS2.out.below hb5)
            have Hk5 := Lib.hid (Hk4.out.trans (Keeps.of_below hb5 Hu4.out.bs))
            have Hu5 := Lib.hid (Hu4.out.below hb5)
            clear hkA hbA hb5 HB1 HS1 HS2 H2' Hu4 Hk4
            go_wp2_with fail
            refine (HB2.out).mono ?_
            rintro e w6 ⟨⟨gB, aB, rfl, hkB, hbB⟩, hb6⟩
            rw [lsOf_zs] at hbB
            have HB6 := Lib.hid hkB
            have HbB := Lib.hid hbB
            have HA6 := Lib.hid (HA5.out.below hb6)
            have HS1 := Lib.hid (HS1'.out.below hb6)
            have HS2 := Lib.hid (HS2'.out.below hb6)
            have Hk6 := Lib.hid (Hk5.out.trans (Keeps.of_below hb6 Hu5.out.bs))
            have Hu6 := Lib.hid (Hu5.out.below hb6)
            clear hkB hbB hb6 HB2 HS1' HS2' HA5 Hu5 Hk5 hcE C1 C2
            obtain ⟨U, hU⟩ : ∃ U, U = ubody row lit far (row.length + 1) s3 := ⟨_, rfl⟩
            rw [← hU] at HR
            have HU0 := Lib.hid hU
            clear hU
            go_wp2_with fail
            go_loopw [] (fun wr => ∃ (f : Nat) (sk : St) (vo' : Value), row.length + 1 ≤ f + sk.pos ∧ U = ubody row lit far f sk ∧ sk.pos ≤ row.length ∧ sk.out.length ≤ 3000 ∧ sk.ks.length ≤ 1000000 ∧ UAt wr base p row sk vo' vk ∧ Keeps base unpT w wr ∧ KM rowV wr gA aA ∧ KM rowV wr gB aB ∧ KAt wr 98 As (sameL.flatMap exC) ∧ KAt wr 98 Bs (farL.flatMap exC)) (fun wr => row.length + 1 - posAt p wr)
            case atStart => exact ⟨row.length + 1, s3, vo, by omega, HU0.out, t1, ho, hks, Hu6.out, Hk6.out, HA6.out, HB6.out, HS1.out, HS2.out⟩
            case round =>
              clear HU0 Hu6 Hk6 HA6 HB6 HS1 HS2 t1 ho hks het
              obtain ⟨f, sk, vo', hf, hU, qk, ok, kk, hu, hk, hkA, hkB, hs1, hs2⟩ := hrel
              have HU := Lib.hid hU
              have Hu := Lib.hid hu
              have Hk := Lib.hid hk
              have HA := Lib.hid hkA
              have HB := Lib.hid hkB
              have HS1 := Lib.hid hs1
              have HS2 := Lib.hid hs2
              have hc4 := (u_cells hu.2.1).2.2.2.2
              have hc3 := (u_cells hu.2.1).2.2.2.1
              have Hp0 := Lib.hid (posAt_u hu)
              clear hU hu hk hkA hkB hs1 hs2
              by_cases he : sk.e = 0
              · obtain ⟨f, rfl⟩ : ∃ f', f = f' + 1 := ⟨f - 1, by omega⟩
                replace HU := Lib.hid (HU.out.trans (body_go he))
                have HP := Lib.hid (place_u base p gA aA lit row sk wr Hu.out qk hr HA.out HbA.out)
                have q4 := place_pos (ls := lit) qk
                have o4 := place_out row lit sk
                have a4 := place_adv row lit sk he
                have l4 := place_lt row lit sk
                rw [he] at hc4
                generalize uplace row lit sk = y at *
                obtain ⟨k, s4⟩ := y
                dsimp only at q4 o4 a4 l4 HP HU
                rw [← o4.1] at ok
                rw [← o4.2] at kk
                clear o4 he
                go_wp2_with fail
                refine (HP.out).mono ?_
                rintro e w8 ⟨rfl, hu8, hk8⟩
                have Hu8 := Lib.hid hu8
                have Hk8 := Lib.hid (Hk.out.trans hk8)
                have HA8 := Lib.hid (HA.out.keeps hk8)
                have HB8 := Lib.hid (HB.out.keeps hk8)
                have HS1' := Lib.hid (HS1.out.keeps hk8 (by decide))
                have HS2' := Lib.hid (HS2.out.keeps hk8 (by decide))
                have hd4 := (u_cells hu8.2.1).2.2.2.2
                have hd3 := (u_cells hu8.2.1).2.2.2.1
                clear hu8 hk8 HP Hu Hk HA HB HS1 HS2 hc3 hc4
                by_cases he4 : s4.e = 0
                · have q5 := a4 he4
                  by_cases h256 : k = 256
                  · have hkb : ((k : Int) == 256) = true := by rw [h256]; rfl
                    replace HU := Lib.hid (show U = s4 by rw [HU.out, if_pos (.inr h256)])
                    rw [HU.out] at HR
                    rw [he4] at hd4
                    clear h256 a4 HU
                    have hba : Below w8.heap.size w8 (w8.alloc (.cells #[.int .i64 (kd : Int)] 3)) := (Below.refl _ _).alloc (Nat.le_refl _) _
                    obtain ⟨hbp, HBk, HOk, HKk⟩ := Hu8.out.below hba
                    have HBa := Lib.hid HBk
                    have HOa := Lib.hid HOk
                    have HKa := Lib.hid HKk
                    have Hka := Lib.hid (Below.alloc Hk8.out.below (Nat.le_trans hbw Hk8.out.size) (.cells #[.int .i64 (kd : Int)] 3))
                    have HZ : Hid (SlAt (w8.alloc (.cells #[.int .i64 (kd : Int)] 3)) (some ⟨w8.heap.size, 0, none⟩) [.int .i64 (kd : Int)]) := Lib.hid (SlAt.of_heap (heap_alloc_new _ _) rfl)
                    have Hbs : Hid (base ≤ (w8.alloc (.cells #[.int .i64 (kd : Int)] 3)).heap.size) := Lib.hid (Nat.le_trans (Nat.le_trans hbw Hk8.out.size) (by simp))
                    generalize hnk : s4.ks.length = nk at *
                    have Hnk := Lib.hid hnk
                    clear hba HBk HOk HKk hnk
                    go_wp2_with (at_builtin; refine wpList_app _ rfl (.tmp 239) (.tmp 241) _ rfl base 3 _ 1 8 Inf.tyI _ nk (s4.ks.map natV) rfl HKa.out (some ⟨w8.heap.size, 0, none⟩) 1 1 [.int .i64 (kd : Int)] rfl rfl HZ.out (by simp [Value.oneCell']) (by simp) (by unfold maxLen; omega) (by omega) Hbs.out ?_; intro v8 w8 hown8 hg8 _; obtain ⟨g8, cap8, hv8, _, _⟩ := hown8.form (by omega); subst hv8; have HO8 := Lib.hid hown8; have HB8 := Lib.hid (HBa.out.grown hg8 (own_ne HKa.out HBa.out (by decide))); have HV8 := Lib.hid (Weigh.own_grownV HOa.out HKa.out hg8 (by decide)); have Hk8 := Lib.hid (own_below HKa.out hg8 Hka.out Hbs.out); clear hown8 hg8; have f8 := HB8.out.frozen 3; obtain ⟨_, _, _, e3, _⟩ := u_cells HB8.out)
                    go_ret
                    rw [← one_eq] at HR
                    exact bpost_mk HR.out rfl (UAt.kind hbp HB8.out HV8.out Hnk.out HO8.out) (Hk8.out.setCell (p := ⟨p, 3, none⟩) hbp _)
                  · have hkb : ((k : Int) == 256) = false := by rw [beq_eq_false_iff_ne]; omega
                    replace HU := Lib.hid (HU.out.trans (if_neg (by rintro (h | h); exact h he4; exact h256 h)))
                    by_cases hlt : k < 256
                    · have hlt' : (k : Int) < 256 := by omega
                      replace HU := Lib.hid (HU.out.trans (if_pos hlt))
                      have hx8 : (k : Int) % 256 = n8 (UInt8.ofNat k) := by unfold n8; rw [UInt8.toNat_ofNat']; omega
                      have hx9 : (k : Int) = n8 (UInt8.ofNat k) := by unfold n8; rw [UInt8.toNat_ofNat']; omega
                      have HS := Lib.hid (say_u base p (UInt8.ofNat k) row s4 w8 Hu8.out ok)
                      rw [← hx9] at HS
                      have q9 : (usay s4 (UInt8.ofNat k)).pos = s4.pos := (say_same s4 _).1
                      have k9 : (usay s4 (UInt8.ofNat k)).ks.length ≤ 1000000 := by rw [(say_same s4 _).2]; exact kk
                      have o9 := say_len (UInt8.ofNat k) ok
                      rw [he4] at hd4
                      generalize hxb : UInt8.ofNat k = xb at *
                      generalize usay s4 xb = s9 at *
                      clear hx8 hx9 Hu8 he4 hxb
                      go_wp2_with fail
                      refine (HS.out).mono ?_
                      rintro e w10 ⟨rfl, ⟨vo2, hu10⟩, hk10⟩
                      have Hu10 := Lib.hid hu10
                      have Hk10 := Lib.hid (Hk8.out.trans hk10)
                      have HA10 := Lib.hid (HA8.out.keeps hk10)
                      have HB10 := Lib.hid (HB8.out.keeps hk10)
                      have HS110 := Lib.hid (HS1'.out.keeps hk10 (by decide))
                      have HS210 := Lib.hid (HS2'.out.keeps hk10 (by decide))
                      have Hp10 := Lib.hid (posAt_u hu10)
                      clear hu10 hk10 HS Hk8 HA8 HB8 HS1' HS2'
                      go_wp2_with fail
                      go_roundw
                      case rel => exact ⟨f, s9, vo2, by omega, HU.out, by omega, o9, k9, Hu10.out, Hk10.out, HA10.out, HB10.out, HS110.out, HS210.out⟩
                      case measure => rw [Hp10.out, Hp0.out]; omega
                    · have hlt' : ¬ (k : Int) < 256 := by omega
                      replace HU := Lib.hid (HU.out.trans (if_neg hlt))
                      by_cases h285 : 285 < k
                      · have h285' : (285 : Int) < (k : Int) := by omega
                        replace HU := Lib.hid (show U = uwrong s4 8 from HU.out.trans (if_pos h285))
                        rw [HU.out] at HR
                        have HW := Lib.hid (wrong_u base p 8 row s4 w8 Hu8.out)
                        have kw : (uwrong s4 8).ks.length ≤ 1000000 := by rw [(wrong_same s4 8).2.2]; exact kk
                        rw [he4] at hd4
                        clear HU a4 h285 hlt h256 he4
                        go_wp2_with fail
                        refine (HW.out).mono ?_
                        rintro e w9 ⟨rfl, hu9, hk9⟩
                        have Hu9 := Lib.hid hu9
                        have Hk9 := Lib.hid (Hk8.out.trans hk9)
                        have hd3 := (u_cells hu9.2.1).2.2.2.1
                        clear hu9 hk9 HW Hu8 Hk8 hd4
                        generalize uwrong s4 8 = s9 at *
                        have hba : Below w9.heap.size w9 (w9.alloc (.cells #[.int .i64 (kd : Int)] 3)) := (Below.refl _ _).alloc (Nat.le_refl _) _
                        obtain ⟨hbp, HBk, HOk, HKk⟩ := Hu9.out.below hba
                        have HBa := Lib.hid HBk
                        have HOa := Lib.hid HOk
                        have HKa := Lib.hid HKk
                        have Hka := Lib.hid (Below.alloc Hk9.out.below (Nat.le_trans hbw Hk9.out.size) (.cells #[.int .i64 (kd : Int)] 3))
                        have HZ : Hid (SlAt (w9.alloc (.cells #[.int .i64 (kd : Int)] 3)) (some ⟨w9.heap.size, 0, none⟩) [.int .i64 (kd : Int)]) := Lib.hid (SlAt.of_heap (heap_alloc_new _ _) rfl)
                        have Hbs : Hid (base ≤ (w9.alloc (.cells #[.int .i64 (kd : Int)] 3)).heap.size) := Lib.hid (Nat.le_trans (Nat.le_trans hbw Hk9.out.size) (by simp))
                        generalize hnk : s9.ks.length = nk at *
                        have Hnk := Lib.hid hnk
                        clear hba HBk HOk HKk hnk
                        go_wp2_with (at_builtin; refine wpList_app _ rfl (.tmp 239) (.tmp 241) _ rfl base 3 _ 1 8 Inf.tyI _ nk (s9.ks.map natV) rfl HKa.out (some ⟨w9.heap.size, 0, none⟩) 1 1 [.int .i64 (kd : Int)] rfl rfl HZ.out (by simp [Value.oneCell']) (by simp) (by unfold maxLen; omega) (by omega) Hbs.out ?_; intro v8 w8 hown8 hg8 _; obtain ⟨g8, cap8, hv8, _, _⟩ := hown8.form (by omega); subst hv8; have HO8 := Lib.hid hown8; have HB8 := Lib.hid (HBa.out.grown hg8 (own_ne HKa.out HBa.out (by decide))); have HV8 := Lib.hid (Weigh.own_grownV HOa.out HKa.out hg8 (by decide)); have Hk8 := Lib.hid (own_below HKa.out hg8 Hka.out Hbs.out); clear hown8 hg8; have f8 := HB8.out.frozen 3; obtain ⟨_, _, _, e3, _⟩ := u_cells HB8.out)
                        go_ret
                        rw [← one_eq] at HR
                        exact bpost_mk HR.out rfl (UAt.kind hbp HB8.out HV8.out Hnk.out HO8.out) (Hk8.out.setCell (p := ⟨p, 3, none⟩) hbp _)
                      · have h285' : ¬ (285 : Int) < (k : Int) := by omega
                        replace HU := Lib.hid (HU.out.trans (if_neg h285))
                        obtain ⟨j, hj⟩ : ∃ j, j = k - 257 := ⟨_, rfl⟩
                        have hj29 : j < 29 := by omega
                        have hsub : IntKind.i64.wrap ((k : Int) - 257) = (j : Int) := by rw [show (k : Int) - 257 = (j : Int) by omega]; exact IntWalk.i64_in _ (by omega)
                        obtain ⟨bs, os, cur, rfl, _⟩ := HS1'.out (by decide)
                        have HSS : Hid (∀ W : World, KAt W 98 (some ⟨bs, os, none⟩) (sameL.flatMap exC) → W.cell? ⟨bs, os + j * 2, none⟩ = some (.int .i64 ((sameL.getD j (0, 0)).1 : Int)) ∧ W.cell? ⟨bs, os + j * 2 + 1, none⟩ = some (.int .i64 ((sameL.getD j (0, 0)).2 : Int))) := Lib.hid (fun W h => kex h (by show j < 29; exact hj29))
                        have hsm := same_small j hj29
                        rw [← hj] at HU
                        generalize sameL.getD j (0, 0) = fb at *
                        obtain ⟨fr, bt⟩ := fb
                        dsimp only at hsm HSS HU
                        have hj0 : (0 : Int) ≤ (j : Int) := by omega
                        have hj29' : (j : Int) < 29 := by omega
                        have h29n : ¬ (29 : Int) ≤ (j : Int) := by omega
                        rw [he4] at hd4
                        clear a4 hj h285 hlt h256
                        go_wp2_with fail
                        -- the length's bits
                        have HG := Lib.hid (get_u base p bt row s4 w8.drew (Hu8.out.drewN 1) q4 hr (by omega))
                        have x5 : (uget row s4 bt).1 < 32 := Nat.lt_of_lt_of_le (get_lt row s4 bt) (Nat.le_trans (Nat.pow_le_pow_right (by omega) hsm.1) (by decide))
                        have q6 := get_pos (n := bt) q4
                        have a6 := get_adv row s4 bt
                        have o6 := get_out row s4 bt
                        generalize uget row s4 bt = x at *
                        obtain ⟨x1, s5⟩ := x
                        dsimp only at x5 q6 a6 o6 HG HU
                        rw [← o6.1] at ok
                        rw [← o6.2] at kk
                        obtain ⟨m, hm⟩ : ∃ m, m = fr + x1 := ⟨_, rfl⟩
                        rw [← hm] at HU
                        have hwx : IntKind.i64.wrap ((fr : Int) + (x1 : Int)) = (m : Int) := by rw [show (fr : Int) + (x1 : Int) = (m : Int) by omega]; exact IntWalk.i64_in _ (by omega)
                        have hm300 : m ≤ 300 := by omega
                        clear hm o6 x5
                        refine wp_region_S (fun W => W.cell? ⟨bs, os + j * 2, none⟩ = some (.int .i64 (fr : Int)) ∧ W.cell? ⟨bs, os + j * 2 + 1, none⟩ = some (.int .i64 (bt : Int))) 15 (by kernel_rfl) ?_
                        have Hk9 := Lib.hid (Hk8.out.drew)
                        have HA9 := Lib.hid (HA8.out.keeps ((Keeps.refl base unpT w8).drew))
                        have HB9 := Lib.hid (HB8.out.keeps ((Keeps.refl base unpT w8).drew))
                        have HS19 := Lib.hid (HS1'.out.keeps ((Keeps.refl base unpT w8).drew) (by decide))
                        have HS29 := Lib.hid (HS2'.out.keeps ((Keeps.refl base unpT w8).drew) (by decide))
                        have hHeld := HSS.out w8.drew HS19.out
                        clear Hu8 Hk8 HA8 HB8 HS1' HS2' hd3 hd4
                        generalize w8.drew = w9 at *
                        refine wpAnyS_takeT (i := 0) (v := ?vc0) (by kernel_rfl) (by kernel_rfl) rfl (by kernel_rfl) (by kernel_rfl) (by kernel_rfl) (fun _ _ _ h => h) (by rfl) (by assumption) ?hyc0 ?restc0
                        case hyc0 => (intro W hSW; obtain ⟨hS1, hS2⟩ := hSW; (try dsimp only at hS1 hS2); go_simp; try with_reducible rfl)
                        (try simp only [Act.put, List.getElem_toArray, List.getElem_cons_zero, List.getElem_cons_succ, List.setIfInBounds_toArray, List.set_cons_zero, List.set_cons_succ])
                        refine wpAnyS_takeT (i := 1) (v := ?vc1) (by kernel_rfl) (by kernel_rfl) rfl (by kernel_rfl) (by kernel_rfl) (by kernel_rfl) (fun _ _ _ h => h) (by rfl) (by assumption) ?hyc1 ?restc1
                        case hyc1 => (intro W hSW; obtain ⟨hS1, hS2⟩ := hSW; (try dsimp only at hS1 hS2); go_simp; try with_reducible rfl)
                        (try simp only [Act.put, List.getElem_toArray, List.getElem_cons_zero, List.getElem_cons_succ, List.setIfInBounds_toArray, List.set_cons_zero, List.set_cons_succ])
                        refine wpAnyS_takeT (i := 2) (v := ?vc2) (by kernel_rfl) (by kernel_rfl) rfl (by kernel_rfl) (by kernel_rfl) (by kernel_rfl) (fun _ _ _ h => h) (by rfl) (by assumption) ?hyc2 ?restc2
                        case hyc2 => (intro W hSW; obtain ⟨hS1, hS2⟩ := hSW; (try dsimp only at hS1 hS2); go_simp; try with_reducible rfl)
                        (try simp only [Act.put, List.getElem_toArray, List.getElem_cons_zero, List.getElem_cons_succ, List.setIfInBounds_toArray, List.set_cons_zero, List.set_cons_succ])
                        refine wpAnyS_takeT (i := 3) (v := ?vc3) (by kernel_rfl) (by kernel_rfl) rfl (by kernel_rfl) (by kernel_rfl) (by kernel_rfl) (fun _ _ _ h => h) (by rfl) (by assumption) ?hyc3 ?restc3
                        case hyc3 => (intro W hSW; obtain ⟨hS1, hS2⟩ := hSW; (try dsimp only at hS1 hS2); go_simp; try with_reducible rfl)
                        (try simp only [Act.put, List.getElem_toArray, List.getElem_cons_zero, List.getElem_cons_succ, List.setIfInBounds_toArray, List.set_cons_zero, List.set_cons_succ])
                        refine wpAnyS_takeT (i := 4) (v := ?vc4) (by kernel_rfl) (by kernel_rfl) rfl (by kernel_rfl) (by kernel_rfl) (by kernel_rfl) (fun _ _ _ h => h) (by rfl) (by assumption) ?hyc4 ?restc4
                        case hyc4 => (intro W hSW; obtain ⟨hS1, hS2⟩ := hSW; (try dsimp only at hS1 hS2); go_simp; try with_reducible rfl)
                        (try simp only [Act.put, List.getElem_toArray, List.getElem_cons_zero, List.getElem_cons_succ, List.setIfInBounds_toArray, List.set_cons_zero, List.set_cons_succ])
                        refine wpAnyS_takeT (i := 5) (v := ?vc5) (by kernel_rfl) (by kernel_rfl) rfl (by kernel_rfl) (by kernel_rfl) (by kernel_rfl) (fun _ _ _ h => h) (by rfl) (by assumption) ?hyc5 ?restc5
                        case hyc5 => (intro W hSW; obtain ⟨hS1, hS2⟩ := hSW; (try dsimp only at hS1 hS2); go_simp; try with_reducible rfl)
                        (try simp only [Act.put, List.getElem_toArray, List.getElem_cons_zero, List.getElem_cons_succ, List.setIfInBounds_toArray, List.set_cons_zero, List.set_cons_succ])
                        refine wpAnyS_takeT (i := 6) (v := ?vc6) (by kernel_rfl) (by kernel_rfl) rfl (by kernel_rfl) (by kernel_rfl) (by kernel_rfl) (fun _ _ _ h => h) (by rfl) (by assumption) ?hyc6 ?restc6
                        case hyc6 => (intro W hSW; obtain ⟨hS1, hS2⟩ := hSW; (try dsimp only at hS1 hS2); go_simp; try with_reducible rfl)
                        (try simp only [Act.put, List.getElem_toArray, List.getElem_cons_zero, List.getElem_cons_succ, List.setIfInBounds_toArray, List.set_cons_zero, List.set_cons_succ])
                        refine wpAnyS_takeT (i := 7) (v := ?vc7) (by kernel_rfl) (by kernel_rfl) rfl (by kernel_rfl) (by kernel_rfl) (by kernel_rfl) (fun _ _ _ h => h) (by rfl) (by assumption) ?hyc7 ?restc7
                        case hyc7 => (intro W hSW; obtain ⟨hS1, hS2⟩ := hSW; (try dsimp only at hS1 hS2); go_simp; try with_reducible rfl)
                        (try simp only [Act.put, List.getElem_toArray, List.getElem_cons_zero, List.getElem_cons_succ, List.setIfInBounds_toArray, List.set_cons_zero, List.set_cons_succ])
                        refine wpAnyS_takeT (i := 8) (v := ?vc8) (by kernel_rfl) (by kernel_rfl) rfl (by kernel_rfl) (by kernel_rfl) (by kernel_rfl) (fun _ _ _ h => h) (by rfl) (by assumption) ?hyc8 ?restc8
                        case hyc8 => (intro W hSW; obtain ⟨hS1, hS2⟩ := hSW; (try dsimp only at hS1 hS2); go_simp; try with_reducible rfl)
                        (try simp only [Act.put, List.getElem_toArray, List.getElem_cons_zero, List.getElem_cons_succ, List.setIfInBounds_toArray, List.set_cons_zero, List.set_cons_succ])
                        refine wpAnyS_takeT (i := 9) (v := ?vc9) (by kernel_rfl) (by kernel_rfl) rfl (by kernel_rfl) (by kernel_rfl) (by kernel_rfl) (fun _ _ _ h => h) (by rfl) (by assumption) ?hyc9 ?restc9
                        case hyc9 => (intro W hSW; obtain ⟨hS1, hS2⟩ := hSW; (try dsimp only at hS1 hS2); go_simp; try with_reducible rfl)
                        (try simp only [Act.put, List.getElem_toArray, List.getElem_cons_zero, List.getElem_cons_succ, List.setIfInBounds_toArray, List.set_cons_zero, List.set_cons_succ])
                        refine wpAnyS_takeT (i := 10) (v := ?vc10) (by kernel_rfl) (by kernel_rfl) rfl (by kernel_rfl) (by kernel_rfl) (by kernel_rfl) (fun _ _ _ h => h) (by rfl) (by assumption) ?hyc10 ?restc10
                        case hyc10 => (intro W hSW; obtain ⟨hS1, hS2⟩ := hSW; (try dsimp only at hS1 hS2); go_simp; try with_reducible rfl)
                        (try simp only [Act.put, List.getElem_toArray, List.getElem_cons_zero, List.getElem_cons_succ, List.setIfInBounds_toArray, List.set_cons_zero, List.set_cons_succ])
                        refine wpAnyS_takeT (i := 11) (v := ?vc11) (by kernel_rfl) (by kernel_rfl) rfl (by kernel_rfl) (by kernel_rfl) (by kernel_rfl) (fun _ _ _ h => h) (by rfl) (by assumption) ?hyc11 ?restc11
                        case hyc11 => (intro W hSW; obtain ⟨hS1, hS2⟩ := hSW; (try dsimp only at hS1 hS2); go_simp; try with_reducible rfl)
                        (try simp only [Act.put, List.getElem_toArray, List.getElem_cons_zero, List.getElem_cons_succ, List.setIfInBounds_toArray, List.set_cons_zero, List.set_cons_succ])
                        refine wpAnyS_takeT (i := 12) (v := ?vc12) (by kernel_rfl) (by kernel_rfl) rfl (by kernel_rfl) (by kernel_rfl) (by kernel_rfl) (fun _ _ _ h => h) (by rfl) (by assumption) ?hyc12 ?restc12
                        case hyc12 => (intro W hSW; obtain ⟨hS1, hS2⟩ := hSW; (try dsimp only at hS1 hS2); go_simp; try with_reducible rfl)
                        (try simp only [Act.put, List.getElem_toArray, List.getElem_cons_zero, List.getElem_cons_succ, List.setIfInBounds_toArray, List.set_cons_zero, List.set_cons_succ])
                        refine wpAnyS_only (i := 13) rfl (by kernel_rfl) (fun K hK => ?_)
                        go_simp
                        clear hHeld
                        go_at_call 49
                        refine (HG.out).mono ?_
                        rintro e w10 ⟨rfl, hu10, hk10⟩
                        have Hu10 := Lib.hid hu10
                        have Hk10 := Lib.hid (Hk9.out.trans hk10)
                        have HA10 := Lib.hid (HA9.out.keeps hk10)
                        have HB10 := Lib.hid (HB9.out.keeps hk10)
                        have HS110 := Lib.hid (HS19.out.keeps hk10 (by decide))
                        have HS210 := Lib.hid (HS29.out.keeps hk10 (by decide))
                        clear hu10 hk10 HG Hk9 HA9 HB9 HS19 HS29
                        refine hK.out _ _ (HSS.out w10 HS110.out) (fun hHeld => ?_)
                        clear hK K
                        (try simp only [Act.put, List.getElem_toArray, List.getElem_cons_zero, List.getElem_cons_succ, List.setIfInBounds_toArray, List.set_cons_zero, List.set_cons_succ])
                        refine wpAnyS_takeT (i := 14) (v := ?vd14) (by kernel_rfl) (by kernel_rfl) rfl (by kernel_rfl) (by kernel_rfl) (by kernel_rfl) (fun _ _ _ h => h) (by rfl) (by assumption) ?hyd14 ?restd14
                        case hyd14 => (intro W hSW; obtain ⟨hS1, hS2⟩ := hSW; (try dsimp only at hS1 hS2); go_simp; try with_reducible rfl)
                        (try simp only [Act.put, List.getElem_toArray, List.getElem_cons_zero, List.getElem_cons_succ, List.setIfInBounds_toArray, List.set_cons_zero, List.set_cons_succ])
                        refine wpAnyS_last rfl (by kernel_rfl) (by kernel_rfl) (fun K hK => ?_)
                        go_simp
                        refine hK.out _ _ ?_
                        clear hK K hHeld hwx hsub
                        -- how far: the symbol
                        have HP := Lib.hid (place_u base p gB aB far row s5 w10 Hu10.out q6 hr HB10.out HbB.out)
                        have q7 := place_pos (ls := far) q6
                        have o7 := place_out row far s5
                        have a7 := place_mono row far s5
                        generalize uplace row far s5 = y at *
                        obtain ⟨gg, s6⟩ := y
                        dsimp only at q7 o7 a7 HP HU
                        rw [← o7.1] at ok
                        rw [← o7.2] at kk
                        clear o7
                        go_wp2_with fail
                        refine (HP.out).mono ?_
                        rintro e w11 ⟨rfl, hu11, hk11⟩
                        have Hu11 := Lib.hid hu11
                        have Hk11 := Lib.hid (Hk10.out.trans hk11)
                        have HA11 := Lib.hid (HA10.out.keeps hk11)
                        have HB11 := Lib.hid (HB10.out.keeps hk11)
                        have HS111 := Lib.hid (HS110.out.keeps hk11 (by decide))
                        have HS211 := Lib.hid (HS210.out.keeps hk11 (by decide))
                        have hd4 := (u_cells hu11.2.1).2.2.2.2
                        clear hu11 hk11 HP Hu10 Hk10 HA10 HB10 HS110 HS210 hj0 hj29' h29n hj29 HSS
                        go_upto_region 34 with fail
                        go_cut [171] from 163 to 171 (fun bv wx => bv = .bool (decide (s6.e = 0 ∧ 29 < gg)) ∧ wx = w11)
                        case first =>
                          by_cases he6 : s6.e = 0
                          · rw [he6] at hd4
                            by_cases h29 : 29 < gg
                            · have h29' : (29 : Int) < (gg : Int) := by omega
                              go_wp2_with fail
                              go_meet
                              case rel => exact ⟨by first | (simp [he6, h29]; done) | (simp [he6, h29]; omega), rfl⟩
                            · have h29' : ¬ (29 : Int) < (gg : Int) := by omega
                              go_wp2_with fail
                              go_meet
                              case rel => exact ⟨by first | (simp [he6, h29]; done) | (simp [he6, h29]; omega), rfl⟩
                          · have heb6 : (s6.e == 0) = false := by rw [beq_eq_false_iff_ne]; exact he6
                            generalize hze : s6.e = ze at *
                            go_wp2_with fail
                            go_meet
                            case rel => exact ⟨by simp [he6], rfl⟩
                        case rest =>
                          obtain ⟨rfl, rfl⟩ := hcut
                          go_upto_if 171 with fail
                          go_cut [171] from 172 to 173 (fun bv wx => (∃ bb, bv = .bool bb) ∧ UAt wx base p row (uif (29 < gg) s6 8) vo' vk ∧ Keeps base unpT w wx ∧ KM rowV wx gA aA ∧ KM rowV wx gB aB ∧ KAt wx 98 (some ⟨bs, os, none⟩) (sameL.flatMap exC) ∧ KAt wx 98 Bs (farL.flatMap exC))
                          case first =>
                            by_cases hb : s6.e = 0 ∧ 29 < gg
                            · have HW := Lib.hid (wrong_u base p 8 row s6 _ Hu11.out)
                              have E1 : Hid (uif (29 < gg) s6 8 = uwrong s6 8) := Lib.hid (by unfold uif; rw [if_pos hb])
                              rw [show decide (s6.e = 0 ∧ 29 < gg) = true from by simpa using hb]
                              clear hb
                              go_wp2_with fail
                              refine (HW.out).mono ?_
                              rintro e w12 ⟨rfl, hu12, hk12⟩
                              have HU12 := Lib.hid hu12
                              have HK12 := Lib.hid hk12
                              clear hu12 hk12 HW
                              go_wp2_with fail
                              go_meet
                              case rel => exact ⟨⟨_, rfl⟩, by rw [E1.out]; exact HU12.out, Hk11.out.trans HK12.out, HA11.out.keeps HK12.out, HB11.out.keeps HK12.out, HS111.out.keeps HK12.out (by decide), HS211.out.keeps HK12.out (by decide)⟩
                            · have E1 : Hid (uif (29 < gg) s6 8 = s6) := Lib.hid (by unfold uif; rw [if_neg hb])
                              rw [show decide (s6.e = 0 ∧ 29 < gg) = false from by simpa using hb]
                              clear hb
                              go_wp2_with fail
                              go_meet
                              case rel => exact ⟨⟨_, rfl⟩, by rw [E1.out]; exact Hu11.out, Hk11.out, HA11.out, HB11.out, HS111.out, HS211.out⟩
                          case rest =>
                            obtain ⟨⟨bb, rfl⟩, hu12, hk12, ha12, hb12, hs112, hs212⟩ := hcut
                            have Hu12 := Lib.hid hu12
                            have Hk12 := Lib.hid hk12
                            have HA12 := Lib.hid ha12
                            have HB12 := Lib.hid hb12
                            have HS112 := Lib.hid hs112
                            have HS212 := Lib.hid hs212
                            have hd4 := (u_cells hu12.2.1).2.2.2.2
                            have hd3 := (u_cells hu12.2.1).2.2.2.1
                            have q8 : (uif (29 < gg) s6 8).pos ≤ row.length := by rw [(if_same _ s6 8).1]; exact q7
                            have a8 : s6.pos ≤ (uif (29 < gg) s6 8).pos := by rw [(if_same _ s6 8).1]; exact Nat.le_refl _
                            have o8 : (uif (29 < gg) s6 8).out = s6.out := (if_same _ s6 8).2.1
                            have k8 : (uif (29 < gg) s6 8).ks = s6.ks := (if_same _ s6 8).2.2
                            have e8 : (uif (29 < gg) s6 8).e = 0 → gg < 30 := by
                              intro h
                              rcases Nat.lt_or_ge gg 30 with h1 | h1
                              · exact h1
                              · exfalso
                                by_cases h6 : s6.e = 0
                                · rw [if_yes h6 (by omega)] at h
                                  exact absurd h (show ¬ (8 : Int) = 0 by decide)
                                · rw [if_stuck h6] at h
                                  exact h6 h
                            rw [← o8] at ok
                            rw [← k8] at kk
                            generalize uif (29 < gg) s6 8 = s7 at *
                            clear hu12 hk12 ha12 hb12 hs112 hs212 o8 k8 Hu11 Hk11 HA11 HB11 HS111 HS211
                            rename World => w12
                            by_cases he7 : s7.e = 0
                            · replace HU := Lib.hid (HU.out.trans (if_neg (fun h => h he7)))
                              have g30 := e8 he7
                              obtain ⟨bf, of, cur2, rfl, _⟩ := HS212.out (by decide)
                              have HSS : Hid (∀ W : World, KAt W 98 (some ⟨bf, of, none⟩) (farL.flatMap exC) → W.cell? ⟨bf, of + gg * 2, none⟩ = some (.int .i64 ((farL.getD gg (0, 0)).1 : Int)) ∧ W.cell? ⟨bf, of + gg * 2 + 1, none⟩ = some (.int .i64 ((farL.getD gg (0, 0)).2 : Int))) := Lib.hid (fun W h => kex h (by show gg < 30; exact g30))
                              have hsm2 := far_small gg g30
                              have hsm3 := far_pos gg g30
                              generalize farL.getD gg (0, 0) = fb at *
                              obtain ⟨fd, bt2⟩ := fb
                              dsimp only at hsm2 hsm3 HSS HU
                              have HG := Lib.hid (get_u base p bt2 row s7 w12.drew (Hu12.out.drewN 1) q8 hr (by omega))
                              have y5 : (uget row s7 bt2).1 < 8192 := Nat.lt_of_lt_of_le (get_lt row s7 bt2) (Nat.le_trans (Nat.pow_le_pow_right (by omega) hsm2.1) (by decide))
                              have q9 := get_pos (n := bt2) q8
                              have a9 := get_adv row s7 bt2
                              have o9 := get_out row s7 bt2
                              generalize uget row s7 bt2 = y at *
                              obtain ⟨y1, s8⟩ := y
                              dsimp only at y5 q9 a9 o9 HG HU
                              rw [← o9.1] at ok
                              rw [← o9.2] at kk
                              obtain ⟨d, hd⟩ : ∃ d, d = fd + y1 := ⟨_, rfl⟩
                              rw [← hd] at HU
                              have hwx : IntKind.i64.wrap ((fd : Int) + (y1 : Int)) = (d : Int) := by rw [show (fd : Int) + (y1 : Int) = (d : Int) by omega]; exact IntWalk.i64_in _ (by omega)
                              have hd40 : d ≤ 40000 := by omega
                              have hd1 : 1 ≤ d := by omega
                              have hg0 : (0 : Int) ≤ (gg : Int) := by omega
                              have hg30 : (gg : Int) < 30 := by omega
                              have hg30n : ¬ (30 : Int) ≤ (gg : Int) := by omega
                              rw [he7] at hd4
                              clear hd o9 y5 e8 he7 g30
                              go_wp2_with fail
                              refine wp_region_S (fun W => W.cell? ⟨bf, of + gg * 2, none⟩ = some (.int .i64 (fd : Int)) ∧ W.cell? ⟨bf, of + gg * 2 + 1, none⟩ = some (.int .i64 (bt2 : Int))) 13 (by kernel_rfl) ?_
                              have Hk13 := Lib.hid (Hk12.out.drew)
                              have HA13 := Lib.hid (HA12.out.keeps ((Keeps.refl base unpT w12).drew))
                              have HB13 := Lib.hid (HB12.out.keeps ((Keeps.refl base unpT w12).drew))
                              have HS113 := Lib.hid (HS112.out.keeps ((Keeps.refl base unpT w12).drew) (by decide))
                              have HS213 := Lib.hid (HS212.out.keeps ((Keeps.refl base unpT w12).drew) (by decide))
                              have hHeld := HSS.out w12.drew HS213.out
                              clear Hu12 Hk12 HA12 HB12 HS112 HS212 hd3 hd4
                              generalize w12.drew = w13 at *
                              refine wpAnyS_takeT (i := 0) (v := ?ve0) (by kernel_rfl) (by kernel_rfl) rfl (by kernel_rfl) (by kernel_rfl) (by kernel_rfl) (fun _ _ _ h => h) (by rfl) (by assumption) ?hye0 ?reste0
                              case hye0 => (intro W hSW; obtain ⟨hS1, hS2⟩ := hSW; (try dsimp only at hS1 hS2); go_simp; try with_reducible rfl)
                              (try simp only [Act.put, List.getElem_toArray, List.getElem_cons_zero, List.getElem_cons_succ, List.setIfInBounds_toArray, List.set_cons_zero, List.set_cons_succ])
                              refine wpAnyS_takeT (i := 1) (v := ?ve1) (by kernel_rfl) (by kernel_rfl) rfl (by kernel_rfl) (by kernel_rfl) (by kernel_rfl) (fun _ _ _ h => h) (by rfl) (by assumption) ?hye1 ?reste1
                              case hye1 => (intro W hSW; obtain ⟨hS1, hS2⟩ := hSW; (try dsimp only at hS1 hS2); go_simp; try with_reducible rfl)
                              (try simp only [Act.put, List.getElem_toArray, List.getElem_cons_zero, List.getElem_cons_succ, List.setIfInBounds_toArray, List.set_cons_zero, List.set_cons_succ])
                              refine wpAnyS_takeT (i := 2) (v := ?ve2) (by kernel_rfl) (by kernel_rfl) rfl (by kernel_rfl) (by kernel_rfl) (by kernel_rfl) (fun _ _ _ h => h) (by rfl) (by assumption) ?hye2 ?reste2
                              case hye2 => (intro W hSW; obtain ⟨hS1, hS2⟩ := hSW; (try dsimp only at hS1 hS2); go_simp; try with_reducible rfl)
                              (try simp only [Act.put, List.getElem_toArray, List.getElem_cons_zero, List.getElem_cons_succ, List.setIfInBounds_toArray, List.set_cons_zero, List.set_cons_succ])
                              refine wpAnyS_takeT (i := 3) (v := ?ve3) (by kernel_rfl) (by kernel_rfl) rfl (by kernel_rfl) (by kernel_rfl) (by kernel_rfl) (fun _ _ _ h => h) (by rfl) (by assumption) ?hye3 ?reste3
                              case hye3 => (intro W hSW; obtain ⟨hS1, hS2⟩ := hSW; (try dsimp only at hS1 hS2); go_simp; try with_reducible rfl)
                              (try simp only [Act.put, List.getElem_toArray, List.getElem_cons_zero, List.getElem_cons_succ, List.setIfInBounds_toArray, List.set_cons_zero, List.set_cons_succ])
                              refine wpAnyS_takeT (i := 4) (v := ?ve4) (by kernel_rfl) (by kernel_rfl) rfl (by kernel_rfl) (by kernel_rfl) (by kernel_rfl) (fun _ _ _ h => h) (by rfl) (by assumption) ?hye4 ?reste4
                              case hye4 => (intro W hSW; obtain ⟨hS1, hS2⟩ := hSW; (try dsimp only at hS1 hS2); go_simp; try with_reducible rfl)
                              (try simp only [Act.put, List.getElem_toArray, List.getElem_cons_zero, List.getElem_cons_succ, List.setIfInBounds_toArray, List.set_cons_zero, List.set_cons_succ])
                              refine wpAnyS_takeT (i := 5) (v := ?ve5) (by kernel_rfl) (by kernel_rfl) rfl (by kernel_rfl) (by kernel_rfl) (by kernel_rfl) (fun _ _ _ h => h) (by rfl) (by assumption) ?hye5 ?reste5
                              case hye5 => (intro W hSW; obtain ⟨hS1, hS2⟩ := hSW; (try dsimp only at hS1 hS2); go_simp; try with_reducible rfl)
                              (try simp only [Act.put, List.getElem_toArray, List.getElem_cons_zero, List.getElem_cons_succ, List.setIfInBounds_toArray, List.set_cons_zero, List.set_cons_succ])
                              refine wpAnyS_takeT (i := 6) (v := ?ve6) (by kernel_rfl) (by kernel_rfl) rfl (by kernel_rfl) (by kernel_rfl) (by kernel_rfl) (fun _ _ _ h => h) (by rfl) (by assumption) ?hye6 ?reste6
                              case hye6 => (intro W hSW; obtain ⟨hS1, hS2⟩ := hSW; (try dsimp only at hS1 hS2); go_simp; try with_reducible rfl)
                              (try simp only [Act.put, List.getElem_toArray, List.getElem_cons_zero, List.getElem_cons_succ, List.setIfInBounds_toArray, List.set_cons_zero, List.set_cons_succ])
                              refine wpAnyS_takeT (i := 7) (v := ?ve7) (by kernel_rfl) (by kernel_rfl) rfl (by kernel_rfl) (by kernel_rfl) (by kernel_rfl) (fun _ _ _ h => h) (by rfl) (by assumption) ?hye7 ?reste7
                              case hye7 => (intro W hSW; obtain ⟨hS1, hS2⟩ := hSW; (try dsimp only at hS1 hS2); go_simp; try with_reducible rfl)
                              (try simp only [Act.put, List.getElem_toArray, List.getElem_cons_zero, List.getElem_cons_succ, List.setIfInBounds_toArray, List.set_cons_zero, List.set_cons_succ])
                              refine wpAnyS_takeT (i := 8) (v := ?ve8) (by kernel_rfl) (by kernel_rfl) rfl (by kernel_rfl) (by kernel_rfl) (by kernel_rfl) (fun _ _ _ h => h) (by rfl) (by assumption) ?hye8 ?reste8
                              case hye8 => (intro W hSW; obtain ⟨hS1, hS2⟩ := hSW; (try dsimp only at hS1 hS2); go_simp; try with_reducible rfl)
                              (try simp only [Act.put, List.getElem_toArray, List.getElem_cons_zero, List.getElem_cons_succ, List.setIfInBounds_toArray, List.set_cons_zero, List.set_cons_succ])
                              refine wpAnyS_takeT (i := 9) (v := ?ve9) (by kernel_rfl) (by kernel_rfl) rfl (by kernel_rfl) (by kernel_rfl) (by kernel_rfl) (fun _ _ _ h => h) (by rfl) (by assumption) ?hye9 ?reste9
                              case hye9 => (intro W hSW; obtain ⟨hS1, hS2⟩ := hSW; (try dsimp only at hS1 hS2); go_simp; try with_reducible rfl)
                              (try simp only [Act.put, List.getElem_toArray, List.getElem_cons_zero, List.getElem_cons_succ, List.setIfInBounds_toArray, List.set_cons_zero, List.set_cons_succ])
                              refine wpAnyS_takeT (i := 10) (v := ?ve10) (by kernel_rfl) (by kernel_rfl) rfl (by kernel_rfl) (by kernel_rfl) (by kernel_rfl) (fun _ _ _ h => h) (by rfl) (by assumption) ?hye10 ?reste10
                              case hye10 => (intro W hSW; obtain ⟨hS1, hS2⟩ := hSW; (try dsimp only at hS1 hS2); go_simp; try with_reducible rfl)
                              (try simp only [Act.put, List.getElem_toArray, List.getElem_cons_zero, List.getElem_cons_succ, List.setIfInBounds_toArray, List.set_cons_zero, List.set_cons_succ])
                              refine wpAnyS_only (i := 11) rfl (by kernel_rfl) (fun K hK => ?_)
                              go_simp
                              clear hHeld
                              go_at_call 49
                              refine (HG.out).mono ?_
                              rintro e w14 ⟨rfl, hu14, hk14⟩
                              have Hu14 := Lib.hid hu14
                              have Hk14 := Lib.hid (Hk13.out.trans hk14)
                              have HA14 := Lib.hid (HA13.out.keeps hk14)
                              have HB14 := Lib.hid (HB13.out.keeps hk14)
                              have HS114 := Lib.hid (HS113.out.keeps hk14 (by decide))
                              have HS214 := Lib.hid (HS213.out.keeps hk14 (by decide))
                              clear hu14 hk14 HG Hk13 HA13 HB13 HS113 HS213
                              refine hK.out _ _ (HSS.out w14 HS214.out) (fun hHeld => ?_)
                              clear hK K
                              (try simp only [Act.put, List.getElem_toArray, List.getElem_cons_zero, List.getElem_cons_succ, List.setIfInBounds_toArray, List.set_cons_zero, List.set_cons_succ])
                              refine wpAnyS_takeT (i := 12) (v := ?vg12) (by kernel_rfl) (by kernel_rfl) rfl (by kernel_rfl) (by kernel_rfl) (by kernel_rfl) (fun _ _ _ h => h) (by rfl) (by assumption) ?hyg12 ?restg12
                              case hyg12 => (intro W hSW; obtain ⟨hS1, hS2⟩ := hSW; (try dsimp only at hS1 hS2); go_simp; try with_reducible rfl)
                              (try simp only [Act.put, List.getElem_toArray, List.getElem_cons_zero, List.getElem_cons_succ, List.setIfInBounds_toArray, List.set_cons_zero, List.set_cons_succ])
                              refine wpAnyS_last rfl (by kernel_rfl) (by kernel_rfl) (fun K hK => ?_)
                              go_simp
                              refine hK.out _ _ ?_
                              clear hK K hHeld hwx HSS
                              -- too far?
                              obtain ⟨hbp, hB14, hO14, hK14⟩ := Hu14.out
                              obtain ⟨Ao, co, rfl, hoc, hocm, _, _⟩ := own_slat hO14
                              have hd4 := (u_cells hB14).2.2.2.2
                              have hd2 := (u_cells hB14).2.2.1
                              clear hB14 hO14 hK14 hoc hocm
                              generalize hol : s8.out.length = ol at *
                              have Hol := Lib.hid hol
                              clear hol
                              go_upto_region 38 with fail
                              go_cut [205] from 192 to 205 (fun bv wx => bv = .bool (decide (s8.e = 0 ∧ ol < d)) ∧ wx = w14)
                              case first =>
                                by_cases he8 : s8.e = 0
                                · rw [he8] at hd4
                                  by_cases hod : ol < d
                                  · have hod' : (ol : Int) < (d : Int) := by omega
                                    go_wp2_with fail
                                    go_meet
                                    case rel => exact ⟨by first | (simp [he8, hod]; done) | (simp [he8, hod]; omega), rfl⟩
                                  · have hod' : ¬ (ol : Int) < (d : Int) := by omega
                                    go_wp2_with fail
                                    go_meet
                                    case rel => exact ⟨by first | (simp [he8, hod]; done) | (simp [he8, hod]; omega), rfl⟩
                                · have heb8 : (s8.e == 0) = false := by rw [beq_eq_false_iff_ne]; exact he8
                                  generalize hze : s8.e = ze at *
                                  go_wp2_with fail
                                  go_meet
                                  case rel => exact ⟨by simp [he8], rfl⟩
                              case rest =>
                                obtain ⟨rfl, rfl⟩ := hcut
                                go_upto_if 205 with fail
                                go_cut [205] from 206 to 207 (fun bv wx => (∃ bb, bv = .bool bb) ∧ UAt wx base p row (uif (ol < d) s8 9) (.slice Ao ol co) vk ∧ Keeps base unpT w wx ∧ KM rowV wx gA aA ∧ KM rowV wx gB aB ∧ KAt wx 98 (some ⟨bs, os, none⟩) (sameL.flatMap exC) ∧ KAt wx 98 (some ⟨bf, of, none⟩) (farL.flatMap exC))
                                case first =>
                                  by_cases hb : s8.e = 0 ∧ ol < d
                                  · have HW := Lib.hid (wrong_u base p 9 row s8 _ Hu14.out)
                                    have E1 : Hid (uif (ol < d) s8 9 = uwrong s8 9) := Lib.hid (by unfold uif; rw [if_pos hb])
                                    rw [show decide (s8.e = 0 ∧ ol < d) = true from by simpa using hb]
                                    clear hb
                                    go_wp2_with fail
                                    refine (HW.out).mono ?_
                                    rintro e w15 ⟨rfl, hu15, hk15⟩
                                    have HU15 := Lib.hid hu15
                                    have HK15 := Lib.hid hk15
                                    clear hu15 hk15 HW
                                    go_wp2_with fail
                                    go_meet
                                    case rel => exact ⟨⟨_, rfl⟩, by rw [E1.out]; exact HU15.out, Hk14.out.trans HK15.out, HA14.out.keeps HK15.out, HB14.out.keeps HK15.out, HS114.out.keeps HK15.out (by decide), HS214.out.keeps HK15.out (by decide)⟩
                                  · have E1 : Hid (uif (ol < d) s8 9 = s8) := Lib.hid (by unfold uif; rw [if_neg hb])
                                    rw [show decide (s8.e = 0 ∧ ol < d) = false from by simpa using hb]
                                    clear hb
                                    go_wp2_with fail
                                    go_meet
                                    case rel => exact ⟨⟨_, rfl⟩, by rw [E1.out]; exact Hu14.out, Hk14.out, HA14.out, HB14.out, HS114.out, HS214.out⟩
                                case rest =>
                                  obtain ⟨⟨bb, rfl⟩, hu15, hk15, ha15, hb15, hs115, hs215⟩ := hcut
                                  have Hu15 := Lib.hid hu15
                                  have Hk15 := Lib.hid hk15
                                  have HA15 := Lib.hid ha15
                                  have HB15 := Lib.hid hb15
                                  have HS115 := Lib.hid hs115
                                  have HS215 := Lib.hid hs215
                                  have q10 : (uif (ol < d) s8 9).pos ≤ row.length := by rw [(if_same _ s8 9).1]; exact q9
                                  have a10 : s8.pos ≤ (uif (ol < d) s8 9).pos := by rw [(if_same _ s8 9).1]; exact Nat.le_refl _
                                  have o10 : (uif (ol < d) s8 9).out.length ≤ 3000 := by rw [(if_same _ s8 9).2.1, Hol.out]; exact ok
                                  have k10 : (uif (ol < d) s8 9).ks.length ≤ 1000000 := by rw [(if_same _ s8 9).2.2]; exact kk
                                  have e10 : (uif (ol < d) s8 9).e = 0 → d ≤ (uif (ol < d) s8 9).out.length := by
                                    intro h
                                    rw [(if_same _ s8 9).2.1, Hol.out]
                                    rcases Nat.lt_or_ge ol d with h1 | h1
                                    · exfalso
                                      by_cases h8 : s8.e = 0
                                      · rw [if_yes h8 h1] at h
                                        exact absurd h (show ¬ (9 : Int) = 0 by decide)
                                      · rw [if_stuck h8] at h
                                        exact h8 h
                                    · exact h1
                                  generalize uif (ol < d) s8 9 = s9 at *
                                  clear hu15 hk15 ha15 hb15 hs115 hs215 Hu14 Hk14 HA14 HB14 HS114 HS214 hd4 hd2 Hol
                                  rename World => w15
                                  obtain ⟨C, hC⟩ : ∃ C, C = ucopy d m s9 := ⟨_, rfl⟩
                                  rw [← hC] at HU
                                  have HC := Lib.hid hC
                                  clear hC
                                  obtain ⟨wo, rfl⟩ : ∃ wo, wo = wr := ⟨_, rfl⟩
                                  go_wp2_with fail
                                  go_loopw [18] (fun vi wr => ∃ (i r : Nat) (sj : St) (vo2 : Value), i + r = m ∧ vi = .int .i64 (i : Int) ∧ C = ucopy d r sj ∧ (sj.e = 0 → d ≤ sj.out.length) ∧ sj.pos = s9.pos ∧ sj.out.length ≤ 3000 ∧ sj.ks.length ≤ 1000000 ∧ UAt wr base p row sj vo2 vk ∧ Keeps base unpT w15 wr) (fun vi _ => m - (intOf vi).toNat)
                                  case atStart => exact ⟨0, m, s9, _, by omega, rfl, HC.out, e10, rfl, o10, k10, Hu15.out, Keeps.refl _ _ _⟩
                                  case round =>
                                    obtain ⟨i, r, sj, vo2, hir, rfl, hC, hde, hps, hol, hkl, hu, hk⟩ := hrel
                                    have HCj := Lib.hid hC
                                    have Hu := Lib.hid hu
                                    have Hk := Lib.hid hk
                                    have hd4 := (u_cells hu.2.1).2.2.2.2
                                    clear hC hu hk HC
                                    by_cases hgo : i < m ∧ sj.e = 0
                                    · obtain ⟨hlt, he⟩ := hgo
                                      obtain ⟨r, rfl⟩ : ∃ r', r = r' + 1 := ⟨r - 1, by omega⟩
                                      have hdo := hde he
                                      obtain ⟨hbp, hBj, hOj, hKj⟩ := Hu.out
                                      obtain ⟨Aj, cj, rfl, hjc, hjcm, hjs, _⟩ := own_slat hOj
                                      obtain ⟨bj, oj, rfl, hcells⟩ := hjs (by rw [List.length_map]; omega)
                                      obtain ⟨ix, hix⟩ : ∃ ix, ix = sj.out.length - d := ⟨_, rfl⟩
                                      have hcx : wr.cell? ⟨bj, oj + ix, none⟩ = some (.int .u8 (n8 (sj.out.getD ix 0))) := by
                                        refine hcells ix _ ?_
                                        rw [List.getElem?_map, List.getElem?_eq_getElem (show ix < sj.out.length by omega), List.getD_eq_getElem?_getD, List.getElem?_eq_getElem (show ix < sj.out.length by omega)]
                                        rfl
                                      have hd2 := (u_cells hBj).2.2.1
                                      replace HCj := Lib.hid (show C = ucopy d r (usay sj (sj.out.getD ix 0)) by
                                        rw [HCj.out, hix]
                                        conv => lhs; unfold ucopy
                                        rw [if_pos he])
                                      have HSy := Lib.hid (say_u base p (sj.out.getD ix 0) row sj wr.drew (Hu.out.drewN 1) hol)
                                      have q11 : (usay sj (sj.out.getD ix 0)).pos = s9.pos := by rw [(say_same sj _).1]; exact hps
                                      have k11 : (usay sj (sj.out.getD ix 0)).ks.length ≤ 1000000 := by rw [(say_same sj _).2]; exact hkl
                                      have o11 := say_len (sj.out.getD ix 0) hol
                                      have e11 : d ≤ (usay sj (sj.out.getD ix 0)).out.length := Nat.le_trans hdo (say_ge sj _)
                                      generalize sj.out.getD ix 0 = bx at *
                                      generalize usay sj bx = s11 at *
                                      have hlt' : (i : Int) < (m : Int) := by omega
                                      generalize hjl : sj.out.length = jl at *
                                      have hwi : IntKind.i64.wrap ((jl : Int) - (d : Int)) = (ix : Int) := by rw [show (jl : Int) - (d : Int) = (ix : Int) by omega]; exact IntWalk.i64_in _ (by omega)
                                      have hix0 : (0 : Int) ≤ (ix : Int) := by omega
                                      have hix1 : (ix : Int) < (jl : Int) := by omega
                                      rw [he] at hd4
                                      have Hkd := Lib.hid (Hk.out.drew)
                                      clear hix hjl he hde hdo hBj hOj hKj hjs hcells hjc hjcm Hk Hu
                                      go_wp2_with fail
                                      go_still_tail 14, (by kernel_rfl)
                                      change wpList _ _ _ _ _ wr.drew
                                      clear hd4 hd2 hcx
                                      generalize wr.drew = w16 at *
                                      go_wp2_with fail
                                      refine (HSy.out).mono ?_
                                      rintro e w17 ⟨rfl, ⟨vo3, hu17⟩, hk17⟩
                                      have Hu17 := Lib.hid hu17
                                      have Hk17 := Lib.hid (Hkd.out.trans hk17)
                                      clear hu17 hk17 HSy Hkd
                                      go_wp2_with fail
                                      go_roundw
                                      case rel => exact ⟨i + 1, r, s11, vo3, by omega, by go_num, HCj.out, fun _ => e11, q11, o11, k11, Hu17.out, Hk17.out⟩
                                      case measure => simp [intOf]; omega
                                    · have HCe : Hid (C = sj) := Lib.hid (by rw [HCj.out]; exact copy_end (fun h => hgo ⟨by omega, h.2⟩))
                                      rw [HCe.out] at HU
                                      have hu' := Hu.out
                                      have Hpp := Lib.hid (posAt_u hu')
                                      clear HCj HCe hu'
                                      have Hke := Lib.hid (Hk15.out.trans Hk.out)
                                      have HAe := Lib.hid (HA15.out.keeps Hk.out)
                                      have HBe := Lib.hid (HB15.out.keeps Hk.out)
                                      have HS1e := Lib.hid (HS115.out.keeps Hk.out (by decide))
                                      have HS2e := Lib.hid (HS215.out.keeps Hk.out (by decide))
                                      have hfin : row.length + 1 ≤ f + sj.pos := by omega
                                      have hfin2 : sj.pos ≤ row.length := by omega
                                      have hfin3 : sk.pos < sj.pos := by omega
                                      by_cases hlt : i < m
                                      · have he : sj.e ≠ 0 := fun he => hgo ⟨hlt, he⟩
                                        have hlt' : (i : Int) < (m : Int) := by omega
                                        have heb2 : (sj.e == 0) = false := by rw [beq_eq_false_iff_ne]; exact he
                                        generalize hze : sj.e = ze at *
                                        clear he hgo hze hde
                                        go_wp2_with fail
                                        go_roundw
                                        case rel => exact ⟨f, sj, vo2, hfin, HU.out, hfin2, hol, hkl, Hu.out, Hke.out, HAe.out, HBe.out, HS1e.out, HS2e.out⟩
                                        case measure => rw [Hpp.out, Hp0.out]; omega
                                      · have hlt' : ¬ (i : Int) < (m : Int) := by omega
                                        clear hgo hde
                                        go_wp2_with fail
                                        go_roundw
                                        case rel => exact ⟨f, sj, vo2, hfin, HU.out, hfin2, hol, hkl, Hu.out, Hke.out, HAe.out, HBe.out, HS1e.out, HS2e.out⟩
                                        case measure => rw [Hpp.out, Hp0.out]; omega
                            · replace HU := Lib.hid (HU.out.trans (if_pos he7))
                              rw [HU.out] at HR
                              have heb7 : (s7.e == 0) = false := by rw [beq_eq_false_iff_ne]; exact he7
                              have hen7 : (s7.e != 0) = true := by rw [bne, heb7]; rfl
                              generalize hze : s7.e = ze at *
                              clear he7 HU e8
                              have hba : Below w12.heap.size w12 (w12.alloc (.cells #[.int .i64 (kd : Int)] 3)) := (Below.refl _ _).alloc (Nat.le_refl _) _
                              obtain ⟨hbp, HBk, HOk, HKk⟩ := Hu12.out.below hba
                              have HBa := Lib.hid HBk
                              have HOa := Lib.hid HOk
                              have HKa := Lib.hid HKk
                              have Hka := Lib.hid (Below.alloc Hk12.out.below (Nat.le_trans hbw Hk12.out.size) (.cells #[.int .i64 (kd : Int)] 3))
                              have HZ : Hid (SlAt (w12.alloc (.cells #[.int .i64 (kd : Int)] 3)) (some ⟨w12.heap.size, 0, none⟩) [.int .i64 (kd : Int)]) := Lib.hid (SlAt.of_heap (heap_alloc_new _ _) rfl)
                              have Hbs : Hid (base ≤ (w12.alloc (.cells #[.int .i64 (kd : Int)] 3)).heap.size) := Lib.hid (Nat.le_trans (Nat.le_trans hbw Hk12.out.size) (by simp))
                              generalize hnk : s7.ks.length = nk at *
                              have Hnk := Lib.hid hnk
                              clear hba HBk HOk HKk hnk
                              go_wp2_with (at_builtin; refine wpList_app _ rfl (.tmp 239) (.tmp 241) _ rfl base 3 _ 1 8 Inf.tyI _ nk (s7.ks.map natV) rfl HKa.out (some ⟨w12.heap.size, 0, none⟩) 1 1 [.int .i64 (kd : Int)] rfl rfl HZ.out (by simp [Value.oneCell']) (by simp) (by unfold maxLen; omega) (by omega) Hbs.out ?_; intro v8 w8 hown8 hg8 _; obtain ⟨g8, cap8, hv8, _, _⟩ := hown8.form (by omega); subst hv8; have HO8 := Lib.hid hown8; have HB8 := Lib.hid (HBa.out.grown hg8 (own_ne HKa.out HBa.out (by decide))); have HV8 := Lib.hid (Weigh.own_grownV HOa.out HKa.out hg8 (by decide)); have Hk8 := Lib.hid (own_below HKa.out hg8 Hka.out Hbs.out); clear hown8 hg8; have f8 := HB8.out.frozen 3; obtain ⟨_, _, _, e3, _⟩ := u_cells HB8.out)
                              go_ret
                              rw [← one_eq] at HR
                              exact bpost_mk HR.out rfl (UAt.kind hbp HB8.out HV8.out Hnk.out HO8.out) (Hk8.out.setCell (p := ⟨p, 3, none⟩) hbp _)
                · replace HU := Lib.hid (show U = s4 by rw [HU.out, if_pos (.inl he4)])
                  rw [HU.out] at HR
                  have heb4 : (s4.e == 0) = false := by rw [beq_eq_false_iff_ne]; exact he4
                  have hen4 : (s4.e != 0) = true := by rw [bne, heb4]; rfl
                  generalize hze : s4.e = ze at *
                  clear he4 HU a4
                  have hba : Below w8.heap.size w8 (w8.alloc (.cells #[.int .i64 (kd : Int)] 3)) := (Below.refl _ _).alloc (Nat.le_refl _) _
                  obtain ⟨hbp, HBk, HOk, HKk⟩ := Hu8.out.below hba
                  have HBa := Lib.hid HBk
                  have HOa := Lib.hid HOk
                  have HKa := Lib.hid HKk
                  have Hka := Lib.hid (Below.alloc Hk8.out.below (Nat.le_trans hbw Hk8.out.size) (.cells #[.int .i64 (kd : Int)] 3))
                  have HZ : Hid (SlAt (w8.alloc (.cells #[.int .i64 (kd : Int)] 3)) (some ⟨w8.heap.size, 0, none⟩) [.int .i64 (kd : Int)]) := Lib.hid (SlAt.of_heap (heap_alloc_new _ _) rfl)
                  have Hbs : Hid (base ≤ (w8.alloc (.cells #[.int .i64 (kd : Int)] 3)).heap.size) := Lib.hid (Nat.le_trans (Nat.le_trans hbw Hk8.out.size) (by simp))
                  generalize hnk : s4.ks.length = nk at *
                  have Hnk := Lib.hid hnk
                  clear hba HBk HOk HKk hnk
                  go_wp2_with (at_builtin; refine wpList_app _ rfl (.tmp 239) (.tmp 241) _ rfl base 3 _ 1 8 Inf.tyI _ nk (s4.ks.map natV) rfl HKa.out (some ⟨w8.heap.size, 0, none⟩) 1 1 [.int .i64 (kd : Int)] rfl rfl HZ.out (by simp [Value.oneCell']) (by simp) (by unfold maxLen; omega) (by omega) Hbs.out ?_; intro v8 w8 hown8 hg8 _; obtain ⟨g8, cap8, hv8, _, _⟩ := hown8.form (by omega); subst hv8; have HO8 := Lib.hid hown8; have HB8 := Lib.hid (HBa.out.grown hg8 (own_ne HKa.out HBa.out (by decide))); have HV8 := Lib.hid (Weigh.own_grownV HOa.out HKa.out hg8 (by decide)); have Hk8 := Lib.hid (own_below HKa.out hg8 Hka.out Hbs.out); clear hown8 hg8; have f8 := HB8.out.frozen 3; obtain ⟨_, _, _, e3, _⟩ := u_cells HB8.out)
                  go_ret
                  rw [← one_eq] at HR
                  exact bpost_mk HR.out rfl (UAt.kind hbp HB8.out HV8.out Hnk.out HO8.out) (Hk8.out.setCell (p := ⟨p, 3, none⟩) hbp _)
              · replace HU := Lib.hid (show U = sk by rw [HU.out]; exact body_end he _)
                rw [HU.out] at HR
                have heb : (sk.e == 0) = false := by rw [beq_eq_false_iff_ne]; exact he
                generalize hze : sk.e = ze at *
                clear he HU
                have hba : Below wr.heap.size wr (wr.alloc (.cells #[.int .i64 (kd : Int)] 3)) := (Below.refl _ _).alloc (Nat.le_refl _) _
                obtain ⟨hbp, HBk, HOk, HKk⟩ := Hu.out.below hba
                have HBa := Lib.hid HBk
                have HOa := Lib.hid HOk
                have HKa := Lib.hid HKk
                have Hka := Lib.hid (Below.alloc Hk.out.below (Nat.le_trans hbw Hk.out.size) (.cells #[.int .i64 (kd : Int)] 3))
                have HZ : Hid (SlAt (wr.alloc (.cells #[.int .i64 (kd : Int)] 3)) (some ⟨wr.heap.size, 0, none⟩) [.int .i64 (kd : Int)]) := Lib.hid (SlAt.of_heap (heap_alloc_new _ _) rfl)
                have Hbs : Hid (base ≤ (wr.alloc (.cells #[.int .i64 (kd : Int)] 3)).heap.size) := Lib.hid (Nat.le_trans (Nat.le_trans hbw Hk.out.size) (by simp))
                generalize hnk : sk.ks.length = nk at *
                have Hnk := Lib.hid hnk
                clear hba HBk HOk HKk hnk
                go_wp2_with (at_builtin; refine wpList_app _ rfl (.tmp 239) (.tmp 241) _ rfl base 3 _ 1 8 Inf.tyI _ nk (sk.ks.map natV) rfl HKa.out (some ⟨wr.heap.size, 0, none⟩) 1 1 [.int .i64 (kd : Int)] rfl rfl HZ.out (by simp [Value.oneCell']) (by simp) (by unfold maxLen; omega) (by omega) Hbs.out ?_; intro v8 w8 hown8 hg8 _; obtain ⟨g8, cap8, hv8, _, _⟩ := hown8.form (by omega); subst hv8; have HO8 := Lib.hid hown8; have HB8 := Lib.hid (HBa.out.grown hg8 (own_ne HKa.out HBa.out (by decide))); have HV8 := Lib.hid (Weigh.own_grownV HOa.out HKa.out hg8 (by decide)); have Hk8 := Lib.hid (own_below HKa.out hg8 Hka.out Hbs.out); clear hown8 hg8; have f8 := HB8.out.frozen 3; obtain ⟨_, _, _, e3, _⟩ := u_cells HB8.out)
                go_ret
                rw [← one_eq] at HR
                exact bpost_mk HR.out rfl (UAt.kind hbp HB8.out HV8.out Hnk.out HO8.out) (Hk8.out.setCell (p := ⟨p, 3, none⟩) hbp _)
          · have heb : (t.2.e == 0) = false := by rw [beq_eq_false_iff_ne]; exact het
            have hen : (t.2.e != 0) = true := by rw [bne, heb]; rfl
            replace HR := Lib.hid (show R = (true, t.2) by rw [HR.out, if_pos het])
            generalize t.2.e = ze at *
            clear het
            go_wp2_with fail
            go_ret
            exact bpost_mk HR.out rfl Hu.out Hk.out.below
  · have heb : (s2.e == 0) = false := by rw [beq_eq_false_iff_ne]; exact he
    have hen : (s2.e != 0) = true := by rw [bne, heb]; rfl
    replace HR := Lib.hid (show R = (true, s2) by rw [HR.out, if_pos he])
    generalize s2.e = ze at *
    clear he
    go_wp2_with fail
    go_ret
    exact bpost_mk HR.out rfl Hu2.out Hk2.out.below
end Go.Proofs.Ythpdcnjaodjjmaa.Unp

/- the kit's contract of (*strings.Builder).String at this program (written over in plain words by the kit's lay-plain tool) -/
namespace Go.Proofs
open Go.Shelf
def Ythpdcnjaodjjmaa.lays169_ren : Go.Shelf.Ren := ⟨fun | 169 => 48 | n => n, fun | 70 => 84 | 9 => 9 | 0 => 0 | 72 => 86 | 37 => 22 | 127 => 131 | 3 => 3 | 5 => 5 | n => n, fun | n => n⟩
theorem Ythpdcnjaodjjmaa.lays169 : Go.Proofs.Lays.n169 Try.prog Ythpdcnjaodjjmaa.lays169_ren := {
  mixed := by kernel_rfl
  f169 := Try.func48.trans (congrArg some (by kernel_rfl))
  t0 := Try.underlying0
  a0 := Try.isAgg0
  z0 := Try.sizeOf0
  v0 := Try.zeroValue0
  t3 := Try.underlying3
  a3 := Try.isAgg3
  z3 := Try.sizeOf3
  v3 := Try.zeroValue3
  t9 := Try.underlying9
  a9 := Try.isAgg9
  z9 := Try.sizeOf9
  v9 := Try.zeroValue9
  t37 := Try.underlying22
  a37 := Try.isAgg22
  z37 := Try.sizeOf22
  v37 := Try.zeroValue22
  t70 := Try.underlying84
  a70 := Try.isAgg84
  z70 := Try.sizeOf84
  v70 := Try.zeroValue84
  t72 := Try.underlying86
  a72 := Try.isAgg86
  z72 := Try.sizeOf86
  v72 := Try.zeroValue86
  t127 := Try.underlying131
  a127 := Try.isAgg131
  z127 := Try.sizeOf131
  v127 := Try.zeroValue131 }
end Go.Proofs

/- strings.Builder: String by the shelf's contract; copyCheck, WriteByte, WriteString walked here (the loader refuses a panic in copyCheck, so the shelf's bodies do not fit). -/
namespace Go.Proofs
open Go.Shelf
theorem Ythpdcnjaodjjmaa.extra169 : Builder.Extra Try.prog Ythpdcnjaodjjmaa.lays169_ren := {
  sizeBuilder := by kernel_rfl
  liesBuilder := by kernel_rfl
  t5 := Try.underlying5
  a5 := Try.isAgg5
  z5 := Try.sizeOf5
  v5 := Try.zeroValue5
  infoByte := by kernel_rfl
  cellsByte := by kernel_rfl
  sizeByte := by kernel_rfl
  neB5 := by decide }
end Go.Proofs
namespace Go.Proofs.Ythpdcnjaodjjmaa
open Go Go.RowKit Go.Shelf
set_option linter.unusedVariables false
theorem bld_size : (Try.prog.info? 86).map (fun i => i.size) = some 2 := by kernel_rfl

set_option maxHeartbeats 1000000 in
set_option maxRecDepth 100000 in
theorem copyCheck_used (b : Nat) (w : World) (h0 : w.cell? ⟨b, 0, none⟩ = some (.pointer (some ⟨b, 0, none⟩))) :
    Calls Try.prog 78 #[.pointer (some ⟨b, 0, none⟩)] w fun e w' => e = .returned (.tuple #[]) ∧ w' = w := by
  obtain ⟨j, hj, _⟩ := Option.map_eq_some_iff.1 bld_size
  go_enter Try.func78, Try.ntmps78
  go_wp2
  rw [Lib.run_neq_ptr_same w _ Try.underlying84 hj]
  go_wp2
  go_end0
  exact ⟨rfl, rfl⟩
set_option maxHeartbeats 1000000 in
set_option maxRecDepth 100000 in
theorem copyCheck_fresh (b : Nat) (w : World) (h0 : w.cell? ⟨b, 0, none⟩ = some (.pointer none)) (hsh : w.shape? b = some (86, 2)) (hfz : w.frozen? ⟨b, 0, none⟩ = false) :
    Calls Try.prog 78 #[.pointer (some ⟨b, 0, none⟩)] w fun e w' => e = .returned (.tuple #[]) ∧ w' = w.setCell ⟨b, 0, none⟩ (.pointer (some ⟨b, 0, none⟩)) := by
  obtain ⟨j, hj, hjs⟩ := Option.map_eq_some_iff.1 bld_size
  go_enter Try.func78, Try.ntmps78
  go_wp2
  rw [Lib.run_to_unsafe w ⟨b, 0, none⟩ Try.underlying84 Try.underlying155 hj (by rw [hjs]; decide) hsh (Nat.zero_lt_succ 1)]
  simp only [Result.andThen]
  rw [Oper.upon_value]
  go_wp2
  rw [run_callFunc_extern Try.func98 (by kernel_rfl) (by kernel_rfl) (by kernel_rfl) (e := Extern.AbiNoEscape.same) (by kernel_rfl)]
  rw [Lib.run_noEscape]
  simp only [Result.andThen]
  rw [Oper.upon_value]
  go_wp2
  rw [Lib.run_from_unsafe w ⟨b, 0, none⟩ Try.underlying155 Try.underlying84 hj hsh (by kernel_rfl)]
  simp only [Result.andThen]
  rw [Oper.upon_value]
  go_wp2
  go_end0
  exact ⟨rfl, rfl⟩
theorem copyCheck_any (B b : Nat) (bs : List Value) (w : World) (h : Lib.IsBuilder 86 5 B b bs w) :
    Calls Try.prog 78 #[.pointer (some ⟨b, 0, none⟩)] w fun e w' => e = .returned (.tuple #[]) ∧ (Lib.BuilderAt 86 5 B b (.pointer (some ⟨b, 0, none⟩)) bs w' ∧ Below B w w') := by
  rcases h with h | h
  · refine (copyCheck_fresh b w h.cell0 h.shape h.frozen0).mono ?_
    rintro e w' ⟨rfl, rfl⟩
    exact ⟨rfl, h.used _, (Below.refl B w).setCell (p := ⟨b, 0, none⟩) h.1 _⟩
  · refine (copyCheck_used b w h.cell0).mono ?_
    rintro e w' ⟨rfl, rfl⟩
    exact ⟨rfl, h, Below.refl B _⟩

set_option maxHeartbeats 2000000 in
set_option maxRecDepth 100000 in
theorem writeByte_any (B b : Nat) (bs : List Value) (c : Int) (w : World) (h : Lib.IsBuilder 86 5 B b bs w) (hlen : bs.length + 1 ≤ 140737488355328) (hBw : B ≤ w.heap.size) :
    Calls Try.prog 47 #[.pointer (some ⟨b, 0, none⟩), .int .u8 c] w fun e w' => e = .returned .nilIface ∧ (Lib.BuilderAt 86 5 B b (.pointer (some ⟨b, 0, none⟩)) (bs ++ [.int .u8 c]) w' ∧ Below B w w') := by
  obtain ⟨i0, hi, hz0, hz1, hz2⟩ := info_parts extra169.infoByte
  go_enter Try.func47, Try.ntmps47
  go_wp2_with fail
  refine (copyCheck_any B b bs _ h).mono ?_
  rintro e w1 ⟨rfl, h1, hb1⟩
  obtain ⟨hB, v, hbk, hown, hne⟩ := h1
  have c0 : w1.cell? ⟨b, 0, none⟩ = some (.pointer (some ⟨b, 0, none⟩)) := by rw [Lib.cell_of_heap hbk]; rfl
  have c1 : w1.cell? ⟨b, 1, none⟩ = some v := by rw [Lib.cell_of_heap hbk]; rfl
  go_wp2_with (at_builtin; refine wpList_append_own _ rfl _ _ 22 rfl B 5 i0 (.int .u8 0) 1 1 Try.underlying22 hi hz0 hz1 hz2 rfl (by decide) _ _ _ rfl (hown.alloc _) ⟨w1.heap.size, 0, none⟩ 1 1 [.int .u8 c] rfl rfl ?c1 ?c2 ?c3 ?c4 ?c5 ?_)
  case c1 =>
    intro j u hj
    match j, hj with
    | 0, hj => simp at hj; subst hj; simp [Addr.add]
  case c2 => intro u hu; simp at hu; subst hu; rfl
  case c3 => unfold maxLen; omega
  case c4 => omega
  case c5 => have := hb1.size; simp; omega
  intro v' w2 hown' hgrow _
  have hlt : b < w1.heap.size := by
    rcases Nat.lt_or_ge b w1.heap.size with h' | h'
    · exact h'
    · simp [Array.getElem?_eq_none h'] at hbk
  have hb2 : w2.heap[b]? = some (.cells #[.pointer (some ⟨b, 0, none⟩), v] 86 (0, 0)) := by
    rw [hgrow.block b (by simp; omega) (fun e => hne e.symm), Lib.alloc_old w1 _ b hlt]
    exact hbk
  have d0 : w2.cell? ⟨b, 0, none⟩ = some (.pointer (some ⟨b, 0, none⟩)) := by rw [Lib.cell_of_heap hb2]; rfl
  have d1 : w2.cell? ⟨b, 1, none⟩ = some v := by rw [Lib.cell_of_heap hb2]; rfl
  have f1 : w2.frozen? ⟨b, 1, none⟩ = false := Lib.frozen_of_heap hb2 1
  obtain ⟨g, cap, rfl⟩ : ∃ g cap, v' = .slice (some ⟨g, 0, none⟩) (bs.length + 1) cap := by
    rcases hown'.2 with ⟨_, h0⟩ | ⟨g, cap, cur, hv, _⟩
    · omega
    · exact ⟨g, cap, hv⟩
  go_wp2
  go_ret
  refine ⟨rfl, ?_, ?_⟩
  · exact Lib.BuilderAt.put (T := 86) (e := 5) hB hb2 (bs' := bs ++ [.int .u8 c]) (by simpa using hown') (by decide)
  · exact ((hb1.alloc (by have := hb1.size; omega) _).grown hgrow (by have := hb1.size; simp; omega) (fun k hk => (hown.lt k hk).1)).setCell (p := ⟨b, 1, none⟩) hB _

set_option maxHeartbeats 2000000 in
set_option maxRecDepth 100000 in
theorem writeString_any (B b : Nat) (bs : List Value) (s : ByteArray) (w : World) (h : Lib.IsBuilder 86 5 B b bs w) (hlen : bs.length + s.size ≤ 140737488355328) (hBw : B ≤ w.heap.size) :
    Calls Try.prog 118 #[.pointer (some ⟨b, 0, none⟩), .string s] w fun e w' => e = .returned (.tuple #[.int .i64 s.size, .nilIface]) ∧ (Lib.BuilderAt 86 5 B b (.pointer (some ⟨b, 0, none⟩)) (bs ++ Lib.strCells s) w' ∧ Below B w w') := by
  obtain ⟨i0, hi, hz0, hz1, hz2⟩ := info_parts extra169.infoByte
  go_enter Try.func118, Try.ntmps118
  go_wp2_with fail
  refine (copyCheck_any B b bs _ h).mono ?_
  rintro e w1 ⟨rfl, h1, hb1⟩
  obtain ⟨hB, v, hbk, hown, hne⟩ := h1
  have c0 : w1.cell? ⟨b, 0, none⟩ = some (.pointer (some ⟨b, 0, none⟩)) := by rw [Lib.cell_of_heap hbk]; rfl
  have c1 : w1.cell? ⟨b, 1, none⟩ = some v := by rw [Lib.cell_of_heap hbk]; rfl
  go_wp2_with (at_builtin; refine Lib.wpList_append_own_string _ rfl _ _ 22 9 rfl B 5 i0 Try.underlying22 Try.underlying9 hi hz0 hz1 hz2 _ _ _ rfl hown s rfl ?c3 ?c4 ?c5 ?_)
  case c3 => unfold maxLen; omega
  case c4 => omega
  case c5 => have := hb1.size; omega
  intro v' w2 hown' hgrow _
  have hlt : b < w1.heap.size := by
    rcases Nat.lt_or_ge b w1.heap.size with h' | h'
    · exact h'
    · simp [Array.getElem?_eq_none h'] at hbk
  have hb2 : w2.heap[b]? = some (.cells #[.pointer (some ⟨b, 0, none⟩), v] 86 (0, 0)) := by
    rw [hgrow.block b hlt (fun e => hne e.symm)]
    exact hbk
  have d0 : w2.cell? ⟨b, 0, none⟩ = some (.pointer (some ⟨b, 0, none⟩)) := by rw [Lib.cell_of_heap hb2]; rfl
  have d1 : w2.cell? ⟨b, 1, none⟩ = some v := by rw [Lib.cell_of_heap hb2]; rfl
  have f1 : w2.frozen? ⟨b, 1, none⟩ = false := Lib.frozen_of_heap hb2 1
  obtain ⟨ao, n', cap, rfl⟩ : ∃ ao n' cap, v' = .slice ao n' cap := by
    rcases hown'.2 with ⟨hv, _⟩ | ⟨g, cap, cur, hv, _⟩
    · exact ⟨_, _, _, hv⟩
    · exact ⟨_, _, _, hv⟩
  go_wp2
  go_ret2
  refine ⟨rfl, ?_, ?_⟩
  · exact Lib.BuilderAt.put (T := 86) (e := 5) hB hb2 (bs' := bs ++ Lib.strCells s) (by simpa [Lib.strCells_length] using hown') (by decide)
  · exact (hb1.grown hgrow (by have := hb1.size; omega) (fun k hk => (hown.lt k hk).1)).setCell (p := ⟨b, 1, none⟩) hB _
/-- a builder that holds these bytes -/
def Bld (B b : Nat) (l : List UInt8) (w : World) : Prop := Lib.IsBuilder 86 5 B b (Lib.byteCells l) w ∧ B ≤ w.heap.size
theorem Bld.new (w : World) : Bld w.heap.size w.heap.size [] (w.alloc (.cells #[.pointer none, .slice none 0 0] 86)) := ⟨Lib.fresh_isBuilder _ _ w, by simp⟩
theorem Bld.later {B b : Nat} {l : List UInt8} {w w' : World} (h : Bld B b l w) (hb : Below w.heap.size w w') : Bld B b l w' := by
  have key : ∀ p, Lib.BuilderAt 86 5 B b p (Lib.byteCells l) w → Lib.BuilderAt 86 5 B b p (Lib.byteCells l) w' := by
    rintro p ⟨hB, v, hk, ho, hn⟩
    exact ⟨hB, v, by rw [hb.block b (lt_of_block hk)]; exact hk, own_keep ho hb, hn⟩
  exact ⟨h.1.imp (key _) (key _), Nat.le_trans h.2 hb.size⟩
theorem Bld.other {B b : Nat} {l : List UInt8} {w : World} (h : Bld B b l w) (o : Obj) : Bld B b l (w.alloc o) := h.later ((Below.refl _ w).alloc (Nat.le_refl _) o)
theorem Bld.drewN {B b : Nat} {l : List UInt8} {w : World} (h : Bld B b l w) (n : Nat) : Bld B b l (w.drewN n) := h.later ⟨rfl, rfl, rfl, Nat.le_refl _, fun _ _ => rfl⟩
theorem Bld.byte {B b : Nat} {l : List UInt8} {w : World} (h : Bld B b l w) (c : UInt8) (hl : l.length + 1 ≤ 140737488355328) :
    Calls Try.prog 47 #[.pointer (some ⟨b, 0, none⟩), .int .u8 (n8 c)] w fun e w' => e = .returned .nilIface ∧ Bld B b (l ++ [c]) w' ∧ Below B w w' := by
  refine (writeByte_any B b _ (n8 c) w h.1 (by rw [Lib.byteCells_length]; exact hl) h.2).mono ?_
  rintro e w' ⟨rfl, h1, h2⟩
  refine ⟨rfl, ⟨.inr ?_, Nat.le_trans h.2 h2.size⟩, h2⟩
  have : Lib.byteCells (l ++ [c]) = Lib.byteCells l ++ [Value.int .u8 (n8 c)] := by simp [Lib.byteCells, n8]
  rw [this]; exact h1
theorem Bld.str {B b : Nat} {l : List UInt8} {w : World} (h : Bld B b l w) (s : List UInt8) (hl : l.length + s.length ≤ 140737488355328) :
    Calls Try.prog 118 #[.pointer (some ⟨b, 0, none⟩), .string ⟨s.toArray⟩] w fun e w' => e = .returned (.tuple #[.int .i64 s.length, .nilIface]) ∧ Bld B b (l ++ s) w' ∧ Below B w w' := by
  refine (writeString_any B b _ ⟨s.toArray⟩ w h.1 (by rw [Lib.byteCells_length]; simpa [ByteArray.size] using hl) h.2).mono ?_
  rintro e w' ⟨rfl, h1, h2⟩
  refine ⟨by simp [ByteArray.size], ⟨.inr ?_, Nat.le_trans h.2 h2.size⟩, h2⟩
  have : Lib.byteCells (l ++ s) = Lib.byteCells l ++ Lib.strCells ⟨s.toArray⟩ := by rw [Lib.strCells_eq]; simp [Lib.byteCells]
  rw [this]; exact h1
theorem Bld.done {B b : Nat} {l : List UInt8} {w : World} (h : Bld B b l w) :
    Calls Try.prog 48 #[.pointer (some ⟨b, 0, none⟩)] w fun e w' => e = .returned (.string ⟨l.toArray⟩) ∧ Below B w w' :=
  Any.Builder_String_any lays169 extra169 B b l w h.1 h.2
end Go.Proofs.Ythpdcnjaodjjmaa

/- reliquaryref: RowOf, Turned. -/
namespace Go.Proofs.Ythpdcnjaodjjmaa.Bits
open Go Go.RowKit Go.Proofs.Ythpdcnjaodjjmaa
set_option linter.unusedVariables false

theorem bitsL_take (xs : List UInt8) (k : Nat) (h : k < xs.length) : bitsL (xs.take (k + 1)) = bitsL (xs.take k) ++ bitsOf xs[k] := by
  rw [take_snoc _ _ h, bitsL_append]; simp [bitsL]
theorem bitsOf_take (x : UInt8) (j : Nat) (h : j < 8) : (bitsOf x).take (j + 1) = (bitsOf x).take j ++ [x.toNat.testBit j] := by
  rw [take_snoc _ _ (by rw [bitsOf_length]; exact h)]
  simp [bitsOf, numBits]
theorem ch_bit (x : UInt8) (j : Nat) : 48 + bitI (x.toNat.testBit j) = n8 (ch (x.toNat.testBit j)) := by
  cases x.toNat.testBit j <;> rfl
set_option maxRecDepth 100000 in
set_option maxHeartbeats 800000 in
theorem rowOf_any (A : Option Addr) (n c : Nat) (xs : List UInt8) (w : World) (hn : xs.length = n) (hx : n ≤ 1000000000) (hA : ByAt w A xs) :
    Calls Try.prog 28 #[.slice A n c] w fun e w' => e = .returned (rowV (bitsL xs)) ∧ Below w.heap.size w w' := by
  have Hn := Lib.hid hn
  have HA := Lib.hid hA
  clear hn hA
  go_enter Try.func28, Try.ntmps28
  go_wp2_with fail
  go_loopw [9] (fun i wr => ∃ k : Nat, k ≤ n ∧ i = .int .i64 k ∧ Bld w.heap.size w.heap.size (rowS (bitsL (xs.take k))) wr ∧ Below w.heap.size w wr) (fun i _ => n - (intOf i).toNat)
  case atStart => exact ⟨0, Nat.zero_le _, rfl, Bld.new w, (Below.refl _ w).alloc (Nat.le_refl _) _⟩
  case round =>
    obtain ⟨k, hk, rfl, hB, hb⟩ := hrel
    have HB := Lib.hid hB
    have Hb := Lib.hid hb
    clear hB hb
    by_cases hlt : k < n
    · have hkl : k < xs.length := by rw [Hn.out]; exact hlt
      obtain ⟨b, o, rfl, hc⟩ := (HA.out.below Hb.out).get hkl
      have Htk := Lib.hid (bitsL_take xs k hkl)
      have hlen : (bitsL (xs.take k)).length ≤ 8000000000 := by rw [bitsL_length]; simp; omega
      generalize xs[k] = x at *
      generalize bitsL (xs.take k) = bs at *
      go_wp2_with fail
      go_loopw [13] (fun i wx => ∃ j : Nat, j ≤ 8 ∧ i = .int .i64 j ∧ Bld w.heap.size w.heap.size (rowS (bs ++ (bitsOf x).take j)) wx ∧ Below w.heap.size w wx) (fun i _ => 8 - (intOf i).toNat)
      case atStart => exact ⟨0, Nat.zero_le _, rfl, by simpa using HB.out, Hb.out⟩
      case round =>
        obtain ⟨j, hj, rfl, hB, hb⟩ := hrel
        have HB2 := Lib.hid hB
        have Hb2 := Lib.hid hb
        clear hB hb
        by_cases hj8 : j < 8
        · have hq := u8_and_bitI x j
          have hbd := bitI_bd (x.toNat.testBit j)
          have Hch := Lib.hid (ch_bit x j)
          have Hto := Lib.hid (bitsOf_take x j hj8)
          have hlen2 : ((bitsOf x).take j).length ≤ 8 := by simp; omega
          generalize x.toNat.testBit j = bb at *
          go_wp2_with fail
          rw [Hch.out]
          refine (HB2.out.byte (ch bb) (by rw [rowS_length, List.length_append]; omega)).mono ?_
          rintro e w3 ⟨rfl, hB3, hb3⟩
          have HB3 := Lib.hid hB3
          have Hb3 := Lib.hid (Hb2.out.trans hb3)
          clear hB3 hb3
          go_wp2_with fail
          go_roundw
          case rel =>
            refine ⟨j + 1, by omega, by go_num, ?_, Hb3.out⟩
            have := HB3.out
            rw [Hto.out, ← List.append_assoc, rowS_append]
            exact this
          case measure => simp [intOf]; omega
        · obtain rfl : j = 8 := by omega
          have Hfull := Lib.hid (List.take_of_length_le (by rw [bitsOf_length]; omega : (bitsOf x).length ≤ 8))
          go_wp2_with fail
          go_roundw
          case rel =>
            refine ⟨k + 1, by omega, by go_num, ?_, Hb2.out⟩
            have := HB2.out
            rw [Hfull.out] at this
            rw [Htk.out]; exact this
          case measure => simp [intOf]; omega
    · have Hall := Lib.hid (List.take_of_length_le (by rw [Hn.out]; omega : xs.length ≤ k))
      go_wp2_with fail
      refine (Bld.done HB.out).mono ?_
      rintro e w3 ⟨rfl, hb3⟩
      have Hb3 := Lib.hid (Hb.out.trans hb3)
      clear hb3
      go_wp2_with fail
      go_ret
      refine ⟨?_, Hb3.out⟩
      rw [Hall.out]; rfl
end Go.Proofs.Ythpdcnjaodjjmaa.Bits

/- reliquaryref.Unpacked: the walk: it gives what blocks of bits say. -/
namespace Go.Proofs.Ythpdcnjaodjjmaa.Unp
open Go Go.RowKit Go.Proofs.Ythpdcnjaodjjmaa Go.Proofs.Ythpdcnjaodjjmaa.Bits Go.Proofs.Ythpdcnjaodjjmaa.Code
open Go.Proofs.Ythpdcnjaodjjmaa.Inf hiding then_ok tyI
set_option linter.unusedVariables false
set_option linter.unusedSimpArgs false

theorem raw_few (row : List Bool) : ∀ (n : Nat) (s : St), s.out.length ≤ 3000 → (uraw row n s).out.length ≤ 3000
  | 0, s, h => h
  | n + 1, s, h => by
    unfold uraw
    split
    · exact raw_few row n _ (say_len _ (by rw [(get_out row s 8).1]; exact h))
    · exact h
theorem copy_few (d : Nat) : ∀ (n : Nat) (s : St), s.out.length ≤ 3000 → (ucopy d n s).out.length ≤ 3000
  | 0, s, h => h
  | n + 1, s, h => by
    unfold ucopy
    split
    · exact copy_few d n _ (say_len _ h)
    · exact h
theorem body_few (row : List Bool) (lit far : List Nat) : ∀ (f : Nat) (s : St), s.out.length ≤ 3000 → (ubody row lit far f s).out.length ≤ 3000
  | 0, s, h => by unfold ubody; rw [(wrong_same s 7).2.1]; exact h
  | f + 1, s, h => by
    by_cases he : s.e = 0
    · rw [body_go he]
      have o1 := (place_out row lit s).1
      generalize uplace row lit s = a at *
      split
      · rw [o1]; exact h
      · split
        · exact body_few row lit far f _ (say_len _ (by rw [o1]; exact h))
        · split
          · rw [(wrong_same a.2 8).2.1, o1]; exact h
          · dsimp only
            have o2 := (get_out row a.2 (sameL.getD (a.1 - 257) (0, 0)).2).1
            generalize uget row a.2 (sameL.getD (a.1 - 257) (0, 0)).2 = q at *
            have o3 := (place_out row far q.2).1
            generalize uplace row far q.2 = g at *
            have o4 := (if_same (29 < g.1) g.2 8).2.1
            generalize uif (29 < g.1) g.2 8 = s4 at *
            split
            · rw [o4, o3, o2, o1]; exact h
            · have o5 := (get_out row s4 (farL.getD g.1 (0, 0)).2).1
              generalize uget row s4 (farL.getD g.1 (0, 0)).2 = y at *
              refine body_few row lit far f _ (copy_few _ _ _ ?_)
              rw [(if_same _ y.2 9).2.1, o5, o4, o3, o2, o1]
              exact h
    · rw [body_stuck he]; exact h
theorem block_few (row : List Bool) (s : St) (hp : s.pos ≤ row.length) (h : s.out.length ≤ 3000) : (ublock row s).2.out.length ≤ 3000 := by
  unfold ublock
  have p1 := get_pos (n := 1) hp
  have o1 := (get_out row s 1).1
  generalize uget row s 1 = l at *
  have p2 := get_pos (n := 2) p1
  have o2 := (get_out row l.2 2).1
  generalize hk : uget row l.2 2 = k at *
  dsimp only
  rw [hk]
  have h2 : k.2.out.length ≤ 3000 := by rw [o2, o1]; exact h
  split
  · exact h2
  · split
    · show (ustored row k.2).out.length ≤ 3000
      unfold ustored
      refine raw_few row _ _ ?_
      rw [(if_same _ _ 4).2.1, (get_out row _ 16).1, (get_out row _ 16).1]
      exact h2
    · have o3 : (if k.1 = 1 then ((fixedA, fixedB), k.2) else if k.1 = 2 then utold row k.2 else (([], []), uwrong k.2 4)).2.out = k.2.out := by
        split
        · rfl
        · split
          · exact (told_facts row k.2 p2).2.1
          · exact (wrong_same k.2 4).2.1
      generalize (if k.1 = 1 then ((fixedA, fixedB), k.2) else if k.1 = 2 then utold row k.2 else (([], []), uwrong k.2 4)) = t at *
      split
      · rw [o3]; exact h2
      · show (ubody row t.1.1 t.1.2 (row.length + 1) t.2).out.length ≤ 3000
        exact body_few row _ _ _ _ (by rw [o3]; exact h2)
/-- what follows a block that is not the last one -/
theorem block_next (row : List Bool) (s : St) (hs : s.e = 0) (hr : (ublock row s).2.e = 0) : s.pos < (ublock row s).2.pos ∧ (ublock row s).2.pos ≤ row.length ∧ (ublock row s).2.ks.length = s.ks.length + 1 := by
  have h := sim_block row s hs
  cases hb : blockR row s.pos s.out with
  | bad z =>
    rw [hb] at h
    dsimp only at h
    exact absurd (h.symm.trans hr) (nz_block _ _ _ z hb)
  | ok a =>
    rw [hb] at h
    dsimp only at h
    have hm := block_mono hb
    rw [h]
    exact ⟨hm.1, hm.2, by show (s.ks ++ [_]).length = _; rw [List.length_append]; rfl⟩
theorem blocks_go {row : List Bool} {f : Nat} {s : St} (h : (ublock row s).1 = false ∧ (ublock row s).2.e = 0) : ublocks row (f + 1) s = ublocks row f (ublock row s).2 := by
  conv => lhs; unfold ublocks
  rw [if_pos h]
theorem blocks_end {row : List Bool} {f : Nat} {s : St} (h : ¬ ((ublock row s).1 = false ∧ (ublock row s).2.e = 0)) : ublocks row (f + 1) s = (ublock row s).2 := by
  conv => lhs; unfold ublocks
  rw [if_neg h]
/-- what unpacking gives, however many bytes there are -/
def blocksOf (xs : List UInt8) : Inf.Rd (Nat × List UInt8 × List Nat) := blocksR (bitsL xs) ((bitsL xs).length + 1) 0 [] []
def UsPost (w : World) (xs : List UInt8) (e : Ending) (w' : World) : Prop := match blocksOf xs with
  | .bad z => z ≠ 0 ∧ e = .returned (.tuple #[.slice none 0 0, .int .i64 0, .slice none 0 0, .int .i64 z])
  | .ok a => a.2.1.length ≤ 3000 ∧ ∃ vo vk, e = .returned (.tuple #[vo, .int .i64 (((a.1 + 7) / 8 : Nat) : Int), vk, .int .i64 0]) ∧ w'.ownsRow w.heap.size 5 1 vo a.2.1.length (a.2.1.map u8v) ∧ w'.ownsRow w.heap.size 3 1 vk a.2.2.length (a.2.2.map natV)
theorem results_tmp4 {fn : Func} {t u v x : Tmp} (h : fn.results = #[.tmp t, .tmp u, .tmp v, .tmp x]) (tmps : Array Value) (P : Program) (w : World) :
    (results fn tmps).run P w = .ok (.tuple #[tmps.getD t undef, tmps.getD u undef, tmps.getD v undef, tmps.getD x undef]) w := by
  simp [results, h]
theorem usPost_of {w w' : World} {xs : List UInt8} {e : Ending} {F : Nat} {U : St} (hF : F = (bitsL xs).length + 1) (hU : U = ublocks (bitsL xs) F ⟨0, [], [], 0⟩)
    (hb : U.e ≠ 0 → e = .returned (.tuple #[.slice none 0 0, .int .i64 0, .slice none 0 0, .int .i64 U.e]))
    (hg : U.e = 0 → U.out.length ≤ 3000 ∧ ∃ vo vk, e = .returned (.tuple #[vo, .int .i64 (((U.pos + 7) / 8 : Nat) : Int), vk, .int .i64 0]) ∧ w'.ownsRow w.heap.size 5 1 vo U.out.length (U.out.map u8v) ∧ w'.ownsRow w.heap.size 3 1 vk U.ks.length (U.ks.map natV)) : UsPost w xs e w' := by
  have h := sim_blocks (bitsL xs) F ⟨0, [], [], 0⟩ rfl
  unfold UsPost blocksOf
  rw [← hF]
  cases hr : blocksR (bitsL xs) F 0 [] [] with
  | bad z =>
    rw [hr] at h
    dsimp only at h ⊢
    rw [← hU] at h
    have hz := nz_blocks _ _ _ _ _ z hr
    exact ⟨hz, by rw [← h]; exact hb (by rw [h]; exact hz)⟩
  | ok a =>
    rw [hr] at h
    dsimp only at h ⊢
    rw [← hU] at h
    have h1 := hg (by rw [h])
    rw [h] at h1
    exact h1
set_option maxRecDepth 100000 in
set_option maxHeartbeats 4000000 in
theorem unpacked_any (A : Option Addr) (n c : Nat) (xs : List UInt8) (w : World) (hn : xs.length = n) (hx : n ≤ 100000) (hA : ByAt w A xs) :
    Calls Try.prog 14 #[.slice A n c] w fun e w' => UsPost w xs e w' ∧ Below w.heap.size w w' := by
  obtain ⟨row, hrow⟩ : ∃ row, row = bitsL xs := ⟨_, rfl⟩
  have hrl : row.length = 8 * n := by rw [hrow, bitsL_length, hn]
  have HRO := Lib.hid (rowOf_any A n c xs w hn (by omega) hA)
  rw [← hrow] at HRO
  obtain ⟨F, hF⟩ : ∃ F, F = row.length + 1 := ⟨_, rfl⟩
  obtain ⟨U, hU⟩ : ∃ U, U = ublocks row F ⟨0, [], [], 0⟩ := ⟨_, rfl⟩
  have HF := Lib.hid hF
  have HU0 := Lib.hid hU
  have Hrow := Lib.hid hrow
  obtain ⟨base, hbase⟩ : ∃ base, base = w.heap.size := ⟨_, rfl⟩
  have Hbase := Lib.hid hbase
  clear hU hrow hbase hF
  have Hrv0 : Hid (rowV row = .string (strB (rowS row))) := Lib.hid rfl
  unfold rowV at HRO
  obtain ⟨S, hS⟩ : ∃ S, S = strB (rowS row) := ⟨_, rfl⟩
  rw [← hS] at HRO Hrv0
  have Hrv : Hid (rowV row = .string S) := Hrv0
  clear Hrv0 hS
  have HUF := HU0
  go_enter Try.func14, Try.ntmps14
  go_wp2_with fail
  refine (HRO.out).mono ?_
  rintro e w1 ⟨rfl, hb1⟩
  have HB1 := Lib.hid hb1
  obtain ⟨p, hp⟩ : ∃ p, p = w1.heap.size := ⟨_, rfl⟩
  have hbp : base ≤ p := by rw [hp, Hbase.out]; exact hb1.size
  have HU1 : Hid (UAt (w1.alloc (.cells #[.string S, .int .i64 0, .slice none 0 0, .slice none 0 0, .int .i64 0] 61)) base p row ⟨0, [], [], 0⟩ (.slice none 0 0) (.slice none 0 0)) := Lib.hid (by
    refine ⟨hbp, ?_, World.ownsRow_nil _ _ _ _, World.ownsRow_nil _ _ _ _⟩
    rw [hp, Hrv.out]
    exact Blk.new w1 _ _)
  have HB2 : Hid (Below base w (w1.alloc (.cells #[.string S, .int .i64 0, .slice none 0 0, .slice none 0 0, .int .i64 0] 61))) := Lib.hid (by
    rw [Hbase.out]
    exact HB1.out.alloc HB1.out.size _)
  clear hb1 HRO HB1
  go_wp2_with fail
  rw [← hp]
  generalize w1.alloc (.cells #[.string S, .int .i64 0, .slice none 0 0, .slice none 0 0, .int .i64 0] 61) = w2 at *
  clear hp
  go_loopw [] (fun wr => ∃ (f : Nat) (s : St) (vo vk : Value), row.length + 1 ≤ f + s.pos ∧ U = ublocks row f s ∧ s.e = 0 ∧ s.pos ≤ row.length ∧ s.out.length ≤ 3000 ∧ s.ks.length ≤ s.pos ∧ UAt wr base p row s vo vk ∧ Below base w wr) (fun wr => row.length + 1 - posAt p wr)
  case atStart => exact ⟨F, ⟨0, [], [], 0⟩, _, _, by rw [HF.out]; dsimp only; omega, HU0.out, rfl, Nat.zero_le _, by simp, by simp, HU1.out, HB2.out⟩
  case round =>
    obtain ⟨f, s, vo, vk, hf, hU, he, hps, hol, hkl, hu, hb⟩ := hrel
    obtain ⟨f, rfl⟩ : ∃ f', f = f' + 1 := ⟨f - 1, by omega⟩
    have HU := Lib.hid hU
    have Hp0 := Lib.hid (posAt_u hu)
    have Hb := Lib.hid hb
    have HBl := Lib.hid (block_u base p row s wr hu hps (by omega) (by omega) hol (by omega))
    have HN := Lib.hid (block_next row s he)
    have HW := Lib.hid (block_few row s hps hol)
    have HGo := Lib.hid (blocks_go (row := row) (f := f) (s := s))
    have HEn := Lib.hid (blocks_end (row := row) (f := f) (s := s))
    clear hU hu hb HU0 HU1 HB2
    generalize ublock row s = R at *
    obtain ⟨lb, s2⟩ := R
    go_wp2_with fail
    refine (HBl.out).mono ?_
    rintro e w3 ⟨vo2, vk2, rfl, hu3, hb3⟩
    have Hu3 := Lib.hid hu3
    have Hb3 := Lib.hid (Hb.out.trans hb3)
    have hc4 := (u_cells hu3.2.1).2.2.2.2
    clear hu3 hb3 HBl
    dsimp only at hc4 HN HW HGo HEn Hu3 ⊢
    by_cases hgo : lb = false ∧ s2.e = 0
    · obtain ⟨rfl, he2⟩ := hgo
      obtain ⟨n1, n2, n3⟩ := HN.out he2
      replace HU := Lib.hid (HU.out.trans (HGo.out ⟨rfl, he2⟩))
      rw [he2] at hc4
      have He2 := Lib.hid he2
      have Hp3 := Lib.hid (posAt_u Hu3.out)
      clear HGo HEn HN he2
      go_wp2_with fail
      go_roundw
      case rel => exact ⟨f, s2, _, _, by omega, HU.out, He2.out, n2, HW.out, by omega, Hu3.out, Hb3.out⟩
      case measure => rw [Hp3.out, Hp0.out]; omega
    · replace HU := Lib.hid (HU.out.trans (HEn.out hgo))
      have HN2 := HN
      clear HGo HEn HN
      by_cases he2 : s2.e = 0
      · have hlb : lb = true := by
          cases lb with
          | true => rfl
          | false => exact absurd ⟨rfl, he2⟩ hgo
        subst hlb
        clear hgo
        have hz : (s2.e == 0) = true := by rw [he2]; rfl
        have Hze : Hid (s2.e = 0) := Lib.hid he2
        rw [he2] at hc4
        clear he2 hz
        obtain ⟨hbp3, hB3, hO3, hK3⟩ := Hu3.out
        have hc1 := (u_cells hB3).2.1
        have hc2 := (u_cells hB3).2.2.1
        have hc3 := (u_cells hB3).2.2.2.1
        obtain ⟨us, hus⟩ : ∃ us, us = (s2.pos + 7) / 8 := ⟨_, rfl⟩
        have hp3 : s2.pos ≤ row.length := (HN2.out Hze.out).2.1
        have hw7 : IntKind.i64.wrap ((s2.pos : Int) + 7) = (s2.pos : Int) + 7 := IntWalk.i64_in _ (by omega)
        have hdv : ((s2.pos : Int) + 7) / 8 = (us : Int) := by omega
        have HO3 := Lib.hid hO3
        have HK3 := Lib.hid hK3
        have Hus := Lib.hid hus
        clear hB3 hO3 hK3 hus
        go_wp2_with fail
        go_quiet (fail)
        go_wp2_with fail
        (try simp only [Exit.inBlock, Exit.then]); refine bodyPost_ret (results_tmp4 rfl _ _ _) rfl ?_
        refine ⟨usPost_of (F := F) (U := U) (by rw [HF.out, Hrow.out]) (by rw [← Hrow.out]; exact HUF.out) ?_ ?_, ?_⟩
        · intro h
          exact absurd (by rw [HU.out]; exact Hze.out) h
        · intro _
          rw [HU.out, ← Hus.out]
          exact ⟨HW.out, _, _, by rw [← hdv]; rfl, by rw [← Hbase.out]; exact HO3.out, by rw [← Hbase.out]; exact HK3.out⟩
        · rw [← Hbase.out]; exact below_drewN' Hb3.out _
      · clear hgo
        cases lb with
        | true =>
          have hz : (s2.e == 0) = false := by rw [beq_eq_false_iff_ne]; exact he2
          have hzn : (s2.e != 0) = true := by rw [bne, hz]; rfl
          have Hze : Hid (s2.e ≠ 0) := Lib.hid he2
          obtain ⟨ze, hze⟩ : ∃ ze, ze = s2.e := ⟨_, rfl⟩
          rw [← hze] at hz hzn hc4
          have Hzz := Lib.hid hze
          clear he2 hze
          go_wp2_with fail
          go_quiet (fail)
          go_wp2_with fail
          (try simp only [Exit.inBlock, Exit.then]); refine bodyPost_ret (results_tmp4 rfl _ _ _) rfl ?_
          refine ⟨usPost_of (F := F) (U := U) (by rw [HF.out, Hrow.out]) (by rw [← Hrow.out]; exact HUF.out) ?_ ?_, ?_⟩
          · intro _
            rw [HU.out, ← Hzz.out]; rfl
          · intro h
            exact absurd (by rw [← HU.out]; exact h) Hze.out
          · rw [← Hbase.out]; exact below_drewN' Hb3.out _
        | false =>
          have hz : (s2.e == 0) = false := by rw [beq_eq_false_iff_ne]; exact he2
          have hzn : (s2.e != 0) = true := by rw [bne, hz]; rfl
          have Hze : Hid (s2.e ≠ 0) := Lib.hid he2
          obtain ⟨ze, hze⟩ : ∃ ze, ze = s2.e := ⟨_, rfl⟩
          rw [← hze] at hz hzn hc4
          have Hzz := Lib.hid hze
          clear he2 hze
          go_wp2_with fail
          go_quiet (fail)
          go_wp2_with fail
          (try simp only [Exit.inBlock, Exit.then]); refine bodyPost_ret (results_tmp4 rfl _ _ _) rfl ?_
          refine ⟨usPost_of (F := F) (U := U) (by rw [HF.out, Hrow.out]) (by rw [← Hrow.out]; exact HUF.out) ?_ ?_, ?_⟩
          · intro _
            rw [HU.out, ← Hzz.out]; rfl
          · intro h
            exact absurd (by rw [← HU.out]; exact h) Hze.out
          · rw [← Hbase.out]; exact below_drewN' Hb3.out _
end Go.Proofs.Ythpdcnjaodjjmaa.Unp

/- reliquarylaw.InflateUnpack: the walk. -/
namespace Go.Proofs.Ythpdcnjaodjjmaa.InflateUnpack
open Go Go.RowKit Go.Proofs.Ythpdcnjaodjjmaa Go.Proofs.Ythpdcnjaodjjmaa.Bits Go.Proofs.Ythpdcnjaodjjmaa.Code Go.Proofs.Ythpdcnjaodjjmaa.Inf
set_option linter.unusedVariables false
set_option linter.unusedSimpArgs false

theorem few_blocks {xs : List UInt8} (h : ¬ 6000 < xs.length) : unpackR xs = (Unp.blocksOf xs).then_ fun x => .ok (x.2.1, (x.1 + 7) / 8, x.2.2) := by
  rw [unp_some h]
  unfold Unp.blocksOf
  rw [bitsL_length]
set_option maxRecDepth 100000 in
set_option maxHeartbeats 1600000 in
theorem walk (w : World) (v : Value) (xs : List UInt8) (h : IsBytes w v xs) :
    Calls Try.prog 4 #[v] w fun e w' => e = .returned (.bool true) ∧ Below w.heap.size w w' := by
  obtain ⟨A, cap, rfl, hle, hmax, hc⟩ := h
  obtain ⟨n, hn⟩ : ∃ n, n = xs.length := ⟨_, rfl⟩
  rw [← hn] at hle ⊢
  have Hn := Lib.hid hn
  have hmx : (n : Int) ≤ 9223372036854775807 := by unfold maxLen at hmax; omega
  have hnc : (n : Int) ≤ (cap : Int) := by omega
  have Hc := Lib.hid hc
  have HU := Lib.hid (Inf.unpack_any A n cap xs w hn.symm (by omega) hc)
  clear hn hc
  go_enter Try.func4, Try.ntmps4
  go_wp2_with fail
  refine (HU.out).mono ?_
  rintro e w1 ⟨hu, hb1⟩
  unfold UPost at hu
  have HB1 := Lib.hid hb1
  by_cases h6 : 6000 < n
  · rw [unp_long (by rw [← Hn.out]; exact h6)] at hu
    dsimp only at hu
    subst hu
    have h6' : (6000 : Int) < (n : Int) := by omega
    clear h6 hb1 HU
    go_wp2_with fail
    refine (inflated_any w1).mono ?_
    rintro e w2 ⟨rfl, hb2⟩
    have HB2 := Lib.hid (HB1.out.trans (hb2.mono HB1.out.size))
    clear hb2
    go_wp2_with fail
    refine (inflated_any w2).mono ?_
    rintro e w3 ⟨rfl, hb3⟩
    have HB3 := Lib.hid (HB2.out.trans (hb3.mono HB2.out.size))
    clear hb3
    go_wp2_with fail
    go_ret
    exact ⟨rfl, HB3.out⟩
  · have h6' : ¬ (6000 : Int) < (n : Int) := by omega
    rw [few_blocks (by rw [← Hn.out]; exact h6)] at hu
    have HUs := Lib.hid (fun w' hA => Unp.unpacked_any A n cap xs w' Hn.out.symm (by omega) hA)
    have Hc1 := Lib.hid (SlAt.below Hc.out hb1)
    clear h6 hb1 HU
    cases hr : Unp.blocksOf xs with
    | bad z =>
      rw [hr, Unp.thb] at hu
      dsimp only at hu
      subst hu
      have Hr := Lib.hid hr
      clear hr
      go_wp2_with fail
      refine (inflated_any w1).mono ?_
      rintro e w2 ⟨rfl, hb2⟩
      have HB2 := Lib.hid (HB1.out.trans (hb2.mono HB1.out.size))
      have Hc2 := Lib.hid (SlAt.below Hc1.out hb2)
      clear hb2
      go_wp2_with fail
      refine (HUs.out w2 Hc2.out).mono ?_
      rintro e w3 ⟨hu3, hb3⟩
      unfold Unp.UsPost at hu3
      rw [Hr.out] at hu3
      dsimp only at hu3
      obtain ⟨hz, rfl⟩ := hu3
      have HB3 := Lib.hid (HB2.out.trans (hb3.mono HB2.out.size))
      clear hb3 hz HUs
      go_wp2_with fail
      refine (equal_bytes none none 0 0 0 0 [] [] w3 rfl rfl SlAt.nil SlAt.nil).mono ?_
      rintro e w4 ⟨rfl, rfl⟩
      rw [show decide (([] : List UInt8) = []) = true from by simp]
      go_wp2_with fail
      refine (equal_ints none none 0 0 0 0 [] [] w4 rfl rfl (by unfold maxLen; omega) (by unfold maxLen; omega) SlAt.nil SlAt.nil).mono ?_
      rintro e w5 ⟨rfl, d, rfl⟩
      rw [show decide (([] : List Int) = []) = true from by simp]
      go_wp2_with fail
      go_ret
      exact ⟨rfl, below_drewN' HB3.out _⟩
    | ok a =>
      rw [hr, Unp.thn] at hu
      obtain ⟨pp, out, ks⟩ := a
      dsimp only at hu
      obtain ⟨hfew, Ao, co, Ak, ck, rfl, ho, hk⟩ := hu
      obtain ⟨_, _, e1, _, _, so, _⟩ := own_slat ho
      injection e1 with e1 _ e2
      subst e1 e2
      obtain ⟨_, _, e1, hk1, hk2, sk, _⟩ := own_slat hk
      injection e1 with e1 _ e2
      subst e1 e2
      obtain ⟨ol, hol⟩ : ∃ ol, ol = out.length := ⟨_, rfl⟩
      obtain ⟨kl, hkl⟩ : ∃ kl, kl = ks.length := ⟨_, rfl⟩
      obtain ⟨us, hus⟩ : ∃ us, us = (pp + 7) / 8 := ⟨_, rfl⟩
      rw [← hol, ← hkl, ← hus]
      have Hr := Lib.hid hr
      have Hol := Lib.hid hol
      have Hkl := Lib.hid hkl
      have Hus := Lib.hid hus
      have SO := Lib.hid so
      have SK := Lib.hid sk
      have hkx : kl ≤ maxLen := by omega
      clear hr ho hk so sk hol hkl hus hfew hk1 hk2
      go_wp2_with fail
      refine (inflated_any w1).mono ?_
      rintro e w2 ⟨rfl, hb2⟩
      have HB2 := Lib.hid (HB1.out.trans (hb2.mono HB1.out.size))
      have Hc2 := Lib.hid (SlAt.below Hc1.out hb2)
      have SO2 := Lib.hid (SlAt.below SO.out hb2)
      have SK2 := Lib.hid (SlAt.below SK.out hb2)
      clear hb2 SO SK
      go_wp2_with fail
      refine (HUs.out w2 Hc2.out).mono ?_
      rintro e w3 ⟨hu3, hb3⟩
      unfold Unp.UsPost at hu3
      rw [Hr.out] at hu3
      dsimp only at hu3
      obtain ⟨_, vx, vl, rfl, hx, hl⟩ := hu3
      obtain ⟨Ax, cx, rfl, _, _, sx, _⟩ := own_slat hx
      obtain ⟨Al, cl, rfl, _, _, sl, _⟩ := own_slat hl
      rw [← Hol.out, ← Hkl.out, ← Hus.out]
      have HB3 := Lib.hid (HB2.out.trans (hb3.mono HB2.out.size))
      have SX := Lib.hid sx
      have SL := Lib.hid sl
      have SO3 := Lib.hid (SlAt.below SO2.out hb3)
      have SK3 := Lib.hid (SlAt.below SK2.out hb3)
      clear hx hl sx sl hb3 HUs SO2 SK2
      go_wp2_with fail
      refine (equal_bytes Ao Ax ol ol _ _ out out w3 Hol.out.symm Hol.out.symm SO3.out SX.out).mono ?_
      rintro e w5 ⟨rfl, rfl⟩
      rw [show decide (out = out) = true from by simp]
      go_wp2_with fail
      refine (equal_ints Ak Al kl kl _ _ (ks.map Int.ofNat) (ks.map Int.ofNat) _ (by rw [List.length_map]; exact Hkl.out.symm) (by rw [List.length_map]; exact Hkl.out.symm) hkx hkx (slat_iv SK3.out) (slat_iv SL.out)).mono ?_
      rintro e w6 ⟨rfl, d, rfl⟩
      rw [show decide (ks.map Int.ofNat = ks.map Int.ofNat) = true from by simp]
      go_wp2_with fail
      go_ret
      exact ⟨rfl, below_drewN' HB3.out _⟩
end Go.Proofs.Ythpdcnjaodjjmaa.InflateUnpack
