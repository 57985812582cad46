/- reliquarylaw.CodeRead: the walk. -/
import Derived.Test.YtfgkfakhlcbdbaaCdsBook
import Derived.Test.YtfgkfakhlcbdbaaCdsChk
import Derived.Test.YtfgkfakhlcbdbaaCodeFact
import Derived.Test.YtfgkfakhlcbdbaaRowS
import Derived.Test.YtfgkfakhlcbdbaaEqual
import Derived.Test.YtfgkfakhlcbdbaaRegT
import Derived.Test.YtfgkfakhlcbdbaaInts
import Derived.Test.YtfgkfakhlcbdbaaOpen
namespace Go.Proofs.Ytfgkfakhlcbdbaa.CodeRead
open Go Go.RowKit Go.Proofs.Ytfgkfakhlcbdbaa Go.Proofs.Ytfgkfakhlcbdbaa.Bits Go.Proofs.Ytfgkfakhlcbdbaa.Code Go.Proofs.Ytfgkfakhlcbdbaa.Cds
set_option linter.unusedVariables false
set_option linter.unusedSimpArgs false

theorem tyI : SliceTy Try.prog 22 3 (.int .i64 0) 1 8 := ⟨Try.underlying22, by kernel_rfl, rfl, by omega⟩
theorem step_app3 {P : Program} {ops : Array Oper} {o : Oper} {a : Act} {w : World} {K : Act → World → Prop} {Q : Exit → Act → World → Prop} {E : Prop} (hgd : o.guard = none) (s x : Operand) (t : TypeId)
    (hop : o.op = .call { callee := .builtin .append, args := #[s, x], argTypes := #[t, t] })
    (base : Nat) (e : TypeId) (z : Value) (size bytes : Nat) (hT : SliceTy P t e z size bytes)
    (v : Value) (n : Nat) (xs : List Value) (hs : a.eval s = v) (hown : w.ownsRow base e size v n xs)
    (A : Option Addr) (m c : Nat) (news : List Value) (hx : a.eval x = .slice A m c) (hl : news.length = m * size) (hr : SlAt w A news) (h1 : ∀ u ∈ news, u.oneCell' = true)
    (hA : A = none → m = 0) (h63 : n + m ≤ maxLen) (hbytes : (n + m) * bytes ≤ 140737488355328) (hbase : base ≤ w.heap.size)
    (hK : ∀ v' w', w'.ownsRow base e size v' (n + m) (xs ++ news) → w.grownBy w' v.ownBlock → (v'.ownBlock = v.ownBlock ∨ v'.ownBlock = some w.heap.size) → K (a.put o.dst v') w') :
    if Region.wanted o (yielded ops a.tmps) = true then Oper.wp P o a w K Q else E := by
  have hw : Region.wanted o (yielded ops a.tmps) = true := by simp [Region.wanted, hgd]
  rw [if_pos hw]
  obtain ⟨v', w', hrun, h2, h3, h4⟩ := run_app (P := P) w base t o.type e z size bytes hT v n xs hown A m c news hl hr h1 hA h63 hbytes hbase
  unfold Oper.wp
  simp [execOp, hop, resolve, invoke, builtin, hs, hx, hrun, Result.andThen]
  exact hK _ _ h2 h3 h4
theorem nxt_bd (ls : List Nat) (row : List Bool) : ∀ (k n i m : Nat), nxt ls row k n = (i, m, 0) → m ≤ row.length
  | 0, n, i, m, h => by simp [nxt] at h
  | k + 1, n, i, m, h => by
    unfold nxt at h
    by_cases h1 : row.length < n
    · rw [if_pos h1] at h; simp at h
    · rw [if_neg h1] at h
      cases hf : findC ls n (val (row.take n)) with
      | some x => rw [hf] at h; simp at h; omega
      | none => rw [hf] at h; exact nxt_bd ls row k (n + 1) i m h
theorem row_drop (l : List Bool) (n : Nat) : (strB (rowS l)).extract n (strB (rowS l)).size = strB (rowS (l.drop n)) := by
  apply ByteArray.ext
  simp [strB, rowS, List.map_drop, ByteArray.size]
  rw [List.take_of_length_le (by simp)]
def intsOf (o : List Nat) : List Int := o.map Int.ofNat
theorem ints_of (o : List Nat) : o.map natV = (intsOf o).map iv := by unfold intsOf; rw [List.map_map]; rfl
theorem intsOf_len (o : List Nat) : (intsOf o).length = o.length := by simp [intsOf]
theorem riter_end (ls : List Nat) (row r : List Bool) (j K k n : Nat) (e : Int) (o : List Nat) (hj : j < K) (h : riter ls row j = (o, r, 0)) (hn : next ls r = (k, n, e)) (he : e ≠ 0) : (riter ls row K).2.2 = e := by
  have h1 := riter_bad ls row r j k n e o h hn he
  have h2 := riter_stays ls row (j + 1) (K - (j + 1)) (by rw [h1]; exact he)
  rw [show j + 1 + (K - (j + 1)) = K by omega, h1] at h2
  rw [h2]
set_option maxRecDepth 100000 in
set_option maxHeartbeats 3000000 in
theorem walk (W : World) (v0 : Value) (zs : List Int) (h0 : Ints W v0 zs) (v1 : Value) (xs : List UInt8) (h1 : IsBytes W v1 xs) (many : Int) (wm : wfI many) :
    Calls Try.prog 4 #[v0, v1, .int .i64 many] W fun e W' => e = .returned (.bool true) ∧ Below W.heap.size W W' := by
  obtain ⟨A, ca, rfl, g1, g2, hA, _, _⟩ := h0
  obtain ⟨B, cb, rfl, g3, g4, hB⟩ := h1
  obtain ⟨N, hN⟩ : ∃ N, N = zs.length := ⟨_, rfl⟩
  obtain ⟨M, hM⟩ : ∃ M, M = xs.length := ⟨_, rfl⟩
  rw [← hN] at g1 ⊢
  rw [← hM] at g3 ⊢
  have HN := Lib.hid hN.symm
  have HM := Lib.hid hM.symm
  have Hxn : Hid (N ≤ maxLen) := Lib.hid (by omega)
  have Hxm : Hid (M ≤ maxLen) := Lib.hid (by omega)
  have hNb : N ≤ 9223372036854775807 := by have := Hxn.out; unfold maxLen at this; omega
  have hMb : M ≤ 9223372036854775807 := by have := Hxm.out; unfold maxLen at this; omega
  have HA0 := Lib.hid (ints_at hA)
  have HB0 := Lib.hid hB
  clear hA hB hN hM g1 g2 g3 g4
  go_enter Try.func4, Try.ntmps4
  go_wp2_with fail
  refine (read_any A B N M ca cb zs xs many W HN.out HM.out Hxn.out Hxm.out HA0.out HB0.out).mono ?_
  rintro e w1 ⟨hp, hb1⟩
  have Hb1 := Lib.hid hb1
  have HA1 := Lib.hid (HA0.out.below hb1)
  have HB1 := Lib.hid (SlAt.below HB0.out hb1)
  clear hb1 HA0 HB0
  have HL1 := Lib.hid (lengths_any A N ca zs w1 HN.out Hxn.out HA1.out)
  by_cases h0 : chkL zs = 0
  · have H0 := Lib.hid h0
    rw [h0] at HL1
    by_cases hbig : 6000 < M ∨ many < 0 ∨ 3000 < many
    · have hrd : rdE zs xs many = 2 := by unfold rdE; rw [if_neg (by rw [H0.out]; simp), if_pos (by rw [HM.out]; exact hbig)]
      rcases hp with ⟨_, rfl⟩ | ⟨hbad, _⟩
      · rw [hrd]
        clear hrd h0
        by_cases c1 : (6000 : Int) < (M : Int)
        · clear hbig
          go_wp2_with fail
          refine (HL1.out).mono ?_
          rintro e wx ⟨rfl, hw⟩
          cases hw
          go_wp2_with fail
          refine (coded_any _).mono ?_
          rintro e w3 ⟨rfl, hb3⟩
          have Hb3 := Lib.hid (stepN Hb1.out hb3)
          clear hb3
          go_wp2_with fail
          refine (coded_any w3).mono ?_
          rintro e w4 ⟨rfl, hb4⟩
          have Hb4 := Lib.hid (stepN Hb3.out hb4)
          clear hb4
          go_wp2_with fail
          go_ret
          exact ⟨rfl, Hb4.out⟩
        · by_cases c2 : many < 0
          · clear hbig
            go_wp2_with fail
            refine (HL1.out).mono ?_
            rintro e wx ⟨rfl, hw⟩
            cases hw
            go_wp2_with fail
            refine (coded_any _).mono ?_
            rintro e w3 ⟨rfl, hb3⟩
            have Hb3 := Lib.hid (stepN Hb1.out hb3)
            clear hb3
            go_wp2_with fail
            refine (coded_any w3).mono ?_
            rintro e w4 ⟨rfl, hb4⟩
            have Hb4 := Lib.hid (stepN Hb3.out hb4)
            clear hb4
            go_wp2_with fail
            go_ret
            exact ⟨rfl, Hb4.out⟩
          · have c3 : 3000 < many := by omega
            clear hbig
            go_wp2_with fail
            refine (HL1.out).mono ?_
            rintro e wx ⟨rfl, hw⟩
            cases hw
            go_wp2_with fail
            refine (coded_any _).mono ?_
            rintro e w3 ⟨rfl, hb3⟩
            have Hb3 := Lib.hid (stepN Hb1.out hb3)
            clear hb3
            go_wp2_with fail
            refine (coded_any w3).mono ?_
            rintro e w4 ⟨rfl, hb4⟩
            have Hb4 := Lib.hid (stepN Hb3.out hb4)
            clear hb4
            go_wp2_with fail
            go_ret
            exact ⟨rfl, Hb4.out⟩
      · rw [hrd] at hbad; exact absurd hbad (by decide)
    · obtain ⟨K, rfl⟩ := Int.eq_ofNat_of_zero_le (by omega : 0 ≤ many)
      have hM6 : M ≤ 6000 := by omega
      have hK3 : K ≤ 3000 := by omega
      have c1 : ¬ (6000 : Int) < (M : Int) := by omega
      have c2 : ¬ (K : Int) < 0 := by omega
      have c3 : ¬ (3000 : Int) < (K : Int) := by omega
      have hrd : rdE zs xs (K : Int) = (riter (lsOf zs) (bitsL xs) K).2.2 := by unfold rdE; rw [if_neg (by rw [H0.out]; simp), if_neg (by rw [HM.out]; omega), Int.toNat_natCast]
      obtain ⟨z, hz⟩ : ∃ z, z = (riter (lsOf zs) (bitsL xs) K).2.2 := ⟨_, rfl⟩
      have hpv : ∃ P np cp, e = .returned (.tuple #[.slice P np cp, .int .i64 z]) ∧ (z ≠ 0 → np = 0) ∧ (z = 0 → SlAt w1 P ((riter (lsOf zs) (bitsL xs) K).1.map natV) ∧ np = (riter (lsOf zs) (bitsL xs) K).1.length) := by
        rcases hp with ⟨hbad, rfl⟩ | ⟨hok, v, rfl, hown⟩
        · exact ⟨none, 0, 0, by rw [hrd, hz], fun _ => rfl, fun h => absurd (hrd.trans (hz.symm.trans h)) hbad⟩
        · rw [Int.toNat_natCast] at hown
          obtain ⟨P, cp, rfl, _, _, hs, _⟩ := own_slat hown
          have hz0 : z = 0 := hz.trans (hrd.symm.trans hok)
          exact ⟨P, _, cp, by rw [hz0], fun h => absurd hz0 h, fun _ => ⟨hs, rfl⟩⟩
      obtain ⟨P, np, cp, rfl, hp1, hp2⟩ := hpv
      have HP1 := Lib.hid hp1
      have HP2 := Lib.hid hp2
      have Hz := Lib.hid hz
      obtain ⟨f1, f2, f3, f4, f5⟩ := chk_fine zs h0
      have hn288 : N ≤ 288 := by rw [← HN.out]; exact f1
      clear hp hp1 hp2 hz hrd hbig h0 f1 f2 f3 f4 f5
      go_wp2_with fail
      refine (HL1.out).mono ?_
      rintro e wx ⟨rfl, hw⟩
      cases hw
      go_wp2_with fail
      refine (coded_any w1).mono ?_
      rintro e w3 ⟨rfl, hb3⟩
      have Hb3 := Lib.hid (stepN Hb1.out hb3)
      have Hd3 := Lib.hid hb3
      have HA3 := Lib.hid (HA1.out.below hb3)
      have HB3 := Lib.hid (SlAt.below HB1.out hb3)
      clear hb3 HA1 HB1 HL1 Hb1
      go_wp2_with fail
      refine (codebook_any A N ca zs w3 HN.out HA3.out H0.out).mono ?_
      rintro e w4 ⟨⟨gm, al, rfl, hkm, hbook⟩, hb4⟩
      have Hb4 := Lib.hid (stepN Hb3.out hb4)
      have Hd4 := Lib.hid (stepN Hd3.out hb4)
      have HB4 := Lib.hid (SlAt.below HB3.out hb4)
      have HK4 := Lib.hid hkm
      have HBook : Hid (HasBook al (lsOf zs) (lsOf zs).length) := Lib.hid (by rw [lsOf_len, HN.out]; exact hbook)
      clear hb4 hkm hbook HA3 HB3 Hb3 Hd3
      go_wp2_with fail
      refine (rowOf_any B M cb xs w4 HM.out (by omega) HB4.out).mono ?_
      rintro e w5 ⟨rfl, hb5⟩
      have Hb5 := Lib.hid (stepN Hb4.out hb5)
      have Hd5 := Lib.hid (stepN Hd4.out hb5)
      have HK5 := Lib.hid (HK4.out.below hb5)
      have HP5 : Hid (z = 0 → SlAt w5 P ((riter (lsOf zs) (bitsL xs) K).1.map natV) ∧ np = (riter (lsOf zs) (bitsL xs) K).1.length) := Lib.hid (fun h => ⟨(HP2.out h).1.below Hd5.out, (HP2.out h).2⟩)
      have Hrow : Hid ((bitsL xs).length ≤ 48000) := Lib.hid (by rw [bitsL_length, HM.out]; omega)
      clear hb5 HK4 HB4 Hb4 Hd4 HP2
      generalize bitsL xs = row at *
      go_wp2_with fail
      generalize hBB : w5.heap.size = BB at *
      have HBB := Lib.hid hBB
      clear hBB
      go_loopw [12, 11, 62] (fun v rv i wr => ∃ (j : Nat) (o : List Nat) (r : List Bool) (V : Value), V = v ∧ j ≤ K ∧ i = .int .i64 (j : Int) ∧ riter (lsOf zs) row j = (o, r, 0) ∧ rv = rowV r ∧ r.length ≤ 48000 ∧ wr.ownsRow BB 3 1 V o.length (o.map natV) ∧ Below BB w5 wr) (fun _ _ i _ => K - (intOf i).toNat)
      case atStart => exact ⟨0, [], row, _, rfl, Nat.zero_le _, rfl, rfl, rfl, Hrow.out, World.ownsRow_nil _ _ _ _, Below.refl _ _⟩
      case round =>
        obtain ⟨j, o, r, v, rfl, hj, rfl, hit, rfl, hrl, hown, hbr⟩ := hrel
        have Hit := Lib.hid hit
        have Hown := Lib.hid hown
        have Hbr := Lib.hid hbr
        have hol : o.length = j := by
          have := riter_len (lsOf zs) row j (by rw [hit])
          rw [hit] at this; exact this
        have HKr := Lib.hid (HK5.out.below (HBB.out.symm ▸ hbr))
        have HFin : Hid (Below W.heap.size W wr) := Lib.hid (stepN Hb5.out (show Below w5.heap.size w5 wr by rw [HBB.out]; exact hbr))
        clear hit hown hbr
        by_cases hlt : j < K
        · have HN2 := Lib.hid (next_any gm al (lsOf zs) r wr HKr.out HBook.out (by omega))
          have hrv : rowV r = .string (strB (rowS r)) := rfl
          obtain ⟨k, n, e', hnx⟩ : ∃ k n e', next (lsOf zs) r = (k, n, e') := ⟨_, _, _, rfl⟩
          rw [hnx] at HN2
          dsimp only at HN2
          have Hnx := Lib.hid hnx
          clear hnx
          unfold natV at HN2
          rw [hrv] at HN2 ⊢
          clear hrv
          by_cases he : e' = 0
          · subst he
            have hnr : n ≤ r.length := nxt_bd (lsOf zs) r 15 1 k n Hnx.out
            have hSz : (strB (rowS r)).size = r.length := by rw [strB_size, rowS_length]
            have hdr := row_drop r n
            rw [hSz] at hdr
            have Hdr := Lib.hid hdr
            have Hnext := Lib.hid (riter_ok (lsOf zs) row r j k n o Hit.out Hnx.out)
            clear hdr
            generalize strB (rowS r) = S at *
            generalize hrn : r.length = rl at *
            have hn64 : n ≤ 48000 := by omega
            have hni : (n : Int) ≤ (rl : Int) := by omega
            go_wp2_with fail
            refine (HN2.out).mono ?_
            rintro e w6 ⟨rfl, hw⟩
            cases hw
            go_wp2_with fail
            refine wp_region_S (fun _ => True) 8 (by kernel_rfl) ?_
            have hHeld : True := True.intro
            obtain ⟨w6, hw6⟩ : ∃ w6, w6 = wr.drew := ⟨_, rfl⟩
            have hb6 : Below wr.heap.size wr w6 := by rw [hw6]; exact (Below.refl _ _).drew
            have HOwn6 := Lib.hid (own_keep Hown.out hb6)
            have Hb6 : Hid (Below BB w5 w6) := Lib.hid (by rw [hw6]; exact Hbr.out.drew)
            rw [← hw6]
            clear hw6 hb6 HN2
            refine wpAnyS_takeT (i := 0) (v := ?va0) (by kernel_rfl) (by kernel_rfl) rfl (by kernel_rfl) (by kernel_rfl) (by kernel_rfl) (fun _ _ _ h => h) (by rfl) (by assumption) ?hya0 ?resta0
            case hya0 => (intro V hSW; (try dsimp only at hSW); go_simp; try with_reducible rfl)
            (try simp only [Act.put, List.getElem_toArray, List.getElem_cons_zero, List.getElem_cons_succ, List.setIfInBounds_toArray, List.set_cons_zero, List.set_cons_succ])
            refine wpAnyS_takeT (i := 1) (v := ?va1) (by kernel_rfl) (by kernel_rfl) rfl (by kernel_rfl) (by kernel_rfl) (by kernel_rfl) (fun _ _ _ h => h) (by rfl) (by assumption) ?hya1 ?resta1
            case hya1 => (intro V hSW; (try dsimp only at hSW); go_simp; try with_reducible rfl)
            (try simp only [Act.put, List.getElem_toArray, List.getElem_cons_zero, List.getElem_cons_succ, List.setIfInBounds_toArray, List.set_cons_zero, List.set_cons_succ])
            refine wpAnyS_takeT (i := 4) (v := ?va4) (by kernel_rfl) (by kernel_rfl) rfl (by kernel_rfl) (by kernel_rfl) (by kernel_rfl) (fun _ _ _ h => h) (by rfl) (by assumption) ?hya4 ?resta4
            case hya4 => (intro V hSW; (try dsimp only at hSW); go_simp; try with_reducible rfl)
            (try simp only [Act.put, List.getElem_toArray, List.getElem_cons_zero, List.getElem_cons_succ, List.setIfInBounds_toArray, List.set_cons_zero, List.set_cons_succ])
            refine wpAnyS_takeT (i := 5) (v := ?va5) (by kernel_rfl) (by kernel_rfl) rfl (by kernel_rfl) (by kernel_rfl) (by kernel_rfl) (fun _ _ _ h => h) (by rfl) (by assumption) ?hya5 ?resta5
            case hya5 => (intro V hSW; (try dsimp only at hSW); go_simp; try with_reducible rfl)
            (try simp only [Act.put, List.getElem_toArray, List.getElem_cons_zero, List.getElem_cons_succ, List.setIfInBounds_toArray, List.set_cons_zero, List.set_cons_succ])
            refine wpAnyS_takeT (i := 6) (v := ?va6) (by kernel_rfl) (by kernel_rfl) rfl (by kernel_rfl) (by kernel_rfl) (by kernel_rfl) (fun _ _ _ h => h) (by rfl) (by assumption) ?hya6 ?resta6
            case hya6 => (intro V hSW; (try dsimp only at hSW); go_simp; try with_reducible rfl)
            (try simp only [Act.put, List.getElem_toArray, List.getElem_cons_zero, List.getElem_cons_succ, List.setIfInBounds_toArray, List.set_cons_zero, List.set_cons_succ])
            refine wpAnyS_only (i := 2) rfl (by kernel_rfl) (fun K hK => ?_)
            go_simp
            have HOwn7 := Lib.hid (HOwn6.out.alloc (.cells #[.int .i64 (k : Int)] 3))
            have Hsl7 := Lib.hid (slat_one w6 3 (.int .i64 (k : Int)))
            have hb6s : BB ≤ w6.heap.size := by have := Hb6.out.size; rw [HBB.out] at this; exact this
            have Hb7 := Lib.hid (Hb6.out.alloc hb6s (.cells #[.int .i64 (k : Int)] 3))
            refine hK.out _ _ True.intro (fun hHeld => ?_)
            clear hK K
            (try simp only [Act.put, List.getElem_toArray, List.getElem_cons_zero, List.getElem_cons_succ, List.setIfInBounds_toArray, List.set_cons_zero, List.set_cons_succ])
            generalize w6.alloc (.cells #[.int .i64 (k : Int)] 3) = w7 at *
            generalize w6.heap.size = g7 at *
            have hb7s : BB ≤ w7.heap.size := by have := Hb7.out.size; rw [HBB.out] at this; exact this
            refine wpAnyS_only (i := 3) rfl (by kernel_rfl) (fun K hK => ?_)
            refine step_app3 rfl (.tmp 81) (.tmp 83) _ rfl BB 3 _ 1 8 tyI v o.length (o.map natV) (by simp [Act.eval]) HOwn7.out (some ⟨g7, 0, none⟩) 1 1 [.int .i64 (k : Int)] (by simp [Act.eval]) rfl Hsl7.out (by simp [Value.oneCell']) (by simp) (by unfold maxLen; omega) (by omega) hb7s ?_
            intro v8 w8 hown8 hg8 _
            have HO8 := Lib.hid hown8
            have Hb8 := Lib.hid (own_below HOwn7.out hg8 Hb7.out hb7s)
            clear hown8 hg8
            refine hK.out _ _ True.intro (fun hHeld => ?_)
            clear hK K
            (try simp only [Act.put, List.getElem_toArray, List.getElem_cons_zero, List.getElem_cons_succ, List.setIfInBounds_toArray, List.set_cons_zero, List.set_cons_succ])
            refine wpAnyS_only (i := 7) rfl (by kernel_rfl) (fun K hK => ?_)
            go_simp
            refine hK.out _ _ True.intro (fun hHeld => ?_)
            clear hK K
            (try simp only [Act.put, List.getElem_toArray, List.getElem_cons_zero, List.getElem_cons_succ, List.setIfInBounds_toArray, List.set_cons_zero, List.set_cons_succ])
            refine wpAnyS_last rfl (by kernel_rfl) (by kernel_rfl) (fun K hK => ?_)
            go_simp
            refine hK.out _ _ ?_
            clear hK K
            go_wp2_with fail
            go_roundw
            case rel =>
              refine ⟨j + 1, o ++ [k], r.drop n, v8, rfl, by omega, by go_num, Hnext.out, ?_, by rw [List.length_drop]; omega, ?_, Hb8.out⟩
              · unfold rowV; rw [← Hdr.out]
              · rw [List.length_append, List.map_append]; exact HO8.out
            case measure => simp [intOf]; omega
          · have hze : z = e' := Hz.out.trans (riter_end (lsOf zs) row r j K k n e' o hlt Hit.out Hnx.out he)
            subst hze
            obtain rfl : np = 0 := HP1.out he
            have hz2 : (z != 0) = true := by simpa using he
            have hz3 : (z == z) = true := by simp
            go_wp2_with fail
            refine (HN2.out).mono ?_
            rintro e w6 ⟨rfl, hw⟩
            cases hw
            go_wp2_with fail
            go_ret
            exact ⟨rfl, HFin.out⟩
        · obtain rfl : j = K := by omega
          have hz0 : z = 0 := by rw [Hz.out, Hit.out]
          subst hz0
          obtain ⟨hs, hnp⟩ := HP5.out rfl
          rw [Hit.out] at hs hnp
          dsimp only at hs hnp
          have HS := Lib.hid (SlAt.below hs (HBB.out.symm ▸ Hbr.out))
          obtain ⟨A8, c8, rfl, _, _, hs8, _⟩ := own_slat Hown.out
          rw [hol] at hnp
          subst hnp
          have HE := Lib.hid (equal_ints P A8 np np cp c8 (intsOf o) (intsOf o) wr (by rw [intsOf_len]; exact hol) (by rw [intsOf_len]; exact hol) (by unfold maxLen; omega) (by unfold maxLen; omega) (show SlAt _ _ _ by rw [← ints_of]; exact HS.out) (show SlAt _ _ _ by rw [← ints_of]; exact hs8))
          rw [decide_eq_true rfl] at HE
          clear hs hs8
          go_wp2_with fail
          refine (HE.out).mono ?_
          rintro e w8 ⟨rfl, d, rfl⟩
          go_wp2_with fail
          go_ret
          exact ⟨rfl, below_drewN' HFin.out d⟩
  · have hrd : rdE zs xs many = chkL zs := by unfold rdE; rw [if_pos h0]
    rcases hp with ⟨_, rfl⟩ | ⟨hbad, _⟩
    · rw [hrd]
      clear hrd
      generalize chkL zs = z at *
      have hz : (z == 0) = false := by simpa using h0
      have hz2 : (z != 0) = true := by simpa using h0
      have hz3 : (z == z) = true := by simp
      go_wp2_with fail
      refine (HL1.out).mono ?_
      rintro e wx ⟨rfl, hw⟩
      cases hw
      go_wp2_with fail
      refine (coded_any _).mono ?_
      rintro e w3 ⟨rfl, hb3⟩
      have Hb3 := Lib.hid (stepN Hb1.out hb3)
      clear hb3
      go_wp2_with fail
      refine (coded_any w3).mono ?_
      rintro e w4 ⟨rfl, hb4⟩
      have Hb4 := Lib.hid (stepN Hb3.out hb4)
      clear hb4
      go_wp2_with fail
      go_ret
      exact ⟨rfl, Hb4.out⟩
    · rw [hrd] at hbad; exact absurd hbad h0
end Go.Proofs.Ytfgkfakhlcbdbaa.CodeRead
