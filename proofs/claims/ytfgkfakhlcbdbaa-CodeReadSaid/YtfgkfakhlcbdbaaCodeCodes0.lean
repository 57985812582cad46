/- package code: codes, Codes, Full. -/
import Derived.Test.YtfgkfakhlcbdbaaNats
import Derived.Test.YtfgkfakhlcbdbaaCodeCheck
import Derived.Test.YtfgkfakhlcbdbaaKeep
import Derived.WalkSpells
namespace Go.Proofs.Ytfgkfakhlcbdbaa.Code
open Go Go.RowKit Go.Proofs.Ytfgkfakhlcbdbaa
set_option linter.unusedVariables false

set_option maxRecDepth 100000 in
set_option maxHeartbeats 1600000 in
theorem codes_any (A : Option Addr) (n c : Nat) (zs : List Int) (w : World) (hn : zs.length = n) (hA : InAt w A zs) (hc : chkL zs = 0) :
    Calls Try.prog 29 #[.slice A n c] w fun e w' => (∃ g, e = .returned (.slice (some ⟨g, 0, none⟩) n n) ∧ w.heap.size ≤ g ∧ Blk w' g 3 (nats (codesL (lsOf zs)))) ∧ Below w.heap.size w w' := by
  obtain ⟨f1, f2, f3, f4, f5⟩ := chk_fine zs hc
  have hx : n ≤ 288 := by omega
  have Hl := Lib.hid (lsOf_len zs)
  rw [hn] at Hl
  have Hacc : Hid (∀ s, s ≤ 15 → first (lsOf zs) s + cnt (lsOf zs) s ≤ 32768) := Lib.hid (fun s hs => by
    have h1 := acc_le (lsOf zs) s hs f4 f3
    have h2 : (2 : Nat) ^ s ≤ 2 ^ 15 := Nat.pow_le_pow_right (by omega) hs
    omega)
  have Hend := Lib.hid (cst_end (lsOf zs) f4)
  have H5 := Lib.hid f5
  have Hn := Lib.hid hn
  have HA := Lib.hid hA
  have hmk := make_ints n (by omega)
  have Hz := Lib.hid (nats_zero n)
  have Hcz := Lib.hid (cst_zero (lsOf zs))
  clear hn hA hc f1 f2 f3 f4 f5
  go_enter Try.func29, Try.ntmps29
  go_wp2_with fail
  clear hmk
  rw [Hz.out]
  generalize hg : w.heap.size = g at *
  have Hg := Lib.hid hg
  clear hg
  go_loopw [4, 5] (fun v s wr => ∃ t : Nat, t ≤ 15 ∧ s = .int .i64 ((t : Int) + 1) ∧ v = .int .i64 ((first (lsOf zs) t + cnt (lsOf zs) t : Nat) : Int) ∧ Blk wr g 3 (nats (cst (lsOf zs) (t + 1) 0)) ∧ Below w.heap.size w wr) (fun _ s _ => 17 - (intOf s).toNat)
  case atStart => exact ⟨0, Nat.zero_le _, rfl, rfl, by rw [Hcz.out, Hl.out]; have := Blk.new w 3 (nats (List.replicate n 0)); rw [Hg.out] at this; exact this, (Below.refl _ _).alloc (Nat.le_refl _) _⟩
  case round =>
    obtain ⟨t, ht, rfl, rfl, hblk, hb⟩ := hrel
    have Hblk := Lib.hid hblk
    have Hb := Lib.hid hb
    clear hblk hb
    by_cases hlt : t < 15
    · have hacc := Hacc.out t ht
      have Hf : Hid (first (lsOf zs) (t + 1) = 2 * (first (lsOf zs) t + cnt (lsOf zs) t)) := Lib.hid rfl
      generalize first (lsOf zs) t + cnt (lsOf zs) t = a at *
      go_wp2_with fail
      go_loopw [4, 19] (fun v i wx => ∃ k : Nat, k ≤ n ∧ i = .int .i64 (k : Int) ∧ v = .int .i64 ((first (lsOf zs) (t + 1) + (ordN ((lsOf zs).take k) (t + 1)).length : Nat) : Int) ∧ Blk wx g 3 (nats (cst (lsOf zs) (t + 1) k)) ∧ Below w.heap.size w wx) (fun _ i _ => n - (intOf i).toNat)
      case atStart => exact ⟨0, Nat.zero_le _, rfl, by rw [Hf.out]; simp [ordN]; omega, Hblk.out, Hb.out⟩
      case round =>
        obtain ⟨k, hk, rfl, rfl, hblk, hbx⟩ := hrel
        have Hbk := Lib.hid hblk
        have Hbx := Lib.hid hbx
        clear hblk hbx
        have hol : (ordN ((lsOf zs).take k) (t + 1)).length ≤ 288 := by
          have h1 := ordN_len_le ((lsOf zs).take k) (t + 1)
          have h2 : ((lsOf zs).take k).length ≤ k := by simp; omega
          omega
        by_cases hkn : k < n
        · have hkl : k < zs.length := by rw [Hn.out]; exact hkn
          have hkl2 : k < (lsOf zs).length := by rw [Hl.out]; exact hkn
          obtain ⟨b, o, rfl, hcell⟩ := (HA.out.below Hbx.out).get hkl
          have hz := H5.out zs[k] (List.getElem_mem hkl)
          have Hd := Lib.hid (getD_of zs k hkl)
          have Ht := Lib.hid (ordN_take (lsOf zs) k (t + 1) hkl2)
          have Hhit := Lib.hid (cst_hit (lsOf zs) (t + 1) k hkl2)
          have Hmiss := Lib.hid (cst_miss (lsOf zs) (t + 1) k)
          rw [Hd.out] at Ht Hhit Hmiss
          generalize zs[k] = z at *
          obtain ⟨x, rfl⟩ := Int.eq_ofNat_of_zero_le hz.1
          rw [Int.toNat_natCast] at Ht Hhit Hmiss
          have hclen : k < (cst (lsOf zs) (t + 1) k).length := by rw [cst_length]; exact hkl2
          have Hclen := Lib.hid (cst_length (lsOf zs) (t + 1) k)
          generalize first (lsOf zs) (t + 1) = ff at *
          generalize hol2 : (ordN ((lsOf zs).take k) (t + 1)).length = q at *
          have Hq := Lib.hid hol2
          clear hol2
          by_cases hxt : x = t + 1
          · have e1 : ((x : Int) == (t : Int) + 1) = true := by simp; omega
            have Hs := Lib.hid (Hhit.out hxt (by omega))
            have Hr : Hid ((ordN ((lsOf zs).take (k + 1)) (t + 1)).length = q + 1) := Lib.hid (by rw [Ht.out, if_pos hxt, List.length_append, Hq.out]; rfl)
            clear Hhit Hmiss Ht hxt
            have hfz := Hbk.out.frozen k
            have hff : ff + q ≤ 1000000 := by have := Hf.out; omega
            have hce : wr.cell? ⟨g, k, none⟩ = some (.int .i64 (((cst (lsOf zs) (t + 1) k)[k]'hclen : Nat) : Int)) := by rw [Hbk.out.cell, nats_get _ _ hclen]
            go_wp2_with fail
            go_roundw
            case rel =>
              refine ⟨k + 1, by omega, by go_num, by rw [Hr.out]; go_num, ?_, ?_⟩
              · rw [Hs.out, ← nats_set]; exact Hbk.out.set_ k _
              · exact Hbx.out.setCell (by show w.heap.size ≤ g; rw [Hg.out]; exact Nat.le_refl _) _
            case measure => simp [intOf]; omega
          · have e1 : ((x : Int) == (t : Int) + 1) = false := by simp; omega
            have Hs := Lib.hid (Hmiss.out hxt)
            have Hr : Hid ((ordN ((lsOf zs).take (k + 1)) (t + 1)).length = q) := Lib.hid (by rw [Ht.out, if_neg hxt, List.append_nil, Hq.out])
            clear Hhit Hmiss Ht hxt
            go_wp2_with fail
            go_roundw
            case rel => exact ⟨k + 1, by omega, by go_num, by rw [Hr.out], by rw [Hs.out]; exact Hbk.out, Hbx.out⟩
            case measure => simp [intOf]; omega
        · obtain rfl : k = n := by omega
          have Hall : Hid ((lsOf zs).take k = lsOf zs) := Lib.hid (List.take_of_length_le (by rw [Hl.out]; omega))
          have Hcn := Lib.hid (cst_next (lsOf zs) (t + 1))
          have Hcnt : Hid (cnt (lsOf zs) (t + 1) = (ordN (lsOf zs) (t + 1)).length) := Lib.hid (by unfold cnt; rw [if_neg (by omega)])
          rw [Hall.out, ← Hcnt.out]
          rw [Hl.out] at Hcn
          go_wp2_with fail
          go_roundw
          case rel => exact ⟨t + 1, by omega, by go_num, rfl, by rw [← Hcn.out]; exact Hbk.out, Hbx.out⟩
          case measure => simp [intOf]; omega
    · obtain rfl : t = 15 := by omega
      go_wp2_with fail
      go_ret
      exact ⟨⟨g, rfl, by rw [Hg.out]; exact Nat.le_refl _, by rw [← Hend.out]; exact Hblk.out⟩, Hb.out⟩
end Go.Proofs.Ytfgkfakhlcbdbaa.Code
