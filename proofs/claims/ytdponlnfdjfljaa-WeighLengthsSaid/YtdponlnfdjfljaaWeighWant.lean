/- reliquarylaw.wanted, reliquaryref.Room: the walks. -/
import Derived.Test.YtdponlnfdjfljaaWeighLeast
namespace Go.Proofs.Ytdponlnfdjfljaa.Weigh
open Go Go.RowKit Go.Proofs.Ytdponlnfdjfljaa Go.Proofs.Ytdponlnfdjfljaa.SP
set_option linter.unusedVariables false

set_option maxRecDepth 100000 in
set_option maxHeartbeats 1600000 in
theorem wanted_any (A : Option Addr) (n c : Nat) (zs : List Int) (most : Int) (w : World) (hn : zs.length = n) (hx : n ≤ maxLen) (hA : InAt w A zs) :
    Calls Try.prog 40 #[.slice A n c, .int .i64 most] w fun e w' => (chkW zs most ≠ 0 ∧ e = .returned (.tuple #[.int .i64 0, .int .i64 (chkW zs most)]) ∨ chkW zs most = 0 ∧ e = .returned (.tuple #[.int .i64 (usedI zs : Int), .int .i64 0])) ∧ w' = w := by
  by_cases hx2 : 288 < (n : Int)
  · have Hc : Hid (chkW zs most = 2) := Lib.hid (by unfold chkW; rw [if_pos (by omega)])
    unfold maxLen at hx
    clear hn hA
    go_enter Try.func40, Try.ntmps40
    go_wp2_with fail
    go_ret2
    exact ⟨.inl ⟨by rw [Hc.out]; decide, by rw [Hc.out]; rfl⟩, rfl⟩
  · have Hn := Lib.hid hn
    have HA := Lib.hid hA
    clear hn hA hx
    go_enter Try.func40, Try.ntmps40
    go_wp2_with fail
    go_loop [6, 14] (fun u i => ∃ k : Nat, k ≤ n ∧ i = .int .i64 (k : Int) ∧ (zs.take k).any badWant = false ∧ u = .int .i64 (usedI (zs.take k) : Int)) (fun _ i => n - (intOf i).toNat)
    case atStart => exact ⟨0, Nat.zero_le _, rfl, rfl, rfl⟩
    case round =>
      obtain ⟨k, hk, rfl, hany, rfl⟩ := hrel
      have Hany := Lib.hid hany
      clear hany
      have hus := usedI_le (zs.take k)
      rw [List.length_take] at hus
      by_cases hlt : k < n
      · have hkl : k < zs.length := by rw [Hn.out]; exact hlt
        obtain ⟨b, o, rfl, hc⟩ := HA.out.get hkl
        have Hu := Lib.hid (usedI_take zs k hkl)
        have Hany2 := Lib.hid (wany_take zs k hkl Hany.out)
        have Hbad := Lib.hid (chkW_bad zs most k hkl (by rw [Hn.out]; omega))
        generalize usedI (zs.take k) = u at *
        generalize zs[k] = z at *
        by_cases h1 : z < 0
        · have Hf := Lib.hid (Hbad.out (by simp [badWant, h1]))
          clear Hbad Hany2 Hu
          go_wp2_with fail
          go_ret2
          exact ⟨.inl ⟨by rw [Hf.out]; decide, by rw [Hf.out]; rfl⟩, rfl⟩
        · have d1 : decide (z < 0) = false := by simp; omega
          by_cases h2 : 1000000 < z
          · have Hf := Lib.hid (Hbad.out (by simp [badWant, h2]))
            clear Hbad Hany2 Hu
            go_wp2_with fail
            go_ret2
            exact ⟨.inl ⟨by rw [Hf.out]; decide, by rw [Hf.out]; rfl⟩, rfl⟩
          · have Ha := Lib.hid (Hany2.out (by simp [badWant]; omega))
            clear Hbad Hany2
            by_cases h0 : 0 < z
            · rw [if_pos h0] at Hu
              go_wp2_with fail
              go_round
              case rel => exact ⟨k + 1, by omega, by go_num, Ha.out, by rw [Hu.out]; go_num⟩
              case measure => simp [intOf]; omega
            · rw [if_neg h0] at Hu
              go_wp2_with fail
              go_round
              case rel => exact ⟨k + 1, by omega, by go_num, Ha.out, by rw [Hu.out]; rfl⟩
              case measure => simp [intOf]; omega
      · obtain rfl : k = n := by omega
        have Htk := Lib.hid (List.take_of_length_le (by rw [Hn.out]; omega : zs.length ≤ k))
        have hal := Hany.out
        rw [Htk.out] at hal hus ⊢
        have Hf := Lib.hid (chkW_done zs most (by rw [Hn.out]; omega) hal)
        clear hal
        generalize hu9 : usedI zs = u at *
        have Hu9 := Lib.hid hu9
        clear hu9
        by_cases h1 : most < 1
        · rw [if_pos (.inl h1)] at Hf
          go_wp2_with fail
          go_ret2
          exact ⟨.inl ⟨by rw [Hf.out]; decide, by rw [Hf.out]; rfl⟩, rfl⟩
        · have d1 : decide (most < 1) = false := by simp; omega
          by_cases h2 : 15 < most
          · rw [if_pos (.inr h2)] at Hf
            go_wp2_with fail
            go_ret2
            exact ⟨.inl ⟨by rw [Hf.out]; decide, by rw [Hf.out]; rfl⟩, rfl⟩
          · rw [if_neg (by omega)] at Hf
            obtain ⟨L, rfl⟩ := Int.eq_ofNat_of_zero_le (by omega : 0 ≤ most)
            rw [Int.toNat_natCast] at Hf
            have h3 : (2 : Nat) ^ L ≤ 2 ^ 15 := Nat.pow_le_pow_right (by omega) (by omega)
            have ht : (2 : Int) ^ L = ((2 ^ L : Nat) : Int) := by simp
            generalize 2 ^ L = y at *
            by_cases h4 : y < u
            · rw [if_pos h4] at Hf
              go_wp2_with fail
              go_ret2
              exact ⟨.inl ⟨by rw [Hf.out]; decide, by rw [Hf.out]; rfl⟩, rfl⟩
            · rw [if_neg h4] at Hf
              go_wp2_with fail
              go_ret2
              exact ⟨.inr ⟨Hf.out, by rw [Hu9.out]; rfl⟩, rfl⟩
/-- the room that lengths take -/
def roomW (ls : List Nat) : Nat := (ls.map fun n => if n = 0 then 0 else 2 ^ (15 - n)).sum
theorem roomW_take (ls : List Nat) (k : Nat) (h : k < ls.length) : roomW (ls.take (k + 1)) = roomW (ls.take k) + if ls[k] = 0 then 0 else 2 ^ (15 - ls[k]) := by
  unfold roomW
  rw [take_snoc _ _ h, List.map_append, List.sum_append]; simp only [List.map_cons, List.map_nil, List.sum_cons, List.sum_nil, Nat.add_zero]
theorem roomW_le (ls : List Nat) : roomW ls ≤ 32768 * ls.length := by
  unfold roomW
  induction ls with
  | nil => simp
  | cons a l ih =>
    rw [List.map_cons, List.sum_cons, List.length_cons]
    have : (if a = 0 then 0 else 2 ^ (15 - a)) ≤ 32768 := by
      split
      · omega
      · exact Nat.pow_le_pow_right (n := 2) (by omega) (show 15 - a ≤ 15 by omega)
    omega
set_option maxRecDepth 100000 in
set_option maxHeartbeats 800000 in
theorem room_any (A : Option Addr) (n c : Nat) (ls : List Nat) (w : World) (hn : ls.length = n) (hn2 : n ≤ 288) (h15 : ∀ x ∈ ls, x ≤ 15) (hA : SlAt w A (ls.map nv)) :
    Calls Try.prog 29 #[.slice A n c] w fun e w' => e = .returned (.int .i64 (roomW ls : Int)) ∧ w' = w := by
  have Hn := Lib.hid hn
  have HA := Lib.hid hA
  have H15 := Lib.hid h15
  clear hn hA h15
  go_enter Try.func29, Try.ntmps29
  go_wp2_with fail
  go_loop [3, 8] (fun r i => ∃ k : Nat, k ≤ n ∧ i = .int .i64 (k : Int) ∧ r = .int .i64 (roomW (ls.take k) : Int)) (fun _ i => n - (intOf i).toNat)
  case atStart => exact ⟨0, Nat.zero_le _, rfl, rfl⟩
  case round =>
    obtain ⟨k, hk, rfl, rfl⟩ := hrel
    have hb := roomW_le (ls.take k)
    have hl : (ls.take k).length ≤ 288 := by rw [List.length_take]; omega
    have hb2 : roomW (ls.take k) ≤ 9437184 := by omega
    clear hb hl
    by_cases hlt : k < n
    · have hkl : k < ls.length := by rw [Hn.out]; exact hlt
      obtain ⟨b, o, rfl, hc⟩ := SlAt.get HA.out (k := k) (by rw [List.length_map]; exact hkl)
      have hc2 : w.cell? ⟨b, o + k, none⟩ = some (.int .i64 (ls[k] : Int)) := by rw [hc]; simp [nv]
      have Hr := Lib.hid (roomW_take ls k hkl)
      have hx15 := H15.out _ (List.getElem_mem hkl)
      clear hc
      generalize roomW (ls.take k) = r at *
      generalize ls[k] = x at *
      by_cases h0 : x = 0
      · subst h0
        rw [if_pos rfl] at Hr
        go_wp2_with fail
        go_round
        case rel => exact ⟨k + 1, by omega, by go_num, by rw [Hr.out]; rfl⟩
        case measure => simp [intOf]; omega
      · have h0i : (0 : Int) < (x : Int) := by omega
        rw [if_neg h0] at Hr
        have h3 : (2 : Nat) ^ (15 - x) ≤ 2 ^ 15 := Nat.pow_le_pow_right (by omega) (by omega)
        have hd : (32768 : Int) / 2 ^ x = ((2 ^ (15 - x) : Nat) : Int) := by
          have e : (32768 : Nat) = 2 ^ (15 - x) * 2 ^ x := by rw [← Nat.pow_add, show 15 - x + x = 15 by omega]
          have e2 : (32768 : Nat) / 2 ^ x = 2 ^ (15 - x) := by
            conv => lhs; rw [e]
            rw [Nat.mul_div_cancel _ (Nat.pow_pos (by omega))]
          rw [← e2]; simp
        generalize 2 ^ (15 - x) = y at *
        go_wp2_with fail
        go_round
        case rel => exact ⟨k + 1, by omega, by go_num, by rw [Hr.out]; go_num⟩
        case measure => simp [intOf]; omega
    · obtain rfl : k = n := by omega
      have Hall : Hid (ls.take k = ls) := Lib.hid (List.take_of_length_le (by rw [Hn.out]; exact Nat.le_refl _))
      rw [Hall.out]
      generalize hroom : roomW ls = r at *
      have Hroom := Lib.hid hroom
      clear hroom
      go_wp2_with fail
      go_ret
      exact ⟨ret_int (by rw [Hroom.out]), rfl⟩
end Go.Proofs.Ytdponlnfdjfljaa.Weigh
