/- reliquarylaw.InflateStored: the walk. -/
import Derived.Test.YthfbjgdophjelaaInfFact
import Derived.Test.YthfbjgdophjelaaInfHand
import Derived.Test.YthfbjgdophjelaaPairs
import Derived.Test.YthfbjgdophjelaaTwo
namespace Go.Proofs.Ythfbjgdophjelaa.InflateStored
open Go Go.RowKit Go.Proofs.Ythfbjgdophjelaa Go.Proofs.Ythfbjgdophjelaa.Bits Go.Proofs.Ythfbjgdophjelaa.Code Go.Proofs.Ythfbjgdophjelaa.Inf
set_option linter.unusedVariables false
set_option linter.unusedSimpArgs false

theorem two_own1 {w0 w : World} {e : TypeId} {v1 v2 : Value} {xs ys : List Value} {l : List (Nat × TypeId × Array Value)} {n : Nat} (h : Two w0 w e v1 v2 xs ys l) (hn : xs.length = n) : w.ownsRow w0.heap.size e 1 v1 n xs := by subst hn; exact h.1
theorem two_app {w0 w w' : World} {e : TypeId} {v1 v2 v' : Value} {xs ys news : List Value} {n m : Nat} (h : Two w0 w e v1 v2 xs ys []) (hn : xs.length = n) (hm : news.length = m) (hown : w'.ownsRow w0.heap.size e 1 v' (n + m) (xs ++ news)) (hg : w.grownBy w' v1.ownBlock)
    (hw : v'.ownBlock = v1.ownBlock ∨ v'.ownBlock = some w.heap.size) : Two w0 w' e v' v2 (xs ++ news) ys [] := by
  subst hn hm
  obtain ⟨ho1, ho2, hb, hd, _⟩ := h
  refine ⟨by rw [List.length_append]; exact hown, own_far ho2 hg hd, own_below ho1 hg hb hb.size, fun k hk1 hk2 => ?_, fun p hp => by simp at hp⟩
  rcases hw with e1 | e1
  · exact hd k (by rw [← e1]; exact hk1) hk2
  · rw [e1] at hk1; injection hk1 with hk1; have := (ho2.lt _ hk2).2; omega
theorem run_minI {P : Program} (ts : Array TypeId) (t : TypeId) (a : Nat) (w : World) : (Builtin.min_ ts t #[.int .i64 (a : Int), .int .i64 40]).run P w = .ok (.int .i64 ((min a 40 : Nat) : Int)) w := by
  simp [Builtin.min_, Builtin.min2]
  (repeat' split) <;> omega
theorem u8_ofNat (n : Nat) : u8v (UInt8.ofNat n) = .int .u8 ((n % 256 : Nat) : Int) := by
  unfold u8v n8
  rw [ofNat_toNat]
theorem xor8 : ∀ (x : Nat), x < 256 → Go.bits .xor .u8 IntKind.u8.max (x : Int) = ((255 - x : Nat) : Int) := by decide +kernel
theorem hdr_cells (n : Nat) (h : n ≤ 3000) : [Value.int .u8 0, .int .u8 ((n : Int) % 256), .int .u8 ((n : Int) / 256), .int .u8 (Go.bits .xor .u8 IntKind.u8.max ((n : Int) % 256)), .int .u8 (Go.bits .xor .u8 IntKind.u8.max ((n : Int) / 256))] = (hdr 0 n).map u8v := by
  have h3 : Go.bits .xor .u8 IntKind.u8.max ((n : Int) % 256) = ((255 - n % 256 : Nat) : Int) := by rw [show (n : Int) % 256 = ((n % 256 : Nat) : Int) by omega, xor8 _ (by omega)]
  have h4 : Go.bits .xor .u8 IntKind.u8.max ((n : Int) / 256) = ((255 - n / 256 : Nat) : Int) := by rw [show (n : Int) / 256 = ((n / 256 : Nat) : Int) by omega, xor8 _ (by omega)]
  rw [h3, h4]
  simp only [hdr, List.map_cons, List.map_nil, u8_ofNat]
  have e0 : u8v 0 = .int .u8 0 := rfl
  have e1 : ((n % 256 : Nat) : Int) = (n : Int) % 256 := by omega
  have e2 : ((n / 256 % 256 : Nat) : Int) = (n : Int) / 256 := by omega
  have e3 : (255 - n % 256) % 256 = 255 - n % 256 := by omega
  have e4 : (255 - n / 256 % 256) % 256 = 255 - n / 256 := by omega
  rw [e0, e1, e2, e3, e4]
theorem last_cells : [Value.int .u8 1, .int .u8 0, .int .u8 0, .int .u8 255, .int .u8 255] = (hdr 1 0).map u8v := by kernel_rfl
def bC (p : Value × List UInt8) : List Value := [p.1]
theorem flat_take (ps : List (List UInt8)) (j : Nat) (h : j < ps.length) : (ps.take (j + 1)).flatten = (ps.take j).flatten ++ ps[j] := by
  rw [List.take_succ_eq_append_getElem h, List.flatten_append]; simp
theorem hand_take (ps : List (List UInt8)) (j : Nat) (h : j < ps.length) : hand (ps.take (j + 1)) = hand (ps.take j) ++ (hdr 0 ps[j].length ++ ps[j]) := by
  unfold hand
  rw [List.take_succ_eq_append_getElem h, List.map_append, List.flatten_append]
  simp
theorem u8v_one (xs : List UInt8) : ∀ u ∈ xs.map u8v, u.oneCell' = true := by
  intro u hu
  obtain ⟨x, _, rfl⟩ := List.mem_map.1 hu
  rfl
set_option maxRecDepth 100000 in
set_option maxHeartbeats 1600000 in
theorem walk (w : World) (v : Value) (l : List (Value × List UInt8)) (h : IsL w (fun p : Value × List UInt8 => [p.1]) (fun p => IsBytes w p.1 p.2 ∧ p.2.length ≤ 140737488351232) v l) (hll : l.length ≤ 140737488351232) :
    Calls Try.prog 4 #[v] w fun e w' => e = .returned (.bool true) ∧ Below w.heap.size w w' := by
  obtain ⟨A, cap, rfl, hle, hmax, hc, hnil, hd⟩ := h
  obtain ⟨n, hn⟩ : ∃ n, n = l.length := ⟨_, rfl⟩
  rw [← hn] at hle ⊢
  obtain ⟨ps, hps⟩ : ∃ ps, ps = l.map (·.2) := ⟨_, rfl⟩
  have Hps := Lib.hid hps
  have Hn := Lib.hid hn
  have Hc := Lib.hid hc
  have Hd := Lib.hid hd
  have hmx : (n : Int) ≤ 9223372036854775807 := by unfold maxLen at hmax; omega
  have hmin := fun (ts : Array TypeId) (ty : TypeId) (W : World) => run_minI (P := Try.prog) ts ty n W
  obtain ⟨m, hm⟩ : ∃ m, m = min n 40 := ⟨_, rfl⟩
  rw [← hm] at hmin
  have hmn : m ≤ n := by omega
  have hm40 : m ≤ 40 := by omega
  have hmc : (m : Int) ≤ (cap : Int) := by omega
  have hm0 : (0 : Int) ≤ (m : Int) := by omega
  have H0 : Hid (Two w w 5 (.slice none 0 0) (.slice none 0 0) ((hand (ps.take 0)).map u8v) ((ps.take 0).flatten.map u8v) []) := Lib.hid (Two.start (Below.refl _ _))
  clear hn hps hc hd hnil hm
  go_enter Try.func4, Try.ntmps4
  go_wp2_with fail
  go_loopw [3, 4, 5, 18] (fun vb va vn vi wr => ∃ j : Nat, j ≤ m ∧ vi = .int .i64 (j : Int) ∧ vn = .int .i64 (j : Int) ∧ Two w wr 5 vb va ((hand (ps.take j)).map u8v) ((ps.take j).flatten.map u8v) [] ∧ (ps.take j).flatten.length ≤ 3000 ∧ (hand (ps.take j)).length ≤ 5905) (fun _ _ _ vi _ => m - (intOf vi).toNat)
  case atStart => exact ⟨0, Nat.zero_le _, rfl, rfl, H0.out, by simp, by simp [hand]⟩
  case round =>
    obtain ⟨j, hj, rfl, rfl, htwo, hf3, hb5⟩ := hrel
    have HT := Lib.hid htwo
    obtain ⟨_, _, e1, _, _, sb, _⟩ := own_slat htwo.1
    obtain ⟨_, _, e2, _, _, sa, _⟩ := own_slat htwo.2.1
    rw [List.length_map] at e1 e2
    obtain ⟨bl, hbl⟩ : ∃ bl, bl = (hand (ps.take j)).length := ⟨_, rfl⟩
    obtain ⟨al, hal⟩ : ∃ al, al = (ps.take j).flatten.length := ⟨_, rfl⟩
    rw [← hbl] at e1 hb5
    rw [← hal] at e2 hf3
    have Hbl := Lib.hid hbl
    have Hal := Lib.hid hal
    subst e1 e2
    clear htwo sb sa hbl hal
    by_cases hlt : j < m
    · have hjl : j < l.length := by rw [← Hn.out]; omega
      obtain ⟨bb, oo, rfl, hcell⟩ := slat_elem (size := 1) (fun _ => rfl) (by omega) (SlAt.below Hc.out (HT.out.2.2.1)) hjl
      have hcell0 := hcell 0 _ rfl
      obtain ⟨⟨Ap, cp, ep, hp1, hp2, hp3⟩, hpl⟩ := Hd.out l[j] (List.getElem_mem hjl)
      have hpj : ps[j]'(by rw [Hps.out, List.length_map]; exact hjl) = l[j].2 := by simp [Hps.out]
      have hjp : j < ps.length := by rw [Hps.out, List.length_map]; exact hjl
      obtain ⟨p, hp⟩ : ∃ p, p = l[j].2 := ⟨_, rfl⟩
      rw [← hp] at ep hp1 hp3 hpj hpl
      rw [ep] at hcell0
      have Ht1 := Lib.hid (flat_take ps j hjp)
      have Ht2 := Lib.hid (hand_take ps j hjp)
      rw [hpj] at Ht1 Ht2
      obtain ⟨pn, hpn⟩ : ∃ pn, pn = p.length := ⟨_, rfl⟩
      rw [← hpn] at hp1 hcell0 Ht2 hpl
      have Hpn := Lib.hid hpn
      have hpm : (pn : Int) ≤ 9223372036854775807 := by unfold maxLen at hp2; omega
      have HP : Hid (ByAt w Ap p) := Lib.hid hp3
      have hmul : oo + j * 1 + 0 = oo + j := by omega
      rw [hmul] at hcell0
      have hj0 : (0 : Int) ≤ (j : Int) := by omega
      have hjm : (j : Int) < (m : Int) := by omega
      clear hcell ep hpj hp hpn hp3 hmul
      have hw1 : IntKind.i64.wrap ((al : Int) + (pn : Int)) = (al : Int) + (pn : Int) := IntWalk.i64_in _ (by omega)
      have hw2 : IntKind.i64.wrap ((bl : Int) + (pn : Int)) = (bl : Int) + (pn : Int) := IntWalk.i64_in _ (by omega)
      by_cases hbig : 3000 < al + pn
      · have hg1 : (3000 : Int) < (al : Int) + (pn : Int) := by omega
        
        have HT2 := Lib.hid (HT.out.other (.cells #[.int .u8 1, .int .u8 0, .int .u8 0, .int .u8 255, .int .u8 255] 5))
        have HZ : Hid (SlAt (wr.alloc (.cells #[.int .u8 1, .int .u8 0, .int .u8 0, .int .u8 255, .int .u8 255] 5)) (some ⟨wr.heap.size, 0, none⟩) ((hdr 1 0).map u8v)) := Lib.hid (SlAt.of_heap (heap_alloc_new _ _) last_cells)
        have hlb : ((hand (ps.take j)).map u8v).length = bl := by rw [List.length_map, Hbl.out]
        have Hlb := Lib.hid hlb
        have hpj : (ps.take j).length = j := by
          rw [List.length_take, Hps.out, List.length_map, ← Hn.out]
          omega
        have HUn := Lib.hid (unpack_hand (ps := ps.take j) (by rw [← Hal.out]; exact hf3) (by rw [List.length_append, ← Hbl.out, hdr_length]; omega))
        rw [hpj, List.length_append, ← Hbl.out, hdr_length] at HUn
        have hmk : ∀ u : World, (Instr.makeSlice 23 (.int .i64 ((j : Int) + 1)) (.int .i64 ((j : Int) + 1))).run Try.prog u = .ok (.slice (some ⟨u.heap.size, 0, none⟩) (j + 1) (j + 1)) (u.alloc (.cells (nats (List.replicate (j + 1) 0)) 3)) := fun u => by
          have h := make_ints (j + 1) (by omega) u
          rw [nats_zero] at h
          rw [show (j : Int) + 1 = ((j + 1 : Nat) : Int) by omega]
          exact h
        clear hlb hpj
        go_wp2_with (at_builtin; refine wpList_app _ rfl (.tmp 64) (.tmp 65) _ rfl w.heap.size 5 _ 1 1 ty8' _ bl ((hand (ps.take j)).map u8v) rfl (two_own1 HT2.out Hlb.out) (some ⟨wr.heap.size, 0, none⟩) 5 5 ((hdr 1 0).map u8v) rfl rfl HZ.out (u8v_one _) (by simp) (by unfold maxLen; omega) (by omega) HT2.out.2.2.1.size ?_; intro v8 w8 h8 g8 i8; have T8 := Lib.hid (two_app (n := bl) (m := 5) HT2.out Hlb.out rfl h8 g8 i8); obtain ⟨A8, d8, rfl, _, _, s8, _⟩ := own_slat h8; have S8 := Lib.hid s8; clear h8 g8 i8 s8)
        have HS8 : Hid (ByAt w8 A8 (hand (ps.take j) ++ hdr 1 0)) := Lib.hid (by unfold ByAt; rw [List.map_append]; exact S8.out)
        obtain ⟨_, _, ea, _, _, sa, _⟩ := own_slat T8.out.2.1
        rw [List.length_map, ← Hal.out] at ea
        injection ea with ea1 ea2 ea3
        subst ea1
        have SA := Lib.hid sa
        have HB8 := Lib.hid T8.out.2.2.1
        clear sa ea2 ea3
        refine (Inf.unpack_any A8 (bl + 5) d8 (hand (ps.take j) ++ hdr 1 0) w8 (by rw [List.length_append, ← Hbl.out]; rfl) (by unfold maxLen; omega) HS8.out).mono ?_
        rintro e w9 ⟨hu, hb9⟩
        unfold UPost at hu
        rw [HUn.out] at hu
        dsimp only at hu
        obtain ⟨_, Ao, co, Ak, ck, rfl, ho, hk⟩ := hu
        obtain ⟨_, _, e1, _, _, so, _⟩ := own_slat ho
        injection e1 with e1 _ e2
        subst e1 e2
        obtain ⟨_, _, e1, _, _, sk, _⟩ := own_slat hk
        injection e1 with e1 _ e2
        subst e1 e2
        rw [← Hal.out, List.length_replicate]
        have HB9 := Lib.hid (HB8.out.trans (hb9.mono HB8.out.size))
        have SA9 := Lib.hid (SlAt.below SA.out hb9)
        have SO := Lib.hid so
        have SK := Lib.hid sk
        clear ho hk so sk hb9 T8 HT2 HZ
        go_wp2_with fail
        refine (inflated_any w9).mono ?_
        rintro e w10 ⟨rfl, hb10⟩
        have HB10 := Lib.hid (HB9.out.trans (hb10.mono HB9.out.size))
        have SA10 := Lib.hid (SlAt.below SA9.out hb10)
        have SO10 := Lib.hid (SlAt.below SO.out hb10)
        have SK10 := Lib.hid (SlAt.below SK.out hb10)
        clear hb10 SA9 SO SK
        go_wp2_with fail
        refine (equal_bytes Ao _ al al _ _ (ps.take j).flatten (ps.take j).flatten w10 Hal.out.symm Hal.out.symm SO10.out SA10.out).mono ?_
        rintro e w11 ⟨rfl, hw11⟩
        cases hw11
        rw [show decide ((ps.take j).flatten = (ps.take j).flatten) = true from by simp]
        go_wp2_with fail
        refine (equal_ints Ak _ (j + 1) (j + 1) _ _ ((List.replicate (j + 1) 0).map Int.ofNat) ((List.replicate (j + 1) 0).map Int.ofNat) _ (by simp) (by simp) (by unfold maxLen; omega) (by unfold maxLen; omega) (SlAt.alloc (slat_iv SK10.out) _) (slat_iv (SlAt.of_heap (heap_alloc_new _ _) (by simp [nats])))).mono ?_
        rintro e w12 ⟨rfl, d, rfl⟩
        rw [show decide ((List.replicate (j + 1) 0).map Int.ofNat = (List.replicate (j + 1) 0).map Int.ofNat) = true from by simp]
        go_wp2_with fail
        go_ret
        exact ⟨rfl, below_drewN' (HB10.out.alloc HB10.out.size _) _⟩
      · by_cases hbig2 : 5900 < bl + pn
        · have hg1 : (al : Int) + (pn : Int) ≤ 3000 := by omega
          have hg2 : (5900 : Int) < (bl : Int) + (pn : Int) := by omega
          
          have HT2 := Lib.hid (HT.out.other (.cells #[.int .u8 1, .int .u8 0, .int .u8 0, .int .u8 255, .int .u8 255] 5))
          have HZ : Hid (SlAt (wr.alloc (.cells #[.int .u8 1, .int .u8 0, .int .u8 0, .int .u8 255, .int .u8 255] 5)) (some ⟨wr.heap.size, 0, none⟩) ((hdr 1 0).map u8v)) := Lib.hid (SlAt.of_heap (heap_alloc_new _ _) last_cells)
          have hlb : ((hand (ps.take j)).map u8v).length = bl := by rw [List.length_map, Hbl.out]
          have Hlb := Lib.hid hlb
          have hpj : (ps.take j).length = j := by
            rw [List.length_take, Hps.out, List.length_map, ← Hn.out]
            omega
          have HUn := Lib.hid (unpack_hand (ps := ps.take j) (by rw [← Hal.out]; exact hf3) (by rw [List.length_append, ← Hbl.out, hdr_length]; omega))
          rw [hpj, List.length_append, ← Hbl.out, hdr_length] at HUn
          have hmk : ∀ u : World, (Instr.makeSlice 23 (.int .i64 ((j : Int) + 1)) (.int .i64 ((j : Int) + 1))).run Try.prog u = .ok (.slice (some ⟨u.heap.size, 0, none⟩) (j + 1) (j + 1)) (u.alloc (.cells (nats (List.replicate (j + 1) 0)) 3)) := fun u => by
            have h := make_ints (j + 1) (by omega) u
            rw [nats_zero] at h
            rw [show (j : Int) + 1 = ((j + 1 : Nat) : Int) by omega]
            exact h
          clear hlb hpj
          go_wp2_with (at_builtin; refine wpList_app _ rfl (.tmp 64) (.tmp 65) _ rfl w.heap.size 5 _ 1 1 ty8' _ bl ((hand (ps.take j)).map u8v) rfl (two_own1 HT2.out Hlb.out) (some ⟨wr.heap.size, 0, none⟩) 5 5 ((hdr 1 0).map u8v) rfl rfl HZ.out (u8v_one _) (by simp) (by unfold maxLen; omega) (by omega) HT2.out.2.2.1.size ?_; intro v8 w8 h8 g8 i8; have T8 := Lib.hid (two_app (n := bl) (m := 5) HT2.out Hlb.out rfl h8 g8 i8); obtain ⟨A8, d8, rfl, _, _, s8, _⟩ := own_slat h8; have S8 := Lib.hid s8; clear h8 g8 i8 s8)
          have HS8 : Hid (ByAt w8 A8 (hand (ps.take j) ++ hdr 1 0)) := Lib.hid (by unfold ByAt; rw [List.map_append]; exact S8.out)
          obtain ⟨_, _, ea, _, _, sa, _⟩ := own_slat T8.out.2.1
          rw [List.length_map, ← Hal.out] at ea
          injection ea with ea1 ea2 ea3
          subst ea1
          have SA := Lib.hid sa
          have HB8 := Lib.hid T8.out.2.2.1
          clear sa ea2 ea3
          refine (Inf.unpack_any A8 (bl + 5) d8 (hand (ps.take j) ++ hdr 1 0) w8 (by rw [List.length_append, ← Hbl.out]; rfl) (by unfold maxLen; omega) HS8.out).mono ?_
          rintro e w9 ⟨hu, hb9⟩
          unfold UPost at hu
          rw [HUn.out] at hu
          dsimp only at hu
          obtain ⟨_, Ao, co, Ak, ck, rfl, ho, hk⟩ := hu
          obtain ⟨_, _, e1, _, _, so, _⟩ := own_slat ho
          injection e1 with e1 _ e2
          subst e1 e2
          obtain ⟨_, _, e1, _, _, sk, _⟩ := own_slat hk
          injection e1 with e1 _ e2
          subst e1 e2
          rw [← Hal.out, List.length_replicate]
          have HB9 := Lib.hid (HB8.out.trans (hb9.mono HB8.out.size))
          have SA9 := Lib.hid (SlAt.below SA.out hb9)
          have SO := Lib.hid so
          have SK := Lib.hid sk
          clear ho hk so sk hb9 T8 HT2 HZ
          go_wp2_with fail
          refine (inflated_any w9).mono ?_
          rintro e w10 ⟨rfl, hb10⟩
          have HB10 := Lib.hid (HB9.out.trans (hb10.mono HB9.out.size))
          have SA10 := Lib.hid (SlAt.below SA9.out hb10)
          have SO10 := Lib.hid (SlAt.below SO.out hb10)
          have SK10 := Lib.hid (SlAt.below SK.out hb10)
          clear hb10 SA9 SO SK
          go_wp2_with fail
          refine (equal_bytes Ao _ al al _ _ (ps.take j).flatten (ps.take j).flatten w10 Hal.out.symm Hal.out.symm SO10.out SA10.out).mono ?_
          rintro e w11 ⟨rfl, hw11⟩
          cases hw11
          rw [show decide ((ps.take j).flatten = (ps.take j).flatten) = true from by simp]
          go_wp2_with fail
          refine (equal_ints Ak _ (j + 1) (j + 1) _ _ ((List.replicate (j + 1) 0).map Int.ofNat) ((List.replicate (j + 1) 0).map Int.ofNat) _ (by simp) (by simp) (by unfold maxLen; omega) (by unfold maxLen; omega) (SlAt.alloc (slat_iv SK10.out) _) (slat_iv (SlAt.of_heap (heap_alloc_new _ _) (by simp [nats])))).mono ?_
          rintro e w12 ⟨rfl, d, rfl⟩
          rw [show decide ((List.replicate (j + 1) 0).map Int.ofNat = (List.replicate (j + 1) 0).map Int.ofNat) = true from by simp]
          go_wp2_with fail
          go_ret
          exact ⟨rfl, below_drewN' (HB10.out.alloc HB10.out.size _) _⟩
        · have hg1 : (al : Int) + (pn : Int) ≤ 3000 := by omega
          have hg2 : (bl : Int) + (pn : Int) ≤ 5900 := by omega
          have HC := Lib.hid (hdr_cells pn (by omega))
          have HT2 := Lib.hid (HT.out.other (.cells #[.int .u8 0, .int .u8 ((pn : Int) % 256), .int .u8 ((pn : Int) / 256), .int .u8 (Go.bits .xor .u8 IntKind.u8.max ((pn : Int) % 256)), .int .u8 (Go.bits .xor .u8 IntKind.u8.max ((pn : Int) / 256))] 5))
          have HZ : Hid (SlAt (wr.alloc (.cells #[.int .u8 0, .int .u8 ((pn : Int) % 256), .int .u8 ((pn : Int) / 256), .int .u8 (Go.bits .xor .u8 IntKind.u8.max ((pn : Int) % 256)), .int .u8 (Go.bits .xor .u8 IntKind.u8.max ((pn : Int) / 256))] 5)) (some ⟨wr.heap.size, 0, none⟩) ((hdr 0 pn).map u8v)) := Lib.hid (SlAt.of_heap (heap_alloc_new _ _) HC.out)
          have Hlb : Hid (((hand (ps.take j)).map u8v).length = bl) := Lib.hid (by rw [List.length_map, Hbl.out])
          have Hla : Hid ((((ps.take j).flatten).map u8v).length = al) := Lib.hid (by rw [List.length_map, Hal.out])
          have Hlb2 : Hid (((hand (ps.take j)).map u8v ++ (hdr 0 pn).map u8v).length = bl + 5) := Lib.hid (by rw [List.length_append, Hlb.out]; rfl)
          have Hlp : Hid ((p.map u8v).length = pn) := Lib.hid (by rw [List.length_map, Hpn.out])
          have hAp : Ap = none → pn = 0 := fun e => by
            rcases Nat.eq_zero_or_pos pn with h | h
            · exact h
            · obtain ⟨b', o', e', _⟩ := HP.out (by rw [List.length_map, ← Hpn.out]; exact h)
              rw [e] at e'
              cases e'
          clear HC
          go_wp2_with (first
            | (at_builtin; refine wpList_app _ rfl (.tmp 36) (.tmp 53) _ rfl w.heap.size 5 _ 1 1 ty8' _ bl ((hand (ps.take j)).map u8v) rfl (two_own1 HT2.out Hlb.out) (some ⟨wr.heap.size, 0, none⟩) 5 5 ((hdr 0 pn).map u8v) rfl rfl HZ.out (u8v_one _) (by simp) (by unfold maxLen; omega) (by omega) HT2.out.2.2.1.size ?_; intro v8 w8 h8 g8 i8; have T8 := Lib.hid (two_app (n := bl) (m := 5) HT2.out Hlb.out rfl h8 g8 i8); clear h8 g8 i8)
            | (at_builtin; refine wpList_app _ rfl (.tmp 55) (.tmp 56) _ rfl w.heap.size 5 _ 1 1 ty8' _ (bl + 5) _ rfl (two_own1 T8.out Hlb2.out) Ap pn cp (p.map u8v) rfl (by rw [Hlp.out]; omega) (SlAt.below HP.out T8.out.2.2.1) (u8v_one _) hAp (by unfold maxLen; omega) (by omega) T8.out.2.2.1.size ?_; intro v9 w9 h9 g9 i9; have T9 := Lib.hid (two_app (n := bl + 5) (m := pn) T8.out Hlb2.out Hlp.out h9 g9 i9).symm; clear h9 g9 i9)
            | (at_builtin; refine wpList_app _ rfl (.tmp 58) (.tmp 59) _ rfl w.heap.size 5 _ 1 1 ty8' _ al _ rfl (two_own1 T9.out Hla.out) Ap pn cp (p.map u8v) rfl (by rw [Hlp.out]; omega) (SlAt.below HP.out T9.out.2.2.1) (u8v_one _) hAp (by unfold maxLen; omega) (by omega) T9.out.2.2.1.size ?_; intro v10 w10 h10 g10 i10; have T10 := Lib.hid (two_app (n := al) (m := pn) T9.out Hla.out Hlp.out h10 g10 i10).symm; clear h10 g10 i10))
          go_roundw
          case rel =>
            refine ⟨j + 1, by omega, by go_num, by go_num, ?_, ?_, ?_⟩
            · rw [Ht1.out, Ht2.out, List.map_append, List.map_append, List.map_append, ← List.append_assoc]
              exact T10.out
            · rw [Ht1.out, List.length_append, ← Hal.out, ← Hpn.out]
              omega
            · rw [Ht2.out, List.length_append, List.length_append, ← Hbl.out, ← Hpn.out, hdr_length]
              omega
          case measure => simp [intOf]; omega
    · obtain rfl : j = m := by omega
      
      have HT2 := Lib.hid (HT.out.other (.cells #[.int .u8 1, .int .u8 0, .int .u8 0, .int .u8 255, .int .u8 255] 5))
      have HZ : Hid (SlAt (wr.alloc (.cells #[.int .u8 1, .int .u8 0, .int .u8 0, .int .u8 255, .int .u8 255] 5)) (some ⟨wr.heap.size, 0, none⟩) ((hdr 1 0).map u8v)) := Lib.hid (SlAt.of_heap (heap_alloc_new _ _) last_cells)
      have hlb : ((hand (ps.take j)).map u8v).length = bl := by rw [List.length_map, Hbl.out]
      have Hlb := Lib.hid hlb
      have hpj : (ps.take j).length = j := by
        rw [List.length_take, Hps.out, List.length_map, ← Hn.out]
        omega
      have HUn := Lib.hid (unpack_hand (ps := ps.take j) (by rw [← Hal.out]; exact hf3) (by rw [List.length_append, ← Hbl.out, hdr_length]; omega))
      rw [hpj, List.length_append, ← Hbl.out, hdr_length] at HUn
      have hmk : ∀ u : World, (Instr.makeSlice 23 (.int .i64 ((j : Int) + 1)) (.int .i64 ((j : Int) + 1))).run Try.prog u = .ok (.slice (some ⟨u.heap.size, 0, none⟩) (j + 1) (j + 1)) (u.alloc (.cells (nats (List.replicate (j + 1) 0)) 3)) := fun u => by
        have h := make_ints (j + 1) (by omega) u
        rw [nats_zero] at h
        rw [show (j : Int) + 1 = ((j + 1 : Nat) : Int) by omega]
        exact h
      clear hlb hpj
      go_wp2_with (at_builtin; refine wpList_app _ rfl (.tmp 64) (.tmp 65) _ rfl w.heap.size 5 _ 1 1 ty8' _ bl ((hand (ps.take j)).map u8v) rfl (two_own1 HT2.out Hlb.out) (some ⟨wr.heap.size, 0, none⟩) 5 5 ((hdr 1 0).map u8v) rfl rfl HZ.out (u8v_one _) (by simp) (by unfold maxLen; omega) (by omega) HT2.out.2.2.1.size ?_; intro v8 w8 h8 g8 i8; have T8 := Lib.hid (two_app (n := bl) (m := 5) HT2.out Hlb.out rfl h8 g8 i8); obtain ⟨A8, d8, rfl, _, _, s8, _⟩ := own_slat h8; have S8 := Lib.hid s8; clear h8 g8 i8 s8)
      have HS8 : Hid (ByAt w8 A8 (hand (ps.take j) ++ hdr 1 0)) := Lib.hid (by unfold ByAt; rw [List.map_append]; exact S8.out)
      obtain ⟨_, _, ea, _, _, sa, _⟩ := own_slat T8.out.2.1
      rw [List.length_map, ← Hal.out] at ea
      injection ea with ea1 ea2 ea3
      subst ea1
      have SA := Lib.hid sa
      have HB8 := Lib.hid T8.out.2.2.1
      clear sa ea2 ea3
      refine (Inf.unpack_any A8 (bl + 5) d8 (hand (ps.take j) ++ hdr 1 0) w8 (by rw [List.length_append, ← Hbl.out]; rfl) (by unfold maxLen; omega) HS8.out).mono ?_
      rintro e w9 ⟨hu, hb9⟩
      unfold UPost at hu
      rw [HUn.out] at hu
      dsimp only at hu
      obtain ⟨_, Ao, co, Ak, ck, rfl, ho, hk⟩ := hu
      obtain ⟨_, _, e1, _, _, so, _⟩ := own_slat ho
      injection e1 with e1 _ e2
      subst e1 e2
      obtain ⟨_, _, e1, _, _, sk, _⟩ := own_slat hk
      injection e1 with e1 _ e2
      subst e1 e2
      rw [← Hal.out, List.length_replicate]
      have HB9 := Lib.hid (HB8.out.trans (hb9.mono HB8.out.size))
      have SA9 := Lib.hid (SlAt.below SA.out hb9)
      have SO := Lib.hid so
      have SK := Lib.hid sk
      clear ho hk so sk hb9 T8 HT2 HZ
      go_wp2_with fail
      refine (inflated_any w9).mono ?_
      rintro e w10 ⟨rfl, hb10⟩
      have HB10 := Lib.hid (HB9.out.trans (hb10.mono HB9.out.size))
      have SA10 := Lib.hid (SlAt.below SA9.out hb10)
      have SO10 := Lib.hid (SlAt.below SO.out hb10)
      have SK10 := Lib.hid (SlAt.below SK.out hb10)
      clear hb10 SA9 SO SK
      go_wp2_with fail
      refine (equal_bytes Ao _ al al _ _ (ps.take j).flatten (ps.take j).flatten w10 Hal.out.symm Hal.out.symm SO10.out SA10.out).mono ?_
      rintro e w11 ⟨rfl, hw11⟩
      cases hw11
      rw [show decide ((ps.take j).flatten = (ps.take j).flatten) = true from by simp]
      go_wp2_with fail
      refine (equal_ints Ak _ (j + 1) (j + 1) _ _ ((List.replicate (j + 1) 0).map Int.ofNat) ((List.replicate (j + 1) 0).map Int.ofNat) _ (by simp) (by simp) (by unfold maxLen; omega) (by unfold maxLen; omega) (SlAt.alloc (slat_iv SK10.out) _) (slat_iv (SlAt.of_heap (heap_alloc_new _ _) (by simp [nats])))).mono ?_
      rintro e w12 ⟨rfl, d, rfl⟩
      rw [show decide ((List.replicate (j + 1) 0).map Int.ofNat = (List.replicate (j + 1) 0).map Int.ofNat) = true from by simp]
      go_wp2_with fail
      go_ret
      exact ⟨rfl, below_drewN' (HB10.out.alloc HB10.out.size _) _⟩
end Go.Proofs.Ythfbjgdophjelaa.InflateStored
