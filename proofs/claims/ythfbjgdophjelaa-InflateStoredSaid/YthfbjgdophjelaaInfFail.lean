/- package inflate: what reading ends with; the reader; a number of bits, a symbol, a byte behind what is unpacked, a table. -/
import Derived.Test.YthfbjgdophjelaaInfPure
import Derived.Test.YthfbjgdophjelaaCodeNext
import Derived.Test.YthfbjgdophjelaaCodeCheck
import Derived.WalkSmall
namespace Go.Proofs.Ythfbjgdophjelaa.Inf
open Go Go.RowKit Go.Proofs.Ythfbjgdophjelaa Go.Proofs.Ythfbjgdophjelaa.Bits Go.Proofs.Ythfbjgdophjelaa.Code
set_option linter.unusedVariables false

/-- the end of a call that stops with what is wrong -/
def stopE (x : Int) : Ending := .panicked [{ v := .iface 35 (.agg #[.int .i64 x]), recovered := false }]
set_option maxRecDepth 100000 in
theorem fail_any (x : Int) (w : World) : Calls Try.prog 19 #[.int .i64 x] w fun e w' => e = stopE x ∧ w' = w := by
  go_enter Try.func19, Try.ntmps19
  go_wp2_with fail
  exact ⟨rfl, rfl, rfl⟩
/-- the types of blocks that reading turns -/
def infT : List TypeId := [41, 44, 5]
/-- the input: bytes that lie below base -/
structure InAt_ (w : World) (base : Nat) (A : Option Addr) (n : Nat) (xs : List UInt8) : Prop where
  len : xs.length = n
  few : n ≤ 1099511627776
  at_ : ByAt w A xs
  low : ∀ b o, A = some ⟨b, o, none⟩ → 0 < n → b < base
theorem InAt_.keeps {w w' : World} {base : Nat} {T : List TypeId} {A : Option Addr} {n : Nat} {xs : List UInt8} (h : InAt_ w base A n xs) (hk : Keeps base T w w') : InAt_ w' base A n xs :=
  ⟨h.len, h.few, SlAt.keepsB h.at_ hk (fun b o e hp => h.low b o e (by rw [← h.len]; simpa using hp)), h.low⟩
/-- a reader at g: its source at q, at so many bits, what is unpacked, the kinds -/
structure RdAt (w : World) (base g q : Nat) (A : Option Addr) (n c pos : Nat) (out : List UInt8) (ks : List Nat) : Prop where
  gle : base ≤ g
  qle : base ≤ q
  ple : pos ≤ 8 * n
  few : out.length ≤ 3000
  blk : ∃ vo vk, Blk w g 41 #[.pointer (some ⟨q, 0, none⟩), vo, vk] ∧ w.ownsRow base 5 1 vo out.length (out.map u8v) ∧ w.ownsRow base 3 1 vk ks.length (ks.map natV)
  src : SrcAt w q A n c pos
theorem RdAt.below {w w' : World} {base g q : Nat} {A : Option Addr} {n c pos : Nat} {out : List UInt8} {ks : List Nat} (h : RdAt w base g q A n c pos out ks) (hb : Below w.heap.size w w') : RdAt w' base g q A n c pos out ks := by
  obtain ⟨h1, h2, h3, h8, ⟨vo, vk, h4, h5, h6⟩, h7⟩ := h
  exact ⟨h1, h2, h3, h8, ⟨vo, vk, h4.below hb h4.lt, own_keep h5 hb, own_keep h6 hb⟩, Blk.below h7 hb h7.lt⟩
/-- what a call gives that may stop -/
def RPost {α : Type} (r : Rd α) (ok : α → Ending → World → Prop) (e : Ending) (w' : World) : Prop := match r with | .bad x => e = stopE x | .ok a => ok a e w'
theorem kT {base q : Nat} {w w' : World} (hk : Keeps q srcT w w') (hq : base ≤ q) : Keeps base infT w w' :=
  hk.mono hq (fun t ht => by simp only [srcT, List.mem_singleton] at ht; subst ht; simp [infT])
set_option maxRecDepth 100000 in
set_option maxHeartbeats 1600000 in
theorem get_r (base g q : Nat) (A : Option Addr) (n c pos size : Nat) (xs : List UInt8) (out : List UInt8) (ks : List Nat) (w : World) (h : RdAt w base g q A n c pos out ks) (hi : InAt_ w base A n xs) (hs : size ≤ 61) :
    Calls Try.prog 13 #[.pointer (some ⟨g, 0, none⟩), .int .i64 (size : Int)] w fun e w' =>
      RPost (getR (bitsL xs) pos size) (fun a e w' => e = .returned (.int .i64 (a.1 : Int)) ∧ RdAt w' base g q A n c a.2 out ks) e w' ∧ Keeps base infT w w' := by
  have HI := Lib.hid hi
  have Hrow : Hid ((bitsL xs).length = 8 * n) := Lib.hid (by rw [bitsL_length, hi.len])
  have HG := Lib.hid (get_any q A n c pos size xs w h.src hi.len hi.at_ hs h.ple hi.few (fun b o e hp => by have := hi.low b o e hp; have := h.qle; omega))
  have HR := Lib.hid h
  obtain ⟨hg, hq, hp, hfew, ⟨vo, vk, hb, ho, hk⟩, hsrc⟩ := h
  have b0 : w.cell? ⟨g, 0, none⟩ = some (.pointer (some ⟨q, 0, none⟩)) := by rw [hb.cell]; rfl
  have HB := Lib.hid hb
  have HO := Lib.hid ho
  have HK := Lib.hid hk
  clear hi hb ho hk hsrc
  go_enter Try.func13, Try.ntmps13
  go_wp2_with fail
  refine (HG.out).mono ?_
  rintro e w2 ⟨hcase, hk2⟩
  have HK2 := Lib.hid hk2
  clear hk2 b0 HG
  rcases hcase with ⟨h1, rfl, hs2⟩ | ⟨h1, rfl, _⟩
  · have HS2 := Lib.hid hs2
    clear hs2
    go_wp2_with fail
    go_ret
    refine ⟨?_, kT HK2.out hq⟩
    unfold RPost getR
    rw [Hrow.out, if_pos h1]
    exact ⟨rfl, hg, hq, h1, hfew, ⟨vo, vk, HK2.out.blk HB.out (by decide), HK2.out.own HO.out (by decide), HK2.out.own HK.out (by decide)⟩, HS2.out⟩
  · go_wp2_with fail
    refine (fail_any 7 _).mono ?_
    rintro e w3 ⟨rfl, rfl⟩
    unfold stopE
    go_wp2_with fail
    refine ⟨rfl, ?_, kT HK2.out hq⟩
    unfold RPost getR
    rw [Hrow.out, if_neg (by omega)]
    rfl
set_option maxRecDepth 100000 in
set_option maxHeartbeats 1600000 in
theorem sym_r (base g q tp : Nat) (A : Option Addr) (n c pos : Nat) (xs : List UInt8) (out : List UInt8) (ks ls : List Nat) (w : World) (h : RdAt w base g q A n c pos out ks) (hi : InAt_ w base A n xs)
    (hT : TabAt w base tp ls) (hl : ∀ x ∈ ls, x ≤ 15) (hr : room ls ≤ 32768) (hlen : ls.length ≤ 288) :
    Calls Try.prog 25 #[.pointer (some ⟨g, 0, none⟩), .pointer (some ⟨tp, 0, none⟩)] w fun e w' =>
      RPost (symR (bitsL xs) ls pos) (fun a e w' => e = .returned (.int .i64 (a.1 : Int)) ∧ RdAt w' base g q A n c a.2 out ks) e w' ∧ Keeps base infT w w' := by
  have HG := Lib.hid (tread_any base tp q A n c pos xs ls w hT h.src hi.len hi.at_ h.ple hi.few (fun b o e hp => by have := hi.low b o e hp; have := h.qle; omega) hl hr hlen)
  obtain ⟨hg, hq, hp, hfew, ⟨vo, vk, hb, ho, hk⟩, hsrc⟩ := h
  have b0 : w.cell? ⟨g, 0, none⟩ = some (.pointer (some ⟨q, 0, none⟩)) := by rw [hb.cell]; rfl
  have HB := Lib.hid hb
  have HO := Lib.hid ho
  have HK := Lib.hid hk
  clear hi hb ho hk hsrc hT hl hr hlen
  go_enter Try.func25, Try.ntmps25
  go_wp2_with fail
  refine (HG.out).mono ?_
  rintro e w2 ⟨⟨k, m, z, hn, rfl, hz⟩, hk2⟩
  have HK2 := Lib.hid hk2
  have HZ := Lib.hid hz
  have HN := Lib.hid hn
  clear hk2 hz hn b0 HG
  by_cases h0 : z = 0
  · subst h0
    go_wp2_with fail
    go_ret
    refine ⟨?_, kT HK2.out hq⟩
    unfold RPost symR
    rw [HN.out]
    exact ⟨rfl, hg, hq, (HZ.out (by simp)).2, hfew, ⟨vo, vk, HK2.out.blk HB.out (by decide), HK2.out.own HO.out (by decide), HK2.out.own HK.out (by decide)⟩, (HZ.out (by simp)).1⟩
  · have hz1 : (z != 0) = true := by simpa using h0
    go_wp2_with fail
    refine (fail_any z _).mono ?_
    rintro e w3 ⟨rfl, rfl⟩
    unfold stopE
    go_wp2_with fail
    refine ⟨rfl, ?_, kT HK2.out hq⟩
    unfold RPost symR
    rw [HN.out, if_neg (show ¬ (k, m, z).2.2 = 0 from h0)]
    rfl
theorem ty8' : SliceTy Try.prog 22 5 (.int .u8 0) 1 1 := ⟨Try.underlying22, by kernel_rfl, rfl, by omega⟩
set_option maxRecDepth 100000 in
set_option maxHeartbeats 1600000 in
theorem put_r (base g q : Nat) (A : Option Addr) (n c pos : Nat) (x : UInt8) (out : List UInt8) (ks : List Nat) (w : World) (h : RdAt w base g q A n c pos out ks) :
    Calls Try.prog 22 #[.pointer (some ⟨g, 0, none⟩), u8v x] w fun e w' =>
      RPost (pushR out x) (fun o e w' => e = .returned (.tuple #[]) ∧ RdAt w' base g q A n c pos o ks) e w' ∧ Keeps base infT w w' := by
  obtain ⟨hg, hq, hp, hfew, ⟨vo, vk, hb, ho, hk⟩, hsrc⟩ := h
  obtain ⟨Ao, co, rfl, _⟩ := own_slat ho
  obtain ⟨ol, hol⟩ : ∃ ol, ol = out.length := ⟨_, rfl⟩
  have hout := hfew
  rw [← hol] at hb ho hout
  have hbw : base ≤ w.heap.size := by have := hb.lt; omega
  have Hol := Lib.hid hol
  have b1 : w.cell? ⟨g, 1, none⟩ = some (.slice Ao ol co) := by rw [hb.cell]; rfl
  have f1 := hb.frozen 1
  have hlt := hb.lt
  have HB := Lib.hid hb
  have HO := Lib.hid ho
  have HK := Lib.hid hk
  have HS := Lib.hid hsrc
  clear hb ho hk hsrc hol
  unfold u8v
  by_cases h3 : ol = 3000
  · have h3' : (ol : Int) = 3000 := by omega
    have h3b : ((ol : Int) == 3000) = true := by simpa using h3'
    go_enter Try.func22, Try.ntmps22
    go_wp2_with fail
    refine (fail_any 2 _).mono ?_
    rintro e w3 ⟨rfl, rfl⟩
    unfold stopE
    go_wp2_with fail
    refine ⟨rfl, ?_, Keeps.refl _ _ _⟩
    unfold RPost pushR
    rw [if_pos (by rw [← Hol.out]; exact h3)]
    rfl
  · have h3' : ¬ (ol : Int) = 3000 := by omega
    have h3b : ((ol : Int) == 3000) = false := by simpa using h3'
    go_enter Try.func22, Try.ntmps22
    have hbA : Below w.heap.size w (w.alloc (.cells #[.int .u8 (n8 x)] 5)) := (Below.refl _ _).alloc (Nat.le_refl _) _
    have HO2 := Lib.hid (own_keep HO.out hbA)
    have HB2 := Lib.hid (HB.out.below hbA HB.out.lt)
    have HKA : Hid (Keeps base infT w (w.alloc (.cells #[.int .u8 (n8 x)] 5))) := Lib.hid (Keeps.of_below hbA hbw)
    have hbw2 : base ≤ (w.alloc (.cells #[.int .u8 (n8 x)] 5)).heap.size := Nat.le_trans hbw hbA.size
    have HZ : Hid (SlAt (w.alloc (.cells #[.int .u8 (n8 x)] 5)) (some ⟨w.heap.size, 0, none⟩) [.int .u8 (n8 x)]) := Lib.hid (SlAt.of_heap (heap_alloc_new _ _) rfl)
    clear hbA
    go_wp2_with (at_builtin; refine wpList_app _ rfl (.tmp 15) (.tmp 17) _ rfl base 5 _ 1 1 ty8' _ ol (out.map u8v) rfl HO2.out (some ⟨w.heap.size, 0, none⟩) 1 1 [.int .u8 (n8 x)] rfl rfl HZ.out (by simp [Value.oneCell']) (by simp) (by unfold maxLen; omega) (by omega) hbw2 ?_; intro v8 w8 hown8 hg8 _; obtain ⟨A8, d8, rfl, _⟩ := own_slat hown8; have hkp : Keeps base [5] (w.alloc (.cells #[.int .u8 (n8 x)] 5)) w8 := (Keeps.refl _ _ _).grown HO2.out hg8 (by simp) hbw2; have HB8 := Lib.hid (hkp.blk HB2.out (by decide)); have HK8 := Lib.hid hkp; have Ho8 := Lib.hid hown8; have c8 : w8.cell? ⟨g, 1, none⟩ = some (.slice Ao ol co) := (HB8.out.cell 1).trans rfl; have f8 := HB8.out.frozen 1; clear hown8 hg8 hkp)
    go_end0
    have k8 : Keeps base infT w w8 := HKA.out.trans (HK8.out.mono (Nat.le_refl _) (fun t ht => by rw [List.mem_singleton] at ht; subst ht; simp [infT]))
    refine ⟨?_, k8.setBlk HB8.out (by simp [infT]) hg 1 _⟩
    unfold RPost pushR
    rw [if_neg (by rw [← Hol.out]; exact h3)]
    have hw9 : Keeps base [41] w8 (w8.setCell ⟨g, 1, none⟩ (.slice A8 (ol + 1) d8)) := (Keeps.refl _ _ _).setBlk HB8.out (by simp) hg 1 _
    have hkk : Keeps base [5, 41] w (w8.setCell ⟨g, 1, none⟩ (.slice A8 (ol + 1) d8)) := ((Keeps.of_below ((Below.refl _ _).alloc (Nat.le_refl _) _) hbw).trans (HK8.out.mono (Nat.le_refl _) (by simp))).trans (hw9.mono (Nat.le_refl _) (by simp))
    refine ⟨rfl, hg, hq, hp, by rw [List.length_append, ← Hol.out]; simp; omega, ⟨_, vk, HB8.out.set_ 1 _, ?_, hkk.own HK.out (by decide)⟩, hkk.blk HS.out (by decide)⟩
    have h9 := hw9.own Ho8.out (by decide)
    rw [List.length_append, ← Hol.out, List.map_append]
    exact h9
end Go.Proofs.Ythfbjgdophjelaa.Inf
