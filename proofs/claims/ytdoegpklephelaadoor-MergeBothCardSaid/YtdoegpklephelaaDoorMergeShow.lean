/- package merge: Shown. -/
import Derived.Test.YtdoegpklephelaaDoorMergeDel
namespace Go.Proofs.YtdoegpklephelaaDoor.Merge
open Go Go.RowKit Go.Proofs.YtdoegpklephelaaDoor Go.Proofs.YtdoegpklephelaaDoor.Name
set_option linter.unusedVariables false

theorem chk_small {a : List Fx} (h : chkF (a.map Prod.fst) = 0) : a.length ≤ 12 ∧ ∀ x ∈ a, x.1.bytes.length ≤ 3000 := by
  rw [chkF_ok] at h
  refine ⟨by have := h.1; rwa [List.length_map] at this, fun x hx => ?_⟩
  have := h.2.1 x.1 (List.mem_map_of_mem hx)
  unfold fileE at this
  split at this
  · rename_i g; exact absurd this g
  · split at this
    · simp at this
    · omega
theorem here_map (a : List Fx) : (a.filter isHere).map Prod.fst = shownL (a.map Prod.fst) := by
  unfold shownL
  rw [List.filter_map]
  rfl
def ListPost (r : Int × List Fl) (w : World) (e : Ending) (w' : World) : Prop :=
  ∃ v l', e = .returned (.tuple #[v, .int .i64 r.1]) ∧ OwnFs w' w.heap.size v l' ∧ l'.map Prod.fst = r.2 ∧ Below w.heap.size w w'
set_option maxRecDepth 100000 in
set_option maxHeartbeats 2000000 in
theorem shown_any (v : Value) (a : List Fx) (w : World) (hm : ML w) (h : IsFiles w v a) :
    Calls Tryd.prog 16 #[v] w (ListPost (shownR (a.map Prod.fst)) w) := by
  have HC := Lib.hid (check_any v a w hm h)
  have H1 := Lib.hid h
  obtain ⟨A, c, rfl, hcap, hcm, hA, hA0, hd⟩ := h
  have HA := Lib.hid hA
  have HA0 := Lib.hid hA0
  have Hd := Lib.hid hd
  obtain ⟨n, hn⟩ : ∃ n, n = a.length := ⟨_, rfl⟩
  have Hn := Lib.hid hn
  rw [← hn] at HC H1 ⊢
  obtain ⟨R, hR⟩ : ∃ R, R = shownR (a.map Prod.fst) := ⟨_, rfl⟩
  have HR := Lib.hid hR
  rw [← hR]
  unfold ListPost
  clear hm hA hA0 hd hcap hcm hn hR
  go_enter Tryd.func16, Tryd.ntmps16
  go_wp2_with fail
  refine (HC.out).mono ?_
  rintro e w1 ⟨rfl, hb1⟩
  have Hb1 := Lib.hid hb1
  clear hb1 HC
  by_cases he : chkF (a.map Prod.fst) = 0
  · have Hr : Hid (R = (0, (a.filter isHere).map Prod.fst)) := Lib.hid (by rw [HR.out, here_map]; unfold shownR; rw [if_neg (by simpa using he)])
    obtain ⟨hs1, hs2⟩ := chk_small he
    have Hs2 := Lib.hid hs2
    rw [he]
    have hn12 : n ≤ 12 := by rw [Hn.out]; exact hs1
    have HCl := Lib.hid (CloneF.clone_any A n c (a.flatMap fC) w1 (by rw [fCs_len, Hn.out]) (HA.out.below Hb1.out) (fun e => by rw [Hn.out, HA0.out e]; rfl) (fCs_one a) (by unfold maxLen; omega) (by omega))
    have HF : Hid (∀ w' v', Below w.heap.size w w' → IsFiles w' v' (a.filter isHere) → Calls Tryd.prog 43 #[v'] w' (CopyPost (a.filter isHere) w')) := Lib.hid (fun w' v' hb hf => by
      have hle := List.length_filter_le isHere a
      exact copy_any v' (a.filter isHere) w' hf (by omega) (fun x hx => by have := hs2 x (List.mem_filter.1 hx).1; omega))
    clear he hs1 hs2 HA HA0 HR
    go_wp2_with fail
    refine (HCl.out).mono ?_
    rintro e w2 ⟨v2, rfl, hown2, hb2⟩
    have HD := Lib.hid (deleteGone_files w1.heap.size n v2 a w2 hown2 Hn.out.symm (by omega) hb2.size)
    have Hb2 := Lib.hid (stepN Hb1.out hb2)
    clear hown2 hb2 HCl
    go_wp2_with fail
    refine (HD.out).mono ?_
    rintro e w3 ⟨A3, m3, c3, rfl, hm3, hc3, hc3m, hs3, h03, hk3⟩
    have hb3 : Below w.heap.size w w3 := Hb2.out.trans (hk3.below.mono Hb1.out.size)
    have Hb3 := Lib.hid hb3
    have HFs : Hid (IsFiles w3 (.slice A3 m3 c3) (a.filter isHere)) := Lib.hid ⟨A3, c3, by rw [hm3], by omega, hc3m, hs3, fun e => List.eq_nil_of_length_eq_zero (by rw [← hm3]; exact h03 e), fun x hx => (Hd.out x (List.mem_filter.1 hx).1).below hb3⟩
    have HF2 := Lib.hid (HF.out w3 _ hb3 HFs.out)
    clear hm3 hc3 hc3m hs3 h03 hk3 hb3 HD HF
    go_wp2_with fail
    refine (HF2.out).mono ?_
    rintro e w4 ⟨v4, l4, rfl, ho4, he4, hb4⟩
    have Ho4 := Lib.hid (ho4.base_ Hb3.out.size)
    have He4 := Lib.hid he4
    have Hb4 := Lib.hid (stepN Hb3.out hb4)
    clear ho4 he4 hb4 HF2
    go_wp2_with fail
    go_ret2
    exact ⟨_, l4, by rw [Hr.out]; rfl, Ho4.out, by rw [Hr.out]; exact He4.out, Hb4.out⟩
  · have Hr : Hid (R = (chkF (a.map Prod.fst), [])) := Lib.hid (by rw [HR.out]; unfold shownR; rw [if_pos he])
    generalize chkF (a.map Prod.fst) = z at *
    have hz1 : (z != 0) = true := by simpa using he
    clear he HR
    go_wp2_with fail
    go_ret2
    exact ⟨_, [], by rw [Hr.out]; rfl, OwnFs.nil _ _, by rw [Hr.out]; rfl, Hb1.out⟩
end Go.Proofs.YtdoegpklephelaaDoor.Merge
