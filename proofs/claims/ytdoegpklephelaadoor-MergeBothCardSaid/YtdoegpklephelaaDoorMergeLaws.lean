/- package merge: laws of what it reckons, in plain Lean. No program in sight. -/
import Derived.Test.YtdoegpklephelaaDoorMergePure
namespace Go.Proofs.YtdoegpklephelaaDoor.Merge
open Go
set_option linter.unusedVariables false

theorem srt_of_chk {l : List Fl} (h : chkF l = 0) : Srt l := (chkF_ok.1 h).2.2
theorem bothR_comm (a b : List Fl) : ((bothR a b).1 = 0 ↔ (bothR b a).1 = 0) ∧ (bothR a b).2 = (bothR b a).2 := by
  unfold bothR
  by_cases ha : chkF a = 0
  · by_cases hb : chkF b = 0
    · rw [both_comm (srt_of_chk ha) (srt_of_chk hb)]
      simp [ha, hb]
    · simp [ha, hb]
  · by_cases hb : chkF b = 0
    · simp [ha, hb]
    · simp [ha, hb]
/-- what the law MergeOrder needs -/
theorem order_both {a b l : List Fl} (h : bothR a b = (0, l)) :
    bothR l a = (0, l) ∧ (∃ m, lessR b a = (0, m) ∧ bothR a m = (0, l)) ∧ ∀ c x y, bothR l c = (0, x) → bothR b c = (0, y) → bothR a y = (0, x) := by
  obtain ⟨ca, cb, e, hl⟩ := bothR_ok h
  have sa := srt_of_chk ca
  have sb := srt_of_chk cb
  have cl : chkF l = 0 := by rw [e]; exact chk_both ca cb (by rw [← e]; exact hl)
  have e1 : bothL l a = l := by rw [e, both_comm sa sb, both_assoc sb sa sa, both_self sa]
  refine ⟨?_, ⟨lessL b a, ?_, ?_⟩, fun c x y hx hy => ?_⟩
  · have := bothR_of cl ca (by rw [e1]; exact hl)
    rwa [e1] at this
  · unfold lessR; rw [if_neg (by simpa using cb), if_neg (by simpa using ca)]
  · have e2 := both_less sa sb
    have := bothR_of ca (chk_filter cb (newB a)) (by show (bothL a (lessL b a)).length ≤ 12; rw [e2, ← e]; exact hl)
    rw [show bothL a (List.filter (newB a) b) = bothL a (lessL b a) from rfl, e2, ← e] at this
    exact this
  · obtain ⟨_, cc, ex, hlx⟩ := bothR_ok hx
    obtain ⟨_, _, ey, hly⟩ := bothR_ok hy
    have sc := srt_of_chk cc
    have cy : chkF y = 0 := by rw [ey]; exact chk_both cb cc (by rw [← ey]; exact hly)
    have e3 : bothL a y = x := by rw [ey, ex, e, both_assoc sa sb sc]
    have := bothR_of ca cy (by rw [e3]; exact hlx)
    rwa [e3] at this
/-- what the law MergeLess needs -/
theorem less_of {a b l : List Fl} (h : bothR a b = (0, l)) :
    lessR a l = (0, []) ∧ lessR b l = (0, []) ∧ lessR l l = (0, []) ∧ shownR l = (0, shownL l) ∧ shownR (shownL l) = (0, shownL l) ∧ chkF (shownL l) = 0 ∧ (shownL l).length ≤ l.length := by
  obtain ⟨ca, cb, e, hl⟩ := bothR_ok h
  have sa := srt_of_chk ca
  have sb := srt_of_chk cb
  have cl : chkF l = 0 := by rw [e]; exact chk_both ca cb (by rw [← e]; exact hl)
  have cs : chkF (shownL l) = 0 := chk_filter cl _
  have L : ∀ {x y : List Fl}, chkF x = 0 → chkF y = 0 → lessR x y = (0, lessL x y) := fun hx hy => by
    unfold lessR; rw [if_neg (by simpa using hx), if_neg (by simpa using hy)]
  refine ⟨?_, ?_, ?_, ?_, ?_, cs, List.length_filter_le _ _⟩
  · rw [L ca cl, e, less_both sa sb]
  · rw [L cb cl, e, both_comm sa sb, less_both sb sa]
  · rw [L cl cl, less_self (srt_of_chk cl)]
  · unfold shownR; rw [if_neg (by simpa using cl)]
  · unfold shownR; rw [if_neg (by simpa using cs), shown_shown]
end Go.Proofs.YtdoegpklephelaaDoor.Merge
