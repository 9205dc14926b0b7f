/-
  ReleaseStays: its plain laws. No condition.
-/
import Derived.Test.YtmmnjelmahcbaaaGreatPxN37
import Derived.Test.YtmmnjelmahcbaaaGreatPxN35a
namespace Go.Aw
set_option linter.unusedSimpArgs false
set_option linter.unusedVariables false
open Go.RowKit Go.Proofs Go.Nt Go.Rl

theorem stg_le {s : Stg} (h : stgB s = true) : 1 ≤ s.le ∧ s.le ≤ 60 ∧ 0 ≤ s.sh ∧ s.sh ≤ 100 := by
  unfold stgB at h
  simp only [Bool.and_eq_true, decide_eq_true_eq] at h
  omega
/-- A valid state stays valid when a report is counted and judged. -/
theorem jud_ok {s : Sta} {t : Nat} (hc : chkS s = 0) (hp : s.ph = 1) (ht : s.st = t) (hl : t < s.ps.length) (ha : s.al < 1099511627776) (bad : Bool) :
    chkS (judS (cntS s bad) s.ps[t]) = 0 := by
  obtain ⟨h1, h2, h3, h4, h5, h6, h7, h8⟩ := (chkS_iff s).1 hc
  have hall := List.all_eq_true.1 (stgs_all h5).2.2
  have hg := stg_le (hall _ (List.getElem_mem hl))
  have hlen : leO s = (s.ps[t]).le := by
    unfold leO
    rw [ht, Int.toNat_natCast, List.getElem?_eq_getElem hl]; rfl
  rw [hlen] at h8
  simp only [cntB, decide_eq_true_eq] at h7
  have h9 : s.gt < (s.ps[t]).le := by
    rcases h8 with h8 | h8
    · exact h8
    · exact absurd hp h8.2
  have hb : 0 ≤ (cntS s bad).bd ∧ (cntS s bad).bd ≤ s.gt + 1 := by
    unfold cntS; cases bad <;> simp <;> omega
  have key : ∀ ph, ph = 1 ∨ ph = 2 ∨ ph = 3 → (s.gt + 1 < (s.ps[t]).le ∨ ph ≠ 1) → chkS { cntS s bad with ph := ph } = 0 := by
    intro ph hph hgt
    refine (chkS_iff _).2 ⟨h1, h2, h3, h4, h5, by simp only [phB, decide_eq_true_eq]; exact hph, ?_, ?_⟩
    · simp only [cntB, decide_eq_true_eq]
      show 0 ≤ s.st ∧ s.st < s.ps.length ∧ 0 ≤ (cntS s bad).bd ∧ (cntS s bad).bd ≤ s.gt + 1 ∧ s.gt + 1 ≤ s.al + 1 ∧ s.al + 1 ≤ 1099511627776
      omega
    · show s.gt + 1 < leO { cntS s bad with ph := ph } ∨ (s.gt + 1 = leO { cntS s bad with ph := ph } ∧ ph ≠ 1)
      rw [show leO { cntS s bad with ph := ph } = (s.ps[t]).le from hlen]
      omega
  unfold judS
  split
  · exact key 3 (by omega) (by omega)
  · split
    · split
      · exact key 2 (by omega) (by omega)
      · rename_i h10
        have h11 : ¬ s.st + 1 = s.ps.length := h10
        have hl2 : t + 1 < s.ps.length := by omega
        have hg2 := stg_le (hall _ (List.getElem_mem hl2))
        refine (chkS_iff _).2 ⟨h1, h2, h3, h4, h5, h6, ?_, ?_⟩
        · simp only [cntB, decide_eq_true_eq]
          show 0 ≤ s.st + 1 ∧ s.st + 1 < s.ps.length ∧ (0 : Int) ≤ 0 ∧ (0 : Int) ≤ 0 ∧ 0 ≤ s.al + 1 ∧ s.al + 1 ≤ 1099511627776
          omega
        · left
          show (0 : Int) < ((s.ps[(s.st + 1).toNat]?).map Stg.le).getD 0
          rw [ht, show ((t : Int) + 1).toNat = t + 1 by omega, List.getElem?_eq_getElem hl2]
          show 0 < (s.ps[t + 1]).le
          omega
    · split
      · exact key 3 (by omega) (by omega)
      · rename_i h10
        have h11 : ¬ s.gt + 1 ≥ (s.ps[t]).le := h10
        have := key s.ph (by omega) (by omega)
        exact this
end Go.Aw
