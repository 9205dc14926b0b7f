/-
  Contracts: states are the same. Conditions: stages that are not too many.
-/
import Derived.Test.YtmmnjelmahcbaaaGreatPxZ2
namespace Go.Aw
set_option linter.unusedSimpArgs false
set_option linter.unusedVariables false
open Go.RowKit Go.Proofs Go.Nt Go.Rl

def Stg.tup (s : Stg) : List Int := [s.sh, s.le, s.rn, s.rd, s.an, s.ad, s.bn, s.bd]
theorem Stg.tup_inj {s t : Stg} (h : s.tup = t.tup) : s = t := by
  obtain ⟨⟩ := s
  obtain ⟨⟩ := t
  simp only [Stg.tup, List.cons.injEq, and_true] at h
  obtain ⟨rfl, rfl, rfl, rfl, rfl, rfl, rfl, rfl⟩ := h
  rfl
instance : DecidableEq Stg := fun s t => if h : s.tup = t.tup then .isTrue (Stg.tup_inj h) else .isFalse fun e => h (by rw [e])
end Go.Aw
