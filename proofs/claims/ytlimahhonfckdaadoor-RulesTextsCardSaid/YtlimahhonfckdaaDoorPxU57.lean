/-
  RulesBack answers true. Conditions: lengths and numbers that a call can have.
-/
import Derived.Test.YtlimahhonfckdaaDoorPxU56
import Derived.Test.YtlimahhonfckdaaDoorPxU44a
import Derived.Test.YtlimahhonfckdaaDoorPxU45
namespace Go.Aw
set_option linter.unusedSimpArgs false
set_option linter.unusedVariables false
open Go.RowKit Go.Proofs
set_option maxRecDepth 100000

theorem prs_tree (l : List UInt8) : ∃ t : Fm, ∀ f, parseL l = some f → shE f 12 = 0 → t.wf ∧ f = t.flat := by
  cases h : parseL l with
  | none => exact ⟨.z ⟨1, 0, 0, 0, 0, 0⟩, fun f hf => by cases hf⟩
  | some f =>
    obtain ⟨t, ht⟩ := tree_ex f 12
    exact ⟨t, fun g hg hs => by obtain rfl := Option.some.inj hg; exact ht hs⟩
theorem prs_len {l : List UInt8} {t : Fm} : (prsV l t).1.length ≤ 40 := by
  unfold prsV
  split
  · simp
  · split
    · rename_i h1
      have := (sh_facts (chk_sh h1)).1
      omega
    · simp
end Go.Aw
