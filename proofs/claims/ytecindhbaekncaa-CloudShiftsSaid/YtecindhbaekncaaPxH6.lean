/-
  Contract of the reference's Hull. Conditions: none (what is not valid is refused).
-/
import Derived.Test.YtecindhbaekncaaPxH5i
import Derived.Test.YtecindhbaekncaaPcD
import Derived.Test.YtecindhbaekncaaPxH6a
namespace Go.Aw
set_option linter.unusedSimpArgs false
set_option linter.unusedVariables false
open Go.RowKit Go.Proofs Go.Rg

theorem hullK_len (ks : List Sp) : (hullK ks).length ≤ 2 * ks.length := by
  unfold hullK
  split
  · omega
  · have h1 := chainR_len ks
    have h2 := chainR_len ks.reverse
    simp only [List.length_append, List.length_reverse, List.length_tail] at h2 ⊢
    omega
theorem isHull_len {S H : List Sp} (h : isHull S H) : H.length ≤ 2 * S.length := by
  obtain ⟨ks, hk⟩ := keys_ex S
  have h1 := isHull_uniq h (isHull_mem hk.2 (hullK_law hk.1))
  have h2 := hullK_len ks
  have h3 := keys_len hk
  rw [h1]
  omega
end Go.Aw
