/-
  How long the chains of a hull are. Plain law; no condition.
-/
import Derived.Test.YtecindhbaekncaaGreatPxH1
namespace Go.Aw
set_option linter.unusedSimpArgs false
set_option linter.unusedVariables false
open Go.RowKit Go.Proofs Go.Rg

theorem popH_len (p : Sp) : ∀ s : List Sp, (popH p s).length ≤ s.length
  | [] => Nat.le_refl _
  | [_] => Nat.le_refl _
  | b :: a :: s => by
    have := popH_len p (a :: s)
    simp only [popH]
    split
    · simp only [List.length_cons] at this ⊢
      omega
    · exact Nat.le_refl _
theorem chainR_len (l : List Sp) : (chainR l).length ≤ l.length := by
  induction l using snoc_ind with
  | h0 => exact Nat.le_refl _
  | h1 l a ih =>
    have := popH_len a (chainR l)
    rw [chainR_snoc, List.length_append]
    simp only [List.length_cons, List.length_nil]
    omega
end Go.Aw
