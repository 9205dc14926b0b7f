/-
  Texts of the library, one behind the other. Over any program; no condition.
-/
import Derived.Test.YtlimahhonfckdaaGreatDoorRuB
import Derived.Test.YtlimahhonfckdaaGreatDoorRuD
import Derived.Test.YtlimahhonfckdaaGreatDoorPkT
import Derived.Test.YtlimahhonfckdaaGreatDoorRuC
import Derived.Test.YtlimahhonfckdaaGreatDoorRuE
import Derived.Test.YtlimahhonfckdaaGreatDoorRuA
namespace Go.Aw
set_option linter.unusedSimpArgs false
set_option linter.unusedVariables false
open Go.RowKit Go.Proofs
set_option maxRecDepth 100000

def vdRow (T : List (List Int)) (t : Fm) : List Int := (List.range (T.length + 1)).map fun i => ((vd t T i : Nat) : Int)
end Go.Aw

namespace Go.Aw
set_option linter.unusedSimpArgs false
set_option linter.unusedVariables false
open Go.RowKit Go.Proofs
set_option maxRecDepth 100000

end Go.Aw

namespace Go.Aw
set_option linter.unusedSimpArgs false
set_option linter.unusedVariables false
open Go.RowKit Go.Proofs
set_option maxRecDepth 100000

end Go.Aw

namespace Go.Aw
set_option linter.unusedSimpArgs false
set_option linter.unusedVariables false
open Go.RowKit Go.Proofs
set_option maxRecDepth 100000

end Go.Aw

namespace Go.Aw
set_option linter.unusedSimpArgs false
set_option linter.unusedVariables false
open Go.RowKit Go.Proofs
set_option maxRecDepth 100000

theorem At.sub {f : List Nd} : ∀ {t : Fm} {q : Nat}, At f q t → ∀ p, q ≤ p → p < q + t.flat.length → ∃ t', At f p t'
  | .z n, q, h, p, h1, h2 => by
    simp only [Fm.flat, List.length_singleton] at h2
    obtain rfl : p = q := by omega
    exact ⟨_, h⟩
  | .u n a, q, h, p, h1, h2 => by
    simp only [Fm.flat, List.length_cons] at h2
    by_cases e : p = q
    · subst e; exact ⟨_, h⟩
    · exact h.u.sub p (by omega) (by omega)
  | .b n a b, q, h, p, h1, h2 => by
    simp only [Fm.flat, List.length_cons, List.length_append] at h2
    by_cases e : p = q
    · subst e; exact ⟨_, h⟩
    · by_cases e2 : p < q + 1 + a.flat.length
      · exact h.b.1.sub p (by omega) (by omega)
      · exact h.b.2.sub p (by omega) (by omega)
def rowsD (T : List (List Int)) (tr : Nat → Fm) (n done : Nat) : List (List V) := (List.range n).map fun p => if n - done ≤ p then [V.d (.sl ((vdRow T (tr p)).map encI))] else [V.nil]
end Go.Aw
