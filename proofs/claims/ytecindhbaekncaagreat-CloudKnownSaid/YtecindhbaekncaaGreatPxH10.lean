/-
  What CloudHulls answers. Conditions: none.
-/
import Derived.Test.YtecindhbaekncaaGreatPxH9
import Derived.Test.YtecindhbaekncaaGreatPcB
namespace Go.Aw
set_option linter.unusedSimpArgs false
set_option linter.unusedVariables false
open Go.RowKit Go.Proofs Go.Rg

theorem p49 (ps : List Pt) (H : List Sp) (hH : isHull (ps.map ptS) H) : PD Tryz.prog 17 [.sl (ps.map encP)] (ofD (.sl ((if check ps = 0 then H else []).map encS))) := by
  have := p49K ps
  rwa [← isHull_uniq hH (hullS (ps.map ptS))] at this

end Go.Aw
