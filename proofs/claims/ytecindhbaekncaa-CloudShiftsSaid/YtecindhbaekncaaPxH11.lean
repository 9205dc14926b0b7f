/-
  Plain laws of hulls of valid clouds: all is inside, the hull backwards, of its corners. No condition.
-/
import Derived.Test.YtecindhbaekncaaPxH10
import Derived.Test.YtecindhbaekncaaPxC18
import Derived.Test.YtecindhbaekncaaPcD
namespace Go.Aw
set_option linter.unusedSimpArgs false
set_option linter.unusedVariables false
open Go.RowKit Go.Proofs Go.Rg

theorem cloud_fairS {l : List Pt} (hc : check l = 0) : ∀ p, p ∈ l.map ptS → fairS p = true := fun p hp => by
  obtain ⟨q, hq, rfl⟩ := List.mem_map.1 hp
  obtain ⟨i, hi⟩ := List.getElem?_of_mem hq
  exact check_fair hc hi
end Go.Aw
