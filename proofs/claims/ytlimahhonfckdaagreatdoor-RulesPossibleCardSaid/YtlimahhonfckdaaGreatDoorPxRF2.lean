/-
  Readings of the rules' arguments: choices. No condition.
-/
import Derived.Test.YtlimahhonfckdaaGreatDoorRuG
import Derived.Test.YtlimahhonfckdaaGreatDoorRuL
namespace Go.Aw
set_option linter.unusedSimpArgs false
set_option linter.unusedVariables false
open Go.RowKit

abbrev tyCh:Ty:=.st (.pair (.int .i64) (.pair (.int .i64) (.pair (.int .i64) (.pair (.int .i64) (.pair (.int .i64) .unit)))))
theorem fits_ch {xs:List D} (h:Fits tyCh xs) : ∃ c:Ch,xs=encCh c:=by
  obtain ⟨a,ys,rfl,_,h⟩:=fits_i (fits_st h)
  obtain ⟨b,ys,rfl,_,h⟩:=fits_i h
  obtain ⟨c,ys,rfl,_,h⟩:=fits_i h
  obtain ⟨d,ys,rfl,_,h⟩:=fits_i h
  obtain ⟨e,ys,rfl,_,h⟩:=fits_i h
  obtain rfl:=fits_unit h
  exact ⟨⟨a,b,c,d,e⟩,rfl⟩
theorem fit_chs {x:D} (h:FitA (.sl tyCh) x) : ∃ l:List Ch,x=.sl (l.map encCh)∧l.length≤reachBytes:=by
  obtain ⟨rows,h1,h2,h3⟩:=fits_sl h
  simp at h1
  subst h1
  obtain ⟨l,rfl⟩:=rows_map (f:=encCh) fun row hr=>fits_ch (h3 row hr)
  exact ⟨l,rfl,by simpa using h2⟩
end Go.Aw
