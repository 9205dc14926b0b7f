/-
  Possible rules,and when they are lost. Plain Lean; no condition.
-/
import Derived.Test.YtlimahhonfckdaaGreatDoorRuL
import Derived.Test.YtlimahhonfckdaaGreatDoorRuI
namespace Go.Aw
set_option linter.unusedSimpArgs false
set_option linter.unusedVariables false

def posV (t:Fm) (p:List Ch) : Nat→List (List Int)→Bool
  | 0,T=>decide (vd t T 0=1)
  | k+1,T=>if vd t T 0=1 then true else if vd t T 0=0 then false else (folV p (T.getLastD [])).any fun r=>posV t p k (T++[r])
def posA (t:Fm) (p:List Ch) (T:List (List Int)) : Bool:=posV t p (t.hz.toNat+1 - T.length) T
theorem pos_yes {t:Fm} {p:List Ch} {k:Nat} {T:List (List Int)} (h:vd t T 0=1) : posV t p k T=true:=by
  cases k <;> simp [posV,h]
theorem pos_no {t:Fm} {p:List Ch} {k:Nat} {T:List (List Int)} (h:vd t T 0=0) : posV t p k T=false:=by
  cases k <;> simp [posV,h]
theorem posA_step {t:Fm} {p:List Ch} {T:List (List Int)} (hw:t.wf) (ho:∀ n,n∈t.flat→okN n) (h:vd t T 0=2) : posA t p T=(folV p (T.getLastD [])).any fun r=>posA t p (T++[r]):=by
  have hz:=(hz_bd t hw ho).1
  rcases Nat.lt_or_ge t.hz.toNat T.length with h1 | h1
  · exact absurd h (vd_dec t T 0 hw ho (by omega))
  · obtain ⟨k,hk⟩ : ∃ k,t.hz.toNat+1 - T.length=k+1:=⟨t.hz.toNat - T.length,by omega⟩
    unfold posA
    rw [hk,posV,if_neg (by omega),if_neg (by omega)]
    congr 1
    funext r
    congr 1
    rw [List.length_append]
    simp
    omega
def chain (p:List Ch) (T:List (List Int)) : Prop:=∀ (i:Nat) (a b:List Int),T[i]? = some a→T[i+1]? = some b→b∈folV p a
def canV:List Ch→List Int→List Int→Bool
  | c::p,v::a,x::b=>decide (chV c v c.lo≤x∧x≤chV c v c.hi)&&canV p a b
  | _,_,_=>true
end Go.Aw
