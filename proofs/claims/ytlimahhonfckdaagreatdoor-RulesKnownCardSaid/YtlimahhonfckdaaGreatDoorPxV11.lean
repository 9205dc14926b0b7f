/-
  Possible rules: where they are lost,and who alone could have kept them. Plain Lean; no condition.
-/
import Derived.Test.YtlimahhonfckdaaGreatDoorPxV10
import Derived.Test.YtlimahhonfckdaaGreatDoorRuA
import Derived.Test.YtlimahhonfckdaaGreatDoorRuB
namespace Go.Aw
set_option linter.unusedSimpArgs false
set_option linter.unusedVariables false

theorem last_get {T:List (List Int)} (h:T≠[]) : T[T.length - 1]? = some (T.getLastD []):=by
  rw [List.getLastD_eq_getLast?,List.getLast?_eq_getElem?]
  obtain ⟨x,hx⟩ : ∃ x,T[T.length - 1]? = some x:=⟨_,List.getElem?_eq_getElem (by have:=List.length_pos_iff.2 h; omega)⟩
  rw [hx]
  rfl
def lsF (t:Fm) (p:List Ch) (T:List (List Int)) : Nat→Nat→Nat
  | n,0=>n
  | n,k+1=>if posA t p (T.take (n+1))=true then lsF t p T (n+1) k else n
def lostA (t:Fm) (p:List Ch) (T:List (List Int)) : Nat:=lsF t p T 0 T.length
theorem lsF_pos {t:Fm} {p:List Ch} {T:List (List Int)} : ∀ {k n i:Nat},n≤i→i<lsF t p T n k→posA t p (T.take (i+1))=true
  | 0,n,i,h1,h2=>by rw [lsF] at h2; omega
  | k+1,n,i,h1,h2=>by
    rw [lsF] at h2
    split at h2
    · rename_i h
      rcases Nat.lt_or_ge n i with h3 | h3
      · exact lsF_pos (k:=k) (n:=n+1) h3 h2
      · obtain rfl:i=n:=by omega
        exact h
    · omega
theorem lsF_no {t:Fm} {p:List Ch} {T:List (List Int)} : ∀ {k n:Nat},lsF t p T n k<n+k→posA t p (T.take (lsF t p T n k+1))=false
  | 0,n,h=>by rw [lsF] at h; omega
  | k+1,n,h=>by
    rw [lsF] at h ⊢
    split at h
    · rename_i h1
      rw [if_pos h1]
      exact lsF_no (k:=k) (n:=n+1) (by omega)
    · rename_i h1
      rw [if_neg h1]
      simpa using h1
theorem lost_pos {t:Fm} {p:List Ch} {T:List (List Int)} {i:Nat} (h:i<lostA t p T) : posA t p (T.take (i+1))=true:=lsF_pos (Nat.zero_le i) h
theorem lost_no {t:Fm} {p:List Ch} {T:List (List Int)} (h:lostA t p T<T.length) : posA t p (T.take (lostA t p T+1))=false:=lsF_no (by unfold lostA at h; omega)
theorem lost_at {t:Fm} {p:List Ch} {T:List (List Int)} {n:Nat} (hn:n<T.length) (h1:∀ i,i<n→posA t p (T.take (i+1))=true) (h2:posA t p (T.take (n+1))=false) : lostA t p T=n:=by
  rcases Nat.lt_trichotomy (lostA t p T) n with h | h | h
  · have h3:=lost_no (show lostA t p T<T.length by omega)
    rw [h1 _ h] at h3
    cases h3
  · exact h
  · rw [lost_pos h] at h2
    cases h2
def ownR:List Ch→Int→List Int→List Int→Bool
  | c::p,o,x::r,y::q=>(decide (c.owner=o)||decide (x=y))&&ownR p o r q
  | _,_,_,_=>true
theorem ownR_drop {p:List Ch} {o:Int} {r q:List Int} {c:Ch} {x y:Int} {k:Nat} (hc:p[k]? = some c) (hx:r[k]? = some x) (hy:q[k]? = some y) :
    ownR (p.drop k) o (r.drop k) (q.drop k)=((decide (c.owner=o)||decide (x=y))&&ownR (p.drop (k+1)) o (r.drop (k+1)) (q.drop (k+1))):=by
  have h1:=(List.getElem?_eq_some_iff.1 hc).1
  have h2:=(List.getElem?_eq_some_iff.1 hx).1
  have h3:=(List.getElem?_eq_some_iff.1 hy).1
  rw [List.drop_eq_getElem_cons h1,List.drop_eq_getElem_cons h2,List.drop_eq_getElem_cons h3,show p[k]=c from (List.getElem?_eq_some_iff.1 hc).2,show r[k]=x from (List.getElem?_eq_some_iff.1 hx).2,show q[k]=y from (List.getElem?_eq_some_iff.1 hy).2,ownR]
theorem ownR_end {p:List Ch} {o:Int} {r q:List Int} : ownR (p.drop p.length) o r q=true:=by rw [List.drop_length]; cases r <;> cases q <;> rfl
def keepA (t:Fm) (p:List Ch) (W:List (List Int)) (q:List Int) (o:Int) : Bool:=(folV p (W.getLastD [])).any fun r=>ownR p o r q&&posA t p (W++[r])
def whoL (t:Fm) (p:List Ch) (T:List (List Int)) (n k:Nat) : List Int:=if n=0 then [] else ((List.range k).filter fun (o:Nat)=>keepA t p (T.take n) (T[n]?.getD []) (o:Int)).map fun (o:Nat)=>(o:Int)
theorem whoL_zero (t:Fm) (p:List Ch) (T:List (List Int)) (n:Nat) : whoL t p T n 0=[]:=by unfold whoL; split <;> rfl
theorem whoL_step {t:Fm} {p:List Ch} {T:List (List Int)} {n:Nat} (hn:n≠0) (k:Nat) : whoL t p T n (k+1)=whoL t p T n k++if keepA t p (T.take n) (T[n]?.getD []) (k:Int)=true then [(k:Int)] else []:=by
  rw [whoL,if_neg hn,whoL,if_neg hn,List.range_succ,List.filter_append,List.map_append]
  congr 1
  by_cases h:keepA t p (T.take n) (T[n]?.getD []) (k:Int)=true <;> simp [h]
theorem whoL_len (t:Fm) (p:List Ch) (T:List (List Int)) (n k:Nat) : (whoL t p T n k).length≤k:=by
  unfold whoL
  split
  · simp
  · rw [List.length_map]
    exact Nat.le_trans (List.length_filter_le _ _) (by simp)
def szA (c:Int) : Nat→Int→Int
  | 0,n=>n
  | k+1,n=>szA c k (min (n*c) 6562)
def chainB (p:List Ch) : List (List Int)→Bool
  | a::b::T=>canV p a b&&chainB p (b::T)
  | _=>true
theorem chainB_drop {p:List Ch} {T:List (List Int)} {i:Nat} {a b:List Int} (h1:T[i]? = some a) (h2:T[i+1]? = some b) : chainB p (T.drop i)=(canV p a b&&chainB p (T.drop (i+1))):=by
  have g1:=(List.getElem?_eq_some_iff.1 h1).1
  have g2:=(List.getElem?_eq_some_iff.1 h2).1
  rw [List.drop_eq_getElem_cons g1,List.drop_eq_getElem_cons g2,show T[i]=a from (List.getElem?_eq_some_iff.1 h1).2,show T[i+1]=b from (List.getElem?_eq_some_iff.1 h2).2,chainB]
theorem chainB_end {p:List Ch} {T:List (List Int)} {i:Nat} (h:T.length≤i+1) : chainB p (T.drop i)=true:=by
  have:(T.drop i).length≤1:=by rw [List.length_drop]; omega
  match T.drop i,this with
  | [],_=>rfl
  | [_],_=>rfl
def reE (f:List Nd) (p:List Ch) (t:Fm) (T:List (List Int)) : Int:=if plE p≠0 then plE p else if chkE f p.length t≠0 then chkE f p.length t else if trE T p.length≠0 then trE T p.length else
  if T=[] then 6 else if 6561<szA (numC p 1) t.hz.toNat 1 then 8 else if chainB p T=true then 0 else 10
theorem re_facts {f:List Nd} {p:List Ch} {t:Fm} {T:List (List Int)} (h:reE f p t T=0) : plE p=0∧chkE f p.length t=0∧trE T p.length=0∧T≠[]∧szA (numC p 1) t.hz.toNat 1≤6561∧chainB p T=true:=by
  unfold reE at h
  split at h
  · rename_i h1; exact absurd h h1
  rename_i h1
  split at h
  · rename_i h2; exact absurd h h2
  rename_i h2
  split at h
  · rename_i h3; exact absurd h h3
  rename_i h3
  split at h
  · cases h
  rename_i h4
  split at h
  · cases h
  rename_i h5
  split at h
  · rename_i h6
    exact ⟨by simpa using h1,by simpa using h2,by simpa using h3,h4,by omega,h6⟩
  · cases h
def psB (f:List Nd) (p:List Ch) (t:Fm) (T:List (List Int)) : Bool:=decide (reE f p t T=0)&&posA t p T
def reL (f:List Nd) (p:List Ch) (t:Fm) (T:List (List Int)) : Bool:=decide (reE f p t T=0) && !posA t p T
def reAt (f:List Nd) (p:List Ch) (t:Fm) (T:List (List Int)) : Int:=if reL f p t T=true then (lostA t p T:Nat) else 0
def reWho (f:List Nd) (p:List Ch) (t:Fm) (T:List (List Int)) : List Int:=if reL f p t T=true then whoL t p T (lostA t p T) 4 else []
end Go.Aw
