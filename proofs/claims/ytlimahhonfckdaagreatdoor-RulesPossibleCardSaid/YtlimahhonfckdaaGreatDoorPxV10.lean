/-
  Possible rules,and when they are lost. Plain Lean; no condition.
-/
import Derived.Test.YtlimahhonfckdaaGreatDoorRuL
import Derived.Test.YtlimahhonfckdaaGreatDoorRuI
namespace Go.Aw
set_option linter.unusedSimpArgs false
set_option linter.unusedVariables false

def posV (t:Fm) (p:List Ch) : Nat→List (List Int)→Bool
  | 0,T=>decide (vd t T 0=1)
  | k+1,T=>if vd t T 0=1 then true else if vd t T 0=0 then false else (folV p (T.getLastD [])).any fun r=>posV t p k (T++[r])
def posA (t:Fm) (p:List Ch) (T:List (List Int)) : Bool:=posV t p (t.hz.toNat+1 - T.length) T
theorem vd_cases' (t:Fm) (T:List (List Int)) (i:Nat) : vd t T i=0∨vd t T i=1∨vd t T i=2:=by
  have:=vd_le t T i
  omega
theorem pos_yes {t:Fm} {p:List Ch} {k:Nat} {T:List (List Int)} (h:vd t T 0=1) : posV t p k T=true:=by
  cases k <;> simp [posV,h]
theorem pos_no {t:Fm} {p:List Ch} {k:Nat} {T:List (List Int)} (h:vd t T 0=0) : posV t p k T=false:=by
  cases k <;> simp [posV,h]
theorem posA_step {t:Fm} {p:List Ch} {T:List (List Int)} (hw:t.wf) (ho:∀ n,n∈t.flat→okN n) (h:vd t T 0=2) : posA t p T=(folV p (T.getLastD [])).any fun r=>posA t p (T++[r]):=by
  have hz:=(hz_bd t hw ho).1
  rcases Nat.lt_or_ge t.hz.toNat T.length with h1 | h1
  · exact absurd h (vd_dec t T 0 hw ho (by omega))
  · obtain ⟨k,hk⟩ : ∃ k,t.hz.toNat+1 - T.length=k+1:=⟨t.hz.toNat - T.length,by omega⟩
    unfold posA
    rw [hk,posV,if_neg (by omega),if_neg (by omega)]
    congr 1
    funext r
    congr 1
    rw [List.length_append]
    simp
    omega
theorem posA_mono {t:Fm} {p:List Ch} {T:List (List Int)} {r:List Int} (hw:t.wf) (ho:∀ n,n∈t.flat→okN n) (hr:r∈folV p (T.getLastD [])) (h:posA t p (T++[r])=true) : posA t p T=true:=by
  rcases vd_cases' t T 0 with h0 | h0 | h0
  · rcases vd_mono t T [r] 0 with h1 | h1
    · omega
    · rw [posA,pos_no (by omega)] at h
      cases h
  · exact pos_yes h0
  · rw [posA_step hw ho h0,List.any_eq_true]
    exact ⟨r,hr,h⟩
def chain (p:List Ch) (T:List (List Int)) : Prop:=∀ (i:Nat) (a b:List Int),T[i]? = some a→T[i+1]? = some b→b∈folV p a
theorem posA_take {t:Fm} {p:List Ch} {T:List (List Int)} (hw:t.wf) (ho:∀ n,n∈t.flat→okN n) (hc:chain p T) : ∀ (n m:Nat),1≤n→n≤m→m≤T.length→posA t p (T.take m)=true→posA t p (T.take n)=true
  | n,0,h1,h2,_,h=>by omega
  | n,m+1,h1,h2,h3,h=>by
    rcases Nat.lt_or_ge m n with h4 | h4
    · obtain rfl:n=m+1:=by omega
      exact h
    · refine posA_take hw ho hc n m h1 h4 (by omega) ?_
      have hb:T[m]? = some T[m]:=List.getElem?_eq_getElem h3
      obtain ⟨k,rfl⟩ : ∃ k,m=k+1:=⟨m - 1,by omega⟩
      have ha:T[k]? = some T[k]:=List.getElem?_eq_getElem (by omega)
      rw [List.take_add_one,hb] at h
      refine posA_mono hw ho ?_ h
      have e:(T.take (k+1)).getLastD []=T[k]:=by
        rw [List.take_add_one,ha,Option.toList_some,List.getLastD_eq_getLast?,List.getLast?_concat]
        rfl
      rw [e]
      exact hc k _ _ ha hb
theorem chV_ex {c:Ch} (hc:okCh c) (v x:Int) : (chV c v c.lo≤x∧x≤chV c v c.hi)↔∃ d,d∈dsL c.lo c.hi∧chV c v d=x:=by
  have h1:=hc.2.2.1
  have h2:=hc.2.2.2.2.2.1
  constructor
  · rintro ⟨h3,h4⟩
    refine ⟨min (max (x - v) c.lo) c.hi,?_,?_⟩
    · simp only [dsL,List.mem_map,List.mem_range]
      exact ⟨(min (max (x - v) c.lo) c.hi - c.lo).toNat,by omega,by omega⟩
    · unfold chV at *
      omega
  · rintro ⟨d,hd,rfl⟩
    simp only [dsL,List.mem_map,List.mem_range] at hd
    obtain ⟨k,hk,rfl⟩:=hd
    unfold chV
    omega
def canV:List Ch→List Int→List Int→Bool
  | c::p,v::a,x::b=>decide (chV c v c.lo≤x∧x≤chV c v c.hi)&&canV p a b
  | _,_,_=>true
theorem canV_iff:∀ (p:List Ch) (a b:List Int),(∀ c,c∈p→okCh c)→a.length=p.length→b.length=p.length→(canV p a b=true↔b∈folV p a)
  | [],[],[],_,_,_=>by simp [canV,folV]
  | [],_::_,_,_,h,_=>by simp at h
  | [],[],_::_,_,_,h=>by simp at h
  | c::p,[],_,_,h,_=>by simp at h
  | c::p,_::_,[],_,_,h=>by simp at h
  | c::p,v::a,x::b,hc,h1,h2=>by
    have ih:=canV_iff p a b (fun d hd=>hc d (by simp [hd])) (by simpa using h1) (by simpa using h2)
    have hx:=chV_ex (hc c (by simp)) v x
    simp only [canV,Bool.and_eq_true,decide_eq_true_eq,folV,List.mem_flatMap,List.mem_map,List.cons.injEq]
    rw [hx,ih]
    constructor
    · rintro ⟨⟨d,hd,rfl⟩,hb⟩
      exact ⟨d,hd,b,hb,rfl,rfl⟩
    · rintro ⟨d,hd,q,hq,rfl,rfl⟩
      exact ⟨⟨d,hd,rfl⟩,hq⟩
end Go.Aw
