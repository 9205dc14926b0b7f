/-
  Watches by the rows that they took. Plain Lean; no condition.
-/
import Derived.Test.YtlimahhonfckdaaGreatDoorPxU72
import Derived.Test.YtlimahhonfckdaaGreatDoorRuI
namespace Go.Aw
set_option linter.unusedSimpArgs false
set_option linter.unusedVariables false

def wS (t:Fm) (wd:Int) (S:List (List Int)) : Wt:=watchA t wd S S.length
theorem watchA_take (t:Fm) (w:Int) (T:List (List Int)) (n:Nat) : watchA t w (T.take n) n=watchA t w T n:=by simp only [watchA,frA,opA,List.take_take,Nat.min_self]
theorem wS_push (t:Fm) (wd:Int) (S:List (List Int)) (row:List Int) : pushW t (wS t wd S) row=wS t wd (S++[row]):=by
  have h:=push_A (t:=t) (w:=wd) (T:=S++[row]) (n:=S.length) (row:=row) (by rw [List.getElem?_append_right (Nat.le_refl _),Nat.sub_self]; rfl)
  have e:watchA t wd (S++[row]) S.length=wS t wd S:=by rw [← watchA_take,List.take_left' rfl]; rfl
  rw [e] at h
  rw [h,wS,List.length_append]
  rfl
theorem wS_zero (t:Fm) (wd:Int) : wS t wd []=⟨t.flat,wd,0,[],[]⟩:=rfl
theorem wS_sum (t:Fm) (wd:Int) (S:List (List Int)) : (wS t wd S).fr+((wS t wd S).rows.length:Int)=S.length:=by
  have h:=frA_n t S S.length
  have e1:(wS t wd S).fr=(frA t S S.length:Nat):=rfl
  have e2:(wS t wd S).rows=(S.take S.length).drop (frA t S S.length):=rfl
  rw [e1,e2,List.length_drop,List.length_take]
  omega
theorem wS_ok {t:Fm} {wd:Int} {S:List (List Int)} (hc:chkE t.flat wd t=0) (hw:1≤wd∧wd≤12) (hS:∀ r,r∈S→trE [r] wd=0) (hl:S.length≤400) : cwE (wS t wd S) t=0:=by
  refine watch_ok hc (fun k m=>tr_of hw (by rw [List.length_drop,List.length_take]; omega) fun r hr => ?_) (Nat.le_refl _) hl
  have:=(tr_facts (hS r (List.mem_of_mem_take (List.mem_of_mem_drop hr)))).2.2.2 r (by simp)
  exact this
theorem wS_pushE {t:Fm} {wd:Int} {S:List (List Int)} {row:List Int} (hc:cwE (wS t wd S) t=0) (hl:S.length≤400) : pushE t (wS t wd S) row=trE [row] wd:=by
  have h:=wS_sum t wd S
  have e:(wS t wd S).width=wd:=rfl
  rw [pushE,hc,if_neg (by simp),e]
  split
  · rfl
  · rename_i h2
    rw [if_neg (by omega)]
    have:=Decidable.not_not.1 h2
    exact this.symm
theorem wS_puW {t:Fm} {wd:Int} {S:List (List Int)} {row:List Int} (hc:cwE (wS t wd S) t=0) (hl:S.length≤400) : puW t (wS t wd S) row=if trE [row] wd=0 then wS t wd (S++[row]) else wt0:=by
  rw [puW,wS_pushE hc hl,wS_push]
theorem wS_bds {t:Fm} {wd:Int} {S:List (List Int)} (hc:cwE (wS t wd S) t=0) : (wS t wd S).rows.length≤1000∧(∀ r,r∈(wS t wd S).rows→r.length≤12)∧(wS t wd S).opn.length≤1000:=by
  obtain ⟨_,c2,_,_,c5,_⟩:=watch_facts hc
  obtain ⟨w1,w2,h3,h4⟩:=tr_facts c2
  refine ⟨by omega,fun r hr => ?_,?_⟩
  · have:=(h4 r hr).1
    omega
  · rw [← c5]
    have:=openL_len t (wS t wd S).rows (wS t wd S).fr
    omega
end Go.Aw
