/-
  The plant that a number makes,and the rows that numbers make of a plant; they are valid. Plain Lean; no condition.
-/
import Derived.Test.YtlimahhonfckdaaGreatDoorPxV11
import Derived.Test.YtlimahhonfckdaaGreatDoorRuI
namespace Go.Aw
set_option linter.unusedSimpArgs false
set_option linter.unusedVariables false

def plantV (n:Int) : List Ch:=[⟨0,-((n % 1048576) % 2),1,0,6⟩,⟨(n % 1048576) / 2 % 3,-((n % 1048576) / 6 % 2),(n % 1048576) / 12 % 2,-1,5⟩]
theorem plant_ok (n:Int) : plE (plantV n)=0:=by
  have hok:∀ c,c∈plantV n→okCh c:=fun c hc=>by
    simp only [plantV,List.mem_cons,List.not_mem_nil,or_false] at hc
    unfold okCh inC inV'
    rcases hc with rfl | rfl
    · dsimp only
      omega
    · dsimp only
      omega
  have h9:¬ 9<numC (plantV n) 1:=by
    simp only [plantV,numC]
    generalize n % 1048576=m
    have h1:m % 2=0∨m % 2=1:=by omega
    have h2:m / 6 % 2=0∨m / 6 % 2=1:=by omega
    have h3:m / 12 % 2=0∨m / 12 % 2=1:=by omega
    generalize m % 2=a at *
    generalize m / 6 % 2=b at *
    generalize m / 12 % 2=c at *
    rcases h1 with rfl | rfl <;> rcases h2 with rfl | rfl <;> rcases h3 with rfl | rfl <;> decide
  rw [plE,if_neg (by simp [plantV]),if_neg (by simp [plantV]),if_neg (fun h=>h hok),if_neg h9]
def runR (p:List Ch) (x:Int) (out:List (List Int)) : List Int:=((folV p (out.getLastD []))[(x % ((folV p (out.getLastD [])).length:Int)).toNat]?).getD []
def runV (p:List Ch) : List Int→List (List Int)→List (List Int)
  | [],out=>out
  | x::l,out=>runV p l (out++[runR p x out])
def runA (p:List Ch) (l:List Int) (most:Nat) : List (List Int):=runV p (l.take (most - 1)) [[2,1]]
theorem runV_len (p:List Ch) : ∀ (l:List Int) (out:List (List Int)),(runV p l out).length=out.length+l.length
  | [],out=>rfl
  | x::l,out=>by
    rw [runV,runV_len p l]
    simp
    omega
theorem runA_len (p:List Ch) (l:List Int) {most:Nat} (h:1≤most) : 1≤(runA p l most).length∧(runA p l most).length≤most:=by
  rw [runA,runV_len,List.length_take]
  simp only [List.length_cons,List.length_nil]
  omega
structure RunOk (p:List Ch) (out:List (List Int)) : Prop where
  ne:out≠[]
  rows:∀ r,r∈out→r.length=2∧∀ x,x∈r→inV x=true
  ch:chain p out
theorem chain_app {p:List Ch} {T:List (List Int)} {r:List Int} (hc:chain p T) (hT:T≠[]) (hr:r∈folV p (T.getLastD [])) : chain p (T++[r]):=by
  have hl:=List.length_pos_iff.2 hT
  have hg:=last_get hT
  intro i a b ha hb
  rcases Nat.lt_or_ge (i+1) T.length with h | h
  · rw [List.getElem?_append_left (by omega)] at ha
    rw [List.getElem?_append_left h] at hb
    exact hc i a b ha hb
  · have h2:=(List.getElem?_eq_some_iff.1 hb).1
    rw [List.length_append,List.length_singleton] at h2
    have h3:i+1=T.length:=by omega
    rw [List.getElem?_append_left (by omega),show i=T.length - 1 by omega,hg] at ha
    rw [List.getElem?_append_right h,h3,Nat.sub_self] at hb
    cases ha
    cases hb
    exact hr
theorem chain_take {p:List Ch} {T:List (List Int)} (hc:chain p T) (n:Nat) : chain p (T.take n):=by
  intro i a b ha hb
  have h1:=(List.getElem?_eq_some_iff.1 hb).1
  rw [List.length_take] at h1
  rw [List.getElem?_take_of_lt (by omega)] at ha hb
  exact hc i a b ha hb
theorem last_mem {T:List (List Int)} (h:T≠[]) : T.getLastD []∈T:=List.mem_of_getElem? (last_get h)
theorem RunOk.app {p:List Ch} {out:List (List Int)} {r:List Int} (h:RunOk p out) (hp:plE p=0) (h2:p.length=2) (hr:r∈folV p (out.getLastD [])) : RunOk p (out++[r]):=by
  refine ⟨by simp,fun q hq => ?_,chain_app h.ch h.ne hr⟩
  rcases List.mem_append.1 hq with hq | hq
  · exact h.rows q hq
  · obtain rfl:=List.mem_singleton.1 hq
    have h3:=folV_row p _ (pl_ok hp).2.2.1 (by rw [h2,(h.rows _ (last_mem h.ne)).1]) q hr
    exact ⟨by omega,h3.2⟩
theorem runR_mem {p:List Ch} {out:List (List Int)} (h:RunOk p out) (hp:plE p=0) (h2:p.length=2) (x:Int) : runR p x out∈folV p (out.getLastD []):=by
  have hl:=folV_len (row:=out.getLastD []) hp (by rw [h2,(h.rows _ (last_mem h.ne)).1]; exact Nat.le_refl _)
  have h3:=Int.emod_nonneg x (show ((folV p (out.getLastD [])).length:Int)≠0 by omega)
  have h4:=Int.emod_lt_of_pos x (show 0<((folV p (out.getLastD [])).length:Int) by omega)
  unfold runR
  obtain ⟨y,hy⟩ : ∃ y,(folV p (out.getLastD []))[(x % ((folV p (out.getLastD [])).length:Int)).toNat]? = some y:=⟨_,List.getElem?_eq_getElem (by omega)⟩
  rw [hy]
  exact List.mem_of_getElem? hy
theorem run_one (p:List Ch) : RunOk p [[2,1]]:=by
  refine ⟨by simp,fun r hr => ?_,fun i a b _ hb=>by simp at hb⟩
  obtain rfl:=List.mem_singleton.1 hr
  refine ⟨rfl,fun x hx => ?_⟩
  simp only [List.mem_cons,List.not_mem_nil,or_false] at hx
  rcases hx with rfl | rfl <;> decide
theorem RunOk.take {p:List Ch} {out:List (List Int)} (h:RunOk p out) {n:Nat} (hn:1≤n) : RunOk p (out.take n):=by
  have:=List.length_pos_iff.2 h.ne
  refine ⟨fun e => ?_,fun r hr=>h.rows r (List.mem_of_mem_take hr),chain_take h.ch n⟩
  have:=congrArg List.length e
  rw [List.length_take,List.length_nil] at this
  omega
theorem RunOk.tr {p:List Ch} {out:List (List Int)} (h:RunOk p out) (hl:out.length≤400) : trE out 2=0:=tr_of ⟨by decide,by decide⟩ hl fun r hr=>⟨by have:=(h.rows r hr).1; omega,(h.rows r hr).2⟩
end Go.Aw
