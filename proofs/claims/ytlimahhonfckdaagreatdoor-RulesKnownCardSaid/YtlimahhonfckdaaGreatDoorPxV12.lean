/-
  The plant that a number makes,and the rows that numbers make of a plant; they are valid. Plain Lean; no condition.
-/
import Derived.Test.YtlimahhonfckdaaGreatDoorPxV11
import Derived.Test.YtlimahhonfckdaaGreatDoorRuI
namespace Go.Aw
set_option linter.unusedSimpArgs false
set_option linter.unusedVariables false

structure RunOk (p:List Ch) (out:List (List Int)) : Prop where
  ne:out≠[]
  rows:∀ r,r∈out→r.length=2∧∀ x,x∈r→inV x=true
  ch:chain p out
theorem chain_app {p:List Ch} {T:List (List Int)} {r:List Int} (hc:chain p T) (hT:T≠[]) (hr:r∈folV p (T.getLastD [])) : chain p (T++[r]):=by
  have hl:=List.length_pos_iff.2 hT
  have hg:=last_get hT
  intro i a b ha hb
  rcases Nat.lt_or_ge (i+1) T.length with h | h
  · rw [List.getElem?_append_left (by omega)] at ha
    rw [List.getElem?_append_left h] at hb
    exact hc i a b ha hb
  · have h2:=(List.getElem?_eq_some_iff.1 hb).1
    rw [List.length_append,List.length_singleton] at h2
    have h3:i+1=T.length:=by omega
    rw [List.getElem?_append_left (by omega),show i=T.length - 1 by omega,hg] at ha
    rw [List.getElem?_append_right h,h3,Nat.sub_self] at hb
    cases ha
    cases hb
    exact hr
theorem chain_take {p:List Ch} {T:List (List Int)} (hc:chain p T) (n:Nat) : chain p (T.take n):=by
  intro i a b ha hb
  have h1:=(List.getElem?_eq_some_iff.1 hb).1
  rw [List.length_take] at h1
  rw [List.getElem?_take_of_lt (by omega)] at ha hb
  exact hc i a b ha hb
theorem last_mem {T:List (List Int)} (h:T≠[]) : T.getLastD []∈T:=List.mem_of_getElem? (last_get h)
theorem RunOk.app {p:List Ch} {out:List (List Int)} {r:List Int} (h:RunOk p out) (hp:plE p=0) (h2:p.length=2) (hr:r∈folV p (out.getLastD [])) : RunOk p (out++[r]):=by
  refine ⟨by simp,fun q hq => ?_,chain_app h.ch h.ne hr⟩
  rcases List.mem_append.1 hq with hq | hq
  · exact h.rows q hq
  · obtain rfl:=List.mem_singleton.1 hq
    have h3:=folV_row p _ (pl_ok hp).2.2.1 (by rw [h2,(h.rows _ (last_mem h.ne)).1]) q hr
    exact ⟨by omega,h3.2⟩
theorem RunOk.take {p:List Ch} {out:List (List Int)} (h:RunOk p out) {n:Nat} (hn:1≤n) : RunOk p (out.take n):=by
  have:=List.length_pos_iff.2 h.ne
  refine ⟨fun e => ?_,fun r hr=>h.rows r (List.mem_of_mem_take hr),chain_take h.ch n⟩
  have:=congrArg List.length e
  rw [List.length_take,List.length_nil] at this
  omega
end Go.Aw
