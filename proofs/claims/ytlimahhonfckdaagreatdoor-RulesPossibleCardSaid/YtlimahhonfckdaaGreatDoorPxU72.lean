/-
  Push of the program. Conditions: lengths that fit.
-/
import Derived.Test.YtlimahhonfckdaaGreatDoorPxU71
import Derived.Test.YtlimahhonfckdaaGreatDoorPkT
import Derived.Test.YtlimahhonfckdaaGreatDoorPkD
namespace Go.Aw
set_option linter.unusedSimpArgs false
set_option linter.unusedVariables false
open Go.RowKit Go.Proofs
set_option maxRecDepth 100000

theorem chk_hz {f:List Nd} {w:Int} {t:Fm} (h:chkE f w t=0) : t.hz≤60:=by
  unfold chkE at h
  split at h
  · cases h
  · rename_i h1
    have:¬ 60<t.hz:=fun h2=>h1 ⟨h,h2⟩
    omega
theorem awp_virtJ {P:Program} {kp:List Nat} {n:Nat} {s:St} {Q:Exit→St→Prop} {c:Code} (id j k:Nat) (xs:List V) (hi:s.heap[id]? = some (.cells xs)) (hj:xs[j]? = some .nil)
    (h:AWP P kp n c { s with heap:=(s.heap++[Blk.data k []]).set id (.cells (xs.set j (.ref s.heap.length 0 0))) } Q) : AWP P kp n c s Q:=by
  intro hok B a w E F h1 h2 h3
  subst h1
  obtain ⟨e1,e2⟩:=virt_rel h3.rel k
  have hlt:=(List.getElem?_eq_some_iff.1 hi).1
  have h4:Sim B ⟨s.tm,s.heap++[Blk.data k []]⟩ a w (E++[⟨none,k,0⟩]) F:=⟨⟨e2.os,e2.tape,e2.output,e2.size,e2.F0,e2.only,e2.same,e2.lt,e2.hr,e2.src,e2.keep,e2.sz⟩,h3.defers,fun j x hx=>by
    obtain ⟨v,hv,hr⟩:=h3.tm j x hx
    exact ⟨v,hv,hr.evo e1 (fun _ _=>trivial)⟩⟩
  refine h hok B a w _ F rfl h2 (cells_sim h4 id xs (xs.set j (.ref s.heap.length 0 0)) (by rw [List.getElem?_append_left hlt]; exact hi) (by simp) ?_)
  intro i x y hx hy v hv
  rw [List.getElem?_set] at hy
  split at hy
  · rename_i e
    subst e
    rw [hj] at hx
    cases hx
    split at hy
    · cases hy
      cases hv with
      | nil a=>exact .refv _ k 0 a (by rw [← h3.rel.hr.len,List.getElem?_append_right (Nat.le_refl _)]; simp)
    · cases hy
  · rw [hx] at hy
    cases hy
    exact hv
end Go.Aw
