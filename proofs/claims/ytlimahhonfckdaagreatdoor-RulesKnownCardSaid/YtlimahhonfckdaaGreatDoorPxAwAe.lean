/-
  Equality of arrays of numbers,us an operation by hand. Over any program; no condition.
-/
import Derived.ChangeKeysEq
import Derived.Test.YtlimahhonfckdaaGreatDoorPkT
namespace Go.Aw
set_option linter.unusedSimpArgs false
set_option linter.unusedVariables false
open Go.RowKit
variable {P:Program}

def dI (x:Int) : V:=.d (.int .i64 x)
theorem items_sound {E:Env} {F:Nat→Prop} {w:World} {e:TypeId} {d:Nat} (hz:ksz P e=some (false,1)) (hk:klf P e=1) {us bs:List Int} {cs es:Array Value}
    (hs:cs.size=(us.map dI).length) (hr:∀ (j:Nat) (x:V) (v:Value),(us.map dI)[j]? = some x→cs[j]? = some v→VR E F w x v)
    (hs':es.size=(bs.map dI).length) (hr':∀ (j:Nat) (x:V) (v:Value),(bs.map dI)[j]? = some x→es[j]? = some v→VR E F w x v) :
    ∀ (is:List Nat),(∀ i,i∈is→i<us.length∧i<bs.length)→∀ w',(Op.eqItems (d+1) e 1 cs es is).run P w'=.ok (is.all fun i=>decide (us[i]? = bs[i]?)) w'
  | [],_,w'=>by simp [Op.eqItems]
  | i::is,h,w'=>by
    obtain ⟨h1,h2⟩:=h i (by simp)
    obtain ⟨k',hk'⟩:=klf_int hk
    have c1:cutQ P e i (us.map dI)=some (i<(us.map dI).length,(us.map dI).getD i .junk):=by rw [cutQ,hz]
    have c2:cutQ P e i (bs.map dI)=some (i<(bs.map dI).length,(bs.map dI).getD i .junk):=by rw [cutQ,hz]
    obtain ⟨v,g1,g2⟩:=cut_sound c1 (by simpa using h1) hs hr
    obtain ⟨u,g3,g4⟩:=cut_sound c2 (by simpa using h2) hs' hr'
    have e1:(us.map dI).getD i .junk=dI us[i]:=by simp [List.getD_eq_getElem?_getD,h1]
    have e2:(bs.map dI).getD i .junk=dI bs[i]:=by simp [List.getD_eq_getElem?_getD,h2]
    rw [e1] at g1
    rw [e2] at g3
    have ih:=items_sound (d:=d) hz hk hs hr hs' hr' is fun j hj=>h j (by simp [hj])
    unfold dI at g1 g3
    cases g1 with
    | d _ _ g1 =>
      cases g1
      cases g3 with
      | d _ _ g3 =>
        cases g3
        have hq:=run_equalIn_int w' d e .i64 k' us[i] bs[i] hk'
        simp only [Op.eqItems,Nat.mul_one,Sem.run_bind,g2,g4,hq,Result.andThen_ok,List.all_cons]
        rw [List.getElem?_eq_getElem h1,List.getElem?_eq_getElem h2]
        by_cases hab:us[i]=bs[i]
        · simp [hab,ih]
        · simp [hab]
theorem all_eq {us bs:List Int} {n:Nat} (h1:us.length=n) (h2:bs.length=n) : ((List.range n).all fun i=>decide (us[i]? = bs[i]?))=decide (us=bs):=by
  by_cases h:us=bs
  · subst h; simp
  · rw [decide_eq_false h,Bool.eq_false_iff]
    intro hall
    apply h
    apply List.ext_getElem?
    intro i
    rcases Nat.lt_or_ge i n with hi | hi
    · have:=List.all_eq_true.1 hall i (List.mem_range.2 hi)
      simpa using this
    · rw [List.getElem?_eq_none (by omega),List.getElem?_eq_none (by omega)]
theorem arrEq_X {kp:List Nat} {ops:Array Oper} {s:St} {K:St→Prop} {t e:TypeId} {n:Nat} {x y:Operand} {d:Option Tmp} {rt ty:TypeId} {ps:String} {af:Array Edge} {us bs:List Int} {i:TypeInfo} (hu:P.underlying t=some (.array n e)) (hi:P.info? e=some i)
    (hc:P.cellsOf e=1) (hz:ksz P e=some (false,1)) (hk:klf P e=1) (hg:P.eqGuardType P.depth t=false) (h1:us.length=n) (h2:bs.length=n) {p q:Prop}
    (hx:(s.ev x).strip=(p,.agg (us.map dI))) (hy:(s.ev y).strip=(q,.agg (bs.map dI))) (hp:p) (hq:q) (hK:K (s.put d (.d (.bool (decide (us=bs)))))) :
    OpX2 P kp ops { dst:=d,op:=.binOp .eql t x y rt,type:=ty,pos:=ps,after:=af,guard:=none } s K:=by
  intro B a w E F Q hB hs hd
  refine .inl ⟨rfl,?_⟩
  have vx:=V.strip_sound (ev_sound hs x) (by rw [hx]; exact hp)
  have vy:=V.strip_sound (ev_sound hs y) (by rw [hy]; exact hq)
  rw [hx] at vx
  rw [hy] at vy
  generalize hv:a.eval x=v at vx
  generalize hw:a.eval y=u at vy
  cases vx with
  | agg _ cs cs1 cs2 =>
    cases vy with
    | agg _ es es1 es2 =>
      have h3:=items_sound (d:=9998) hz hk cs1 cs2 es1 es2 (List.range n) (fun j hj=>by have:=List.mem_range.1 hj; omega) w
      rw [all_eq h1 h2] at h3
      have h4:(Op.equalIn 10000 t (.agg cs) (.agg es)).run P w=.ok (decide (us=bs)) w:=by
        rw [show 10000=9999+1 from rfl,run_equalIn_array w 9999 cs es hu hi,hc]
        exact h3
      have hrun:(execOp a.eval { dst:=d,op:=.binOp .eql t x y rt,type:=ty,pos:=ps,after:=af,guard:=none }).run P w=.ok (.value (.bool (decide (us=bs)))) w:=by
        simp [execOp,hv,hw,run_eqGuard_agg w .eql t x y cs es hg,run_eql_struct,h4]
      unfold Oper.wp
      rw [hrun]
      exact ⟨_,_,E,F,rfl,hK,hs.put (.d _ _ (.bool _)) hd⟩
end Go.Aw
