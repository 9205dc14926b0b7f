/-
  Texts of the library,one behind the other. Over any program; no condition.
-/
import Derived.RangeFuncLeaves
import Derived.RangeFuncCalls
import Derived.Below
import Derived.Scope
import Derived.Test.YtlimahhonfckdaaGreatDoorPkD
import Derived.Test.YtlimahhonfckdaaGreatDoorPkY
namespace Go.Aw
set_option linter.unusedSimpArgs false
set_option linter.unusedVariables false
open Go.RowKit

def Still {α:Type} (m:Sem α) : Prop:=∀ (P:Program) (w:World) (x:α) (w1:World),m.run P w=.ok x w1→w1=w∧∀ w':World,m.run P w'=.ok x w'
def Never {α:Type} (m:Sem α) : Prop:=∀ (P:Program) (w:World) (x:α) (w1:World),m.run P w=.ok x w1→False
theorem Never.still {α:Type} {m:Sem α} (h:Never m) : Still m:=fun P w x w1 e=>(h P w x w1 e).elim
theorem still_pure {α:Type} (a:α) : Still (Pure.pure a:Sem α):=fun P w x w1 e=>by
  simp only [Sem.run_pure] at e ⊢
  cases e
  exact ⟨rfl,fun _=>rfl⟩
theorem still_bind {α β:Type} {m:Sem α} {f:α→Sem β} (hm:Still m) (hf:∀ x,Still (f x)) : Still (m >>= f):=fun P w x w1 e=>by
  rw [Sem.run_bind] at e
  cases h:m.run P w with
  | halt h' w'=>rw [h] at e; cases e
  | ok a w' =>
    rw [h] at e
    obtain ⟨e1,h1⟩:=hm P w a w' h
    subst e1
    obtain ⟨e2,h2⟩:=hf a P _ x w1 e
    exact ⟨e2,fun w''=>by rw [Sem.run_bind,h1 w'']; exact h2 w''⟩
theorem never_bind {α β:Type} {m:Sem α} {f:α→Sem β} (hf:∀ x,Never (f x)) : Never (m >>= f):=fun P w x w1 e=>by
  rw [Sem.run_bind] at e
  cases h:m.run P w with
  | halt h' w'=>rw [h] at e; cases e
  | ok a w'=>rw [h] at e; exact hf a P _ x w1 e
theorem still_program:Still (program):=fun P w x w1 e=>by
  cases e
  exact ⟨rfl,fun _=>rfl⟩
theorem never_stuck {α:Type} (s:String) : Never (stuck s:Sem α):=fun P w x w1 e=>by cases e
theorem never_unsup {α:Type} (s:Unsupported) : Never (unsupported s:Sem α):=fun P w x w1 e=>by cases e
theorem never_panic {α:Type} (v:Value) : Never (goPanic v:Sem α):=fun P w x w1 e=>by cases e

def kindM:Op→Bool
  | .move _=>true
  | .slice .. => true
  | .assign _=>true
  | .pick .. => true
  | .indexAddr .. => true
  | _=>false

theorem still_info (t:TypeId) : Still (typeInfo t):=by
  unfold typeInfo
  repeat' (first | exact still_pure _ | exact (never_stuck _).still | exact still_program | (refine still_bind ?_ fun _ => ?_) | split | dsimp only)
theorem still_under (t:TypeId) : Still (underlying t):=by
  unfold underlying
  repeat' (first | exact still_pure _ | exact (never_stuck _).still | exact still_program | (refine still_bind ?_ fun _ => ?_) | split | dsimp only)
theorem still_size (t:TypeId) : Still (sizeOf t):=still_bind (still_info t) fun _=>still_pure _
theorem never_rt {α:Type} (e:RuntimeError) : Never (runtimePanic e:Sem α):=by
  unfold runtimePanic
  refine never_bind fun p => ?_
  cases e <;> repeat' (first | exact never_panic _ | (refine never_bind fun _ => ?_) | dsimp only)
theorem never_bp {α:Type} (k:IntKind) (i:Int) (y:Int) (c:BoundsCode) : Never (boundsPanic k i y c:Sem α):=by
  unfold boundsPanic
  dsimp only
  split <;> exact never_bind fun _=>never_rt _
theorem still_asIntOf (v:Value) : Still (asIntOf v):=by
  unfold asIntOf
  split <;> first | exact still_pure _ | exact (never_stuck _).still | exact (never_unsup _).still
theorem still_asAddr (v:Value) : Still (asAddr v):=by
  unfold asAddr
  split <;> first | exact still_pure _ | exact (never_stuck _).still | exact (never_rt _).still
theorem still_sure (v:Value) : Still (Instr.sureAddr v):=by
  unfold Instr.sureAddr
  split <;> first | exact still_pure _ | exact (never_stuck _).still
theorem still_sb (v:Value) (y:Nat) (c:BoundsCode) : Still (Instr.sliceBound v y c):=by
  unfold Instr.sliceBound
  repeat' (first | exact still_pure _ | exact (never_bp _ _ _ _).still | exact still_asIntOf _ | (refine still_bind ?_ fun _ => ?_) | split | dsimp only)
theorem still_sbs (b:Bool) (l c:Nat) (x y z:Option Value) : Still (Instr.sliceBounds b l c x y z):=by
  unfold Instr.sliceBounds
  cases x <;> cases y <;> cases z <;> dsimp only <;>
  repeat' (first | exact still_pure _ | exact (never_stuck _).still | exact still_sb _ _ _ | (refine still_bind ?_ fun _ => ?_) | split | dsimp only)
theorem still_slice (t:TypeId) (x:Value) (a b c:Option Value) : Still (Instr.slice t x a b c):=by
  unfold Instr.slice
  repeat' (first | exact still_pure _ | exact (never_stuck _).still | exact still_under _ | exact still_sbs _ _ _ _ _ _ | exact still_size _ | exact still_asAddr _ | (refine still_bind ?_ fun _ => ?_) | split | dsimp only)
theorem still_sliceAt (t:TypeId) (x:Value) (a b c:Option Value) : Still (Instr.sliceAt t x a b c):=by
  unfold Instr.sliceAt
  repeat' (first | exact still_pure _ | exact (never_stuck _).still | exact still_under _ | exact still_sbs _ _ _ _ _ _ | exact still_size _ | exact still_sure _ | exact still_slice _ _ _ _ _ | (refine still_bind ?_ fun _ => ?_) | split | dsimp only)

theorem still_asBool (v:Value) : Still (asBool v):=by
  unfold asBool
  split <;> first | exact still_pure _ | exact (never_stuck _).still
theorem still_indexAt (t:TypeId) (x i:Value) : Still (Instr.indexAt t x i):=by
  unfold Instr.indexAt
  repeat' (first | exact still_pure _ | exact (never_stuck _).still | exact (never_unsup _).still | exact (never_bp _ _ _ _).still | exact still_under _ | exact still_size _ | exact still_sure _ | exact still_asIntOf _ | (refine still_bind ?_ fun _ => ?_) | split | dsimp only)

theorem still_op (ev:Operand→Value) (o:Oper) (h:kindM o.op=true) : Still (execOp ev o):=by
  unfold kindM at h
  split at h
  · rename_i x hx
    simp only [execOp,hx]
    exact still_pure _
  · rename_i t x a b c hx
    simp only [execOp,hx]
    exact still_bind (still_sliceAt _ _ _ _ _) fun _=>still_pure _
  · rename_i x hx
    simp only [execOp,hx]
    exact still_pure _
  · rename_i c x y hx
    simp only [execOp,hx]
    refine still_bind (still_asBool _) fun _ => ?_
    split <;> exact still_pure _
  · rename_i t x i hx
    simp only [execOp,hx]
    exact still_bind (still_indexAt _ _ _) fun _=>still_pure _
  · cases h

variable {P:Program} {ops:Array Oper} {Q:Exit→Act→World→Prop}

def YieldsM (P:Program) (ops:Array Oper) (o:Oper) (v:Value) (a:Act) : Prop :=
  (Region.wanted o (yielded ops a.tmps)=true∧∀ w',(execOp a.eval o).run P w'=.ok (.value v) w') ∨
  (Region.wanted o (yielded ops a.tmps)=false∧v=undef)

theorem YieldsK.toM {w:World} {o:Oper} {v:Value} {a:Act} (h:YieldsK P ops w o v a) (hk:kindM o.op=true) : YieldsM P ops o v a :=
  h.imp (fun ⟨h1,h2⟩=>⟨h1,(still_op a.eval o hk P w _ _ (h2 w (Keep.refl w))).2⟩) id

theorem YieldsM.wpOp {i:Nat} {o:Oper} {v:Value} {a:Act} {w:World} (hi:ops[i]? = some o) (hy:YieldsM P ops o v a) {K:Act→World→Prop} (h:K (a.put o.dst v) w) : wpOp P ops Q i K a w:=by
  unfold Go.wpOp
  simp only [hi]
  rcases hy with ⟨hw,hv⟩ | ⟨hw,rfl⟩
  · simp only [hw,if_true,Oper.wp,hv w,Oper.upon]; exact .inl h
  · simp only [hw,Bool.false_eq_true,if_false]; exact h

theorem YieldsM.of_same {o:Oper} {v:Value} {a a':Act} (hy:YieldsM P ops o v a) (he:execOp a'.eval o=execOp a.eval o)
    (hw:Region.wanted o (yielded ops a'.tmps)=Region.wanted o (yielded ops a.tmps)) : YieldsM P ops o v a':=by
  unfold YieldsM at *
  rw [he,hw]
  exact hy

theorem wpOp_putM {j:Nat} {oi oj:Oper} {v:Value} (hj:ops[j]? = some oj) (hap:oi.apart ops oj=true)
    (hsi:∀ cs b,oi.op≠.select cs b) (hsj:∀ cs b,oj.op≠.select cs b)
    (hQ:∀ c a w,Q (.panic c) (a.put oi.dst v) w→Q (.panic c) a w) {K:Act→World→Prop} {a:Act} {w:World}
    (hy:YieldsM P ops oi v a) (h:wpOp P ops Q j K (a.put oi.dst v) w) :
    wpOp P ops Q j (fun a' w'=>YieldsM P ops oi v a'∧K (a'.put oi.dst v) w') a w:=by
  obtain ⟨h1,h2,h3⟩:=Oper.apart_spec hap
  have keep:∀ (a:Act),YieldsM P ops oi v a→∀ u,YieldsM P ops oi v (a.put oj.dst u):=fun a hy u =>
    hy.of_same (execOp_put oi hsi a oj.dst u h3) (wanted_put oi a oj.dst u h3)
  have keepD:∀ d,YieldsM P ops oi v { a with defers:=d::a.defers }:=fun d=>hy.of_same rfl rfl
  unfold wpOp at *
  simp only [hj] at *
  rw [wanted_put oj a oi.dst v h1] at h
  split
  · rename_i hw
    simp only [hw,if_true] at h
    rcases h with h | ⟨hasks,hlets⟩
    case inr=>exact .inr ⟨by unfold Oper.asks at *; rw [execOp_put oj hsj a oi.dst v h1] at hasks; exact hasks,hlets⟩
    refine .inl ?_
    unfold Oper.wp at *
    rw [execOp_put oj hsj a oi.dst v h1] at h
    generalize (execOp a.eval oj).run P w=r at *
    cases r with
    | ok n w' =>
      cases n <;> simp only [Oper.upon] at h ⊢
      case value u=>exact ⟨keep a hy u,by rw [← Act.put_comm a v u h2]; exact h⟩
      case skip=>exact ⟨keep a hy _,by rw [← Act.put_comm a v undef h2]; exact h⟩
      case defer d =>
        refine ⟨keep _ (keepD d) _,?_⟩
        rw [← Act.put_comm _ v undef h2,← Act.put_defers]
        exact h
      case enter f args =>
        refine Calls.mono h fun e w'' he => ?_
        cases e with
        | returned u=>exact ⟨keep a hy u,by rw [← Act.put_comm a v u h2]; exact he⟩
        | panicked c=>exact hQ _ _ _ he
        | outgrown=>exact he
      case row row args=>exact Rows.mono h fun u w'' he=>⟨keep a hy u,by rw [← Act.put_comm a v u h2]; exact he⟩
    | halt x w' =>
      cases x <;> simp only [Oper.upon] at h ⊢
      case panic u=>exact hQ _ _ _ h
  · rename_i hw
    simp only [hw] at h
    exact ⟨keep a hy _,by rw [← Act.put_comm a v undef h2]; exact h⟩

theorem wpAnyT_firstM {i:Nat} {oi:Oper} {v:Value} (S:List Nat) (hi:ops[i]? = some oi) (hsel:∀ (j:Nat) (o:Oper) cs b,ops[j]? = some o→o.op≠.select cs b)
    (hQ:∀ c a w,Q (.panic c) (a.put oi.dst v) w→Q (.panic c) a w) :
    ∀ (fuel:Nat) (listed:Array Bool) (a:Act) (w:World),
      (∀ j oj,ops[j]? = some oj→j≠i→listed.getD j true=false→j ∉ S→oi.apart ops oj=true) →
      (∀ j,j∈S→listed.getD j true=false∧∃ oj e,ops[j]? = some oj∧e∈oj.after∧Region.binds .any e=true∧(e.on=i∨e.on∈S)) →
      i∈Region.ready .any ops listed→YieldsM P ops oi v a →
      wpAnyT P ops Q fuel (listed.setIfInBounds i true) (a.put oi.dst v) w→wpAnyT P ops Q (fuel+1) listed a w:=by
  intro fuel
  induction fuel with
  | zero =>
    intro listed a w _ _ hr hy H
    refine ⟨fun h=>(by rw [h] at hr; cases hr),fun j hj => ?_⟩
    by_cases hji:j=i
    · subst hji; exact hy.wpOp hi ⟨.inr (Keep.refl w),H⟩
    · have:=ready_mono hj hji
      rw [H.1] at this
      cases this
  | succ fuel ih =>
    intro listed a w hfree hS hr hy H
    refine ⟨fun h=>(by rw [h] at hr; cases hr),fun j hj => ?_⟩
    by_cases hji:j=i
    · subst hji; exact hy.wpOp hi ⟨.inr (Keep.refl w),H⟩
    · have h1:=H.2 j (ready_mono hj hji)
      obtain ⟨hjun,oj,hoj,hall⟩:=mem_ready.1 hj
      have notOn:∀ k,listed.getD k true=false→∀ e∈oj.after,Region.binds .any e=true→e.on≠k:=fun k h0 e he hb heq=>by
        have h1:=hall e he hb
        rw [heq] at h1
        rcases Nat.lt_or_ge k listed.size with h' | h'
        · simp [h'] at h0 h1; rw [h0] at h1; cases h1
        · simp [Array.getElem?_eq_none h'] at h1
      have hjS:j ∉ S:=fun hjS=>by
        obtain ⟨_,ok,e,hok,he,hb,hon⟩:=hS j hjS
        rw [hoj] at hok
        cases hok
        rcases hon with hon | hon
        · exact notOn i (mem_ready.1 hr).1 e he hb hon
        · exact notOn e.on (hS _ hon).1 e he hb rfl
      have hap:=hfree j oj hoj hji hjun hjS
      have h2:=wpOp_putM hoj hap (fun cs b=>hsel i oi cs b hi) (fun cs b=>hsel j oj cs b hoj) hQ hy h1
      have hfree':∀ k ok,ops[k]? = some ok→k≠i→(listed.setIfInBounds j true).getD k true=false→k ∉ S→oi.apart ops ok=true:=fun k ok hk hki hun hno=>by
        refine hfree k ok hk hki ?_ hno
        by_cases hjk:j=k
        · subst hjk; exact hjun
        · rw [getD_set_ne true hjk] at hun; exact hun
      have hS':∀ k,k∈S→(listed.setIfInBounds j true).getD k true=false∧∃ oj e,ops[k]? = some oj∧e∈oj.after∧Region.binds .any e=true∧(e.on=i∨e.on∈S):=fun k hk=>by
        obtain ⟨q1,q2⟩:=hS k hk
        have hjk:j≠k:=fun e=>hjS (e ▸ hk)
        exact ⟨by rw [getD_set_ne true hjk]; exact q1,q2⟩
      refine wpOp_mono (fun a' w' h3 => ?_) h2
      obtain ⟨g1,g2,g3⟩:=h3
      refine ⟨g2,ih (listed.setIfInBounds j true) a' w' hfree' hS' (ready_mono hr (Ne.symm hji)) g1 ?_⟩
      rw [Array.setIfInBounds_comm _ _ hji]
      exact g3

def freeM (ops:Array Oper) (listed:Array Bool) (i:Nat) (S:List Nat) : Bool :=
  match ops[i]? with
  | none=>false
  | some oi=>kindM oi.op&&(List.range ops.size).all fun j=>match ops[j]? with
    | none=>true
    | some oj=>j==i||listed.getD j true||S.contains j||oi.apart ops oj
def freeZ (ops:Array Oper) (listed:Array Bool) (i:Nat) : Bool:=freeT ops listed i||freeM ops listed i (blkd ops listed i (List.range ops.size) [])

theorem free_firstZ {i:Nat} {oi:Oper} {v:Value} (hi:ops[i]? = some oi) (hsel:∀ (j:Nat) (o:Oper) cs b,ops[j]? = some o→o.op≠.select cs b)
    (hQ:∀ c a w,Q (.panic c) (a.put oi.dst v) w→Q (.panic c) a w) (fuel:Nat) (listed:Array Bool) (a:Act) (w:World) (h:freeZ ops listed i=true) (hr:i∈Region.ready .any ops listed) (hy:YieldsK P ops w oi v a)
    (H:wpAnyT P ops Q fuel (listed.setIfInBounds i true) (a.put oi.dst v) w) : wpAnyT P ops Q (fuel+1) listed a w:=by
  unfold freeZ at h
  rw [Bool.or_eq_true] at h
  rcases h with h | h
  · exact free_first hi hsel hQ fuel listed a w h hr hy H
  · generalize hS:blkd ops listed i (List.range ops.size) []=S at h
    have hb:=blkd_spec (ops:=ops) (listed:=listed) (i:=i) (List.range ops.size) [] (fun k hk=>by cases hk)
    rw [hS] at hb
    unfold freeM at h
    rw [hi] at h
    simp only [Bool.and_eq_true] at h
    refine wpAnyT_firstM S hi hsel hQ fuel listed a w (fun j oj hj hji hun hno => ?_) hb hr (hy.toM h.1) H
    have hlt:j<ops.size:=(Array.getElem?_eq_some_iff.1 hj).1
    have:=List.all_eq_true.1 h.2 j (List.mem_range.2 hlt)
    rw [hj] at this
    simp only [Bool.or_eq_true,beq_iff_eq,List.contains_iff_mem] at this
    rcases this with ((h1 | h1) | h1) | h1
    · exact absurd h1 hji
    · rw [hun] at h1; cases h1
    · exact absurd h1 hno
    · exact h1

def preOkM (ops:Array Oper) : List Nat→Array Bool→Bool
  | [],_=>true
  | i::r,listed =>
    (match ops[i]? with
     | none=>false
     | some o=>if kindQ o.op then (Region.ready .any ops listed).contains i&&freeZ ops listed i else Region.ready .any ops listed==[i])&&preOkM ops r (listed.setIfInBounds i true)

theorem preM_sound {B:Base} {n m:Nat} (hd:dstsOk n ops=true) (hsel:Region.noSelect ops=true) (hQ:∀ c a w,¬ Q (.panic c) a w) : ∀ (l:List Nat) (listed:Array Bool) (s:St) (a:Act) (w:World) (E:Env) (F:Nat→Prop) (K:St→Prop),a.tmps.size=n→Sim B s a w E F →
    OpsVC P B.keep ops (l.filterMap (ops[·]?)) s K→preOkM ops l listed=true →
    (∀ a' w' s' E' F',K s'→Sim B s' a' w' E' F'→a'.tmps.size=n→∀ fuel,m≤fuel→wpAnyT P ops Q fuel (setAll l listed) a' w')→∀ fuel,l.length+m≤fuel→wpAnyT P ops Q fuel listed a w
  | [],listed,s,a,w,E,F,K,hn,hs,h,hok,hq,fuel,hf=>hq a w s E F h hs hn fuel (by simpa using hf)
  | i::l,listed,s,a,w,E,F,K,hn,hs,h,hok,hq,0,hf=>by simp at hf
  | i::l,listed,s,a,w,E,F,K,hn,hs,h,hok,hq,fuel+1,hf=>by
    simp only [preOkM,Bool.and_eq_true] at hok
    obtain ⟨hok,hrest⟩:=hok
    split at hok
    · cases hok
    rename_i o ho
    simp only [List.filterMap_cons,ho,OpsVC] at h
    have ih:=fun s a w E F hn hs h=>preM_sound hd hsel hQ l (listed.setIfInBounds i true) s a w E F K hn hs h hrest hq fuel (by simp at hf; omega)
    rcases op_sound (Q:=Q) hs (fun d hd'=>by rw [hn]; exact dstsOk_spec hd ho d hd') h with ⟨v,s',hK,hs',hw⟩ | ⟨hnq,hw⟩
    · have ih':=ih s' _ w E F (by rw [size_put]; exact hn) hs' hK
      have hy:YieldsK P ops w o v a:=hw
      split at hok
      · simp only [Bool.and_eq_true] at hok
        exact free_firstZ ho (noSel hsel) (fun c a w hh=>absurd hh (hQ c _ w)) fuel listed a w hok.2 (by simpa using hok.1) hy ih'
      · have hr:Region.ready .any ops listed=[i]:=by simpa using hok
        refine ⟨(fun h0=>by rw [hr] at h0; cases h0),fun j hj => ?_⟩
        rw [hr] at hj
        simp at hj
        subst hj
        exact hy.wpOp ho ⟨.inr (Keep.refl w),ih'⟩
    · rw [hnq] at hok
      have hr:Region.ready .any ops listed=[i]:=by simpa using hok
      refine ⟨(fun h0=>by rw [hr] at h0; cases h0),fun j hj => ?_⟩
      rw [hr] at hj
      simp at hj
      subst hj
      unfold wpOp
      simp only [ho]
      rcases hw with ⟨hw,hwp⟩ | ⟨hw,s',F',hK,hs'⟩
      · rw [hw,if_pos rfl]
        refine .inl (Oper.wp_mono (fun a' w' ⟨hkt,v,s',E',F',ha,hK,hs'⟩ => ?_) hwp)
        subst ha
        exact ⟨by simpa [ho] using hkt,ih s' _ w' E' F' (by rw [size_put]; exact hn) hs' hK⟩
      · rw [hw]
        exact ⟨.inr (Keep.refl w),ih s' _ w E F' (by rw [size_put]; exact hn) hs' hK⟩

theorem awpF_drawM {kp:List Nat} {n:Nat} {s:St} {Q:Exit→St→Prop} {id:Nat} (pre l:List Nat) (d:DT) (hm:P.follows .mixedOrders=true)
    (hc:(Region.noSelect ops&&preOkM ops pre (Array.replicate ops.size false)&&parSyn ops l&&consP ops l (setAll pre (Array.replicate ops.size false))&&parChk ops l l (setAll pre (Array.replicate ops.size false)) false&&d.ok ops true (setAll l (setAll pre (Array.replicate ops.size false))))=true) (hl:Nat.ble (pre.length+(l.length+d.depth)) ops.size=true)
    (h:∀ K:St→Prop,(∀ t,Q .normal t→K t)→contRun P kp ops (.vc (pre.filterMap (ops[·]?))) s (ParAt P kp ops l d K)) : AWP P kp n (.region id ops true) s Q:=by
  intro hok B a w E F h1 h2 h3
  subst h1
  simp only [Bool.and_eq_true] at hc
  obtain ⟨⟨⟨⟨⟨c1,c2⟩,c3⟩,c6⟩,c4⟩,c5⟩:=hc
  have hQ:∀ c a w,¬ (fun e a' w'=>(∀ ch,e≠.panic ch)∧e≠.outgrown∧∃ s' E' F',Q e s'∧Sim B s' a' w' E' F'∧a'.tmps.size=n) (.panic c) a w:=fun c a w hh=>hh.1 c rfl
  refine wp_region_any hm (wpAny_of_T _ _ _ _ (preM_sound (ops:=ops) (n:=n) (m:=l.length+d.depth) hok c1 hQ pre _ s a _ E F _ h2 h3.drew (h _ fun t ht=>ht) c2 ?_ _ (Nat.le_of_ble_eq_true hl)))
  rintro a1 w1 s1 E1 F1 ⟨hb1,hb2,hpar⟩ hs1 hn1 fuel hf
  simp only [parSyn,Bool.and_eq_true,decide_eq_true_eq,List.all_eq_true] at c3
  obtain ⟨⟨n1,n2⟩,c3⟩:=c3
  have hsyn:∀ i,i∈l→∃ o,ops[i]? = some o∧o.guard=none∧∀ c,o.op=.call c→valCall c=true:=fun i hi=>by
    have:=c3 i hi
    cases ho:ops[i]? with
    | none=>rw [ho] at this; cases this
    | some o =>
      rw [ho] at this
      simp only [Bool.and_eq_true,Option.isNone_iff_eq_none] at this
      refine ⟨o,rfl,this.1,fun c hc => ?_⟩
      have:=this.2
      rw [hc] at this
      simp only [Bool.and_eq_true] at this
      exact this.1
  obtain ⟨its,e1,e2,e3,e4⟩:=par_items hsyn l s1 (fun _ h=>h) hpar
  have ed:its.map It.d=l.filterMap fun i=>(ops[i]?).bind (·.dst):=by
    rw [← e1]
    clear e1 e3 e4 hpar
    induction its with
    | nil=>rfl
    | cons x r ih =>
      obtain ⟨o,ho,_,hd,_⟩:=e2 x (by simp)
      rw [List.map_cons,List.map_cons,List.filterMap_cons]
      simp only [ho,Option.bind_some,hd]
      rw [ih fun y hy=>e2 y (by simp [hy])]
  have hdep:DepOk ops its:=by
    intro it hit o c ho hc t ht y hy
    have:=c3 it.i (by rw [← e1]; exact List.mem_map_of_mem hit)
    rw [ho] at this
    simp only [hc,Bool.and_eq_true,List.all_eq_true] at this
    have:=this.2.2 _ ht
    simp only [Bool.not_eq_true',List.contains_eq_mem,decide_eq_false_iff_not] at this
    intro e
    refine this ?_
    rw [← ed,← e]
    exact List.mem_map_of_mem hy
  have hk:∀ i,i∈B.keep→i<s1.heap.length:=fun i hi=>by
    obtain ⟨e,h1,_⟩:=hs1.rel.keep i hi
    rw [← hs1.rel.hr.len]
    exact (List.getElem?_eq_some_iff.1 h1).1
  have hfl:(its.filter fun it=>(fun _=>true) it.i).length=l.length:=by
    rw [List.filter_eq_self.2 fun _ _=>rfl,← e1,List.length_map]
  have:=par_sound (P:=P) (B:=B) (m:=d.depth) hok (by rw [e1]; exact n1) (by rw [ed]; exact n2) e2 e3 hb1 hb2 hk hdep _ (by rw [e1]; exact c4) (Q:=fun e a' w'=>(∀ ch,e≠.panic ch)∧e≠.outgrown∧∃ s' E' F',Q e s'∧Sim B s' a' w' E' F'∧a'.tmps.size=n)
    (fun a w E F hs hn fuel hf=>draw_soundT (ops:=ops) (n:=n) hok c1 hQ d.depth d (Nat.le_refl _) _ _ a w E F (fun t=>Q .normal t) hn hs e4 (by rw [e1]; exact c5) (fun a' w' s' E' F' hK hs hn=>⟨by simp,by simp,s',E',F',hK,hs,hn⟩) fuel hf)
    l.length (fun _=>true) hfl (by rw [show ((its.map It.i).filter fun i => !((fun _=>true) i))=[] by simp,e1]; exact c6) a1 w1 _ F1 hn1 (stg_start hs1) fuel (by omega)
  rw [show ((its.map It.i).filter fun i => !((fun _=>true) i))=[] by simp] at this
  exact this

end Go.Aw

namespace Go.Aw
set_option linter.unusedSimpArgs false
set_option linter.unusedVariables false
open Go.RowKit

variable {P:Program}

theorem opsC_sound {ops:Array Oper} {Q:Exit→Act→World→Prop} {B:Base} {n:Nat} (hd:dstsOk n ops=true) (rest:List Nat) : ∀ (l:List (Oper × Nat)) (s:St) (a:Act) (w:World) (E:Env) (F:Nat→Prop) (K:St→Prop),a.tmps.size=n→Sim B s a w E F →
    OpsVC P B.keep ops (l.map (·.1)) s K→(∀ p,p∈l→ops[p.2]? = some p.1) →
    (∀ a' w' s' E' F',K s'→Sim B s' a' w' E' F'→a'.tmps.size=n→wpOps P ops Q rest a' w')→wpOps P ops Q (l.map (·.2)++rest) a w
  | [],s,a,w,E,F,K,hn,hs,h,_,hq=>hq a w s E F h hs hn
  | (o,i)::l,s,a,w,E,F,K,hn,hs,h,hl,hq=>by
    have ho:ops[i]? = some o:=hl (o,i) (by simp)
    have ih:=fun s a w E F hn hs h=>opsC_sound (Q:=Q) hd rest l s a w E F K hn hs h (fun p hp=>hl p (by simp [hp])) hq
    have hdd:∀ d,o.dst=some d→d<a.tmps.size:=fun d hd'=>by rw [hn]; exact dstsOk_spec hd ho d hd'
    simp only [List.map_cons,List.cons_append,wpOps,ho]
    simp only [List.map_cons,OpsVC] at h
    rcases op_sound (Q:=Q) hs hdd h with ⟨v,s',hK,hs',hw⟩ | ⟨_,hw⟩
    · have ih':=ih s' _ w E F (by rw [size_put]; exact hn) hs' hK
      rcases hw with ⟨hw,hrun⟩ | ⟨hw,rfl⟩
      · rw [hw,if_pos rfl]
        refine .inl ?_
        unfold Oper.wp
        rw [hrun w (Keep.refl w)]
        exact ih'
      · rw [hw]
        exact ih'
    · rcases hw with ⟨hw,hwp⟩ | ⟨hw,s',F',hK,hs'⟩
      · rw [hw,if_pos rfl]
        exact .inl (Oper.wp_mono (fun a' w' ⟨_,v,s',E',F',ha,hK,hs'⟩=>by subst ha; exact ih s' _ w' E' F' (by rw [size_put]; exact hn) hs' hK) hwp)
      · rw [hw]
        exact ih s' _ w E F' (by rw [size_put]; exact hn) hs' hK
theorem Rel.trans {B:Base} {s1 s2:St} {w1 w2:World} {E1 E2:Env} {F1 F2:Nat→Prop} {kp:List Nat} {ds:List Deferred} (h1:Rel B s1 E1 F1 w1) (h2:Rel ⟨w1,F1,own E1 s1.heap,E1,kp,ds⟩ s2 E2 F2 w2) (hk:∀ i,i∈B.keep→i∈kp) :
    Rel B s2 E2 F2 w2:=by
  have hown:∀ b,own E1 s1.heap b→B.w0.heap.size≤b∨B.own b:=fun b ⟨id,e,blk,q1,q2,q3,q4⟩=>h1.src id b e blk q1 q2 q3 q4
  refine ⟨h2.os.trans h1.os,h2.tape.trans h1.tape,h2.output.trans h1.output,Nat.le_trans h1.size h2.size,fun b hb=>h2.F0 b (h1.F0 b hb),fun b hb => ?_,fun b q1 q2 => ?_,h2.lt,h2.hr,fun id b e blk q1 q2 q3 q4 => ?_,fun i hi => ?_,fun b n h=>h2.sz b n (h1.sz b n h)⟩
  · rcases h2.only b hb with h | h | h
    · exact h1.only b h
    · exact .inr (.inl (Nat.le_trans h1.size h))
    · exact .inr (hown b h)
  · refine (h2.same b (Nat.lt_of_lt_of_le q1 h1.size) fun h => ?_).trans (h1.same b q1 q2)
    rcases hown b h with h | h
    · omega
    · exact q2 h
  · rcases h2.src id b e blk q1 q2 q3 q4 with h | h
    · exact .inl (Nat.le_trans h1.size h)
    · exact hown b h
  · obtain ⟨e,q1,q2⟩:=h1.keep i hi
    obtain ⟨e',q3,q4⟩:=h2.keep i (hk i hi)
    dsimp only at q4
    rw [q1] at q4
    cases q4
    exact ⟨e,q3,q2⟩
structure Grow (X:Nat→Prop) (W W':World) : Prop where
  os:W'.os=W.os
  tape:W'.tape=W.tape
  later:Later W W'
  size:W.heap.size≤W'.heap.size
  same:∀ b,b<W.heap.size→¬ X b→W'.heap[b]? = W.heap[b]?
  sz:∀ b n,Sz W b n→Sz W' b n
theorem Grow.refl (X:Nat→Prop) (W:World) : Grow X W W:=⟨rfl,rfl,.refl _,Nat.le_refl _,fun _ _ _=>rfl,fun _ _ h=>h⟩
theorem Grow.trans {X:Nat→Prop} {A B C:World} (h1:Grow X A B) (h2:Grow X B C) : Grow X A C :=
  ⟨h2.os.trans h1.os,h2.tape.trans h1.tape,h2.later.trans h1.later,Nat.le_trans h1.size h2.size,fun b hb hX=>(h2.same b (Nat.lt_of_lt_of_le hb h1.size) hX).trans (h1.same b hb hX),fun b n h=>h2.sz b n (h1.sz b n h)⟩
theorem Grow.mono {X Y:Nat→Prop} {A B:World} (h:Grow X A B) (hXY:∀ b,X b→Y b) : Grow Y A B:=⟨h.os,h.tape,h.later,h.size,fun b hb hY=>h.same b hb fun hX=>hY (hXY b hX),h.sz⟩
theorem Grow.alloc (X:Nat→Prop) (W:World) (o:Obj) : Grow X W (W.alloc o) :=
  ⟨rfl,rfl,⟨rfl⟩,by simp,fun b hb _=>Below.heap_alloc W o b hb,fun b n ⟨cs,t,h1,h2⟩=>⟨cs,t,(Below.heap_alloc W o b (Array.getElem?_eq_some_iff.1 h1).1).trans h1,h2⟩⟩
theorem Rel.grow {B:Base} {s:St} {E:Env} {F:Nat→Prop} {w:World} (h:Rel B s E F w) : Grow B.own B.w0 w:=⟨h.os,h.tape,h.output,h.size,h.same,h.sz⟩
end Go.Aw

namespace Go.Aw
set_option linter.unusedSimpArgs false
set_option linter.unusedVariables false
open Go.RowKit

variable {P:Program}

def OpX2 (P:Program) (kp:List Nat) (ops:Array Oper) (o:Oper) (s:St) (K:St→Prop) : Prop :=
  ∀ (B:Base) (a:Act) (w:World) (E:Env) (F:Nat→Prop) (Q:Exit→Act→World→Prop),B.keep=kp→Sim B s a w E F→(∀ d,o.dst=some d→d<a.tmps.size) →
    (Region.wanted o (yielded ops a.tmps)=true∧o.wp P a w (fun a' w'=>∃ v s' E' F',a'=a.put o.dst v∧K s'∧Sim B s' a' w' E' F') Q) ∨
    (Region.wanted o (yielded ops a.tmps)=false∧∃ s',K s'∧Sim B s' (a.put o.dst undef) w E F)
section
variable {ops:Array Oper} {Q:Exit→Act→World→Prop} {T:Nat→Bool}
def freeU1 (T:Nat→Bool) (ops:Array Oper) (listed:Array Bool) (i:Nat) : Bool :=
  match ops[i]? with
  | none=>false
  | some oi=>(List.range ops.size).all fun j=>match ops[j]? with
    | none=>true
    | some oj=>j==i||listed.getD j true||(oj.after.any fun e=>Region.binds .any e&&e.on==i)||(oi.apart ops oj && !T j)

theorem freeU1_spec {listed:Array Bool} {i:Nat} {oi:Oper} (hi:ops[i]? = some oi) (h:freeU1 T ops listed i=true) :
    ∀ j oj,ops[j]? = some oj→j≠i→listed.getD j true=false→(∀ e∈oj.after,Region.binds .any e=true→e.on≠i)→oi.apart ops oj=true∧T j=false:=by
  intro j oj hj hji hun hno
  unfold freeU1 at h
  rw [hi] at h
  dsimp only at h
  have hlt:j<ops.size:=(Array.getElem?_eq_some_iff.1 hj).1
  have:=List.all_eq_true.1 h j (List.mem_range.2 hlt)
  rw [hj] at this
  simp only [Bool.or_eq_true,beq_iff_eq,Bool.and_eq_true,Bool.not_eq_true'] at this
  rcases this with ((h1 | h1) | h1) | h1
  · exact absurd h1 hji
  · rw [hun] at h1; cases h1
  · exfalso
    obtain ⟨l,hl,he⟩:=Array.any_eq_true.1 h1
    simp only [Bool.and_eq_true,beq_iff_eq] at he
    exact hno _ (Array.getElem_mem hl) he.1 he.2
  · exact h1

def freeU2 (T:Nat→Bool) (ops:Array Oper) (listed:Array Bool) (i:Nat) (S:List Nat) : Bool :=
  match ops[i]? with
  | none=>false
  | some oi=>(List.range ops.size).all fun j=>match ops[j]? with
    | none=>true
    | some oj=>j==i||listed.getD j true||S.contains j||(oi.apart ops oj && !T j)
def freeU (T:Nat→Bool) (ops:Array Oper) (listed:Array Bool) (i:Nat) : Bool:=freeU1 T ops listed i||freeU2 T ops listed i (blkd ops listed i (List.range ops.size) [])

end
end Go.Aw

namespace Go.Aw
set_option linter.unusedSimpArgs false
set_option linter.unusedVariables false
open Go.RowKit

variable {P:Program}

def From (P:Program) (kp:List Nat) (ops:Array Oper) (k:Nat) (s:St) (K:St→Prop) : Prop :=
  ∀ (n:Nat),dstsOk n ops=true→∀ (B:Base) (a:Act) (w:World) (E:Env) (F:Nat→Prop) (Q:Exit→Act→World→Prop),B.keep=kp→a.tmps.size=n→Sim B s a w E F →
    (∀ a' w' s' E' F',K s'→Sim B s' a' w' E' F'→a'.tmps.size=n→Q .normal a' w')→wpOps P ops Q (List.range' k (ops.size - k)) a w

theorem from_end {kp:List Nat} {ops:Array Oper} {k:Nat} {s:St} {K:St→Prop} (h:contRun P kp ops (.vc (ops.toList.drop k)) s K) : From P kp ops k s K:=by
  intro n hok B a w E F Q h1 hn hs hq
  subst h1
  have hl:((ops.toList.drop k).zipIdx k).map (·.2)=List.range' k (ops.size - k):=by
    rw [List.zipIdx_map_snd,List.length_drop,Array.length_toList]
  have hm:∀ p:Oper × Nat,p∈(ops.toList.drop k).zipIdx k→ops[p.2]? = some p.1:=fun ⟨x,j⟩ hp=>by
    obtain ⟨q1,q2⟩:=List.mk_mem_zipIdx_iff_le_and_getElem?_sub.1 hp
    rw [List.getElem?_drop,show k+(j - k)=j by omega] at q2
    simpa using q2
  rw [← hl]
  have:=opsC_sound (P:=P) (Q:=Q) (n:=n) hok [] ((ops.toList.drop k).zipIdx k) s a w E F K hn hs (by rw [List.zipIdx_map_fst]; exact h) hm fun a' w' s' E' F' q1 q2 q3=>hq a' w' s' E' F' q1 q2 q3
  simpa using this
theorem from_X {kp:List Nat} {ops:Array Oper} {k:Nat} {s:St} {K:St→Prop} (i:Nat) {o:Oper} (ho:ops.toList[i]? = some o) (hki:Nat.ble k i=true)
    (h:contRun P kp ops (.vc ((ops.toList.take i).drop k)) s fun t=>OpX2 P kp ops o t fun u=>From P kp ops (i+1) u K) : From P kp ops k s K:=by
  intro n hok B a w E F Q h1 hn hs hq
  subst h1
  have hki:=Nat.le_of_ble_eq_true hki
  have hi:i<ops.size:=by have:=(List.getElem?_eq_some_iff.1 ho).1; simpa using this
  have hoi:ops[i]? = some o:=by simpa using ho
  have hl:(((ops.toList.take i).drop k).zipIdx k).map (·.2)=List.range' k (i - k):=by
    rw [List.zipIdx_map_snd,List.length_drop,List.length_take,Array.length_toList]
    congr 1
    omega
  have hm:∀ p:Oper × Nat,p∈((ops.toList.take i).drop k).zipIdx k→ops[p.2]? = some p.1:=fun ⟨x,j⟩ hp=>by
    obtain ⟨q1,q2⟩:=List.mk_mem_zipIdx_iff_le_and_getElem?_sub.1 hp
    rw [List.getElem?_drop,show k+(j - k)=j by omega,List.getElem?_take] at q2
    split at q2
    · simpa using q2
    · cases q2
  have hr:List.range' k (ops.size - k)=List.range' k (i - k)++i::List.range' (i+1) (ops.size - (i+1)):=by
    have e1:=List.range'_append_1 (s:=k) (m:=i - k) (n:=ops.size - i)
    rw [show k+(i - k)=i by omega,show i - k+(ops.size - i)=ops.size - k by omega] at e1
    rw [← e1]
    congr 1
    obtain ⟨m,hm⟩ : ∃ m,ops.size - i=m+1:=⟨ops.size - i - 1,by omega⟩
    rw [hm,List.range'_succ,show ops.size - (i+1)=m by omega]
  rw [hr,← hl]
  refine opsC_sound (n:=n) hok _ _ s a w E F (fun t=>OpX2 P B.keep ops o t fun u=>From P B.keep ops (i+1) u K) hn hs (by rw [List.zipIdx_map_fst]; exact h) hm ?_
  intro a1 w1 s1 E1 F1 hK hs1 hn1
  have hdd:∀ d,o.dst=some d→d<a1.tmps.size:=fun d hd'=>by rw [hn1]; exact dstsOk_spec hok hoi d hd'
  simp only [wpOps,hoi]
  rcases hK B a1 w1 E1 F1 _ rfl hs1 hdd with ⟨hw,hwp⟩ | ⟨hw,s',hK',hs'⟩
  · rw [hw,if_pos rfl]
    exact .inl (Oper.wp_mono (fun a2 w2 ⟨v,s2,E2,F2,ha,hK2,hs2⟩=>by subst ha; exact hK2 n hok B _ w2 E2 F2 Q rfl (by rw [size_put]; exact hn1) hs2 hq) hwp)
  · rw [hw]
    exact hK' n hok B _ w1 E1 F1 Q rfl (by rw [size_put]; exact hn1) hs' hq
theorem awp_regionF {kp:List Nat} {n:Nat} {s:St} {Q:Exit→St→Prop} {id:Nat} {ops:Array Oper} (h:∀ K:St→Prop,(∀ t,Q .normal t→K t)→From P kp ops 0 s K) : AWP P kp n (.region id ops false) s Q:=by
  intro hok B a w E F h1 h2 h3
  refine wp_region ?_
  have:=h (fun t=>Q .normal t) (fun t ht=>ht) n hok B a w E F (fun e a' w'=>(∀ ch,e≠.panic ch)∧e≠.outgrown∧∃ s' E' F',Q e s'∧Sim B s' a' w' E' F'∧a'.tmps.size=n) h1 h2 h3
    fun a' w' s' E' F' q1 q2 q3=>⟨by simp,by simp,s',E',F',q1,q2,q3⟩
  rwa [List.range_eq_range']
theorem hasL_mem2 {i:Nat} : ∀ {l:List V},V.hasL i l=true→∃ x,x∈l∧V.has i x=true
  | [],h=>by simp [V.hasL] at h
  | y::l,h=>by
    simp only [V.hasL,Bool.or_eq_true] at h
    rcases h with h | h
    · exact ⟨y,by simp,h⟩
    · obtain ⟨x,h1,h2⟩:=hasL_mem2 h
      exact ⟨x,by simp [h1],h2⟩
theorem belL_has {n i:Nat} {l:List V} (hb:V.belL n l=true) (h:V.hasL i l=true) : i<n:=by
  obtain ⟨x,h1,h2⟩:=hasL_mem2 h
  exact bel_has n x (belL_mem hb h1) i h2
theorem hasLL_mem2 {i:Nat} : ∀ {l:List (List V)},V.hasLL i l=true→∃ x,x∈l∧V.hasL i x=true
  | [],h=>by simp [V.hasLL] at h
  | y::l,h=>by
    simp only [V.hasLL,Bool.or_eq_true] at h
    rcases h with h | h
    · exact ⟨y,by simp,h⟩
    · obtain ⟨x,h1,h2⟩:=hasLL_mem2 h
      exact ⟨x,by simp [h1],h2⟩
theorem hasM_mem2 {i:Nat} : ∀ {l:List (V × V)},V.hasM i l=true→∃ p,p∈l∧(V.has i p.1=true∨V.has i p.2=true)
  | [],h=>by simp [V.hasM] at h
  | y::l,h=>by
    simp only [V.hasM,Bool.or_eq_true] at h
    rcases h with h | h
    · exact ⟨y,by simp,h⟩
    · obtain ⟨x,h1,h2⟩:=hasM_mem2 h
      exact ⟨x,by simp [h1],h2⟩
theorem blk_bel_has {n i:Nat} {b:Blk} (hb:b.bel n=true) (h:Blk.has i b=true) : i<n:=by
  cases b with
  | gone=>simp [Blk.has] at h
  | data k rows=>simp [Blk.has] at h
  | cells xs=>exact belL_has hb h
  | vrs k rs =>
    obtain ⟨r,h1,h2⟩:=hasLL_mem2 h
    exact belL_has (List.all_eq_true.1 hb r h1) h2
  | mp es =>
    obtain ⟨p,h1,h2⟩:=hasM_mem2 h
    have:=List.all_eq_true.1 hb p h1
    simp only [Bool.and_eq_true] at this
    rcases h2 with h2 | h2
    · exact bel_has n _ this.1 i h2
    · exact bel_has n _ this.2 i h2
  | it y seen m=>exact bel_has n _ hb i h
end Go.Aw

namespace Go.Aw
set_option linter.unusedSimpArgs false
set_option linter.unusedVariables false
open Go.RowKit
variable {P:Program}

theorem OpX2.grd {kp:List Nat} {ops:Array Oper} {o:Oper} {s:St} {K:St→Prop} (hg:s.guardOf ops o=some true) (h:OpX2 P kp ops { o with guard:=none } s K) : OpX2 P kp ops o s K:=by
  intro B a w E F Q h1 hs hd
  rcases h B a w E F Q h1 hs hd with ⟨_,h2⟩ | ⟨h2,_⟩
  · exact .inl ⟨guardOf_sound hs hg,h2⟩
  · exact absurd h2 (by simp [Region.wanted])
theorem OpX2.off {kp:List Nat} {ops:Array Oper} {o:Oper} {s:St} {K:St→Prop} (x:V) (hg:s.guardOf ops o=some false) (hK:K (s.put o.dst (.opt false x))) : OpX2 P kp ops o s K:=by
  intro B a w E F Q h1 hs hd
  exact .inr ⟨guardOf_sound hs hg,_,hK,hs.put (.opt false x undef (fun h=>by cases h) fun _=>rfl) hd⟩

theorem AC.cut {f:FuncId} {args:List V} {H:List Blk} {kp:List Nat} {R R':V→List Blk→Prop} (h:AC P f args H kp R)
    (hR:∀ x H',R x H'→∃ H1 G,H'=H1++G∧V.bel H1.length x=true∧belHeap H1.length H1=true∧(∀ i,i∈kp→i<H1.length)∧R' x H1) : AC P f args H kp R':=by
  refine ⟨h.1,fun w cargs E F h1 h2 h3 h4=>(h.2 w cargs E F h1 h2 h3 h4).mono ?_⟩
  rintro e w' ⟨v,x,H',E',F',q1,q2,q3,q4⟩
  obtain ⟨H1,G,rfl,hx,hb,hk,hr'⟩:=hR x H' q2
  have hEl:E'.length=H1.length+G.length:=by rw [q3.hr.len,List.length_append]
  have evoT:Evo E' F' w' (E'.take H1.length) F' w' (fun i=>i<H1.length):=⟨fun _ h=>h,fun _ _=>rfl,fun i e hi h=>by rw [List.getElem?_take_of_lt hi]; exact h,fun _ _ h=>h⟩
  have hE1:∀ (j:Nat) (e:En),(E'.take H1.length)[j]? = some e→j<H1.length∧E'[j]? = some e:=fun j e h=>by
    have hj:j<H1.length:=by have:=(List.getElem?_eq_some_iff.1 h).1; simp at this; omega
    rw [List.getElem?_take_of_lt hj] at h
    exact ⟨hj,h⟩
  have hH1:∀ (j:Nat) (b:Blk),H1[j]? = some b→(H1++G)[j]? = some b:=fun j b h=>by
    rw [List.getElem?_append_left (List.getElem?_eq_some_iff.1 h).1]
    exact h
  refine ⟨v,x,H1,E'.take H1.length,F',q1,hr',⟨q3.os,q3.tape,q3.output,q3.size,q3.F0,q3.only,q3.same,q3.lt,⟨by show (E'.take H1.length).length=H1.length; rw [List.length_take]; omega,fun id e b g1 g2 => ?_,fun id c e b g1 g2 g3 g4=>q3.hr.free id c e b (hE1 id e g1).2 g2 (hH1 id b g3) g4,fun i j c ei ej bi bj g1 g2 g3 g4 g5 g6 g7 g8=>q3.hr.inj i j c ei ej bi bj (hE1 _ _ g1).2 (hE1 _ _ g2).2 g3 g4 (hH1 _ _ g5) (hH1 _ _ g6) g7 g8⟩,
    fun id b en blk g1 g2 g3 g4=>q3.src id b en blk (hE1 id en g1).2 (hH1 id blk g2) g3 g4,fun i hi => ?_,q3.sz⟩,q4.evo evoT fun i hi=>bel_has _ x hx i hi⟩
  · refine (q3.hr.blk id e b (hE1 id e g1).2 (hH1 id b g2)).evo evoT (fun i hi => ?_) fun _ _=>rfl
    obtain ⟨j,hj⟩ : ∃ j,H1[j]? = some b:=⟨id,g2⟩
    exact blk_bel_has (belHeap_get hb j b hj) hi
  · obtain ⟨en,g1,g2⟩:=q3.keep i hi
    exact ⟨en,by rw [List.getElem?_take_of_lt (hk i hi)]; exact g1,g2⟩
end Go.Aw

namespace Go.Aw
set_option linter.unusedSimpArgs false
set_option linter.unusedVariables false
open Go.RowKit
variable {P:Program}

def kpL (H:List Blk) (mvs:List Nat) : List Nat:=(List.range H.length).filter fun i => !mvs.contains i
def jn (mvs:List Nat) (x:V) : V:=if mvs.any (fun i=>V.has i x) then .junk else x
def tmJ (mvs:List Nat) : List (Nat × V)→List (Nat × V)
  | []=>[]
  | (j,x)::r=>(j,jn mvs x)::tmJ mvs r
attribute [seval] tmJ jn List.any_cons List.any_nil
theorem tget_tmJ (mvs:List Nat) (j:Nat) : ∀ l:List (Nat × V),tget (tmJ mvs l) j=(tget l j).map (jn mvs)
  | []=>rfl
  | (k,x)::r=>by
    simp only [tmJ,tget]
    split
    · rfl
    · exact tget_tmJ mvs j r
theorem jn_VR {E E':Env} {F F':Nat→Prop} {w w':World} {mvs:List Nat} (he:Evo E F w E' F' w' (fun j=>j ∉ mvs)) {x:V} {v:Value} (hx:VR E F w x v) : VR E' F' w' (jn mvs x) v:=by
  unfold jn
  split
  · exact .junk v
  · rename_i h
    refine hx.evo he fun i hi hm=>h ?_
    rw [List.any_eq_true]
    exact ⟨i,hm,hi⟩
theorem heap_mergeL {B:Base} {s:St} {a:Act} {w w':World} {E E':Env} {F F':Nat→Prop} {H':List Blk} {mvs:List Nat} (hs:Sim B s a w E F) (hmv:∀ i,i∈mvs→i ∉ B.keep)
    (hr:Rel ⟨w,F,own E s.heap,E,kpL s.heap mvs,[]⟩ ⟨[],H'⟩ E' F' w') : Sim B ⟨tmJ mvs s.tm,H'⟩ a w' E' F':=by
  have hs':=hs.rel
  have hown:∀ b,own E s.heap b→B.w0.heap.size≤b∨B.own b:=fun b ⟨id,e,blk,h1,h2,h3,h4⟩=>hs'.src id b e blk h1 h2 h3 h4
  have hkeep:∀ (j:Nat) (e:En),j ∉ mvs→E[j]? = some e→E'[j]? = some e:=fun j e hne h=>by
    have hj:j<s.heap.length:=by rw [← hs'.hr.len]; exact (List.getElem?_eq_some_iff.1 h).1
    obtain ⟨e',h1,h2⟩:=hr.keep j (List.mem_filter.2 ⟨List.mem_range.2 hj,by simpa using hne⟩)
    dsimp only at h2
    rw [h] at h2
    cases h2
    exact h1
  have evo:Evo E F w E' F' w' (fun j=>j ∉ mvs):=⟨hr.F0,fun b hb=>hr.same b (hs'.lt b hb) (fun ⟨id,e,blk,h1,h2,h3,h4⟩=>(hs'.hr.free id b e blk h1 h4 h2 h3).2 hb),fun j e hj h=>hkeep j e hj h,hr.sz⟩
  refine ⟨⟨hr.os.trans hs'.os,hr.tape.trans hs'.tape,hr.output.trans hs'.output,Nat.le_trans hs'.size hr.size,fun b hb=>hr.F0 b (hs'.F0 b hb),fun b hb => ?_,fun b h1 h2 => ?_,hr.lt,hr.hr,fun id b e blk h1 h2 h3 h4 => ?_,fun i hi => ?_,fun b n h=>hr.sz b n (hs'.sz b n h)⟩,hs.defers,fun i x hx => ?_⟩
  · rcases hr.only b hb with h | h | h
    · exact hs'.only b h
    · exact .inr (.inl (Nat.le_trans hs'.size h))
    · exact .inr (hown b h)
  · refine (hr.same b (Nat.lt_of_lt_of_le h1 hs'.size) fun h => ?_).trans (hs'.same b h1 h2)
    rcases hown b h with h | h
    · omega
    · exact h2 h
  · rcases hr.src id b e blk h1 h2 h3 h4 with h | h
    · exact .inl (Nat.le_trans hs'.size h)
    · exact hown b h
  · obtain ⟨e,h1,h2⟩:=hs'.keep i hi
    exact ⟨e,hkeep i e (fun h=>hmv i h hi) h1,h2⟩
  · dsimp only at hx
    rw [tget_tmJ,Option.map_eq_some_iff] at hx
    obtain ⟨y,hy,rfl⟩:=hx
    obtain ⟨v,hv,h⟩:=hs.tm i y hy
    exact ⟨v,hv,jn_VR evo h⟩
theorem callT_run {B:Base} {s:St} {a:Act} {w:World} {E:Env} {F:Nat→Prop} {o:Oper} {c:Call} {p:Prop} {f:FuncId} {args:List V} (hs:Sim B s a w E F) (hc:o.op=.call c) (hT:callT s c=some (p,f,args)) (hp:p) (hcl:callable P f) :
    ∃ cargs,(execOp a.eval o).run P w=.ok (.enter f cargs) w∧CR E F w args cargs:=by
    obtain ⟨fn,hfn,hnm,hbd⟩:=hcl
    have hcf:∀ cargs,(callFunc f cargs).run P w=.ok (.enter f cargs) w:=fun cargs=>by
      simp only [callFunc,Sem.run_bind,run_program,Result.andThen_ok,hfn,hnm,hbd,Bool.false_eq_true,if_false]
      rfl
    have hrun:∃ cargs,(execOp a.eval o).run P w=.ok (.enter f cargs) w∧CR E F w args cargs:=by
      unfold callT at hT
      split at hT
      · rename_i fo hcal
        have fin:∀ (caps:List V) (cv:Array Value),a.eval fo=.func (.func f) #[] cv→cv.size=caps.length →
            (∀ (j:Nat) (x:V) (v:Value),caps[j]? = some x→cv[j]? = some v→VR E F w x v)→(stripAll s c.args.toList).1→args=(stripAll s c.args.toList).2++caps →
            ∃ cargs,(execOp a.eval o).run P w=.ok (.enter f cargs) w∧CR E F w args cargs:=by
          intro caps cv hf hcs hcr hst hargs
          subst hargs
          obtain ⟨q1,q2⟩:=stripAll_sound hs c.args.toList hst
          refine ⟨(c.args.map a.eval)++cv,?_,?_,?_⟩
          · simp [execOp,hc,resolve,hcal,hf,Deferred.ofValue,invoke,hcf]
          · simp [q1,hcs]
          · intro j x v hx hv
            rw [List.getElem?_append] at hx
            rw [Array.getElem?_append] at hv
            rw [q1] at hx
            simp only [Array.size_map,Array.length_toList] at hv hx
            split at hx
            · rename_i hj
              rw [if_pos hj] at hv
              exact q2 j x v hx (by simpa using hv)
            · rename_i hj
              rw [if_neg hj] at hv
              exact hcr _ x v hx hv
        have e0:=ev_sound hs fo
        split at hT
        · rename_i f' caps hfo
          simp only [Option.some.injEq,Prod.mk.injEq] at hT
          obtain ⟨rfl,rfl,rfl⟩:=hT
          have e1:=V.strip_sound e0 hp.1
          rw [hfo] at e1
          generalize hv:a.eval fo=v at e1
          cases e1 with
          | d _ _ hd' =>
            cases hd' with
            | fn _ _ cs hss hrr =>
              refine fin (caps.map .d) cs hv (by simpa using hss) (fun j x v hx hv => ?_) hp.2 rfl
              simp only [List.getElem?_map,Option.map_eq_some_iff] at hx
              obtain ⟨y,hy,rfl⟩:=hx
              exact .d _ _ (hrr j y v hy hv)
        · rename_i f' caps hfo
          simp only [Option.some.injEq,Prod.mk.injEq] at hT
          obtain ⟨rfl,rfl,rfl⟩:=hT
          have e1:=V.strip_sound e0 hp.1
          rw [hfo] at e1
          generalize hv:a.eval fo=v at e1
          cases e1 with
          | fn _ _ cs hss hrr=>exact fin caps cs hv hss hrr hp.2 rfl
        · cases hT
      · cases hT
    exact hrun
theorem call_V {kp:List Nat} {ops:Array Oper} {s:St} {K:St→Prop} {c:Call} {d:Option Tmp} {ty:TypeId} {ps:String} {af:Array Edge} {p:Prop} {f:FuncId} {args:List V} {R:V→List Blk→Prop} (mvs:List Nat) (hmv:∀ i,i∈mvs→i ∉ kp)
    (hT:callT s c=some (p,f,args)) (hp:p) (hac:AC P f args s.heap (kpL s.heap mvs) R) (hK:∀ x H',R x H'→K ((⟨tmJ mvs s.tm,H'⟩ : St).put d x)) :
    OpX2 P kp ops { dst:=d,op:=.call c,type:=ty,pos:=ps,after:=af,guard:=none } s K:=by
  intro B a w E F Q h1 hs hd
  subst h1
  refine .inl ⟨rfl,?_⟩
  obtain ⟨cargs,hrun,hcr⟩:=callT_run (P:=P) (o:={ dst:=d,op:=.call c,type:=ty,pos:=ps,after:=af,guard:=none }) hs rfl hT hp hac.1
  have hcalls:=hac.2 w cargs E F hs.rel.hr hs.rel.lt (fun i hi=>List.mem_range.1 (List.mem_filter.1 hi).1) hcr
  unfold Oper.wp
  rw [hrun]
  refine hcalls.mono ?_
  rintro e w' ⟨v,x,H',E',F',rfl,hR,hrel,hx⟩
  exact ⟨v,_,E',F',rfl,hK x H' hR,Sim.put (heap_mergeL hs hmv hrel) hx hd⟩

theorem vc_X {kp:List Nat} {ops:Array Oper} {o:Oper} {s:St} {K:St→Prop} (hg:o.guard=none) (h:contRun P kp ops (.vc [o]) s K) : OpX2 P kp ops o s K:=by
  intro B a w E F Q h1 hs hd
  subst h1
  have h':OpVC P B.keep ops o s K:=h
  rcases op_sound (Q:=Q) hs hd h' with ⟨v,s',hK,hs',hw⟩ | ⟨_,hw⟩
  · rcases hw with ⟨hw,hrun⟩ | ⟨hw,rfl⟩
    · refine .inl ⟨hw,?_⟩
      unfold Oper.wp
      rw [hrun w (Keep.refl w)]
      exact ⟨v,s',E,F,rfl,hK,hs'⟩
    · exact .inr ⟨hw,s',hK,hs'⟩
  · rcases hw with ⟨hw,hwp⟩ | ⟨hw,s',F',hK,hs'⟩
    · exact .inl ⟨hw,Oper.wp_mono (fun a' w' ⟨_,h⟩=>h) hwp⟩
    · simp [Region.wanted,hg] at hw
def Ord (P:Program) (kp:List Nat) (ops:Array Oper) (k:Nat) (listed:Array Bool) (s:St) (K:St→Prop) : Prop :=
  ∀ (n:Nat),dstsOk n ops=true→∀ (B:Base) (a:Act) (w:World) (E:Env) (F:Nat→Prop) (Q:Exit→Act→World→Prop),B.keep=kp→a.tmps.size=n→Sim B s a w E F →
    (∀ a' w' s' E' F',K s'→Sim B s' a' w' E' F'→a'.tmps.size=n→Q .normal a' w')→∀ fuel,k≤fuel→wpAny P .any ops Q fuel listed a w
theorem ord_end {kp:List Nat} {ops:Array Oper} {listed:Array Bool} {s:St} {K:St→Prop} (hr:Region.ready .any ops listed=[]) (h:K s) : Ord P kp ops 0 listed s K:=by
  intro n hok B a w E F Q h1 hn hs hq fuel _
  have:=hq a w s E F h hs hn
  cases fuel with
  | zero=>exact ⟨hr,this⟩
  | succ fuel=>exact ⟨fun _=>this,by rw [hr]; simp⟩
theorem ord_step {kp:List Nat} {ops:Array Oper} {k:Nat} {listed:Array Bool} {s:St} {K:St→Prop} (l:List Nat) (hr:Region.ready .any ops listed=l) (hl:l≠[])
    (h:∀ i,i∈l→∃ o,ops[i]? = some o∧OpX2 P kp ops o s fun u=>Ord P kp ops k (listed.setIfInBounds i true) u K) : Ord P kp ops (k+1) listed s K:=by
  intro n hok B a w E F Q h1 hn hs hq fuel hf
  subst h1
  obtain ⟨fuel,rfl⟩ : ∃ g,fuel=g+1:=⟨fuel - 1,by omega⟩
  refine ⟨fun h0=>absurd (hr.symm.trans h0) hl,fun i hi => ?_⟩
  rw [hr] at hi
  obtain ⟨o,ho,hx⟩:=h i hi
  have hdd:∀ d,o.dst=some d→d<a.tmps.size:=fun d hd'=>by rw [hn]; exact dstsOk_spec hok ho d hd'
  unfold wpOp
  simp only [ho]
  rcases hx B a w E F Q rfl hs hdd with ⟨hw,hwp⟩ | ⟨hw,s',hK',hs'⟩
  · rw [hw,if_pos rfl]
    exact .inl (Oper.wp_mono (fun a2 w2 ⟨v,s2,E2,F2,ha,hK2,hs2⟩=>by subst ha; exact hK2 n hok B _ w2 E2 F2 Q rfl (by rw [size_put]; exact hn) hs2 hq fuel (by omega)) hwp)
  · rw [hw]
    exact hK' n hok B _ w E F Q rfl (by rw [size_put]; exact hn) hs' hq fuel (by omega)
theorem ord_1 {kp:List Nat} {ops:Array Oper} {k:Nat} {listed:Array Bool} {s:St} {K:St→Prop} (i:Nat) {o:Oper} (hr:Region.ready .any ops listed=[i]) (ho:ops[i]? = some o)
    (h:OpX2 P kp ops o s fun u=>Ord P kp ops k (listed.setIfInBounds i true) u K) : Ord P kp ops (k+1) listed s K :=
  ord_step [i] hr (by simp) fun j hj=>by
    obtain rfl:=List.mem_singleton.1 hj
    exact ⟨o,ho,h⟩
theorem ord_2 {kp:List Nat} {ops:Array Oper} {k:Nat} {listed:Array Bool} {s:St} {K:St→Prop} (i j:Nat) {o q:Oper} (hr:Region.ready .any ops listed=[i,j]) (ho:ops[i]? = some o) (hq:ops[j]? = some q)
    (h:OpX2 P kp ops o s fun u=>Ord P kp ops k (listed.setIfInBounds i true) u K) (h':OpX2 P kp ops q s fun u=>Ord P kp ops k (listed.setIfInBounds j true) u K) : Ord P kp ops (k+1) listed s K :=
  ord_step [i,j] hr (by simp) fun m hm=>by
    simp at hm
    rcases hm with rfl | rfl
    · exact ⟨o,ho,h⟩
    · exact ⟨q,hq,h'⟩
theorem awp_drawO {kp:List Nat} {n:Nat} {s:St} {Qs:Exit→St→Prop} {id:Nat} {ops:Array Oper} (k:Nat) (hk:Nat.ble k ops.size=true) (hm:P.follows .mixedOrders=true)
    (h:∀ K:St→Prop,(∀ t,Qs .normal t→K t)→Ord P kp ops k (Array.replicate ops.size false) s K) : AWP P kp n (.region id ops true) s Qs:=by
  intro hok B a w E F h1 h2 h3
  subst h1
  refine wp_region_any hm ?_
  refine h (fun t=>Qs .normal t) (fun t ht=>ht) n hok B _ _ E F _ rfl h2 h3.drew ?_ _ (Nat.le_of_ble_eq_true hk)
  intro a' w' s' E' F' hK hs hn
  exact ⟨by simp,by simp,s',E',F',hK,hs,hn⟩
end Go.Aw

namespace Go.Aw
set_option linter.unusedSimpArgs false
set_option linter.unusedVariables false
open Go.RowKit

theorem awp_fz {P:Program} {kp:List Nat} {n:Nat} {s:St} {Q:Exit→St→Prop} {c:Code} (x:V) (h:AWP P kp n c (s.fz 3 x) Q) : AWP P kp n c s Q:=by
  intro hok B a w E F h1 h2 h3
  obtain ⟨F',h4⟩:=fz_sim 3 s x F h3
  exact h hok B a w E F' h1 h2 h4
end Go.Aw

namespace Go.Aw
set_option linter.unusedSimpArgs false
set_option linter.unusedVariables false
open Go.RowKit

theorem cells_sim {B:Base} {s:St} {a:Act} {w:World} {E:Env} {F:Nat→Prop} (h3:Sim B s a w E F) (id:Nat) (xs ys:List V) (hi:s.heap[id]? = some (.cells xs)) (hl:ys.length=xs.length)
    (hv:∀ (j:Nat) (x y:V),xs[j]? = some x→ys[j]? = some y→∀ v:Value,VR E F w x v→VR E F w y v) : Sim B { s with heap:=s.heap.set id (.cells ys) } a w E F:=by
  have hr:=h3.rel
  have hlt:=(List.getElem?_eq_some_iff.1 hi).1
  obtain ⟨e,he⟩ : ∃ e,E[id]? = some e:=⟨_,List.getElem?_eq_getElem (by rw [hr.hr.len]; exact hlt)⟩
  have hbr:=hr.hr.blk id e _ he hi
  obtain ⟨q1,q2,b,cs,t,q3,q4,q5,q6⟩:=hbr
  have hbr2:BR E F w e (.cells ys):=⟨q1.trans hl.symm,q2,b,cs,t,q3,q4,q5.trans hl.symm,fun j y hy=>by
    have hj:j<xs.length:=by rw [← hl]; exact (List.getElem?_eq_some_iff.1 hy).1
    obtain ⟨v,hv1,hv2⟩:=q6 j xs[j] (List.getElem?_eq_getElem hj)
    exact ⟨v,hv1,hv j _ y (List.getElem?_eq_getElem hj) hy v hv2⟩⟩
  obtain ⟨evo,hrel⟩:=hr.rewritten (w':=w) he hi rfl q3 q4 q4 rfl rfl rfl (.refl _) (Nat.le_refl _) (fun _ _ _=>rfl) hbr2
  exact ⟨hrel,h3.defers,h3.tm⟩
theorem awp_virtC {P:Program} {kp:List Nat} {n:Nat} {s:St} {Q:Exit→St→Prop} {c:Code} (id k:Nat) (hi:s.heap[id]? = some (.cells [.nil]))
    (h:AWP P kp n c { s with heap:=(s.heap++[Blk.data k []]).set id (.cells [.ref s.heap.length 0 0]) } Q) : AWP P kp n c s Q:=by
  intro hok B a w E F h1 h2 h3
  subst h1
  obtain ⟨e1,e2⟩:=virt_rel h3.rel k
  have hlt:=(List.getElem?_eq_some_iff.1 hi).1
  have h4:Sim B ⟨s.tm,s.heap++[Blk.data k []]⟩ a w (E++[⟨none,k,0⟩]) F:=⟨⟨e2.os,e2.tape,e2.output,e2.size,e2.F0,e2.only,e2.same,e2.lt,e2.hr,e2.src,e2.keep,e2.sz⟩,h3.defers,fun j x hx=>by
    obtain ⟨v,hv,hr⟩:=h3.tm j x hx
    exact ⟨v,hv,hr.evo e1 (fun _ _=>trivial)⟩⟩
  refine h hok B a w _ F rfl h2 (cells_sim h4 id [.nil] [.ref s.heap.length 0 0] (by rw [List.getElem?_append_left hlt]; exact hi) rfl ?_)
  intro j x y hx hy v hv
  cases j with
  | zero =>
    simp at hx hy
    subst hx hy
    cases hv with
    | nil a=>exact .refv _ k 0 a (by rw [← h3.rel.hr.len,List.getElem?_append_right (Nat.le_refl _)]; simp)
  | succ j=>simp at hx
end Go.Aw

namespace Go.Aw
set_option linter.unusedSimpArgs false
set_option linter.unusedVariables false
open Go.RowKit

inductive DeepV (H:List Blk) : V→V→Prop where
  | of (x:V) (d:D) (h:Deep H x d) : DeepV H x (.d d)
  | agg (xs ys:List V) (hl:ys.length=xs.length) (hr:∀ (j:Nat) (x:V) (y:V),xs[j]? = some x→ys[j]? = some y→DeepV H x y) : DeepV H (.agg xs) (.agg ys)
  | tup (xs ys:List V) (hl:ys.length=xs.length) (hr:∀ (j:Nat) (x:V) (y:V),xs[j]? = some x→ys[j]? = some y→DeepV H x y) : DeepV H (.tup xs) (.tup ys)

theorem deepV_sound {E:Env} {F:Nat→Prop} {w:World} {H:List Blk} (hr:HR E F w H) {x y:V} (h:DeepV H x y) : ∀ {v:Value},VR E F w x v→VR [] (allF E F H) w y v:=by
  induction h with
  | of x d h=>intro v hv; exact .d _ _ (deep_sound hr h hv)
  | agg xs ys hl hrr ih =>
    intro v hv
    cases hv with
    | agg _ cs hs hr' =>
      refine .agg ys cs (by omega) fun j y v hy hv => ?_
      have hj:j<xs.length:=by have:=(List.getElem?_eq_some_iff.1 hy).1; omega
      exact ih j xs[j] y (List.getElem?_eq_getElem hj) hy (hr' j _ v (List.getElem?_eq_getElem hj) hv)
  | tup xs ys hl hrr ih =>
    intro v hv
    cases hv with
    | tup _ cs hs hr' =>
      refine .tup ys cs (by omega) fun j y v hy hv => ?_
      have hj:j<xs.length:=by have:=(List.getElem?_eq_some_iff.1 hy).1; omega
      exact ih j xs[j] y (List.getElem?_eq_getElem hj) hy (hr' j _ v (List.getElem?_eq_getElem hj) hv)

theorem DeepV.cons {H:List Blk} {x y:V} {xs ys:List V} (h:DeepV H x y) (hr:ys.length=xs.length∧∀ (j:Nat) (x:V) (y:V),xs[j]? = some x→ys[j]? = some y→DeepV H x y) :
    (y::ys).length=(x::xs).length∧∀ (j:Nat) (a:V) (b:V),(x::xs)[j]? = some a→(y::ys)[j]? = some b→DeepV H a b:=by
  refine ⟨by simp [hr.1],fun j a b h1 h2 => ?_⟩
  cases j with
  | zero=>simp at h1 h2; subst h1 h2; exact h
  | succ j=>exact hr.2 j a b (by simpa using h1) (by simpa using h2)
theorem DeepV.nils {H:List Blk} : ([] : List V).length=([] : List V).length∧∀ (j:Nat) (x:V) (y:V),([] : List V)[j]? = some x→([] : List V)[j]? = some y→DeepV H x y:=⟨rfl,fun j x y h _=>by simp at h⟩
theorem DeepV.aggs {H:List Blk} {xs ys:List V} (h:ys.length=xs.length∧∀ (j:Nat) (x:V) (y:V),xs[j]? = some x→ys[j]? = some y→DeepV H x y) : DeepV H (.agg xs) (.agg ys):=.agg xs ys h.1 h.2
theorem DeepV.tups {H:List Blk} {xs ys:List V} (h:ys.length=xs.length∧∀ (j:Nat) (x:V) (y:V),xs[j]? = some x→ys[j]? = some y→DeepV H x y) : DeepV H (.tup xs) (.tup ys):=.tup xs ys h.1 h.2
theorem DeepV.dd {H:List Blk} (d:D) : DeepV H (.d d) (.d d):=.of _ _ (.d d)
theorem DeepV.nil {H:List Blk} : DeepV H .nil (.d (.sl [])):=.of _ _ .nil
theorem DeepV.row {H:List Blk} {id k n:Nat} {rows:List (List D)} (h:H[id]? = some (.data k rows)) (hn:n=rows.length) : DeepV H (.ref id 0 n) (.d (.sl rows)):=by
  subst hn
  have:=Deep.data (H:=H) id 0 rows.length k rows h (by omega)
  rw [List.drop_zero,List.take_length] at this
  exact .of _ _ this

theorem AC.deepV {P:Program} {f:FuncId} {args:List V} {H:List Blk} {R:V→List Blk→Prop} {R':V→List Blk→Prop} (h:AC P f args H [] R) (hR:∀ x H',R x H'→∃ y,DeepV H' x y∧R' y []) : AC P f args H [] R':=by
  refine ⟨h.1,fun w cargs E F h1 h2 h3 h4=>(h.2 w cargs E F h1 h2 h3 h4).mono ?_⟩
  rintro e w' ⟨v,x,H',E',F',q1,q2,q3,q4⟩
  obtain ⟨d,r1,r2⟩:=hR x H' q2
  have hd:=deepV_sound q3.hr r1 q4
  refine ⟨v,d,[],[],allF E' F' H',q1,r2,⟨q3.os,q3.tape,q3.output,q3.size,fun b hb=>.inl (q3.F0 b hb),?_,q3.same,?_,⟨rfl,by simp,by simp,by simp⟩,by simp,by simp,q3.sz⟩,hd⟩
  · rintro b (hb | ⟨id,e,blk,g1,g2,g3,g4⟩)
    · exact q3.only b hb
    · exact .inr (q3.src id b e blk g1 g2 g3 g4)
  · refine q3.lt.evo (fun _ h=>.inl h) (fun _ _=>rfl) ?_
    rintro b (hb | ⟨id,e,blk,g1,g2,g3,g4⟩)
    · exact q3.lt b hb
    · exact (q3.hr.free id b e blk g1 g4 g2 g3).1
theorem pcv_of {P:Program} {f:FuncId} {fn:Func} {c:Code} {args:List D} {R:V→Prop} (rs:List ResultVar) (hf:P.funcs[f]? = some fn) (hb:fn.body=some c)
    (hnm : (fn.name == "runtime.NumGoroutine") = false) (hn : (args.map ofD).length ≤ fn.ntmps) (hok : codeOk fn.ntmps c = true) (hrs : fn.results.toList = rs)
    (h:AWP P [] fn.ntmps c ⟨argTm 0 (args.map ofD),[]⟩ (Fin P rs fun x H=>∃ y,DeepV H x y∧R y)) : PC P f args fun x H=>R x∧H=[]:=by
  subst hrs
  exact AC.deepV (R:=fun x H=>∃ y,DeepV H x y∧R y) (ac_of hf hb hnm hn hok h) fun x H' ⟨y,h1,h2⟩=>⟨y,h1,h2,rfl⟩
theorem pdv_of {P:Program} {f:FuncId} {fn:Func} {c:Code} {args:List D} {y:V} (rs:List ResultVar) (hf:P.funcs[f]? = some fn) (hb:fn.body=some c)
    (hnm : (fn.name == "runtime.NumGoroutine") = false) (hn : (args.map ofD).length ≤ fn.ntmps) (hok : codeOk fn.ntmps c = true) (hrs : fn.results.toList = rs)
    (h:AWP P [] fn.ntmps c ⟨argTm 0 (args.map ofD),[]⟩ (Fin P rs fun x H=>DeepV H x y)) : PD P f args y:=by
  subst hrs
  exact AC.deepV (R:=fun x H=>DeepV H x y) (ac_of hf hb hnm hn hok h) fun x H' h1=>⟨y,h1,rfl,rfl⟩
end Go.Aw

namespace Go.Aw
set_option linter.unusedSimpArgs false
set_option linter.unusedVariables false
open Go.RowKit
variable {P:Program}

def litD:D→Option Value
  | .int k n=>some (.int k n)
  | .bool b=>some (.bool b)
  | .str s=>some (.string s)
  | _=>none
theorem lit_of {E:Env} {F:Nat→Prop} {w:World} {x:D} {v u:Value} (hx:litD x=some u) (h:VR E F w (ofD x) v) : v=u:=by
  cases x <;> simp only [litD,Option.some.injEq,reduceCtorEq] at hx <;> subst hx <;> simp only [ofD] at h <;> cases h <;> rename_i h <;> cases h <;> rfl
theorem lits_of {E:Env} {F:Nat→Prop} {w:World} {args:List D} {cargs:Array Value} {vs:List Value} (hv:args.map litD=vs.map some) (h:CR E F w (args.map ofD) cargs) : cargs=vs.toArray:=by
  obtain ⟨h1,h2⟩:=h
  have hl:args.length=vs.length:=by simpa using congrArg List.length hv
  apply Array.ext_getElem?
  intro i
  by_cases hi:i<args.length
  · have e1:args[i]? = some args[i]:=List.getElem?_eq_getElem hi
    have hc:i<cargs.size:=by simpa [h1] using hi
    have hvi:i<vs.length:=by omega
    have e2:litD args[i]=some vs[i]:=by
      have:=congrArg (fun l=>l[i]?) hv
      simp only [List.getElem?_map,e1,List.getElem?_eq_getElem hvi,Option.map_some,Option.some.injEq] at this
      exact this
    have:=lit_of e2 (h2 i (ofD args[i]) cargs[i] (by simp [e1]) (by simp [hc]))
    simp [hc,hvi,this]
  · have hc:¬ i<cargs.size:=by simpa [h1] using hi
    rw [Array.getElem?_eq_none (by omega),List.getElem?_toArray,List.getElem?_eq_none (by omega)]

theorem pd_stays {f:FuncId} {args:List D} {x0:V} {vs:List Value} (hc:callable P f) (hv:args.map litD=vs.map some)
    (h:∀ (w:World) (F:Nat→Prop),FO F w→Calls P f vs.toArray w fun e w'=>∃ v,e=.returned v∧VR [] F w' x0 v∧Below w.heap.size w w') : PD P f args x0:=by
  refine ⟨hc,fun w cargs E F hh hF _ hcr => ?_⟩
  have hE:E=[]:=List.eq_nil_of_length_eq_zero (by rw [hh.len]; rfl)
  subst hE
  rw [lits_of hv hcr]
  refine (h w F hF).mono fun e w' ⟨v,he,hx,hb⟩=>⟨v,x0,[],[],F,he,⟨rfl,rfl⟩,?_,hx⟩
  have hsame:∀ b,F b→w'.heap[b]? = w.heap[b]?:=fun b hb'=>hb.block b (hF b hb')
  refine ⟨hb.os,hb.tape,⟨hb.output⟩,hb.size,fun _ h=>h,fun _ h=>.inl h,fun b hlt _=>hb.block b hlt,hF.evo (fun _ h=>h) hsame (fun b hb'=>Nat.lt_of_lt_of_le (hF b hb') hb.size),⟨rfl,by simp,by simp,by simp⟩,by simp,by simp,fun b n hs => ?_⟩
  obtain ⟨cs,t,h1,h2⟩:=hs
  exact ⟨cs,t,by rw [hb.block b (Sz.lt ⟨cs,t,h1,h2⟩)]; exact h1,h2⟩
theorem pd_same {f:FuncId} {args:List D} {x0:D} {vs:List Value} {u:Value} (hc:callable P f) (hv:args.map litD=vs.map some) (hx:litD x0=some u)
    (h:∀ w,Calls P f vs.toArray w fun e w'=>e=.returned u∧w'=w) : PD P f args (.d x0):=by
  refine pd_stays hc hv fun w F _=>(h w).mono fun e w' ⟨he,hw⟩=>⟨u,he,.d _ _ ?_,by subst hw; exact Below.refl _ _⟩
  cases x0 <;> simp only [litD,Option.some.injEq,reduceCtorEq] at hx <;> subst hx <;> constructor

def NoGoto (Q:Exit→St→Prop) : Exit→St→Prop
  | .goto _,_=>False
  | e,s=>Q e s
theorem awp_scope {kp:List Nat} {n:Nat} {s:St} {Q:Exit→St→Prop} {c:Code} (h:AWP P kp n c s (NoGoto Q)) : AWP P kp n (.scope c) s Q:=by
  intro hok B a w E F h1 h2 h3
  refine wp_scope_straight (wp_mono (h hok B a w E F h1 h2 h3) ?_)
  rintro e a' w' ⟨g1,g2,s',E',F',g3,g4,g5⟩
  cases e with
  | goto l=>exact g3.elim
  | _=>exact ⟨g1,g2,s',E',F',g3,g4,g5⟩
theorem nogoto_ret {Q:Exit→St→Prop} {s:St} (h:Q .ret s) : NoGoto Q .ret s:=h
end Go.Aw

namespace Go.Aw
set_option linter.unusedSimpArgs false
set_option linter.unusedVariables false
open Go.RowKit

variable {P:Program}
section
variable {ops:Array Oper} {Q:Exit→Act→World→Prop} {T:Nat→Bool} {wb:World}
def KeepS (wb w:World) : Prop:=Keep wb w∧wb.heap.size≤w.heap.size
theorem wpOp_putKB {j:Nat} {oi oj:Oper} {v:Value} (hj:ops[j]? = some oj) (hap:oi.apart ops oj=true)
    (hsi:∀ cs b,oi.op≠.select cs b) (hsj:∀ cs b,oj.op≠.select cs b)
    (hQ:∀ c a w,Q (.panic c) (a.put oi.dst v) w→Q (.panic c) a w) {K:Act→World→Prop} {a:Act} {w wb:World}
    (hy:YieldsK P ops wb oi v a) (h:wpOp P ops Q j K (a.put oi.dst v) w) :
    wpOp P ops Q j (fun a' w'=>YieldsK P ops wb oi v a'∧K (a'.put oi.dst v) w') a w:=by
  obtain ⟨h1,h2,h3⟩:=Oper.apart_spec hap
  have keep:∀ (a:Act),YieldsK P ops wb oi v a→∀ u,YieldsK P ops wb oi v (a.put oj.dst u):=fun a hy u =>
    hy.of_same (execOp_put oi hsi a oj.dst u h3) (wanted_put oi a oj.dst u h3)
  have keepD:∀ d,YieldsK P ops wb oi v { a with defers:=d::a.defers }:=fun d=>hy.of_same rfl rfl
  unfold wpOp at *
  simp only [hj] at *
  rw [wanted_put oj a oi.dst v h1] at h
  split
  · rename_i hw
    simp only [hw,if_true] at h
    rcases h with h | ⟨hasks,hlets⟩
    case inr=>exact .inr ⟨by unfold Oper.asks at *; rw [execOp_put oj hsj a oi.dst v h1] at hasks; exact hasks,hlets⟩
    refine .inl ?_
    unfold Oper.wp at *
    rw [execOp_put oj hsj a oi.dst v h1] at h
    generalize (execOp a.eval oj).run P w=r at *
    cases r with
    | ok n w' =>
      cases n <;> simp only [Oper.upon] at h ⊢
      case value u=>exact ⟨keep a hy u,by rw [← Act.put_comm a v u h2]; exact h⟩
      case skip=>exact ⟨keep a hy _,by rw [← Act.put_comm a v undef h2]; exact h⟩
      case defer d =>
        refine ⟨keep _ (keepD d) _,?_⟩
        rw [← Act.put_comm _ v undef h2,← Act.put_defers]
        exact h
      case enter f args =>
        refine Calls.mono h fun e w'' he => ?_
        cases e with
        | returned u=>exact ⟨keep a hy u,by rw [← Act.put_comm a v u h2]; exact he⟩
        | panicked c=>exact hQ _ _ _ he
        | outgrown=>exact he
      case row row args=>exact Rows.mono h fun u w'' he=>⟨keep a hy u,by rw [← Act.put_comm a v u h2]; exact he⟩
    | halt x w' =>
      cases x <;> simp only [Oper.upon] at h ⊢
      case panic u=>exact hQ _ _ _ h
  · rename_i hw
    simp only [hw] at h
    exact ⟨keep a hy _,by rw [← Act.put_comm a v undef h2]; exact h⟩

def wpAnyB (P:Program) (T:Nat→Bool) (wb:World) (ops:Array Oper) (Q:Exit→Act→World→Prop) : Nat→Array Bool→Act→World→Prop
  | 0,listed,a,w=>Region.ready .any ops listed=[]∧Q .normal a w
  | fuel+1,listed,a,w =>
    (Region.ready .any ops listed=[]→Q .normal a w) ∧
    ∀ i∈Region.ready .any ops listed,wpOp P ops Q i (fun a' w'=>(T i=true∨KeepS wb w')∧wpAnyB P T wb ops Q fuel (listed.setIfInBounds i true) a' w') a w
theorem wpAny_of_B:∀ (fuel:Nat) (listed:Array Bool) (a:Act) (w:World),wpAnyB P T wb ops Q fuel listed a w→wpAny P .any ops Q fuel listed a w
  | 0,_,_,_,h=>h
  | fuel+1,_,_,_,h=>⟨h.1,fun i hi=>wpOp_mono (fun a' w' h'=>wpAny_of_B fuel _ a' w' h'.2) (h.2 i hi)⟩
theorem wpAnyB_first {i:Nat} {oi:Oper} {v:Value} (hi:ops[i]? = some oi) (hsel:∀ (j:Nat) (o:Oper) cs b,ops[j]? = some o→o.op≠.select cs b)
    (hQ:∀ c a w,Q (.panic c) (a.put oi.dst v) w→Q (.panic c) a w) :
    ∀ (fuel:Nat) (listed:Array Bool) (a:Act) (w:World),
      (∀ j oj,ops[j]? = some oj→j≠i→listed.getD j true=false→(∀ e∈oj.after,Region.binds .any e=true→e.on≠i)→oi.apart ops oj=true∧T j=false) →
      i∈Region.ready .any ops listed→KeepS wb w→YieldsK P ops wb oi v a →
      wpAnyB P T wb ops Q fuel (listed.setIfInBounds i true) (a.put oi.dst v) w→wpAnyB P T wb ops Q (fuel+1) listed a w:=by
  intro fuel
  induction fuel with
  | zero =>
    intro listed a w _ hr hkb hy H
    refine ⟨fun h=>(by rw [h] at hr; cases hr),fun j hj => ?_⟩
    by_cases hji:j=i
    · subst hji; exact (hy.later hkb.1).wpOp hi ⟨.inr hkb,H⟩
    · have:=ready_mono hj hji
      rw [H.1] at this
      cases this
  | succ fuel ih =>
    intro listed a w hfree hr hkb hy H
    refine ⟨fun h=>(by rw [h] at hr; cases hr),fun j hj => ?_⟩
    by_cases hji:j=i
    · subst hji; exact (hy.later hkb.1).wpOp hi ⟨.inr hkb,H⟩
    · have h1:=H.2 j (ready_mono hj hji)
      obtain ⟨hjun,oj,hoj,hall⟩:=mem_ready.1 hj
      have hnot:∀ e∈oj.after,Region.binds .any e=true→e.on≠i:=fun e he hb heq=>by
        have h1:=hall e he hb
        have h0:=(mem_ready.1 hr).1
        rw [heq] at h1
        rcases Nat.lt_or_ge i listed.size with h' | h'
        · simp [h'] at h0 h1; rw [h0] at h1; cases h1
        · simp [Array.getElem?_eq_none h'] at h1
      obtain ⟨hap,hnt⟩:=hfree j oj hoj hji hjun hnot
      have h2:=wpOp_putKB hoj hap (fun cs b=>hsel i oi cs b hi) (fun cs b=>hsel j oj cs b hoj) hQ hy h1
      have hfree':∀ k ok,ops[k]? = some ok→k≠i→(listed.setIfInBounds j true).getD k true=false →
          (∀ e∈ok.after,Region.binds .any e=true→e.on≠i)→oi.apart ops ok=true∧T k=false:=fun k ok hk hki hun hno=>by
        refine hfree k ok hk hki ?_ hno
        by_cases hjk:j=k
        · subst hjk; exact hjun
        · rw [getD_set_ne true hjk] at hun; exact hun
      refine wpOp_mono (fun a' w' h3 => ?_) h2
      obtain ⟨g1,g2,g3⟩:=h3
      have hkw:KeepS wb w':=by
        rcases g2 with g2 | g2
        · rw [hnt] at g2; cases g2
        · exact g2
      refine ⟨.inr hkw,ih (listed.setIfInBounds j true) a' w' hfree' (ready_mono hr (Ne.symm hji)) hkw g1 ?_⟩
      rw [Array.setIfInBounds_comm _ _ hji]
      exact g3

theorem wpAnyB_firstS {i:Nat} {oi:Oper} {v:Value} (S:List Nat) (hi:ops[i]? = some oi) (hsel:∀ (j:Nat) (o:Oper) cs b,ops[j]? = some o→o.op≠.select cs b)
    (hQ:∀ c a w,Q (.panic c) (a.put oi.dst v) w→Q (.panic c) a w) :
    ∀ (fuel:Nat) (listed:Array Bool) (a:Act) (w:World),
      (∀ j oj,ops[j]? = some oj→j≠i→listed.getD j true=false→j ∉ S→oi.apart ops oj=true∧T j=false) →
      (∀ j,j∈S→listed.getD j true=false∧∃ oj e,ops[j]? = some oj∧e∈oj.after∧Region.binds .any e=true∧(e.on=i∨e.on∈S)) →
      i∈Region.ready .any ops listed→KeepS wb w→YieldsK P ops wb oi v a →
      wpAnyB P T wb ops Q fuel (listed.setIfInBounds i true) (a.put oi.dst v) w→wpAnyB P T wb ops Q (fuel+1) listed a w:=by
  intro fuel
  induction fuel with
  | zero =>
    intro listed a w _ _ hr hkb hy H
    refine ⟨fun h=>(by rw [h] at hr; cases hr),fun j hj => ?_⟩
    by_cases hji:j=i
    · subst hji; exact (hy.later hkb.1).wpOp hi ⟨.inr hkb,H⟩
    · have:=ready_mono hj hji
      rw [H.1] at this
      cases this
  | succ fuel ih =>
    intro listed a w hfree hS hr hkb hy H
    refine ⟨fun h=>(by rw [h] at hr; cases hr),fun j hj => ?_⟩
    by_cases hji:j=i
    · subst hji; exact (hy.later hkb.1).wpOp hi ⟨.inr hkb,H⟩
    · have h1:=H.2 j (ready_mono hj hji)
      obtain ⟨hjun,oj,hoj,hall⟩:=mem_ready.1 hj
      have notOn:∀ k,listed.getD k true=false→∀ e∈oj.after,Region.binds .any e=true→e.on≠k:=fun k h0 e he hb heq=>by
        have h1:=hall e he hb
        rw [heq] at h1
        rcases Nat.lt_or_ge k listed.size with h' | h'
        · simp [h'] at h0 h1; rw [h0] at h1; cases h1
        · simp [Array.getElem?_eq_none h'] at h1
      have hjS:j ∉ S:=fun hjS=>by
        obtain ⟨_,ok,e,hok,he,hb,hon⟩:=hS j hjS
        rw [hoj] at hok
        cases hok
        rcases hon with hon | hon
        · exact notOn i (mem_ready.1 hr).1 e he hb hon
        · exact notOn e.on (hS _ hon).1 e he hb rfl
      obtain ⟨hap,hnt⟩:=hfree j oj hoj hji hjun hjS
      have h2:=wpOp_putKB hoj hap (fun cs b=>hsel i oi cs b hi) (fun cs b=>hsel j oj cs b hoj) hQ hy h1
      have hfree':∀ k ok,ops[k]? = some ok→k≠i→(listed.setIfInBounds j true).getD k true=false→k ∉ S→oi.apart ops ok=true∧T k=false:=fun k ok hk hki hun hno=>by
        refine hfree k ok hk hki ?_ hno
        by_cases hjk:j=k
        · subst hjk; exact hjun
        · rw [getD_set_ne true hjk] at hun; exact hun
      have hS':∀ k,k∈S→(listed.setIfInBounds j true).getD k true=false∧∃ oj e,ops[k]? = some oj∧e∈oj.after∧Region.binds .any e=true∧(e.on=i∨e.on∈S):=fun k hk=>by
        obtain ⟨q1,q2⟩:=hS k hk
        have hjk:j≠k:=fun e=>hjS (e ▸ hk)
        exact ⟨by rw [getD_set_ne true hjk]; exact q1,q2⟩
      refine wpOp_mono (fun a' w' h3 => ?_) h2
      obtain ⟨g1,g2,g3⟩:=h3
      have hkw:KeepS wb w':=by
        rcases g2 with g2 | g2
        · rw [hnt] at g2; cases g2
        · exact g2
      refine ⟨.inr hkw,ih (listed.setIfInBounds j true) a' w' hfree' hS' (ready_mono hr (Ne.symm hji)) hkw g1 ?_⟩
      rw [Array.setIfInBounds_comm _ _ hji]
      exact g3

theorem freeB_first {i:Nat} {oi:Oper} {v:Value} (hi:ops[i]? = some oi) (hsel:∀ (j:Nat) (o:Oper) cs b,ops[j]? = some o→o.op≠.select cs b)
    (hQ:∀ c a w,Q (.panic c) (a.put oi.dst v) w→Q (.panic c) a w) (fuel:Nat) (listed:Array Bool) (a:Act) (w:World) (h:freeU T ops listed i=true) (hr:i∈Region.ready .any ops listed) (hkb:KeepS wb w) (hy:YieldsK P ops wb oi v a)
    (H:wpAnyB P T wb ops Q fuel (listed.setIfInBounds i true) (a.put oi.dst v) w) : wpAnyB P T wb ops Q (fuel+1) listed a w:=by
  unfold freeU at h
  rw [Bool.or_eq_true] at h
  rcases h with h | h
  · exact wpAnyB_first hi hsel hQ fuel listed a w (freeU1_spec hi h) hr hkb hy H
  · generalize hS:blkd ops listed i (List.range ops.size) []=S at h
    have hb:=blkd_spec (ops:=ops) (listed:=listed) (i:=i) (List.range ops.size) [] (fun k hk=>by cases hk)
    rw [hS] at hb
    refine wpAnyB_firstS S hi hsel hQ fuel listed a w (fun j oj hj hji hun hno => ?_) hb hr hkb hy H
    unfold freeU2 at h
    rw [hi] at h
    dsimp only at h
    have hlt:j<ops.size:=(Array.getElem?_eq_some_iff.1 hj).1
    have:=List.all_eq_true.1 h j (List.mem_range.2 hlt)
    rw [hj] at this
    simp only [Bool.or_eq_true,beq_iff_eq,Bool.and_eq_true,Bool.not_eq_true',List.contains_iff_mem] at this
    rcases this with ((h1 | h1) | h1) | h1
    · exact absurd h1 hji
    · rw [hun] at h1; cases h1
    · exact absurd h1 hno
    · exact h1

def quietB (T:Nat→Bool) (ops:Array Oper) : List Nat→Array Bool→Bool
  | [],_=>true
  | i::r,listed =>
    (match ops[i]? with
     | none=>false
     | some o=>kindQ o.op&&(Region.ready .any ops listed).contains i&&freeU T ops listed i)&&quietB T ops r (listed.setIfInBounds i true)
theorem drawB_quiet {B:Base} {n:Nat} (hd:dstsOk n ops=true) (hsel:Region.noSelect ops=true) (hQ:∀ c a w,¬ Q (.panic c) a w) (fuel:Nat) : ∀ (l:List Nat) (listed:Array Bool) (s:St) (a:Act) (E:Env) (F:Nat→Prop) (K:St→Prop),a.tmps.size=n→Sim B s a wb E F →
    OpsVC P B.keep ops (l.filterMap (ops[·]?)) s K→quietB T ops l listed=true →
    (∀ a' s',K s'→Sim B s' a' wb E F→a'.tmps.size=n→wpAnyB P T wb ops Q fuel (setAll l listed) a' wb)→wpAnyB P T wb ops Q (fuel+l.length) listed a wb
  | [],listed,s,a,E,F,K,hn,hs,h,hok,hq=>hq a s h hs hn
  | i::l,listed,s,a,E,F,K,hn,hs,h,hok,hq=>by
    simp only [quietB,Bool.and_eq_true] at hok
    obtain ⟨hok,hrest⟩:=hok
    split at hok
    · cases hok
    rename_i o ho
    simp only [List.filterMap_cons,ho,OpsVC] at h
    simp only [Bool.and_eq_true] at hok
    have ih:=fun s a hn hs h=>drawB_quiet hd hsel hQ fuel l (listed.setIfInBounds i true) s a E F K hn hs h hrest hq
    rcases op_sound (Q:=Q) hs (fun d hd'=>by rw [hn]; exact dstsOk_spec hd ho d hd') h with ⟨v,s',hK,hs',hw⟩ | ⟨hnq,hw⟩
    · have ih':=ih s' _ (by rw [size_put]; exact hn) hs' hK
      have hy:YieldsK P ops wb o v a:=hw
      exact freeB_first ho (noSel hsel) (fun c a w hh=>absurd hh (hQ c _ w)) (fuel+l.length) listed a wb hok.2 (by simpa using hok.1.2) ⟨Keep.refl wb,Nat.le_refl _⟩ hy ih'
    · rw [hnq] at hok
      cases hok.1.1

def tailB (ops:Array Oper) : List Nat→Array Bool→Bool
  | [],listed=>(Region.ready .any ops listed).isEmpty
  | i::r,listed=>(ops[i]?).isSome&&Region.ready .any ops listed==[i]&&tailB ops r (listed.setIfInBounds i true)
theorem Sim.keepS {B:Base} {s:St} {a:Act} {w:World} {E:Env} {F:Nat→Prop} (hs:Sim B s a w E F) (ho:∀ b,¬ B.own b) : KeepS B.w0 w :=
  ⟨fun b hb=>hs.rel.same b hb (ho b),hs.rel.size⟩
theorem drawB_tail {B:Base} {n:Nat} (hd:dstsOk n ops=true) (hw0:B.w0=wb) (ho:∀ b,¬ B.own b) : ∀ (l:List Nat) (listed:Array Bool) (s:St) (a:Act) (w:World) (E:Env) (F:Nat→Prop) (K:St→Prop),a.tmps.size=n→Sim B s a w E F →
    OpsVC P B.keep ops (l.filterMap (ops[·]?)) s K→tailB ops l listed=true →
    (∀ a' w' s' E' F',K s'→Sim B s' a' w' E' F'→a'.tmps.size=n→Q .normal a' w')→wpAnyB P T wb ops Q l.length listed a w
  | [],listed,s,a,w,E,F,K,hn,hs,h,hok,hq=>⟨by simpa [tailB] using hok,hq a w s E F h hs hn⟩
  | i::l,listed,s,a,w,E,F,K,hn,hs,h,hok,hq=>by
    simp only [tailB,Bool.and_eq_true,beq_iff_eq] at hok
    obtain ⟨⟨hsome,hr⟩,hrest⟩:=hok
    obtain ⟨o,hoi⟩:=Option.isSome_iff_exists.1 hsome
    simp only [List.filterMap_cons,hoi,OpsVC] at h
    have ih:=fun s a w E F hn hs h=>drawB_tail hd hw0 ho l (listed.setIfInBounds i true) s a w E F K hn hs h hrest hq
    have ks:∀ {s a w E F},Sim B s a w E F→T i=true∨KeepS wb w:=fun hs=>.inr (hw0 ▸ hs.keepS ho)
    refine ⟨(fun h0=>by rw [hr] at h0; cases h0),fun j hj => ?_⟩
    rw [hr] at hj
    simp at hj
    subst hj
    rcases op_sound (Q:=Q) hs (fun d hd'=>by rw [hn]; exact dstsOk_spec hd hoi d hd') h with ⟨v,s',hK,hs',hw⟩ | ⟨_,hw⟩
    · have hy:YieldsK P ops w o v a:=hw
      exact hy.wpOp hoi ⟨ks hs,ih s' _ w E F (by rw [size_put]; exact hn) hs' hK⟩
    · unfold wpOp
      simp only [hoi]
      rcases hw with ⟨hw,hwp⟩ | ⟨hw,s',F',hK,hs'⟩
      · rw [hw,if_pos rfl]
        refine .inl (Oper.wp_mono (fun a' w' ⟨_,v,s',E',F',ha,hK,hs'⟩ => ?_) hwp)
        subst ha
        exact ⟨ks hs',ih s' _ w' E' F' (by rw [size_put]; exact hn) hs' hK⟩
      · rw [hw]
        exact ⟨ks hs,ih s' _ w E F' (by rw [size_put]; exact hn) hs' hK⟩

def hid (H:List Blk) : List Blk:=H.map fun _=>Blk.gone
theorem hid_sim {B:Base} {s:St} {a:Act} {w:World} {E:Env} {F:Nat→Prop} (hs:Sim B s a w E F) :
    Sim ⟨w,F,fun _=>False,E,List.range s.heap.length,B.ds⟩ ⟨s.tm,hid s.heap⟩ a w E F:=by
  have hg:∀ (id:Nat) (b:Blk),(hid s.heap)[id]? = some b→b=.gone:=fun id b h=>by
    simp only [hid,List.getElem?_map,Option.map_eq_some_iff] at h
    obtain ⟨_,_,h⟩:=h
    exact h.symm
  refine ⟨⟨rfl,rfl,.refl w,Nat.le_refl _,fun b h=>h,fun b h=>.inl h,fun b _ _=>rfl,hs.rel.lt,⟨?_,?_,?_,?_⟩,?_,?_,fun b n h=>h⟩,hs.defers,hs.tm⟩
  · show E.length=(hid s.heap).length
    rw [hs.rel.hr.len,hid,List.length_map]
  · intro id e b _ h
    rw [hg id b h]; trivial
  · intro id b e blk _ _ h hl
    rw [hg id blk h] at hl; cases hl
  · intro i j b ei ej bi bj _ _ _ _ h _ hl
    rw [hg i bi h] at hl; cases hl
  · intro id b e blk _ h hl
    rw [hg id blk h] at hl; cases hl
  · intro i hi
    have hi:=List.mem_range.1 hi
    rw [← hs.rel.hr.len] at hi
    exact ⟨E[i],List.getElem?_eq_getElem hi,List.getElem?_eq_getElem hi⟩
theorem unhid {B:Base} {t u:St} {a a2:Act} {w w2:World} {E E2:Env} {F F2:Nat→Prop} (hs:Sim B t a w E F)
    (h2:Sim ⟨w,F,fun _=>False,E,List.range t.heap.length,B.ds⟩ u a2 w2 E2 F2) : Sim B ⟨u.tm,t.heap++u.heap.drop t.heap.length⟩ a2 w2 E2 F2:=by
  have r:=hs.rel
  have r2:=h2.rel
  have hkeep:∀ (j:Nat) (e:En),E[j]? = some e→E2[j]? = some e:=fun j e h=>by
    have hj:j<t.heap.length:=by rw [← r.hr.len]; exact (List.getElem?_eq_some_iff.1 h).1
    obtain ⟨e',q1,q2⟩:=r2.keep j (List.mem_range.2 hj)
    dsimp only at q2
    rw [h] at q2
    cases q2
    exact q1
  have hlen:t.heap.length≤u.heap.length:=by
    rw [← r2.hr.len]
    rcases Nat.eq_zero_or_pos t.heap.length with h | h
    · omega
    · have hE:t.heap.length - 1<E.length:=by rw [r.hr.len]; omega
      have:=hkeep _ _ (List.getElem?_eq_getElem hE)
      have:=(List.getElem?_eq_some_iff.1 this).1
      omega
  have hnF:∀ b,b<w.heap.size→¬ F b→¬ F2 b:=fun b hb hf hf2=>by
    rcases r2.only b hf2 with h | h | h
    · exact hf h
    · exact absurd hb (Nat.not_lt.2 h)
    · exact h
  have hsame:∀ b,b<w.heap.size→w2.heap[b]? = w.heap[b]?:=fun b hb=>r2.same b hb fun h=>h
  have evo:Evo E F w E2 F2 w2 (fun _=>True):=⟨r2.F0,fun b hb=>hsame b (r.lt b hb),fun j e _ h=>hkeep j e h,r2.sz⟩
  have hold:∀ (id:Nat) (b:Blk),id<t.heap.length→(t.heap++u.heap.drop t.heap.length)[id]? = some b→t.heap[id]? = some b:=fun id b hi h=>by
    rwa [List.getElem?_append_left hi] at h
  have hnew:∀ (id:Nat) (b:Blk),¬ id<t.heap.length→(t.heap++u.heap.drop t.heap.length)[id]? = some b→u.heap[id]? = some b:=fun id b hi h=>by
    rw [List.getElem?_append_right (by omega),List.getElem?_drop,show t.heap.length+(id - t.heap.length)=id by omega] at h
    exact h
  have hEold:∀ (id:Nat) (e:En),id<t.heap.length→E2[id]? = some e→E[id]? = some e:=fun id e hi h=>by
    rw [← r.hr.len] at hi
    have:=hkeep id _ (List.getElem?_eq_getElem hi)
    rw [h] at this
    rw [List.getElem?_eq_getElem hi]
    exact this.symm
  refine ⟨⟨r2.os.trans r.os,r2.tape.trans r.tape,r2.output.trans r.output,Nat.le_trans r.size r2.size,fun b hb=>r2.F0 b (r.F0 b hb),fun b hb => ?_,fun b h1 h2=>(hsame b (Nat.lt_of_lt_of_le h1 r.size)).trans (r.same b h1 h2),r2.lt,⟨?_,?_,?_,?_⟩,?_,fun i hi => ?_,fun b n h=>r2.sz b n (r.sz b n h)⟩,h2.defers,h2.tm⟩
  · rcases r2.only b hb with h | h | h
    · exact r.only b h
    · exact .inr (.inl (Nat.le_trans r.size h))
    · exact h.elim
  · show E2.length=(t.heap++u.heap.drop t.heap.length).length
    rw [r2.hr.len,List.length_append,List.length_drop]; omega
  · intro id e b he hb
    by_cases hi:id<t.heap.length
    · have h1:=hold id b hi hb
      have h3:=hEold id e hi he
      have h4:=r.hr.blk id e b h3 h1
      cases hl:b.live with
      | false=>cases b <;> first | trivial | cases hl
      | true=>exact h4.evo evo (fun _ _=>trivial) fun c hc=>hsame c (r.hr.free id c e b h3 hc h1 hl).1
    · exact r2.hr.blk id e b he (hnew id b hi hb)
  · intro id b e blk he hb h hl
    by_cases hi:id<t.heap.length
    · obtain ⟨q1,q2⟩:=r.hr.free id b e blk (hEold id e hi he) hb (hold id blk hi h) hl
      exact ⟨Nat.lt_of_lt_of_le q1 r2.size,hnF b q1 q2⟩
    · exact r2.hr.free id b e blk he hb (hnew id blk hi h) hl
  · intro i j b ei ej bi bj h1 h2' h3 h4 h5 h6 h7 h8
    by_cases hi:i<t.heap.length <;> by_cases hj:j<t.heap.length
    · exact r.hr.inj i j b ei ej bi bj (hEold i ei hi h1) (hEold j ej hj h2') h3 h4 (hold i bi hi h5) (hold j bj hj h6) h7 h8
    · have q1:=(r.hr.free i b ei bi (hEold i ei hi h1) h3 (hold i bi hi h5) h7).1
      rcases r2.src j b ej bj h2' (hnew j bj hj h6) h8 h4 with h | h
      · exact absurd q1 (Nat.not_lt.2 h)
      · exact h.elim
    · have q1:=(r.hr.free j b ej bj (hEold j ej hj h2') h4 (hold j bj hj h6) h8).1
      rcases r2.src i b ei bi h1 (hnew i bi hi h5) h7 h3 with h | h
      · exact absurd q1 (Nat.not_lt.2 h)
      · exact h.elim
    · exact r2.hr.inj i j b ei ej bi bj h1 h2' h3 h4 (hnew i bi hi h5) (hnew j bj hj h6) h7 h8
  · intro id b e blk he h hl hb
    by_cases hi:id<t.heap.length
    · exact r.src id b e blk (hEold id e hi he) (hold id blk hi h) hl hb
    · rcases r2.src id b e blk he (hnew id blk hi h) hl hb with q | q
      · exact .inl (Nat.le_trans r.size q)
      · exact q.elim
  · obtain ⟨e,q1,q2⟩:=r.keep i hi
    exact ⟨e,hkeep i e q1,q2⟩
theorem awp_drawB {kp:List Nat} {n:Nat} {s:St} {Qs:Exit→St→Prop} {id:Nat} (l tl:List Nat) (hm:P.follows .mixedOrders=true)
    (hc:(Region.noSelect ops&&quietB (fun _=>false) ops l (Array.replicate ops.size false)&&tailB ops tl (setAll l (Array.replicate ops.size false)))=true) (hl:tl.length+l.length=ops.size)
    (h:∀ K:St→Prop,(∀ t,Qs .normal t→K t)→contRun P kp ops (.vc (l.filterMap (ops[·]?))) s fun t=>contRun P (List.range t.heap.length) ops (.vc (tl.filterMap (ops[·]?))) ⟨t.tm,hid t.heap⟩ fun u=>K ⟨u.tm,t.heap++u.heap.drop t.heap.length⟩) : AWP P kp n (.region id ops true) s Qs:=by
  intro hok B a w E F h1 h2 h3
  subst h1
  simp only [Bool.and_eq_true] at hc
  refine wp_region_any hm (wpAny_of_B (T:=fun _=>false) (wb:=w.drew) _ _ _ _ ?_)
  obtain ⟨hc1,hc2⟩:=hc
  generalize Array.replicate ops.size false=lst at *
  rw [← hl]
  refine drawB_quiet (n:=n) hok hc1.1 ?_ tl.length l _ s a E F _ h2 h3.drew (h _ fun t ht=>ht) hc1.2 ?_
  · intro c a w hh
    exact hh.1 c rfl
  · intro a1 s1 hK hs hn
    refine drawB_tail (B:=⟨_,F,fun _=>False,E,List.range s1.heap.length,B.ds⟩) (n:=n) hok rfl (fun _ h=>h) tl _ _ _ _ E F _ hn (hid_sim hs) hK hc2 ?_
    intro a2 w2 s2 E2 F2 hK2 hs2 hn2
    exact ⟨by simp,by simp,_,E2,F2,hK2,unhid hs hs2,hn2⟩
theorem awpF_drawB {kp:List Nat} {n:Nat} {s:St} {Qs:Exit→St→Prop} {id:Nat} {ops:Array Oper} (l tl:List Nat) (hm:P.follows .mixedOrders=true)
    (hc:(Region.noSelect ops&&quietB (fun _=>false) ops l (Array.replicate ops.size false)&&tailB ops tl (setAll l (Array.replicate ops.size false)))=true) (hl:(tl.length+l.length==ops.size)=true)
    (h:∀ K:St→Prop,(∀ t,Qs .normal t→K t)→contRun P kp ops (.vc (l.filterMap (ops[·]?))) s fun t=>contRun P (List.range t.heap.length) ops (.vc (tl.filterMap (ops[·]?))) ⟨t.tm,hid t.heap⟩ fun u=>K ⟨u.tm,t.heap++u.heap.drop t.heap.length⟩) : AWP P kp n (.region id ops true) s Qs :=
  awp_drawB l tl hm hc (by simpa using hl) h
end
end Go.Aw

namespace Go.Aw
set_option linter.unusedSimpArgs false
set_option linter.unusedVariables false
open Go.RowKit

theorem AC.frame {P:Program} {f:FuncId} {args:List V} {H1:List Blk} {R:V→List Blk→Prop} (h:AC P f args H1 (List.range H1.length) R) (T:List Blk) (kp:List Nat)
    (hb1:belHeap H1.length H1=true) (hb:V.belL H1.length args=true) (hl:∀ x H',R x H'→H'.length=H1.length) :
    AC P f args (H1++T) kp fun x H'=>∃ H1',R x H1'∧H'=H1'++T:=by
  refine ⟨h.1,fun w cargs E F h1 h2 h3 h4 => ?_⟩
  have hlen:E.length=H1.length+T.length:=by rw [h1.len,List.length_append]
  have e1:∀ i,i<H1.length→(E.take H1.length)[i]? = E[i]?:=fun i hi=>List.getElem?_take_of_lt hi
  have t1:∀ (i:Nat) (e:En),(E.take H1.length)[i]? = some e→i<H1.length∧E[i]? = some e:=fun i e he=>by
    have hi:=(List.getElem?_eq_some_iff.1 he).1
    rw [List.length_take] at hi
    rw [e1 i (by omega)] at he
    exact ⟨by omega,he⟩
  have l1:∀ i,i<H1.length→(H1++T)[i]? = H1[i]?:=fun i hi=>List.getElem?_append_left hi
  have ev1:Evo E F w (E.take H1.length) F w (fun i=>i<H1.length):=⟨fun _ h=>h,fun _ _=>rfl,fun i e hi he=>by rw [e1 i hi]; exact he,fun _ _ h=>h⟩
  have hr1:HR (E.take H1.length) F w H1:=by
    refine ⟨by rw [List.length_take]; omega,fun id e b he hb' => ?_,fun id b e blk he hb' hh hlv => ?_,fun i j b ei ej bi bj q1 q2 q3 q4 q5 q6 q7 q8 => ?_⟩
    · obtain ⟨hi,he⟩:=t1 id e he
      exact (h1.blk id e b he (by rw [l1 id hi]; exact hb')).evo ev1 (fun i hi'=>blk_bel_has (belHeap_get hb1 id b hb') hi') fun _ _=>rfl
    · obtain ⟨hi,he⟩:=t1 id e he
      exact h1.free id b e blk he hb' (by rw [l1 id hi]; exact hh) hlv
    · obtain ⟨hi,q1⟩:=t1 i ei q1
      obtain ⟨hj,q2⟩:=t1 j ej q2
      exact h1.inj i j b ei ej bi bj q1 q2 q3 q4 (by rw [l1 i hi]; exact q5) (by rw [l1 j hj]; exact q6) q7 q8
  have hcr:CR (E.take H1.length) F w args cargs:=⟨h4.1,fun j x v hx hv=>(h4.2 j x v hx hv).evo ev1 (bel_has _ x (belL_mem hb (List.mem_of_getElem? hx)))⟩
  refine (h.2 w cargs (E.take H1.length) F hr1 h2 (fun i hi=>List.mem_range.1 hi) hcr).mono ?_
  rintro e w' ⟨v,x,H1',E',F',rfl,hR,hrel,hx⟩
  have hn:=hl x H1' hR
  have hE':E'.length=H1.length:=by rw [hrel.hr.len]; exact hn
  have ownUp:∀ b,own (E.take H1.length) H1 b→own E (H1++T) b:=fun b ⟨id,e,blk,q1,q2,q3,q4⟩=>by
    obtain ⟨hi,q1⟩:=t1 id e q1
    exact ⟨id,e,blk,q1,by rw [l1 id hi]; exact q2,q3,q4⟩
  have a1:∀ (i:Nat) (e:En),E'[i]? = some e→(E'++E.drop H1.length)[i]? = some e:=fun i e he=>by
    rw [List.getElem?_append_left (List.getElem?_eq_some_iff.1 he).1]; exact he
  have a2:∀ i,¬ i<H1.length→(E'++E.drop H1.length)[i]? = E[i]?:=fun i hi=>by
    rw [List.getElem?_append_right (by omega),List.getElem?_drop,hE',show H1.length+(i - H1.length)=i by omega]
  have a3:∀ (i:Nat) (e:En),E[i]? = some e→(E'++E.drop H1.length)[i]? = some e:=fun i e he=>by
    by_cases hi:i<H1.length
    · obtain ⟨e',q1,q2⟩:=hrel.keep i (List.mem_range.2 hi)
      dsimp only at q2
      rw [e1 i hi,he] at q2
      cases q2
      exact a1 i e q1
    · rw [a2 i hi]; exact he
  have b1:∀ i,i<H1.length→(H1'++T)[i]? = H1'[i]?:=fun i hi=>List.getElem?_append_left (by omega)
  have b2:∀ i,¬ i<H1.length→(H1'++T)[i]? = (H1++T)[i]?:=fun i hi=>by
    rw [List.getElem?_append_right (by omega),List.getElem?_append_right (by omega),hn]
  have c1:∀ (i:Nat) (e:En),i<H1.length→(E'++E.drop H1.length)[i]? = some e→E'[i]? = some e:=fun i e hi he=>by
    rwa [List.getElem?_append_left (by omega)] at he
  have nown:∀ b,F b→¬ own (E.take H1.length) H1 b:=fun b hf ⟨id,e,blk,q1,q2,q3,q4⟩=>(hr1.free id b e blk q1 q4 q2 q3).2 hf
  have notT:∀ (id:Nat) (e:En) (blk:Blk) (b:Nat),¬ id<H1.length→E[id]? = some e→(H1++T)[id]? = some blk→blk.live=true→e.blk=some b→¬ own (E.take H1.length) H1 b:=fun id e blk b hi q1 q2 q3 q4 ⟨id',e',blk',p1,p2,p3,p4⟩=>by
    obtain ⟨hi',p1⟩:=t1 id' e' p1
    have:=h1.inj id id' b e e' blk blk' q1 p1 q4 p4 q2 (by rw [l1 id' hi']; exact p2) q3 p3
    omega
  have sameT:∀ b,b<w.heap.size→¬ own (E.take H1.length) H1 b→w'.heap[b]? = w.heap[b]?:=fun b hb hno=>hrel.same b hb hno
  have ev:Evo E F w (E'++E.drop H1.length) F' w' (fun _=>True):=⟨hrel.F0,fun b hb=>sameT b (h2 b hb) (nown b hb),fun i e _ he=>a3 i e he,hrel.sz⟩
  have ev2:Evo E' F' w' (E'++E.drop H1.length) F' w' (fun _=>True):=⟨fun _ h=>h,fun _ _=>rfl,fun i e _ he=>a1 i e he,fun _ _ h=>h⟩
  have nF:∀ b,b<w.heap.size→¬ F b→¬ own (E.take H1.length) H1 b→¬ F' b:=fun b hb hf hno hf'=>by
    rcases hrel.only b hf' with q | q | q
    · exact hf q
    · exact absurd hb (Nat.not_lt.2 q)
    · exact hno q
  refine ⟨v,x,H1'++T,E'++E.drop H1.length,F',rfl,⟨H1',hR,rfl⟩,⟨hrel.os,hrel.tape,hrel.output,hrel.size,hrel.F0,fun b hb => ?_,fun b q1 q2=>sameT b q1 fun q=>q2 (ownUp b q),hrel.lt,⟨?_,?_,?_,?_⟩,?_,fun i hi => ?_,hrel.sz⟩,hx.evo ev2 fun _ _=>trivial⟩
  · exact (hrel.only b hb).imp id fun q=>q.imp id (ownUp b)
  · show (E'++E.drop H1.length).length=(H1'++T).length
    rw [List.length_append,List.length_append,List.length_drop]; omega
  · intro id e b he hbb
    by_cases hi:id<H1.length
    · exact (hrel.hr.blk id e b (c1 id e hi he) (by rw [← b1 id hi]; exact hbb)).evo ev2 (fun _ _=>trivial) fun _ _=>rfl
    · rw [a2 id hi] at he
      have hbb':(H1++T)[id]? = some b:=by rw [← b2 id hi]; exact hbb
      cases hlv:b.live with
      | false=>cases b <;> first | trivial | cases hlv
      | true=>exact (h1.blk id e b he hbb').evo ev (fun _ _=>trivial) fun c hc=>sameT c (h1.free id c e b he hc hbb' hlv).1 (notT id e b c hi he hbb' hlv hc)
  · intro id b e blk he hb' hh hlv
    by_cases hi:id<H1.length
    · exact hrel.hr.free id b e blk (c1 id e hi he) hb' (by rw [← b1 id hi]; exact hh) hlv
    · rw [a2 id hi] at he
      have hh':(H1++T)[id]? = some blk:=by rw [← b2 id hi]; exact hh
      obtain ⟨q1,q2⟩:=h1.free id b e blk he hb' hh' hlv
      exact ⟨Nat.lt_of_lt_of_le q1 hrel.size,nF b q1 q2 (notT id e blk b hi he hh' hlv hb')⟩
  · intro i j b ei ej bi bj q1 q2 q3 q4 q5 q6 q7 q8
    have mix:∀ (i j:Nat) (ei ej:En) (bi bj:Blk),i<H1.length→¬ j<H1.length→(E'++E.drop H1.length)[i]? = some ei→(E'++E.drop H1.length)[j]? = some ej→ei.blk=some b→ej.blk=some b→(H1'++T)[i]? = some bi→(H1'++T)[j]? = some bj→bi.live=true→bj.live=true→False:=by
      intro i j ei ej bi bj hi hj q1 q2 q3 q4 q5 q6 q7 q8
      rw [a2 j hj] at q2
      rw [b2 j hj] at q6
      have hlt:=(h1.free j b ej bj q2 q4 q6 q8).1
      rcases hrel.src i b ei bi (c1 i ei hi q1) (by rw [← b1 i hi]; exact q5) q7 q3 with q | q
      · exact absurd hlt (Nat.not_lt.2 q)
      · exact notT j ej bj b hj q2 q6 q8 q4 q
    by_cases hi:i<H1.length <;> by_cases hj:j<H1.length
    · exact hrel.hr.inj i j b ei ej bi bj (c1 i ei hi q1) (c1 j ej hj q2) q3 q4 (by rw [← b1 i hi]; exact q5) (by rw [← b1 j hj]; exact q6) q7 q8
    · exact (mix i j ei ej bi bj hi hj q1 q2 q3 q4 q5 q6 q7 q8).elim
    · exact (mix j i ej ei bj bi hj hi q2 q1 q4 q3 q6 q5 q8 q7).elim
    · rw [a2 i hi] at q1
      rw [a2 j hj] at q2
      rw [b2 i hi] at q5
      rw [b2 j hj] at q6
      exact h1.inj i j b ei ej bi bj q1 q2 q3 q4 q5 q6 q7 q8
  · intro id b e blk he hh hlv hb'
    by_cases hi:id<H1.length
    · exact (hrel.src id b e blk (c1 id e hi he) (by rw [← b1 id hi]; exact hh) hlv hb').imp (fun q=>q) (ownUp b)
    · rw [a2 id hi] at he
      exact .inr ⟨id,e,blk,he,by rw [← b2 id hi]; exact hh,hlv,hb'⟩
  · have hi':=h3 i hi
    obtain ⟨e,he⟩ : ∃ e,E[i]? = some e:=⟨_,List.getElem?_eq_getElem (by rw [List.length_append] at hi'; omega)⟩
    exact ⟨e,a3 i e he,he⟩
end Go.Aw

namespace Go.Aw
set_option linter.unusedSimpArgs false
set_option linter.unusedVariables false
open Go.RowKit

theorem AC.at {P:Program} {f:FuncId} {args:List V} {es:List (V × V)} {R:V→List Blk→Prop} (h:AC P f args [.mp es] [0] R) (k:Nat) (H:List Blk) (kp:List Nat) (hk:H[k]? = some (.mp es)) (hb0:Blk.bel 0 (.mp es)=true) (hbel:V.belL 1 args=true)
    (hR:∀ x H',R x H'→V.bel 0 x=true∧∃ es',H'=[.mp es']∧Blk.bel 0 (.mp es')=true) :
    AC P f (args.map (V.ren [k])) H kp fun x H'=>∃ es',R x [.mp es']∧H'=H.set k (.mp es'):=by
  refine ⟨h.1,fun w cargs E F h1 h2 h3 h4 => ?_⟩
  have hkl:=(List.getElem?_eq_some_iff.1 hk).1
  obtain ⟨e0,he0⟩ : ∃ e,E[k]? = some e:=⟨_,List.getElem?_eq_getElem (by rw [h1.len]; exact hkl)⟩
  have no:∀ {b:Blk} {i:Nat},Blk.bel 0 b=true→Blk.has i b=true→False:=fun hb hi=>absurd (blk_bel_has hb hi) (Nat.not_lt_zero _)
  have one:∀ (id:Nat) (e:En),[e0][id]? = some e→id=0∧e=e0:=fun id e he=>by
    cases id with
    | zero=>simp at he; exact ⟨rfl,he.symm⟩
    | succ id=>simp at he
  have oneB:∀ (id:Nat) (b:Blk) (es:List (V × V)),[Blk.mp es][id]? = some b→b=.mp es:=fun id b es hb=>by
    cases id with
    | zero=>simp at hb; exact hb.symm
    | succ id=>simp at hb
  have hr1:HR [e0] F w [.mp es]:=by
    refine ⟨rfl,fun id e b he hb' => ?_,fun id b e blk he hb' hh hlv => ?_,fun i j b ei ej bi bj q1 q2 _ _ _ _ _ _ => ?_⟩
    · obtain ⟨rfl,rfl⟩:=one id e he
      obtain rfl:=oneB _ b _ hb'
      exact (h1.blk k e _ he0 hk).evo (ok:=fun _=>False) ⟨fun _ h=>h,fun _ _=>rfl,fun _ _ hf _=>hf.elim,fun _ _ h=>h⟩ (fun i hi=>no hb0 hi) fun _ _=>rfl
    · obtain ⟨rfl,rfl⟩:=one id e he
      obtain rfl:=oneB _ blk _ hh
      exact h1.free k b e _ he0 hb' hk hlv
    · rw [(one i ei q1).1,(one j ej q2).1]
  have hcr:CR [e0] F w args cargs:=by
    refine ⟨by simpa using h4.1,fun j x v hx hv => ?_⟩
    have hx':(args.map (V.ren [k]))[j]? = some (V.ren [k] x):=by rw [List.getElem?_map,hx]; rfl
    refine ren_VR (E:=E) (E':=[e0]) (r:=[k]) (fun j i hj => ?_) (h4.2 j _ v hx' hv) x rfl (belL_mem hbel (List.mem_of_getElem? hx))
    cases j with
    | zero=>simp at hj; subst hj; rw [he0]; rfl
    | succ j=>simp at hj
  refine (h.2 w cargs [e0] F hr1 h2 (fun i hi=>by simp at hi; subst hi; exact Nat.one_pos) hcr).mono ?_
  rintro e w' ⟨v,x,H1',E',F',rfl,hRx,hrel,hx⟩
  obtain ⟨hxb,es',rfl,hb'⟩:=hR x H1' hRx
  have hE':E'[0]? = some e0:=by
    obtain ⟨e,q1,q2⟩:=hrel.keep 0 (by simp)
    dsimp only at q2
    simp at q2
    subst q2
    exact q1
  have ownUp:∀ b,own [e0] [.mp es] b→own E H b:=fun b ⟨id,e,blk,q1,q2,q3,q4⟩=>by
    obtain ⟨rfl,rfl⟩:=one id e q1
    obtain rfl:=oneB _ blk _ q2
    exact ⟨k,e,_,he0,hk,q3,q4⟩
  have nown:∀ b,F b→¬ own [e0] [.mp es] b:=fun b hf ⟨id,e,blk,q1,q2,q3,q4⟩=>(hr1.free id b e blk q1 q4 q2 q3).2 hf
  have notT:∀ (id:Nat) (e:En) (blk:Blk) (b:Nat),id≠k→E[id]? = some e→H[id]? = some blk→blk.live=true→e.blk=some b→¬ own [e0] [.mp es] b:=fun id e blk b hi q1 q2 q3 q4 ⟨id',e',blk',p1,p2,p3,p4⟩=>by
    obtain ⟨rfl,rfl⟩:=one id' e' p1
    obtain rfl:=oneB _ blk' _ p2
    exact hi (h1.inj id k b e e' blk _ q1 he0 q4 p4 q2 hk q3 p3)
  have sameT:∀ b,b<w.heap.size→¬ own [e0] [.mp es] b→w'.heap[b]? = w.heap[b]?:=fun b hb hno=>hrel.same b hb hno
  have ev:Evo E F w E F' w' (fun _=>True):=⟨hrel.F0,fun b hb=>sameT b (h2 b hb) (nown b hb),fun i e _ he=>he,hrel.sz⟩
  have nF:∀ b,b<w.heap.size→¬ F b→¬ own [e0] [.mp es] b→¬ F' b:=fun b hb hf hno hf'=>by
    rcases hrel.only b hf' with q | q | q
    · exact hf q
    · exact absurd hb (Nat.not_lt.2 q)
    · exact hno q
  have g1:∀ (blk:Blk),(H.set k (.mp es'))[k]? = some blk→blk=.mp es':=fun blk hb=>by
    rw [List.getElem?_set_self hkl] at hb
    exact (Option.some.inj hb).symm
  have g2:∀ (id:Nat),id≠k→(H.set k (.mp es'))[id]? = H[id]?:=fun id hi=>List.getElem?_set_ne (Ne.symm hi)
  refine ⟨v,x,H.set k (.mp es'),E,F',rfl,⟨es',hRx,rfl⟩,⟨hrel.os,hrel.tape,hrel.output,hrel.size,hrel.F0,fun b hb => ?_,fun b q1 q2=>sameT b q1 fun q=>q2 (ownUp b q),hrel.lt,⟨?_,?_,?_,?_⟩,?_,fun i hi => ?_,hrel.sz⟩,
    hx.evo (ok:=fun _=>False) ⟨fun _ h=>h,fun _ _=>rfl,fun _ _ hf _=>hf.elim,fun _ _ h=>h⟩ fun i hi=>absurd (bel_has 0 x hxb i hi) (Nat.not_lt_zero _)⟩
  · exact (hrel.only b hb).imp id fun q=>q.imp id (ownUp b)
  · show E.length=(H.set k (.mp es')).length
    rw [List.length_set,h1.len]
  · intro id e b he hbb
    by_cases hi:id=k
    · subst hi
      obtain rfl:=g1 b hbb
      rw [he0] at he
      cases he
      exact (hrel.hr.blk 0 e0 _ hE' rfl).evo (ok:=fun _=>False) ⟨fun _ h=>h,fun _ _=>rfl,fun _ _ hf _=>hf.elim,fun _ _ h=>h⟩ (fun i hi=>no hb' hi) fun _ _=>rfl
    · rw [show (H.set k (.mp es'))[id]? = H[id]? from g2 id hi] at hbb
      cases hlv:b.live with
      | false=>cases b <;> first | trivial | cases hlv
      | true=>exact (h1.blk id e b he hbb).evo ev (fun _ _=>trivial) fun c hc=>sameT c (h1.free id c e b he hc hbb hlv).1 (notT id e b c hi he hbb hlv hc)
  · intro id b e blk he hb2 hh hlv
    by_cases hi:id=k
    · subst hi
      obtain rfl:=g1 blk hh
      rw [he0] at he
      cases he
      exact hrel.hr.free 0 b e0 _ hE' hb2 rfl hlv
    · rw [show (H.set k (.mp es'))[id]? = H[id]? from g2 id hi] at hh
      obtain ⟨q1,q2⟩:=h1.free id b e blk he hb2 hh hlv
      exact ⟨Nat.lt_of_lt_of_le q1 hrel.size,nF b q1 q2 (notT id e blk b hi he hh hlv hb2)⟩
  · intro i j b ei ej bi bj q1 q2 q3 q4 q5 q6 q7 q8
    have mix:∀ (j:Nat) (ei ej:En) (bj:Blk),j≠k→E[k]? = some ei→E[j]? = some ej→ei.blk=some b→ej.blk=some b→(H.set k (.mp es'))[j]? = some bj→bj.live=true→False:=by
      intro j ei ej bj hj q1 q2 q3 q4 q6 q8
      rw [g2 j hj] at q6
      rw [he0] at q1
      cases q1
      exact notT j ej bj b hj q2 q6 q8 q4 ⟨0,e0,.mp es,rfl,rfl,rfl,q3⟩
    by_cases hi:i=k <;> by_cases hj:j=k
    · omega
    · subst hi
      exact (mix j ei ej bj hj q1 q2 q3 q4 q6 q8).elim
    · subst hj
      exact (mix i ej ei bi hi q2 q1 q4 q3 q5 q7).elim
    · rw [show (H.set k (.mp es'))[i]? = H[i]? from g2 i hi] at q5
      rw [show (H.set k (.mp es'))[j]? = H[j]? from g2 j hj] at q6
      exact h1.inj i j b ei ej bi bj q1 q2 q3 q4 q5 q6 q7 q8
  · intro id b e blk he hh hlv hb2
    by_cases hi:id=k
    · subst hi
      obtain rfl:=g1 blk hh
      rw [he0] at he
      cases he
      exact (hrel.src 0 b e0 _ hE' rfl hlv hb2).imp (fun q=>q) (ownUp b)
    · rw [show (H.set k (.mp es'))[id]? = H[id]? from g2 id hi] at hh
      exact .inr ⟨id,e,blk,he,hh,hlv,hb2⟩
  · have hi':=h3 i hi
    obtain ⟨e,he⟩ : ∃ e,E[i]? = some e:=⟨_,List.getElem?_eq_getElem (by rw [h1.len]; exact hi')⟩
    exact ⟨e,he,he⟩
end Go.Aw
