/-
  Texts of the library,one behind the other. Over any program; no condition.
-/
import Derived.Test.YtlimahhonfckdaaGreatDoorPkB
namespace Go.Aw
set_option linter.unusedSimpArgs false
set_option linter.unusedVariables false
open Go.RowKit

def OpsVC (P:Program) (kp:List Nat) (ops:Array Oper) : List Oper→St→(St→Prop)→Prop
  | [],s,K=>K s
  | o::r,s,K=>OpVC P kp ops o s fun s'=>OpsVC P kp ops r s' K

theorem CallD.imp {P:Program} {g gd:Bool} {f:FuncId} {args:List D} {K K':V→List Blk→Prop} (h:CallD P g gd f args K) (hk:∀ x H,K x H→K' x H) : CallD P g gd f args K':=by
  rcases h with ⟨h1,R,h3,h4⟩ | ⟨h1,x0,h3,h4⟩
  · exact .inl ⟨h1,R,h3,fun x H hr=>hk _ _ (h4 x H hr)⟩
  · exact .inr ⟨h1,x0,h3,hk _ _ h4⟩

theorem OpVC.imp {P:Program} {kp:List Nat} {ops:Array Oper} {o:Oper} {s:St} {K K':St→Prop} (h:OpVC P kp ops o s K) (hk:∀ t,K t→K' t) : OpVC P kp ops o s K':=by
  unfold OpVC at *
  split at h
  · exact h.elim
  · rename_i hg
    simp only [hg]
    split at h
    · rename_i hq; exact ⟨h.1,hk _ h.2⟩
    · rename_i hq
      split at h
      · rename_i he
        split at h
        · exact ⟨h.1,hk _ h.2⟩
        · exact hk _ h
      · rename_i he
        split at h
        · rename_i c hc
          dsimp only at h ⊢
          split at h
          · rename_i hT
            split at h
            · rename_i hds
              exact ⟨h.1,h.2.imp fun x H hx=>hk _ hx⟩
            · exact h.imp hk
          · exact h.imp hk
        · rename_i x hc
          split at h
          · exact ⟨h.1,h.2.1,h.2.2.1,fun hall=>hk _ (h.2.2.2.1 hall),fun j p hj hns=>hk _ (h.2.2.2.2 j p hj hns)⟩
          · exact h.imp hk
        · exact h.imp hk
        · exact h.imp hk

variable {P:Program} {ops:Array Oper} {Q:Exit→Act→World→Prop}

def dstsOk (n:Nat) (ops:Array Oper) : Bool:=ops.all fun o=>match o.dst with | some d=>decide (d<n) | none=>true

theorem dstsOk_spec {n:Nat} (h:dstsOk n ops=true) {i:Nat} {o:Oper} (hi:ops[i]? = some o) : ∀ d,o.dst=some d→d<n:=by
  intro d hd
  have:=Array.all_eq_true.1 h i (Array.getElem?_eq_some_iff.1 hi).1
  have e:ops[i]'(Array.getElem?_eq_some_iff.1 hi).1=o:=(Array.getElem?_eq_some_iff.1 hi).2
  rw [e] at this
  simpa [hd] using this

theorem size_put (a:Act) (d:Option Tmp) (v:Value) : (a.put d v).tmps.size=a.tmps.size:=by
  cases d <;> simp [Act.put]

theorem ops_sound {B:Base} {n:Nat} (hd:dstsOk n ops=true) : ∀ (l:List Nat) (s:St) (a:Act) (w:World) (E:Env) (F:Nat→Prop) (K:St→Prop),a.tmps.size=n→Sim B s a w E F →
    OpsVC P B.keep ops (l.filterMap (ops[·]?)) s K→(∀ i,i∈l→i<ops.size) →
    (∀ a' w' s' E' F',K s'→Sim B s' a' w' E' F'→a'.tmps.size=n→Q .normal a' w')→wpOps P ops Q l a w
  | [],s,a,w,E,F,K,hn,hs,h,_,hq=>hq a w s E F h hs hn
  | i::l,s,a,w,E,F,K,hn,hs,h,hl,hq=>by
    have hi:i<ops.size:=hl i (by simp)
    have ho:ops[i]? = some ops[i]:=Array.getElem?_eq_getElem hi
    simp only [List.filterMap_cons,ho,OpsVC] at h
    have ih:=fun s a w E F hn hs h=>ops_sound hd l s a w E F K hn hs h (fun j hj=>hl j (by simp [hj])) hq
    simp only [wpOps,ho]
    rcases op_sound (Q:=Q) hs (fun d hd'=>by rw [hn]; exact dstsOk_spec hd ho d hd') h with ⟨v,s',hK,hs',hw⟩ | ⟨_,hw⟩
    · have ih':=ih s' _ w E F (by rw [size_put]; exact hn) hs' hK
      rcases hw with ⟨hw,hrun⟩ | ⟨hw,rfl⟩
      · rw [hw,if_pos rfl]
        refine .inl ?_
        unfold Oper.wp
        rw [hrun w (Keep.refl w)]
        exact ih'
      · rw [hw]
        exact ih'
    · rcases hw with ⟨hw,hwp⟩ | ⟨hw,s',F',hK,hs'⟩
      · rw [hw,if_pos rfl]
        exact .inl (Oper.wp_mono (fun a' w' ⟨_,v,s',E',F',ha,hK,hs'⟩=>by subst ha; exact ih s' _ w' E' F' (by rw [size_put]; exact hn) hs' hK) hwp)
      · rw [hw]
        exact ih s' _ w E F' (by rw [size_put]; exact hn) hs' hK

def wpAnyT (P:Program) (ops:Array Oper) (Q:Exit→Act→World→Prop) : Nat→Array Bool→Act→World→Prop
  | 0,listed,a,w=>Region.ready .any ops listed=[]∧Q .normal a w
  | fuel+1,listed,a,w =>
    (Region.ready .any ops listed=[]→Q .normal a w) ∧
    ∀ i∈Region.ready .any ops listed,wpOp P ops Q i (fun a' w'=>(((ops[i]?).map fun o=>kindT o.op).getD false=true∨Keep w w')∧wpAnyT P ops Q fuel (listed.setIfInBounds i true) a' w') a w

theorem wpAny_of_T:∀ (fuel:Nat) (listed:Array Bool) (a:Act) (w:World),wpAnyT P ops Q fuel listed a w→wpAny P .any ops Q fuel listed a w
  | 0,_,_,_,h=>h
  | fuel+1,_,_,_,h=>⟨h.1,fun i hi=>wpOp_mono (fun a' w' h'=>wpAny_of_T fuel _ a' w' h'.2) (h.2 i hi)⟩

theorem Keep.trans {a b c:World} (h:Keep a b) (h':Keep b c) (hs:a.heap.size≤b.heap.size) : Keep a c:=fun i hi=>(h' i (Nat.lt_of_lt_of_le hi hs)).trans (h i hi)

theorem Keep.size {a b:World} (h:Keep a b) : a.heap.size≤b.heap.size:=by
  rcases Nat.lt_or_ge b.heap.size a.heap.size with hl | hl
  · have:=h b.heap.size hl
    rw [Array.getElem?_eq_none (Nat.le_refl _),Array.getElem?_eq_getElem hl] at this
    cases this
  · exact hl

def YieldsK (P:Program) (ops:Array Oper) (w:World) (o:Oper) (v:Value) (a:Act) : Prop :=
  (Region.wanted o (yielded ops a.tmps)=true∧∀ w',Keep w w'→(execOp a.eval o).run P w'=.ok (.value v) w') ∨
  (Region.wanted o (yielded ops a.tmps)=false∧v=undef)

theorem YieldsK.later {w w':World} {o:Oper} {v:Value} {a:Act} (h:YieldsK P ops w o v a) (hk:Keep w w') : YieldsK P ops w' o v a :=
  h.imp (fun ⟨h1,h2⟩=>⟨h1,fun w'' hk'=>h2 w'' (hk.trans hk' hk.size)⟩) id

theorem YieldsK.wpOp {i:Nat} {o:Oper} {v:Value} {a:Act} {w:World} (hi:ops[i]? = some o) (hy:YieldsK P ops w o v a) {K:Act→World→Prop} (h:K (a.put o.dst v) w) : wpOp P ops Q i K a w:=by
  unfold Go.wpOp
  simp only [hi]
  rcases hy with ⟨hw,hv⟩ | ⟨hw,rfl⟩
  · simp only [hw,if_true,Oper.wp,hv w (Keep.refl w),Oper.upon]; exact .inl h
  · simp only [hw,Bool.false_eq_true,if_false]; exact h

theorem YieldsK.of_same {w:World} {o:Oper} {v:Value} {a a':Act} (hy:YieldsK P ops w o v a) (he:execOp a'.eval o=execOp a.eval o)
    (hw:Region.wanted o (yielded ops a'.tmps)=Region.wanted o (yielded ops a.tmps)) : YieldsK P ops w o v a':=by
  unfold YieldsK at *
  rw [he,hw]
  exact hy

theorem wpOp_putK {j:Nat} {oi oj:Oper} {v:Value} (hj:ops[j]? = some oj) (hap:oi.apart ops oj=true)
    (hsi:∀ cs b,oi.op≠.select cs b) (hsj:∀ cs b,oj.op≠.select cs b)
    (hQ:∀ c a w,Q (.panic c) (a.put oi.dst v) w→Q (.panic c) a w) {K:Act→World→Prop} {a:Act} {w:World}
    (hy:YieldsK P ops w oi v a) (h:wpOp P ops Q j K (a.put oi.dst v) w) :
    wpOp P ops Q j (fun a' w'=>YieldsK P ops w oi v a'∧K (a'.put oi.dst v) w') a w:=by
  obtain ⟨h1,h2,h3⟩:=Oper.apart_spec hap
  have keep:∀ (a:Act),YieldsK P ops w oi v a→∀ u,YieldsK P ops w oi v (a.put oj.dst u):=fun a hy u =>
    hy.of_same (execOp_put oi hsi a oj.dst u h3) (wanted_put oi a oj.dst u h3)
  have keepD:∀ d,YieldsK P ops w oi v { a with defers:=d::a.defers }:=fun d=>hy.of_same rfl rfl
  unfold wpOp at *
  simp only [hj] at *
  rw [wanted_put oj a oi.dst v h1] at h
  split
  · rename_i hw
    simp only [hw,if_true] at h
    rcases h with h | ⟨hasks,hlets⟩
    case inr=>exact .inr ⟨by unfold Oper.asks at *; rw [execOp_put oj hsj a oi.dst v h1] at hasks; exact hasks,hlets⟩
    refine .inl ?_
    unfold Oper.wp at *
    rw [execOp_put oj hsj a oi.dst v h1] at h
    generalize (execOp a.eval oj).run P w=r at *
    cases r with
    | ok n w' =>
      cases n <;> simp only [Oper.upon] at h ⊢
      case value u=>exact ⟨keep a hy u,by rw [← Act.put_comm a v u h2]; exact h⟩
      case skip=>exact ⟨keep a hy _,by rw [← Act.put_comm a v undef h2]; exact h⟩
      case defer d =>
        refine ⟨keep _ (keepD d) _,?_⟩
        rw [← Act.put_comm _ v undef h2,← Act.put_defers]
        exact h
      case enter f args =>
        refine Calls.mono h fun e w'' he => ?_
        cases e with
        | returned u=>exact ⟨keep a hy u,by rw [← Act.put_comm a v u h2]; exact he⟩
        | panicked c=>exact hQ _ _ _ he
        | outgrown=>exact he
      case row row args=>exact Rows.mono h fun u w'' he=>⟨keep a hy u,by rw [← Act.put_comm a v u h2]; exact he⟩
    | halt x w' =>
      cases x <;> simp only [Oper.upon] at h ⊢
      case panic u=>exact hQ _ _ _ h
  · rename_i hw
    simp only [hw] at h
    exact ⟨keep a hy _,by rw [← Act.put_comm a v undef h2]; exact h⟩

theorem wpAnyT_first {i:Nat} {oi:Oper} {v:Value} (hi:ops[i]? = some oi) (hsel:∀ (j:Nat) (o:Oper) cs b,ops[j]? = some o→o.op≠.select cs b)
    (hQ:∀ c a w,Q (.panic c) (a.put oi.dst v) w→Q (.panic c) a w) :
    ∀ (fuel:Nat) (listed:Array Bool) (a:Act) (w:World),
      (∀ j oj,ops[j]? = some oj→j≠i→listed.getD j true=false→(∀ e∈oj.after,Region.binds .any e=true→e.on≠i)→oi.apart ops oj=true∧kindT oj.op=false) →
      i∈Region.ready .any ops listed→YieldsK P ops w oi v a →
      wpAnyT P ops Q fuel (listed.setIfInBounds i true) (a.put oi.dst v) w→wpAnyT P ops Q (fuel+1) listed a w:=by
  intro fuel
  induction fuel with
  | zero =>
    intro listed a w _ hr hy H
    refine ⟨fun h=>(by rw [h] at hr; cases hr),fun j hj => ?_⟩
    by_cases hji:j=i
    · subst hji; exact hy.wpOp hi ⟨.inr (Keep.refl w),H⟩
    · have:=ready_mono hj hji
      rw [H.1] at this
      cases this
  | succ fuel ih =>
    intro listed a w hfree hr hy H
    refine ⟨fun h=>(by rw [h] at hr; cases hr),fun j hj => ?_⟩
    by_cases hji:j=i
    · subst hji; exact hy.wpOp hi ⟨.inr (Keep.refl w),H⟩
    · have h1:=H.2 j (ready_mono hj hji)
      obtain ⟨hjun,oj,hoj,hall⟩:=mem_ready.1 hj
      have hnot:∀ e∈oj.after,Region.binds .any e=true→e.on≠i:=fun e he hb heq=>by
        have h1:=hall e he hb
        have h0:=(mem_ready.1 hr).1
        rw [heq] at h1
        rcases Nat.lt_or_ge i listed.size with h' | h'
        · simp [h'] at h0 h1; rw [h0] at h1; cases h1
        · simp [Array.getElem?_eq_none h'] at h1
      obtain ⟨hap,hnt⟩:=hfree j oj hoj hji hjun hnot
      have h2:=wpOp_putK hoj hap (fun cs b=>hsel i oi cs b hi) (fun cs b=>hsel j oj cs b hoj) hQ hy h1
      have hfree':∀ k ok,ops[k]? = some ok→k≠i→(listed.setIfInBounds j true).getD k true=false →
          (∀ e∈ok.after,Region.binds .any e=true→e.on≠i)→oi.apart ops ok=true∧kindT ok.op=false:=fun k ok hk hki hun hno=>by
        refine hfree k ok hk hki ?_ hno
        by_cases hjk:j=k
        · subst hjk; exact hjun
        · rw [getD_set_ne true hjk] at hun; exact hun
      refine wpOp_mono (fun a' w' h3 => ?_) h2
      obtain ⟨g1,g2,g3⟩:=h3
      have hkw:Keep w w':=by
        rcases g2 with g2 | g2
        · rw [hoj] at g2; simp [hnt] at g2
        · exact g2
      refine ⟨.inr hkw,ih (listed.setIfInBounds j true) a' w' hfree' (ready_mono hr (Ne.symm hji)) (g1.later hkw) ?_⟩
      rw [Array.setIfInBounds_comm _ _ hji]
      exact g3

theorem wpAnyT_firstS {i:Nat} {oi:Oper} {v:Value} (S:List Nat) (hi:ops[i]? = some oi) (hsel:∀ (j:Nat) (o:Oper) cs b,ops[j]? = some o→o.op≠.select cs b)
    (hQ:∀ c a w,Q (.panic c) (a.put oi.dst v) w→Q (.panic c) a w) :
    ∀ (fuel:Nat) (listed:Array Bool) (a:Act) (w:World),
      (∀ j oj,ops[j]? = some oj→j≠i→listed.getD j true=false→j ∉ S→oi.apart ops oj=true∧kindT oj.op=false) →
      (∀ j,j∈S→listed.getD j true=false∧∃ oj e,ops[j]? = some oj∧e∈oj.after∧Region.binds .any e=true∧(e.on=i∨e.on∈S)) →
      i∈Region.ready .any ops listed→YieldsK P ops w oi v a →
      wpAnyT P ops Q fuel (listed.setIfInBounds i true) (a.put oi.dst v) w→wpAnyT P ops Q (fuel+1) listed a w:=by
  intro fuel
  induction fuel with
  | zero =>
    intro listed a w _ _ hr hy H
    refine ⟨fun h=>(by rw [h] at hr; cases hr),fun j hj => ?_⟩
    by_cases hji:j=i
    · subst hji; exact hy.wpOp hi ⟨.inr (Keep.refl w),H⟩
    · have:=ready_mono hj hji
      rw [H.1] at this
      cases this
  | succ fuel ih =>
    intro listed a w hfree hS hr hy H
    refine ⟨fun h=>(by rw [h] at hr; cases hr),fun j hj => ?_⟩
    by_cases hji:j=i
    · subst hji; exact hy.wpOp hi ⟨.inr (Keep.refl w),H⟩
    · have h1:=H.2 j (ready_mono hj hji)
      obtain ⟨hjun,oj,hoj,hall⟩:=mem_ready.1 hj
      have notOn:∀ k,listed.getD k true=false→∀ e∈oj.after,Region.binds .any e=true→e.on≠k:=fun k h0 e he hb heq=>by
        have h1:=hall e he hb
        rw [heq] at h1
        rcases Nat.lt_or_ge k listed.size with h' | h'
        · simp [h'] at h0 h1; rw [h0] at h1; cases h1
        · simp [Array.getElem?_eq_none h'] at h1
      have hjS:j ∉ S:=fun hjS=>by
        obtain ⟨_,ok,e,hok,he,hb,hon⟩:=hS j hjS
        rw [hoj] at hok
        cases hok
        rcases hon with hon | hon
        · exact notOn i (mem_ready.1 hr).1 e he hb hon
        · exact notOn e.on (hS _ hon).1 e he hb rfl
      obtain ⟨hap,hnt⟩:=hfree j oj hoj hji hjun hjS
      have h2:=wpOp_putK hoj hap (fun cs b=>hsel i oi cs b hi) (fun cs b=>hsel j oj cs b hoj) hQ hy h1
      have hfree':∀ k ok,ops[k]? = some ok→k≠i→(listed.setIfInBounds j true).getD k true=false→k ∉ S→oi.apart ops ok=true∧kindT ok.op=false:=fun k ok hk hki hun hno=>by
        refine hfree k ok hk hki ?_ hno
        by_cases hjk:j=k
        · subst hjk; exact hjun
        · rw [getD_set_ne true hjk] at hun; exact hun
      have hS':∀ k,k∈S→(listed.setIfInBounds j true).getD k true=false∧∃ oj e,ops[k]? = some oj∧e∈oj.after∧Region.binds .any e=true∧(e.on=i∨e.on∈S):=fun k hk=>by
        obtain ⟨q1,q2⟩:=hS k hk
        have hjk:j≠k:=fun e=>hjS (e ▸ hk)
        exact ⟨by rw [getD_set_ne true hjk]; exact q1,q2⟩
      refine wpOp_mono (fun a' w' h3 => ?_) h2
      obtain ⟨g1,g2,g3⟩:=h3
      have hkw:Keep w w':=by
        rcases g2 with g2 | g2
        · rw [hoj] at g2; simp [hnt] at g2
        · exact g2
      refine ⟨.inr hkw,ih (listed.setIfInBounds j true) a' w' hfree' hS' (ready_mono hr (Ne.symm hji)) (g1.later hkw) ?_⟩
      rw [Array.setIfInBounds_comm _ _ hji]
      exact g3

def freeT1 (ops:Array Oper) (listed:Array Bool) (i:Nat) : Bool :=
  match ops[i]? with
  | none=>false
  | some oi=>(List.range ops.size).all fun j=>match ops[j]? with
    | none=>true
    | some oj=>j==i||listed.getD j true||(oj.after.any fun e=>Region.binds .any e&&e.on==i)||(oi.apart ops oj && !kindT oj.op)

theorem freeT1_spec {listed:Array Bool} {i:Nat} {oi:Oper} (hi:ops[i]? = some oi) (h:freeT1 ops listed i=true) :
    ∀ j oj,ops[j]? = some oj→j≠i→listed.getD j true=false→(∀ e∈oj.after,Region.binds .any e=true→e.on≠i)→oi.apart ops oj=true∧kindT oj.op=false:=by
  intro j oj hj hji hun hno
  unfold freeT1 at h
  rw [hi] at h
  dsimp only at h
  have hlt:j<ops.size:=(Array.getElem?_eq_some_iff.1 hj).1
  have:=List.all_eq_true.1 h j (List.mem_range.2 hlt)
  rw [hj] at this
  simp only [Bool.or_eq_true,beq_iff_eq,Bool.and_eq_true,Bool.not_eq_true'] at this
  rcases this with ((h1 | h1) | h1) | h1
  · exact absurd h1 hji
  · rw [hun] at h1; cases h1
  · exfalso
    obtain ⟨l,hl,he⟩:=Array.any_eq_true.1 h1
    simp only [Bool.and_eq_true,beq_iff_eq] at he
    exact hno _ (Array.getElem_mem hl) he.1 he.2
  · exact h1

def blkd (ops:Array Oper) (listed:Array Bool) (i:Nat) : List Nat→List Nat→List Nat
  | [],acc=>acc
  | j::r,acc=>match ops[j]? with
    | some oj=>if !(j==i) && !listed.getD j true&&oj.after.any (fun e=>Region.binds .any e&&(e.on==i||acc.contains e.on)) then blkd ops listed i r (j::acc) else blkd ops listed i r acc
    | none=>blkd ops listed i r acc
theorem blkd_sub {listed:Array Bool} {i:Nat} : ∀ (l acc:List Nat) (k:Nat),k∈acc→k∈blkd ops listed i l acc
  | [],acc,k,h=>h
  | j::r,acc,k,h=>by
    unfold blkd
    split
    · split
      · exact blkd_sub r _ k (by simp [h])
      · exact blkd_sub r _ k h
    · exact blkd_sub r _ k h
theorem blkd_spec {listed:Array Bool} {i:Nat} : ∀ (l acc:List Nat),(∀ k,k∈acc→listed.getD k true=false∧∃ oj e,ops[k]? = some oj∧e∈oj.after∧Region.binds .any e=true∧(e.on=i∨e.on∈blkd ops listed i l acc)) →
    ∀ k,k∈blkd ops listed i l acc→listed.getD k true=false∧∃ oj e,ops[k]? = some oj∧e∈oj.after∧Region.binds .any e=true∧(e.on=i∨e.on∈blkd ops listed i l acc)
  | [],acc,h=>h
  | j::r,acc,h=>by
    unfold blkd at h ⊢
    split at h
    · rename_i oj ho
      split at h
      · rename_i hc
        rw [if_pos hc]
        refine blkd_spec r _ fun k hk => ?_
        rcases List.mem_cons.1 hk with rfl | hk
        · simp only [Bool.and_eq_true,Bool.not_eq_true'] at hc
          obtain ⟨⟨_,h2⟩,h3⟩:=hc
          obtain ⟨l,hl,he⟩:=Array.any_eq_true.1 h3
          simp only [Bool.and_eq_true,Bool.or_eq_true,beq_iff_eq] at he
          refine ⟨h2,oj,_,ho,Array.getElem_mem hl,he.1,he.2.imp id fun h4=>blkd_sub r _ _ ?_⟩
          have:oj.after[l].on∈acc:=by simpa using h4
          simp [this]
        · exact h k hk
      · rename_i hc
        rw [if_neg hc]
        exact blkd_spec r _ h
    · exact blkd_spec r _ h
def freeT2 (ops:Array Oper) (listed:Array Bool) (i:Nat) (S:List Nat) : Bool :=
  match ops[i]? with
  | none=>false
  | some oi=>(List.range ops.size).all fun j=>match ops[j]? with
    | none=>true
    | some oj=>j==i||listed.getD j true||S.contains j||(oi.apart ops oj && !kindT oj.op)
def freeT (ops:Array Oper) (listed:Array Bool) (i:Nat) : Bool:=freeT1 ops listed i||freeT2 ops listed i (blkd ops listed i (List.range ops.size) [])

theorem free_first {i:Nat} {oi:Oper} {v:Value} (hi:ops[i]? = some oi) (hsel:∀ (j:Nat) (o:Oper) cs b,ops[j]? = some o→o.op≠.select cs b)
    (hQ:∀ c a w,Q (.panic c) (a.put oi.dst v) w→Q (.panic c) a w) (fuel:Nat) (listed:Array Bool) (a:Act) (w:World) (h:freeT ops listed i=true) (hr:i∈Region.ready .any ops listed) (hy:YieldsK P ops w oi v a)
    (H:wpAnyT P ops Q fuel (listed.setIfInBounds i true) (a.put oi.dst v) w) : wpAnyT P ops Q (fuel+1) listed a w:=by
  unfold freeT at h
  rw [Bool.or_eq_true] at h
  rcases h with h | h
  · exact wpAnyT_first hi hsel hQ fuel listed a w (freeT1_spec hi h) hr hy H
  · generalize hS:blkd ops listed i (List.range ops.size) []=S at h
    have hb:=blkd_spec (ops:=ops) (listed:=listed) (i:=i) (List.range ops.size) [] (fun k hk=>by cases hk)
    rw [hS] at hb
    refine wpAnyT_firstS S hi hsel hQ fuel listed a w (fun j oj hj hji hun hno => ?_) hb hr hy H
    unfold freeT2 at h
    rw [hi] at h
    dsimp only at h
    have hlt:j<ops.size:=(Array.getElem?_eq_some_iff.1 hj).1
    have:=List.all_eq_true.1 h j (List.mem_range.2 hlt)
    rw [hj] at this
    simp only [Bool.or_eq_true,beq_iff_eq,Bool.and_eq_true,Bool.not_eq_true',List.contains_iff_mem] at this
    rcases this with ((h1 | h1) | h1) | h1
    · exact absurd h1 hji
    · rw [hun] at h1; cases h1
    · exact absurd h1 hno
    · exact h1

def drawOk (ops:Array Oper) : List Nat→Array Bool→Bool
  | [],listed=>(Region.ready .any ops listed).isEmpty
  | i::r,listed =>
    (match ops[i]? with
     | none=>false
     | some o=>if kindQ o.op then (Region.ready .any ops listed).contains i&&freeT ops listed i else Region.ready .any ops listed==[i])&&drawOk ops r (listed.setIfInBounds i true)

theorem noSel (h:Region.noSelect ops=true) : ∀ (j:Nat) (o:Oper) cs b,ops[j]? = some o→o.op≠.select cs b:=Region.noSelect_spec h

theorem draw_sound {B:Base} {n:Nat} (hd:dstsOk n ops=true) (hsel:Region.noSelect ops=true) (hQ:∀ c a w,¬ Q (.panic c) a w) : ∀ (l:List Nat) (listed:Array Bool) (s:St) (a:Act) (w:World) (E:Env) (F:Nat→Prop) (K:St→Prop),a.tmps.size=n→Sim B s a w E F →
    OpsVC P B.keep ops (l.filterMap (ops[·]?)) s K→drawOk ops l listed=true →
    (∀ a' w' s' E' F',K s'→Sim B s' a' w' E' F'→a'.tmps.size=n→Q .normal a' w')→∀ fuel,l.length≤fuel→wpAnyT P ops Q fuel listed a w
  | [],listed,s,a,w,E,F,K,hn,hs,h,hok,hq,fuel,_=>by
    have hr:Region.ready .any ops listed=[]:=by simpa [drawOk] using hok
    have:=hq a w s E F h hs hn
    cases fuel with
    | zero=>exact ⟨hr,this⟩
    | succ fuel=>exact ⟨fun _=>this,by rw [hr]; simp⟩
  | i::l,listed,s,a,w,E,F,K,hn,hs,h,hok,hq,0,hf=>by simp at hf
  | i::l,listed,s,a,w,E,F,K,hn,hs,h,hok,hq,fuel+1,hf=>by
    simp only [drawOk,Bool.and_eq_true] at hok
    obtain ⟨hok,hrest⟩:=hok
    split at hok
    · cases hok
    rename_i o ho
    simp only [List.filterMap_cons,ho,OpsVC] at h
    have ih:=fun s a w E F hn hs h=>draw_sound hd hsel hQ l (listed.setIfInBounds i true) s a w E F K hn hs h hrest hq fuel (by simpa using hf)
    rcases op_sound (Q:=Q) hs (fun d hd'=>by rw [hn]; exact dstsOk_spec hd ho d hd') h with ⟨v,s',hK,hs',hw⟩ | ⟨hnq,hw⟩
    · have ih':=ih s' _ w E F (by rw [size_put]; exact hn) hs' hK
      have hy:YieldsK P ops w o v a:=hw
      split at hok
      · simp only [Bool.and_eq_true] at hok
        exact free_first ho (noSel hsel) (fun c a w hh=>absurd hh (hQ c _ w)) fuel listed a w hok.2 (by simpa using hok.1) hy ih'
      · have hr:Region.ready .any ops listed=[i]:=by simpa using hok
        refine ⟨(fun h0=>by rw [hr] at h0; cases h0),fun j hj => ?_⟩
        rw [hr] at hj
        simp at hj
        subst hj
        exact hy.wpOp ho ⟨.inr (Keep.refl w),ih'⟩
    · rw [hnq] at hok
      have hr:Region.ready .any ops listed=[i]:=by simpa using hok
      refine ⟨(fun h0=>by rw [hr] at h0; cases h0),fun j hj => ?_⟩
      rw [hr] at hj
      simp at hj
      subst hj
      unfold wpOp
      simp only [ho]
      rcases hw with ⟨hw,hwp⟩ | ⟨hw,s',F',hK,hs'⟩
      · rw [hw,if_pos rfl]
        refine .inl (Oper.wp_mono (fun a' w' ⟨hkt,v,s',E',F',ha,hK,hs'⟩ => ?_) hwp)
        subst ha
        exact ⟨by simpa [ho] using hkt,ih s' _ w' E' F' (by rw [size_put]; exact hn) hs' hK⟩
      · rw [hw]
        exact ⟨.inr (Keep.refl w),ih s' _ w E F' (by rw [size_put]; exact hn) hs' hK⟩

end Go.Aw

namespace Go.Aw
set_option linter.unusedSimpArgs false
set_option linter.unusedVariables false
open Go.RowKit

inductive DT where
  | nil
  | op (i:Nat) (r:DT)
  | or (a b:DT)

def DT.vc (P:Program) (kp:List Nat) (ops:Array Oper) : DT→St→(St→Prop)→Prop
  | .nil,s,K=>K s
  | .op i r,s,K=>match ops[i]? with
    | some o=>OpVC P kp ops o s fun t=>r.vc P kp ops t K
    | none=>False
  | .or a b,s,K=>a.vc P kp ops s K∧b.vc P kp ops s K

def DT.heads:DT→List Nat
  | .nil=>[]
  | .op i _=>[i]
  | .or a b=>a.heads++b.heads
def DT.depth:DT→Nat
  | .nil=>0
  | .op _ r=>r.depth+1
  | .or a b=>max a.depth b.depth

def DT.ok (ops:Array Oper) : DT→Bool→Array Bool→Bool
  | .nil,top,listed=>top&&(Region.ready .any ops listed).isEmpty
  | .op i r,top,listed =>
    (match ops[i]? with
     | none=>false
     | some o=>if top then (if kindQ o.op then (Region.ready .any ops listed).contains i&&freeT ops listed i else Region.ready .any ops listed==[i]) else true)&&r.ok ops true (listed.setIfInBounds i true)
  | .or a b,top,listed=>(if top then (!(Region.ready .any ops listed).isEmpty&&(Region.ready .any ops listed).all fun i=>(a.heads++b.heads).contains i) else true)&&a.ok ops false listed&&b.ok ops false listed

theorem DT.head_of {P:Program} {kp:List Nat} {ops:Array Oper} {listed:Array Bool} {s:St} {K:St→Prop} {i:Nat} : ∀ {t:DT},t.vc P kp ops s K→t.ok ops false listed=true→i∈t.heads →
    ∃ r,(DT.op i r).vc P kp ops s K∧r.ok ops true (listed.setIfInBounds i true)=true∧r.depth+1≤t.depth∧∃ o,ops[i]? = some o
  | .nil,_,h,_=>by simp [DT.ok] at h
  | .op j r,h1,h2,h3=>by
    simp only [DT.heads,List.mem_singleton] at h3
    subst h3
    simp only [DT.ok,Bool.and_eq_true] at h2
    refine ⟨r,h1,h2.2,Nat.le_refl _,?_⟩
    have:=h2.1
    split at this
    · cases this
    · exact ⟨_,by assumption⟩
  | .or a b,h1,h2,h3=>by
    simp only [DT.ok,Bool.false_eq_true,if_false,Bool.true_and,Bool.and_eq_true] at h2
    simp only [DT.heads,List.mem_append] at h3
    rcases h3 with h3 | h3
    · obtain ⟨r,q1,q2,q3,q4⟩:=DT.head_of h1.1 h2.1 h3
      exact ⟨r,q1,q2,by simp only [DT.depth]; omega,q4⟩
    · obtain ⟨r,q1,q2,q3,q4⟩:=DT.head_of h1.2 h2.2 h3
      exact ⟨r,q1,q2,by simp only [DT.depth]; omega,q4⟩

variable {P:Program} {ops:Array Oper} {Q:Exit→Act→World→Prop}

theorem draw_soundT {B:Base} {n:Nat} (hd:dstsOk n ops=true) (hsel:Region.noSelect ops=true) (hQ:∀ c a w,¬ Q (.panic c) a w) : ∀ (m:Nat) (t:DT) (_:t.depth≤m) (listed:Array Bool) (s:St) (a:Act) (w:World) (E:Env) (F:Nat→Prop) (K:St→Prop),a.tmps.size=n→Sim B s a w E F →
    t.vc P B.keep ops s K→t.ok ops true listed=true →
    (∀ a' w' s' E' F',K s'→Sim B s' a' w' E' F'→a'.tmps.size=n→Q .normal a' w')→∀ fuel,t.depth≤fuel→wpAnyT P ops Q fuel listed a w
  | m,.nil,_,listed,s,a,w,E,F,K,hn,hs,h,hok,hq,fuel,_=>by
    have hr:Region.ready .any ops listed=[]:=by simpa [DT.ok] using hok
    have:=hq a w s E F h hs hn
    cases fuel with
    | zero=>exact ⟨hr,this⟩
    | succ fuel=>exact ⟨fun _=>this,by rw [hr]; simp⟩
  | 0,.op i r,hm,_,_,_,_,_,_,_,_,_,_,_,_,_,_=>by simp [DT.depth] at hm
  | m+1,.op i r,hm,listed,s,a,w,E,F,K,hn,hs,h,hok,hq,0,hf=>by simp [DT.depth] at hf
  | m+1,.op i r,hm,listed,s,a,w,E,F,K,hn,hs,h,hok,hq,fuel+1,hf=>by
    simp only [DT.depth] at hm hf
    simp only [DT.ok,if_true,Bool.and_eq_true] at hok
    obtain ⟨hok,hrest⟩:=hok
    split at hok
    · cases hok
    rename_i o ho
    simp only [DT.vc,ho] at h
    have ih:=fun s a w E F hn hs h=>draw_soundT hd hsel hQ m r (by omega) (listed.setIfInBounds i true) s a w E F K hn hs h hrest hq fuel (by omega)
    rcases op_sound (Q:=Q) hs (fun d hd'=>by rw [hn]; exact dstsOk_spec hd ho d hd') h with ⟨v,s',hK,hs',hw⟩ | ⟨hnq,hw⟩
    · have ih':=ih s' _ w E F (by rw [size_put]; exact hn) hs' hK
      have hy:YieldsK P ops w o v a:=hw
      split at hok
      · simp only [Bool.and_eq_true] at hok
        exact free_first ho (noSel hsel) (fun c a w hh=>absurd hh (hQ c _ w)) fuel listed a w hok.2 (by simpa using hok.1) hy ih'
      · have hr:Region.ready .any ops listed=[i]:=by simpa using hok
        refine ⟨(fun h0=>by rw [hr] at h0; cases h0),fun j hj => ?_⟩
        rw [hr] at hj
        simp at hj
        subst hj
        exact hy.wpOp ho ⟨.inr (Keep.refl w),ih'⟩
    · rw [hnq] at hok
      have hr:Region.ready .any ops listed=[i]:=by simpa using hok
      refine ⟨(fun h0=>by rw [hr] at h0; cases h0),fun j hj => ?_⟩
      rw [hr] at hj
      simp at hj
      subst hj
      unfold wpOp
      simp only [ho]
      rcases hw with ⟨hw,hwp⟩ | ⟨hw,s',F',hK,hs'⟩
      · rw [hw,if_pos rfl]
        refine .inl (Oper.wp_mono (fun a' w' ⟨hkt,v,s',E',F',ha,hK,hs'⟩ => ?_) hwp)
        subst ha
        exact ⟨by simpa [ho] using hkt,ih s' _ w' E' F' (by rw [size_put]; exact hn) hs' hK⟩
      · rw [hw]
        exact ⟨.inr (Keep.refl w),ih s' _ w E F' (by rw [size_put]; exact hn) hs' hK⟩
  | m,.or x y,hm,listed,s,a,w,E,F,K,hn,hs,h,hok,hq,fuel,hf=>by
    simp only [DT.ok,if_true,Bool.and_eq_true] at hok
    obtain ⟨⟨⟨hne,hall⟩,hx⟩,hy⟩:=hok
    have hne:Region.ready .any ops listed≠[]:=by simpa using hne
    have hor:(DT.or x y).ok ops false listed=true:=by simp [DT.ok,hx,hy]
    have each:∀ j∈Region.ready .any ops listed,∃ (r:DT) (o:Oper),ops[j]? = some o∧OpVC P B.keep ops o s (fun t=>r.vc P B.keep ops t K)∧r.ok ops true (listed.setIfInBounds j true)=true∧r.depth+1≤(DT.or x y).depth:=by
      intro j hj
      have hh:j∈(DT.or x y).heads:=by have:=List.all_eq_true.1 hall j hj; simpa [DT.heads] using this
      obtain ⟨r,q1,q2,q3,o,q4⟩:=DT.head_of h hor hh
      simp only [DT.vc,q4] at q1
      exact ⟨r,o,q4,q1,q2,q3⟩
    have hpos:∃ f,fuel=f+1:=by
      cases hl:Region.ready .any ops listed with
      | nil=>exact absurd hl hne
      | cons j l =>
        obtain ⟨r,o,_,_,_,q⟩:=each j (by rw [hl]; simp)
        exact ⟨fuel - 1,by omega⟩
    obtain ⟨fuel,rfl⟩:=hpos
    refine ⟨fun h0=>absurd h0 hne,fun j hj => ?_⟩
    obtain ⟨r,o,ho,hvc,hrest,hdep⟩:=each j hj
    have hlt:m - 1<m:=by omega
    have ih:=fun s a w E F hn hs h=>draw_soundT hd hsel hQ (m - 1) r (by omega) (listed.setIfInBounds j true) s a w E F K hn hs h hrest hq fuel (by omega)
    rcases op_sound (Q:=Q) hs (fun d hd'=>by rw [hn]; exact dstsOk_spec hd ho d hd') hvc with ⟨v,s',hK,hs',hw⟩ | ⟨hnq,hw⟩
    · have ih':=ih s' _ w E F (by rw [size_put]; exact hn) hs' hK
      have hy:YieldsK P ops w o v a:=hw
      exact hy.wpOp ho ⟨.inr (Keep.refl w),ih'⟩
    · unfold wpOp
      simp only [ho]
      rcases hw with ⟨hw,hwp⟩ | ⟨hw,s',F',hK,hs'⟩
      · rw [hw,if_pos rfl]
        refine .inl (Oper.wp_mono (fun a' w' ⟨hkt,v,s',E',F',ha,hK,hs'⟩ => ?_) hwp)
        subst ha
        exact ⟨by simpa [ho] using hkt,ih s' _ w' E' F' (by rw [size_put]; exact hn) hs' hK⟩
      · rw [hw]
        exact ⟨.inr (Keep.refl w),ih s' _ w E F' (by rw [size_put]; exact hn) hs' hK⟩
  termination_by m=>m

end Go.Aw

namespace Go.Aw
set_option linter.unusedSimpArgs false
set_option linter.unusedVariables false
open Go.RowKit

def codeOk (n:Nat) : Code→Bool
  | .skip=>true
  | .region _ ops _=>dstsOk n ops
  | .seq a b=>codeOk n a&&codeOk n b
  | .cond _ a b=>codeOk n a&&codeOk n b
  | .block _ c=>codeOk n c
  | .loop c=>codeOk n c
  | .exit _=>true
  | .ret=>true
  | .label _=>true
  | .scope c=>codeOk n c
  | _=>false

def AWP (P:Program) (kp:List Nat) (n:Nat) (c:Code) (s:St) (Q:Exit→St→Prop) : Prop :=
  codeOk n c=true→∀ (B:Base) (a:Act) (w:World) (E:Env) (F:Nat→Prop),B.keep=kp→a.tmps.size=n→Sim B s a w E F →
    c.wp P (fun e a' w'=>(∀ ch,e≠.panic ch)∧e≠.outgrown∧∃ s' E' F',Q e s'∧Sim B s' a' w' E' F'∧a'.tmps.size=n) a w

variable {P:Program} {kp:List Nat} {n:Nat} {s:St} {Q:Exit→St→Prop}

theorem awp_mono {c:Code} {Q':Exit→St→Prop} (h:AWP P kp n c s Q) (hq:∀ e t,Q e t→Q' e t) : AWP P kp n c s Q' :=
  fun hok B a w E F h1 h2 h3=>wp_mono (h hok B a w E F h1 h2 h3) fun e a' w' ⟨g1,g2,s',E',F',g3,g4⟩=>⟨g1,g2,s',E',F',hq _ _ g3,g4⟩

theorem awp_skip (h:Q .normal s) : AWP P kp n .skip s Q :=
  fun _ B a w E F _ h2 h3=>wp_skip ⟨by simp,by simp,s,E,F,h,h3,h2⟩

theorem awp_label {l:Nat} (h:Q .normal s) : AWP P kp n (.label l) s Q :=
  fun _ B a w E F _ h2 h3=>wp_label ⟨by simp,by simp,s,E,F,h,h3,h2⟩

theorem awp_exit {id:Nat} (h:Q (.exit id) s) : AWP P kp n (.exit id) s Q :=
  fun _ B a w E F _ h2 h3=>wp_exit ⟨by simp,by simp,s,E,F,h,h3,h2⟩

theorem awp_ret (h:Q .ret s) : AWP P kp n .ret s Q :=
  fun _ B a w E F _ h2 h3=>wp_ret ⟨by simp,by simp,s,E,F,h,h3,h2⟩

def Then (next:St→Prop) (Q:Exit→St→Prop) : Exit→St→Prop
  | .normal,s=>next s
  | e,s=>Q e s

theorem awp_seq {x y:Code} (h:AWP P kp n x s (Then (fun t=>AWP P kp n y t Q) Q)) : AWP P kp n (.seq x y) s Q:=by
  intro hok B a w E F h1 h2 h3
  simp only [codeOk,Bool.and_eq_true] at hok
  refine wp_seq (wp_mono (h hok.1 B a w E F h1 h2 h3) ?_)
  rintro e a' w' ⟨g1,g2,s',E',F',g3,g4,g5⟩
  cases e with
  | normal=>exact g3 hok.2 B a' w' E' F' h1 g5 g4
  | exit id=>exact ⟨g1,g2,s',E',F',g3,g4,g5⟩
  | goto l=>exact ⟨g1,g2,s',E',F',g3,g4,g5⟩
  | ret=>exact ⟨g1,g2,s',E',F',g3,g4,g5⟩
  | panic ch=>exact absurd rfl (g1 ch)
  | outgrown=>exact absurd rfl g2

theorem awp_cond {c:Operand} {x y:Code} {b:Bool} (hc:s.ev c=.d (.bool b)) (ht:b=true→AWP P kp n x s Q) (hf:b=false→AWP P kp n y s Q) : AWP P kp n (.cond c x y) s Q:=by
  intro hok B a w E F h1 h2 h3
  simp only [codeOk,Bool.and_eq_true] at hok
  have:=ev_sound h3 c
  rw [hc] at this
  have hb:=bool_of this
  cases b with
  | true=>exact wp_cond_true hb (ht rfl hok.1 B a w E F h1 h2 h3)
  | false=>exact wp_cond_false hb (hf rfl hok.2 B a w E F h1 h2 h3)

def InBlock (id:Nat) (Q:Exit→St→Prop) : Exit→St→Prop
  | .exit id',s=>if id'=id then Q .normal s else Q (.exit id') s
  | e,s=>Q e s

theorem awp_block {id:Nat} {c:Code} (h:AWP P kp n c s (InBlock id Q)) : AWP P kp n (.block id c) s Q:=by
  intro hok B a w E F h1 h2 h3
  refine wp_block (wp_mono (h hok B a w E F h1 h2 h3) ?_)
  rintro e a' w' ⟨g1,g2,s',E',F',g3,g4,g5⟩
  cases e with
  | exit id' =>
    simp only [Exit.inBlock,InBlock] at g3 ⊢
    split at g3
    · rename_i h; rw [if_pos h]; exact ⟨by simp,by simp,s',E',F',g3,g4,g5⟩
    · rename_i h; rw [if_neg h]; exact ⟨by simp,by simp,s',E',F',g3,g4,g5⟩
  | normal=>exact ⟨g1,g2,s',E',F',g3,g4,g5⟩
  | goto l=>exact ⟨g1,g2,s',E',F',g3,g4,g5⟩
  | ret=>exact ⟨g1,g2,s',E',F',g3,g4,g5⟩
  | panic ch=>exact absurd rfl (g1 ch)
  | outgrown=>exact absurd rfl g2

theorem awp_loop {c:Code} (I:Nat→St→Prop) (m:Nat) (h0:I m s) (round:∀ m t,I m t→AWP P kp n c t (Then (fun u=>∃ k,k<m∧I k u) Q)) : AWP P kp n (.loop c) s Q:=by
  intro hok B a w E F h1 h2 h3
  have hok':codeOk n c=true:=hok
  intro b k cs
  have key:∀ (m:Nat) (t:St) (a:Act) (w:World) (E:Env) (F:Nat→Prop),I m t→a.tmps.size=n→Sim B t a w E F →
      ∃ e a' w',((∀ ch,e≠.panic ch)∧e≠.outgrown∧∃ s' E' F',Q e s'∧Sim B s' a' w' E' F'∧a'.tmps.size=n)∧Arrives P (lone (b.at a (.code c::.inLoop c::k)) cs w) b k cs e a' w':=by
    intro m
    induction m using Nat.strongRecOn with
    | _ m ih =>
      intro t a w E F hI hn hs
      obtain ⟨e,a₁,w₁,⟨g1,g2,s',E',F',g3,g4,g5⟩,harr⟩:=round m t hI hok' B a w E F h1 hn hs b (.inLoop c::k) cs
      cases e with
      | normal =>
        obtain ⟨m',hlt,hI'⟩:=g3
        obtain ⟨e₂,a₂,w₂,hq₂,harr₂⟩:=ih m' hlt s' a₁ w₁ E' F' hI' g5 g4
        exact ⟨e₂,a₂,w₂,hq₂,.of_steps (Steps.trans harr (.one step_inLoop)) harr₂⟩
      | exit id=>exact ⟨_,a₁,w₁,⟨g1,g2,s',E',F',g3,g4,g5⟩,.pass (x:=.inLoop c) rfl (fun _ _=>.inl (by simp)) harr⟩
      | goto l=>exact ⟨_,a₁,w₁,⟨g1,g2,s',E',F',g3,g4,g5⟩,.pass (x:=.inLoop c) rfl (fun _ _=>.inl (by simp)) harr⟩
      | ret=>exact ⟨_,a₁,w₁,⟨g1,g2,s',E',F',g3,g4,g5⟩,.pass (x:=.inLoop c) rfl (fun _ _=>.inl (by simp)) harr⟩
      | panic ch=>exact absurd rfl (g1 ch)
      | outgrown=>exact absurd rfl g2
  obtain ⟨e,a',w',hq,harr⟩:=key m s a w E F h0 h2 h3
  exact ⟨e,a',w',hq,.of_steps (.one step_loop) harr⟩

theorem awp_region {id:Nat} {ops:Array Oper} (h:∀ K:St→Prop,(∀ t,Q .normal t→K t)→OpsVC P kp ops ops.toList s K) : AWP P kp n (.region id ops false) s Q:=by
  intro hok B a w E F h1 h2 h3
  subst h1
  refine wp_region (ops_sound (ops:=ops) (n:=n) hok (List.range ops.size) s a w E F (fun t=>Q .normal t) h2 h3 ?_ (by simp) ?_)
  · have e:(List.range ops.size).filterMap (ops[·]?)=ops.toList:=by
      apply List.ext_getElem?
      intro i
      have:∀ (l:List Oper),(List.range l.length).filterMap (l[·]?)=l:=fun l=>by
        induction l with
        | nil=>rfl
        | cons x r ih =>
          rw [List.length_cons,List.range_succ_eq_map,List.filterMap_cons]
          simp only [List.getElem?_cons_zero,List.filterMap_map,Function.comp_def,List.getElem?_cons_succ]
          rw [ih]
      have h2:=this ops.toList
      simp only [Array.length_toList,Array.getElem?_toList] at h2
      rw [h2]
    rw [e]
    exact h _ fun t ht=>ht
  · intro a' w' s' E' F' hK hs hn
    exact ⟨by simp,by simp,s',E',F',hK,hs,hn⟩

theorem awp_drawT {id:Nat} {ops:Array Oper} (d:DT) (hm:P.follows .mixedOrders=true) (hc:(Region.noSelect ops&&d.ok ops true (Array.replicate ops.size false))=true) (hl:Nat.ble d.depth ops.size=true)
    (h:∀ K:St→Prop,(∀ t,Q .normal t→K t)→d.vc P kp ops s K) : AWP P kp n (.region id ops true) s Q:=by
  intro hok B a w E F h1 h2 h3
  subst h1
  simp only [Bool.and_eq_true] at hc
  refine wp_region_any hm (wpAny_of_T _ _ _ _ (draw_soundT (ops:=ops) (n:=n) hok hc.1 ?_ d.depth d (Nat.le_refl _) _ s a _ E F (fun t=>Q .normal t) h2 h3.drew (h _ fun t ht=>ht) hc.2 ?_ _ (Nat.le_of_ble_eq_true hl)))
  · intro c a w hh
    exact hh.1 c rfl
  · intro a' w' s' E' F' hK hs hn
    exact ⟨by simp,by simp,s',E',F',hK,hs,hn⟩

theorem awp_draw {id:Nat} {ops:Array Oper} (l:List Nat) (hm:P.follows .mixedOrders=true) (hc:(Region.noSelect ops&&drawOk ops l (Array.replicate ops.size false))=true) (hl:l.length=ops.size)
    (h:∀ K:St→Prop,(∀ t,Q .normal t→K t)→OpsVC P kp ops (l.filterMap (ops[·]?)) s K) : AWP P kp n (.region id ops true) s Q:=by
  intro hok B a w E F h1 h2 h3
  subst h1
  simp only [Bool.and_eq_true] at hc
  refine wp_region_any hm (wpAny_of_T _ _ _ _ (draw_sound (ops:=ops) (n:=n) hok hc.1 ?_ l _ s a _ E F (fun t=>Q .normal t) h2 h3.drew (h _ fun t ht=>ht) hc.2 ?_ _ (by omega)))
  · intro c a w hh
    exact hh.1 c rfl
  · intro a' w' s' E' F' hK hs hn
    exact ⟨by simp,by simp,s',E',F',hK,hs,hn⟩

mutual
def V.bel (n:Nat) : V→Bool
  | .agg xs=>V.belL n xs
  | .tup xs=>V.belL n xs
  | .ptr id _ _=>decide (id<n)
  | .ref id _ _=>decide (id<n)
  | .fn _ xs=>V.belL n xs
  | .map id=>decide (id<n)
  | .iface _ x=>V.bel n x
  | .opt _ x=>V.bel n x
  | _=>true
def V.belL (n:Nat) : List V→Bool
  | []=>true
  | x::r=>V.bel n x&&V.belL n r
end

theorem bel_has (n:Nat) : ∀ (x:V),V.bel n x=true→∀ i,V.has i x=true→i<n:=by
  intro x
  apply V.rec (motive_1:=fun x=>V.bel n x=true→∀ i,V.has i x=true→i<n) (motive_2:=fun xs=>V.belL n xs=true→∀ i,V.hasL i xs=true→i<n)
  · intro x _ i h; simp [V.has] at h
  · intro xs ih h i hi; exact ih (by simpa [V.bel] using h) i (by simpa [V.has] using hi)
  · intro xs ih h i hi; exact ih (by simpa [V.bel] using h) i (by simpa [V.has] using hi)
  · intro id row off h i hi; simp [V.has] at hi; simp [V.bel] at h; omega
  · intro id off len h i hi; simp [V.has] at hi; simp [V.bel] at h; omega
  · intro _ i hi; simp [V.has] at hi
  · intro f xs ih h i hi; exact ih (by simpa [V.bel] using h) i (by simpa [V.has] using hi)
  · intro id h i hi; simp [V.has] at hi; simp [V.bel] at h; omega
  · intro t x ih h i hi; exact ih (by simpa [V.bel] using h) i (by simpa [V.has] using hi)
  · intro g x ih h i hi; exact ih (by simpa [V.bel] using h) i (by simpa [V.has] using hi)
  · intro _ i hi; simp [V.has] at hi
  · intro _ i hi; simp [V.hasL] at hi
  · intro x r ih1 ih2 h i hi
    simp only [V.belL,Bool.and_eq_true] at h
    simp only [V.hasL,Bool.or_eq_true] at hi
    rcases hi with hi | hi
    · exact ih1 h.1 i hi
    · exact ih2 h.2 i hi

def Blk.bel (n:Nat) : Blk→Bool
  | .cells xs=>V.belL n xs
  | .vrs _ rs=>rs.all (V.belL n)
  | .mp es=>es.all fun p=>V.bel n p.1&&V.bel n p.2
  | .it x _ _=>V.bel n x
  | _=>true

theorem belL_mem {n:Nat} {x:V} : ∀ {l:List V},V.belL n l=true→x∈l→V.bel n x=true
  | [],_,h=>by cases h
  | y::l,hb,h=>by
    simp only [V.belL,Bool.and_eq_true] at hb
    rcases List.mem_cons.1 h with rfl | h
    · exact hb.1
    · exact belL_mem hb.2 h
theorem Blk.bel_of {n:Nat} {b:Blk} {x:V} (hb:b.bel n=true) (hx:b.holds x) : V.bel n x=true:=by
  cases b with
  | gone=>exact hx.elim
  | data k rows=>exact hx.elim
  | cells xs=>exact belL_mem hb hx
  | vrs k rs=>obtain ⟨r,h1,h2⟩:=hx; exact belL_mem (List.all_eq_true.1 hb r h1) h2
  | mp es =>
    obtain ⟨p,h1,h2⟩:=hx
    have:=List.all_eq_true.1 hb p h1
    simp only [Bool.and_eq_true] at this
    rcases h2 with rfl | rfl
    · exact this.1
    · exact this.2
  | it y seen m=>subst hx; exact hb

def belTm (n:Nat) : List (Nat × V)→Bool
  | []=>true
  | (_,x)::r=>V.bel n x&&belTm n r
def belHeap (n:Nat) : List Blk→Bool
  | []=>true
  | b::r=>b.bel n&&belHeap n r
def subTm:List (Nat × V)→List (Nat × V)→Prop
  | [],_=>True
  | (i,x)::r,l=>tget l i=some x∧subTm r l

theorem subTm_get {l:List (Nat × V)} : ∀ {l':List (Nat × V)},subTm l' l→∀ i x,tget l' i=some x→tget l i=some x
  | [],_,i,x,h=>by simp [tget] at h
  | (j,y)::r,hs,i,x,h=>by
    simp only [tget] at h
    split at h
    · rename_i hij; subst hij; simp at h; subst h; exact hs.1
    · exact subTm_get hs.2 i x h
theorem belTm_get {n:Nat} : ∀ {l:List (Nat × V)},belTm n l=true→∀ i x,tget l i=some x→V.bel n x=true
  | [],_,i,x,h=>by simp [tget] at h
  | (j,y)::r,hs,i,x,h=>by
    simp only [belTm,Bool.and_eq_true] at hs
    simp only [tget] at h
    split at h
    · simp at h; subst h; exact hs.1
    · exact belTm_get hs.2 i x h
theorem belHeap_get {n:Nat} : ∀ {l:List Blk},belHeap n l=true→∀ (i:Nat) (b:Blk),l[i]? = some b→Blk.bel n b=true
  | [],_,i,b,h=>by simp at h
  | c::r,hs,0,b,h=>by
    simp only [belHeap,Bool.and_eq_true] at hs
    simp at h; subst h; exact hs.1
  | c::r,hs,i+1,b,h=>by
    simp only [belHeap,Bool.and_eq_true] at hs
    exact belHeap_get hs.2 i b (by simpa using h)

structure Le (kp:List Nat) (s' s:St) : Prop where
  tm:subTm s'.tm s.tm
  heap:∃ r,s.heap=s'.heap++r
  bt:belTm s'.heap.length s'.tm=true
  bh:belHeap s'.heap.length s'.heap=true
  kp:∀ i,i∈kp→i<s'.heap.length

theorem le_sim {B:Base} {s s':St} {a:Act} {w:World} {E:Env} {F:Nat→Prop} (hl:Le B.keep s' s) (hs:Sim B s a w E F) : Sim B s' a w (E.take s'.heap.length) F:=by
  obtain ⟨r,hr⟩:=hl.heap
  have hr':=hs.rel
  have hlen:s'.heap.length≤E.length:=by rw [hr'.hr.len,hr]; simp
  have evo:Evo E F w (E.take s'.heap.length) F w (fun i=>i<s'.heap.length):=⟨fun _ h=>h,fun _ _=>rfl,fun i e hi h=>by rw [List.getElem?_take_of_lt hi]; exact h,fun _ _ h=>h⟩
  have hE:∀ (i:Nat) (e:En),(E.take s'.heap.length)[i]? = some e→E[i]? = some e:=fun i e h=>by
    rw [List.getElem?_take] at h
    split at h
    · exact h
    · cases h
  have hH:∀ (i:Nat) (b:Blk),s'.heap[i]? = some b→s.heap[i]? = some b:=fun i b h=>by
    rw [hr,List.getElem?_append_left (List.getElem?_eq_some_iff.1 h).1]; exact h
  refine ⟨⟨hr'.os,hr'.tape,hr'.output,hr'.size,hr'.F0,hr'.only,hr'.same,hr'.lt,⟨by simp; omega,?_,?_,?_⟩,?_,?_,hr'.sz⟩,hs.defers,?_⟩
  · intro i e b h1 h2
    have:=BR.to (f:=fun x=>x) (E':=E.take s'.heap.length) (F':=F) (w':=w) (hr'.hr.blk i e b (hE i e h1) (hH i b h2)) (fun _ _ h=>h) (fun x v hx hv=>hv.evo evo (bel_has _ x (Blk.bel_of (belHeap_get hl.bh i b h2) hx))) (fun _ _=>rfl)
    rwa [Blk.map1_id] at this
  · intro i b e blk h1 h2 h3 h4
    exact hr'.hr.free i b e blk (hE i e h1) h2 (hH i blk h3) h4
  · intro i j b ei ej bi bj h1 h2 h3 h4 h5 h6 h7 h8
    exact hr'.hr.inj i j b ei ej bi bj (hE i ei h1) (hE j ej h2) h3 h4 (hH i bi h5) (hH j bj h6) h7 h8
  · intro i b e blk h1 h2 h3 h4
    exact hr'.src i b e blk (hE i e h1) (hH i blk h2) h3 h4
  · intro i hi
    obtain ⟨e,h1,h2⟩:=hr'.keep i hi
    exact ⟨e,by rw [List.getElem?_take_of_lt (hl.kp i hi)]; exact h1,h2⟩
  · intro i x hx
    obtain ⟨v,hv,h⟩:=hs.tm i x (subTm_get hl.tm i x hx)
    exact ⟨v,hv,h.evo evo (bel_has _ x (belTm_get hl.bt i x hx))⟩

theorem awp_virt {c:Code} (i k:Nat) (hi:tget s.tm i=some .nil) (h:AWP P kp n c { tm:=tput s.tm i (.ref s.heap.length 0 0),heap:=s.heap++[.data k []] } Q) : AWP P kp n c s Q:=by
  intro hok B a w E F h1 h2 h3
  subst h1
  obtain ⟨e1,e2⟩:=virt_rel h3.rel k
  refine h hok B a w _ F rfl h2 ⟨⟨e2.os,e2.tape,e2.output,e2.size,e2.F0,e2.only,e2.same,e2.lt,e2.hr,e2.src,e2.keep,e2.sz⟩,h3.defers,fun j x hx => ?_⟩
  simp only [tget_tput] at hx
  split at hx
  · rename_i hj
    subst hj
    simp at hx
    subst hx
    obtain ⟨v,hv,hr⟩:=h3.tm j _ hi
    refine ⟨v,hv,?_⟩
    cases hr with
    | nil a=>exact .refv _ k 0 a (by rw [← h3.rel.hr.len,List.getElem?_append_right (Nat.le_refl _)]; simp)
  · obtain ⟨v,hv,hr⟩:=h3.tm j x hx
    exact ⟨v,hv,hr.evo e1 (fun _ _=>trivial)⟩

def resQ (P:Program) (s:St) : ResultVar→Option (Prop × V)
  | .tmp t=>some (True,s.get t)
  | .cell a t=>(loadQ P s.heap t (s.get a).strip.2).map fun r=>((s.get a).strip.1∧r.1,r.2)
def resQs (P:Program) (s:St) : List ResultVar→Option (Prop × List V)
  | []=>some (True,[])
  | r::l=>match resQ P s r,resQs P s l with
    | some (p,x),some (q,xs)=>some (p∧q,x::xs)
    | _,_=>none
def retQ (P:Program) (s:St) (l:List ResultVar) : Option (Prop × V) :=
  match resQs P s l with
  | some (p,[x])=>some (p,x)
  | some (p,xs)=>some (p,.tup xs)
  | none=>none

theorem get_sound {B:Base} {s:St} {a:Act} {w:World} {E:Env} {F:Nat→Prop} (hs:Sim B s a w E F) (t:Nat) : VR E F w (s.get t) (a.tmps.getD t undef):=ev_sound hs (.tmp t)

def resRun (a:Act) (r:ResultVar) : Sem Value :=
  match r with
  | .tmp t=>pure (a.tmps.getD t undef)
  | .cell ad t=>do loadVar t (← asAddr (a.tmps.getD ad undef))

theorem asAddr_of_loadAt {P:Program} {t:TypeId} {v u:Value} {w:World} (h:(Instr.loadAt t v).run P w=.ok u w) : (do loadVar t (← asAddr v) : Sem Value).run P w=.ok u w:=by
  cases v with
  | pointer a=>cases a with
    | some a=>simpa [Instr.loadAt,Instr.sureAddr,asAddr] using h
    | none=>simp [Instr.loadAt,Instr.sureAddr] at h
  | _=>simp [Instr.loadAt,Instr.sureAddr] at h

theorem res_sound {P:Program} {B:Base} {s:St} {a:Act} {w:World} {E:Env} {F:Nat→Prop} (hs:Sim B s a w E F) {r:ResultVar} {p:Prop} {x:V} (h:resQ P s r=some (p,x)) (hp:p) :
    ∃ v,(resRun a r).run P w=.ok v w∧VR E F w x v:=by
  cases r with
  | tmp t =>
    simp only [resQ,Option.some.injEq,Prod.mk.injEq] at h
    obtain ⟨_,rfl⟩:=h
    exact ⟨_,by simp [resRun],get_sound hs t⟩
  | cell ad t =>
    simp only [resQ,Option.map_eq_some_iff,Prod.exists,Prod.mk.injEq] at h
    obtain ⟨p,y,hq,rfl,rfl⟩:=h
    obtain ⟨u,h1,h2⟩:=loadQ_sound hq hp.2 hs.rel.hr hs.rel.lt (V.strip_sound (get_sound hs ad) hp.1)
    exact ⟨u,asAddr_of_loadAt (h2 w (Keep.refl w)),h1⟩

theorem ress_sound {P:Program} {B:Base} {s:St} {a:Act} {w:World} {E:Env} {F:Nat→Prop} (hs:Sim B s a w E F) : ∀ (l:List ResultVar) (p:Prop) (xs:List V),resQs P s l=some (p,xs)→p →
    ∃ vs:List Value,(l.mapM (resRun a)).run P w=.ok vs w∧vs.length=xs.length∧∀ (j:Nat) (x:V) (v:Value),xs[j]? = some x→vs[j]? = some v→VR E F w x v
  | [],p,xs,h,_=>by
    simp [resQs] at h
    obtain ⟨_,rfl⟩:=h
    exact ⟨[],rfl,rfl,by simp⟩
  | r::l,p,xs,h,hp=>by
    simp only [resQs] at h
    split at h
    · rename_i p1 x q1 xs1 e1 e2
      simp only [Option.some.injEq,Prod.mk.injEq] at h
      obtain ⟨rfl,rfl⟩:=h
      obtain ⟨v,h1,h2⟩:=res_sound hs e1 hp.1
      obtain ⟨vs,h3,h4,h5⟩:=ress_sound hs l q1 xs1 e2 hp.2
      refine ⟨v::vs,?_,by simp [h4],fun j x v hx hv => ?_⟩
      · rw [List.mapM_cons]
        simp only [Sem.run_bind,h1,Result.andThen_ok,h3,Sem.run_pure]
      · cases j with
        | zero=>simp at hx hv; subst hx; subst hv; exact h2
        | succ j=>exact h5 j x v (by simpa using hx) (by simpa using hv)
    · cases h

theorem ret_sound {P:Program} {B:Base} {s:St} {a:Act} {w:World} {E:Env} {F:Nat→Prop} {fn:Func} {p:Prop} {x:V} (hs:Sim B s a w E F) (h:retQ P s fn.results.toList=some (p,x)) (hp:p) :
    ∃ v,(results fn a.tmps).run P w=.ok v w∧VR E F w x v:=by
  generalize hl:fn.results.toList=l at h
  have hfn:fn.results=l.toArray:=by rw [← hl]
  have main:∀ (vs:List Value),(l.mapM (resRun a)).run P w=.ok vs w →
      (results fn a.tmps).run P w=.ok (if h:vs.toArray.size=1 then vs.toArray[0] else .tuple vs.toArray) w:=by
    intro vs hvs
    unfold results
    rw [hfn]
    simp only [List.mapM_toArray,Sem.run_bind,Sem.run_map]
    exact Eq.trans (congrArg (fun r:Result (List Value)=>(r.andThen fun a w'=>Result.ok a.toArray w').andThen fun a w'=>Sem.run P (pure (if h:a.size=1 then a[0] else Value.tuple a)) w') hvs) rfl
  unfold retQ at h
  split at h
  · rename_i p' x' hx
    simp only [Option.some.injEq,Prod.mk.injEq] at h
    obtain ⟨rfl,rfl⟩:=h
    obtain ⟨vs,h1,h2,h3⟩:=ress_sound hs l _ _ hx hp
    match vs,h2 with
    | [v],_=>exact ⟨v,main [v] h1,h3 0 _ v rfl rfl⟩
  · rename_i p' xs' hne hx
    simp only [Option.some.injEq,Prod.mk.injEq] at h
    obtain ⟨rfl,rfl⟩:=h
    obtain ⟨vs,h1,h2,h3⟩:=ress_sound hs l _ _ hx hp
    refine ⟨_,main vs h1,?_⟩
    have hsz:¬ vs.toArray.size=1:=by
      simp only [List.size_toArray]
      intro h
      rw [h2] at h
      match xs',h with
      | [y],_=>exact hne y rfl
    rw [dif_neg hsz]
    exact .tup _ _ (by simp [h2]) fun j x v hx hv=>h3 j x v hx (by simpa using hv)
  · cases h

def argTm (i:Nat) : List V→List (Nat × V)
  | []=>[]
  | x::r=>(i,x)::argTm (i+1) r

theorem argTm_get:∀ (l:List V) (m i:Nat) (x:V),tget (argTm m l) i=some x→m≤i∧l[i - m]? = some x
  | [],m,i,x,h=>by simp [argTm,tget] at h
  | y::r,m,i,x,h=>by
    simp only [argTm,tget] at h
    split at h
    · rename_i hi; subst hi; simp at h; subst h; simp
    · obtain ⟨h1,h2⟩:=argTm_get r (m+1) i x h
      refine ⟨by omega,?_⟩
      rw [show i - m=(i - (m+1))+1 by omega]
      simpa using h2

theorem ac_of {f:FuncId} {fn:Func} {c:Code} {args:List V} {H:List Blk} {R:V→List Blk→Prop} (hf:P.funcs[f]? = some fn) (hb:fn.body=some c)
    (hnm : (fn.name == "runtime.NumGoroutine") = false) (hn : args.length ≤ fn.ntmps) (hok : codeOk fn.ntmps c = true)
    (h:AWP P kp fn.ntmps c ⟨argTm 0 args,H⟩ fun e t=>(e=.normal∨e=.ret)∧∃ p x,retQ P t fn.results.toList=some (p,x)∧p∧R x t.heap) : AC P f args H kp R:=by
  refine ⟨⟨fn,hf,hnm,by rw [hb]; rfl⟩,fun w cargs E F h1 h2 h3 h4=>calls_of_wp hf hb ?_⟩
  have hs:Sim ⟨w,F,own E H,E,kp,[]⟩ ⟨argTm 0 args,H⟩ { tmps:=cargs++Array.replicate (fn.ntmps - cargs.size) undef,defers:=[] } w E F:=by
    refine ⟨⟨rfl,rfl,.refl _,Nat.le_refl _,fun _ h=>h,fun _ h=>.inl h,fun _ _ _=>rfl,h2,h1,?_,?_,fun _ _ h=>h⟩,rfl,?_⟩
    · exact fun id b e blk q1 q2 q3 q4=>.inr ⟨id,e,blk,q1,q2,q3,q4⟩
    · intro i hi
      have:=h3 i hi
      rw [← h1.len] at this
      exact ⟨_,List.getElem?_eq_getElem this,List.getElem?_eq_getElem this⟩
    · intro i x hx
      obtain ⟨_,q⟩:=argTm_get args 0 i x hx
      rw [Nat.sub_zero] at q
      have hi:i<cargs.size:=by rw [h4.1]; exact (List.getElem?_eq_some_iff.1 q).1
      refine ⟨cargs[i],?_,h4.2 i x _ q (Array.getElem?_eq_getElem hi)⟩
      rw [Array.getElem?_append_left hi,Array.getElem?_eq_getElem hi]
  have hsz:(cargs++Array.replicate (fn.ntmps - cargs.size) undef).size=fn.ntmps:=by
    have:=h4.1
    simp; omega
  refine wp_mono (h hok _ _ w E F rfl hsz hs) ?_
  rintro e a' w' ⟨g1,g2,s',E',F',⟨g3,p,x,g4,hp,g5⟩,g6,g7⟩
  obtain ⟨v,hv,hx⟩:=ret_sound (P:=P) g6 g4 hp
  have hrel:Rel ⟨w,F,own E H,E,kp,[]⟩ ⟨[],s'.heap⟩ E' F' w':=⟨g6.rel.os,g6.rel.tape,g6.rel.output,g6.rel.size,g6.rel.F0,g6.rel.only,g6.rel.same,g6.rel.lt,g6.rel.hr,g6.rel.src,g6.rel.keep,g6.rel.sz⟩
  rcases g3 with rfl | rfl
  · exact ⟨g6.defers,v,hv,v,x,s'.heap,E',F',rfl,g5,hrel,hx⟩
  · exact ⟨g6.defers,v,hv,v,x,s'.heap,E',F',rfl,g5,hrel,hx⟩

end Go.Aw

namespace Go.Aw
set_option linter.unusedSimpArgs false
set_option linter.unusedVariables false
open Go.RowKit

variable {P:Program} {kp:List Nat} {n:Nat} {s:St} {Q:Exit→St→Prop}

mutual
def V.ren (r:List Nat) : V→V
  | .agg xs=>.agg (V.renL r xs)
  | .tup xs=>.tup (V.renL r xs)
  | .ptr id row off=>.ptr (r.getD id 0) row off
  | .ref id off len=>.ref (r.getD id 0) off len
  | .fn f xs=>.fn f (V.renL r xs)
  | .map id=>.map (r.getD id 0)
  | .iface t x=>.iface t (V.ren r x)
  | .opt g x=>.opt g (V.ren r x)
  | x=>x
def V.renL (r:List Nat) : List V→List V
  | []=>[]
  | x::l=>V.ren r x::V.renL r l
end
theorem renL_eq (r:List Nat) : ∀ xs:List V,V.renL r xs=xs.map (V.ren r)
  | []=>rfl
  | x::l=>by simp [V.renL,renL_eq r l]
def Blk.ren (r:List Nat) : Blk→Blk
  | .cells xs=>.cells (V.renL r xs)
  | .vrs k rs=>.vrs k (rs.map fun q=>V.renL r q)
  | .mp es=>.mp (es.map fun p=>(V.ren r p.1,V.ren r p.2))
  | .it x seen n=>.it (V.ren r x) seen n
  | b=>b
def renTm (r:List Nat) : List (Nat × V)→List (Nat × V)
  | []=>[]
  | (i,x)::l=>(i,V.ren r x)::renTm r l
def renHeap (r:List Nat) : List Blk→List Nat→List Blk→Prop
  | [],[],_=>True
  | b::l,i::q,H=>H[i]? = some (Blk.ren r b)∧renHeap r l q H
  | _,_,_=>False

theorem belL_get {n:Nat} : ∀ {l:List V},V.belL n l=true→∀ (j:Nat) (x:V),l[j]? = some x→V.bel n x=true
  | [],_,j,x,h=>by simp at h
  | y::l,hb,0,x,h=>by
    simp only [V.belL,Bool.and_eq_true] at hb
    simp at h; subst h; exact hb.1
  | y::l,hb,j+1,x,h=>by
    simp only [V.belL,Bool.and_eq_true] at hb
    exact belL_get hb.2 j x (by simpa using h)

theorem ren_VR {E E':Env} {F:Nat→Prop} {w:World} {r:List Nat} (hE:∀ (j i:Nat),r[j]? = some i→E'[j]? = E[i]?) {y:V} {v:Value} (h:VR E F w y v) :
    ∀ x:V,y=V.ren r x→V.bel r.length x=true→VR E' F w x v:=by
  have get:∀ (j:Nat) (e:En),j<r.length→E[r.getD j 0]? = some e→E'[j]? = some e:=fun j e hj he=>by
    rw [hE j (r.getD j 0) (by simp [List.getElem?_eq_getElem hj])]; exact he
  induction h with
  | d x v hd =>
    intro z hz hb
    cases z <;> simp [V.ren] at hz
    subst hz
    exact .d x v hd
  | agg xs cs hs hrr ih =>
    intro z hz hb
    cases z <;> simp [V.ren,renL_eq] at hz
    rename_i ys
    subst hz
    refine .agg _ cs (by simpa using hs) fun j x v hx hv=>ih j (V.ren r x) v (by simp [hx]) hv x rfl (belL_get (by simpa [V.bel] using hb) j x hx)
  | tup xs cs hs hrr ih =>
    intro z hz hb
    cases z <;> simp [V.ren,renL_eq] at hz
    rename_i ys
    subst hz
    refine .tup _ cs (by simpa using hs) fun j x v hx hv=>ih j (V.ren r x) v (by simp [hx]) hv x rfl (belL_get (by simpa [V.bel] using hb) j x hx)
  | fn f xs cs hs hrr ih =>
    intro z hz hb
    cases z <;> simp [V.ren,renL_eq] at hz
    rename_i g ys
    obtain ⟨rfl,hz⟩:=hz
    subst hz
    refine .fn _ _ cs (by simpa using hs) fun j x v hx hv=>ih j (V.ren r x) v (by simp [hx]) hv x rfl (belL_get (by simpa [V.bel] using hb) j x hx)
  | iface t x v hx ih =>
    intro z hz hb
    cases z <;> simp [V.ren] at hz
    obtain ⟨rfl,hz⟩:=hz
    exact .iface _ _ v (ih _ hz (by simpa [V.bel] using hb))
  | opt g x v hx hu ih =>
    intro z hz hb
    cases z <;> simp [V.ren] at hz
    obtain ⟨rfl,hz⟩:=hz
    exact .opt _ _ v (fun hg=>ih hg _ hz (by simpa [V.bel] using hb)) hu
  | junk v =>
    intro z hz hb
    cases z <;> simp [V.ren] at hz
    exact .junk v
  | nil a =>
    intro z hz hb
    cases z <;> simp [V.ren] at hz
    exact .nil a
  | map id b k m hE1 =>
    intro z hz hb
    cases z <;> simp [V.ren] at hz
    simp [V.bel] at hb
    rename_i j
    exact .map _ b k m (get j _ hb (by simpa [← hz] using hE1))
  | ptr id row off b k m hE1 hm =>
    intro z hz hb
    cases z <;> simp [V.ren] at hz
    simp [V.bel] at hb
    rename_i j row' off'
    obtain ⟨h1,rfl,rfl⟩:=hz
    exact .ptr _ _ _ b k m (get j _ hb (by simpa [← h1] using hE1)) hm
  | ref id off len b k m a cap n hE1 hm ha hl hbz hcp =>
    intro z hz hb
    cases z <;> simp [V.ren] at hz
    simp [V.bel] at hb
    rename_i j off' len'
    obtain ⟨h1,rfl,rfl⟩:=hz
    exact .ref _ _ _ b k m a cap n (get j _ hb (by simpa [← h1] using hE1)) hm ha hl hbz hcp
  | refv id k m a hE1 =>
    intro z hz hb
    cases z <;> simp [V.ren] at hz
    simp [V.bel] at hb
    rename_i j off' len'
    obtain ⟨h1,rfl,rfl⟩:=hz
    exact .refv _ k m a (get j _ hb (by simpa [← h1] using hE1))

theorem ren_BR {E E':Env} {F:Nat→Prop} {w:World} {r:List Nat} (hE:∀ (j i:Nat),r[j]? = some i→E'[j]? = E[i]?) {e:En} {b:Blk} (h:BR E F w e (Blk.ren r b)) (hb:b.bel r.length=true) : BR E' F w e b:=by
  have one:∀ (x:V) (v:Value),b.holds x→VR E F w (V.ren r x) v→VR E' F w x v:=fun x v hx hv=>ren_VR hE hv x rfl (Blk.bel_of hb hx)
  cases b with
  | gone=>trivial
  | data k rows=>exact h
  | cells xs =>
    simp only [Blk.ren,renL_eq] at h
    obtain ⟨q1,q2,b,cs,t,q3,q4,q5,q6⟩:=h
    refine ⟨by simpa using q1,q2,b,cs,t,q3,q4,by simpa using q5,fun j' x hx => ?_⟩
    obtain ⟨v,hv,hq⟩:=q6 j' (V.ren r x) (by simp [hx])
    exact ⟨v,hv,one x v (List.mem_of_getElem? hx) hq⟩
  | vrs k rs =>
    simp only [Blk.ren,renL_eq] at h
    obtain ⟨h1,hn,h2,h3⟩:=h
    refine ⟨h1,by simpa using hn,fun i row hi=>by simpa using h2 i (row.map (V.ren r)) (by simp [hi]),?_⟩
    rcases h3 with ⟨h3,h4⟩ | ⟨b,cs,t,he,hw,hs,hr⟩
    · exact .inl ⟨h3,by simpa using h4⟩
    · refine .inr ⟨b,cs,t,he,hw,by simpa using hs,fun i row j x hi hj => ?_⟩
      obtain ⟨v,hv,ho,hq⟩:=hr i (row.map (V.ren r)) j (V.ren r x) (by simp [hi]) (by simp [hj])
      exact ⟨v,hv,ho,one x v ⟨row,List.mem_of_getElem? hi,List.mem_of_getElem? hj⟩ hq⟩
  | mp es =>
    obtain ⟨b,mes,he,hw,hs,hr⟩:=h
    refine ⟨b,mes,he,hw,by simpa using hs,fun i p m hi hm => ?_⟩
    obtain ⟨q1,q2,q3⟩:=hr i (V.ren r p.1,V.ren r p.2) m (by simp [hi]) hm
    exact ⟨one p.1 _ ⟨p,List.mem_of_getElem? hi,.inl rfl⟩ q1,one p.2 _ ⟨p,List.mem_of_getElem? hi,.inr rfl⟩ q2,q3⟩
  | it x seen n =>
    obtain ⟨b,m,he,hw,hm⟩:=h
    exact ⟨b,m,he,hw,one x _ rfl hm⟩

theorem renHeap_len {r:List Nat} : ∀ {l:List Blk} {q:List Nat} {H:List Blk},renHeap r l q H→l.length=q.length
  | [],[],_,_=>rfl
  | b::l,i::q,H,h=>by simp [renHeap_len h.2]
  | [],i::q,H,h=>by cases h
  | b::l,[],H,h=>by cases h
theorem renHeap_get {r:List Nat} : ∀ {l:List Blk} {q:List Nat} {H:List Blk},renHeap r l q H→∀ (j:Nat) (b:Blk),l[j]? = some b→∃ i,q[j]? = some i∧H[i]? = some (Blk.ren r b)
  | [],[],_,_,j,b,hj=>by simp at hj
  | b::l,i::q,H,h,0,c,hj=>by simp at hj; subst hj; exact ⟨i,rfl,h.1⟩
  | b::l,i::q,H,h,j+1,c,hj=>by simpa using renHeap_get h.2 j c (by simpa using hj)
  | [],i::q,H,h,_,_,_=>by cases h
  | b::l,[],H,h,_,_,_=>by cases h
theorem renTm_get {r:List Nat} : ∀ {l:List (Nat × V)} {i:Nat} {x:V},tget l i=some x→tget (renTm r l) i=some (V.ren r x)
  | (j,y)::l,i,x,h=>by
    simp only [tget,renTm] at h ⊢
    split at h
    · simp at h; subst h; rename_i hij; simp [hij]
    · rename_i hij; simp only [hij,if_false]; exact renTm_get h

structure Ren (kp:List Nat) (r:List Nat) (s' s:St) : Prop where
  nd:r.Nodup
  kp:∀ i,i∈kp→r[i]? = some i
  heap:renHeap r s'.heap r s.heap
  tm:subTm (renTm r s'.tm) s.tm
  bt:belTm r.length s'.tm=true
  bh:belHeap r.length s'.heap=true

theorem ren_sim {B:Base} {r:List Nat} {s s':St} {a:Act} {w:World} {E:Env} {F:Nat→Prop} (hl:Ren B.keep r s' s) (hs:Sim B s a w E F) :
    Sim B s' a w (r.map fun i=>E[i]?.getD ⟨none,0,0⟩) F:=by
  have hr':=hs.rel
  have hlen:s'.heap.length=r.length:=renHeap_len hl.heap
  have hH:∀ (j:Nat) (b:Blk),s'.heap[j]? = some b→∃ i,r[j]? = some i∧s.heap[i]? = some (Blk.ren r b):=renHeap_get hl.heap
  have hE:∀ (j i:Nat),r[j]? = some i→(r.map fun i=>E[i]?.getD ⟨none,0,0⟩)[j]? = E[i]?:=fun j i hj=>by
    have hj':j<s'.heap.length:=by rw [hlen]; exact (List.getElem?_eq_some_iff.1 hj).1
    obtain ⟨i',h1,h2⟩:=hH j _ (List.getElem?_eq_getElem hj')
    rw [hj] at h1
    cases h1
    have:i<E.length:=by rw [hr'.hr.len]; exact (List.getElem?_eq_some_iff.1 h2).1
    simp [hj,List.getElem?_eq_getElem this]
  have hE':∀ (j:Nat) (e:En),(r.map fun i=>E[i]?.getD ⟨none,0,0⟩)[j]? = some e→∃ i,r[j]? = some i∧E[i]? = some e:=fun j e h=>by
    have h':=h
    simp only [List.getElem?_map,Option.map_eq_some_iff] at h'
    obtain ⟨i,hi,_⟩:=h'
    exact ⟨i,hi,by rw [← hE j i hi]; exact h⟩
  have live:∀ b:Blk,(Blk.ren r b).live=b.live:=fun b=>by cases b <;> rfl
  have both:∀ (j:Nat) (e:En) (b:Blk),(r.map fun i=>E[i]?.getD ⟨none,0,0⟩)[j]? = some e→s'.heap[j]? = some b→∃ i,r[j]? = some i∧E[i]? = some e∧s.heap[i]? = some (Blk.ren r b):=fun j e b h1 h2=>by
    obtain ⟨i,g1,g2⟩:=hE' j e h1
    obtain ⟨i',g3,g4⟩:=hH j b h2
    rw [g1] at g3
    cases g3
    exact ⟨i,g1,g2,g4⟩
  refine ⟨⟨hr'.os,hr'.tape,hr'.output,hr'.size,hr'.F0,hr'.only,hr'.same,hr'.lt,⟨by simp [hlen],?_,?_,?_⟩,?_,?_,hr'.sz⟩,hs.defers,?_⟩
  · intro j e b h1 h2
    obtain ⟨i,g1,g2,g3⟩:=both j e b h1 h2
    have:=hr'.hr.blk i e _ g2 g3
    exact ren_BR hE this (belHeap_get hl.bh j _ h2)
  · intro j b e blk h1 h2 h3 h4
    obtain ⟨i,g1,g2,g3⟩:=both j e blk h1 h3
    exact hr'.hr.free i b e _ g2 h2 g3 (by rw [live]; exact h4)
  · intro i j b ei ej bi bj h1 h2 h3 h4 h5 h6 h7 h8
    obtain ⟨i',g1,g2,g3⟩:=both i ei bi h1 h5
    obtain ⟨j',g4,g5,g6⟩:=both j ej bj h2 h6
    have:=hr'.hr.inj i' j' b ei ej _ _ g2 g5 h3 h4 g3 g6 (by rw [live]; exact h7) (by rw [live]; exact h8)
    subst this
    exact (List.getElem?_inj (List.getElem?_eq_some_iff.1 g1).1 hl.nd).1 (g1.trans g4.symm)
  · intro j b e blk h1 h2 h3 h4
    obtain ⟨i,g1,g2,g3⟩:=both j e blk h1 h2
    exact hr'.src i b e _ g2 g3 (by rw [live]; exact h3) h4
  · intro i hi
    obtain ⟨e,h1,h2⟩:=hr'.keep i hi
    exact ⟨e,(hE i i (hl.kp i hi)).trans h1,h2⟩
  · intro i x hx
    obtain ⟨v,hv,h⟩:=hs.tm i _ (subTm_get hl.tm i _ (renTm_get hx))
    exact ⟨v,hv,ren_VR hE h x rfl (belTm_get hl.bt i x hx)⟩

theorem awp_ren {c:Code} (r:List Nat) (s':St) (hl:Ren kp r s' s) (h:AWP P kp n c s' Q) : AWP P kp n c s Q:=by
  intro hok B a w E F h1 h2 h3
  subst h1
  exact h hok B a w _ F rfl h2 (ren_sim hl h3)

theorem awp_loop_ren {c:Code} (I:Nat→St→Prop) (m:Nat) (r0:List Nat) (s0:St) (h0:Ren kp r0 s0 s) (hI:I m s0)
    (round:∀ m t,I m t→AWP P kp n c t (Then (fun u=>∃ k r u',k<m∧I k u'∧Ren kp r u' u) Q)) : AWP P kp n (.loop c) s Q:=by
  refine awp_loop (fun m t=>∃ r u',I m u'∧Ren kp r u' t) m ⟨r0,s0,hI,h0⟩ ?_
  rintro m t ⟨r,u,hu,hr⟩
  refine awp_ren r u hr (awp_mono (round m u hu) ?_)
  intro e t h
  cases e with
  | normal=>obtain ⟨k,r,u',h1,h2,h3⟩:=h; exact ⟨k,h1,r,u',h2,h3⟩
  | _=>exact h

theorem awp_mid {x y:Code} (J:St→Prop) (h1:AWP P kp n x s (Then (fun t=>∃ r u,J u∧Ren kp r u t) Q)) (h2:∀ u,J u→AWP P kp n y u Q) : AWP P kp n (.seq x y) s Q:=by
  refine awp_seq (awp_mono h1 ?_)
  intro e t h
  cases e with
  | normal=>obtain ⟨r,u,h3,h4⟩:=h; exact awp_ren r u h4 (h2 u h3)
  | _=>exact h

def Fin (P:Program) (rs:List ResultVar) (R:V→List Blk→Prop) (e:Exit) (t:St) : Prop :=
  (e=.normal∨e=.ret)∧∃ p x,retQ P t rs=some (p,x)∧p∧R x t.heap

end Go.Aw

namespace Go.Aw
set_option linter.unusedSimpArgs false
set_option linter.unusedVariables false
open Go.RowKit

def HeapVC (P:Program) (o:Oper) (s:St) (K:St→Prop) : Prop :=
  match o.op,o.guard with
  | .call c,none =>
    match callT s c with
    | some (p,f,args)=>p∧∃ R:V→List Blk→Prop,AC P f args s.heap (List.range s.heap.length) R∧∀ x H',R x H'→K ((⟨s.tm,H'⟩ : St).put o.dst x)
    | none=>False
  | _,_=>False

theorem heap_merge {B:Base} {s:St} {a:Act} {w w':World} {E E':Env} {F F':Nat→Prop} {H':List Blk} (hs:Sim B s a w E F)
    (hr:Rel ⟨w,F,own E s.heap,E,List.range s.heap.length,[]⟩ ⟨[],H'⟩ E' F' w') : Sim B ⟨s.tm,H'⟩ a w' E' F':=by
  have hs':=hs.rel
  have hown:∀ b,own E s.heap b→B.w0.heap.size≤b∨B.own b:=fun b ⟨id,e,blk,h1,h2,h3,h4⟩=>hs'.src id b e blk h1 h2 h3 h4
  have hkeep:∀ (j:Nat) (e:En),E[j]? = some e→E'[j]? = some e:=fun j e h=>by
    have hj:j<s.heap.length:=by rw [← hs'.hr.len]; exact (List.getElem?_eq_some_iff.1 h).1
    obtain ⟨e',h1,h2⟩:=hr.keep j (List.mem_range.2 hj)
    dsimp only at h2
    rw [h] at h2
    cases h2
    exact h1
  have evo:Evo E F w E' F' w' (fun _=>True):=⟨hr.F0,fun b hb=>hr.same b (hs'.lt b hb) (fun ⟨id,e,blk,h1,h2,h3,h4⟩=>(hs'.hr.free id b e blk h1 h4 h2 h3).2 hb),fun j e _ h=>hkeep j e h,hr.sz⟩
  refine ⟨⟨hr.os.trans hs'.os,hr.tape.trans hs'.tape,hr.output.trans hs'.output,Nat.le_trans hs'.size hr.size,fun b hb=>hr.F0 b (hs'.F0 b hb),fun b hb => ?_,fun b h1 h2 => ?_,hr.lt,hr.hr,fun id b e blk h1 h2 h3 h4 => ?_,fun i hi => ?_,fun b n h=>hr.sz b n (hs'.sz b n h)⟩,hs.defers,fun i x hx => ?_⟩
  · rcases hr.only b hb with h | h | h
    · exact hs'.only b h
    · exact .inr (.inl (Nat.le_trans hs'.size h))
    · exact .inr (hown b h)
  · refine (hr.same b (Nat.lt_of_lt_of_le h1 hs'.size) fun h => ?_).trans (hs'.same b h1 h2)
    rcases hown b h with h | h
    · omega
    · exact h2 h
  · rcases hr.src id b e blk h1 h2 h3 h4 with h | h
    · exact .inl (Nat.le_trans hs'.size h)
    · exact hown b h
  · obtain ⟨e,h1,h2⟩:=hs'.keep i hi
    exact ⟨e,hkeep i e h1,h2⟩
  · obtain ⟨v,hv,h⟩:=hs.tm i x hx
    exact ⟨v,hv,h.evo evo (fun _ _=>trivial)⟩

theorem heap_sound {P:Program} {B:Base} {s:St} {a:Act} {w:World} {E:Env} {F:Nat→Prop} {o:Oper} {K:St→Prop} {Q:Exit→Act→World→Prop}
    (hs:Sim B s a w E F) (hd:∀ d,o.dst=some d→d<a.tmps.size) (h:HeapVC P o s K) (ops:Array Oper) :
    Region.wanted o (yielded ops a.tmps)=true∧o.wp P a w (fun a' w'=>∃ v s' E' F',a'=a.put o.dst v∧K s'∧Sim B s' a' w' E' F') Q:=by
  unfold HeapVC at h
  split at h
  · rename_i c hc hg
    refine ⟨by simp [Region.wanted,hg],?_⟩
    split at h
    · rename_i p f args hT
      obtain ⟨hp,R,hac,hK⟩:=h
      obtain ⟨fn,hfn,hnm,hbd⟩:=hac.1
      have hcf:∀ cargs,(callFunc f cargs).run P w=.ok (.enter f cargs) w:=fun cargs=>by
        simp only [callFunc,Sem.run_bind,run_program,Result.andThen_ok,hfn,hnm,hbd,Bool.false_eq_true,if_false]
        rfl
      have hrun:∃ cargs,(execOp a.eval o).run P w=.ok (.enter f cargs) w∧CR E F w args cargs:=by
        unfold callT at hT
        split at hT
        · rename_i fo hcal
          have fin:∀ (caps:List V) (cv:Array Value),a.eval fo=.func (.func f) #[] cv→cv.size=caps.length →
              (∀ (j:Nat) (x:V) (v:Value),caps[j]? = some x→cv[j]? = some v→VR E F w x v)→(stripAll s c.args.toList).1→args=(stripAll s c.args.toList).2++caps →
              ∃ cargs,(execOp a.eval o).run P w=.ok (.enter f cargs) w∧CR E F w args cargs:=by
            intro caps cv hf hcs hcr hst hargs
            subst hargs
            obtain ⟨q1,q2⟩:=stripAll_sound hs c.args.toList hst
            refine ⟨(c.args.map a.eval)++cv,?_,?_,?_⟩
            · simp [execOp,hc,resolve,hcal,hf,Deferred.ofValue,invoke,hcf]
            · simp [q1,hcs]
            · intro j x v hx hv
              rw [List.getElem?_append] at hx
              rw [Array.getElem?_append] at hv
              rw [q1] at hx
              simp only [Array.size_map,Array.length_toList] at hv hx
              split at hx
              · rename_i hj
                rw [if_pos hj] at hv
                exact q2 j x v hx (by simpa using hv)
              · rename_i hj
                rw [if_neg hj] at hv
                exact hcr _ x v hx hv
          have e0:=ev_sound hs fo
          split at hT
          · rename_i f' caps hfo
            simp only [Option.some.injEq,Prod.mk.injEq] at hT
            obtain ⟨rfl,rfl,rfl⟩:=hT
            have e1:=V.strip_sound e0 hp.1
            rw [hfo] at e1
            generalize hv:a.eval fo=v at e1
            cases e1 with
            | d _ _ hd' =>
              cases hd' with
              | fn _ _ cs hss hrr =>
                refine fin (caps.map .d) cs hv (by simpa using hss) (fun j x v hx hv => ?_) hp.2 rfl
                simp only [List.getElem?_map,Option.map_eq_some_iff] at hx
                obtain ⟨y,hy,rfl⟩:=hx
                exact .d _ _ (hrr j y v hy hv)
          · rename_i f' caps hfo
            simp only [Option.some.injEq,Prod.mk.injEq] at hT
            obtain ⟨rfl,rfl,rfl⟩:=hT
            have e1:=V.strip_sound e0 hp.1
            rw [hfo] at e1
            generalize hv:a.eval fo=v at e1
            cases e1 with
            | fn _ _ cs hss hrr=>exact fin caps cs hv hss hrr hp.2 rfl
          · cases hT
        · cases hT
      obtain ⟨cargs,hrun,hcr⟩:=hrun
      have hcalls:=hac.2 w cargs E F hs.rel.hr hs.rel.lt (fun i hi=>List.mem_range.1 hi) hcr
      unfold Oper.wp
      rw [hrun]
      refine hcalls.mono ?_
      rintro e w' ⟨v,x,H',E',F',rfl,hR,hrel,hx⟩
      exact ⟨v,_,E',F',rfl,hK x H' hR,Sim.put (heap_merge hs hrel) hx hd⟩
    · exact h.elim
  · exact h.elim

def OpsHC (P:Program) (kp:List Nat) (ops:Array Oper) (fl:List Nat) : List (Oper × Nat)→St→(St→Prop)→Prop
  | [],s,K=>K s
  | (o,i)::r,s,K=>if i∈fl then HeapVC P o s fun s'=>OpsHC P kp ops fl r s' K else OpVC P kp ops o s fun s'=>OpsHC P kp ops fl r s' K

theorem opsH_sound {P:Program} {ops:Array Oper} {Q:Exit→Act→World→Prop} {B:Base} {n:Nat} (hd:dstsOk n ops=true) (fl:List Nat) : ∀ (l:List (Oper × Nat)) (s:St) (a:Act) (w:World) (E:Env) (F:Nat→Prop) (K:St→Prop),a.tmps.size=n→Sim B s a w E F →
    OpsHC P B.keep ops fl l s K→(∀ p,p∈l→ops[p.2]? = some p.1) →
    (∀ a' w' s' E' F',K s'→Sim B s' a' w' E' F'→a'.tmps.size=n→Q .normal a' w')→wpOps P ops Q (l.map (·.2)) a w
  | [],s,a,w,E,F,K,hn,hs,h,_,hq=>hq a w s E F h hs hn
  | (o,i)::l,s,a,w,E,F,K,hn,hs,h,hl,hq=>by
    have ho:ops[i]? = some o:=hl (o,i) (by simp)
    have ih:=fun s a w E F hn hs h=>opsH_sound (P:=P) hd fl l s a w E F K hn hs h (fun p hp=>hl p (by simp [hp])) hq
    have hdd:∀ d,o.dst=some d→d<a.tmps.size:=fun d hd'=>by rw [hn]; exact dstsOk_spec hd ho d hd'
    simp only [List.map_cons,wpOps,ho]
    simp only [OpsHC] at h
    split at h
    · obtain ⟨hw,hwp⟩:=heap_sound (Q:=Q) hs hdd h ops
      rw [hw,if_pos rfl]
      exact .inl (Oper.wp_mono (fun a' w' ⟨v,s',E',F',ha,hK,hs'⟩=>by subst ha; exact ih s' _ w' E' F' (by rw [size_put]; exact hn) hs' hK) hwp)
    · rcases op_sound (Q:=Q) hs hdd h with ⟨v,s',hK,hs',hw⟩ | ⟨_,hw⟩
      · have ih':=ih s' _ w E F (by rw [size_put]; exact hn) hs' hK
        rcases hw with ⟨hw,hrun⟩ | ⟨hw,rfl⟩
        · rw [hw,if_pos rfl]
          refine .inl ?_
          unfold Oper.wp
          rw [hrun w (Keep.refl w)]
          exact ih'
        · rw [hw]
          exact ih'
      · rcases hw with ⟨hw,hwp⟩ | ⟨hw,s',F',hK,hs'⟩
        · rw [hw,if_pos rfl]
          exact .inl (Oper.wp_mono (fun a' w' ⟨_,v,s',E',F',ha,hK,hs'⟩=>by subst ha; exact ih s' _ w' E' F' (by rw [size_put]; exact hn) hs' hK) hwp)
        · rw [hw]
          exact ih s' _ w E F' (by rw [size_put]; exact hn) hs' hK

theorem awp_regionH {P:Program} {kp:List Nat} {n:Nat} {s:St} {Q:Exit→St→Prop} {id:Nat} {ops:Array Oper} (fl:List Nat)
    (h:∀ K:St→Prop,(∀ t,Q .normal t→K t)→OpsHC P kp ops fl ops.toList.zipIdx s K) : AWP P kp n (.region id ops false) s Q:=by
  intro hok B a w E F h1 h2 h3
  subst h1
  have:=opsH_sound (P:=P) (Q:=fun e a' w'=>(∀ ch,e≠.panic ch)∧e≠.outgrown∧∃ s' E' F',Q e s'∧Sim B s' a' w' E' F'∧a'.tmps.size=n) (ops:=ops) (n:=n) hok fl ops.toList.zipIdx s a w E F (fun t=>Q .normal t) h2 h3 (h _ fun t ht=>ht)
    (fun p hp=>by
      obtain ⟨o,i⟩:=p
      rw [List.mem_zipIdx_iff_getElem?] at hp
      simpa using hp)
    (fun a' w' s' E' F' hK hs hn=>⟨by simp,by simp,s',E',F',hK,hs,hn⟩)
  refine wp_region ?_
  have e:ops.toList.zipIdx.map (·.2)=List.range ops.size:=by
    rw [List.zipIdx_map_snd,← List.range_eq_range']
    simp
  rwa [e] at this

end Go.Aw

namespace Go.Aw
set_option linter.unusedSimpArgs false
set_option linter.unusedVariables false
open Go.RowKit

def simpleQ:Op→Bool
  | .move _=>true
  | .assign _=>true
  | .load .. => true
  | .fieldAddr .. => true
  | .indexAddr .. => true
  | .extract .. => true
  | .binOp op _ _ y _=>(nilCmp op y).isNone
  | _=>false

theorem opR_congr {P:Program} {s s':St} {op:Op} (hc:simpleQ op=true) (h:∀ x∈op.operands,s.ev x=s'.ev x) (hH:s.heap=s'.heap) : opR P s op=opR P s' op:=by
  cases op <;> simp only [simpleQ,Bool.false_eq_true] at hc <;>
    (simp only [opR,opQ]
     simp only [Op.operands,List.mem_toArray,List.mem_cons,List.not_mem_nil,or_false,forall_eq_or_imp,forall_eq] at h
     simp [h,hH])

def srt:List (Nat × V)→Bool
  | (i,_)::(j,y)::r=>decide (i<j)&&srt ((j,y)::r)
  | _=>true

theorem srt_tail {p:Nat × V} {r:List (Nat × V)} (h:srt (p::r)=true) : srt r=true:=by
  cases r with
  | nil=>rfl
  | cons q r=>simp only [srt,Bool.and_eq_true] at h; exact h.2
theorem srt_head {p q:Nat × V} {r:List (Nat × V)} (h:srt (p::q::r)=true) : p.1<q.1:=by
  simp only [srt,Bool.and_eq_true,decide_eq_true_eq] at h; exact h.1

theorem srt_lt {p:Nat × V} : ∀ {r:List (Nat × V)},srt (p::r)=true→∀ q∈r,p.1<q.1
  | [],_,q,h=>by cases h
  | q'::r,hs,q,h=>by
    rcases List.mem_cons.1 h with rfl | h
    · exact srt_head hs
    · exact Nat.lt_trans (srt_head hs) (srt_lt (srt_tail hs) q h)

theorem srt_cons {p:Nat × V} {r:List (Nat × V)} (hr:srt r=true) (h:∀ q∈r,p.1<q.1) : srt (p::r)=true:=by
  cases r with
  | nil=>rfl
  | cons q r=>simp only [srt,Bool.and_eq_true,decide_eq_true_eq]; exact ⟨h q (by simp),hr⟩

theorem mem_tput {i:Nat} {x:V} : ∀ {l:List (Nat × V)} {q:Nat × V},q∈tput l i x→q=(i,x)∨q∈l
  | [],q,h=>by simp [tput] at h; exact .inl h
  | (j,y)::r,q,h=>by
    simp only [tput] at h
    split at h
    · rcases List.mem_cons.1 h with h | h
      · exact .inl h
      · exact .inr (List.mem_cons_of_mem _ h)
    · split at h
      · rcases List.mem_cons.1 h with h | h
        · exact .inl h
        · exact .inr h
      · rcases List.mem_cons.1 h with h | h
        · exact .inr (by rw [h]; exact List.mem_cons_self ..)
        · rcases mem_tput h with h | h
          · exact .inl h
          · exact .inr (List.mem_cons_of_mem _ h)

theorem srt_tput {i:Nat} {x:V} : ∀ {l:List (Nat × V)},srt l=true→srt (tput l i x)=true
  | [],_=>rfl
  | (j,y)::r,h=>by
    simp only [tput]
    split
    · rename_i hij
      exact srt_cons (srt_tail h) fun q hq=>by rw [hij]; exact srt_lt h q hq
    · split
      · rename_i _ hlt
        exact srt_cons h fun q hq=>by
          rcases List.mem_cons.1 hq with rfl | hq
          · exact hlt
          · exact Nat.lt_trans hlt (srt_lt h q hq)
      · rename_i h1 h2
        exact srt_cons (srt_tput (srt_tail h)) fun q hq=>by
          rcases mem_tput hq with rfl | hq
          · show j<i; omega
          · exact srt_lt h q hq

theorem srt_ext:∀ {l l':List (Nat × V)},srt l=true→srt l'=true→(∀ i,tget l i=tget l' i)→l=l'
  | [],[],_,_,_=>rfl
  | [],(j,y)::r,_,_,h=>by have:=h j; simp [tget] at this
  | (j,y)::r,[],_,_,h=>by have:=h j; simp [tget] at this
  | (j,y)::r,(k,z)::q,h1,h2,h=>by
    have none_of:∀ {p:Nat × V} {r:List (Nat × V)} (i:Nat),srt (p::r)=true→i≤p.1→tget r i=none:=by
      intro p r i hs hi
      cases hg:tget r i with
      | none=>rfl
      | some v =>
        exfalso
        have mem:∀ (r:List (Nat × V)) (v:V),tget r i=some v→∃ q∈r,q.1=i:=by
          intro r
          induction r with
          | nil=>intro v hv; simp [tget] at hv
          | cons q r ih =>
            intro v hv
            obtain ⟨a,b⟩:=q
            simp only [tget] at hv
            split at hv
            · rename_i hia; exact ⟨(a,b),by simp,hia.symm⟩
            · obtain ⟨q,hq,e⟩:=ih v hv; exact ⟨q,List.mem_cons_of_mem _ hq,e⟩
        obtain ⟨q,hq,e⟩:=mem r v hg
        have:=srt_lt hs q hq
        omega
    have hjk:j=k:=by
      have a:=h j
      have b:=h k
      simp only [tget,if_true] at a b
      by_cases e:j=k
      · exact e
      · rw [if_neg e] at a
        rw [if_neg (Ne.symm e)] at b
        rcases Nat.lt_or_ge j k with hlt | hge
        · rw [none_of j h2 (by show j≤k; omega)] at a; cases a
        · rw [none_of k h1 (by show k≤j; omega)] at b; cases b
    subst hjk
    have hy:y=z:=by have:=h j; simpa [tget] using this
    subst hy
    rw [srt_ext (srt_tail h1) (srt_tail h2) fun i=>by
      by_cases hi:i=j
      · subst hi; rw [none_of i h1 (Nat.le_refl _),none_of i h2 (Nat.le_refl _)]
      · have:=h i; simpa [tget,hi] using this]

theorem tput_comm {l:List (Nat × V)} {i j:Nat} {x y:V} (h:srt l=true) (hij:i≠j) : tput (tput l i x) j y=tput (tput l j y) i x:=by
  refine srt_ext (srt_tput (srt_tput h)) (srt_tput (srt_tput h)) fun k => ?_
  simp only [tget_tput]
  by_cases h1:k=i
  · subst h1; simp [hij]
  · simp [h1]

def shp:Option Blk→Nat
  | some (.data k _)=>2*k+1
  | some (.vrs k _)=>2*k+2
  | _=>0
def RoS (ro:List Nat) (H H':List Blk) : Prop:=(∀ id,id∈ro→H'[id]? = H[id]?)∧∀ id:Nat,shp H'[id]? = shp H[id]?
theorem RoS.trans {ro:List Nat} {A B C:List Blk} (h:RoS ro A B) (h':RoS ro B C) : RoS ro A C:=⟨fun id hi=>(h'.1 id hi).trans (h.1 id hi),fun id=>(h'.2 id).trans (h.2 id)⟩

def StepA (P:Program) (kp:List Nat) (ops:Array Oper) (fl ro:List Nat) (i:Nat) (s:St) (K:St→Prop) : Prop :=
  match ops[i]? with
  | none=>False
  | some o=>if i∈fl then HeapVC P o s fun t=>RoS ro s.heap t.heap∧K t else OpVC P kp ops o s K

theorem HeapVC.imp {P:Program} {o:Oper} {s:St} {K K':St→Prop} (h:HeapVC P o s K) (hk:∀ t,K t→K' t) : HeapVC P o s K':=by
  unfold HeapVC at *
  split at h
  · rename_i c hc hg
    split at h
    · obtain ⟨h1,R,h2,h3⟩:=h
      exact ⟨h1,R,h2,fun x H' hr=>hk _ (h3 x H' hr)⟩
    · exact h.elim
  · exact h.elim

theorem StepA.imp {P:Program} {kp:List Nat} {ops:Array Oper} {fl ro:List Nat} {i:Nat} {s:St} {K K':St→Prop} (h:StepA P kp ops fl ro i s K) (hk:∀ t,K t→K' t) : StepA P kp ops fl ro i s K':=by
  unfold StepA at *
  split at h
  · exact h.elim
  · rename_i o ho
    split at h
    · rename_i hf
      rw [if_pos hf]
      exact h.imp fun t ht=>⟨ht.1,hk t ht.2⟩
    · rename_i hf
      rw [if_neg hf]
      exact h.imp hk

def anyA (P:Program) (kp:List Nat) (ops:Array Oper) (fl ro:List Nat) : Nat→Array Bool→St→(St→Prop)→Prop
  | 0,listed,s,K=>Region.ready .any ops listed=[]∧K s
  | n+1,listed,s,K=>(Region.ready .any ops listed=[]→K s)∧∀ i∈Region.ready .any ops listed,StepA P kp ops fl ro i s fun t=>anyA P kp ops fl ro n (listed.setIfInBounds i true) t K

theorem any_soundA {P:Program} {ops:Array Oper} {Q:Exit→Act→World→Prop} {B:Base} {n:Nat} (hd:dstsOk n ops=true) (fl ro:List Nat) {K:St→Prop}
    (hq:∀ a' w' s' E' F',K s'→Sim B s' a' w' E' F'→a'.tmps.size=n→Q .normal a' w') : ∀ (fuel:Nat) (listed:Array Bool) (s:St) (a:Act) (w:World) (E:Env) (F:Nat→Prop),a.tmps.size=n→Sim B s a w E F →
    anyA P B.keep ops fl ro fuel listed s K→wpAny P .any ops Q fuel listed a w
  | 0,listed,s,a,w,E,F,hn,hs,h=>⟨h.1,hq a w s E F h.2 hs hn⟩
  | fuel+1,listed,s,a,w,E,F,hn,hs,h=>by
    refine ⟨fun h0=>hq a w s E F (h.1 h0) hs hn,fun i hi => ?_⟩
    have h:=h.2 i hi
    unfold StepA at h
    have ih:=fun s a w E F hn hs h=>any_soundA (P:=P) hd fl ro hq fuel (listed.setIfInBounds i true) s a w E F hn hs h
    split at h
    · exact h.elim
    rename_i o ho
    have hdd:∀ d,o.dst=some d→d<a.tmps.size:=fun d hd'=>by rw [hn]; exact dstsOk_spec hd ho d hd'
    unfold wpOp
    simp only [ho]
    split at h
    · obtain ⟨hw,hwp⟩:=heap_sound (Q:=Q) hs hdd h ops
      rw [hw,if_pos rfl]
      exact .inl (Oper.wp_mono (fun a' w' ⟨v,s',E',F',ha,hK,hs'⟩=>by subst ha; exact ih s' _ w' E' F' (by rw [size_put]; exact hn) hs' hK.2) hwp)
    · rcases op_sound (Q:=Q) hs hdd h with ⟨v,s',hK,hs',hw⟩ | ⟨_,hw⟩
      · have ih':=ih s' _ w E F (by rw [size_put]; exact hn) hs' hK
        rcases hw with ⟨hw,hrun⟩ | ⟨hw,rfl⟩
        · rw [hw,if_pos rfl]
          refine .inl ?_
          unfold Oper.wp
          rw [hrun w (Keep.refl w)]
          exact ih'
        · rw [hw]
          exact ih'
      · rcases hw with ⟨hw,hwp⟩ | ⟨hw,s',F',hK,hs'⟩
        · rw [hw,if_pos rfl]
          exact .inl (Oper.wp_mono (fun a' w' ⟨_,v,s',E',F',ha,hK,hs'⟩=>by subst ha; exact ih s' _ w' E' F' (by rw [size_put]; exact hn) hs' hK) hwp)
        · rw [hw]
          exact ih s' _ w E F' (by rw [size_put]; exact hn) hs' hK

def roOk (P:Program) (ro:List Nat) (s:St) (op:Op) : Prop:=∀ H':List Blk,RoS ro s.heap H'→opR P ⟨s.tm,H'⟩ op=opR P s op

theorem ev_put {s:St} {d:Option Tmp} {y:V} {x:Operand} (h:∀ t,d=some t→x≠.tmp t) : (s.put d y).ev x=s.ev x:=by
  cases d with
  | none=>rfl
  | some t =>
    cases x with
    | tmp u =>
      have hu:u≠t:=fun e=>h t rfl (by rw [e])
      simp only [St.ev,St.get,St.put,tget_tput,if_neg hu]
    | _=>rfl

theorem looks_op {ops:Array Oper} {o:Oper} {d:Option Tmp} (h:∀ t,d=some t→t ∉ o.looksAt ops) : ∀ x∈o.op.operands,∀ t,d=some t→x≠.tmp t:=fun x hx t ht e=>h t ht (by
  subst e
  exact List.mem_append_left _ (List.mem_filterMap.2 ⟨.tmp t,by simpa using hx,rfl⟩))

theorem put_heap (s:St) (d:Option Tmp) (y:V) : (s.put d y).heap=s.heap:=by cases d <;> rfl

theorem opR_put {P:Program} {ops:Array Oper} {o:Oper} {s:St} {d:Option Tmp} {y:V} (hs:simpleQ o.op=true) (h:∀ t,d=some t→t ∉ o.looksAt ops) : opR P (s.put d y) o.op=opR P s o.op :=
  opR_congr hs (fun x hx=>ev_put (looks_op h x hx)) (put_heap s d y)

theorem put_comm {s:St} {d e:Option Tmp} {x y:V} (hs:srt s.tm=true) (h:∀ t,d=some t→e≠some t) : (s.put d x).put e y=(s.put e y).put d x:=by
  cases d with
  | none=>rfl
  | some t=>cases e with
    | none=>rfl
    | some u =>
      have:t≠u:=fun q=>h t rfl (by rw [q])
      simp only [St.put]
      rw [tput_comm hs this]

theorem srt_put {s:St} {d:Option Tmp} {x:V} (hs:srt s.tm=true) : srt (s.put d x).tm=true:=by
  cases d with
  | none=>exact hs
  | some t=>exact srt_tput hs

theorem stripAll_congr {s s':St} : ∀ (l:List Operand),(∀ x∈l,s.ev x=s'.ev x)→stripAll s l=stripAll s' l
  | [],_=>rfl
  | x::l,h=>by simp only [stripAll,h x (by simp),stripAll_congr l fun y hy=>h y (by simp [hy])]

theorem callT_congr {s s':St} {c:Call} (h:∀ x∈c.operands,s.ev x=s'.ev x) : callT s c=callT s' c:=by
  have ha:stripAll s c.args.toList=stripAll s' c.args.toList:=stripAll_congr _ fun x hx=>h x (by
    unfold Call.operands
    split <;> simp <;> simp_all)
  unfold callT
  split
  · rename_i f hf
    have:s.ev f=s'.ev f:=h f (by simp [Call.operands,hf])
    rw [ha,this]
  · rfl

theorem opE_simple {P:Program} {kp:List Nat} {s:St} {op:Op} (h:simpleQ op=true) : opE P kp s op=none:=by
  cases op <;> first | rfl | simp [simpleQ] at h

theorem simple_VC {P:Program} {kp:List Nat} {ops:Array Oper} {o:Oper} {s:St} {K:St→Prop} (hs:simpleQ o.op=true) (hg:o.guard=none) :
    OpVC P kp ops o s K↔∃ ob y,opR P s o.op=some (ob,y)∧ob∧K (s.put o.dst y):=by
  have e:s.guardOf ops o=some true:=by simp [St.guardOf,hg]
  unfold OpVC
  simp only [e,opE_simple hs,hg,Option.isSome_none,Bool.false_eq_true,if_false]
  cases hq:opR P s o.op with
  | none =>
    simp only [reduceCtorEq,false_and,exists_false,iff_false]
    cases o with
    | mk dst op type pos after guard =>
      cases op with
      | binOp op t x y t2 =>
        have:nilCmp op y=none:=by simpa [simpleQ] using hs
        simp [offVC,nilVC,nilQ,this]
      | _=>first | (simp [simpleQ] at hs; done) | simp [offVC]
  | some r =>
    obtain ⟨ob,y⟩:=r
    simp only [true_implies]
    constructor
    · exact fun h=>⟨ob,y,rfl,h.1.1,h.2⟩
    · rintro ⟨ob',y',h1,h2,h3⟩
      cases h1
      exact ⟨⟨h2,fun h=>h.elim⟩,h3⟩

theorem StepA.comm {P:Program} {kp:List Nat} {ops:Array Oper} {fl ro:List Nat} {B:Prop} {j:Nat} {oi oj:Oper} {s:St} {K:St→Prop} {ob:Prop} {x:V} (hs:srt s.tm=true)
    (hj:ops[j]? = some oj) (hi:simpleQ oi.op=true) (hap:oi.apart ops oj=true) (hjk:j∈fl∨(simpleQ oj.op=true∧oj.guard=none))
    (hq:opR P s oi.op=some (ob,x)) (hro:roOk P ro s oi.op∨(B∧j ∉ fl)) (h:StepA P kp ops fl ro j (s.put oi.dst x) K) :
    StepA P kp ops fl ro j s fun t=>srt t.tm=true∧opR P t oi.op=some (ob,x)∧(roOk P ro t oi.op∨B)∧K (t.put oi.dst x):=by
  obtain ⟨a1,a2,a3⟩:=Oper.apart_spec hap
  unfold StepA at *
  simp only [hj] at *
  split at h
  · rename_i hf
    rw [if_pos hf]
    have hro:=hro.resolve_right fun hh=>hh.2 hf
    unfold HeapVC at *
    split at h
    · rename_i c hc hg
      have hops:∀ y∈c.operands,(s.put oi.dst x).ev y=s.ev y:=fun y hy=>ev_put (looks_op a1 y (by rw [hc]; exact hy))
      rw [callT_congr hops] at h
      split at h
      · obtain ⟨h1,R,h2,h3⟩:=h
        rw [put_heap] at h2
        refine ⟨h1,R,h2,fun y H' hR => ?_⟩
        obtain ⟨h4,h5⟩:=h3 y H' hR
        rw [put_heap] at h4
        have hh:((⟨s.tm,H'⟩ : St).put oj.dst y).heap=H':=put_heap _ _ _
        have h4':RoS ro s.heap H':=by
          rwa [put_heap] at h4
        have e0:opR P ((⟨s.tm,H'⟩ : St).put oj.dst y) oi.op=some (ob,x):=by rw [opR_put hi a3,hro H' h4',hq]
        refine ⟨by rw [hh]; exact h4',srt_put (s:=⟨s.tm,H'⟩) hs,e0,.inl fun H'' hH => ?_,?_⟩
        · rw [hh] at hH
          rw [e0]
          have e2:opR P ⟨((⟨s.tm,H'⟩ : St).put oj.dst y).tm,H''⟩ oi.op=opR P ((⟨s.tm,H''⟩ : St).put oj.dst y) oi.op:=by
            cases oj.dst <;> rfl
          rw [e2,opR_put hi a3,hro H'' (h4'.trans hH),hq]
        · have e1:((⟨s.tm,H'⟩ : St).put oj.dst y).put oi.dst x=(⟨(s.put oi.dst x).tm,H'⟩ : St).put oj.dst y:=by
            rw [← put_comm (s:=⟨s.tm,H'⟩) hs a2]
            cases oi.dst <;> rfl
          rw [e1]
          exact h5
      · exact h.elim
    · exact h.elim
  · rename_i hf
    rw [if_neg hf]
    obtain ⟨hjs,hjg⟩:=hjk.resolve_left hf
    rw [simple_VC hjs hjg] at h ⊢
    obtain ⟨ob',y,h1,h2,h3⟩:=h
    rw [opR_put hjs a1] at h1
    have e0:opR P (s.put oj.dst y) oi.op=some (ob,x):=by rw [opR_put hi a3,hq]
    refine ⟨ob',y,h1,h2,srt_put hs,e0,hro.imp (fun hro H'' hH => ?_) (fun hh=>hh.1),?_⟩
    · rw [put_heap] at hH
      rw [e0]
      have e2:opR P ⟨(s.put oj.dst y).tm,H''⟩ oi.op=opR P ((⟨s.tm,H''⟩ : St).put oj.dst y) oi.op:=by
        cases oj.dst <;> rfl
      rw [e2,opR_put hi a3,hro H'' hH,hq]
    · rw [← put_comm hs a2]
      exact h3

theorem anyA_first {P:Program} {kp:List Nat} {ops:Array Oper} {fl ro:List Nat} {i:Nat} {oi:Oper} {K:St→Prop} {ob:Prop} {x:V} (hi:ops[i]? = some oi) (hsi:simpleQ oi.op=true) (hg:oi.guard=none) (hfi:i ∉ fl) (hob:ob) :
    ∀ (fuel:Nat) (listed:Array Bool) (s:St),srt s.tm=true →
      (∀ j oj,ops[j]? = some oj→j≠i→listed.getD j true=false→(∀ e∈oj.after,Region.binds .any e=true→e.on≠i)→oi.apart ops oj=true∧(j∈fl∨(simpleQ oj.op=true∧oj.guard=none))) →
      i∈Region.ready .any ops listed→opR P s oi.op=some (ob,x)→(roOk P ro s oi.op∨∀ j,j∈fl→∀ oj,ops[j]? = some oj→∃ e,e∈oj.after∧Region.binds .any e=true∧e.on=i) →
      anyA P kp ops fl ro fuel (listed.setIfInBounds i true) (s.put oi.dst x) K→anyA P kp ops fl ro (fuel+1) listed s K:=by
  intro fuel
  induction fuel with
  | zero =>
    intro listed s hs _ hr hq hro H
    refine ⟨fun h=>(by rw [h] at hr; cases hr),fun j hj => ?_⟩
    by_cases hji:j=i
    · subst hji
      unfold StepA
      simp only [hi]
      rw [if_neg hfi,simple_VC hsi hg]
      exact ⟨ob,x,hq,hob,H⟩
    · have:=ready_mono hj hji
      rw [H.1] at this
      cases this
  | succ fuel ih =>
    intro listed s hs hfree hr hq hro H
    refine ⟨fun h=>(by rw [h] at hr; cases hr),fun j hj => ?_⟩
    by_cases hji:j=i
    · subst hji
      unfold StepA
      simp only [hi]
      rw [if_neg hfi,simple_VC hsi hg]
      exact ⟨ob,x,hq,hob,H⟩
    · have h1:=H.2 j (ready_mono hj hji)
      obtain ⟨hjun,oj,hoj,hall⟩:=mem_ready.1 hj
      have hnot:∀ e∈oj.after,Region.binds .any e=true→e.on≠i:=fun e he hb heq=>by
        have h1:=hall e he hb
        have h0:=(mem_ready.1 hr).1
        rw [heq] at h1
        rcases Nat.lt_or_ge i listed.size with h' | h'
        · simp [h'] at h0 h1; rw [h0] at h1; cases h1
        · simp [Array.getElem?_eq_none h'] at h1
      obtain ⟨hap,hjk⟩:=hfree j oj hoj hji hjun hnot
      have h2:=StepA.comm hs hoj hsi hap hjk hq (hro.imp id fun hB=>⟨hB,fun hjf=>let ⟨e,he,hb,ho⟩:=hB j hjf oj hoj; hnot e he hb ho⟩) h1
      have hfree':∀ k ok,ops[k]? = some ok→k≠i→(listed.setIfInBounds j true).getD k true=false →
          (∀ e∈ok.after,Region.binds .any e=true→e.on≠i)→oi.apart ops ok=true∧(k∈fl∨(simpleQ ok.op=true∧ok.guard=none)):=fun k ok hk hki hun hno=>by
        refine hfree k ok hk hki ?_ hno
        by_cases hjk:j=k
        · subst hjk; exact hjun
        · rw [getD_set_ne true hjk] at hun; exact hun
      refine h2.imp fun t ⟨g1,g2,g3,g4⟩ => ?_
      refine ih (listed.setIfInBounds j true) t g1 hfree' (ready_mono hr (Ne.symm hji)) g2 g3 ?_
      rw [Array.setIfInBounds_comm _ _ hji]
      exact g4

def freeA (ops:Array Oper) (fl:List Nat) (listed:Array Bool) (i:Nat) : Bool :=
  match ops[i]? with
  | none=>false
  | some oi=>(List.range ops.size).all fun j=>match ops[j]? with
    | none=>true
    | some oj=>j==i||listed.getD j true||(oj.after.any fun e=>Region.binds .any e&&e.on==i)||(oi.apart ops oj&&(fl.contains j||(simpleQ oj.op&&oj.guard.isNone)))

theorem freeA_spec {ops:Array Oper} {fl:List Nat} {listed:Array Bool} {i:Nat} {oi:Oper} (hi:ops[i]? = some oi) (h:freeA ops fl listed i=true) :
    ∀ j oj,ops[j]? = some oj→j≠i→listed.getD j true=false→(∀ e∈oj.after,Region.binds .any e=true→e.on≠i)→oi.apart ops oj=true∧(j∈fl∨(simpleQ oj.op=true∧oj.guard=none)):=by
  intro j oj hj hji hun hno
  unfold freeA at h
  rw [hi] at h
  dsimp only at h
  have hlt:j<ops.size:=(Array.getElem?_eq_some_iff.1 hj).1
  have:=List.all_eq_true.1 h j (List.mem_range.2 hlt)
  rw [hj] at this
  simp only [Bool.or_eq_true,beq_iff_eq,Bool.and_eq_true,List.contains_eq_mem,decide_eq_true_eq,Option.isNone_iff_eq_none] at this
  rcases this with ((h1 | h1) | h1) | h1
  · exact absurd h1 hji
  · rw [hun] at h1; cases h1
  · exfalso
    obtain ⟨l,hl,he⟩:=Array.any_eq_true.1 h1
    simp only [Bool.and_eq_true,beq_iff_eq] at he
    exact hno _ (Array.getElem_mem hl) he.1 he.2
  · exact h1

def drawOkA (ops:Array Oper) (fl:List Nat) : List Nat→Array Bool→Bool
  | [],listed=>(Region.ready .any ops listed).isEmpty
  | i::r,listed =>
    (match ops[i]? with
     | none=>false
     | some o=>if simpleQ o.op&&o.guard.isNone && !fl.contains i then (Region.ready .any ops listed).contains i&&freeA ops fl listed i else Region.ready .any ops listed==[i])&&drawOkA ops fl r (listed.setIfInBounds i true)

def bndB (ops:Array Oper) (fl:List Nat) (i:Nat) : Bool:=fl.all fun j=>match ops[j]? with
  | some oj=>oj.after.any fun e=>Region.binds .any e&&e.on==i
  | none=>true
theorem bndB_spec {ops:Array Oper} {fl:List Nat} {i:Nat} (h:bndB ops fl i=true) : ∀ j,j∈fl→∀ oj,ops[j]? = some oj→∃ e,e∈oj.after∧Region.binds .any e=true∧e.on=i:=by
  intro j hj oj hoj
  have:=List.all_eq_true.1 h j hj
  rw [hoj] at this
  obtain ⟨l,hl,he⟩:=Array.any_eq_true.1 this
  simp only [Bool.and_eq_true,beq_iff_eq] at he
  exact ⟨_,Array.getElem_mem hl,he.1,he.2⟩

def OpsA (P:Program) (kp:List Nat) (ops:Array Oper) (fl ro bd:List Nat) : List (Oper × Nat)→St→(St→Prop)→Prop
  | [],s,K=>K s
  | (o,i)::r,s,K =>
    if (simpleQ o.op&&o.guard.isNone && !fl.contains i)=true then
      match opR P s o.op with
      | some (ob,x)=>ob∧(roOk P ro s o.op∨i∈bd)∧OpsA P kp ops fl ro bd r (s.put o.dst x) K
      | none=>False
    else if i∈fl then HeapVC P o s fun t=>RoS ro s.heap t.heap∧srt t.tm=true∧OpsA P kp ops fl ro bd r t K
    else OpVC P kp ops o s fun t=>srt t.tm=true∧OpsA P kp ops fl ro bd r t K

theorem opsA_any {P:Program} {kp:List Nat} {ops:Array Oper} {fl ro bd:List Nat} {K:St→Prop} (hbd:bd.all (bndB ops fl)=true) : ∀ (l:List (Oper × Nat)) (listed:Array Bool) (s:St),srt s.tm=true→(∀ p,p∈l→ops[p.2]? = some p.1) →
    OpsA P kp ops fl ro bd l s K→drawOkA ops fl (l.map (·.2)) listed=true→∀ fuel,l.length≤fuel→anyA P kp ops fl ro fuel listed s K
  | [],listed,s,hs,_,h,hok,fuel,_=>by
    have hr:Region.ready .any ops listed=[]:=by simpa [drawOkA] using hok
    cases fuel with
    | zero=>exact ⟨hr,h⟩
    | succ fuel=>exact ⟨fun _=>h,by rw [hr]; simp⟩
  | (o,i)::l,listed,s,hs,hl,h,hok,0,hf=>by simp at hf
  | (o,i)::l,listed,s,hs,hl,h,hok,fuel+1,hf=>by
    have ho:ops[i]? = some o:=hl (o,i) (by simp)
    simp only [List.map_cons,drawOkA,Bool.and_eq_true,ho] at hok
    obtain ⟨hok,hrest⟩:=hok
    have ih:=fun s hs h=>opsA_any (P:=P) (kp:=kp) (ro:=ro) (K:=K) hbd l (listed.setIfInBounds i true) s hs (fun p hp=>hl p (by simp [hp])) h hrest fuel (by simpa using hf)
    unfold OpsA at h
    split at h
    · rename_i hc
      rw [if_pos (by simpa using hc)] at hok
      simp only [Bool.and_eq_true,Bool.not_eq_true',Option.isNone_iff_eq_none] at hc
      have hfi:i ∉ fl:=fun hm=>by have:=hc.2; simp [hm] at this
      split at h
      · rename_i ob x hq
        obtain ⟨hob,hro,h⟩:=h
        simp only [Bool.and_eq_true] at hok
        exact anyA_first ho hc.1.1 hc.1.2 hfi hob fuel listed s hs (freeA_spec ho hok.2) (by simpa using hok.1) hq (hro.imp id fun hm=>bndB_spec (List.all_eq_true.1 hbd i hm)) (ih _ (srt_put hs) h)
      · exact h.elim
    · rename_i hc
      rw [if_neg (by simpa using hc)] at hok
      have hr:Region.ready .any ops listed=[i]:=by simpa using hok
      refine ⟨(fun h0=>by rw [hr] at h0; cases h0),fun j hj => ?_⟩
      rw [hr] at hj
      simp at hj
      subst hj
      unfold StepA
      simp only [ho]
      split at h
      · rename_i hf
        rw [if_pos hf]
        exact h.imp fun t ht=>⟨ht.1,ih t ht.2.1 ht.2.2⟩
      · rename_i hf
        rw [if_neg hf]
        exact h.imp fun t ht=>ih t ht.1 ht.2

theorem awp_drawH {P:Program} {kp:List Nat} {n:Nat} {s:St} {Q:Exit→St→Prop} {id:Nat} {ops:Array Oper} (fl ro bd:List Nat) (hbd:bd.all (bndB ops fl)=true) (l:List (Oper × Nat)) (hm:P.follows .mixedOrders=true) (hs:srt s.tm=true)
    (hl:∀ p,p∈l→ops[p.2]? = some p.1) (hc:drawOkA ops fl (l.map (·.2)) (Array.replicate ops.size false)=true) (hn:l.length≤ops.size)
    (h:∀ K:St→Prop,(∀ t,Q .normal t→K t)→OpsA P kp ops fl ro bd l s K) : AWP P kp n (.region id ops true) s Q:=by
  intro hok B a w E F h1 h2 h3
  subst h1
  refine wp_region_any hm (any_soundA (P:=P) (n:=n) hok fl ro (K:=fun t=>Q .normal t) ?_ _ _ s a _ E F h2 h3.drew (opsA_any hbd l _ s hs hl (h _ fun t ht=>ht) hc _ hn))
  intro a' w' s' E' F' hK hs hn
  exact ⟨by simp,by simp,s',E',F',hK,hs,hn⟩

end Go.Aw
