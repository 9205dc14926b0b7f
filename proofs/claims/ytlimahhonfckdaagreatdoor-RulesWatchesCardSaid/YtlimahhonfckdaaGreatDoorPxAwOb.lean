/-
  Drawn regions in two parts: between them,what a guard that holds has yielded is told without the guard. Over any program; no condition.
-/
import Derived.Test.YtlimahhonfckdaaGreatDoorPkT
import Derived.Test.YtlimahhonfckdaaGreatDoorPkY
namespace Go.Aw
set_option linter.unusedSimpArgs false
set_option linter.unusedVariables false
open Go.RowKit

def strpV:V→V
  | .opt true x=>x
  | x=>x
def strpT:List (Nat × V)→List (Nat × V)
  | []=>[]
  | (i,x)::r=>(i,strpV x)::strpT r
def strp (s:St) : St:=⟨strpT s.tm,s.heap⟩
theorem strpT_get:∀ (l:List (Nat × V)) (i:Nat),tget (strpT l) i=(tget l i).map strpV
  | [],i=>rfl
  | (k,x)::r,i=>by
    simp only [strpT,tget]
    split
    · rfl
    · exact strpT_get r i
theorem strpV_sound {E:Env} {F:Nat→Prop} {w:World} {x:V} {v:Value} (h:VR E F w x v) : VR E F w (strpV x) v:=by
  unfold strpV
  split
  · rename_i y
    exact V.strip_sound h rfl
  · exact h
theorem strp_sim {B:Base} {s:St} {a:Act} {w:World} {E:Env} {F:Nat→Prop} (h:Sim B s a w E F) : Sim B (strp s) a w E F:=by
  have hr:=h.rel
  refine ⟨⟨hr.os,hr.tape,hr.output,hr.size,hr.F0,hr.only,hr.same,hr.lt,hr.hr,hr.src,hr.keep,hr.sz⟩,h.defers,fun i x hx => ?_⟩
  have hx:tget (strpT s.tm) i=some x:=hx
  rw [strpT_get,Option.map_eq_some_iff] at hx
  obtain ⟨y,hy,rfl⟩:=hx
  obtain ⟨v,h1,h2⟩:=h.tm i y hy
  exact ⟨v,h1,strpV_sound h2⟩

variable {P:Program} {ops:Array Oper}
theorem strp_mk {tm:List (Nat × V)} {H:List Blk} : strp ⟨tm,H⟩=⟨strpT tm,H⟩:=rfl
theorem strpT_cons {i:Nat} {x:V} {r:List (Nat × V)} : strpT ((i,x)::r)=(i,strpV x)::strpT r:=rfl
theorem strpT_nil:strpT []=[]:=rfl
theorem strpV_opt {x:V} : strpV (.opt true x)=x:=rfl
theorem strpV_off {x:V} : strpV (.opt false x)=.opt false x:=rfl
theorem strpV_d {x:D} : strpV (.d x)=.d x:=rfl
theorem strpV_agg {x:List V} : strpV (.agg x)=.agg x:=rfl
theorem strpV_tup {x:List V} : strpV (.tup x)=.tup x:=rfl
theorem strpV_ptr {a b c:Nat} : strpV (.ptr a b c)=.ptr a b c:=rfl
theorem strpV_ref {a b c:Nat} : strpV (.ref a b c)=.ref a b c:=rfl
theorem strpV_nil:strpV .nil=.nil:=rfl
theorem strpV_junk:strpV .junk=.junk:=rfl
theorem strpV_fn {f:Fn} {x:List V} : strpV (.fn f x)=.fn f x:=rfl
attribute [push_cast] strp_mk strpT_cons strpT_nil strpV_opt strpV_off strpV_d strpV_agg strpV_tup strpV_ptr strpV_ref strpV_nil strpV_junk strpV_fn
theorem OpX2.strp {kp:List Nat} {o:Oper} {s:St} {K:St→Prop} (h:OpX2 P kp ops o (Go.Aw.strp s) K) : OpX2 P kp ops o s K:=by
  intro B a w E F Q h1 h2 h3
  exact h B a w E F Q h1 (strp_sim h2) h3

def DT.vcS (P:Program) (kp:List Nat) (ops:Array Oper) : DT→St→(St→Prop)→Prop
  | .nil,s,K=>K s
  | .op i r,s,K=>match ops[i]? with
    | some o=>OpVC P kp ops o s fun t=>r.vcS P kp ops (Go.Aw.strp t) K
    | none=>False
  | .or a b,s,K=>a.vcS P kp ops s K∧b.vcS P kp ops s K
theorem DT.headS_of {listed:Array Bool} {kp:List Nat} {s:St} {K:St→Prop} {i:Nat} : ∀ {t:DT},t.vcS P kp ops s K→t.ok ops false listed=true→i∈t.heads →
    ∃ r,(DT.op i r).vcS P kp ops s K∧r.ok ops true (listed.setIfInBounds i true)=true∧r.depth+1≤t.depth∧∃ o,ops[i]? = some o
  | .nil,_,h,_=>by simp [DT.ok] at h
  | .op j r,h1,h2,h3=>by
    simp only [DT.heads,List.mem_singleton] at h3
    subst h3
    simp only [DT.ok,Bool.and_eq_true] at h2
    refine ⟨r,h1,h2.2,Nat.le_refl _,?_⟩
    have:=h2.1
    split at this
    · cases this
    · exact ⟨_,by assumption⟩
  | .or a b,h1,h2,h3=>by
    simp only [DT.ok,Bool.false_eq_true,if_false,Bool.true_and,Bool.and_eq_true] at h2
    simp only [DT.heads,List.mem_append] at h3
    rcases h3 with h3 | h3
    · obtain ⟨r,q1,q2,q3,q4⟩:=DT.headS_of h1.1 h2.1 h3
      exact ⟨r,q1,q2,by simp only [DT.depth]; omega,q4⟩
    · obtain ⟨r,q1,q2,q3,q4⟩:=DT.headS_of h1.2 h2.2 h3
      exact ⟨r,q1,q2,by simp only [DT.depth]; omega,q4⟩
theorem draw_soundS {Q:Exit→Act→World→Prop} {B:Base} {n:Nat} (hd:dstsOk n ops=true) (hsel:Region.noSelect ops=true) (hQ:∀ c a w,¬ Q (.panic c) a w) : ∀ (m:Nat) (t:DT) (_:t.depth≤m) (listed:Array Bool) (s:St) (a:Act) (w:World) (E:Env) (F:Nat→Prop) (K:St→Prop),a.tmps.size=n→Sim B s a w E F →
    t.vcS P B.keep ops s K→t.ok ops true listed=true →
    (∀ a' w' s' E' F',K s'→Sim B s' a' w' E' F'→a'.tmps.size=n→Q .normal a' w')→∀ fuel,t.depth≤fuel→wpAnyT P ops Q fuel listed a w
  | m,.nil,_,listed,s,a,w,E,F,K,hn,hs,h,hok,hq,fuel,_=>by
    have hr:Region.ready .any ops listed=[]:=by simpa [DT.ok] using hok
    have:=hq a w s E F h hs hn
    cases fuel with
    | zero=>exact ⟨hr,this⟩
    | succ fuel=>exact ⟨fun _=>this,by rw [hr]; simp⟩
  | 0,.op i r,hm,_,_,_,_,_,_,_,_,_,_,_,_,_,_=>by simp [DT.depth] at hm
  | m+1,.op i r,hm,listed,s,a,w,E,F,K,hn,hs,h,hok,hq,0,hf=>by simp [DT.depth] at hf
  | m+1,.op i r,hm,listed,s,a,w,E,F,K,hn,hs,h,hok,hq,fuel+1,hf=>by
    simp only [DT.depth] at hm hf
    simp only [DT.ok,if_true,Bool.and_eq_true] at hok
    obtain ⟨hok,hrest⟩:=hok
    split at hok
    · cases hok
    rename_i o ho
    simp only [DT.vcS,ho] at h
    have ih:=fun s a w E F hn hs h=>draw_soundS hd hsel hQ m r (by omega) (listed.setIfInBounds i true) s a w E F K hn hs h hrest hq fuel (by omega)
    rcases op_sound (Q:=Q) hs (fun d hd'=>by rw [hn]; exact dstsOk_spec hd ho d hd') h with ⟨v,s',hK,hs',hw⟩ | ⟨hnq,hw⟩
    · have ih':=ih (Go.Aw.strp s') _ w E F (by rw [size_put]; exact hn) (strp_sim hs') hK
      have hy:YieldsK P ops w o v a:=hw
      split at hok
      · simp only [Bool.and_eq_true] at hok
        exact free_first ho (noSel hsel) (fun c a w hh=>absurd hh (hQ c _ w)) fuel listed a w hok.2 (by simpa using hok.1) hy ih'
      · have hr:Region.ready .any ops listed=[i]:=by simpa using hok
        refine ⟨(fun h0=>by rw [hr] at h0; cases h0),fun j hj => ?_⟩
        rw [hr] at hj
        simp at hj
        subst hj
        exact hy.wpOp ho ⟨.inr (Keep.refl w),ih'⟩
    · rw [hnq] at hok
      have hr:Region.ready .any ops listed=[i]:=by simpa using hok
      refine ⟨(fun h0=>by rw [hr] at h0; cases h0),fun j hj => ?_⟩
      rw [hr] at hj
      simp at hj
      subst hj
      unfold wpOp
      simp only [ho]
      rcases hw with ⟨hw,hwp⟩ | ⟨hw,s',F',hK,hs'⟩
      · rw [hw,if_pos rfl]
        refine .inl (Oper.wp_mono (fun a' w' ⟨hkt,v,s',E',F',ha,hK,hs'⟩ => ?_) hwp)
        subst ha
        exact ⟨by simpa [ho] using hkt,ih (Go.Aw.strp s') _ w' E' F' (by rw [size_put]; exact hn) (strp_sim hs') hK⟩
      · rw [hw]
        exact ⟨.inr (Keep.refl w),ih (Go.Aw.strp s') _ w E F' (by rw [size_put]; exact hn) (strp_sim hs') hK⟩
  | m,.or x y,hm,listed,s,a,w,E,F,K,hn,hs,h,hok,hq,fuel,hf=>by
    simp only [DT.ok,if_true,Bool.and_eq_true] at hok
    obtain ⟨⟨⟨hne,hall⟩,hx⟩,hy⟩:=hok
    have hne:Region.ready .any ops listed≠[]:=by simpa using hne
    have hor:(DT.or x y).ok ops false listed=true:=by simp [DT.ok,hx,hy]
    have each:∀ j∈Region.ready .any ops listed,∃ (r:DT) (o:Oper),ops[j]? = some o∧OpVC P B.keep ops o s (fun t=>r.vcS P B.keep ops (Go.Aw.strp t) K)∧r.ok ops true (listed.setIfInBounds j true)=true∧r.depth+1≤(DT.or x y).depth:=by
      intro j hj
      have hh:j∈(DT.or x y).heads:=by have:=List.all_eq_true.1 hall j hj; simpa [DT.heads] using this
      obtain ⟨r,q1,q2,q3,o,q4⟩:=DT.headS_of h hor hh
      simp only [DT.vcS,q4] at q1
      exact ⟨r,o,q4,q1,q2,q3⟩
    have hpos:∃ f,fuel=f+1:=by
      cases hl:Region.ready .any ops listed with
      | nil=>exact absurd hl hne
      | cons j l =>
        obtain ⟨r,o,_,_,_,q⟩:=each j (by rw [hl]; simp)
        exact ⟨fuel - 1,by omega⟩
    obtain ⟨fuel,rfl⟩:=hpos
    refine ⟨fun h0=>absurd h0 hne,fun j hj => ?_⟩
    obtain ⟨r,o,ho,hvc,hrest,hdep⟩:=each j hj
    have hlt:m - 1<m:=by omega
    have ih:=fun s a w E F hn hs h=>draw_soundS hd hsel hQ (m - 1) r (by omega) (listed.setIfInBounds j true) s a w E F K hn hs h hrest hq fuel (by omega)
    rcases op_sound (Q:=Q) hs (fun d hd'=>by rw [hn]; exact dstsOk_spec hd ho d hd') hvc with ⟨v,s',hK,hs',hw⟩ | ⟨hnq,hw⟩
    · have ih':=ih (Go.Aw.strp s') _ w E F (by rw [size_put]; exact hn) (strp_sim hs') hK
      have hy:YieldsK P ops w o v a:=hw
      exact hy.wpOp ho ⟨.inr (Keep.refl w),ih'⟩
    · unfold wpOp
      simp only [ho]
      rcases hw with ⟨hw,hwp⟩ | ⟨hw,s',F',hK,hs'⟩
      · rw [hw,if_pos rfl]
        refine .inl (Oper.wp_mono (fun a' w' ⟨hkt,v,s',E',F',ha,hK,hs'⟩ => ?_) hwp)
        subst ha
        exact ⟨by simpa [ho] using hkt,ih (Go.Aw.strp s') _ w' E' F' (by rw [size_put]; exact hn) (strp_sim hs') hK⟩
      · rw [hw]
        exact ⟨.inr (Keep.refl w),ih (Go.Aw.strp s') _ w E F' (by rw [size_put]; exact hn) (strp_sim hs') hK⟩
  termination_by m=>m
theorem awpF_drawTS {kp:List Nat} {n:Nat} {s:St} {Q:Exit→St→Prop} {id:Nat} (pre:List Nat) (d:DT) (hm:P.follows .mixedOrders=true)
    (hc:(Region.noSelect ops&&preOkM ops pre (Array.replicate ops.size false)&&d.ok ops true (setAll pre (Array.replicate ops.size false)))=true) (hl:Nat.ble (pre.length+d.depth) ops.size=true)
    (h:∀ K:St→Prop,(∀ t,Q .normal t→K t)→contRun P kp ops (.vc (pre.filterMap (ops[·]?))) s fun t=>d.vcS P kp ops (Go.Aw.strp t) K) : AWP P kp n (.region id ops true) s Q:=by
  intro hok B a w E F h1 h2 h3
  subst h1
  simp only [Bool.and_eq_true] at hc
  obtain ⟨⟨c1,c2⟩,c5⟩:=hc
  have hQ:∀ c a w,¬ (fun e a' w'=>(∀ ch,e≠.panic ch)∧e≠.outgrown∧∃ s' E' F',Q e s'∧Sim B s' a' w' E' F'∧a'.tmps.size=n) (.panic c) a w:=fun c a w hh=>hh.1 c rfl
  refine wp_region_any hm (wpAny_of_T _ _ _ _ (preM_sound (ops:=ops) (n:=n) (m:=d.depth) hok c1 hQ pre _ s a _ E F _ h2 h3.drew (h _ fun t ht=>ht) c2 ?_ _ (Nat.le_of_ble_eq_true hl)))
  intro a1 w1 s1 E1 F1 hK1 hs1 hn1 fuel hf
  exact draw_soundS (ops:=ops) (n:=n) hok c1 hQ d.depth d (Nat.le_refl _) _ _ a1 w1 E1 F1 (fun t=>Q .normal t) hn1 (strp_sim hs1) hK1 c5 (fun a' w' s' E' F' hK hs hn=>⟨by simp,by simp,s',E',F',hK,hs,hn⟩) fuel hf
def stepS (P:Program) (kp:List Nat) (ops:Array Oper) (o:Option Oper) (s:St) (K:St→Prop) : Prop :=
  match o with
  | some o=>X0 P kp ops (s.guardOf ops o) o s (.vc []) K
  | none=>False
theorem stepS_some {kp:List Nat} {o:Oper} {s:St} {K:St→Prop} : stepS P kp ops (some o) s K=X0 P kp ops (s.guardOf ops o) o s (.vc []) K:=rfl
theorem vcS_nil {kp:List Nat} {s:St} {K:St→Prop} : DT.vcS P kp ops .nil s K=K s:=rfl
theorem vcS_or {kp:List Nat} {a b:DT} {s:St} {K:St→Prop} : DT.vcS P kp ops (.or a b) s K=(a.vcS P kp ops s K∧b.vcS P kp ops s K):=rfl
theorem vcS_op {kp:List Nat} {i:Nat} {r:DT} {tm:List (Nat × V)} {H:List Blk} {K:St→Prop} : DT.vcS P kp ops (.op i r) ⟨tm,H⟩ K=stepS P kp ops ops[i]? ⟨tm,H⟩ fun u=>r.vcS P kp ops (Go.Aw.strp u) K:=by
  show (match ops[i]? with
    | some o=>OpVC P kp ops o ⟨tm,H⟩ fun t=>r.vcS P kp ops (Go.Aw.strp t) K
    | none=>False)=_
  unfold stepS
  cases ops[i]? with
  | none=>rfl
  | some o=>dsimp only; rw [X0_eq]; rfl
attribute [push_cast] stepS_some vcS_nil vcS_or vcS_op
end Go.Aw
