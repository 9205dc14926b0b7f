/-
  Drawn regions by trees of orders in which what reads no memory comes first,extracts among it. Over any program; no condition.
-/
import Derived.Test.YtlimahhonfckdaaGreatDoorPxAwOb
namespace Go.Aw
set_option linter.unusedSimpArgs false
set_option linter.unusedVariables false
open Go.RowKit

def kindE:Op→Bool
  | .extract .. => true
  | o=>kindM o
theorem still_opE (ev:Operand→Value) (o:Oper) (h:kindE o.op=true) : Still (execOp ev o):=by
  unfold kindE at h
  split at h
  · rename_i hx
    simp only [execOp,hx]
    unfold Instr.extract
    repeat' (first | exact still_pure _ | exact (never_stuck _).still | (refine still_bind ?_ fun _ => ?_) | split | dsimp only)
  · exact still_op ev o h
variable {P:Program} {ops:Array Oper} {Q:Exit→Act→World→Prop}
theorem YieldsK.toE {w:World} {o:Oper} {v:Value} {a:Act} (h:YieldsK P ops w o v a) (hk:kindE o.op=true) : YieldsM P ops o v a :=
  h.imp (fun ⟨h1,h2⟩=>⟨h1,(still_opE a.eval o hk P w _ _ (h2 w (Keep.refl w))).2⟩) id
def freeME (ops:Array Oper) (listed:Array Bool) (i:Nat) (S:List Nat) : Bool :=
  match ops[i]? with
  | none=>false
  | some oi=>kindE oi.op&&(List.range ops.size).all fun j=>match ops[j]? with
    | none=>true
    | some oj=>j==i||listed.getD j true||S.contains j||oi.apart ops oj
def freeE (ops:Array Oper) (listed:Array Bool) (i:Nat) : Bool:=freeT ops listed i||freeME ops listed i (blkd ops listed i (List.range ops.size) [])
theorem free_firstE {i:Nat} {oi:Oper} {v:Value} (hi:ops[i]? = some oi) (hsel:∀ (j:Nat) (o:Oper) cs b,ops[j]? = some o→o.op≠.select cs b)
    (hQ:∀ c a w,Q (.panic c) (a.put oi.dst v) w→Q (.panic c) a w) (fuel:Nat) (listed:Array Bool) (a:Act) (w:World) (h:freeE ops listed i=true) (hr:i∈Region.ready .any ops listed) (hy:YieldsK P ops w oi v a)
    (H:wpAnyT P ops Q fuel (listed.setIfInBounds i true) (a.put oi.dst v) w) : wpAnyT P ops Q (fuel+1) listed a w:=by
  unfold freeE at h
  rw [Bool.or_eq_true] at h
  rcases h with h | h
  · exact free_first hi hsel hQ fuel listed a w h hr hy H
  · generalize hS:blkd ops listed i (List.range ops.size) []=S at h
    have hb:=blkd_spec (ops:=ops) (listed:=listed) (i:=i) (List.range ops.size) [] (fun k hk=>by cases hk)
    rw [hS] at hb
    unfold freeME at h
    rw [hi] at h
    simp only [Bool.and_eq_true] at h
    refine wpAnyT_firstM S hi hsel hQ fuel listed a w (fun j oj hj hji hun hno => ?_) hb hr (hy.toE h.1) H
    have hlt:j<ops.size:=(Array.getElem?_eq_some_iff.1 hj).1
    have:=List.all_eq_true.1 h.2 j (List.mem_range.2 hlt)
    rw [hj] at this
    simp only [Bool.or_eq_true,beq_iff_eq,List.contains_iff_mem] at this
    rcases this with ((h1 | h1) | h1) | h1
    · exact absurd h1 hji
    · rw [hun] at h1; cases h1
    · exact absurd h1 hno
    · exact h1
def DT.okE (ops:Array Oper) : DT→Bool→Array Bool→Bool
  | .nil,top,listed=>top&&(Region.ready .any ops listed).isEmpty
  | .op i r,top,listed =>
    (match ops[i]? with
     | none=>false
     | some o=>if top then (if kindQ o.op then (Region.ready .any ops listed).contains i&&freeE ops listed i else Region.ready .any ops listed==[i]) else true)&&r.okE ops true (listed.setIfInBounds i true)
  | .or a b,top,listed=>(if top then (!(Region.ready .any ops listed).isEmpty&&(Region.ready .any ops listed).all fun i=>(a.heads++b.heads).contains i) else true)&&a.okE ops false listed&&b.okE ops false listed
theorem DT.headE_of {listed:Array Bool} {kp:List Nat} {s:St} {K:St→Prop} {i:Nat} : ∀ {t:DT},t.vcS P kp ops s K→t.okE ops false listed=true→i∈t.heads →
    ∃ r,(DT.op i r).vcS P kp ops s K∧r.okE ops true (listed.setIfInBounds i true)=true∧r.depth+1≤t.depth∧∃ o,ops[i]? = some o
  | .nil,_,h,_=>by simp [DT.okE] at h
  | .op j r,h1,h2,h3=>by
    simp only [DT.heads,List.mem_singleton] at h3
    subst h3
    simp only [DT.okE,Bool.and_eq_true] at h2
    refine ⟨r,h1,h2.2,Nat.le_refl _,?_⟩
    have:=h2.1
    split at this
    · cases this
    · exact ⟨_,by assumption⟩
  | .or a b,h1,h2,h3=>by
    simp only [DT.okE,Bool.false_eq_true,if_false,Bool.true_and,Bool.and_eq_true] at h2
    simp only [DT.heads,List.mem_append] at h3
    rcases h3 with h3 | h3
    · obtain ⟨r,q1,q2,q3,q4⟩:=DT.headE_of h1.1 h2.1 h3
      exact ⟨r,q1,q2,by simp only [DT.depth]; omega,q4⟩
    · obtain ⟨r,q1,q2,q3,q4⟩:=DT.headE_of h1.2 h2.2 h3
      exact ⟨r,q1,q2,by simp only [DT.depth]; omega,q4⟩
theorem draw_soundE {Q:Exit→Act→World→Prop} {B:Base} {n:Nat} (hd:dstsOk n ops=true) (hsel:Region.noSelect ops=true) (hQ:∀ c a w,¬ Q (.panic c) a w) : ∀ (m:Nat) (t:DT) (_:t.depth≤m) (listed:Array Bool) (s:St) (a:Act) (w:World) (E:Env) (F:Nat→Prop) (K:St→Prop),a.tmps.size=n→Sim B s a w E F →
    t.vcS P B.keep ops s K→t.okE ops true listed=true →
    (∀ a' w' s' E' F',K s'→Sim B s' a' w' E' F'→a'.tmps.size=n→Q .normal a' w')→∀ fuel,t.depth≤fuel→wpAnyT P ops Q fuel listed a w
  | m,.nil,_,listed,s,a,w,E,F,K,hn,hs,h,hok,hq,fuel,_=>by
    have hr:Region.ready .any ops listed=[]:=by simpa [DT.okE] using hok
    have:=hq a w s E F h hs hn
    cases fuel with
    | zero=>exact ⟨hr,this⟩
    | succ fuel=>exact ⟨fun _=>this,by rw [hr]; simp⟩
  | 0,.op i r,hm,_,_,_,_,_,_,_,_,_,_,_,_,_,_=>by simp [DT.depth] at hm
  | m+1,.op i r,hm,listed,s,a,w,E,F,K,hn,hs,h,hok,hq,0,hf=>by simp [DT.depth] at hf
  | m+1,.op i r,hm,listed,s,a,w,E,F,K,hn,hs,h,hok,hq,fuel+1,hf=>by
    simp only [DT.depth] at hm hf
    simp only [DT.okE,if_true,Bool.and_eq_true] at hok
    obtain ⟨hok,hrest⟩:=hok
    split at hok
    · cases hok
    rename_i o ho
    simp only [DT.vcS,ho] at h
    have ih:=fun s a w E F hn hs h=>draw_soundE hd hsel hQ m r (by omega) (listed.setIfInBounds i true) s a w E F K hn hs h hrest hq fuel (by omega)
    rcases op_sound (Q:=Q) hs (fun d hd'=>by rw [hn]; exact dstsOk_spec hd ho d hd') h with ⟨v,s',hK,hs',hw⟩ | ⟨hnq,hw⟩
    · have ih':=ih (Go.Aw.strp s') _ w E F (by rw [size_put]; exact hn) (strp_sim hs') hK
      have hy:YieldsK P ops w o v a:=hw
      split at hok
      · simp only [Bool.and_eq_true] at hok
        exact free_firstE ho (noSel hsel) (fun c a w hh=>absurd hh (hQ c _ w)) fuel listed a w hok.2 (by simpa using hok.1) hy ih'
      · have hr:Region.ready .any ops listed=[i]:=by simpa using hok
        refine ⟨(fun h0=>by rw [hr] at h0; cases h0),fun j hj => ?_⟩
        rw [hr] at hj
        simp at hj
        subst hj
        exact hy.wpOp ho ⟨.inr (Keep.refl w),ih'⟩
    · rw [hnq] at hok
      have hr:Region.ready .any ops listed=[i]:=by simpa using hok
      refine ⟨(fun h0=>by rw [hr] at h0; cases h0),fun j hj => ?_⟩
      rw [hr] at hj
      simp at hj
      subst hj
      unfold wpOp
      simp only [ho]
      rcases hw with ⟨hw,hwp⟩ | ⟨hw,s',F',hK,hs'⟩
      · rw [hw,if_pos rfl]
        refine .inl (Oper.wp_mono (fun a' w' ⟨hkt,v,s',E',F',ha,hK,hs'⟩ => ?_) hwp)
        subst ha
        exact ⟨by simpa [ho] using hkt,ih (Go.Aw.strp s') _ w' E' F' (by rw [size_put]; exact hn) (strp_sim hs') hK⟩
      · rw [hw]
        exact ⟨.inr (Keep.refl w),ih (Go.Aw.strp s') _ w E F' (by rw [size_put]; exact hn) (strp_sim hs') hK⟩
  | m,.or x y,hm,listed,s,a,w,E,F,K,hn,hs,h,hok,hq,fuel,hf=>by
    simp only [DT.okE,if_true,Bool.and_eq_true] at hok
    obtain ⟨⟨⟨hne,hall⟩,hx⟩,hy⟩:=hok
    have hne:Region.ready .any ops listed≠[]:=by simpa using hne
    have hor:(DT.or x y).okE ops false listed=true:=by simp [DT.okE,hx,hy]
    have each:∀ j∈Region.ready .any ops listed,∃ (r:DT) (o:Oper),ops[j]? = some o∧OpVC P B.keep ops o s (fun t=>r.vcS P B.keep ops (Go.Aw.strp t) K)∧r.okE ops true (listed.setIfInBounds j true)=true∧r.depth+1≤(DT.or x y).depth:=by
      intro j hj
      have hh:j∈(DT.or x y).heads:=by have:=List.all_eq_true.1 hall j hj; simpa [DT.heads] using this
      obtain ⟨r,q1,q2,q3,o,q4⟩:=DT.headE_of h hor hh
      simp only [DT.vcS,q4] at q1
      exact ⟨r,o,q4,q1,q2,q3⟩
    have hpos:∃ f,fuel=f+1:=by
      cases hl:Region.ready .any ops listed with
      | nil=>exact absurd hl hne
      | cons j l =>
        obtain ⟨r,o,_,_,_,q⟩:=each j (by rw [hl]; simp)
        exact ⟨fuel - 1,by omega⟩
    obtain ⟨fuel,rfl⟩:=hpos
    refine ⟨fun h0=>absurd h0 hne,fun j hj => ?_⟩
    obtain ⟨r,o,ho,hvc,hrest,hdep⟩:=each j hj
    have hlt:m - 1<m:=by omega
    have ih:=fun s a w E F hn hs h=>draw_soundE hd hsel hQ (m - 1) r (by omega) (listed.setIfInBounds j true) s a w E F K hn hs h hrest hq fuel (by omega)
    rcases op_sound (Q:=Q) hs (fun d hd'=>by rw [hn]; exact dstsOk_spec hd ho d hd') hvc with ⟨v,s',hK,hs',hw⟩ | ⟨hnq,hw⟩
    · have ih':=ih (Go.Aw.strp s') _ w E F (by rw [size_put]; exact hn) (strp_sim hs') hK
      have hy:YieldsK P ops w o v a:=hw
      exact hy.wpOp ho ⟨.inr (Keep.refl w),ih'⟩
    · unfold wpOp
      simp only [ho]
      rcases hw with ⟨hw,hwp⟩ | ⟨hw,s',F',hK,hs'⟩
      · rw [hw,if_pos rfl]
        refine .inl (Oper.wp_mono (fun a' w' ⟨hkt,v,s',E',F',ha,hK,hs'⟩ => ?_) hwp)
        subst ha
        exact ⟨by simpa [ho] using hkt,ih (Go.Aw.strp s') _ w' E' F' (by rw [size_put]; exact hn) (strp_sim hs') hK⟩
      · rw [hw]
        exact ⟨.inr (Keep.refl w),ih (Go.Aw.strp s') _ w E F' (by rw [size_put]; exact hn) (strp_sim hs') hK⟩
  termination_by m=>m
theorem awpF_drawTE {kp:List Nat} {n:Nat} {s:St} {Q:Exit→St→Prop} {id:Nat} (pre:List Nat) (d:DT) (hm:P.follows .mixedOrders=true)
    (hc:(Region.noSelect ops&&preOkM ops pre (Array.replicate ops.size false)&&d.okE ops true (setAll pre (Array.replicate ops.size false)))=true) (hl:Nat.ble (pre.length+d.depth) ops.size=true)
    (h:∀ K:St→Prop,(∀ t,Q .normal t→K t)→contRun P kp ops (.vc (pre.filterMap (ops[·]?))) s fun t=>d.vcS P kp ops (Go.Aw.strp t) K) : AWP P kp n (.region id ops true) s Q:=by
  intro hok B a w E F h1 h2 h3
  subst h1
  simp only [Bool.and_eq_true] at hc
  obtain ⟨⟨c1,c2⟩,c5⟩:=hc
  have hQ:∀ c a w,¬ (fun e a' w'=>(∀ ch,e≠.panic ch)∧e≠.outgrown∧∃ s' E' F',Q e s'∧Sim B s' a' w' E' F'∧a'.tmps.size=n) (.panic c) a w:=fun c a w hh=>hh.1 c rfl
  refine wp_region_any hm (wpAny_of_T _ _ _ _ (preM_sound (ops:=ops) (n:=n) (m:=d.depth) hok c1 hQ pre _ s a _ E F _ h2 h3.drew (h _ fun t ht=>ht) c2 ?_ _ (Nat.le_of_ble_eq_true hl)))
  intro a1 w1 s1 E1 F1 hK1 hs1 hn1 fuel hf
  exact draw_soundE (ops:=ops) (n:=n) hok c1 hQ d.depth d (Nat.le_refl _) _ _ a1 w1 E1 F1 (fun t=>Q .normal t) hn1 (strp_sim hs1) hK1 c5 (fun a' w' s' E' F' hK hs hn=>⟨by simp,by simp,s',E',F',hK,hs,hn⟩) fuel hf
end Go.Aw
