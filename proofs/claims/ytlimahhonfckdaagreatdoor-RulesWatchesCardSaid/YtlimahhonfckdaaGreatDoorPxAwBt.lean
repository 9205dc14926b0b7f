/-
  Drawn regions in three parts: what only computes; then,by a tree of orders,what touches new blocks alone; then the rest,one after the other. Over any program; no condition.
-/
import Derived.Test.YtlimahhonfckdaaGreatDoorPkT
import Derived.Test.YtlimahhonfckdaaGreatDoorPkY
namespace Go.Aw
set_option linter.unusedSimpArgs false
set_option linter.unusedVariables false
open Go.RowKit

variable {P:Program}
section
variable {ops:Array Oper} {Q:Exit→Act→World→Prop} {T:Nat→Bool} {wb:World}
theorem drawB_fin {B:Base} {n:Nat} (hd:dstsOk n ops=true) : ∀ (l:List Nat) (listed:Array Bool) (s:St) (a:Act) (w:World) (E:Env) (F:Nat→Prop) (K:St→Prop),a.tmps.size=n→Sim B s a w E F →
    OpsVC P B.keep ops (l.filterMap (ops[·]?)) s K→tailB ops l listed=true→l.all T=true →
    (∀ a' w' s' E' F',K s'→Sim B s' a' w' E' F'→a'.tmps.size=n→Q .normal a' w')→wpAnyB P T wb ops Q l.length listed a w
  | [],listed,s,a,w,E,F,K,hn,hs,h,hok,_,hq=>⟨by simpa [tailB] using hok,hq a w s E F h hs hn⟩
  | i::l,listed,s,a,w,E,F,K,hn,hs,h,hok,hT,hq=>by
    simp only [tailB,Bool.and_eq_true,beq_iff_eq] at hok
    simp only [List.all_cons,Bool.and_eq_true] at hT
    obtain ⟨⟨hsome,hr⟩,hrest⟩:=hok
    obtain ⟨o,hoi⟩:=Option.isSome_iff_exists.1 hsome
    simp only [List.filterMap_cons,hoi,OpsVC] at h
    have ih:=fun s a w E F hn hs h=>drawB_fin hd l (listed.setIfInBounds i true) s a w E F K hn hs h hrest hT.2 hq
    refine ⟨(fun h0=>by rw [hr] at h0; cases h0),fun j hj => ?_⟩
    rw [hr] at hj
    simp at hj
    subst hj
    rcases op_sound (Q:=Q) hs (fun d hd'=>by rw [hn]; exact dstsOk_spec hd hoi d hd') h with ⟨v,s',hK,hs',hw⟩ | ⟨_,hw⟩
    · have hy:YieldsK P ops w o v a:=hw
      exact hy.wpOp hoi ⟨.inl hT.1,ih s' _ w E F (by rw [size_put]; exact hn) hs' hK⟩
    · unfold wpOp
      simp only [hoi]
      rcases hw with ⟨hw,hwp⟩ | ⟨hw,s',F',hK,hs'⟩
      · rw [hw,if_pos rfl]
        refine .inl (Oper.wp_mono (fun a' w' ⟨_,v,s',E',F',ha,hK,hs'⟩ => ?_) hwp)
        subst ha
        exact ⟨.inl hT.1,ih s' _ w' E' F' (by rw [size_put]; exact hn) hs' hK⟩
      · rw [hw]
        exact ⟨.inl hT.1,ih s' _ w E F' (by rw [size_put]; exact hn) hs' hK⟩
def DT.okB (ops:Array Oper) (target:Array Bool) : DT→Nat→Bool→Array Bool→Bool
  | .nil,k,top,listed=>top&&k==0&&listed==target
  | .op i r,k,top,listed=>(ops[i]?).isSome&&(match k with
    | 0=>false
    | k+1=>(if top then Region.ready .any ops listed==[i] else true)&&r.okB ops target k true (listed.setIfInBounds i true))
  | .or a b,k,top,listed=>(if top then (!(Region.ready .any ops listed).isEmpty&&(Region.ready .any ops listed).all fun i=>(a.heads++b.heads).contains i) else true)&&a.okB ops target k false listed&&b.okB ops target k false listed
theorem DT.head_ofB {kp:List Nat} {target listed:Array Bool} {s:St} {K:St→Prop} {i k:Nat} : ∀ {t:DT},t.vc P kp ops s K→t.okB ops target k false listed=true→i∈t.heads →
    ∃ (r:DT) (o:Oper) (k':Nat),ops[i]? = some o∧OpVC P kp ops o s (fun t=>r.vc P kp ops t K)∧k=k'+1∧r.okB ops target k' true (listed.setIfInBounds i true)=true
  | .nil,_,h,_=>by simp [DT.okB] at h
  | .op j r,h1,h2,h3=>by
    simp only [DT.heads,List.mem_singleton] at h3
    subst h3
    simp only [DT.okB,Bool.and_eq_true] at h2
    obtain ⟨g1,g2⟩:=h2
    obtain ⟨o,ho⟩:=Option.isSome_iff_exists.1 g1
    simp only [DT.vc,ho] at h1
    cases k with
    | zero=>cases g2
    | succ k=>exact ⟨r,o,k,ho,h1,rfl,by simpa using g2⟩
  | .or a b,h1,h2,h3=>by
    simp only [DT.okB,Bool.false_eq_true,if_false,Bool.true_and,Bool.and_eq_true] at h2
    simp only [DT.heads,List.mem_append] at h3
    rcases h3 with h3 | h3
    · exact DT.head_ofB h1.1 h2.1 h3
    · exact DT.head_ofB h1.2 h2.2 h3
theorem draw_soundBt {B:Base} {n f:Nat} {target:Array Bool} (hd:dstsOk n ops=true) (hw0:B.w0=wb) (ho:∀ b,¬ B.own b) : ∀ (k:Nat) (t:DT) (listed:Array Bool) (s:St) (a:Act) (w:World) (E:Env) (F:Nat→Prop) (K:St→Prop),a.tmps.size=n→Sim B s a w E F →
    t.vc P B.keep ops s K→t.okB ops target k true listed=true →
    (∀ a' w' s' E' F',K s'→Sim B s' a' w' E' F'→a'.tmps.size=n→wpAnyB P T wb ops Q f target a' w')→wpAnyB P T wb ops Q (k+f) listed a w:=by
  have ks:∀ {s:St} {a:Act} {w:World} {E:Env} {F:Nat→Prop} (i:Nat),Sim B s a w E F→T i=true∨KeepS wb w:=fun i hs=>.inr (hw0 ▸ hs.keepS ho)
  intro k
  induction k with
  | zero =>
    intro t listed s a w E F K hn hs h hok hq
    cases t with
    | nil =>
      simp only [DT.okB,Bool.and_eq_true] at hok
      have:=eq_of_beq hok.2
      subst this
      rw [Nat.zero_add]
      exact hq a w s E F h hs hn
    | op i r=>simp [DT.okB] at hok
    | or x y =>
      exfalso
      simp only [DT.okB,if_true,Bool.and_eq_true] at hok
      obtain ⟨⟨⟨hne,hall⟩,hx⟩,hy⟩:=hok
      have hor:(DT.or x y).okB ops target 0 false listed=true:=by simp [DT.okB,hx,hy]
      cases hl:Region.ready .any ops listed with
      | nil=>rw [hl] at hne; cases hne
      | cons j l =>
        have hh:j∈(DT.or x y).heads:=by have:=List.all_eq_true.1 hall j (by rw [hl]; simp); simpa [DT.heads] using this
        obtain ⟨r,o,k',_,_,q,_⟩:=DT.head_ofB h hor hh
        omega
  | succ k ih =>
    intro t listed s a w E F K hn hs h hok hq
    have one:∀ (i:Nat) (r:DT) (o:Oper),ops[i]? = some o→OpVC P B.keep ops o s (fun t=>r.vc P B.keep ops t K)→r.okB ops target k true (listed.setIfInBounds i true)=true →
        wpOp P ops Q i (fun a' w'=>(T i=true∨KeepS wb w')∧wpAnyB P T wb ops Q (k+f) (listed.setIfInBounds i true) a' w') a w:=by
      intro i r o hoi hvc hrest
      have ih:=fun s a w E F hn hs h=>ih r (listed.setIfInBounds i true) s a w E F K hn hs h hrest hq
      rcases op_sound (Q:=Q) hs (fun d hd'=>by rw [hn]; exact dstsOk_spec hd hoi d hd') hvc with ⟨v,s',hK,hs',hw⟩ | ⟨_,hw⟩
      · have hy:YieldsK P ops w o v a:=hw
        exact hy.wpOp hoi ⟨ks i hs,ih s' _ w E F (by rw [size_put]; exact hn) hs' hK⟩
      · unfold wpOp
        simp only [hoi]
        rcases hw with ⟨hw,hwp⟩ | ⟨hw,s',F',hK,hs'⟩
        · rw [hw,if_pos rfl]
          refine .inl (Oper.wp_mono (fun a' w' ⟨_,v,s',E',F',ha,hK,hs'⟩ => ?_) hwp)
          subst ha
          exact ⟨ks i hs',ih s' _ w' E' F' (by rw [size_put]; exact hn) hs' hK⟩
        · rw [hw]
          exact ⟨ks i hs,ih s' _ w E F' (by rw [size_put]; exact hn) hs' hK⟩
    rw [show k+1+f=(k+f)+1 by omega]
    cases t with
    | nil=>simp [DT.okB] at hok
    | op i r =>
      simp only [DT.okB,if_true,Bool.and_eq_true,beq_iff_eq] at hok
      obtain ⟨hsome,hr,hrest⟩:=hok
      obtain ⟨o,hoi⟩:=Option.isSome_iff_exists.1 hsome
      simp only [DT.vc,hoi] at h
      refine ⟨(fun h0=>by rw [hr] at h0; cases h0),fun j hj => ?_⟩
      rw [hr] at hj
      simp at hj
      subst hj
      exact one _ r o hoi h hrest
    | or x y =>
      simp only [DT.okB,if_true,Bool.and_eq_true] at hok
      obtain ⟨⟨⟨hne,hall⟩,hx⟩,hy⟩:=hok
      have hne:Region.ready .any ops listed≠[]:=by simpa using hne
      have hor:(DT.or x y).okB ops target (k+1) false listed=true:=by simp [DT.okB,hx,hy]
      refine ⟨fun h0=>absurd h0 hne,fun j hj => ?_⟩
      have hh:j∈(DT.or x y).heads:=by have:=List.all_eq_true.1 hall j hj; simpa [DT.heads] using this
      obtain ⟨r,o,k',q1,q2,q3,q4⟩:=DT.head_ofB h hor hh
      obtain rfl:k'=k:=by omega
      exact one j r o q1 q2 q4
def finR (P:Program) (kp:List Nat) (ops:Array Oper) (fin:List Nat) (H0:List Blk) (u:St) (K:St→Prop) : Prop:=contRun P kp ops (.vc (fin.filterMap (ops[·]?))) ⟨u.tm,H0++u.heap.drop H0.length⟩ K
def midR (P:Program) (kp:List Nat) (ops:Array Oper) (d:DT) (fin:List Nat) (t:St) (K:St→Prop) : Prop:=contRun P (List.range t.heap.length) ops (.dt d) ⟨t.tm,hid t.heap⟩ fun u=>finR P kp ops fin t.heap u K
theorem finR_mk {kp:List Nat} {fin:List Nat} {H0:List Blk} {tm:List (Nat × V)} {H:List Blk} {K:St→Prop} : finR P kp ops fin H0 ⟨tm,H⟩ K=contRun P kp ops (.vc (fin.filterMap (ops[·]?))) ⟨tm,H0++H.drop H0.length⟩ K:=rfl
theorem midR_mk {kp:List Nat} {d:DT} {fin:List Nat} {tm:List (Nat × V)} {H:List Blk} {K:St→Prop} : midR P kp ops d fin ⟨tm,H⟩ K=contRun P (List.range H.length) ops (.dt d) ⟨tm,hid H⟩ fun u=>finR P kp ops fin H u K:=rfl
theorem awpF_drawBT {kp:List Nat} {n:Nat} {s:St} {Qs:Exit→St→Prop} {id:Nat} (l:List Nat) (d:DT) (mid fin:List Nat) (hm:P.follows .mixedOrders=true)
    (hc:(Region.noSelect ops&&quietB (fun i=>fin.contains i) ops l (Array.replicate ops.size false)&&(d.okB ops (setAll mid (setAll l (Array.replicate ops.size false))) mid.length true (setAll l (Array.replicate ops.size false))) &&
      tailB ops fin (setAll mid (setAll l (Array.replicate ops.size false))))=true) (hl:(mid.length+fin.length+l.length==ops.size)=true)
    (h:∀ K:St→Prop,(∀ t,Qs .normal t→K t)→contRun P kp ops (.vc (l.filterMap (ops[·]?))) s fun t=>midR P kp ops d fin t K) : AWP P kp n (.region id ops true) s Qs:=by
  intro hok B a w E F h1 h2 h3
  subst h1
  simp only [Bool.and_eq_true] at hc
  refine wp_region_any hm (wpAny_of_B (T:=fun i=>fin.contains i) (wb:=w.drew) _ _ _ _ ?_)
  obtain ⟨⟨⟨hc1,hc2⟩,hc3⟩,hc4⟩:=hc
  have hl':mid.length+fin.length+l.length=ops.size:=by simpa using hl
  generalize Array.replicate ops.size false=lst at *
  rw [← hl']
  refine drawB_quiet (n:=n) hok hc1 ?_ (mid.length+fin.length) l _ s a E F _ h2 h3.drew (h _ fun t ht=>ht) hc2 ?_
  · intro c a w hh
    exact hh.1 c rfl
  · intro a1 s1 hK hs hn
    refine draw_soundBt (B:=⟨_,F,fun _=>False,E,List.range s1.heap.length,B.ds⟩) (n:=n) hok rfl (fun _ h=>h) mid.length d _ _ _ _ E F _ hn (hid_sim hs) hK hc3 ?_
    intro a2 w2 s2 E2 F2 hK2 hs2 hn2
    refine drawB_fin (B:=B) (n:=n) hok fin _ _ _ _ E2 F2 _ hn2 (unhid hs hs2) hK2 hc4 (List.all_eq_true.2 fun i hi=>by simpa using hi) ?_
    intro a3 w3 s3 E3 F3 hK3 hs3 hn3
    exact ⟨by simp,by simp,_,E3,F3,hK3,hs3,hn3⟩
attribute [push_cast] finR_mk midR_mk
end
end Go.Aw
