/-
  Texts of the library,one behind the other. Over any program; no condition.
-/
import Derived.Test.YtlimahhonfckdaaGreatDoorPkT
import Derived.Test.YtlimahhonfckdaaGreatDoorRuA
namespace Go.Aw
set_option linter.unusedSimpArgs false
set_option linter.unusedVariables false
open Go.RowKit Go.Proofs
set_option maxRecDepth 100000

def encP2 (p:Nat × Nat) : List D:=[.int .i64 (p.1:Int),.int .i64 (p.2:Int)]
def encH (x:Int) : List D:=[.int .i64 x]
def reachV (n:Nd) (qa qb:Int) : Int:=if n.op=3 then qa else if n.op=4∨n.op=5 then max qa qb else if n.op=6∨n.op=7 then n.hi+qa else
  if n.op=8 then (if 0<n.hi then max (n.hi+qb) (n.hi - 1+qa) else n.hi+qb) else 0
def fH (f:List Nd) (P:List (Nat × Nat)) (Q:List Int) : List Blk:=[.cells [.d (.sl (f.map encNd))],.cells [.nil,.nil,.nil],.data 2 (P.map encP2),.data 1 (Q.map encH),.cells [.d (.sl (f.map encNd)),.ref 2 0 f.length,.ref 3 0 f.length],.cells [.fn (.func 117) [.ptr 0 0 0,.ptr 4 0 0,.ptr 5 0 0]]]
theorem AC.shrink {P:Program} {f:FuncId} {args:List V} {H:List Blk} {kp:List Nat} {R R':V→List Blk→Prop} (n:Nat) (h:AC P f args H kp R) (hk:∀ i,i∈kp→i<n)
    (hR:∀ x H',R x H'→∃ H1 X,H'=H1++X∧H1.length=n∧V.bel n x=true∧belHeap n H1=true∧R' x H1) : AC P f args H kp R':=by
  refine ⟨h.1,fun w cargs E F h1 h2 h3 h4=>(h.2 w cargs E F h1 h2 h3 h4).mono ?_⟩
  rintro e w' ⟨v,x,H',E',F',q1,q2,q3,q4⟩
  obtain ⟨H1,X,rfl,r1,r2,r3,r4⟩:=hR x H' q2
  have hs:Sim ⟨w,F,own E H,E,kp,[]⟩ ⟨[],H1++X⟩ { tmps:=#[],defers:=[] } w' E' F':=⟨q3,rfl,fun i x hx=>by simp [tget] at hx⟩
  have hle:Le kp ⟨[],H1⟩ ⟨[],H1++X⟩:=⟨trivial,⟨X,rfl⟩,rfl,by rw [r1]; exact r3,fun i hi=>by rw [r1]; exact hk i hi⟩
  have hs':=le_sim (B:=⟨w,F,own E H,E,kp,[]⟩) hle hs
  refine ⟨v,x,H1,E'.take H1.length,F',q1,r4,hs'.rel,?_⟩
  exact q4.evo (ok:=fun i=>i<n) ⟨fun _ h=>h,fun _ _=>rfl,fun i e hi h=>by rw [List.getElem?_take_of_lt (by omega)]; exact h,fun _ _ h=>h⟩ (bel_has n x r2)
set_option maxHeartbeats 4000000 in
theorem p100 (f:List Nd) (P:List (Nat × Nat)) (Q:List Int) (i:Nat) (n:Nd) (a b:Nat) (qa qb:Int) (hf:f.length≤1000) (hpl:P.length=f.length) (hl:Q.length=f.length) (hn:f[i]? = some n) (hp:P[i]? = some (a,b)) (ho:okN n)
    (ha:Q[a]? = some qa) (hb':Q[b]? = some qb) (h1 : -1000000≤qa∧qa≤1000000) (h2 : -1000000≤qb∧qb≤1000000) :
    AC Tryz.prog 119 [.agg [.d (.sl (f.map encNd)),.ref 2 0 f.length,.ref 3 0 f.length],.d (.int .i64 i)] (fH f P Q) [0,1,2,3,4,5] fun x H'=>x=.d (.int .i64 (reachV n qa qb))∧H'=fH f P Q:=by
  refine AC.shrink (R:=fun x H'=>x=.d (.int .i64 (reachV n qa qb))∧∃ X,H'=fH f P Q++X) 6 ?_ (by simp) ?_
  · have hi:i<f.length:=(List.getElem?_eq_some_iff.1 hn).1
    have hal:a<Q.length:=(List.getElem?_eq_some_iff.1 ha).1
    have hbl:b<Q.length:=(List.getElem?_eq_some_iff.1 hb').1
    have hq:∀ row,row∈f.map encNd→row.length=6:=fun row hr=>by obtain ⟨_,_,rfl⟩:=List.mem_map.1 hr; rfl
    obtain ⟨op,l,r,k,lo,hi'⟩:=n
    unfold okN opOk at ho
    dsimp only at ho
    simp only [fH]
    obtain rfl | rfl | rfl | rfl | rfl | rfl | rfl | rfl:op=1∨op=2∨op=3∨op=4∨op=5∨op=6∨op=7∨op=8:=by omega
    iterate 8 (focus (
      refine ac_ofF (fn:=Tryz.f119) [.tmp 4] (by kernel_rfl) rfl (by kernel_rfl) (Nat.le_of_ble_eq_true rfl) (by kernel_rfl) rfl ?_
      refine awp_seq ?_
      refine wRg ?_
      refine awp_seq ?_
      refine awpF_drawB [0,1,2,3,4,5,6,7,8,9,10,11,12,13,14,15,16] [17,18,19,20] (by kernel_rfl) (by kernel_rfl) (by kernel_rfl) ?_; intro K hK; simp only [push_cast,seval,hid,List.map_cons,List.map_nil,List.length_cons,List.length_nil,List.drop_succ_cons,List.drop_zero,List.cons_append,List.nil_append,hn,hp,ha,hb',encNd,encP2,encH,Int.toNat_natCast]
      refine wOb ?_
      refine hK _ ?_; clear hK K
      (repeat' (first | refine awp_seq ?_ | refine awp_skip ?_ | refine awp_block ?_ | ((first | (refine awpF_region ?_; intro K hK) | (refine awpF_draw (id:=1) [0,1,2,3,4,5,6,7,8,9,10,11,12,13,14,15,16,17,18,19,20] (by kernel_rfl) (by kernel_rfl) rfl ?_; intro K hK) | (refine awpF_draw (id:=7) [0,1,2,3,4,5,6,7,8,9,10,11] (by kernel_rfl) (by kernel_rfl) rfl ?_; intro K hK) | (refine awpF_draw (id:=10) [0,1,2,3,4,5,6,7,8] (by kernel_rfl) (by kernel_rfl) rfl ?_; intro K hK) | (refine awpF_draw (id:=12) [0,1,2,3,4,5,6,7,8] (by kernel_rfl) (by kernel_rfl) rfl ?_; intro K hK) | (refine awpF_draw (id:=14) [0,1,2,3,4,5,6,7,8,9,10,11] (by kernel_rfl) (by kernel_rfl) rfl ?_; intro K hK)); simp only [push_cast,seval,hn,hp,ha,hb',encNd,encP2,encH,Int.toNat_natCast,beq_self_eq_true,cond_true,cond_false,Option.map_some,Option.getD_some,List.getD_cons_zero]; refine wObW ?_) | (refine hK _ ?_; clear hK K) | (refine wCd ?_ ?_) | (with_reducible intro hb; exfalso; revert hb; simp [hn,hp,ha,hb',encNd,encP2,encH,Int.toNat_natCast,beq_self_eq_true,cond_true,cond_false,Option.map_some,Option.getD_some,List.getD_cons_zero]; done) | (with_reducible intro hb; exfalso; replace hb:=wHb hb; omega; done) | (with_reducible intro hb; replace hb:=wHb hb) | (refine wEx ?_) | (refine wRp ?_; refine fin_of (by simp only [push_cast,seval,hn,hp,ha,hb',encNd,encP2,encH,Int.toNat_natCast,beq_self_eq_true,cond_true,cond_false,Option.map_some,Option.getD_some,List.getD_cons_zero]; first | done | rfl) ob1 ?_) | (refine inblock_norm ?_)))
      all_goals
        refine ⟨?_,_,rfl⟩
        first | rfl | (congr 2; simp [reachV]; done) | (congr 2; simp [reachV]; omega)))
  · rintro x _ ⟨rfl,X,rfl⟩
    exact ⟨_,X,rfl,rfl,rfl,rfl,rfl,rfl⟩
end Go.Aw

namespace Go.Aw
set_option linter.unusedSimpArgs false
set_option linter.unusedVariables false

def Right (P:List (Nat × Nat)) (Q:List Int) : Nat→Fm→Prop
  | i,.z n=>P[i]? = some (0,0)∧Q[i]? = some (Fm.z n).hz
  | i,.u n a=>P[i]? = some (i+1,0)∧Q[i]? = some (Fm.u n a).hz∧Right P Q (i+1) a
  | i,.b n a b=>P[i]? = some (i+1,i+1+a.flat.length)∧Q[i]? = some (Fm.b n a b).hz∧Right P Q (i+1) a∧Right P Q (i+1+a.flat.length) b
theorem Right.top {P:List (Nat × Nat)} {Q:List Int} : ∀ {t:Fm} {i:Nat},Right P Q i t→Q[i]? = some t.hz
  | .z n,i,h=>h.2
  | .u n a,i,h=>h.2.1
  | .b n a b,i,h=>h.2.1
theorem Fm.len_pos (t:Fm) : 0<t.flat.length:=by cases t <;> simp [Fm.flat]
theorem Right.congr {P P':List (Nat × Nat)} {Q Q':List Int} : ∀ {t:Fm} {i:Nat},(∀ j,i≤j→j<i+t.flat.length→P'[j]? = P[j]? ∧ Q'[j]? = Q[j]?)→Right P Q i t→Right P' Q' i t
  | .z n,i,h,hr=>by
    have:=h i (Nat.le_refl _) (by have:=Fm.len_pos (.z n); omega)
    exact ⟨this.1.trans hr.1,this.2.trans hr.2⟩
  | .u n a,i,h,hr=>by
    have h0:=h i (Nat.le_refl _) (by have:=Fm.len_pos (.u n a); omega)
    refine ⟨h0.1.trans hr.1,h0.2.trans hr.2.1,hr.2.2.congr fun j h1 h2=>h j (by omega) ?_⟩
    simp only [Fm.flat,List.length_cons]; omega
  | .b n a b,i,h,hr=>by
    have h0:=h i (Nat.le_refl _) (by have:=Fm.len_pos (.b n a b); omega)
    refine ⟨h0.1.trans hr.1,h0.2.trans hr.2.1,hr.2.2.1.congr fun j h1 h2=>h j (by omega) ?_,hr.2.2.2.congr fun j h1 h2=>h j (by omega) ?_⟩
    · simp only [Fm.flat,List.length_cons,List.length_append]; omega
    · simp only [Fm.flat,List.length_cons,List.length_append]; omega
def EndsR (f:List Nd) (P:List (Nat × Nat)) (Q:List Int) (i:Nat) (x:Int) (P':List (Nat × Nat)) (Q':List Int) : Prop :=
  P'.length=f.length∧Q'.length=f.length∧(∀ y,y∈Q'→0≤y∧y≤20*f.length) ∧
  ((skp 1 (f.drop i)=none∧x = -1)∨∃ t:Fm,t.wf∧f.drop i=t.flat++f.drop (i+t.flat.length)∧skp 1 (f.drop i)=some (f.drop (i+t.flat.length))∧i+t.flat.length≤f.length∧x=(i+t.flat.length:Nat)∧Right P' Q' i t ∧
    ∀ j,(j<i∨i+t.flat.length≤j)→P'[j]? = P[j]? ∧ Q'[j]? = Q[j]?)
structure EndsG (f:List Nd) (P:List (Nat × Nat)) (Q:List Int) (i:Nat) : Prop where
  pl:P.length=f.length
  ql:Q.length=f.length
  qb:∀ y,y∈Q→0≤y∧y≤20*f.length
  fresh:∀ j,i≤j→j<f.length→P[j]? = some (0,0)
def EInv (f:List Nd) (P:List (Nat × Nat)) (Q:List Int) (i:Nat) (n:Nd) (k nx:Nat) (P':List (Nat × Nat)) (Q':List Int) : Prop :=
  P'.length=f.length∧Q'.length=f.length∧(∀ y,y∈Q'→0≤y∧y≤20*f.length)∧k≤arV n.op∧nx≤f.length∧i<nx∧(∀ j,(j<i∨nx≤j)→P'[j]? = P[j]? ∧ Q'[j]? = Q[j]?) ∧
  skp 1 (f.drop i)=skp (arV n.op - k) (f.drop nx) ∧
  ((k=0∧nx=i+1∧P'[i]? = some (0,0)) ∨
   (k=1∧∃ a:Fm,a.wf∧f.drop (i+1)=a.flat++f.drop nx∧nx=i+1+a.flat.length∧P'[i]? = some (i+1,0)∧Right P' Q' (i+1) a) ∨
   (k=2∧∃ a b:Fm,a.wf∧b.wf∧f.drop (i+1)=a.flat++(b.flat++f.drop nx)∧nx=i+1+a.flat.length+b.flat.length∧P'[i]? = some (i+1,i+1+a.flat.length) ∧
     Right P' Q' (i+1) a∧Right P' Q' (i+1+a.flat.length) b))
theorem ar_pt {n:Nd} (h:opOk n) : arV n.op=ptV n.op:=by
  unfold opOk at h
  rcases op_cases n.op with e | e | e | e | e | e | e | e | e
  iterate 8 (rw [e]; rfl)
  omega
theorem EInv.start {f:List Nd} {P:List (Nat × Nat)} {Q:List Int} {i:Nat} {n:Nd} (g:EndsG f P Q i) (hn:f[i]? = some n) (ho:okN n) : EInv f P Q i n 0 (i+1) P Q:=by
  have hlt:i<f.length:=(List.getElem?_eq_some_iff.1 hn).1
  refine ⟨g.pl,g.ql,g.qb,Nat.zero_le _,hlt,Nat.lt_succ_self _,fun j _=>⟨rfl,rfl⟩,?_,.inl ⟨rfl,rfl,g.fresh i (Nat.le_refl _) hlt⟩⟩
  rw [List.drop_eq_getElem_cons hlt,show f[i]=n from (List.getElem?_eq_some_iff.1 hn).2,skp,Nat.zero_add,Nat.sub_zero,ar_pt ho.1]
theorem EInv.give {f:List Nd} {P:List (Nat × Nat)} {Q:List Int} {i k nx:Nat} {n:Nd} {P':List (Nat × Nat)} {Q':List Int} (g:EndsG f P Q i) (h:EInv f P Q i n k nx P' Q') (p:Nat × Nat) : EndsG f (P'.set i p) Q' nx:=by
  obtain ⟨h1,h2,h3,h4,h5,h6,h7,_⟩:=h
  refine ⟨by simpa using h1,h2,h3,fun j hj hl => ?_⟩
  rw [List.getElem?_set_ne (by omega),(h7 j (.inr hj)).1]
  exact g.fresh j (by omega) hl
theorem EInv.step {f:List Nd} {P P' P2:List (Nat × Nat)} {Q Q' Q2:List Int} {i k nx:Nat} {n:Nd} {e:Int} {p:Nat × Nat} (hn:f[i]? = some n) (ho:okN n) (h:EInv f P Q i n k nx P' Q') (hk:k<arV n.op)
    (hp:k=0∧p=(nx,0)∨k=1∧p=(i+1,nx)) (hr:EndsR f (P'.set i p) Q' nx e P2 Q2) : (e<0∧EndsR f P Q i (-1) P2 Q2)∨∃ nx2:Nat,e=nx2∧EInv f P Q i n (k+1) nx2 P2 Q2:=by
  obtain ⟨h1,h2,h3,h4,h5,h6,h7,h8,h9⟩:=h
  obtain ⟨r1,r2,r3,r4⟩:=hr
  have hs:∀ m,arV n.op - k=m+1→skp (m+1) (f.drop nx)=(skp 1 (f.drop nx)).bind (skp m):=by
    intro m _
    have key:∀ (l:List Nd) (a m:Nat),skp (a+m) l=(skp a l).bind (skp m):=by
      intro l
      induction l with
      | nil =>
        intro a m
        cases a with
        | zero=>simp [skp]
        | succ a=>rw [show a+1+m=(a+m)+1 by omega,skp,skp]; rfl
      | cons y l ihl =>
        intro a m
        cases a with
        | zero=>simp [skp]
        | succ a=>rw [show a+1+m=(a+m)+1 by omega,skp,skp,show a+m+ptV y.op=(a+ptV y.op)+m by omega,ihl]
    rw [Nat.add_comm,key]
  obtain ⟨m,hm⟩ : ∃ m,arV n.op - k=m+1:=⟨arV n.op - k - 1,by omega⟩
  rw [hm,hs m hm] at h8
  rcases r4 with ⟨q1,q2⟩ | ⟨t,t1,t2,t3,t4,t5,t6,t7⟩
  · refine .inl ⟨by omega,r1,r2,r3,.inl ⟨?_,rfl⟩⟩
    rw [h8,q1]; rfl
  · refine .inr ⟨nx+t.flat.length,t5,?_⟩
    have hpos:=t.len_pos
    have hlt:i<f.length:=(List.getElem?_eq_some_iff.1 hn).1
    have hpi:P2[i]? = some p:=by
      rw [(t7 i (.inl h6)).1,List.getElem?_set_self (by omega)]
    refine ⟨r1,r2,r3,hk,t4,by omega,fun j hj => ?_,?_,?_⟩
    · have:=t7 j (by omega)
      rw [List.getElem?_set_ne (by omega)] at this
      have h0:=h7 j (by omega)
      exact ⟨this.1.trans h0.1,this.2.trans h0.2⟩
    · rw [h8,t3,show arV n.op - (k+1)=m by omega]
      rfl
    · rcases hp with ⟨rfl,rfl⟩ | ⟨rfl,rfl⟩
      · rcases h9 with ⟨_,rfl,_⟩ | ⟨h,_⟩ | ⟨h,_⟩
        · exact .inr (.inl ⟨rfl,t,t1,t2,rfl,hpi,t6⟩)
        · omega
        · omega
      · rcases h9 with ⟨h,_⟩ | ⟨_,a,a1,a2,rfl,a4,a5⟩ | ⟨h,_⟩
        · omega
        · refine .inr (.inr ⟨rfl,a,t,a1,t1,by rw [a2,t2],rfl,hpi,a5.congr fun j j1 j2 => ?_,t6⟩)
          have:=t7 j (.inl (by omega))
          rw [List.getElem?_set_ne (by omega)] at this
          exact this
        · omega
theorem EInv.reach {f:List Nd} {P P':List (Nat × Nat)} {Q Q':List Int} {i nx:Nat} {n:Nd} (hf:f.length≤1000) (hn:f[i]? = some n) (ho:∀ n,n∈f→okN n) (h:EInv f P Q i n (arV n.op) nx P' Q') :
    ∃ a b qa qb,P'[i]? = some (a,b)∧Q'[a]? = some qa∧Q'[b]? = some qb∧(-1000000≤qa∧qa≤1000000)∧(-1000000≤qb∧qb≤1000000)∧EndsR f P Q i (nx:Nat) P' (Q'.set i (reachV n qa qb)):=by
  obtain ⟨h1,h2,h3,_,h5,h6,h7,h8,h9⟩:=h
  have hlt:i<f.length:=(List.getElem?_eq_some_iff.1 hn).1
  have hN:=ho n (List.mem_of_getElem? hn)
  obtain ⟨q0,hq0⟩ : ∃ q,Q'[0]? = some q:=⟨_,List.getElem?_eq_getElem (by omega)⟩
  have hbd:∀ {j:Nat} {y:Int},Q'[j]? = some y → -1000000≤y∧y≤1000000:=fun hj=>by
    have:=h3 _ (List.mem_of_getElem? hj)
    omega
  have hdi:f.drop i=n::f.drop (i+1):=by
    rw [List.drop_eq_getElem_cons hlt,show f[i]=n from (List.getElem?_eq_some_iff.1 hn).2]
  rw [Nat.sub_self,skp] at h8
  have fin:∀ (t:Fm) (z:Int),t.wf→f.drop i=t.flat++f.drop nx→nx=i+t.flat.length→z=t.hz→Right P' (Q'.set i z) i t→EndsR f P Q i (nx:Nat) P' (Q'.set i z):=by
    intro t z t1 t2 t3 t4 t5
    have hb:=hz_bd t t1 fun m hm=>ho m (List.mem_of_mem_drop (by rw [t2]; exact List.mem_append_left _ hm))
    refine ⟨h1,by simpa using h2,fun y hy => ?_,.inr ⟨t,t1,by rw [← t3]; exact t2,by rw [← t3]; exact h8,by rw [← t3]; exact h5,by rw [t3],t5,fun j hj => ?_⟩⟩
    · rcases List.mem_or_eq_of_mem_set hy with hy | rfl
      · exact h3 y hy
      · omega
    · rw [List.getElem?_set_ne (by omega)]
      exact h7 j (by omega)
  have hself:∀ z:Int,(Q'.set i z)[i]? = some z:=fun z=>List.getElem?_set_self (by omega)
  unfold okN opOk at hN
  rcases h9 with ⟨k0,rfl,p0⟩ | ⟨k1,a,a1,a2,rfl,p1,r1⟩ | ⟨k2,a,b,a1,b1,a2,rfl,p2,r1,r2⟩
  · have hop:n.op=1∨n.op=2:=by
      unfold arV at k0
      split at k0
      · assumption
      · split at k0 <;> cases k0
    refine ⟨0,0,q0,q0,p0,hq0,hq0,hbd hq0,hbd hq0,fin (.z n) _ hop (by rw [hdi]; rfl) rfl ?_ ⟨p0,?_⟩⟩
    · rcases hop with e | e <;> simp [reachV,e,Fm.hz]
    · rw [hself]
      rcases hop with e | e <;> simp [reachV,e,Fm.hz]
  · have hop:n.op=3∨n.op=6∨n.op=7:=by
      unfold arV at k1
      split at k1
      · cases k1
      · split at k1
        · assumption
        · cases k1
    have hz:reachV n a.hz q0=(Fm.u n a).hz:=by
      rcases hop with e | e | e
      · have:n.hi=0:=by omega
        simp [reachV,e,Fm.hz,this]
      · simp [reachV,e,Fm.hz]
      · simp [reachV,e,Fm.hz]
    have hl:i+1+a.flat.length=i+(Fm.u n a).flat.length:=by simp only [Fm.flat,List.length_cons]; omega
    refine ⟨i+1,0,a.hz,q0,p1,r1.top,hq0,hbd r1.top,hbd hq0,fin (.u n a) _ ⟨hop,a1⟩ (by rw [hdi,a2]; rfl) hl hz ⟨p1,by rw [hself,hz],r1.congr fun j j1 j2=>⟨rfl,List.getElem?_set_ne (by omega)⟩⟩⟩
  · have hop:n.op=4∨n.op=5∨n.op=8:=by
      unfold arV at k2
      split at k2
      · cases k2
      · split at k2
        · cases k2
        · omega
    have hz:reachV n a.hz b.hz=(Fm.b n a b).hz:=by
      rcases hop with e | e | e
      · simp [reachV,e,Fm.hz]
      · simp [reachV,e,Fm.hz]
      · simp only [reachV,e,Fm.hz]
        by_cases h0:0<n.hi
        · simp [h0]
        · have:n.hi=0:=by omega
          simp [this]
    have hl:i+1+a.flat.length+b.flat.length=i+(Fm.b n a b).flat.length:=by simp only [Fm.flat,List.length_cons,List.length_append]; omega
    refine ⟨i+1,i+1+a.flat.length,a.hz,b.hz,p2,r1.top,r2.top,hbd r1.top,hbd r2.top,fin (.b n a b) _ ⟨hop,a1,b1⟩ (by rw [hdi,a2]; simp [Fm.flat]) hl hz ⟨p2,by rw [hself,hz],r1.congr fun j j1 j2=>⟨rfl,List.getElem?_set_ne (by omega)⟩,r2.congr fun j j1 j2=>⟨rfl,List.getElem?_set_ne (by omega)⟩⟩⟩
end Go.Aw

namespace Go.Aw
set_option linter.unusedSimpArgs false
set_option linter.unusedVariables false
open Go.RowKit Go.Proofs
set_option maxRecDepth 100000

set_option maxHeartbeats 4000000 in
theorem p98 (f:List Nd) (hf:f.length≤1000) (ho:∀ n,n∈f→okN n) : ∀ (m i:Nat) (P:List (Nat × Nat)) (Q:List Int),f.length - i≤m→i≤f.length→EndsG f P Q i →
    AC Tryz.prog 117 [.d (.int .i64 i),.ptr 0 0 0,.ptr 4 0 0,.ptr 5 0 0] (fH f P Q) [0,1,2,3,4,5] fun x H'=>∃ (e:Int) (P':List (Nat × Nat)) (Q':List Int),x=.d (.int .i64 e)∧H'=fH f P' Q'∧EndsR f P Q i e P' Q':=by
  intro m
  induction m with
  | zero =>
    intro i P Q hm hi g
    obtain rfl:i=f.length:=by omega
    have hd:decide ((f.length:Int) ≥ f.length)=true:=decide_eq_true (by omega)
    simp only [fH]
    refine ac_ofF (fn:=Tryz.f117) [.tmp 5] (by kernel_rfl) rfl (by kernel_rfl) (Nat.le_of_ble_eq_true rfl) (by kernel_rfl) rfl ?_
    (repeat' (first | refine awp_seq ?_ | refine awp_skip ?_ | refine awp_block ?_ | ((first | (refine awpF_region ?_; intro K hK) | (refine awpF_draw (id:=12) [0,1,2,3,4,5,6,7] (by kernel_rfl) (by kernel_rfl) rfl ?_; intro K hK)); simp only [push_cast,seval,hd]; refine wObW ?_) | (refine hK _ ?_; clear hK K) | (refine wCd ?_ ?_) | (with_reducible intro hb; exfalso; revert hb; simp [hd]; done) | (with_reducible intro hb; exfalso; replace hb:=wHb hb; omega; done) | (with_reducible intro hb; replace hb:=wHb hb) | (refine wEx ?_) | (refine wRp ?_; refine fin_of (by simp only [push_cast,seval,hd]; first | done | rfl) ob1 ?_) | (refine inblock_norm ?_)))
    refine ⟨-1,P,Q,rfl,rfl,g.pl,g.ql,g.qb,.inl ⟨?_,rfl⟩⟩
    rw [List.drop_length]
    rfl
  | succ m ih =>
    intro i P Q hm hi g
    rcases Nat.lt_or_ge i f.length with hlt | hge
    · obtain ⟨n,hn⟩ : ∃ n,f[i]? = some n:=⟨_,List.getElem?_eq_getElem hlt⟩
      have hN:=ho n (List.mem_of_getElem? hn)
      have hd:decide ((i:Int) ≥ f.length)=false:=decide_eq_false (by omega)
      have h99:=p99 n.op
      have hq:∀ row,row∈f.map encNd→row.length=6:=fun row hr=>by obtain ⟨_,_,rfl⟩:=List.mem_map.1 hr; rfl
      simp only [fH]
      refine ac_ofF (fn:=Tryz.f117) [.tmp 5] (by kernel_rfl) rfl (by kernel_rfl) (Nat.le_of_ble_eq_true rfl) (by kernel_rfl) rfl ?_
      refine awp_seq ?_
      refine wRg ?_
      refine awp_seq ?_
      refine awp_seq ?_
      refine wRg ?_
      refine wCd ?_ ?_
      · intro h1; replace h1:=wHb h1
        omega
      intro h1; replace h1:=wHb h1
      refine awp_skip ?_
      refine awp_seq ?_
      refine wRg ?_
      refine awp_seq ?_
      refine awp_seq ?_
      refine awpF_region ?_; intro K hK; simp only [push_cast,seval,hn,encNd,Int.toNat_natCast]
      refine wOb ?_
      refine CallK.pd (h99) ?_; refine wXo ?_
      refine hK _ ?_; clear hK K
      refine awp_block ?_
      refine awp_loopP (α:=Nat × Nat × List (Nat × Nat) × List Int) (st:=fun x=>⟨[(0,.d (.int .i64 i)),(2,.ptr 4 0 0),(3,.ptr 5 0 0),(6,.d (.int .i64 x.2.1)),(19,.d (.int .i64 (arV n.op))),(20,.d (.int .i64 x.1))],fH f x.2.2.1 x.2.2.2⟩)
        (inv:=fun x=>EInv f P Q i n x.1 x.2.1 x.2.2.1 x.2.2.2) (μ:=fun x=>arV n.op - x.1) (x0:=(0,i+1,P,Q)) (r0:=[0,1,2,3,4,5]) (EInv.start g hn hN) ?_ ?_
      · simp only [fH]
        push_cast
        exact wRen
      rintro ⟨k,nx,P',Q'⟩ hi
      dsimp only at hi ⊢
      have hk4:=hi.2.2.2.1
      have hnx:=hi.2.2.2.2.1
      simp only [fH]
      refine awp_seq ?_
      refine wRg ?_
      refine awp_seq ?_
      refine wCd ?_ ?_
      · intro h2; replace h2:=wHb h2
        have hk:k<arV n.op:=by omega
        have hpl:=hi.1
        obtain ⟨⟨pa,pb⟩,hpi⟩ : ∃ p,P'[i]? = some p:=⟨_,List.getElem?_eq_getElem (by omega)⟩
        have har:arV n.op≤2:=by unfold arV; split <;> (try split) <;> omega
        obtain ⟨p,hp,hst⟩ : ∃ p:Nat × Nat,(k=0∧p=(nx,0)∨k=1∧p=(i+1,nx))∧(if k*1=0∧False then [D.int .i64 (nx:Int)] else List.take (k*1) (encP2 (pa,pb))++D.int .i64 (nx:Int)::List.drop (k*1+1) (encP2 (pa,pb)))=encP2 p:=by
          rcases hi.2.2.2.2.2.2.2.2 with ⟨rfl,rfl,hh⟩ | ⟨rfl,a,_,_,rfl,hh,_⟩ | ⟨rfl,_⟩
          · rw [hpi] at hh
            cases hh
            exact ⟨_,.inl ⟨rfl,rfl⟩,rfl⟩
          · rw [hpi] at hh
            cases hh
            exact ⟨_,.inr ⟨rfl,rfl⟩,rfl⟩
          · omega
        have hgv:=hi.give g p
        have hmap:(P'.map encP2).set i (encP2 p)=(P'.set i p).map encP2:=by rw [List.map_set]
        refine awp_skip ?_
        refine awp_seq ?_
        refine awp_block ?_
        refine awp_seq ?_
        refine wRg ?_
        refine awp_seq ?_
        refine awpF_region ?_; intro K hK; simp only [push_cast,seval,hpi,Int.toNat_natCast]
        refine ⟨by omega,by omega,by omega,by omega,by omega,?_⟩
        refine hK _ ?_; clear hK K
        rw [hst,hmap]
        refine awp_seq ?_
        refine awpF_regionH [2] ?_; intro K hK; simp only [push_cast,seval,List.zipIdx_cons,List.zipIdx_nil]
        refine HeapK.mk _ (ih nx (P'.set i p) Q' (by have:=hi.2.2.2.2.2.1; omega) hnx hgv) ?_
        rintro _ _ ⟨e,P2,Q2,rfl,rfl,hr⟩
        simp only [fH]
        simp only [push_cast,seval]
        refine hK _ ?_; clear hK K
        refine awp_seq ?_
        refine wRg ?_
        refine wCd ?_ ?_
        · intro h3; replace h3:=wHb h3
          refine awp_seq ?_
          refine wRg ?_
          refine wRet ?_
          rcases hi.step hn hN hk hp hr with ⟨_,hr⟩ | ⟨nx2,rfl,_⟩
          · exact ⟨-1,P2,Q2,rfl,rfl,hr⟩
          · omega
        · intro h3; replace h3:=wHb h3
          rcases hi.step hn hN hk hp hr with ⟨h4,_⟩ | ⟨nx2,rfl,hi2⟩
          · omega
          refine awp_skip ?_
          refine inblock_norm ?_
          refine wRg ?_
          refine round_endG (k+1,nx2,P2,Q2) [0,1,2,3,4,5] ⟨by dsimp only; omega,hi2,?_⟩
          simp only [fH]
          push_cast
          exact wRen
      · intro h2; replace h2:=wHb h2
        obtain rfl:k=arV n.op:=by omega
        obtain ⟨a,b,qa,qb,e1,e2,e3,e4,e5,e6⟩:=hi.reach hf hn ho
        have hpl:=hi.1
        have hql:=hi.2.1
        have h100:=p100 f P' Q' i n a b qa qb hf hpl hql hn e1 hN e2 e3 e4 e5
        have hmap:(Q'.map encH).set i [.int .i64 (reachV n qa qb)]=(Q'.set i (reachV n qa qb)).map encH:=by rw [List.map_set]; rfl
        refine wEx ?_
        refine awp_seq ?_
        refine awpF_drawH [5] [3,4] [] [0,1,2,3,4,5,6,7] (by kernel_rfl) (by kernel_rfl) (by simp only [srt,Nat.reduceLT,decide_true,Bool.and_self]) (by kernel_rfl) (by kernel_rfl) ?_; intro K hK; simp only [push_cast,seval,Int.toNat_natCast]
        refine HeapK.mk _ h100 ?_
        rintro _ _ ⟨rfl,rfl⟩
        simp only [fH]
        simp only [push_cast,seval,RoS,shp,forall_eq_or_imp,forall_eq,Int.toNat_natCast]
        refine ⟨by omega,by omega,?_⟩
        refine hK _ ?_; clear hK K
        rw [hmap]
        refine awp_seq ?_
        refine wRg ?_
        refine wRet ?_
        exact ⟨nx,P',_,rfl,rfl,e6⟩
    · obtain rfl:i=f.length:=by omega
      have hd:decide ((f.length:Int) ≥ f.length)=true:=decide_eq_true (by omega)
      simp only [fH]
      refine ac_ofF (fn:=Tryz.f117) [.tmp 5] (by kernel_rfl) rfl (by kernel_rfl) (Nat.le_of_ble_eq_true rfl) (by kernel_rfl) rfl ?_
      (repeat' (first | refine awp_seq ?_ | refine awp_skip ?_ | refine awp_block ?_ | ((first | (refine awpF_region ?_; intro K hK) | (refine awpF_draw (id:=12) [0,1,2,3,4,5,6,7] (by kernel_rfl) (by kernel_rfl) rfl ?_; intro K hK)); simp only [push_cast,seval,hd]; refine wObW ?_) | (refine hK _ ?_; clear hK K) | (refine wCd ?_ ?_) | (with_reducible intro hb; exfalso; revert hb; simp [hd]; done) | (with_reducible intro hb; exfalso; replace hb:=wHb hb; omega; done) | (with_reducible intro hb; replace hb:=wHb hb) | (refine wEx ?_) | (refine wRp ?_; refine fin_of (by simp only [push_cast,seval,hd]; first | done | rfl) ob1 ?_) | (refine inblock_norm ?_)))
      refine ⟨-1,P,Q,rfl,rfl,g.pl,g.ql,g.qb,.inl ⟨?_,rfl⟩⟩
      rw [List.drop_length]
      rfl
end Go.Aw

namespace Go.Aw
set_option linter.unusedSimpArgs false
set_option linter.unusedVariables false
open Go.RowKit Go.Proofs
set_option maxRecDepth 100000

theorem flat_inj:∀ (t t':Fm) (r r':List Nd),t.wf→t'.wf→t.flat++r=t'.flat++r'→t=t'∧r=r'
  | .z n,.z n',r,r',_,_,h=>by simp only [Fm.flat,List.cons_append,List.nil_append,List.cons.injEq] at h; exact ⟨by rw [h.1],h.2⟩
  | .z n,.u n' a',r,r',h1,h2,h=>by
    simp only [Fm.flat,List.cons_append,List.cons.injEq] at h
    simp only [Fm.wf] at h1 h2
    rw [h.1] at h1
    omega
  | .z n,.b n' a' b',r,r',h1,h2,h=>by
    simp only [Fm.flat,List.cons_append,List.cons.injEq] at h
    simp only [Fm.wf] at h1 h2
    rw [h.1] at h1
    omega
  | .u n a,.z n',r,r',h1,h2,h=>by
    simp only [Fm.flat,List.cons_append,List.cons.injEq] at h
    simp only [Fm.wf] at h1 h2
    rw [h.1] at h1
    omega
  | .u n a,.u n' a',r,r',h1,h2,h=>by
    simp only [Fm.flat,List.cons_append,List.cons.injEq] at h
    obtain ⟨e1,e2⟩:=flat_inj a a' r r' h1.2 h2.2 h.2
    exact ⟨by rw [h.1,e1],e2⟩
  | .u n a,.b n' a' b',r,r',h1,h2,h=>by
    simp only [Fm.flat,List.cons_append,List.cons.injEq] at h
    simp only [Fm.wf] at h1 h2
    rw [h.1] at h1
    omega
  | .b n a b,.z n',r,r',h1,h2,h=>by
    simp only [Fm.flat,List.cons_append,List.cons.injEq] at h
    simp only [Fm.wf] at h1 h2
    rw [h.1] at h1
    omega
  | .b n a b,.u n' a',r,r',h1,h2,h=>by
    simp only [Fm.flat,List.cons_append,List.cons.injEq] at h
    simp only [Fm.wf] at h1 h2
    rw [h.1] at h1
    omega
  | .b n a b,.b n' a' b',r,r',h1,h2,h=>by
    simp only [Fm.flat,List.cons_append,List.cons.injEq,List.append_assoc] at h
    obtain ⟨e1,e2⟩:=flat_inj a a' _ _ h1.2.1 h2.2.1 h.2
    obtain ⟨e3,e4⟩:=flat_inj b b' _ _ h1.2.2 h2.2.2 e2
    exact ⟨by rw [h.1,e1,e3],e4⟩
def fmV (f:List Nd) (P:List (Nat × Nat)) (Q:List Int) : V:=.agg [.d (.sl (f.map encNd)),.d (.sl (P.map encP2)),.d (.sl (Q.map encH))]
def parE (f:List Nd) : Int:=if bhV f 0<0 then 6 else if bhV f 0<f.length then 5 else 0
def FmOk (f:List Nd) (P:List (Nat × Nat)) (Q:List Int) : Prop:=P.length=f.length∧Q.length=f.length∧∀ t:Fm,t.wf→f=t.flat→Right P Q 0 t
theorem rep_map {α:Type} (g:α→List D) (n:Nat) (x:α) : List.replicate n (g x)=(List.replicate n x).map g:=by rw [List.map_replicate]
theorem ends_all {f:List Nd} {P P':List (Nat × Nat)} {Q Q':List Int} {e:Int} (h:EndsR f P Q 0 e P' Q') : e=bhV f 0∧FmOk f P' Q':=by
  obtain ⟨h1,h2,_,h3⟩:=h
  unfold bhV
  rw [List.drop_zero] at h3 ⊢
  rcases h3 with ⟨h3,rfl⟩ | ⟨t,t1,t2,t3,t4,rfl,t5,_⟩
  · rw [h3]
    refine ⟨rfl,h1,h2,fun t ht e => ?_⟩
    have:=skp_flat t ht 0 []
    rw [List.append_nil,← e,h3] at this
    cases this
  · rw [t3]
    refine ⟨?_,h1,h2,fun t' ht' e => ?_⟩
    · simp only [List.length_drop]
      omega
    · obtain ⟨rfl,_⟩:=flat_inj t' t [] _ ht' t1 (by rw [List.append_nil,← e]; exact t2)
      exact t5
theorem deep_fm {H:List Blk} {i j:Nat} {f:List Nd} {P:List (Nat × Nat)} {Q:List Int} {e:D} (h1:H[i]? = some (.data 2 (P.map encP2))) (h2:H[j]? = some (.data 1 (Q.map encH))) (hp:P.length=f.length) (hq:Q.length=f.length) :
    DeepV H (.tup [.agg [.d (.sl (f.map encNd)),.ref i 0 f.length,.ref j 0 f.length],.d e]) (.tup [fmV f P Q,.d e]) :=
  DeepV.tups (DeepV.cons (DeepV.aggs (DeepV.cons (DeepV.dd _) (DeepV.cons (DeepV.row h1 (by simp [hp])) (DeepV.cons (DeepV.row h2 (by simp [hq])) DeepV.nils)))) (DeepV.cons (DeepV.dd _) DeepV.nils))
set_option maxHeartbeats 1000000 in
theorem p80 (f:List Nd) (hf:f.length≤1000) (ho:∀ n,n∈f→okN n) : PC Tryz.prog 99 [.sl (f.map encNd)] fun x H=>(∃ P Q,x=.tup [fmV f P Q,.d (.int .i64 (parE f))]∧FmOk f P Q)∧H=[]:=by
  have hq:∀ row,row∈f.map encNd→row.length=6:=fun row hr=>by obtain ⟨_,_,rfl⟩:=List.mem_map.1 hr; rfl
  have h98:=p98 f hf ho f.length 0 (List.replicate f.length (0,0)) (List.replicate f.length 0) (by omega) (Nat.zero_le _) ⟨by simp,by simp,fun y hy=>by
    obtain ⟨_,rfl⟩:=List.mem_replicate.1 hy
    omega,fun j _ hj=>by rw [List.getElem?_replicate,if_pos hj]⟩
  refine pcv_of (fn:=Tryz.f99) [.cell 2 99,.tmp 3] (by kernel_rfl) rfl (by kernel_rfl) (Nat.le_of_ble_eq_true rfl) (by kernel_rfl) rfl ?_
  refine awp_seq ?_
  refine wRg ?_
  rw [fH,← rep_map encP2,← rep_map encH] at h98
  refine awp_mid (fun u=>u=⟨[(1,.ptr 0 0 0),(2,.ptr 1 0 0),(3,.d (.int .i64 0)),(4,.ptr 4 0 0)],[.cells [.d (.sl (f.map encNd))],.cells [.nil,.nil,.nil],.data 2 (List.replicate f.length [.int .i64 0,.int .i64 0]),.data 1 (List.replicate f.length [.int .i64 0]),.cells [.d (.sl (f.map encNd)),.ref 2 0 f.length,.ref 3 0 f.length]]⟩) ?_ ?_
  · refine awpF_drawM [0,1,2,4,5] [] (DT.or (DT.op 3 (DT.or (DT.op 6 (DT.op 7 (DT.op 8 (DT.op 9 DT.nil)))) (DT.op 8 (DT.op 6 (DT.op 7 (DT.op 9 DT.nil)))))) (DT.or (DT.op 6 (DT.or (DT.op 3 (DT.op 7 (DT.op 8 (DT.op 9 DT.nil)))) (DT.op 8 (DT.op 3 (DT.op 7 (DT.op 9 DT.nil)))))) (DT.op 8 (DT.or (DT.op 3 (DT.op 6 (DT.op 7 (DT.op 9 DT.nil)))) (DT.op 6 (DT.op 3 (DT.op 7 (DT.op 9 DT.nil)))))))) (by kernel_rfl) (by kernel_rfl) (by kernel_rfl) ?_; intro K hK; simp only [push_cast,seval,Int.toNat_natCast]
    have fin:∀ (t:St),(∃ r u,(u=⟨[(1,.ptr 0 0 0),(2,.ptr 1 0 0),(3,.d (.int .i64 0)),(4,.ptr 4 0 0)],[.cells [.d (.sl (f.map encNd))],.cells [.nil,.nil,.nil],.data 2 (List.replicate f.length [.int .i64 0,.int .i64 0]),.data 1 (List.replicate f.length [.int .i64 0]),.cells [.d (.sl (f.map encNd)),.ref 2 0 f.length,.ref 3 0 f.length]]⟩)∧Ren [] r u t)→K t:=fun t ht=>hK t ht
    clear hK
    repeat' (first | (with_reducible refine And.intro ?_ ?_) | exact ob1 | refine fin _ ?_)
    all_goals
      clear fin
      first
      | (refine ⟨[0,1,2,3,4],_,rfl,⟨?_,?_,?_,?_,?_,?_⟩⟩ <;> (simp [push_cast,seval]; done))
      | (refine ⟨[0,1,2,4,3],_,rfl,⟨?_,?_,?_,?_,?_,?_⟩⟩ <;> (simp [push_cast,seval]; done))
      | (refine ⟨[0,1,3,2,4],_,rfl,⟨?_,?_,?_,?_,?_,?_⟩⟩ <;> (simp [push_cast,seval]; done))
      | (refine ⟨[0,1,3,4,2],_,rfl,⟨?_,?_,?_,?_,?_,?_⟩⟩ <;> (simp [push_cast,seval]; done))
      | (refine ⟨[0,1,4,2,3],_,rfl,⟨?_,?_,?_,?_,?_,?_⟩⟩ <;> (simp [push_cast,seval]; done))
      | (refine ⟨[0,1,4,3,2],_,rfl,⟨?_,?_,?_,?_,?_,?_⟩⟩ <;> (simp [push_cast,seval]; done))
  rintro _ rfl
  refine awp_seq ?_
  refine wRg ?_
  refine awp_seq ?_
  refine wRg ?_
  refine awp_seq ?_
  refine awp_seq ?_
  refine awpF_regionH [1] ?_; intro K hK; simp only [push_cast,seval,List.zipIdx_cons,List.zipIdx_nil]
  refine HeapK.mk _ h98 ?_
  rintro _ _ ⟨e,P',Q',rfl,rfl,hr⟩
  obtain ⟨he,hok⟩:=ends_all hr
  have hpl:=hr.1
  have hql:=hr.2.1
  simp only [fH]
  simp only [push_cast,seval]
  refine hK _ ?_; clear hK K
  (repeat' (first | refine awp_seq ?_ | refine awp_skip ?_ | refine awp_block ?_ | ((first | (refine awpF_region ?_; intro K hK) | (refine awpF_draw (id:=1) [0,1,2,4,5,3,6,7,8,9] (by kernel_rfl) (by kernel_rfl) rfl ?_; intro K hK)); refine wXo ?_) | (refine hK _ ?_; clear hK K) | (refine wCd ?_ ?_) | (with_reducible intro hb; exfalso; revert hb; simp []; done) | (with_reducible intro hb; exfalso; replace hb:=wHb hb; omega; done) | (with_reducible intro hb; replace hb:=wHb hb) | (refine wEx ?_) | (refine wRet ?_) | (refine inblock_norm ?_)))
  · exact ⟨_,deep_fm rfl rfl hpl hql,P',Q',by simp only [parE,← he]; rw [if_pos (by omega)],hok⟩
  · exact ⟨_,deep_fm rfl rfl hpl hql,P',Q',by simp only [parE,← he]; rw [if_neg (by omega),if_pos (by omega)],hok⟩
  · exact ⟨_,deep_fm rfl rfl hpl hql,P',Q',by simp only [parE,← he]; rw [if_neg (by omega),if_neg (by omega)],hok⟩
end Go.Aw

namespace Go.Aw
set_option linter.unusedSimpArgs false
set_option linter.unusedVariables false
open Go.RowKit Go.Proofs
set_option maxRecDepth 100000

def FmR (f:List Nd) (e:Int) (x:V) : Prop:=∃ a b Q,x=.tup [.agg [.d (.sl a),.d (.sl b),.d (.sl (List.map encH Q))],.d (.int .i64 e)]∧(e=0→a=f.map encNd∧∃ P,b=P.map encP2∧FmOk f P Q)
theorem FmR.none {H:List Blk} {f:List Nd} {e:Int} (he:e≠0) : ∃ y,DeepV H (.tup [.agg [.nil,.nil,.nil],.d (.int .i64 e)]) y∧FmR f e y :=
  ⟨.tup [.agg [.d (.sl []),.d (.sl []),.d (.sl [])],.d (.int .i64 e)],DeepV.tups (DeepV.cons (DeepV.aggs (DeepV.cons .nil (DeepV.cons .nil (DeepV.cons .nil DeepV.nils)))) (DeepV.cons (DeepV.dd _) DeepV.nils)),[],[],[],rfl,fun h=>absurd h he⟩
theorem deep_data {H:List Blk} {a b c:List (List D)} {e:D} : DeepV H (.tup [.agg [.d (.sl a),.d (.sl b),.d (.sl c)],.d e]) (.tup [.agg [.d (.sl a),.d (.sl b),.d (.sl c)],.d e]) :=
  DeepV.tups (DeepV.cons (DeepV.aggs (DeepV.cons (DeepV.dd _) (DeepV.cons (DeepV.dd _) (DeepV.cons (DeepV.dd _) DeepV.nils)))) (DeepV.cons (DeepV.dd _) DeepV.nils))
theorem p48 (f:List Nd) (w:Int) (hf:f.length≤1000000) : PC Tryz.prog 68 [.sl (f.map encNd),.int .i64 w] fun x H=>FmR f (shE f w) x∧H=[]:=by
  have hq:∀ row,row∈f.map encNd→row.length=6:=fun row hr=>by obtain ⟨_,_,rfl⟩:=List.mem_map.1 hr; rfl
  refine pcv_of (fn:=Tryz.f68) [.cell 4 99,.tmp 5] (by kernel_rfl) rfl (by kernel_rfl) (Nat.le_of_ble_eq_true rfl) (by kernel_rfl) rfl ?_
  refine awp_seq ?_
  refine wRg ?_
  refine awp_seq ?_
  refine awp_seq ?_
  refine wRg ?_
  refine wCd ?_ ?_
  · intro h1; replace h1:=wHb h1
    have h1':w<1∨12<w:=by
      rw [bif_or] at h1
      simp at h1
      omega
    refine awp_seq ?_
    refine wRg ?_
    refine wRet ?_
    rw [shE,if_pos h1']
    exact FmR.none (by decide)
  intro h1; replace h1:=wHb h1
  have h1':¬ (w<1∨12<w):=by
    rw [bif_or] at h1
    simp at h1
    omega
  rw [shE,if_neg h1']
  clear h1
  refine awp_skip ?_
  refine awp_seq ?_
  refine awp_seq ?_
  refine wRg ?_
  refine wCd ?_ ?_
  · intro h2; replace h2:=wHb h2
    refine awp_seq ?_
    refine wRg ?_
    refine wRet ?_
    rw [if_pos (by omega)]
    exact FmR.none (by decide)
  intro h2; replace h2:=wHb h2
  rw [if_neg (by omega)]
  refine awp_skip ?_
  refine awp_seq ?_
  refine awp_seq ?_
  refine wRg ?_
  refine awp_block ?_
  refine awp_loopP (α:=Nat) (st:=fun i=>⟨[(0,.d (.sl (f.map encNd))),(1,.d (.int .i64 w)),(4,.ptr 0 0 0),(20,.d (.sl (f.map encNd))),(21,.d (.int .i64 f.length)),(22,.d (.int .i64 i))],[.cells [.nil,.nil,.nil]]⟩)
    (inv:=fun i=>i≤f.length∧∀ n,n∈f.take i→nodeE n w=0) (μ:=fun i=>f.length - i) (x0:=0) (r0:=[0]) ⟨Nat.zero_le _,by simp⟩ ?_ ?_
  · exact wRen
  intro i hi
  obtain ⟨hi,hall⟩:=hi
  have hfe:=firstE_drop hall
  refine awp_seq ?_
  refine wRg ?_
  refine awp_seq ?_
  refine wCd ?_ ?_
  · intro h3; replace h3:=wHb h3
    have hlt:i<f.length:=by omega
    obtain ⟨n,hn⟩ : ∃ n,f[i]? = some n:=⟨_,List.getElem?_eq_getElem hlt⟩
    have h79:=p79 n w
    simp only [encNd] at h79
    rw [List.drop_eq_getElem_cons hlt,firstE,show f[i]=n from (List.getElem?_eq_some_iff.1 hn).2] at hfe
    refine awp_skip ?_
    refine awp_seq ?_
    refine awp_block ?_
    refine awp_seq ?_
    refine awpF_region ?_; intro K hK; simp only [push_cast,seval,hn,encNd,Int.toNat_natCast]; refine wKk hK ?_; clear hK K
    refine awp_seq ?_
    refine awpF_region ?_; intro K hK; simp only [push_cast,seval]
    refine wOb ?_
    refine CallK.pd (h79) ?_; refine wXo ?_
    refine hK _ ?_; clear hK K
    refine awp_seq ?_
    refine wRg ?_
    refine wCd ?_ ?_
    · intro h4
      have h4':¬ nodeE n w=0:=by simpa using h4
      rw [if_neg h4'] at hfe
      refine awp_seq ?_
      refine wRg ?_
      refine wRet ?_
      rw [hfe,if_pos h4']
      exact FmR.none h4'
    · intro h4
      have h4':nodeE n w=0:=by simpa using h4
      refine awp_skip ?_
      refine inblock_norm ?_
      refine wRg ?_
      refine round_endG (i+1) [0] ⟨by omega,⟨by omega,fun m hm => ?_⟩,?_⟩
      · rw [List.take_add_one,hn] at hm
        simp only [Option.toList_some,List.mem_append,List.mem_singleton] at hm
        rcases hm with hm | rfl
        · exact hall m hm
        · exact h4'
      · exact wRen
  intro h3; replace h3:=wHb h3
  obtain rfl:i=f.length:=by omega
  rw [List.drop_length,firstE] at hfe
  rw [hfe,if_neg (by simp)]
  have h80:=p80 f (by omega) fun n hn=>okN_of (firstE_all hfe n hn)
  refine wEx ?_
  refine awp_seq ?_
  refine awpF_region ?_; intro K hK; simp only [push_cast,seval]
  refine wOb ?_
  refine CallK.rel h80 ?_
  rintro _ _ ⟨⟨P,Q,rfl,hok⟩,rfl⟩
  simp only [fmV]
  simp only [push_cast,seval]
  refine hK _ ?_; clear hK K
  refine wRet ?_
  exact ⟨_,deep_data,_,_,Q,rfl,fun _=>⟨rfl,P,rfl,hok⟩⟩
theorem p45 (f:List Nd) (w:Int) (t:Fm) (hf:f.length≤1000000) (ht:shE f w=0→t.wf∧f=t.flat) : PC Tryz.prog 69 [.sl (f.map encNd),.int .i64 w] fun x H=>FmR f (chkE f w t) x∧H=[]:=by
  have h48:=p48 f w hf
  unfold chkE
  refine pcv_of (fn:=Tryz.f69) [.cell 4 99,.tmp 5] (by kernel_rfl) rfl (by kernel_rfl) (Nat.le_of_ble_eq_true rfl) (by kernel_rfl) rfl ?_
  refine awp_seq ?_
  refine wRg ?_
  refine awp_seq ?_
  refine awpF_region ?_; intro K hK; simp only [push_cast,seval]
  refine wOb ?_
  refine CallK.rel h48 ?_
  rintro _ _ ⟨⟨a,b,Q,rfl,hok⟩,rfl⟩
  simp only [push_cast,seval]
  refine wOb ?_
  refine hK _ ?_; clear hK K
  by_cases hs:shE f w=0
  · obtain ⟨t1,t2⟩:=ht hs
    obtain ⟨rfl,P,rfl,g1,g2,g3⟩:=hok hs
    have hz:=(g3 t t1 t2).top
    have hpos:=t.len_pos
    have hlq:0<Q.length:=by rw [g2,t2]; exact hpos
    have hqq:∀ row,row∈Q.map encH→row.length=1:=fun row hr=>by obtain ⟨_,_,rfl⟩:=List.mem_map.1 hr; rfl
    have hz':(Q.map encH)[0]? = some [.int .i64 t.hz]:=by rw [List.getElem?_map,hz]; rfl
    rw [hs]
    (repeat' (first | refine awp_seq ?_ | refine awp_skip ?_ | refine awp_block ?_ | ((first | (refine awpF_region ?_; intro K hK)); simp only [push_cast,seval,hz,hz',encH,Int.toNat_natCast,beq_self_eq_true,cond_true,cond_false]; refine wObW ?_) | (refine hK _ ?_; clear hK K) | (refine wCd ?_ ?_) | (with_reducible intro hb; exfalso; revert hb; simp [hz,hz',encH,Int.toNat_natCast,beq_self_eq_true,cond_true,cond_false]; done) | (with_reducible intro hb; exfalso; replace hb:=wHb hb; omega; done) | (with_reducible intro hb; replace hb:=wHb hb) | (refine wEx ?_) | (refine wRp ?_; refine fin_of (by simp only [push_cast,seval,hz,hz',encH,Int.toNat_natCast,beq_self_eq_true,cond_true,cond_false]; first | done | rfl) ob1 ?_) | (refine inblock_norm ?_)))
    · rw [if_pos ⟨rfl,hb⟩]
      exact ⟨_,deep_data,_,_,Q,rfl,fun h=>by cases h⟩
    · rw [if_neg (fun h=>hb h.2)]
      exact ⟨_,deep_data,_,_,Q,rfl,fun _=>⟨rfl,P,rfl,g1,g2,g3⟩⟩
  · have hb0:(shE f w==0)=false:=by simpa using hs
    rw [if_neg (fun h=>hs h.1)]
    generalize shE f w=e at *
    rcases Q with _ | ⟨q,Q⟩
    · (repeat' (first | refine awp_seq ?_ | refine awp_skip ?_ | refine awp_block ?_ | ((first | (refine awpF_region ?_; intro K hK)); simp only [push_cast,seval,hb0,cond_true,cond_false,List.map_nil,List.getElem?_nil,Option.getD_none,List.getD_nil]; refine wObW ?_) | (refine hK _ ?_; clear hK K) | (refine wCd ?_ ?_) | (with_reducible intro hb; exfalso; revert hb; simp [hb0,cond_true,cond_false,List.map_nil,List.getElem?_nil,Option.getD_none,List.getD_nil]; done) | (with_reducible intro hb; exfalso; replace hb:=wHb hb; omega; done) | (with_reducible intro hb; replace hb:=wHb hb) | (refine wEx ?_) | (refine wRp ?_; refine fin_of (by simp only [push_cast,seval,hb0,cond_true,cond_false,List.map_nil,List.getElem?_nil,Option.getD_none,List.getD_nil]; first | done | rfl) ob1 ?_) | (refine inblock_norm ?_)))
      exact ⟨_,deep_data,_,_,[],rfl,fun h=>absurd h hs⟩
    · (repeat' (first | refine awp_seq ?_ | refine awp_skip ?_ | refine awp_block ?_ | ((first | (refine awpF_region ?_; intro K hK)); simp only [push_cast,seval,hb0,cond_true,cond_false,List.map_cons,encH]; refine wObW ?_) | (refine hK _ ?_; clear hK K) | (refine wCd ?_ ?_) | (with_reducible intro hb; exfalso; revert hb; simp [hb0,cond_true,cond_false,List.map_cons,encH]; done) | (with_reducible intro hb; exfalso; replace hb:=wHb hb; omega; done) | (with_reducible intro hb; replace hb:=wHb hb) | (refine wEx ?_) | (refine wRp ?_; refine fin_of (by simp only [push_cast,seval,hb0,cond_true,cond_false,List.map_cons,encH]; first | done | rfl) ob1 ?_) | (refine inblock_norm ?_)))
      exact ⟨_,deep_data (c:=(q::Q).map encH),_,_,q::Q,rfl,fun h=>absurd h hs⟩
theorem p16 (f:List Nd) (w:Int) (t:Fm) (hf:f.length≤1000000) (ht:shE f w=0→t.wf∧f=t.flat) : PD Tryz.prog 36 [.sl (f.map encNd),.int .i64 w] (.d (.int .i64 (chkE f w t))):=by
  have h45:=p45 f w t hf ht
  generalize chkE f w t=e at *
  refine pd_of (fn:=Tryz.f36) [.tmp 4] (by kernel_rfl) rfl (by kernel_rfl) (Nat.le_of_ble_eq_true rfl) (by kernel_rfl) rfl rfl ?_
  refine awp_seq ?_
  refine wRg ?_
  refine awp_seq ?_
  refine awpF_region ?_; intro K hK; simp only [push_cast,seval]
  refine wOb ?_
  refine CallK.rel h45 ?_
  rintro _ _ ⟨⟨a,b,Q,rfl,hok⟩,rfl⟩
  simp only [push_cast,seval]
  refine wOb ?_
  refine hK _ ?_; clear hK K
  (repeat' (first | refine awp_seq ?_ | refine awp_skip ?_ | refine awp_block ?_ | ((first | (refine awpF_region ?_; intro K hK)); refine wXo ?_) | (refine hK _ ?_; clear hK K) | (refine wCd ?_ ?_) | (with_reducible intro hb; exfalso; revert hb; simp []; done) | (with_reducible intro hb; exfalso; replace hb:=wHb hb; omega; done) | (with_reducible intro hb; replace hb:=wHb hb) | (refine wEx ?_) | (refine wRet ?_) | (refine inblock_norm ?_)))
  rfl
theorem p18 (f:List Nd) (t:Fm) (hf:f.length≤1000000) (ht:shE f 12=0→t.wf∧f=t.flat) : PD Tryz.prog 32 [.sl (f.map encNd)] (.d (.int .i64 (hzE f t))):=by
  have h48:=p48 f 12 hf
  unfold hzE
  refine pd_of (fn:=Tryz.f32) [.tmp 2] (by kernel_rfl) rfl (by kernel_rfl) (Nat.le_of_ble_eq_true rfl) (by kernel_rfl) rfl rfl ?_
  refine awp_seq ?_
  refine wRg ?_
  refine awp_seq ?_
  refine awpF_region ?_; intro K hK; simp only [push_cast,seval]
  refine wOb ?_
  refine CallK.rel h48 ?_
  rintro _ _ ⟨⟨a,b,Q,rfl,hok⟩,rfl⟩
  simp only [push_cast,seval]
  refine wOb ?_
  refine hK _ ?_; clear hK K
  by_cases hs:shE f 12=0
  · obtain ⟨t1,t2⟩:=ht hs
    obtain ⟨rfl,P,rfl,g1,g2,g3⟩:=hok hs
    have hz:=(g3 t t1 t2).top
    have hpos:=t.len_pos
    have hlq:0<Q.length:=by rw [g2,t2]; exact hpos
    have hqq:∀ row,row∈Q.map encH→row.length=1:=fun row hr=>by obtain ⟨_,_,rfl⟩:=List.mem_map.1 hr; rfl
    have hz':(Q.map encH)[0]? = some [.int .i64 t.hz]:=by rw [List.getElem?_map,hz]; rfl
    rw [hs,if_pos rfl]
    (repeat' (first | refine awp_seq ?_ | refine awp_skip ?_ | refine awp_block ?_ | ((first | (refine awpF_region ?_; intro K hK)); simp only [push_cast,seval,hz,hz',encH,Int.toNat_natCast,bne_self_eq_false,cond_true,cond_false]; refine wObW ?_) | (refine hK _ ?_; clear hK K) | (refine wCd ?_ ?_) | (with_reducible intro hb; exfalso; revert hb; simp [hz,hz',encH,Int.toNat_natCast,bne_self_eq_false,cond_true,cond_false]; done) | (with_reducible intro hb; exfalso; replace hb:=wHb hb; omega; done) | (with_reducible intro hb; replace hb:=wHb hb) | (refine wEx ?_) | (refine wRp ?_; refine fin_of (by simp only [push_cast,seval,hz,hz',encH,Int.toNat_natCast,bne_self_eq_false,cond_true,cond_false]; first | done | rfl) ob1 ?_) | (refine inblock_norm ?_)))
    rfl
  · have hb0:(shE f 12 != 0)=true:=by simpa using hs
    rw [if_neg hs]
    generalize shE f 12=e at *
    (repeat' (first | refine awp_seq ?_ | refine awp_skip ?_ | refine awp_block ?_ | ((first | (refine awpF_region ?_; intro K hK)); simp only [push_cast,seval,hb0,cond_true,cond_false]; refine wObW ?_) | (refine hK _ ?_; clear hK K) | (refine wCd ?_ ?_) | (with_reducible intro hb; exfalso; revert hb; simp [hb0,cond_true,cond_false]; done) | (with_reducible intro hb; exfalso; replace hb:=wHb hb; omega; done) | (with_reducible intro hb; replace hb:=wHb hb) | (refine wEx ?_) | (refine wRp ?_; refine fin_of (by simp only [push_cast,seval,hb0,cond_true,cond_false]; first | done | rfl) ob1 ?_) | (refine inblock_norm ?_)))
    rfl
end Go.Aw
