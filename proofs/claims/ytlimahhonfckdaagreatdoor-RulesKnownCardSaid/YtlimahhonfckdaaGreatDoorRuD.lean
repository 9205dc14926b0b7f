/-
  Texts of the library,one behind the other. Over any program; no condition.
-/
import Derived.DeepKeys4
import Derived.Test.YtlimahhonfckdaaGreatDoorPkT
import Derived.Test.YtlimahhonfckdaaGreatDoorPkD
import Derived.Test.YtlimahhonfckdaaGreatDoorRuB
import Derived.Test.YtlimahhonfckdaaGreatDoorRuC
import Derived.Test.YtlimahhonfckdaaGreatDoorRuA
namespace Go.Aw
set_option linter.unusedSimpArgs false
set_option linter.unusedVariables false
open Go.RowKit Go.Proofs
set_option maxRecDepth 100000

def idxI (l:List Int) (v:Int) : Int:=match l.findIdx? (fun x=>decide (v=x)) with
  | some i=>i
  | none => -1
theorem p151 (l:List Int) (v:Int) (hl:l.length≤1000000000) : PD Tryz.prog 150 [.sl (l.map encI),.int .i64 v] (.d (.int .i64 (idxI l v))):=by
  have hq:∀ row,row∈l.map encI→row.length=1:=fun row hr=>by obtain ⟨_,_,rfl⟩:=List.mem_map.1 hr; rfl
  refine pd_of (fn:=Tryz.f150) [.tmp 4] (by kernel_rfl) rfl (by kernel_rfl) (Nat.le_of_ble_eq_true rfl) (by kernel_rfl) rfl rfl ?_
  refine awp_seq ?_
  refine wRg ?_
  refine awp_seq ?_
  refine awp_seq ?_
  refine wRg ?_
  refine awp_block ?_
  refine awp_loopP (α:=Nat) (st:=fun x=>⟨[(0,.d (.sl (l.map encI))),(1,.d (.int .i64 v)),(7,.d (.int .i64 l.length)),(8,.d (.int .i64 x))],[]⟩) (inv:=fun x=>x≤l.length∧∀ j:Nat,j<x→∀ y:Int,l[j]? = some y→v≠y) (μ:=fun x=>l.length - x) (x0:=0) (r0:=[]) ⟨Nat.zero_le _,by omega⟩ ?_ ?_
  · exact wRen
  rintro k ⟨hk,hall⟩
  refine awp_seq ?_
  refine wRg ?_
  refine awp_seq ?_
  refine wCd ?_ ?_
  · intro h1; replace h1:=wHb h1
    have hlt:k<l.length:=by omega
    obtain ⟨x,hx⟩ : ∃ x,l[k]? = some x:=⟨_,List.getElem?_eq_getElem hlt⟩
    refine awp_skip ?_
    refine awp_seq ?_
    refine awp_block ?_
    refine awp_seq ?_
    refine wRg ?_
    refine awp_seq ?_
    refine awpF_region ?_; intro K hK; simp only [push_cast,seval,hx,encI,Int.toNat_natCast]; refine wKk hK ?_; clear hK K
    refine wCd ?_ ?_
    · intro h2
      have h2':v=x:=by simpa using h2
      refine awp_seq ?_
      refine wRg ?_
      refine wRet ?_
      have:l.findIdx? (fun x=>decide (v=x))=some k:=by
        rw [List.findIdx?_eq_some_iff_getElem]
        refine ⟨hlt,by simp; rw [h2']; exact ((List.getElem?_eq_some_iff.1 hx).2).symm,fun j hj => ?_⟩
        have:=hall j hj _ (List.getElem?_eq_getElem (by omega))
        simpa using this
      rw [idxI,this]
    · intro h2
      have h2':v≠x:=by simpa using h2
      refine awp_skip ?_
      refine inblock_norm ?_
      refine wRg ?_
      refine round_endG (k+1) [] ⟨by omega,⟨by omega,fun j hj y hy => ?_⟩,?_⟩
      · rcases Nat.lt_or_ge j k with h | h
        · exact hall j h y hy
        · obtain rfl:j=k:=by omega
          rw [hx] at hy
          cases hy
          exact h2'
      · exact wRen
  · intro h1; replace h1:=wHb h1
    obtain rfl:k=l.length:=by omega
    refine wEx ?_
    refine awp_seq ?_
    refine wRg ?_
    refine wRet ?_
    have:l.findIdx? (fun x=>decide (v=x))=none:=by
      rw [List.findIdx?_eq_none_iff]
      intro x hx
      obtain ⟨j,hj⟩:=List.getElem?_of_mem hx
      have:=hall j (List.getElem?_eq_some_iff.1 hj).1 x hj
      simpa using this
    rw [idxI,this]
def wst (ord:List Int) (w v:Int) : Int:=if idxI ord v<idxI ord w then v else w
def ordD (ord:List Int) : D:=.cp (ord.map (D.int .i64)) 0
theorem p150 (ord:List Int) (ho:ord.length=3) (H:List Blk) (k:Nat) (v w:Int) (hk:H[k]? = some (.cells [.d (.int .i64 w)])) (hbl:belHeap H.length H=true) :
    AC Tryz.prog 149 [.d (.int .i64 v),.d (ordD ord),.ptr k 0 0] H (List.range H.length) fun x H'=>x=.d (.int .i64 (wst ord w v))∧H'=H.set k (.cells [.d (.int .i64 (wst ord w v))]):=by
  have h1:=p151 ord v (by omega)
  have h2:=p151 ord w (by omega)
  rw [show ord.map encI=List.map (fun c=>[c]) (ord.map (D.int .i64)) by simp [encI]] at h1 h2
  have hlen:(ord.map (D.int .i64)).length=3:=by simpa using ho
  have hset:H.set k (.cells [.d (.int .i64 w)])=H:=by
    obtain ⟨hlt,he⟩:=List.getElem?_eq_some_iff.1 hk
    rw [← he,List.set_getElem_self]
  have hklt:k<H.length:=(List.getElem?_eq_some_iff.1 hk).1
  unfold ordD wst
  generalize ord.map (D.int .i64)=oc at *
  generalize idxI ord v=a at *
  generalize idxI ord w=b at *
  refine ac_ofF (fn:=Tryz.f149) [.tmp 4] (by kernel_rfl) rfl (by kernel_rfl) (Nat.le_of_ble_eq_true rfl) (by kernel_rfl) rfl ?_
  refine awp_seq ?_
  refine wRg ?_
  refine awp_seq ?_
  refine awp_seq ?_
  refine awpF_drawP [0,1,3,4] [2,5] (DT.op 6 DT.nil) (by kernel_rfl) (by kernel_rfl) (by kernel_rfl) ?_; intro K hK; simp only [push_cast,seval,hk]; (repeat ((with_reducible refine And.intro ?_ ?_); (focus (exact ob1)))); refine ParK.pd (h1) (by first | rfl | simp [V.bel,V.belL]) ?_; simp only [push_cast,seval,hk]; (try simp (disch:=omega) only [wrapI]); (repeat ((with_reducible refine And.intro ?_ ?_); (focus (exact ob1)))); refine ParK.pd (h2) (by first | rfl | simp [V.bel,V.belL]) ?_; simp only [push_cast,seval,hk]; (try simp (disch:=omega) only [wrapI]); (repeat ((with_reducible refine And.intro ?_ ?_); (focus (exact ob1)))); refine hK _ ?_; clear hK K
  have hget:∀ b,(H.set k b)[k]? = some b:=fun b=>List.getElem?_set_self hklt
  refine wCd ?_ ?_
  · intro h3; replace h3:=wHb h3
    rw [if_pos h3]
    refine awpF_region ?_; intro K hK; simp only [push_cast,seval,hk]; refine wKk hK ?_; clear hK K
    refine awp_seq ?_
    refine awpF_region ?_; intro K hK; simp only [push_cast,seval,hget]; refine wKk hK ?_; clear hK K
    refine wRet ?_
    exact ⟨rfl,rfl⟩
  · intro h3; replace h3:=wHb h3
    rw [if_neg h3]
    refine awp_skip ?_
    refine awp_seq ?_
    refine awpF_region ?_; intro K hK; simp only [push_cast,seval,hk]; refine wKk hK ?_; clear hK K
    refine wRet ?_
    exact ⟨rfl,hset.symm⟩
theorem p140 (a b c:Int) : PC Tryz.prog 134 [.agg [.int .i64 a,.int .i64 b,.int .i64 c]] fun x H=>x=.fn (.func 149) [.d (ordD [a,b,c]),.ptr 1 0 0]∧H=[.gone,.cells [.d (.int .i64 c)]]:=by
  refine pc_of (fn:=Tryz.f134) [.tmp 2] (by kernel_rfl) rfl (by kernel_rfl) (Nat.le_of_ble_eq_true rfl) (by kernel_rfl) rfl ?_
  refine awp_seq ?_
  refine wRg ?_
  refine awp_seq ?_
  refine wRg ?_
  refine awp_seq ?_
  refine wRg ?_
  refine awp_fz (.ptr 0 0 0) ?_
  simp only [push_cast,seval,St.fz,St.frz]
  refine wRet ?_
  exact ⟨rfl,rfl⟩
def allO:List Int:=[0,2,1]
def anyO:List Int:=[1,2,0]
theorem wst_all {w v:Nat} (hw:w≤2) (hv:v≤2) : wst allO w v=bothV w v:=by
  rcases vd_cases hw with rfl | rfl | rfl <;> rcases vd_cases hv with rfl | rfl | rfl <;> decide
theorem wst_any {w v:Nat} (hw:w≤2) (hv:v≤2) : wst anyO w v=eithV w v:=by
  rcases vd_cases hw with rfl | rfl | rfl <;> rcases vd_cases hv with rfl | rfl | rfl <;> decide
theorem p120:PC Tryz.prog 126 [] fun x H=>x=.fn (.func 149) [.d (ordD allO),.ptr 1 0 0]∧H=[.gone,.cells [.d (.int .i64 1)]]:=by
  have h:=p140 0 2 1
  rw [show [(0:Int),2,1]=allO from rfl] at h
  generalize ordD allO=oc at *
  refine pc_of (fn:=Tryz.f126) [.tmp 0] (by kernel_rfl) rfl (by kernel_rfl) (Nat.le_of_ble_eq_true rfl) (by kernel_rfl) rfl ?_
  refine awp_seq ?_
  refine wRg ?_
  refine awp_seq ?_
  refine awpF_region ?_; intro K hK; simp only [push_cast,seval]
  refine CallK.rel h ?_
  rintro _ _ ⟨rfl,rfl⟩
  simp only [push_cast,seval]
  refine hK _ ?_; clear hK K
  refine wRet ?_
  exact ⟨rfl,rfl⟩
theorem p121:PC Tryz.prog 127 [] fun x H=>x=.fn (.func 149) [.d (ordD anyO),.ptr 1 0 0]∧H=[.gone,.cells [.d (.int .i64 0)]]:=by
  have h:=p140 1 2 0
  rw [show [(1:Int),2,0]=anyO from rfl] at h
  generalize ordD anyO=oc at *
  refine pc_of (fn:=Tryz.f127) [.tmp 0] (by kernel_rfl) rfl (by kernel_rfl) (Nat.le_of_ble_eq_true rfl) (by kernel_rfl) rfl ?_
  refine awp_seq ?_
  refine wRg ?_
  refine awp_seq ?_
  refine awpF_region ?_; intro K hK; simp only [push_cast,seval]
  refine CallK.rel h ?_
  rintro _ _ ⟨rfl,rfl⟩
  simp only [push_cast,seval]
  refine hK _ ?_; clear hK K
  refine wRet ?_
  exact ⟨rfl,rfl⟩
end Go.Aw

namespace Go.Aw
set_option linter.unusedSimpArgs false
set_option linter.unusedVariables false
open Go.RowKit Go.Proofs
set_option maxRecDepth 100000

def jdV (f:List Nd) (P:List (Nat × Nat)) (Q:List Int) (T:List (List Int)) : V:=.agg [.d (.sl (f.map encNd)),.d (.sl (P.map encP2)),.d (.sl (Q.map encH)),.d (.sl (T.map encR)),.map 0]
theorem p119 (f:List Nd) (P:List (Nat × Nat)) (Q:List Int) (n:Nd) (t:List (List Int)) (i:Nat) (es:List (V × V)) (h:colsOk n t) (hes:belHeap 1 [.mp es]=true) :
    AC Tryz.prog 125 [jdV f P Q t,.agg ((encNd n).map .d),.d (.int .i64 i)] [.mp es] [0] fun x H'=>x=.d (.int .i64 (lessV n t i))∧H'=[.mp es]:=by
  refine AC.shrink (R:=fun x H'=>x=.d (.int .i64 (lessV n t i))∧∃ X,H'=.mp es::X) 1 ?_ (by simp) ?_
  · have hq:∀ row,row∈t.map encR→row.length=1:=fun row hr=>by obtain ⟨_,_,rfl⟩:=List.mem_map.1 hr; rfl
    obtain ⟨op,l,r,k,lo,hi⟩:=n
    obtain ⟨h1,h2,h3⟩:=h
    dsimp only at h1 h2 h3
    unfold lessV jdV
    simp only [encNd]
    rcases Nat.lt_or_ge i t.length with hlt | hge
    · obtain ⟨row,hr⟩ : ∃ p,t[i]? = some p:=⟨_,List.getElem?_eq_getElem hlt⟩
      obtain ⟨h4,h5,h6⟩:=h3 row (List.mem_of_getElem? hr)
      have hqr:∀ x,x∈row.map encI→x.length=1:=fun row hr=>by obtain ⟨_,_,rfl⟩:=List.mem_map.1 hr; rfl
      obtain ⟨lN,rfl⟩ : ∃ lN:Nat,l=lN:=⟨l.toNat,by omega⟩
      obtain ⟨x,hx⟩ : ∃ p,row[lN]? = some p:=⟨_,List.getElem?_eq_getElem (by omega)⟩
      have hxi:=h6 x (List.mem_of_getElem? hx)
      simp only [inV,decide_eq_true_eq] at hxi
      have hd:decide ((i:Int) ≥ t.length)=false:=decide_eq_false (by omega)
      rw [hr]
      simp only [List.getD_eq_getElem?_getD,Int.toNat_natCast,hx,Option.getD_some]
      by_cases hr0:0≤r
      · obtain ⟨rN,rfl⟩ : ∃ rN:Nat,r=rN:=⟨r.toNat,by omega⟩
        obtain ⟨y,hy⟩ : ∃ p,row[rN]? = some p:=⟨_,List.getElem?_eq_getElem (by omega)⟩
        have hyi:=h6 y (List.mem_of_getElem? hy)
        simp only [inV,decide_eq_true_eq] at hyi
        have hd2:decide ((rN:Int) ≥ 0)=true:=decide_eq_true (by omega)
        rw [if_pos hr0]
        simp only [Int.toNat_natCast,hy,Option.getD_some]
        refine ac_ofF (fn:=Tryz.f125) [.tmp 6] (by kernel_rfl) rfl (by kernel_rfl) (Nat.le_of_ble_eq_true rfl) (by kernel_rfl) rfl ?_
        (repeat' (first | refine awp_seq ?_ | refine awp_skip ?_ | refine awp_block ?_ | ((first | (refine awpF_region ?_; intro K hK) | (refine awpF_draw (id:=3) [0,1,2,3,4,5,6,7,8,9] (by kernel_rfl) (by kernel_rfl) rfl ?_; intro K hK) | (refine awpF_draw (id:=5) [0,1,2,3,4,5,6,7,8,9,10,11] (by kernel_rfl) (by kernel_rfl) rfl ?_; intro K hK)); simp only [push_cast,seval,hd,hr,hx,hy,hd2,encR,encI,Int.toNat_natCast,Option.map_some,Option.getD_some]; refine wObW ?_) | (refine hK _ ?_; clear hK K) | (refine wCd ?_ ?_) | (with_reducible intro hb; exfalso; revert hb; simp [hd,hr,hx,hy,hd2,encR,encI,Int.toNat_natCast,Option.map_some,Option.getD_some]; done) | (with_reducible intro hb; exfalso; replace hb:=wHb hb; omega; done) | (with_reducible intro hb; replace hb:=wHb hb) | (refine wEx ?_) | (refine wRp ?_; refine fin_of (by simp only [push_cast,seval,hd,hr,hx,hy,hd2,encR,encI,Int.toNat_natCast,Option.map_some,Option.getD_some]; first | done | rfl) ob1 ?_) | (refine inblock_norm ?_)))
        · rw [if_pos hb]
          exact ⟨rfl,_,rfl⟩
        · rw [if_neg hb]
          exact ⟨rfl,_,rfl⟩
      · rw [if_neg hr0]
        have hd2:decide (r ≥ 0)=false:=decide_eq_false (by omega)
        refine ac_ofF (fn:=Tryz.f125) [.tmp 6] (by kernel_rfl) rfl (by kernel_rfl) (Nat.le_of_ble_eq_true rfl) (by kernel_rfl) rfl ?_
        (repeat' (first | refine awp_seq ?_ | refine awp_skip ?_ | refine awp_block ?_ | ((first | (refine awpF_region ?_; intro K hK) | (refine awpF_draw (id:=3) [0,1,2,3,4,5,6,7,8,9] (by kernel_rfl) (by kernel_rfl) rfl ?_; intro K hK) | (refine awpF_draw (id:=5) [0,1,2,3,4,5,6,7,8,9,10,11] (by kernel_rfl) (by kernel_rfl) rfl ?_; intro K hK)); simp only [push_cast,seval,hd,hr,hx,hd2,encR,encI,Int.toNat_natCast,Option.map_some,Option.getD_some]; refine wObW ?_) | (refine hK _ ?_; clear hK K) | (refine wCd ?_ ?_) | (with_reducible intro hb; exfalso; revert hb; simp [hd,hr,hx,hd2,encR,encI,Int.toNat_natCast,Option.map_some,Option.getD_some]; done) | (with_reducible intro hb; exfalso; replace hb:=wHb hb; omega; done) | (with_reducible intro hb; replace hb:=wHb hb) | (refine wEx ?_) | (refine wRp ?_; refine fin_of (by simp only [push_cast,seval,hd,hr,hx,hd2,encR,encI,Int.toNat_natCast,Option.map_some,Option.getD_some]; first | done | rfl) ob1 ?_) | (refine inblock_norm ?_)))
        · rw [if_pos hb]
          exact ⟨rfl,_,rfl⟩
        · rw [if_neg hb]
          exact ⟨rfl,_,rfl⟩
    · have hd:decide ((i:Int) ≥ t.length)=true:=decide_eq_true (by omega)
      rw [List.getElem?_eq_none hge]
      refine ac_ofF (fn:=Tryz.f125) [.tmp 6] (by kernel_rfl) rfl (by kernel_rfl) (Nat.le_of_ble_eq_true rfl) (by kernel_rfl) rfl ?_
      (repeat' (first | refine awp_seq ?_ | refine awp_skip ?_ | refine awp_block ?_ | ((first | (refine awpF_region ?_; intro K hK) | (refine awpF_draw (id:=3) [0,1,2,3,4,5,6,7,8,9] (by kernel_rfl) (by kernel_rfl) rfl ?_; intro K hK) | (refine awpF_draw (id:=5) [0,1,2,3,4,5,6,7,8,9,10,11] (by kernel_rfl) (by kernel_rfl) rfl ?_; intro K hK)); simp only [push_cast,seval,hd]; refine wObW ?_) | (refine hK _ ?_; clear hK K) | (refine wCd ?_ ?_) | (with_reducible intro hb; exfalso; revert hb; simp [hd]; done) | (with_reducible intro hb; exfalso; replace hb:=wHb hb; omega; done) | (with_reducible intro hb; replace hb:=wHb hb) | (refine wEx ?_) | (refine wRp ?_; refine fin_of (by simp only [push_cast,seval,hd]; first | done | rfl) ob1 ?_) | (refine inblock_norm ?_)))
      exact ⟨rfl,_,rfl⟩
  · rintro x _ ⟨rfl,X,rfl⟩
    exact ⟨[.mp es],X,rfl,rfl,rfl,hes,rfl,rfl⟩
end Go.Aw

namespace Go.Aw
set_option linter.unusedSimpArgs false
set_option linter.unusedVariables false
open Go.RowKit Go.Proofs
set_option maxRecDepth 100000

theorem laidP:laidOutB Tryz.prog=true:=by kernel_rfl
theorem law152:WideMaps.KeyLaw Tryz.prog 148:=deep_law_laid laidP (m:=2) (by omega) (of_decide_eq_true (by kernel_rfl)) (by kernel_rfl) (by rw [Tryz.underlying148])
theorem key152:Maps.Keyed Tryz.prog 148:=Maps.Keyed.of_law law152
theorem int3:Tryz.prog.underlying 3=some (.int .i64):=by kernel_rfl
theorem cells3:Tryz.prog.cellsOf 3=1:=by kernel_rfl
theorem cells152:Tryz.prog.cellsOf 148=2:=by kernel_rfl
def keyV (p i:Nat) : V:=.agg [.d (.int .i64 p),.d (.int .i64 i)]
theorem kc_key (p i:Nat) : kcells (keyV p i)=some (true,[(.i64,(p:Int)),(.i64,(i:Int))]):=rfl
theorem kwf152 {p i:Nat} (hp:p≤1000000000) (hi:i≤1000000000) : kwf Tryz.prog 148 (keyV p i):=by
  have hk:Tryz.prog.keyType 148=true:=by kernel_rfl
  have hs:∃ n,Tryz.prog.types.size+1=n+2:=⟨Tryz.prog.types.size - 1,by
    have:Tryz.prog.types.size=Tryz.prog.types.size - 1+1:=by kernel_rfl
    omega⟩
  obtain ⟨n,hn⟩:=hs
  have w1:(Lit.int .i64 (p:Int)).wf=true:=by simp only [Lit.wf,IntKind.min,IntKind.max,IntKind.bits,IntKind.signed]; simp; omega
  have w2:(Lit.int .i64 (i:Int)).wf=true:=by simp only [Lit.wf,IntKind.min,IntKind.max,IntKind.bits,IntKind.signed]; simp; omega
  have hu:=Tryz.underlying148
  have e:keyOf Tryz.prog 148 (.agg #[.int .i64 (p:Int),.int .i64 (i:Int)])=some (.string (keyBytes [.int .i64 (p:Int),.int .i64 (i:Int)])):=by
    simp only [keyOf,hu,hk,hn,Value.formed,cells152,Value.cells]
    simp only [Program.keyLits,hu,cells152,cells3,int3,w1,w2]
    simp [Program.keyLits,cells3,int3,w1,w2,List.range_succ]
  exact ⟨_,_,kc_key p i,e⟩
def At (f:List Nd) (p:Nat) (t:Fm) : Prop:=t.wf∧f.drop p=t.flat++f.drop (p+t.flat.length)
theorem At.uniq {f:List Nd} {p:Nat} {t t':Fm} (h:At f p t) (h':At f p t') : t=t':=(flat_inj t t' _ _ h.1 h'.1 (h.2.symm.trans h'.2)).1
theorem At.len {f:List Nd} {p:Nat} {t:Fm} (h:At f p t) : p+t.flat.length≤f.length:=by
  have:=congrArg List.length h.2
  rw [List.length_append,List.length_drop,List.length_drop] at this
  have:=t.len_pos
  omega
theorem At.node {f:List Nd} {p:Nat} {t:Fm} (h:At f p t) : f[p]? = some t.nd:=by
  have e:(f.drop p)[0]? = some t.nd:=by rw [h.2]; cases t <;> rfl
  rwa [List.getElem?_drop,Nat.add_zero] at e
theorem At.u {f:List Nd} {p:Nat} {n:Nd} {a:Fm} (h:At f p (.u n a)) : At f (p+1) a:=by
  refine ⟨h.1.2,?_⟩
  have e:=congrArg (List.drop 1) h.2
  rw [List.drop_drop] at e
  simp only [Fm.flat,List.cons_append,List.drop_succ_cons,List.drop_zero,List.length_cons] at e
  rw [e]
  congr 2
  omega
theorem At.b {f:List Nd} {p:Nat} {n:Nd} {a b:Fm} (h:At f p (.b n a b)) : At f (p+1) a∧At f (p+1+a.flat.length) b:=by
  have e:=congrArg (List.drop 1) h.2
  rw [List.drop_drop] at e
  simp only [Fm.flat,List.cons_append,List.drop_succ_cons,List.drop_zero,List.length_cons,List.length_append,List.append_assoc] at e
  have e2:=congrArg (List.drop a.flat.length) e
  rw [List.drop_drop,List.drop_left] at e2
  have e3:p+(a.flat.length+b.flat.length+1)=p+1+a.flat.length+b.flat.length:=by omega
  rw [e3] at e e2
  exact ⟨⟨h.1.2.1,by rw [e,e2]⟩,h.1.2.2,e2⟩
structure EOK (f:List Nd) (T:List (List Int)) (es:List (V × V)) : Prop where
  all:∀ e,e∈es→∃ p i t,p≤1000000000∧i≤1000000000∧e=(keyV p i,.d (.int .i64 (vd t T i)))∧At f p t
  nd:es.Pairwise fun p q=>kcells p.1≠kcells q.1
theorem EOK.nil (f:List Nd) (T:List (List Int)) : EOK f T []:=⟨by simp,.nil⟩
theorem EOK.mk152 {f:List Nd} {T:List (List Int)} {es:List (V × V)} (h:EOK f T es) : MK Tryz.prog 148 es :=
  ⟨key152,fun e he=>by obtain ⟨p,i,t,h1,h2,rfl,_⟩:=h.all e he; exact kwf152 h1 h2,h.nd⟩
theorem EOK.bel {f:List Nd} {T:List (List Int)} {es:List (V × V)} (h:EOK f T es) (n:Nat) : belHeap n [.mp es]=true:=by
  simp only [belHeap,Blk.bel,Bool.and_true,List.all_eq_true,Bool.and_eq_true]
  intro e he
  obtain ⟨p,i,t,_,_,rfl,_⟩:=h.all e he
  exact ⟨rfl,rfl⟩
theorem kc_inj {p i p' i':Nat} (h:kcells (keyV p i)=kcells (keyV p' i')) : p=p'∧i=i':=by
  rw [kc_key,kc_key] at h
  simp at h
  omega
theorem EOK.hit {f:List Nd} {T:List (List Int)} {es:List (V × V)} (h:EOK f T es) {p i j:Nat} {t:Fm} (ht:At f p t) (hj:mfind es (keyV p i)=some j) : es[j]? = some (keyV p i,.d (.int .i64 (vd t T i))):=by
  unfold mfind at hj
  rw [List.findIdx?_eq_some_iff_getElem] at hj
  obtain ⟨hlt,he,_⟩:=hj
  obtain ⟨p',i',t',_,_,e,ha⟩:=h.all es[j] (List.getElem_mem hlt)
  rw [e] at he
  obtain ⟨rfl,rfl⟩:=kc_inj (by simpa using he)
  rw [ht.uniq ha,List.getElem?_eq_getElem hlt,e]
theorem EOK.put {f:List Nd} {T:List (List Int)} {es:List (V × V)} (h:EOK f T es) {p i:Nat} {t:Fm} (ht:At f p t) (hp:p≤1000000000) (hi:i≤1000000000) : EOK f T (mput es (keyV p i) (.d (.int .i64 (vd t T i)))):=by
  unfold mput
  cases hj:mfind es (keyV p i) with
  | some j =>
    have he:=h.hit ht hj
    have:es.modify j (fun q=>(q.1,V.d (.int .i64 (vd t T i))))=es:=by
      apply List.ext_getElem?
      intro k
      rw [List.getElem?_modify]
      by_cases hk:j=k
      · subst hk
        rw [he]
        simp
      · cases es[k]? <;> simp [hk]
    simp only
    rw [this]
    exact h
  | none =>
    unfold mfind at hj
    rw [List.findIdx?_eq_none_iff] at hj
    refine ⟨fun e he => ?_,?_⟩
    · rcases List.mem_append.1 he with he | he
      · exact h.all e he
      · rw [List.mem_singleton] at he
        exact ⟨p,i,t,hp,hi,he,ht⟩
    · rw [List.pairwise_append]
      refine ⟨h.nd,List.pairwise_singleton _ _,fun a ha b hb => ?_⟩
      rw [List.mem_singleton] at hb
      subst hb
      have:=hj a ha
      simpa using this
end Go.Aw

namespace Go.Aw
set_option linter.unusedSimpArgs false
set_option linter.unusedVariables false
open Go.RowKit Go.Proofs
set_option maxRecDepth 100000

def JudC (g:Nat) (f:List Nd) (P:List (Nat × Nat)) (Q:List Int) (T:List (List Int)) (t:Fm) (p:Nat) : Prop :=
  ∀ (i:Nat) (es:List (V × V)),i+20*t.flat.length≤1000000→EOK f T es→AC Tryz.prog g [jdV f P Q T,.d (.int .i64 p),.d (.int .i64 i)] [.mp es] [0] fun x H'=>x=.d (.int .i64 (vd t T i))∧∃ es',H'=[.mp es']∧EOK f T es'
theorem JudC.frame {g:Nat} {f:List Nd} {P:List (Nat × Nat)} {Q:List Int} {T:List (List Int)} {t:Fm} {p i:Nat} {es:List (V × V)} (h:JudC g f P Q T t p) (hi:i+20*t.flat.length≤1000000) (he:EOK f T es) (X:List Blk) (kp:List Nat) :
    AC Tryz.prog g [jdV f P Q T,.d (.int .i64 p),.d (.int .i64 i)] (.mp es::X) kp fun x H'=>x=.d (.int .i64 (vd t T i))∧∃ es',H'=.mp es'::X∧EOK f T es':=by
  refine (AC.frame (H1:=[.mp es]) (h i es hi he) X kp (he.bel 1) rfl ?_).mono ?_
  · rintro x H' ⟨_,es',rfl,_⟩
    rfl
  · rintro x H' ⟨H1',⟨rfl,es',rfl,he'⟩,rfl⟩
    exact ⟨rfl,es',rfl,he'⟩
theorem jud_shrink {g:Nat} {args:List V} {f:List Nd} {T:List (List Int)} {es:List (V × V)} {v:D} (h:AC Tryz.prog g args [.mp es] [0] fun x H'=>x=.d v∧∃ es' X,H'=.mp es'::X∧EOK f T es') :
    AC Tryz.prog g args [.mp es] [0] fun x H'=>x=.d v∧∃ es',H'=[.mp es']∧EOK f T es':=by
  refine AC.shrink 1 h (by simp) ?_
  rintro x _ ⟨rfl,es',X,rfl,he⟩
  exact ⟨[.mp es'],X,rfl,rfl,rfl,he.bel 1,rfl,es',rfl,he⟩
theorem node_of {f:List Nd} {P:List (Nat × Nat)} {Q:List Int} {T:List (List Int)} {t:Fm} {p:Nat} (ht:At f p t) (hf:f.length≤1000) (h:JudC 120 f P Q T t p) : JudC 101 f P Q T t p:=by
  intro i es hi he
  refine jud_shrink ?_
  have hpl:=ht.len
  have h101:=fun X=>h.frame hi he X (List.range ([Blk.mp es]++X).length)
  have hmk:=he.mk152
  have hkw:=kwf152 (p:=p) (i:=i) (by omega) (by omega)
  have hput:=fun (es':List (V × V)) (h:EOK f T es')=>h.put ht (show p≤1000000000 by omega) (show i≤1000000000 by omega)
  have hhit:=fun j=>he.hit (i:=i) (j:=j) ht
  generalize vd t T i=v at *
  unfold keyV at *
  simp only [jdV] at h101 ⊢
  cases hj:mfind es (.agg [.d (.int .i64 p),.d (.int .i64 i)]) with
  | some j =>
    have hit:=hhit j hj
    refine ac_ofF (fn:=Tryz.f101) [.tmp 6] (by kernel_rfl) rfl (by kernel_rfl) (Nat.le_of_ble_eq_true rfl) (by kernel_rfl) rfl ?_
    refine awp_seq ?_
    refine wRg ?_
    refine awp_seq ?_
    refine wRg ?_
    refine awp_seq ?_
    refine awp_seq ?_
    refine awpF_region ?_; intro K hK; simp only [push_cast,seval,hj,hit]
    refine wOb ?_
    refine hK _ ?_; clear hK K
    (repeat' (first | refine awp_seq ?_ | refine awp_skip ?_ | refine awp_block ?_ | ((first | (refine awpF_region ?_; intro K hK)); refine wXo ?_) | (refine hK _ ?_; clear hK K) | (refine wCd ?_ ?_) | (with_reducible intro hb; exfalso; revert hb; simp []; done) | (with_reducible intro hb; exfalso; replace hb:=wHb hb; omega; done) | (with_reducible intro hb; replace hb:=wHb hb) | (refine wEx ?_) | (refine wRet ?_) | (refine inblock_norm ?_)))
    exact ⟨rfl,es,_,rfl,he⟩
  | none =>
    refine ac_ofF (fn:=Tryz.f101) [.tmp 6] (by kernel_rfl) rfl (by kernel_rfl) (Nat.le_of_ble_eq_true rfl) (by kernel_rfl) rfl ?_
    refine awp_seq ?_
    refine wRg ?_
    refine awp_seq ?_
    refine wRg ?_
    refine awp_seq ?_
    refine awp_seq ?_
    refine awpF_region ?_; intro K hK; simp only [push_cast,seval,hj]
    refine wOb ?_
    refine hK _ ?_; clear hK K
    refine awp_seq ?_
    refine wRg ?_
    refine wCd ?_ ?_
    · intro h1; replace h1:=wHb h1
      cases h1
    intro h1; replace h1:=wHb h1
    refine awp_skip ?_
    refine awp_seq ?_
    refine awpF_regionH [3] ?_; intro K hK; simp only [push_cast,seval,List.zipIdx_cons,List.zipIdx_nil]
    refine HeapK.mk _ (h101 _) ?_
    rintro _ _ ⟨rfl,es',rfl,he'⟩
    simp only [push_cast,seval]
    refine hK _ ?_; clear hK K
    have hmk':=he'.mk152
    have hpt:=hput es' he'
    refine awp_seq ?_
    refine wRg ?_
    (repeat' (first | refine awp_seq ?_ | refine awp_skip ?_ | refine awp_block ?_ | ((first | (refine awpF_region ?_; intro K hK)); refine wXo ?_) | (refine hK _ ?_; clear hK K) | (refine wCd ?_ ?_) | (with_reducible intro hb; exfalso; revert hb; simp []; done) | (with_reducible intro hb; exfalso; replace hb:=wHb hb; omega; done) | (with_reducible intro hb; replace hb:=wHb hb) | (refine wEx ?_) | (refine wRet ?_) | (refine inblock_norm ?_)))
    exact ⟨rfl,_,_,rfl,hpt⟩
end Go.Aw

namespace Go.Aw
set_option linter.unusedSimpArgs false
set_option linter.unusedVariables false
open Go.RowKit Go.Proofs
set_option maxRecDepth 100000

theorem dec_z {f:List Nd} {P:List (Nat × Nat)} {Q:List Int} {T:List (List Int)} {n:Nd} {p:Nat} (ht:At f p (.z n)) (hr:Right P Q p (.z n)) (hf:f.length≤1000) (hpl:P.length=f.length) (ho:okN n) (hc:n.op=2→colsOk n T) : JudC 120 f P Q T (.z n) p:=by
  intro i es hi he
  refine jud_shrink ?_
  have hn:f[p]? = some n:=ht.node
  have hlt:p<f.length:=(List.getElem?_eq_some_iff.1 hn).1
  have hp:P[p]? = some (0,0):=hr.1
  have hq:∀ row,row∈f.map encNd→row.length=6:=fun row hr=>by obtain ⟨_,_,rfl⟩:=List.mem_map.1 hr; rfl
  have hw:=ht.1
  have h119:=fun (h:colsOk n T) X=>(AC.frame (H1:=[.mp es]) (p119 f P Q n T i es h (he.bel 1)) X (List.range ([Blk.mp es]++X).length) (he.bel 1) rfl (by rintro x H' ⟨_,rfl⟩; rfl))
  have hvd:vd (.z n) T i=if n.op=1 then 1 else lessV n T i:=rfl
  rw [hvd]
  obtain ⟨op,l,r,k,lo,hi'⟩:=n
  unfold okN opOk at ho
  dsimp only at ho hc hw ⊢
  unfold jdV at *
  simp only [encNd,List.map_cons,List.map_nil] at h119
  simp only [Fm.flat,List.length_singleton] at hi
  rcases hw with rfl | rfl
  · rw [if_pos rfl]
    refine ac_ofF (fn:=Tryz.f120) [.tmp 6] (by kernel_rfl) rfl (by kernel_rfl) (Nat.le_of_ble_eq_true rfl) (by kernel_rfl) rfl ?_
    refine awp_seq ?_
    refine wRg ?_
    refine awp_seq ?_
    refine awpF_drawB [0,1,2,3,4,5,6,7,8,9,10,11,12,13,14,15,16,17,18,19] [20,21,22,23] (by kernel_rfl) (by kernel_rfl) (by kernel_rfl) ?_; intro K hK; simp only [push_cast,seval,hid,List.map_cons,List.map_nil,List.length_cons,List.length_nil,List.drop_succ_cons,List.drop_zero,List.cons_append,List.nil_append,hn,hp,encNd,encP2,Int.toNat_natCast]
    refine wOb ?_
    refine hK _ ?_; clear hK K
    (repeat' (first | refine awp_seq ?_ | refine awp_skip ?_ | refine awp_block ?_ | ((first | (refine awpF_region ?_; intro K hK) | (refine awpF_draw (id:=1) [0,1,2,3,4,5,6,7,8,9,10,11,12,13,14,15,16,17,18,19,20,21,22,23] (by kernel_rfl) (by kernel_rfl) rfl ?_; intro K hK) | (refine awpF_draw (id:=2) [0,1,2,3,4,5,6,7,8,9] (by kernel_rfl) (by kernel_rfl) rfl ?_; intro K hK)); simp only [push_cast,seval,beq_self_eq_true]; refine wObW ?_) | (refine hK _ ?_; clear hK K) | (refine wCd ?_ ?_) | (with_reducible intro hb; exfalso; revert hb; simp [beq_self_eq_true]; done) | (with_reducible intro hb; exfalso; replace hb:=wHb hb; omega; done) | (with_reducible intro hb; replace hb:=wHb hb) | (refine wEx ?_) | (refine wRp ?_; refine fin_of (by simp only [push_cast,seval,beq_self_eq_true]; first | done | rfl) ob1 ?_) | (refine inblock_norm ?_)))
    exact ⟨rfl,es,_,rfl,he⟩
  · rw [if_neg (by decide)]
    refine ac_ofF (fn:=Tryz.f120) [.tmp 6] (by kernel_rfl) rfl (by kernel_rfl) (Nat.le_of_ble_eq_true rfl) (by kernel_rfl) rfl ?_
    refine awp_seq ?_
    refine wRg ?_
    refine awp_seq ?_
    refine awpF_drawB [0,1,2,3,4,5,6,7,8,9,10,11,12,13,14,15,16,17,18,19] [20,21,22,23] (by kernel_rfl) (by kernel_rfl) (by kernel_rfl) ?_; intro K hK; simp only [push_cast,seval,hid,List.map_cons,List.map_nil,List.length_cons,List.length_nil,List.drop_succ_cons,List.drop_zero,List.cons_append,List.nil_append,hn,hp,encNd,encP2,Int.toNat_natCast]
    refine wOb ?_
    refine hK _ ?_; clear hK K
    have h:=h119 (hc rfl)
    generalize lessV _ T i=v at *
    (repeat' (first | refine awp_seq ?_ | refine awp_skip ?_ | refine awp_block ?_ | ((first | ((fail_if_success refine awpF_region (id:=7) ?_); refine awpF_region ?_; intro K hK) | (refine awpF_draw (id:=1) [0,1,2,3,4,5,6,7,8,9,10,11,12,13,14,15,16,17,18,19,20,21,22,23] (by kernel_rfl) (by kernel_rfl) rfl ?_; intro K hK) | (refine awpF_draw (id:=2) [0,1,2,3,4,5,6,7,8,9] (by kernel_rfl) (by kernel_rfl) rfl ?_; intro K hK)); simp only [push_cast,seval,beq_self_eq_true]; refine wObW ?_) | (refine hK _ ?_; clear hK K) | (refine wCd ?_ ?_) | (with_reducible intro hb; exfalso; revert hb; simp [beq_self_eq_true]; done) | (with_reducible intro hb; exfalso; replace hb:=wHb hb; omega; done) | (with_reducible intro hb; replace hb:=wHb hb) | (refine wEx ?_) | (refine wRp ?_; refine fin_of (by simp only [push_cast,seval,beq_self_eq_true]; first | done | rfl) ob1 ?_) | (refine inblock_norm ?_)))
    refine awpF_regionH [3] ?_; intro K hK; simp only [push_cast,seval,List.zipIdx_cons,List.zipIdx_nil]
    refine HeapK.mk _ (h _) ?_
    rintro _ _ ⟨_,⟨rfl,rfl⟩,rfl⟩
    simp only [push_cast,seval,List.singleton_append]
    refine hK _ ?_; clear hK K
    refine wRet ?_
    exact ⟨rfl,es,_,rfl,he⟩
end Go.Aw

namespace Go.Aw
set_option linter.unusedSimpArgs false
set_option linter.unusedVariables false
open Go.RowKit Go.Proofs
set_option maxRecDepth 100000

theorem EOK.bel5 {f:List Nd} {T:List (List Int)} {es:List (V × V)} (h:EOK f T es) {n:Nat} : Blk.bel n (.mp es)=true:=by
  have:=h.bel n
  simpa [belHeap] using this
theorem EOK.bel2 {f:List Nd} {T:List (List Int)} {es:List (V × V)} (h:EOK f T es) {n:Nat} (a b:V) (hm:(a,b)∈es) : V.bel n a=true∧V.bel n b=true:=by
  obtain ⟨p,i,t,_,_,e,_⟩:=h.all _ hm
  cases e
  exact ⟨rfl,rfl⟩
theorem EOK.ren {f:List Nd} {T:List (List Int)} {es:List (V × V)} (h:EOK f T es) (r:List Nat) : es.map (fun p=>(V.ren r p.1,V.ren r p.2))=es:=by
  conv=>rhs; rw [← List.map_id es]
  refine List.map_congr_left fun e he => ?_
  obtain ⟨p,i,t,_,_,rfl,_⟩:=h.all e he
  rfl
theorem allS_zero (g:Nat→Nat) : allS g 0=1:=rfl
theorem anyS_zero (g:Nat→Nat) : anyS g 0=0:=rfl
theorem dec_u {f:List Nd} {P:List (Nat × Nat)} {Q:List Int} {T:List (List Int)} {n:Nd} {a:Fm} {p:Nat} (ht:At f p (.u n a)) (hr:Right P Q p (.u n a)) (hf:f.length≤1000) (hpl:P.length=f.length) (ho:okN n) (ha:JudC 101 f P Q T a (p+1)) : JudC 120 f P Q T (.u n a) p:=by
  intro i es hi he
  refine jud_shrink ?_
  have hn:f[p]? = some n:=ht.node
  have hlt:p<f.length:=(List.getElem?_eq_some_iff.1 hn).1
  have hp:P[p]? = some (p+1,0):=hr.1
  have hq:∀ row,row∈f.map encNd→row.length=6:=fun row hr=>by obtain ⟨_,_,rfl⟩:=List.mem_map.1 hr; rfl
  have hw:=ht.1.1
  have hle:=vd_le a T
  have hvd:vd (.u n a) T i=if n.op=3 then ntV (vd a T i) else if n.op=6 then allS (fun k=>vd a T (i+n.lo.toNat+k)) (n.hi.toNat+1 - n.lo.toNat) else anyS (fun k=>vd a T (i+n.lo.toNat+k)) (n.hi.toNat+1 - n.lo.toNat):=rfl
  rw [hvd]
  obtain ⟨op,l,r,k,lo,hi'⟩:=n
  unfold okN opOk at ho
  dsimp only at ho hw ⊢
  simp only [Fm.flat,List.length_cons] at hi
  have hal:=a.len_pos
  obtain ⟨loN,rfl⟩ : ∃ x:Nat,lo=x:=⟨lo.toNat,by omega⟩
  obtain ⟨hiN,rfl⟩ : ∃ x:Nat,hi'=x:=⟨hi'.toNat,by omega⟩
  simp only [Int.toNat_natCast]
  rcases hw with rfl | rfl | rfl
  · rw [if_pos rfl]
    have h81:=fun X=>ha.frame (i:=i) (by omega) he X (List.range ([Blk.mp es]++X).length)
    have hv:=hle i
    generalize vd a T i=v at *
    unfold jdV at *
    push_cast at h81
    refine ac_ofF (fn:=Tryz.f120) [.tmp 6] (by kernel_rfl) rfl (by kernel_rfl) (Nat.le_of_ble_eq_true rfl) (by kernel_rfl) rfl ?_
    refine awp_seq ?_
    refine wRg ?_
    refine awp_seq ?_
    refine awpF_drawB [0,1,2,3,4,5,6,7,8,9,10,11,12,13,14,15,16,17,18,19] [20,21,22,23] (by kernel_rfl) (by kernel_rfl) (by kernel_rfl) ?_; intro K hK; simp only [push_cast,seval,hid,List.map_cons,List.map_nil,List.length_cons,List.length_nil,List.drop_succ_cons,List.drop_zero,List.cons_append,List.nil_append,hn,hp,encNd,encP2,Int.toNat_natCast]
    refine wOb ?_
    refine hK _ ?_; clear hK K
    (repeat' (first | refine awp_seq ?_ | refine awp_skip ?_ | refine awp_block ?_ | ((first | ((fail_if_success refine awpF_region (id:=9) ?_); refine awpF_region ?_; intro K hK) | (refine awpF_draw (id:=1) [0,1,2,3,4,5,6,7,8,9,10,11,12,13,14,15,16,17,18,19,20,21,22,23] (by kernel_rfl) (by kernel_rfl) rfl ?_; intro K hK) | (refine awpF_draw (id:=2) [0,1,2,3,4,5,6,7,8,9] (by kernel_rfl) (by kernel_rfl) rfl ?_; intro K hK)); simp only [push_cast,seval,beq_self_eq_true]; refine wObW ?_) | (refine hK _ ?_; clear hK K) | (refine wCd ?_ ?_) | (with_reducible intro hb; exfalso; revert hb; simp [beq_self_eq_true]; done) | (with_reducible intro hb; exfalso; replace hb:=wHb hb; omega; done) | (with_reducible intro hb; replace hb:=wHb hb) | (refine wEx ?_) | (refine wRp ?_; refine fin_of (by simp only [push_cast,seval,beq_self_eq_true]; first | done | rfl) ob1 ?_) | (refine inblock_norm ?_)))
    refine awpF_regionH [4] ?_; intro K hK; simp only [push_cast,seval,List.zipIdx_cons,List.zipIdx_nil]
    refine HeapK.mk _ (h81 _) ?_
    rintro _ _ ⟨rfl,es',rfl,he'⟩
    rcases vd_cases hv with rfl | rfl | rfl
    all_goals
      simp only [push_cast,seval,Int.toNat_natCast]
      refine wOb ?_
      refine hK _ ?_; clear hK K
      refine wRet ?_
      exact ⟨rfl,es',_,rfl,he'⟩
  · rw [if_neg (by decide),if_pos rfl]
    have h81:=fun (k:Nat) (hk:k≤hiN - loN) (es':List (V × V)) (he':EOK f T es') X=>ha.frame (i:=i+loN+k) (es:=es') (by omega) he' X (List.range ([Blk.mp es']++X).length)
    have hv:∀ k,vd a T (i+loN+k)≤2:=fun k=>hle _
    generalize hg:(fun k=>vd a T (i+loN+k))=g at *
    have hgk:∀ k,vd a T (i+loN+k)=g k:=fun k=>by rw [← hg]
    simp only [hgk] at hv h81
    have h150:=fun (k:Nat) H=>p150 allO rfl H 4 (g k) (allS g k)
    unfold jdV at *
    push_cast at h81
    refine ac_ofF (fn:=Tryz.f120) [.tmp 6] (by kernel_rfl) rfl (by kernel_rfl) (Nat.le_of_ble_eq_true rfl) (by kernel_rfl) rfl ?_
    refine awp_seq ?_
    refine wRg ?_
    refine awp_seq ?_
    refine awpF_drawB [0,1,2,3,4,5,6,7,8,9,10,11,12,13,14,15,16,17,18,19] [20,21,22,23] (by kernel_rfl) (by kernel_rfl) (by kernel_rfl) ?_; intro K hK; simp only [push_cast,seval,hid,List.map_cons,List.map_nil,List.length_cons,List.length_nil,List.drop_succ_cons,List.drop_zero,List.cons_append,List.nil_append,hn,hp,encNd,encP2,Int.toNat_natCast]
    refine wOb ?_
    refine hK _ ?_; clear hK K
    (repeat' (first | refine awp_seq ?_ | refine awp_skip ?_ | refine awp_block ?_ | ((first | ((fail_if_success refine awpF_region (id:=12) ?_); refine awpF_region ?_; intro K hK) | (refine awpF_draw (id:=1) [0,1,2,3,4,5,6,7,8,9,10,11,12,13,14,15,16,17,18,19,20,21,22,23] (by kernel_rfl) (by kernel_rfl) rfl ?_; intro K hK) | (refine awpF_draw (id:=2) [0,1,2,3,4,5,6,7,8,9] (by kernel_rfl) (by kernel_rfl) rfl ?_; intro K hK)); simp only [push_cast,seval,beq_self_eq_true]; refine wObW ?_) | (refine hK _ ?_; clear hK K) | (refine wCd ?_ ?_) | (with_reducible intro hb; exfalso; revert hb; simp [beq_self_eq_true]; done) | (with_reducible intro hb; exfalso; replace hb:=wHb hb; omega; done) | (with_reducible intro hb; replace hb:=wHb hb) | (refine wEx ?_) | (refine wRp ?_; refine fin_of (by simp only [push_cast,seval,beq_self_eq_true]; first | done | rfl) ob1 ?_) | (refine inblock_norm ?_)))
    refine awpF_region ?_; intro K hK; simp only [push_cast,seval]
    refine wOb ?_
    refine CallK.rel p120 ?_
    rintro _ _ ⟨rfl,rfl⟩
    simp only [push_cast,seval,List.map_cons,List.map_nil,List.cons_append,List.nil_append]
    refine hK _ ?_; clear hK K
    refine awp_seq ?_
    refine awp_seq ?_
    refine wRg ?_
    refine wCd ?_ ?_
    · intro h1; replace h1:=wHb h1
      simp at h1
    intro h1; replace h1:=wHb h1
    refine awp_skip ?_
    refine awp_seq ?_
    refine wRg ?_
    refine awp_seq ?_
    refine awp_seq ?_
    refine wRg ?_
    refine awp_block ?_
    refine awp_loopP (α:=Nat × List (V × V)) (st:=fun x=>⟨[(3,.ptr 1 0 0),(8,.d (.int .i64 ((p:Int)+1))),(11,.d (.int .i64 ((i:Int)+hiN))),(12,.fn (.func 149) [.d (ordD allO),.ptr 4 0 0]),(13,.d (.int .i64 (allS g x.1:Nat))),(14,.d (.int .i64 ((i:Int)+loN+x.1)))],
        [.mp x.2,.cells [.d (.sl (f.map encNd)),.d (.sl (P.map encP2)),.d (.sl (Q.map encH)),.d (.sl (T.map encR)),.map 0],.cells [.d (.int .i64 6),.d (.int .i64 l),.d (.int .i64 r),.d (.int .i64 k),.d (.int .i64 loN),.d (.int .i64 hiN)],.gone,.cells [.d (.int .i64 (allS g x.1:Nat))]]⟩)
      (inv:=fun x=>x.1≤hiN+1 - loN∧EOK f T x.2) (μ:=fun x=>hiN+1 - loN - x.1) (x0:=(0,es)) (r0:=[0,1,2,3,4]) ⟨Nat.zero_le _,he⟩ ?_ ?_
    · simp only [allS_zero]
      push_cast
      refine ⟨by simp,by simp,by simp [push_cast,seval,he.ren],by simp [push_cast,seval],by simp [push_cast,seval],?_⟩
      simp [push_cast,seval]
      exact he.bel2
    rintro ⟨k',es'⟩ ⟨hk,he'⟩
    dsimp only at hk he' ⊢
    have hs1:=allS_le g k'
    refine awp_seq ?_
    refine awp_seq ?_
    refine wRg ?_
    refine wCd ?_ ?_
    · intro h2; replace h2:=wHb h2
      have hk2:k'≤hiN - loN:=by omega
      refine awp_skip ?_
      refine awp_seq ?_
      refine awp_block ?_
      refine awpF_regionH [4,5] ?_; intro K hK; simp only [push_cast,seval,List.zipIdx_cons,List.zipIdx_nil]
      refine HeapK.mk _ (h81 k' hk2 es' he' _) ?_
      rintro _ _ ⟨rfl,es2,rfl,he2⟩
      simp only [push_cast,seval]
      refine HeapK.mk _ (h150 k' _ rfl ?_) ?_
      · show (Blk.bel 5 (.mp es2)&&belHeap 5 _)=true
        rw [he2.bel5]
        rfl
      rintro _ _ ⟨rfl,rfl⟩
      rw [wst_all hs1 (hv k')]
      simp only [push_cast,seval,List.set_cons_succ,List.set_cons_zero]
      refine hK _ ?_; clear hK K
      refine inblock_norm ?_
      refine wRg ?_
      refine round_endG (k'+1,es2) [0,1,2,3,4] ⟨by dsimp only; omega,⟨by dsimp only; omega,he2⟩,?_⟩
      simp only [allS]
      push_cast
      rw [show (i:Int)+loN+(k'+1)=i+loN+k'+1 by omega]
      refine ⟨by simp,by simp,by simp [push_cast,seval,he2.ren],by simp [push_cast,seval],by simp [push_cast,seval],?_⟩
      simp [push_cast,seval]
      exact he2.bel2
    · intro h2; replace h2:=wHb h2
      obtain rfl:k'=hiN+1 - loN:=by omega
      refine wEx ?_
      refine awp_seq ?_
      refine wRg ?_
      refine wRet ?_
      exact ⟨rfl,es',_,rfl,he'⟩
  · rw [if_neg (by decide),if_neg (by decide)]
    have h81:=fun (k:Nat) (hk:k≤hiN - loN) (es':List (V × V)) (he':EOK f T es') X=>ha.frame (i:=i+loN+k) (es:=es') (by omega) he' X (List.range ([Blk.mp es']++X).length)
    have hv:∀ k,vd a T (i+loN+k)≤2:=fun k=>hle _
    generalize hg:(fun k=>vd a T (i+loN+k))=g at *
    have hgk:∀ k,vd a T (i+loN+k)=g k:=fun k=>by rw [← hg]
    simp only [hgk] at hv h81
    have h150:=fun (k:Nat) H=>p150 anyO rfl H 4 (g k) (anyS g k)
    unfold jdV at *
    push_cast at h81
    refine ac_ofF (fn:=Tryz.f120) [.tmp 6] (by kernel_rfl) rfl (by kernel_rfl) (Nat.le_of_ble_eq_true rfl) (by kernel_rfl) rfl ?_
    refine awp_seq ?_
    refine wRg ?_
    refine awp_seq ?_
    refine awpF_drawB [0,1,2,3,4,5,6,7,8,9,10,11,12,13,14,15,16,17,18,19] [20,21,22,23] (by kernel_rfl) (by kernel_rfl) (by kernel_rfl) ?_; intro K hK; simp only [push_cast,seval,hid,List.map_cons,List.map_nil,List.length_cons,List.length_nil,List.drop_succ_cons,List.drop_zero,List.cons_append,List.nil_append,hn,hp,encNd,encP2,Int.toNat_natCast]
    refine wOb ?_
    refine hK _ ?_; clear hK K
    (repeat' (first | refine awp_seq ?_ | refine awp_skip ?_ | refine awp_block ?_ | ((first | ((fail_if_success refine awpF_region (id:=24) ?_); refine awpF_region ?_; intro K hK) | (refine awpF_draw (id:=1) [0,1,2,3,4,5,6,7,8,9,10,11,12,13,14,15,16,17,18,19,20,21,22,23] (by kernel_rfl) (by kernel_rfl) rfl ?_; intro K hK) | (refine awpF_draw (id:=2) [0,1,2,3,4,5,6,7,8,9] (by kernel_rfl) (by kernel_rfl) rfl ?_; intro K hK)); simp only [push_cast,seval,beq_self_eq_true]; refine wObW ?_) | (refine hK _ ?_; clear hK K) | (refine wCd ?_ ?_) | (with_reducible intro hb; exfalso; revert hb; simp [beq_self_eq_true]; done) | (with_reducible intro hb; exfalso; replace hb:=wHb hb; omega; done) | (with_reducible intro hb; replace hb:=wHb hb) | (refine wEx ?_) | (refine wRp ?_; refine fin_of (by simp only [push_cast,seval,beq_self_eq_true]; first | done | rfl) ob1 ?_) | (refine inblock_norm ?_)))
    refine awpF_region ?_; intro K hK; simp only [push_cast,seval]
    refine wOb ?_
    refine CallK.rel p121 ?_
    rintro _ _ ⟨rfl,rfl⟩
    simp only [push_cast,seval,List.map_cons,List.map_nil,List.cons_append,List.nil_append]
    refine hK _ ?_; clear hK K
    refine awp_seq ?_
    refine awp_seq ?_
    refine wRg ?_
    refine wCd ?_ ?_
    · intro h1; replace h1:=wHb h1
      simp at h1
    intro h1; replace h1:=wHb h1
    refine awp_skip ?_
    refine awp_seq ?_
    refine wRg ?_
    refine awp_seq ?_
    refine awp_seq ?_
    refine wRg ?_
    refine awp_block ?_
    refine awp_loopP (α:=Nat × List (V × V)) (st:=fun x=>⟨[(3,.ptr 1 0 0),(8,.d (.int .i64 ((p:Int)+1))),(11,.d (.int .i64 ((i:Int)+hiN))),(15,.fn (.func 149) [.d (ordD anyO),.ptr 4 0 0]),(16,.d (.int .i64 (anyS g x.1:Nat))),(17,.d (.int .i64 ((i:Int)+loN+x.1)))],
        [.mp x.2,.cells [.d (.sl (f.map encNd)),.d (.sl (P.map encP2)),.d (.sl (Q.map encH)),.d (.sl (T.map encR)),.map 0],.cells [.d (.int .i64 7),.d (.int .i64 l),.d (.int .i64 r),.d (.int .i64 k),.d (.int .i64 loN),.d (.int .i64 hiN)],.gone,.cells [.d (.int .i64 (anyS g x.1:Nat))]]⟩)
      (inv:=fun x=>x.1≤hiN+1 - loN∧EOK f T x.2) (μ:=fun x=>hiN+1 - loN - x.1) (x0:=(0,es)) (r0:=[0,1,2,3,4]) ⟨Nat.zero_le _,he⟩ ?_ ?_
    · simp only [anyS_zero]
      push_cast
      refine ⟨by simp,by simp,by simp [push_cast,seval,he.ren],by simp [push_cast,seval],by simp [push_cast,seval],?_⟩
      simp [push_cast,seval]
      exact he.bel2
    rintro ⟨k',es'⟩ ⟨hk,he'⟩
    dsimp only at hk he' ⊢
    have hs1:=anyS_le g k'
    refine awp_seq ?_
    refine awp_seq ?_
    refine wRg ?_
    refine wCd ?_ ?_
    · intro h2; replace h2:=wHb h2
      have hk2:k'≤hiN - loN:=by omega
      refine awp_skip ?_
      refine awp_seq ?_
      refine awp_block ?_
      refine awpF_regionH [4,5] ?_; intro K hK; simp only [push_cast,seval,List.zipIdx_cons,List.zipIdx_nil]
      refine HeapK.mk _ (h81 k' hk2 es' he' _) ?_
      rintro _ _ ⟨rfl,es2,rfl,he2⟩
      simp only [push_cast,seval]
      refine HeapK.mk _ (h150 k' _ rfl ?_) ?_
      · show (Blk.bel 5 (.mp es2)&&belHeap 5 _)=true
        rw [he2.bel5]
        rfl
      rintro _ _ ⟨rfl,rfl⟩
      rw [wst_any hs1 (hv k')]
      simp only [push_cast,seval,List.set_cons_succ,List.set_cons_zero]
      refine hK _ ?_; clear hK K
      refine inblock_norm ?_
      refine wRg ?_
      refine round_endG (k'+1,es2) [0,1,2,3,4] ⟨by dsimp only; omega,⟨by dsimp only; omega,he2⟩,?_⟩
      simp only [anyS]
      push_cast
      rw [show (i:Int)+loN+(k'+1)=i+loN+k'+1 by omega]
      refine ⟨by simp,by simp,by simp [push_cast,seval,he2.ren],by simp [push_cast,seval],by simp [push_cast,seval],?_⟩
      simp [push_cast,seval]
      exact he2.bel2
    · intro h2; replace h2:=wHb h2
      obtain rfl:k'=hiN+1 - loN:=by omega
      refine wEx ?_
      refine awp_seq ?_
      refine wRg ?_
      refine wRet ?_
      exact ⟨rfl,es',_,rfl,he'⟩
end Go.Aw

namespace Go.Aw
set_option linter.unusedSimpArgs false
set_option linter.unusedVariables false

theorem At.behind {f:List Nd} {p:Nat} {t:Fm} (h:At f p t) : bhV f p=(p+t.flat.length:Nat):=by
  have h2:skp 1 (f.drop p)=some (f.drop (p+t.flat.length)):=by
    have h3:=skp_flat t h.1 0 (f.drop (p+t.flat.length))
    rw [Nat.zero_add] at h3
    rw [h.2,h3]
    simp [skp]
  have:=h.len
  rw [bhV,h2]
  simp only [List.length_drop]
  omega
end Go.Aw
