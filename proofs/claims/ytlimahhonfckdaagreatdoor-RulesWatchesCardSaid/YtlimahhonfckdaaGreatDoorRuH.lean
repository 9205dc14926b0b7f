/-
  Texts of the library,one behind the other. Over any program; no condition.
-/
import Derived.Test.YtlimahhonfckdaaGreatDoorRuB
import Derived.Test.YtlimahhonfckdaaGreatDoorRuD
import Derived.Test.YtlimahhonfckdaaGreatDoorPkT
import Derived.Test.YtlimahhonfckdaaGreatDoorRuC
import Derived.Test.YtlimahhonfckdaaGreatDoorRuE
import Derived.Test.YtlimahhonfckdaaGreatDoorRuA
namespace Go.Aw
set_option linter.unusedSimpArgs false
set_option linter.unusedVariables false
open Go.RowKit Go.Proofs
set_option maxRecDepth 100000

def vdRow (T:List (List Int)) (t:Fm) : List Int:=(List.range (T.length+1)).map fun i=>((vd t T i:Nat) : Int)
theorem vdRow_len (T:List (List Int)) (t:Fm) : (vdRow T t).length=T.length+1:=by simp [vdRow]
theorem vdRow_get (T:List (List Int)) (t:Fm) (i:Nat) : (vdRow T t)[min i T.length]? = some ((vd t T i:Nat) : Int):=by
  rw [vdRow,List.getElem?_map,List.getElem?_range (by omega),Option.map_some,vd_min]
def one1 (rows:List (List D)) : Prop:=∀ row,row∈rows→row.length=1
theorem p104 {T:List (List Int)} {rows:List (List D)} {t:Fm} (a i:Nat) (hT:T.length≤1000000) (hr:rows[a]? = some [.sl ((vdRow T t).map encI)]) (h1:one1 rows) (hl:rows.length≤1000000) (hi:i≤1000000000) :
    PD Tryz.prog 112 [.sl rows,.int .i64 a,.int .i64 i] (.d (.int .i64 (vd t T i))):=by
  have ha:a<rows.length:=(List.getElem?_eq_some_iff.1 hr).1
  have hg:=vdRow_get T t i
  have hlen:=vdRow_len T t
  unfold one1 at h1
  generalize vdRow T t=vs at *
  generalize vd t T i=v at *
  have hq:∀ row,row∈vs.map encI→row.length=1:=fun row hr=>by obtain ⟨_,_,rfl⟩:=List.mem_map.1 hr; rfl
  have em:min (i:Int) (IntKind.i64.wrap ((vs.length:Int) - 1))=((min i T.length:Nat) : Int):=by
    rw [wrapI _ (by omega)]
    omega
  generalize hm:min i T.length=mi at *
  have hmi:mi<vs.length:=(List.getElem?_eq_some_iff.1 hg).1
  have hg2:(vs.map encI)[mi]? = some (encI v):=by rw [List.getElem?_map,hg]; rfl
  refine pd_of (fn:=Tryz.f112) [.tmp 6] (by kernel_rfl) rfl (by kernel_rfl) (Nat.le_of_ble_eq_true rfl) (by kernel_rfl) rfl rfl ?_
  refine awp_seq ?_
  refine wRg ?_
  refine awp_seq ?_
  refine awpF_draw [0,1,2,3,4,5,6,7,8,9,10,11,12,13,14] (by kernel_rfl) (by kernel_rfl) rfl ?_; intro K hK; simp only [push_cast,seval,hr,hg,hg2,em,Int.toNat_natCast,encI]
  refine wOb ?_
  refine hK _ ?_; clear hK K
  refine wRet ?_
  rfl
end Go.Aw

namespace Go.Aw
set_option linter.unusedSimpArgs false
set_option linter.unusedVariables false
open Go.RowKit Go.Proofs
set_option maxRecDepth 100000

theorem p107 {T:List (List Int)} {rows:List (List D)} {ta tb:Fm} (n:Nd) (a b i lo hi:Nat) (hn:n.lo=lo∧n.hi=hi) (hlo:lo≤hi) (hhi:hi≤20) (hT:T.length≤1000000) (ha:rows[a]? = some [.sl ((vdRow T ta).map encI)]) (hb0:rows[b]? = some [.sl ((vdRow T tb).map encI)]) (h1:one1 rows)
    (hl:rows.length≤1000000) (hi0:i≤1000000) :
    PD Tryz.prog 115 [.sl rows,.agg (encNd n),.int .i64 a,.int .i64 b,.int .i64 i] (.d (.int .i64 ((untS (fun k=>vd ta T (i+k)) (fun k=>vd tb T (i+k)) lo (hi+1)).2:Nat))):=by
    have hva:∀ k,vd ta T (i+k)≤2:=fun k=>vd_le ta T _
    have hvb:∀ k,vd tb T (i+k)≤2:=fun k=>vd_le tb T _
    have ha104:=fun (k:Nat) (hk:k≤hi)=>p104 (t:=ta) a (i+k) hT ha h1 hl (by omega)
    have hb104:=fun (k:Nat) (hk:k≤hi)=>p104 (t:=tb) b (i+k) hT hb0 h1 hl (by omega)
    generalize hga:(fun k=>vd ta T (i+k))=ga at *
    have hgak:∀ k,vd ta T (i+k)=ga k:=fun k=>by rw [← hga]
    generalize hgb:(fun k=>vd tb T (i+k))=gb at *
    have hgbk:∀ k,vd tb T (i+k)=gb k:=fun k=>by rw [← hgb]
    simp only [hgak,hgbk] at hva hvb ha104 hb104
    clear hga hgb hgak hgbk ha hb0
    obtain ⟨op,l,r,k,lo',hi'⟩:=n
    obtain ⟨e1,e2⟩:=hn
    dsimp only at e1 e2
    subst e1 e2
    simp only [encNd]
    push_cast at ha104 hb104
    refine pd_of (fn:=Tryz.f115) [.tmp 10] (by kernel_rfl) rfl (by kernel_rfl) (Nat.le_of_ble_eq_true rfl) (by kernel_rfl) rfl rfl ?_
    refine awp_seq ?_
    refine wRg ?_
    refine awp_seq ?_
    refine wRg ?_
    refine awp_seq ?_
    refine awp_seq ?_
    refine wRg ?_
    refine awp_block ?_
    refine awp_loopP (α:=Nat) (st:=fun x=>⟨[(0,.d (.sl rows)),(2,.d (.int .i64 a)),(3,.d (.int .i64 b)),(4,.d (.int .i64 i)),(6,.ptr 0 0 0),(11,.d (.int .i64 ((untS ga gb lo x).2:Nat))),(12,.d (.int .i64 ((untS ga gb lo (min x hi)).1:Nat))),(13,.d (.int .i64 x))],
        [.cells [.d (.int .i64 op),.d (.int .i64 l),.d (.int .i64 r),.d (.int .i64 k),.d (.int .i64 lo),.d (.int .i64 hi)]]⟩)
      (inv:=fun x=>x≤hi+1) (μ:=fun x=>hi+1 - x) (x0:=0) (r0:=[0]) (Nat.zero_le _) ?_ ?_
    · rw [show min 0 hi=0 by omega]
      simp only [untS]
      exact wRen
    intro k' hk
    obtain ⟨hs1,hs2⟩:=untS_le ga gb lo k'
    have hstep:untS ga gb lo (k'+1)=(bothV (untS ga gb lo k').1 (ga k'),if lo≤k' then eithV (untS ga gb lo k').2 (bothV (untS ga gb lo k').1 (gb k')) else (untS ga gb lo k').2):=rfl
    refine awp_seq ?_
    refine awp_seq ?_
    refine wRg ?_
    refine wCd ?_ ?_
    · intro h3; replace h3:=wHb h3
      have hk2:k'≤hi:=by omega
      rw [Nat.min_eq_left hk2]
      generalize hS:(untS ga gb lo k').1=S at *
      generalize hV:(untS ga gb lo k').2=W at *
      have h105:=p105 S (gb k') hs1 (hvb k')
      have h106:=p106 W (bothV S (gb k')) hs2 (bothV_le _ _)
      have h105a:=p105 S (ga k') hs1 (hva k')
      refine awp_skip ?_
      refine awp_mid (fun u=>u=⟨[(0,.d (.sl rows)),(2,.d (.int .i64 a)),(3,.d (.int .i64 b)),(4,.d (.int .i64 i)),(6,.ptr 0 0 0),(11,.d (.int .i64 ((untS ga gb lo (k'+1)).2:Nat))),(12,.d (.int .i64 ((untS ga gb lo (min (k'+1) hi)).1:Nat))),(13,.d (.int .i64 k'))],
        [.cells [.d (.int .i64 op),.d (.int .i64 l),.d (.int .i64 r),.d (.int .i64 k),.d (.int .i64 lo),.d (.int .i64 hi)]]⟩) ?_ ?_
      · refine awp_block ?_
        refine awp_mid (fun u=>u=⟨[(0,.d (.sl rows)),(2,.d (.int .i64 a)),(3,.d (.int .i64 b)),(4,.d (.int .i64 i)),(6,.ptr 0 0 0),(11,.d (.int .i64 ((untS ga gb lo (k'+1)).2:Nat))),(12,.d (.int .i64 (S:Nat))),(13,.d (.int .i64 k'))],
          [.cells [.d (.int .i64 op),.d (.int .i64 l),.d (.int .i64 r),.d (.int .i64 k),.d (.int .i64 lo),.d (.int .i64 hi)]]⟩) ?_ ?_
        · simp only [hstep]
          refine awp_seq ?_
          refine wRg ?_
          refine wCd ?_ ?_
          · intro h4; replace h4:=wHb h4
            have h4':lo≤k':=by omega
            simp only [if_pos h4']
            refine awpF_region ?_; intro K hK; simp only [push_cast,seval]
            (try simp (disch:=omega) only [wrapI])
            refine CallK.pd (hb104 k' hk2) ?_; refine wXo ?_
            refine CallK.pd (h105) ?_; refine wXo ?_
            refine CallK.pd (h106) ?_; refine wXo ?_
            refine hK _ ?_; clear hK K
            refine mid_end ([0]) _ rfl ?_
            exact wRen
          · intro h4; replace h4:=wHb h4
            have h4':¬ lo≤k':=by omega
            simp only [if_neg h4']
            refine awp_skip ?_
            refine mid_end ([0]) _ rfl ?_
            exact wRen
        rintro _ rfl
        refine awp_seq ?_
        refine wRg ?_
        refine wCd ?_ ?_
        · intro h5; replace h5:=wHb h5
          have h5':k'+1≤hi:=by omega
          rw [Nat.min_eq_left h5']
          simp only [hstep]
          refine awpF_region ?_; intro K hK; simp only [push_cast,seval]
          (try simp (disch:=omega) only [wrapI])
          refine CallK.pd (ha104 k' hk2) ?_; refine wXo ?_
          refine CallK.pd (h105a) ?_; refine wXo ?_
          refine hK _ ?_; clear hK K
          refine inblock_norm ?_
          refine mid_end ([0]) _ rfl ?_
          exact wRen
        · intro h5; replace h5:=wHb h5
          obtain rfl:k'=hi:=by omega
          rw [Nat.min_eq_right (Nat.le_succ _),hS]
          refine awp_skip ?_
          refine inblock_norm ?_
          refine mid_end ([0]) _ rfl ?_
          exact wRen
      rintro _ rfl
      refine wRg ?_
      refine round_endG (k'+1) ([0]) ⟨by omega,by omega,?_⟩
      exact wRen
    · intro h3; replace h3:=wHb h3
      obtain rfl:k'=hi+1:=by omega
      refine wEx ?_
      refine awp_seq ?_
      refine wRg ?_
      refine wRet ?_
      rfl
end Go.Aw

namespace Go.Aw
set_option linter.unusedSimpArgs false
set_option linter.unusedVariables false
open Go.RowKit Go.Proofs
set_option maxRecDepth 100000

def Kids (T:List (List Int)) (rows:List (List D)) (p:Nat) : Fm→Prop
  | .z _=>True
  | .u _ a=>rows[p+1]? = some [.sl ((vdRow T a).map encI)]
  | .b _ a b=>rows[p+1]? = some [.sl ((vdRow T a).map encI)]∧rows[p+1+a.flat.length]? = some [.sl ((vdRow T b).map encI)]
def OneC (f:List Nd) (T:List (List Int)) (t:Fm) (p:Nat) : Prop :=
  ∀ (rows:List (List D)) (i:Nat),i≤1000000→rows.length≤1000000→one1 rows→Kids T rows p t →
    PD Tryz.prog 84 [.sl rows,.sl (f.map encNd),.int .i64 p,.sl (T.map encR),.int .i64 i] (.d (.int .i64 (vd t T i)))
theorem one_z {f:List Nd} {T:List (List Int)} {n:Nd} {p:Nat} (ht:At f p (.z n)) (hf:f.length≤1000) (hc:n.op=2→colsOk n T) : OneC f T (.z n) p:=by
  intro rows i hi hl h1 _
  have hn:f[p]? = some n:=ht.node
  have hlt:p<f.length:=(List.getElem?_eq_some_iff.1 hn).1
  have hq:∀ row,row∈f.map encNd→row.length=6:=fun row hr=>by obtain ⟨_,_,rfl⟩:=List.mem_map.1 hr; rfl
  have hw:=ht.1
  have h78:=p78 n
  have h102:=fun h=>p102 n T i h
  have hvd:vd (.z n) T i=if n.op=1 then 1 else lessV n T i:=rfl
  rw [hvd]
  obtain ⟨op,l,r,k,lo,hi'⟩:=n
  dsimp only at hc hw ⊢
  simp only [encNd] at h78 h102
  have ep:ptV op=0:=by rcases hw with rfl | rfl <;> rfl
  rw [ep] at h78
  rcases hw with rfl | rfl
  · rw [if_pos rfl]
    refine pd_of (fn:=Tryz.f84) [.tmp 10] (by kernel_rfl) rfl (by kernel_rfl) (Nat.le_of_ble_eq_true rfl) (by kernel_rfl) rfl rfl ?_
    (repeat' (first | refine awp_seq ?_ | refine awp_skip ?_ | refine awp_block ?_ | ((first | (refine awpF_region ?_; intro K hK) | refine CallK.pd (h78) ?_ | refine CallK.pg (fun _=>h78) ?_); simp only [push_cast,seval,hn,encNd,Int.toNat_natCast,beq_self_eq_true]; refine wObW ?_) | (refine hK _ ?_; clear hK K) | (refine wCd ?_ ?_) | (with_reducible intro hb; exfalso; revert hb; simp [hn,encNd,Int.toNat_natCast,beq_self_eq_true]; done) | (with_reducible intro hb; exfalso; replace hb:=wHb hb; omega; done) | (with_reducible intro hb; replace hb:=wHb hb) | (refine wEx ?_) | (refine wRp ?_; refine fin_of (by simp only [push_cast,seval,hn,encNd,Int.toNat_natCast,beq_self_eq_true]; first | done | rfl) ob1 ?_) | (refine inblock_norm ?_)))
    rfl
  · rw [if_neg (by decide)]
    have h:=h102 (hc rfl)
    generalize lessV _ T i=v at *
    refine pd_of (fn:=Tryz.f84) [.tmp 10] (by kernel_rfl) rfl (by kernel_rfl) (Nat.le_of_ble_eq_true rfl) (by kernel_rfl) rfl rfl ?_
    (repeat' (first | refine awp_seq ?_ | refine awp_skip ?_ | refine awp_block ?_ | ((first | (refine awpF_region ?_; intro K hK) | refine CallK.pd (h78) ?_ | refine CallK.pg (fun _=>h78) ?_ | refine CallK.pd (h) ?_ | refine CallK.pg (fun _=>h) ?_); simp only [push_cast,seval,hn,encNd,Int.toNat_natCast,beq_self_eq_true]; refine wObW ?_) | (refine hK _ ?_; clear hK K) | (refine wCd ?_ ?_) | (with_reducible intro hb; exfalso; revert hb; simp [hn,encNd,Int.toNat_natCast,beq_self_eq_true]; done) | (with_reducible intro hb; exfalso; replace hb:=wHb hb; omega; done) | (with_reducible intro hb; replace hb:=wHb hb) | (refine wEx ?_) | (refine wRp ?_; refine fin_of (by simp only [push_cast,seval,hn,encNd,Int.toNat_natCast,beq_self_eq_true]; first | done | rfl) ob1 ?_) | (refine inblock_norm ?_)))
    rfl
theorem one_u {f:List Nd} {T:List (List Int)} {n:Nd} {a:Fm} {p:Nat} (ht:At f p (.u n a)) (hf:f.length≤1000) (hT:T.length≤1000000) (ho:okN n) : OneC f T (.u n a) p:=by
  intro rows i hi hl h1 hkid
  have hn:f[p]? = some n:=ht.node
  have hlt:p<f.length:=(List.getElem?_eq_some_iff.1 hn).1
  have hq:∀ row,row∈f.map encNd→row.length=6:=fun row hr=>by obtain ⟨_,_,rfl⟩:=List.mem_map.1 hr; rfl
  have hw:=ht.1.1
  have h78:=p78 n
  have h104:=fun (k:Nat) (hk:k≤20)=>p104 (t:=a) (p+1) (i+k) hT hkid h1 hl (by omega)
  have hle:=fun k=>vd_le a T (i+k)
  have hvd:vd (.u n a) T i=if n.op=3 then ntV (vd a T i) else if n.op=6 then allS (fun k=>vd a T (i+n.lo.toNat+k)) (n.hi.toNat+1 - n.lo.toNat) else anyS (fun k=>vd a T (i+n.lo.toNat+k)) (n.hi.toNat+1 - n.lo.toNat):=rfl
  rw [hvd]
  obtain ⟨op,l,r,k,lo,hi'⟩:=n
  unfold okN opOk at ho
  dsimp only at ho hw ⊢
  simp only [encNd] at h78
  have ep:ptV op=1:=by rcases hw with rfl | rfl | rfl <;> rfl
  rw [ep] at h78
  obtain ⟨loN,rfl⟩ : ∃ x:Nat,lo=x:=⟨lo.toNat,by omega⟩
  obtain ⟨hiN,rfl⟩ : ∃ x:Nat,hi'=x:=⟨hi'.toNat,by omega⟩
  simp only [Int.toNat_natCast]
  rcases hw with rfl | rfl | rfl
  · rw [if_pos rfl]
    have h:=h104 0 (by omega)
    have hv:=hle 0
    rw [Nat.add_zero] at hv
    rw [Nat.add_zero] at h
    generalize vd a T i=v at *
    have h103:=p103 v hv
    push_cast at h
    refine pd_of (fn:=Tryz.f84) [.tmp 10] (by kernel_rfl) rfl (by kernel_rfl) (Nat.le_of_ble_eq_true rfl) (by kernel_rfl) rfl rfl ?_
    (repeat' (first | refine awp_seq ?_ | refine awp_skip ?_ | refine awp_block ?_ | ((first | ((fail_if_success refine awpF_region (id:=8) ?_); refine awpF_region ?_; intro K hK) | refine CallK.pd (h78) ?_ | refine CallK.pg (fun _=>h78) ?_); simp only [push_cast,seval,hn,encNd,Int.toNat_natCast,beq_self_eq_true]; refine wObW ?_) | (refine hK _ ?_; clear hK K) | (refine wCd ?_ ?_) | (with_reducible intro hb; exfalso; revert hb; simp [hn,encNd,Int.toNat_natCast,beq_self_eq_true]; done) | (with_reducible intro hb; exfalso; replace hb:=wHb hb; omega; done) | (with_reducible intro hb; replace hb:=wHb hb) | (refine wEx ?_) | (refine wRp ?_; refine fin_of (by simp only [push_cast,seval,hn,encNd,Int.toNat_natCast,beq_self_eq_true]; first | done | rfl) ob1 ?_) | (refine inblock_norm ?_)))
    refine awpF_region ?_; intro K hK; simp only [push_cast,seval]
    refine wOb ?_
    refine CallK.pd (h) ?_; refine wXo ?_
    refine CallK.pd (h103) ?_; refine wXo ?_
    refine hK _ ?_; clear hK K
    refine wRet ?_
    rfl
  · rw [if_neg (by decide),if_pos rfl]
    have h:=fun (k:Nat) (hk:k≤hiN - loN)=>h104 (loN+k) (by omega)
    have hg0:∀ k,vd a T (i+(loN+k))=vd a T (i+loN+k):=fun k=>by rw [Nat.add_assoc]
    simp only [hg0] at h
    have hv:∀ k,vd a T (i+loN+k)≤2:=fun k=>vd_le a T _
    generalize hg:(fun k=>vd a T (i+loN+k))=g at *
    have hgk:∀ k,vd a T (i+loN+k)=g k:=fun k=>by rw [← hg]
    simp only [hgk] at hv h
    push_cast at h
    clear hg hgk hg0 hle h104
    refine pd_of (fn:=Tryz.f84) [.tmp 10] (by kernel_rfl) rfl (by kernel_rfl) (Nat.le_of_ble_eq_true rfl) (by kernel_rfl) rfl rfl ?_
    (repeat' (first | refine awp_seq ?_ | refine awp_skip ?_ | refine awp_block ?_ | ((first | ((fail_if_success refine awpF_region (id:=14) ?_); refine awpF_region ?_; intro K hK) | refine CallK.pd (h78) ?_ | refine CallK.pg (fun _=>h78) ?_); simp only [push_cast,seval,hn,encNd,Int.toNat_natCast,beq_self_eq_true]; refine wObW ?_) | (refine hK _ ?_; clear hK K) | (refine wCd ?_ ?_) | (with_reducible intro hb; exfalso; revert hb; simp [hn,encNd,Int.toNat_natCast,beq_self_eq_true]; done) | (with_reducible intro hb; exfalso; replace hb:=wHb hb; omega; done) | (with_reducible intro hb; replace hb:=wHb hb) | (refine wEx ?_) | (refine wRp ?_; refine fin_of (by simp only [push_cast,seval,hn,encNd,Int.toNat_natCast,beq_self_eq_true]; first | done | rfl) ob1 ?_) | (refine inblock_norm ?_)))
    refine wRg ?_
    refine awp_seq ?_
    refine awp_seq ?_
    refine wRg ?_
    refine awp_block ?_
    refine awp_loopP (α:=Nat) (st:=fun x=>⟨[(0,.d (.sl rows)),(4,.d (.int .i64 i)),(11,.ptr 0 0 0),(12,.d (.int .i64 ((p:Int)+1))),(14,.d (.int .i64 (allS g x:Nat))),(15,.d (.int .i64 ((loN:Int)+x)))],
        [.cells [.d (.int .i64 6),.d (.int .i64 l),.d (.int .i64 r),.d (.int .i64 k),.d (.int .i64 loN),.d (.int .i64 hiN)]]⟩)
      (inv:=fun x=>x≤hiN+1 - loN) (μ:=fun x=>hiN+1 - loN - x) (x0:=0) (r0:=[0]) (Nat.zero_le _) ?_ ?_
    · simp only [allS]
      exact wRen
    intro k' hk
    have hs1:=allS_le g k'
    refine awp_seq ?_
    refine awp_seq ?_
    refine wRg ?_
    refine wCd ?_ ?_
    · intro h2; replace h2:=wHb h2
      have hk2:k'≤hiN - loN:=by omega
      have hc:=p105 (allS g k') (g k') hs1 (hv k')
      refine awp_skip ?_
      refine awp_seq ?_
      refine awp_block ?_
      refine awpF_region ?_; intro K hK; simp only [push_cast,seval]
      (try simp (disch:=omega) only [wrapI])
      refine wOb ?_
      refine CallK.pd (h k' hk2) ?_; refine wXo ?_
      refine CallK.pd (hc) ?_; refine wXo ?_
      refine hK _ ?_; clear hK K
      refine inblock_norm ?_
      refine wRg ?_
      refine round_endG (k'+1) ([0]) ⟨by omega,by omega,?_⟩
      rw [show allS g (k'+1)=bothV (allS g k') (g k') from rfl]
      push_cast
      rw [show (loN:Int)+(k'+1)=loN+k'+1 by omega]
      exact wRen
    · intro h2; replace h2:=wHb h2
      obtain rfl:k'=hiN+1 - loN:=by omega
      refine wEx ?_
      refine awp_seq ?_
      refine wRg ?_
      refine wRet ?_
      rfl
  · rw [if_neg (by decide),if_neg (by decide)]
    have h:=fun (k:Nat) (hk:k≤hiN - loN)=>h104 (loN+k) (by omega)
    have hg0:∀ k,vd a T (i+(loN+k))=vd a T (i+loN+k):=fun k=>by rw [Nat.add_assoc]
    simp only [hg0] at h
    have hv:∀ k,vd a T (i+loN+k)≤2:=fun k=>vd_le a T _
    generalize hg:(fun k=>vd a T (i+loN+k))=g at *
    have hgk:∀ k,vd a T (i+loN+k)=g k:=fun k=>by rw [← hg]
    simp only [hgk] at hv h
    push_cast at h
    clear hg hgk hg0 hle h104
    refine pd_of (fn:=Tryz.f84) [.tmp 10] (by kernel_rfl) rfl (by kernel_rfl) (Nat.le_of_ble_eq_true rfl) (by kernel_rfl) rfl rfl ?_
    (repeat' (first | refine awp_seq ?_ | refine awp_skip ?_ | refine awp_block ?_ | ((first | ((fail_if_success refine awpF_region (id:=21) ?_); refine awpF_region ?_; intro K hK) | refine CallK.pd (h78) ?_ | refine CallK.pg (fun _=>h78) ?_); simp only [push_cast,seval,hn,encNd,Int.toNat_natCast,beq_self_eq_true]; refine wObW ?_) | (refine hK _ ?_; clear hK K) | (refine wCd ?_ ?_) | (with_reducible intro hb; exfalso; revert hb; simp [hn,encNd,Int.toNat_natCast,beq_self_eq_true]; done) | (with_reducible intro hb; exfalso; replace hb:=wHb hb; omega; done) | (with_reducible intro hb; replace hb:=wHb hb) | (refine wEx ?_) | (refine wRp ?_; refine fin_of (by simp only [push_cast,seval,hn,encNd,Int.toNat_natCast,beq_self_eq_true]; first | done | rfl) ob1 ?_) | (refine inblock_norm ?_)))
    refine wRg ?_
    refine awp_seq ?_
    refine awp_seq ?_
    refine wRg ?_
    refine awp_block ?_
    refine awp_loopP (α:=Nat) (st:=fun x=>⟨[(0,.d (.sl rows)),(4,.d (.int .i64 i)),(11,.ptr 0 0 0),(12,.d (.int .i64 ((p:Int)+1))),(16,.d (.int .i64 (anyS g x:Nat))),(17,.d (.int .i64 ((loN:Int)+x)))],
        [.cells [.d (.int .i64 7),.d (.int .i64 l),.d (.int .i64 r),.d (.int .i64 k),.d (.int .i64 loN),.d (.int .i64 hiN)]]⟩)
      (inv:=fun x=>x≤hiN+1 - loN) (μ:=fun x=>hiN+1 - loN - x) (x0:=0) (r0:=[0]) (Nat.zero_le _) ?_ ?_
    · simp only [anyS]
      exact wRen
    intro k' hk
    have hs1:=anyS_le g k'
    refine awp_seq ?_
    refine awp_seq ?_
    refine wRg ?_
    refine wCd ?_ ?_
    · intro h2; replace h2:=wHb h2
      have hk2:k'≤hiN - loN:=by omega
      have hc:=p106 (anyS g k') (g k') hs1 (hv k')
      refine awp_skip ?_
      refine awp_seq ?_
      refine awp_block ?_
      refine awpF_region ?_; intro K hK; simp only [push_cast,seval]
      (try simp (disch:=omega) only [wrapI])
      refine wOb ?_
      refine CallK.pd (h k' hk2) ?_; refine wXo ?_
      refine CallK.pd (hc) ?_; refine wXo ?_
      refine hK _ ?_; clear hK K
      refine inblock_norm ?_
      refine wRg ?_
      refine round_endG (k'+1) ([0]) ⟨by omega,by omega,?_⟩
      rw [show anyS g (k'+1)=eithV (anyS g k') (g k') from rfl]
      push_cast
      rw [show (loN:Int)+(k'+1)=loN+k'+1 by omega]
      exact wRen
    · intro h2; replace h2:=wHb h2
      obtain rfl:k'=hiN+1 - loN:=by omega
      refine wEx ?_
      refine awp_seq ?_
      refine wRg ?_
      refine wRet ?_
      rfl
end Go.Aw

namespace Go.Aw
set_option linter.unusedSimpArgs false
set_option linter.unusedVariables false
open Go.RowKit Go.Proofs
set_option maxRecDepth 100000

theorem one_b {f:List Nd} {T:List (List Int)} {n:Nd} {a b:Fm} {p:Nat} (ht:At f p (.b n a b)) (hf:f.length≤1000) (hT:T.length≤1000000) (ho:okN n) : OneC f T (.b n a b) p:=by
  intro rows i hi hl h1 hkid
  have hn:f[p]? = some n:=ht.node
  have hlt:p<f.length:=(List.getElem?_eq_some_iff.1 hn).1
  have hq:∀ row,row∈f.map encNd→row.length=6:=fun row hr=>by obtain ⟨_,_,rfl⟩:=List.mem_map.1 hr; rfl
  have hw:=ht.1.1
  have h78:=p78 n
  have hbeh:=ht.b.1.behind
  have h77:=p77 f (p+1) (by omega) (by omega)
  rw [hbeh] at h77
  have ha104:=p104 (t:=a) (p+1) i hT hkid.1 h1 hl (by omega)
  have hb104:=p104 (t:=b) (p+1+a.flat.length) i hT hkid.2 h1 hl (by omega)
  have hva:=vd_le a T i
  have hvb:=vd_le b T i
  have hvd:vd (.b n a b) T i=if n.op=4 then bothV (vd a T i) (vd b T i) else if n.op=5 then eithV (vd a T i) (vd b T i) else (untS (fun k=>vd a T (i+k)) (fun k=>vd b T (i+k)) n.lo.toNat (n.hi.toNat+1)).2:=rfl
  rw [hvd]
  have h107:=fun lo hh g1 g2 g3=>p107 (ta:=a) (tb:=b) n (p+1) (p+1+a.flat.length) i lo hh g1 g2 g3 hT hkid.1 hkid.2 h1 hl hi
  obtain ⟨op,l,r,k,lo,hi'⟩:=n
  unfold okN opOk at ho
  dsimp only at ho hw ⊢
  simp only [encNd] at h78 h107
  have ep:ptV op=2:=by rcases hw with rfl | rfl | rfl <;> rfl
  rw [ep] at h78
  obtain ⟨loN,rfl⟩ : ∃ x:Nat,lo=x:=⟨lo.toNat,by omega⟩
  obtain ⟨hiN,rfl⟩ : ∃ x:Nat,hi'=x:=⟨hi'.toNat,by omega⟩
  simp only [Int.toNat_natCast]
  generalize a.flat.length=al at *
  push_cast at h77
  rcases hw with rfl | rfl | rfl
  · rw [if_pos rfl]
    generalize vd a T i=va at *
    generalize vd b T i=vb at *
    have h:=p105 va vb hva hvb
    push_cast at ha104 hb104
    clear h107
    refine pd_of (fn:=Tryz.f84) [.tmp 10] (by kernel_rfl) rfl (by kernel_rfl) (Nat.le_of_ble_eq_true rfl) (by kernel_rfl) rfl rfl ?_
    (repeat' (first | refine awp_seq ?_ | refine awp_skip ?_ | refine awp_block ?_ | ((first | ((fail_if_success refine awpF_region (id:=10) ?_); refine awpF_region ?_; intro K hK) | refine CallK.pd (h78) ?_ | refine CallK.pg (fun _=>h78) ?_ | refine CallK.pd (h77) ?_ | refine CallK.pg (fun _=>h77) ?_); simp only [push_cast,seval,hn,encNd,Int.toNat_natCast,beq_self_eq_true]; refine wObW ?_) | (refine hK _ ?_; clear hK K) | (refine wCd ?_ ?_) | (with_reducible intro hb; exfalso; revert hb; simp [hn,encNd,Int.toNat_natCast,beq_self_eq_true]; done) | (with_reducible intro hb; exfalso; replace hb:=wHb hb; omega; done) | (with_reducible intro hb; replace hb:=wHb hb) | (refine wEx ?_) | (refine wRp ?_; refine fin_of (by simp only [push_cast,seval,hn,encNd,Int.toNat_natCast,beq_self_eq_true]; first | done | rfl) ob1 ?_) | (refine inblock_norm ?_)))
    refine awpF_region ?_; intro K hK; simp only [push_cast,seval]
    refine wOb ?_
    refine CallK.pd (ha104) ?_; refine wXo ?_
    refine CallK.pd (hb104) ?_; refine wXo ?_
    refine CallK.pd (h) ?_; refine wXo ?_
    refine hK _ ?_; clear hK K
    refine wRet ?_
    rfl
  · rw [if_neg (by decide),if_pos rfl]
    generalize vd a T i=va at *
    generalize vd b T i=vb at *
    have h:=p106 va vb hva hvb
    push_cast at ha104 hb104
    clear h107
    refine pd_of (fn:=Tryz.f84) [.tmp 10] (by kernel_rfl) rfl (by kernel_rfl) (Nat.le_of_ble_eq_true rfl) (by kernel_rfl) rfl rfl ?_
    (repeat' (first | refine awp_seq ?_ | refine awp_skip ?_ | refine awp_block ?_ | ((first | ((fail_if_success refine awpF_region (id:=12) ?_); refine awpF_region ?_; intro K hK) | refine CallK.pd (h78) ?_ | refine CallK.pg (fun _=>h78) ?_ | refine CallK.pd (h77) ?_ | refine CallK.pg (fun _=>h77) ?_); simp only [push_cast,seval,hn,encNd,Int.toNat_natCast,beq_self_eq_true]; refine wObW ?_) | (refine hK _ ?_; clear hK K) | (refine wCd ?_ ?_) | (with_reducible intro hb; exfalso; revert hb; simp [hn,encNd,Int.toNat_natCast,beq_self_eq_true]; done) | (with_reducible intro hb; exfalso; replace hb:=wHb hb; omega; done) | (with_reducible intro hb; replace hb:=wHb hb) | (refine wEx ?_) | (refine wRp ?_; refine fin_of (by simp only [push_cast,seval,hn,encNd,Int.toNat_natCast,beq_self_eq_true]; first | done | rfl) ob1 ?_) | (refine inblock_norm ?_)))
    refine awpF_region ?_; intro K hK; simp only [push_cast,seval]
    refine wOb ?_
    refine CallK.pd (ha104) ?_; refine wXo ?_
    refine CallK.pd (hb104) ?_; refine wXo ?_
    refine CallK.pd (h) ?_; refine wXo ?_
    refine hK _ ?_; clear hK K
    refine wRet ?_
    rfl
  · rw [if_neg (by decide),if_neg (by decide)]
    have h:=h107 loN hiN ⟨rfl,rfl⟩ (by omega) (by omega)
    generalize (untS _ _ loN (hiN+1)).2=v at *
    clear h107 ha104 hb104
    push_cast at h
    refine pd_of (fn:=Tryz.f84) [.tmp 10] (by kernel_rfl) rfl (by kernel_rfl) (Nat.le_of_ble_eq_true rfl) (by kernel_rfl) rfl rfl ?_
    (repeat' (first | refine awp_seq ?_ | refine awp_skip ?_ | refine awp_block ?_ | ((first | ((fail_if_success refine awpF_region (id:=28) ?_); refine awpF_region ?_; intro K hK) | refine CallK.pd (h78) ?_ | refine CallK.pg (fun _=>h78) ?_ | refine CallK.pd (h77) ?_ | refine CallK.pg (fun _=>h77) ?_); simp only [push_cast,seval,hn,encNd,Int.toNat_natCast,beq_self_eq_true]; refine wObW ?_) | (refine hK _ ?_; clear hK K) | (refine wCd ?_ ?_) | (with_reducible intro hb; exfalso; revert hb; simp [hn,encNd,Int.toNat_natCast,beq_self_eq_true]; done) | (with_reducible intro hb; exfalso; replace hb:=wHb hb; omega; done) | (with_reducible intro hb; replace hb:=wHb hb) | (refine wEx ?_) | (refine wRp ?_; refine fin_of (by simp only [push_cast,seval,hn,encNd,Int.toNat_natCast,beq_self_eq_true]; first | done | rfl) ob1 ?_) | (refine inblock_norm ?_)))
    refine awpF_region ?_; intro K hK; simp only [push_cast,seval]
    refine wOb ?_
    refine CallK.pd (h) ?_; refine wXo ?_
    refine hK _ ?_; clear hK K
    refine wRet ?_
    rfl
theorem one_all {f:List Nd} {T:List (List Int)} (hf:f.length≤1000) (hT:T.length≤1000000) (ho:∀ n,n∈f→okN n) (hc:∀ n,n∈f→n.op=2→colsOk n T) (t:Fm) (p:Nat) (ht:At f p t) : OneC f T t p:=by
  have hm:∀ {m:Nd},f[p]? = some m→m∈f:=List.mem_of_getElem?
  cases t with
  | z n=>exact one_z ht hf (hc n (hm ht.node))
  | u n a=>exact one_u ht hf hT (ho n (hm ht.node))
  | b n a b=>exact one_b ht hf hT (ho n (hm ht.node))
end Go.Aw

namespace Go.Aw
set_option linter.unusedSimpArgs false
set_option linter.unusedVariables false
open Go.RowKit Go.Proofs
set_option maxRecDepth 100000

theorem At.sub {f:List Nd} : ∀ {t:Fm} {q:Nat},At f q t→∀ p,q≤p→p<q+t.flat.length→∃ t',At f p t'
  | .z n,q,h,p,h1,h2=>by
    simp only [Fm.flat,List.length_singleton] at h2
    obtain rfl:p=q:=by omega
    exact ⟨_,h⟩
  | .u n a,q,h,p,h1,h2=>by
    simp only [Fm.flat,List.length_cons] at h2
    by_cases e:p=q
    · subst e; exact ⟨_,h⟩
    · exact h.u.sub p (by omega) (by omega)
  | .b n a b,q,h,p,h1,h2=>by
    simp only [Fm.flat,List.length_cons,List.length_append] at h2
    by_cases e:p=q
    · subst e; exact ⟨_,h⟩
    · by_cases e2:p<q+1+a.flat.length
      · exact h.b.1.sub p (by omega) (by omega)
      · exact h.b.2.sub p (by omega) (by omega)
def rowsD (T:List (List Int)) (tr:Nat→Fm) (n done:Nat) : List (List V):=(List.range n).map fun p=>if n - done≤p then [V.d (.sl ((vdRow T (tr p)).map encI))] else [V.nil]
theorem rowsD_len (T:List (List Int)) (tr:Nat→Fm) (n done:Nat) : (rowsD T tr n done).length=n:=by simp [rowsD]
theorem rowsD_get {T:List (List Int)} {tr:Nat→Fm} {n done p:Nat} (h:p<n) (hd:n - done≤p) : (rowsD T tr n done)[p]? = some [V.d (.sl ((vdRow T (tr p)).map encI))]:=by
  rw [rowsD,List.getElem?_map,List.getElem?_range h,Option.map_some,if_pos hd]
theorem rowsD_bel (T:List (List Int)) (tr:Nat→Fm) (n done m:Nat) : ∀ r,r∈rowsD T tr n done→V.belL m r=true:=by
  intro r hr
  obtain ⟨p,_,rfl⟩:=List.mem_map.1 hr
  split <;> rfl
theorem rowsD_zero (T:List (List Int)) (tr:Nat→Fm) (n:Nat) : rowsD T tr n 0=List.replicate n [V.nil]:=by
  apply List.ext_getElem?
  intro p
  rw [rowsD,List.getElem?_map,List.getElem?_replicate]
  by_cases h:p<n
  · rw [List.getElem?_range h,Option.map_some,if_neg (by omega),if_pos h]
  · rw [List.getElem?_eq_none (by simp; omega),if_neg h]
    rfl
theorem rowsD_nil {T:List (List Int)} {tr:Nat→Fm} {n done p:Nat} (h:p<n) (hd:p<n - done) : (rowsD T tr n done)[p]? = some [V.nil]:=by
  rw [rowsD,List.getElem?_map,List.getElem?_range h,Option.map_some,if_neg (by omega)]
theorem rowsD_step {T:List (List Int)} {tr:Nat→Fm} {n done:Nat} (hd:done<n) : (rowsD T tr n done).set (n - 1 - done) [V.d (.sl ((vdRow T (tr (n - 1 - done))).map encI))]=rowsD T tr n (done+1):=by
  apply List.ext_getElem?
  intro p
  by_cases h:p<n
  · by_cases e:p=n - 1 - done
    · subst e
      rw [List.getElem?_set_self (by rw [rowsD_len]; omega),rowsD_get h (by omega)]
    · rw [List.getElem?_set_ne (Ne.symm e)]
      by_cases hp:n - done≤p
      · rw [rowsD_get h hp,rowsD_get h (by omega)]
      · rw [rowsD_nil h (by omega),rowsD_nil h (by omega)]
  · rw [List.getElem?_eq_none (by simp [rowsD_len]; omega),List.getElem?_eq_none (by rw [rowsD_len]; omega)]
theorem bel_rows {m:Nat} {rows:List (List V)} (h:∀ r,r∈rows→V.belL m r=true) : Blk.bel m (.vrs 1 rows)=true:=by
  simp only [Blk.bel,List.all_eq_true]
  exact h
def tH (rows:List (List V)) (B:Blk) : List Blk:=[.vrs 1 rows,B]
theorem deep_tab {H:List Blk} {rows:List (List V)} {ds:List (List D)} {n:Nat} (h0:H[0]? = some (.vrs 1 rows)) (hn:n=rows.length) (hl:ds.length=rows.length)
    (h:∀ (i:Nat) (row:List V) (drow:List D),rows[i]? = some row→ds[i]? = some drow→∃ x y,row=[x]∧drow=[y]∧Deep H x y) : DeepV H (.ref 0 0 n) (.d (.sl ds)):=by
  subst hn
  refine .of _ _ (Deep.vrs 0 1 rows ds h0 hl (fun i drow hi => ?_) fun i row drow j x y hi hd hx hy => ?_)
  · have hlt:=(List.getElem?_eq_some_iff.1 hi).1
    obtain ⟨x,y,_,rfl,_⟩:=h i _ drow (List.getElem?_eq_getElem (by omega)) hi
    rfl
  · obtain ⟨x',y',rfl,rfl,hd'⟩:=h i row drow hi hd
    cases j with
    | zero=>simp at hx hy; subst hx hy; exact hd'
    | succ j=>simp at hx
def rowsX (T:List (List Int)) (tr:Nat→Fm) (n done:Nat) : List (List D):=(List.range n).map fun p=>if n - done≤p then [.sl ((vdRow T (tr p)).map encI)] else [.sl []]
theorem rowsX_len (T:List (List Int)) (tr:Nat→Fm) (n done:Nat) : (rowsX T tr n done).length=n:=by simp [rowsX]
theorem rowsX_get {T:List (List Int)} {tr:Nat→Fm} {n done p:Nat} (h:p<n) (hd:n - done≤p) : (rowsX T tr n done)[p]? = some [.sl ((vdRow T (tr p)).map encI)]:=by
  rw [rowsX,List.getElem?_map,List.getElem?_range h,Option.map_some,if_pos hd]
theorem rowsX_one (T:List (List Int)) (tr:Nat→Fm) (n done p:Nat) (c:D) : one1 ((rowsX T tr n done).set p [c]):=by
  intro r hr
  rcases List.mem_or_eq_of_mem_set hr with hr | rfl
  · obtain ⟨q,_,rfl⟩:=List.mem_map.1 hr
    split <;> rfl
  · rfl
theorem deep_rows {H:List Blk} {T:List (List Int)} {tr:Nat→Fm} {n done p:Nat} {c:V} {e:D} (hc:Deep H c e) (i:Nat) (row:List V) (drow:List D) (h1:((rowsD T tr n done).set p [c])[i]? = some row) (h2:((rowsX T tr n done).set p [e])[i]? = some drow) :
    ∃ x y,row=[x]∧drow=[y]∧Deep H x y:=by
  by_cases hi:i=p
  · subst hi
    have hlt:=(List.getElem?_eq_some_iff.1 h1).1
    rw [List.length_set] at hlt
    rw [List.getElem?_set_self hlt] at h1
    rw [List.getElem?_set_self (by rw [rowsX_len]; rwa [rowsD_len] at hlt)] at h2
    cases h1
    cases h2
    exact ⟨c,e,rfl,rfl,hc⟩
  · rw [List.getElem?_set_ne (Ne.symm hi)] at h1 h2
    rw [rowsD,List.getElem?_map] at h1
    rw [rowsX,List.getElem?_map] at h2
    cases hr:(List.range n)[i]? with
    | none=>rw [hr] at h1; cases h1
    | some q =>
      rw [hr] at h1 h2
      simp only [Option.map_some,Option.some.injEq] at h1 h2
      subst h1 h2
      by_cases hq:n - done≤q
      · rw [if_pos hq,if_pos hq]
        exact ⟨_,_,rfl,rfl,.d _⟩
      · rw [if_neg hq,if_neg hq]
        exact ⟨_,_,rfl,rfl,.nil⟩
theorem bel_tH {rows:List (List V)} {B:Blk} (h:∀ r,r∈rows→V.belL 2 r=true) (hB:Blk.bel 2 B=true) : belHeap 2 (tH rows B)=true:=by
  show (Blk.bel 2 _&&(Blk.bel 2 B&&true))=true
  rw [bel_rows h,hB]
  rfl
theorem kids_of {f:List Nd} {T:List (List Int)} {tr:Nat→Fm} {rows:List (List D)} {p:Nat} {t:Fm} (ht:At f p t) (htr:∀ p,p<f.length→At f p (tr p)) (hr:∀ q,p<q→q<f.length→rows[q]? = some [.sl ((vdRow T (tr q)).map encI)]) : Kids T rows p t:=by
  have hl:=ht.len
  cases t with
  | z n=>trivial
  | u n a =>
    have hpos:=a.len_pos
    simp only [Fm.flat,List.length_cons] at hl
    have:=hr (p+1) (by omega) (by omega)
    rwa [(htr (p+1) (by omega)).uniq ht.u] at this
  | b n a b =>
    have hpa:=a.len_pos
    have hpb:=b.len_pos
    simp only [Fm.flat,List.length_cons,List.length_append] at hl
    have h1:=hr (p+1) (by omega) (by omega)
    have h2:=hr (p+1+a.flat.length) (by omega) (by omega)
    rw [(htr (p+1) (by omega)).uniq ht.b.1] at h1
    rw [(htr (p+1+a.flat.length) (by omega)).uniq ht.b.2] at h2
    exact ⟨h1,h2⟩
theorem ren_rows (T:List (List Int)) (tr:Nat→Fm) (n done p j m:Nat) : Blk.ren [0,j] (.vrs 1 ((rowsD T tr n done).set p [.ref 1 0 m]))=.vrs 1 ((rowsD T tr n done).set p [.ref j 0 m]):=by
  simp only [Blk.ren,List.map_set]
  congr 2
  conv=>rhs; rw [← List.map_id (rowsD T tr n done)]
  refine List.map_congr_left fun r hr => ?_
  obtain ⟨q,_,rfl⟩:=List.mem_map.1 hr
  split <;> rfl
theorem ren_tab {T:List (List Int)} {tr:Nat→Fm} {n done p j m:Nat} {H:List Blk} {k:Nat} {rows:List (List D)} {tm tm':List (Nat × V)} (hj:j≠0) (h0:H[0]? = some (.vrs 1 ((rowsD T tr n done).set p [.ref j 0 m]))) (h1:H[j]? = some (.data k rows))
    (ht:subTm (renTm [0,j] tm') tm) (hb:belTm 2 tm'=true) : Ren [] [0,j] ⟨tm',tH ((rowsD T tr n done).set p [.ref 1 0 m]) (.data k rows)⟩ ⟨tm,H⟩:=by
  refine ren_of ?_ rfl (fun i b hi => ?_) ht hb (fun b hm => ?_)
  · simp [Ne.symm hj]
  · match i with
    | 0 =>
      simp [tH] at hi
      subst hi
      exact ⟨0,rfl,by rw [ren_rows]; exact h0⟩
    | 1 =>
      simp [tH] at hi
      subst hi
      exact ⟨j,rfl,h1⟩
    | i+2=>simp [tH] at hi
  · simp only [tH,List.mem_cons,List.not_mem_nil,or_false] at hm
    rcases hm with rfl | rfl
    · refine bel_rows fun r hr => ?_
      rcases List.mem_or_eq_of_mem_set hr with hr | rfl
      · exact rowsD_bel _ _ _ _ _ r hr
      · rfl
    · rfl
theorem vdRow_take (T:List (List Int)) (t:Fm) {i:Nat} (hi:i≤T.length) : (vdRow T t).take (i+1)=(vdRow T t).take i++[((vd t T i:Nat) : Int)]:=by
  have:=vdRow_get T t i
  rw [Nat.min_eq_left hi] at this
  rw [List.take_add_one,this]
  rfl
theorem scr_rows (T:List (List Int)) (tr:Nat→Fm) (n done p:Nat) (c c':List V) : (((rowsD T tr n done).set p c).map fun r=>scrL 1 r).set p c'=(rowsD T tr n done).set p c':=by
  rw [List.map_set,List.set_set]
  congr 1
  conv=>rhs; rw [← List.map_id (rowsD T tr n done)]
  refine List.map_congr_left fun r hr => ?_
  obtain ⟨q,_,rfl⟩:=List.mem_map.1 hr
  split <;> rfl
theorem frz_tab {T:List (List Int)} {tr:Nat→Fm} {n done p m:Nat} {rows:List (List D)} {tm tm':List (Nat × V)} (hm:rows.length=m) (ht:tmFrz 1 rows tm=tm') :
    St.frz ⟨tm,tH ((rowsD T tr n done).set p [.ref 1 0 m]) (.data 1 rows)⟩ 1=⟨tm',tH ((rowsD T tr n done).set p [.d (.sl rows)]) .gone⟩:=by
  have h0:St.frz ⟨tm,tH ((rowsD T tr n done).set p [.ref 1 0 m]) (.data 1 rows)⟩ 1=⟨tmFrz 1 rows tm,tH (((rowsD T tr n done).set p [.ref 1 0 m]).map fun r=>V.frzL 1 rows r) .gone⟩:=rfl
  rw [h0,ht,List.map_set]
  congr 2
  have e1:(rowsD T tr n done).map (fun r=>V.frzL 1 rows r)=rowsD T tr n done:=by
    conv=>rhs; rw [← List.map_id (rowsD T tr n done)]
    refine List.map_congr_left fun r hr => ?_
    obtain ⟨q,_,rfl⟩:=List.mem_map.1 hr
    split <;> rfl
  rw [e1]
  congr 1
  simp [V.frzL,V.frz,hm.symm]
def cellI (i:Nat) : V:=if i=0 then .nil else .ref 1 0 i
def blkI (B:Blk) (vs:List Int) (i:Nat) : Blk:=if i=0 then B else .data 1 ((vs.take i).map encI)
set_option maxHeartbeats 1000000 in
theorem p52 (f:List Nd) (T:List (List Int)) (t:Fm) (ht:At f 0 t) (hft:f.length=t.flat.length) (hf:f.length≤1000) (hT:T.length≤1000) (ho:∀ n,n∈f→okN n) (hc:∀ n,n∈f→n.op=2→colsOk n T) :
    PD Tryz.prog 57 [.sl (f.map encNd),.sl (T.map encR)] (.d (.sl ((vdRow T t).map encI))):=by
  have hpos:=t.len_pos
  have hex:∀ p,p<f.length→∃ t',At f p t':=fun p hp=>ht.sub p (Nat.zero_le _) (by omega)
  let tr:Nat→Fm:=fun p=>if h:p<f.length then (hex p h).choose else t
  have htr:∀ p,p<f.length→At f p (tr p):=fun p hp=>by
    simp only [tr,dif_pos hp]
    exact (hex p hp).choose_spec
  have ht0:tr 0=t:=(htr 0 (by omega)).uniq ht
  generalize tr=tr at *
  refine pdv_of (fn:=Tryz.f57) [.tmp 4] (by kernel_rfl) rfl (by kernel_rfl) (Nat.le_of_ble_eq_true rfl) (by kernel_rfl) rfl ?_
  refine awp_seq ?_
  refine wRg ?_
  refine awp_seq ?_
  refine awp_regionX 2 rfl ?_; intro K hK; refine wXo ?_
  refine mkV_X (k1:=.i64) (k2:=.i64) (n:=f.length) (m:=f.length) (by simp only [push_cast,seval]) (by simp only [push_cast,seval]) tel124 tzero24 tby24 (by omega) (by omega) (by omega) (by omega) ?_
  simp only [push_cast,seval]
  refine hK _ ?_; clear hK K
  refine awp_seq ?_
  refine awp_seq ?_
  refine wRg ?_
  refine awp_virt 4 1 rfl ?_
  refine awp_block ?_
  refine awp_loopP (α:=Nat × Blk) (st:=fun x=>⟨[(0,.d (.sl (f.map encNd))),(1,.d (.sl (T.map encR))),(5,.ref 0 0 f.length),(6,.d (.int .i64 ((f.length:Int) - 1 - x.1)))],tH (rowsD T tr f.length x.1) x.2⟩)
    (inv:=fun x=>x.1≤f.length∧Blk.bel 0 x.2=true) (μ:=fun x=>f.length - x.1) (x0:=(0,.data 1 [])) (r0:=List.range 2) ⟨Nat.zero_le _,rfl⟩ ?_ ?_
  · dsimp only
    rw [rowsD_zero]
    refine ren_same rfl (by simp) ?_ rfl (by simp [push_cast,seval])
    refine bel_tH (fun r hr => ?_) rfl
    obtain ⟨_,rfl⟩:=List.mem_replicate.1 hr
    rfl
  rintro ⟨done,B⟩ ⟨hd,hB⟩
  dsimp only at hd hB ⊢
  refine awp_seq ?_
  refine awp_seq ?_
  refine wRg ?_
  refine wCd ?_ ?_
  · intro h1; replace h1:=wHb h1
    have hdl:done<f.length:=by omega
    obtain ⟨p,hp⟩ : ∃ p,p=f.length - 1 - done:=⟨_,rfl⟩
    have hpl:p<f.length:=by omega
    have ep:(f.length:Int) - 1 - done=(p:Int):=by omega
    rw [ep]
    have hrl:∀ c,((rowsD T tr f.length done).set p c).length=f.length:=fun c=>by rw [List.length_set,rowsD_len]
    have hself:∀ c,((rowsD T tr f.length done).set p c)[p]? = some c:=fun c=>List.getElem?_set_self (by rw [rowsD_len]; exact hpl)
    have hset2:∀ c c',((rowsD T tr f.length done).set p c).set p c'=(rowsD T tr f.length done).set p c':=fun c c'=>List.set_set ..
    have hnil:(rowsD T tr f.length done).set p [V.nil]=rowsD T tr f.length done:=by
      have:=rowsD_nil (T:=T) (tr:=tr) hpl (show p<f.length - done by omega)
      obtain ⟨q1,q2⟩:=List.getElem?_eq_some_iff.1 this
      conv=>rhs; rw [← List.set_getElem_self q1]
      rw [q2]
    have hbelr:∀ c,V.belL 2 c=true→∀ r,r∈(rowsD T tr f.length done).set p c→V.belL 2 r=true:=fun c hc r hr=>by
      rcases List.mem_or_eq_of_mem_set hr with hr | rfl
      · exact rowsD_bel _ _ _ _ _ r hr
      · exact hc
    have hone:=fun (e:D) (i:Nat) (hi:i≤1000000)=>one_all (T:=T) hf (by omega) ho hc (tr p) p (htr p hpl) ((rowsX T tr f.length done).set p [e]) i hi (by rw [List.length_set,rowsX_len]; omega) (rowsX_one _ _ _ _ _ _)
      (kids_of (htr p hpl) htr fun q h1 h2=>by rw [List.getElem?_set_ne (by omega)]; exact rowsX_get h2 (by omega))
    refine awp_skip ?_
    refine awp_seq ?_
    refine awp_block ?_
    refine awp_seq ?_
    refine wRg ?_
    refine awp_block ?_
    refine awp_loopP (α:=Nat) (st:=fun i=>⟨[(0,.d (.sl (f.map encNd))),(1,.d (.sl (T.map encR))),(5,.ref 0 0 f.length),(6,.d (.int .i64 (p:Int))),(7,.d (.int .i64 i))],tH ((rowsD T tr f.length done).set p [cellI i]) (blkI B (vdRow T (tr p)) i)⟩)
      (inv:=fun i=>i≤T.length+1) (μ:=fun i=>T.length+1 - i) (x0:=0) (r0:=List.range 2) (Nat.zero_le _) ?_ ?_
    · rw [show cellI 0=.nil from rfl,show blkI B (vdRow T (tr p)) 0=B from rfl,hnil]
      refine ren_same rfl (by simp) (bel_tH (rowsD_bel _ _ _ _ _) (Blk.bel_up (Nat.zero_le _) _ hB)) rfl (by simp [push_cast,seval])
    intro i hi
    refine awp_seq ?_
    refine awp_seq ?_
    refine wRg ?_
    refine wCd ?_ ?_
    · intro h2; replace h2:=wHb h2
      have hi2:i≤T.length:=by omega
      refine awp_skip ?_
      refine awp_seq ?_
      refine awp_block ?_
      rcases Nat.eq_zero_or_pos i with rfl | hipos
      · have h82:=hone (.sl []) 0 (by omega)
        have hhs:=hself [.nil]
        have hdt:=fun H (h:H[0]? = some (Blk.vrs 1 ((rowsD T tr f.length done).set p [V.nil])))=>deep_tab h (by rw [hrl]) (by rw [List.length_set,rowsX_len,hrl]) (deep_rows (H:=H) (T:=T) (tr:=tr) (n:=f.length) (done:=done) (p:=p) .nil)
        rw [show cellI 0=.nil from rfl,show blkI B (vdRow T (tr p)) 0=B from rfl]
        unfold tH
        generalize hrw:(rowsD T tr f.length done).set p [V.nil]=rws at *
        refine awpF_drawK (m:=11) [0,1,2,3,4,5,6,7,8,9,10] [12,13,14,15] rfl (by kernel_rfl) (by kernel_rfl) (by kernel_rfl) ?_; intro K hK; simp only [push_cast,seval,hhs,Int.toNat_natCast]
        refine ⟨by omega,by omega,?_⟩
        push_cast at h82
        refine callROc (vs:=[.ref 0 0 f.length,.d (.sl (f.map encNd)),.d (.int .i64 p),.d (.sl (T.map encR)),.d (.int .i64 0)]) (by simp only [push_cast,seval]) (by simp only [push_cast,seval]) (by exact ⟨hdt _ rfl,DeepV.dd _,DeepV.dd _,DeepV.dd _,DeepV.dd _,trivial⟩) h82 rfl ?_
        simp only [push_cast,seval,hhs,Int.toNat_natCast]
        refine ⟨by omega,by omega,?_⟩
        refine hK _ ?_; clear hK K
        refine inblock_norm ?_
        refine wRg ?_
        refine round_endG 1 [0,3] ⟨by omega,by omega,?_⟩
        have hv:blkI B (vdRow T (tr p)) 1=.data 1 [[.int .i64 (vd (tr p) T 0:Nat)]]:=by
          rw [blkI,if_neg (by decide),vdRow_take _ _ (by omega)]
          rfl
        rw [hv,show cellI 1=.ref 1 0 1 from rfl]
        refine ren_tab (by decide) (by simp only [← hrw,List.set_set]; rfl) rfl (by simp [push_cast,seval]) rfl
      · have h82:=hone (.sl (((vdRow T (tr p)).take i).map encI)) i (by omega)
        have hhs:=hself [.ref 1 0 i]
        have hlen:(((vdRow T (tr p)).take i).map encI).length=i:=by
          rw [List.length_map,List.length_take,vdRow_len]
          omega
        have hdt:=fun H (h:H[0]? = some (Blk.vrs 1 ((rowsD T tr f.length done).set p [V.ref 1 0 i]))) (hd:Deep H (.ref 1 0 i) (.sl (((vdRow T (tr p)).take i).map encI)))=>deep_tab h (by rw [hrl]) (by rw [List.length_set,rowsX_len,hrl]) (deep_rows (H:=H) (T:=T) (tr:=tr) (n:=f.length) (done:=done) (p:=p) hd)
        rw [show cellI i=.ref 1 0 i from if_neg (by omega),show blkI B (vdRow T (tr p)) i=.data 1 (((vdRow T (tr p)).take i).map encI) from if_neg (by omega)]
        unfold tH
        generalize hrw:(rowsD T tr f.length done).set p [V.ref 1 0 i]=rws at *
        generalize hvs:((vdRow T (tr p)).take i).map encI=vs at *
        have hdp:Deep [Blk.vrs 1 rws,Blk.data 1 vs] (.ref 1 0 i) (.sl vs):=by
          have:=Deep.data (H:=[Blk.vrs 1 rws,Blk.data 1 vs]) 1 0 i 1 vs rfl (by omega)
          rw [List.drop_zero,List.take_of_length_le (by omega)] at this
          exact this
        refine awpF_drawK (m:=11) [0,1,2,3,4,5,6,7,8,9,10] [12,13,14,15] rfl (by kernel_rfl) (by kernel_rfl) (by kernel_rfl) ?_; intro K hK; simp only [push_cast,seval,hhs,Int.toNat_natCast]
        refine ⟨by omega,by omega,?_⟩
        refine callROc (vs:=[.ref 0 0 f.length,.d (.sl (f.map encNd)),.d (.int .i64 p),.d (.sl (T.map encR)),.d (.int .i64 i)]) (by simp only [push_cast,seval]) (by simp only [push_cast,seval]) (by exact ⟨hdt _ rfl hdp,DeepV.dd _,DeepV.dd _,DeepV.dd _,DeepV.dd _,trivial⟩) h82 rfl ?_
        simp only [push_cast,seval,hhs,Int.toNat_natCast]
        refine ⟨fun h=>h.elim,by omega,by omega,by omega,by omega,?_⟩
        refine hK _ ?_; clear hK K
        refine inblock_norm ?_
        refine wRg ?_
        refine round_endG (i+1) [0,1] ⟨by omega,by omega,?_⟩
        have hv:blkI B (vdRow T (tr p)) (i+1)=.data 1 (vs++[[.int .i64 (vd (tr p) T i:Nat)]]):=by
          rw [blkI,if_neg (by omega),vdRow_take _ _ hi2,List.map_append,hvs]
          rfl
        rw [hv,show cellI (i+1)=.ref 1 0 (i+1) from if_neg (by omega)]
        refine ren_tab (by decide) (by rw [← hrw,scr_rows]; rfl) (by rw [List.take_of_length_le (by omega)]; rfl) (by simp [push_cast,seval]) rfl
    · intro h2; replace h2:=wHb h2
      obtain rfl:i=T.length+1:=by omega
      refine wEx ?_
      refine inblock_norm ?_
      have hv:blkI B (vdRow T (tr p)) (T.length+1)=.data 1 ((vdRow T (tr p)).map encI):=by
        rw [blkI,if_neg (by omega),List.take_of_length_le (by rw [vdRow_len]; omega)]
      rw [hv,show cellI (T.length+1)=.ref 1 0 (T.length+1) from if_neg (by omega)]
      refine awp_frz 1 ?_
      rw [frz_tab (by rw [List.length_map,vdRow_len]) rfl,hp,rowsD_step hdl]
      rw [show ((f.length - 1 - done:Nat) : Int)=(f.length:Int) - 1 - done by omega]
      simp only [tmFrz,V.frz,show ¬ (0=1) from by decide,if_false]
      refine wRg ?_
      refine round_endG (done+1,.gone) (List.range 2) ⟨by dsimp only; omega,⟨by dsimp only; omega,rfl⟩,?_⟩
      dsimp only
      rw [show (f.length:Int) - 1 - ((done+1:Nat) : Int)=(f.length:Int) - 1 - done - 1 by push_cast; omega]
      refine ren_same rfl (by simp) (bel_tH (rowsD_bel _ _ _ _ _) rfl) rfl (by simp [push_cast,seval])
  · intro h1; replace h1:=wHb h1
    obtain rfl:done=f.length:=by omega
    have h0:=rowsD_get (T:=T) (tr:=tr) (n:=f.length) (done:=f.length) (p:=0) (by omega) (by omega)
    have hrl:=rowsD_len T tr f.length f.length
    rw [ht0] at h0
    unfold tH
    generalize rowsD T tr f.length f.length=rws at *
    refine wEx ?_
    refine awp_seq ?_
    refine awpF_region ?_; intro K hK; simp only [push_cast,seval,h0]; refine wKk hK ?_; clear hK K
    refine wRet ?_
    exact DeepV.dd _
end Go.Aw
