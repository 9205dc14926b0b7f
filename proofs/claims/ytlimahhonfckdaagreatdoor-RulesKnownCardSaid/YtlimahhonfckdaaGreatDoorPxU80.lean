/-
  'follow' with a function over data. Conditions: a valid plant,a valid row.
-/
import Derived.Test.YtlimahhonfckdaaGreatDoorPxU55
namespace Go.Aw
set_option linter.unusedSimpArgs false
set_option linter.unusedVariables false
open Go.RowKit Go.Proofs
set_option maxRecDepth 100000

def foP (P R W:D) (n:Nat) (xs:List Int) : List Blk:=[.cells [.d P],.cells [.d R],.cells [.d W],.cells [.ref 5 0 n],.cells [.fn (.func 102) [.ptr 0 0 0,.ptr 2 0 0,.ptr 3 0 0,.ptr 1 0 0,.ptr 4 0 0]],.data 1 (xs.map encI)]
theorem foP_bel (P R W:D) (n:Nat) (xs:List Int) : belHeap 6 (foP P R W n xs)=true:=rfl
def ColP (p:List Ch) (row:List Int) (g:FuncId) (ds:List D) (b:List Int→Bool) (k:Nat) : Prop:=∀ (so xs:List Int),so.length=k→xs.take k=so→(∀ s,s∈folV (p.drop k) (row.drop k)→so++s∈folV p row) →
  AC Tryz.prog 102 [.d (.int .i64 k),.ptr 0 0 0,.ptr 2 0 0,.ptr 3 0 0,.ptr 1 0 0,.ptr 4 0 0] (foP (.sl (p.map encCh)) (.sl (row.map encI)) (.fn (.func g) ds) k xs) [0,1,2,3,4] fun x H' =>
    x=.d (.bool ((folV (p.drop k) (row.drop k)).all fun s=>b (so++s)))∧∃ xs':List Int,xs'.take k=so∧H'=foP (.sl (p.map encCh)) (.sl (row.map encI)) (.fn (.func g) ds) k xs'
theorem colP_cut {p:List Ch} {row:List Int} {W:D} {k:Nat} {so xs:List Int} {v:D}
    (h:AC Tryz.prog 102 [.d (.int .i64 k),.ptr 0 0 0,.ptr 2 0 0,.ptr 3 0 0,.ptr 1 0 0,.ptr 4 0 0] (foP (.sl (p.map encCh)) (.sl (row.map encI)) W k xs) [0,1,2,3,4] fun x H' =>
      x=.d v∧∃ (xs':List Int) (X:List Blk),xs'.take k=so∧H'=foP (.sl (p.map encCh)) (.sl (row.map encI)) W k xs'++X) :
    AC Tryz.prog 102 [.d (.int .i64 k),.ptr 0 0 0,.ptr 2 0 0,.ptr 3 0 0,.ptr 1 0 0,.ptr 4 0 0] (foP (.sl (p.map encCh)) (.sl (row.map encI)) W k xs) [0,1,2,3,4] fun x H' =>
      x=.d v∧∃ xs':List Int,xs'.take k=so∧H'=foP (.sl (p.map encCh)) (.sl (row.map encI)) W k xs':=by
  refine AC.cut h ?_
  rintro x _ ⟨rfl,xs',X,h1,rfl⟩
  exact ⟨_,X,rfl,rfl,foP_bel _ _ _ _ _,by simp [foP],rfl,xs',h1,rfl⟩
theorem dVs_d:∀ ds:List D,dVs (ds.map V.d)=some ds
  | []=>rfl
  | d::l=>by rw [List.map_cons,dVs,dVs_d l]; rfl
theorem p84pe (p:List Ch) (row:List Int) (g:FuncId) (ds:List D) (b:List Int→Bool) (hp:p.length≤12) (hW:∀ r,r∈folV p row→PD Tryz.prog g (.sl (r.map encI)::ds) (.d (.bool (b r)))) : ColP p row g ds b p.length:=by
  intro so xs hso hxs hin
  have e:folV (p.drop p.length) (row.drop p.length)=[[]]:=by rw [List.drop_length,folV_nil]
  rw [e] at hin ⊢
  have hw:=hW so (by simpa using hin [] (by simp))
  refine colP_cut ?_
  have hx:List.take p.length (xs.map encI)=so.map encI:=by rw [← List.map_take,hxs]
  have hc:=p72A so (by omega) (foP (.sl (p.map encCh)) (.sl (row.map encI)) (.fn (.func g) ds) p.length xs) 5 p.length (xs.map encI) (List.range 6) rfl hx hso rfl (fun i hi=>List.mem_range.1 hi)
  simp only [foP,List.cons_append,List.nil_append,List.length_cons,List.length_nil] at hc ⊢
  rw [show (([[]] : List (List Int)).all fun s=>b (so++s))=b so by simp]
  generalize b so=bs' at *
  have hts:List.take p.length (so.map encI)=so.map encI:=List.take_of_length_le (by simp [hso])
  refine ac_ofF (fn:=Tryz.f102) [.tmp 7] (by kernel_rfl) rfl (by kernel_rfl) (Nat.le_of_ble_eq_true rfl) (by kernel_rfl) rfl ?_
  refine awp_seq ?_
  refine wRg ?_
  refine awp_seq ?_
  refine awp_seq ?_
  refine awpF_region ?_; intro K hK; simp only [push_cast,seval,beq_self_eq_true]; refine wKk hK ?_; clear hK K
  refine wCd ?_ ?_
  rotate_left
  · intro h
    cases h
  intro _
  refine awp_seq ?_
  refine awp_drawO 5 (by kernel_rfl) (by kernel_rfl) ?_; intro K hK
  refine ord_2 0 1 (by kernel_rfl) rfl rfl ?_ ?_
  · refine vc_X rfl ?_; refine wXo ?_
    refine ord_1 1 (by kernel_rfl) rfl ?_
    refine vc_X rfl ?_; refine wXo ?_
    refine ord_1 2 (by kernel_rfl) rfl ?_
    refine call_V [] (by simp) (by simp only [push_cast,seval]; rfl) (by first | trivial | simp) (hc) ?_
    rintro _ _ ⟨rfl,rfl⟩
    simp only [push_cast,seval]
    refine ord_1 3 (by kernel_rfl) rfl ?_
    refine vc_X rfl ?_; simp only [push_cast,seval,hts,dVs_d]; refine wObW ?_
    refine CallK.pd (hw) ?_; refine wXo ?_
    refine ord_1 4 (by kernel_rfl) rfl ?_
    refine vc_X rfl ?_; refine wXo ?_
    refine ord_end (by kernel_rfl) ?_; refine hK _ ?_; clear hK K
    refine wRet ?_
    exact ⟨rfl,xs,[_],hxs,rfl⟩
  · refine vc_X rfl ?_; refine wXo ?_
    refine ord_2 0 2 (by kernel_rfl) rfl rfl ?_ ?_
    · refine vc_X rfl ?_; refine wXo ?_
      refine ord_1 2 (by kernel_rfl) rfl ?_
      refine call_V [] (by simp) (by simp only [push_cast,seval]; rfl) (by first | trivial | simp) (hc) ?_
      rintro _ _ ⟨rfl,rfl⟩
      simp only [push_cast,seval]
      refine ord_1 3 (by kernel_rfl) rfl ?_
      refine vc_X rfl ?_; simp only [push_cast,seval,hts,dVs_d]; refine wObW ?_
      refine CallK.pd (hw) ?_; refine wXo ?_
      refine ord_1 4 (by kernel_rfl) rfl ?_
      refine vc_X rfl ?_; refine wXo ?_
      refine ord_end (by kernel_rfl) ?_; refine hK _ ?_; clear hK K
      refine wRet ?_
      exact ⟨rfl,xs,[_],hxs,rfl⟩
    · refine call_V [] (by simp) (by simp only [push_cast,seval]; rfl) (by first | trivial | simp) (hc) ?_
      rintro _ _ ⟨rfl,rfl⟩
      simp only [push_cast,seval]
      refine ord_1 0 (by kernel_rfl) rfl ?_
      refine vc_X rfl ?_; refine wXo ?_
      refine ord_1 3 (by kernel_rfl) rfl ?_
      refine vc_X rfl ?_; simp only [push_cast,seval,hts,dVs_d]; refine wObW ?_
      refine CallK.pd (hw) ?_; refine wXo ?_
      refine ord_1 4 (by kernel_rfl) rfl ?_
      refine vc_X rfl ?_; refine wXo ?_
      refine ord_end (by kernel_rfl) ?_; refine hK _ ?_; clear hK K
      refine wRet ?_
      exact ⟨rfl,xs,[_],hxs,rfl⟩
def allJ (p:List Ch) (row:List Int) (b:List Int→Bool) (k:Nat) (c:Ch) (v:Int) (so:List Int) (j:Nat) : Bool:=((dsL c.lo c.hi).take j).all fun d=>(folV (p.drop (k+1)) (row.drop (k+1))).all fun s=>b (so++[chV c v d]++s)
theorem allJ_all {p:List Ch} {row:List Int} {b:List Int→Bool} {k:Nat} {c:Ch} {v:Int} (hc:p[k]? = some c) (hv:row[k]? = some v) (so:List Int) : allJ p row b k c v so (dsL c.lo c.hi).length=(folV (p.drop k) (row.drop k)).all fun s=>b (so++s):=by
  rw [folV_drop hc hv,allJ,List.take_length,List.all_flatMap]
  congr 1
  funext d
  rw [List.all_map]
  congr 1
  funext s
  simp
theorem allJ_step {p:List Ch} {row:List Int} {b:List Int→Bool} {k:Nat} {c:Ch} {v:Int} {so:List Int} {j:Nat} (hj:c.lo+(j:Int)≤c.hi) : allJ p row b k c v so (j+1)=(allJ p row b k c v so j&&(folV (p.drop (k+1)) (row.drop (k+1))).all fun s=>b (so++[chV c v (c.lo+(j:Int))]++s)):=by
  rw [allJ,allJ,dsL_take _ _ hj,List.all_append]
  simp
theorem allJ_false {p:List Ch} {row:List Int} {b:List Int→Bool} {k:Nat} {c:Ch} {v:Int} {so:List Int} {j:Nat} (h:allJ p row b k c v so j=false) : allJ p row b k c v so (dsL c.lo c.hi).length=false:=by
  rw [Bool.eq_false_iff] at h ⊢
  intro h2
  apply h
  simp only [allJ,List.all_eq_true,List.take_length] at h2 ⊢
  exact fun d hd=>h2 d (List.mem_of_mem_take hd)
set_option maxHeartbeats 2000000 in
theorem p84ps (p:List Ch) (row:List Int) (g:FuncId) (ds:List D) (b:List Int→Bool) (k:Nat) (hp:plE p=0) (hl:row.length=p.length) (hv:∀ x,x∈row→inV x=true) (hk:k<p.length) (ih:ColP p row g ds b (k+1)) : ColP p row g ds b k:=by
  intro so xs hso hxs hin
  obtain ⟨hp1,hp2,hpok,hp9⟩:=pl_ok hp
  obtain ⟨c,hc⟩ : ∃ c,p[k]? = some c:=⟨_,List.getElem?_eq_getElem hk⟩
  obtain ⟨v,hvk⟩ : ∃ v,row[k]? = some v:=⟨_,List.getElem?_eq_getElem (by omega)⟩
  have hok:=hpok c (List.mem_of_getElem? hc)
  have hvb:=hv v (List.mem_of_getElem? hvk)
  simp only [inV,decide_eq_true_eq] at hvb
  have hq:∀ row,row∈p.map encCh→row.length=5:=fun row hr=>by obtain ⟨_,_,rfl⟩:=List.mem_map.1 hr; rfl
  have hqr:∀ r,r∈row.map encI→r.length=1:=fun row hr=>by obtain ⟨_,_,rfl⟩:=List.mem_map.1 hr; rfl
  have hne:(((k:Nat) : Int)==p.length)=false:=beq_eq_false_iff_ne.2 (by omega)
  have hall:=allJ_all (b:=b) hc hvk so
  have hstep:=fun j=>allJ_step (p:=p) (row:=row) (b:=b) (k:=k) (c:=c) (v:=v) (so:=so) (j:=j)
  have hfal:=fun j=>allJ_false (p:=p) (row:=row) (b:=b) (k:=k) (c:=c) (v:=v) (so:=so) (j:=j)
  have h85:=fun (d:Int) (h : -2000000000000≤v+d∧v+d≤2000000000000)=>p85 c v d h
  have hdl:=dsL_len c.lo c.hi
  have hok':=hok
  unfold okCh inC inV' at hok'
  have hinj:∀ j:Nat,c.lo+(j:Int)≤c.hi→∀ s,s∈folV (p.drop (k+1)) (row.drop (k+1))→so++[chV c v (c.lo+(j:Int))]++s∈folV p row:=fun j hj s hs=>by
    have:=hin (chV c v (c.lo+(j:Int))::s) (by
      rw [folV_drop hc hvk,List.mem_flatMap]
      refine ⟨c.lo+(j:Int),?_,List.mem_map.2 ⟨s,hs,rfl⟩⟩
      have e:=dsL_take c.lo c.hi hj
      have:c.lo+(j:Int)∈(dsL c.lo c.hi).take (j+1):=by rw [e]; simp
      exact List.mem_of_mem_take this)
    simpa using this
  refine colP_cut ?_
  have e0:allJ p row b k c v so 0=true:=rfl
  rw [← hall]
  simp only [foP,List.cons_append,List.nil_append]
  refine ac_ofF (fn:=Tryz.f102) [.tmp 7] (by kernel_rfl) rfl (by kernel_rfl) (Nat.le_of_ble_eq_true rfl) (by kernel_rfl) rfl ?_
  refine awp_seq ?_
  refine wRg ?_
  refine awp_seq ?_
  refine awp_seq ?_
  refine awpF_region ?_; intro K hK; simp only [push_cast,seval,hne]; refine wKk hK ?_; clear hK K
  refine wCd ?_ ?_
  · intro h
    cases h
  intro _
  refine awp_skip ?_
  refine awp_seq ?_
  refine awp_seq ?_
  refine awpF_region ?_; intro K hK; simp only [push_cast,seval,hc,encCh,Int.toNat_natCast]; refine wKk hK ?_; clear hK K
  refine awp_block ?_
  refine awp_loopP (α:=Nat × List Int) (st:=fun x=>⟨[(0,.d (.int .i64 k)),(1,.ptr 0 0 0),(2,.ptr 2 0 0),(3,.ptr 3 0 0),(4,.ptr 1 0 0),(5,.ptr 4 0 0),(8,.d (.int .i64 (c.lo+(x.1:Int))))],foP (.sl (p.map encCh)) (.sl (row.map encI)) (.fn (.func g) ds) k x.2⟩)
    (inv:=fun x=>c.lo+(x.1:Int)≤c.hi+1∧x.2.take k=so∧allJ p row b k c v so x.1=true) (μ:=fun x=>(c.hi+1 - c.lo).toNat - x.1) (x0:=(0,xs)) (r0:=[0,1,2,3,4,5]) ⟨by show c.lo+((0:Nat) : Int)≤c.hi+1; omega,hxs,e0⟩ ?_ ?_
  · simp only [foP,Int.natCast_zero,Int.add_zero]
    exact wRen
  rintro ⟨j,ys⟩ ⟨hj,hys,hjt⟩
  dsimp only at hj hys hjt ⊢
  have hstepj:=hstep j
  have hfalj:=hfal (j+1)
  simp only [foP]
  refine awp_seq ?_
  refine awp_seq ?_
  refine awpF_region ?_; intro K hK; simp only [push_cast,seval,hc,encCh,Int.toNat_natCast]; refine wKk hK ?_; clear hK K
  refine wCd ?_ ?_
  · intro h1; replace h1:=wHb h1
    have h85d:=h85 (c.lo+(j:Int)) (by omega)
    have hty:List.take k (ys.map encI)=so.map encI:=by rw [← List.map_take,hys]
    have hqs:∀ r,r∈so.map encI→r.length=1∧r.all D.leaf=true:=fun r h=>encI_row h
    refine awp_skip ?_
    refine awp_seq ?_
    refine awp_block ?_
    have hsj:=hstepj h1
    rw [hjt,Bool.true_and] at hsj
    have ihc:=ih (so++[chV c v (c.lo+(j:Int))]) (so++[chV c v (c.lo+(j:Int))]) (by simp [hso]) (List.take_of_length_le (by simp [hso])) (hinj j h1)
    rw [← hsj] at ihc
    simp only [foP] at ihc
    push_cast at ihc
    simp only [encCh] at h85d
    clear hinj hin
    generalize chV c v (c.lo+(j:Int))=nv at *
    refine awp_mid (fun u=>u=⟨[(0,.d (.int .i64 k)),(1,.ptr 0 0 0),(2,.ptr 2 0 0),(3,.ptr 3 0 0),(4,.ptr 1 0 0),(5,.ptr 4 0 0),(8,.d (.int .i64 (c.lo+(j:Int))))],foP (.sl (p.map encCh)) (.sl (row.map encI)) (.fn (.func g) ds) (k+1) (so++[nv])⟩) ?_ ?_
    · refine awpF_draw [0,1,2,3,4,5,6,7,8,9,10,11,12,13] (by kernel_rfl) (by kernel_rfl) rfl ?_; intro K hK; simp only [push_cast,seval,hc,hvk,encCh,encI,Int.toNat_natCast,hty]
      refine wOb ?_
      refine CallK.pd (h85d) ?_; refine wXo ?_
      refine wOb ?_
      refine hK _ ?_
      clear hK
      clear K
      rw [hty]
      refine mid_end [0,1,2,3,4,5] _ rfl ?_
      simp only [foP,List.map_append,List.map_cons,List.map_nil,encI]
      exact wRen
    rintro _ rfl
    simp only [foP]
    refine awp_seq ?_
    refine awp_regionF ?_; intro K hK
    refine from_X 3 rfl rfl ?_; refine wXo ?_
    refine call_V [5] (by simp) (by simp only [push_cast,seval]; rfl) (by first | trivial | simp) (ihc) ?_
    rintro _ _ ⟨rfl,zs,hzs,rfl⟩
    have hzk:List.take k zs=so:=by
      have:=congrArg (List.take k) hzs
      rw [List.take_take,Nat.min_eq_left (by omega)] at this
      rw [this]
      exact List.take_left' hso
    have hzl:k+1≤zs.length:=by
      have:=congrArg List.length hzs
      rw [List.length_take,List.length_append] at this
      simp at this
      omega
    simp only [foP]
    simp only [push_cast,seval]
    refine from_end ?_; simp only [push_cast,seval]; refine wKk hK ?_; clear hK K
    refine awp_seq ?_
    refine awpF_region ?_; intro K hK; simp only [push_cast,seval,Int.add_sub_cancel,Int.toNat_natCast,Nat.sub_zero]; refine wKk hK ?_; clear hK K
    refine awp_seq ?_
    refine wRg ?_
    by_cases hjn:allJ p row b k c v so (j+1)=true
    · rw [hjn]
      refine wCd ?_ ?_
      · intro h
        cases h
      intro _
      refine awp_skip ?_
      refine inblock_norm ?_
      refine wRg ?_
      refine round_endG (j+1,zs) ([0,1,2,3,4,5]) ⟨by show (c.hi+1 - c.lo).toNat - (j+1)<(c.hi+1 - c.lo).toNat - j; omega,⟨by show c.lo+((j+1:Nat) : Int)≤c.hi+1; omega,hzk,hjn⟩,?_⟩
      have e9:c.lo+((j+1:Nat) : Int)=c.lo+(j:Int)+1:=by omega
      dsimp only
      rw [e9]
      push_cast
      exact wRen
    · have hjn':allJ p row b k c v so (j+1)=false:=by simpa using hjn
      rw [hjn']
      rw [hfalj hjn']
      refine wCd ?_ ?_
      · intro _
        refine awp_seq ?_
        refine wRg ?_
        refine wRet ?_
        exact ⟨rfl,zs,[],hzk,rfl⟩
      · intro h
        cases h
  · intro h1; replace h1:=wHb h1
    have hje:(dsL c.lo c.hi).length=j:=by rw [hdl]; omega
    rw [hje,hjt]
    refine wEx ?_
    refine awp_seq ?_
    refine wRg ?_
    refine wRet ?_
    exact ⟨rfl,ys,[],hys,rfl⟩
theorem colP_all (p:List Ch) (row:List Int) (g:FuncId) (ds:List D) (b:List Int→Bool) (hp:plE p=0) (hl:row.length=p.length) (hv:∀ x,x∈row→inV x=true) (hW:∀ r,r∈folV p row→PD Tryz.prog g (.sl (r.map encI)::ds) (.d (.bool (b r)))) : ∀ m k:Nat,k+m=p.length→ColP p row g ds b k
  | 0,k,h=>by
    obtain rfl:k=p.length:=by omega
    exact p84pe p row g ds b (pl_ok hp).2.1 hW
  | m+1,k,h=>p84ps p row g ds b k hp hl hv (by omega) (colP_all p row g ds b hp hl hv hW m (k+1) (by omega))
theorem p54p (p:List Ch) (row:List Int) (g:FuncId) (ds:List D) (b:List Int→Bool) (hp:plE p=0) (hl:row.length=p.length) (hv:∀ x,x∈row→inV x=true) (hW:∀ r,r∈folV p row→PD Tryz.prog g (.sl (r.map encI)::ds) (.d (.bool (b r)))) :
    PD Tryz.prog 74 [.sl (p.map encCh),.sl (row.map encI),.fn (.func g) ds] (.d (.bool ((folV p row).all b))):=by
  have hc:=colP_all p row g ds b hp hl hv hW p.length 0 (by omega) [] [] rfl rfl (fun s hs=>by simpa using hs)
  rw [List.drop_zero,List.drop_zero] at hc
  have e:((folV p row).all fun s=>b (([] : List Int)++s))=(folV p row).all b:=by simp
  rw [e] at hc
  simp only [foP,List.map_nil,Int.natCast_zero] at hc
  refine pd_of (fn:=Tryz.f74) [.tmp 6] (by kernel_rfl) rfl (by kernel_rfl) (Nat.le_of_ble_eq_true rfl) (by kernel_rfl) rfl rfl ?_
  refine awp_seq ?_
  refine wRg ?_
  refine awp_seq ?_
  refine wRg ?_
  refine awp_seq ?_
  refine wRg ?_
  refine awp_seq ?_
  refine wRg ?_
  refine awp_virtC 3 1 rfl ?_
  simp only [push_cast,seval]
  refine awp_seq ?_
  refine awp_regionF ?_; intro K hK
  refine from_X 1 rfl rfl ?_; refine wXo ?_
  refine call_V [5] (by simp) (by simp only [push_cast,seval]; rfl) (by first | trivial | simp) (hc) ?_
  rintro _ _ ⟨rfl,zs,_,rfl⟩
  simp only [push_cast,seval]
  refine from_end ?_; simp only [push_cast,seval]; refine wKk hK ?_; clear hK K
  refine wRet ?_
  rfl
end Go.Aw
