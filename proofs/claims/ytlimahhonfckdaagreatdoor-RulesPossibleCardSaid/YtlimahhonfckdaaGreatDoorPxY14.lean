/-
  The plant and the rows that numbers make; equal lists of whole numbers; a number in a list. Conditions: numbers and lengths that fit.
-/
import Derived.Test.YtlimahhonfckdaaGreatDoorPxY6
import Derived.Test.YtlimahhonfckdaaGreatDoorPxU55
import Derived.Test.YtlimahhonfckdaaGreatDoorPxU44a
namespace Go.Aw
set_option linter.unusedSimpArgs false
set_option linter.unusedVariables false
open Go.RowKit Go.Proofs
set_option maxRecDepth 100000

theorem q24 (n:Int) (hn : -9223372036854775808≤n∧n≤9223372036854775807) : PD Tryz.prog 24 [.int .i64 n] (.d (.sl ((plantV n).map encCh))):=by
  have h28:=p28 n 1048576 hn (by decide)
  have h0:0≤n % 1048576∧n % 1048576<1048576:=⟨Int.emod_nonneg _ (by decide),Int.emod_lt_of_pos _ (by decide)⟩
  simp only [plantV,List.map_cons,List.map_nil,encCh]
  generalize n % 1048576=m at *
  have e1:m.tmod 2=m % 2:=Int.tmod_eq_emod_of_nonneg h0.1
  have e2:m.tdiv 2=m / 2:=Int.tdiv_eq_ediv_of_nonneg h0.1
  have e3:(m / 2).tmod 3=m / 2 % 3:=Int.tmod_eq_emod_of_nonneg (by omega)
  have e4:m.tdiv 6=m / 6:=Int.tdiv_eq_ediv_of_nonneg h0.1
  have e5:(m / 6).tmod 2=m / 6 % 2:=Int.tmod_eq_emod_of_nonneg (by omega)
  have e6:m.tdiv 12=m / 12:=Int.tdiv_eq_ediv_of_nonneg h0.1
  have e7:(m / 12).tmod 2=m / 12 % 2:=Int.tmod_eq_emod_of_nonneg (by omega)
  refine pdv_of (fn:=Tryz.f24) [.tmp 2] (by kernel_rfl) rfl (by kernel_rfl) (Nat.le_of_ble_eq_true rfl) (by kernel_rfl) rfl ?_
  refine awp_seq ?_
  refine wRg ?_
  refine awp_seq ?_
  refine awpF_region ?_; intro K hK; simp only [push_cast,seval]
  refine CallK.pd (h28) ?_; refine wXo ?_
  refine hK _ ?_; clear hK K
  refine awp_seq ?_
  refine awpF_region ?_; intro K hK; simp only [push_cast,seval,e1]; refine wKk hK ?_; clear hK K
  refine awp_seq ?_
  refine awpF_region ?_; intro K hK; simp only [push_cast,seval,e1,e2,e3,e4,e5,e6,e7]; refine wKk hK ?_; clear hK K
  simp only [e3,e5,e7,Int.zero_sub]
  refine awp_seq ?_
  refine wRg ?_
  refine wRet ?_
  exact DeepV.row rfl rfl
set_option maxHeartbeats 1000000 in
theorem q25 (p:List Ch) (l:List Int) (most:Nat) (hp:plE p=0) (h2:p.length=2) (hl:numsOk l) (hm:1≤most∧most≤1000) :
    PD Tryz.prog 25 [.sl (p.map encCh),.sl (l.map encI),.int .i64 most] (.d (.sl ((runA p l most).map encR))):=by
  have hq:∀ row,row∈l.map encI→row.length=1:=fun row hr=>by obtain ⟨_,_,rfl⟩:=List.mem_map.1 hr; rfl
  have hpok:=(pl_ok hp).2.2.1
  refine pdv_of (fn:=Tryz.f25) [.tmp 6] (by kernel_rfl) rfl (by kernel_rfl) (Nat.le_of_ble_eq_true rfl) (by kernel_rfl) rfl ?_
  refine awp_seq ?_
  refine wRg ?_
  refine awp_seq ?_
  refine wRg ?_
  refine awp_fz (.ref 0 0 2) ?_
  simp only [push_cast,seval,St.fz,St.frz]
  refine awp_seq ?_
  refine awp_seq ?_
  refine wRg ?_
  refine awp_block ?_
  refine awp_loopP (α:=Nat × List (List Int)) (st:=fun x=>⟨[(0,.d (.sl (p.map encCh))),(1,.d (.sl (l.map encI))),(2,.d (.int .i64 most)),(7,.ref 0 0 x.2.length),(8,.d (.int .i64 x.1))],[.data 1 (x.2.map encR)]⟩)
    (inv:=fun x=>x.1≤l.length∧x.1+1≤most∧x.2.length=x.1+1∧RunOk p x.2∧runA p l most=runV p ((l.take (most - 1)).drop x.1) x.2) (μ:=fun x=>most - x.1) (x0:=(0,[[2,1]])) (r0:=[1]) ⟨Nat.zero_le _,hm.1,rfl,run_one p,by rw [List.drop_zero]; rfl⟩ ?_ ?_
  · simp only [List.map_cons,List.map_nil,encR,encI]
    exact wRen
  rintro ⟨i,out⟩ ⟨hi,him,hol,hok,hrun⟩
  dsimp only at hi him hol hok hrun ⊢
  have hto:List.take out.length (out.map encR)=out.map encR:=List.take_of_length_le (by simp)
  have hqo:∀ row,row∈out.map encR→row.length=1:=fun row hr=>by obtain ⟨_,_,rfl⟩:=List.mem_map.1 hr; rfl
  refine awp_seq ?_
  refine awp_seq ?_
  by_cases h1:i<l.length∧i+1<most
  · have d1:decide ((i:Int)<(l.length:Int))=true:=decide_eq_true (by omega)
    have d2:decide ((i:Int)+1<(most:Int))=true:=decide_eq_true (by omega)
    refine awpF_region ?_; intro K hK; simp only [push_cast,seval,d1,d2]; refine wKk hK ?_; clear hK K
    refine wCd ?_ ?_
    · intro _
      obtain ⟨x,hx⟩ : ∃ x,l[i]? = some x:=⟨_,List.getElem?_eq_getElem h1.1⟩
      have hxb:=hl.2 x (List.mem_of_getElem? hx)
      have hst:(l.take (most - 1)).drop i=x::(l.take (most - 1)).drop (i+1):=by
        rw [List.drop_eq_getElem_cons (by rw [List.length_take]; omega)]
        congr 1
        rw [List.getElem_take]
        exact (List.getElem?_eq_some_iff.1 hx).2
      rw [hst,runV] at hrun
      have hlast:=hok.rows _ (last_mem hok.ne)
      have hlg:=last_get hok.ne
      have h31:=p31 p (out.getLastD []) (by omega)
      have hfe:folE p (out.getLastD [])=0:=by
        unfold folE
        rw [hp,if_neg (by simp)]
        exact tr_of (by omega) (by simp) fun r hr=>by
          obtain rfl:=List.mem_singleton.1 hr
          exact ⟨by omega,hlast.2⟩
      rw [folR,if_pos hfe,hfe] at h31
      have hfl:=folV_len (row:=out.getLastD []) hp (by omega)
      have hokn:=hok.app hp h2 (runR_mem hok hp h2 x)
      have hrl:=folV_row p (out.getLastD []) hpok (by omega)
      have h28:=p28 x ((folV p (out.getLastD [])).length:Int) hxb (by omega)
      have hm1:=Int.emod_nonneg x (show ((folV p (out.getLastD [])).length:Int)≠0 by omega)
      have hm2:=Int.emod_lt_of_pos x (show 0<((folV p (out.getLastD [])).length:Int) by omega)
      have hrr:(folV p (out.getLastD []))[(x % ((folV p (out.getLastD [])).length:Int)).toNat]? = some (runR p x out):=by
        unfold runR
        rw [List.getElem?_eq_getElem (by omega)]
        rfl
      generalize runR p x out=nr at *
      generalize out.getLastD []=lastR at *
      generalize folV p lastR=L at *
      have hqL:∀ row,row∈L.map encR→row.length=1:=fun row hr=>by obtain ⟨_,_,rfl⟩:=List.mem_map.1 hr; rfl
      generalize x % (L.length:Int)=ix at *
      have hw1:IntKind.i64.wrap ((out.length:Int) - 1)=((out.length - 1:Nat) : Int):=by rw [wrapI _ (by omega)]; omega
      refine awp_skip ?_
      refine awp_seq ?_
      refine awp_block ?_
      refine awp_seq ?_
      refine awpF_region ?_; intro K hK; simp only [push_cast,seval,hw1,Int.toNat_natCast,hlg,encR]
      refine wOb ?_
      refine CallK.pd (h31) ?_; refine wXo ?_
      refine hK _ ?_; clear hK K
      refine awp_seq ?_
      refine awp_seq ?_
      refine awpF_region ?_; intro K hK; simp only [push_cast,seval,bne_self_eq_false]; refine wKk hK ?_; clear hK K
      refine wCd ?_ ?_
      · intro h; cases h
      intro _
      refine awp_skip ?_
      refine awpF_region ?_; intro K hK; simp only [push_cast,seval,hx,encI,Int.toNat_natCast,List.length_map]
      refine wOb ?_
      refine CallK.pd (h28) ?_; refine wXo ?_
      simp only [push_cast,seval,hrr,encR,hto]
      refine wOb ?_
      refine hK _ ?_; clear hK K
      refine inblock_norm ?_
      refine wRg ?_
      refine round_endG (i+1,out++[nr]) [0] ⟨by show most - (i+1)<most - i; omega,⟨by show i+1≤l.length; omega,by show i+1+1≤most; omega,by simp [hol],hokn,hrun⟩,?_⟩
      simp only [List.map_append,List.map_cons,List.map_nil,encR,encI,List.length_append,List.length_cons,List.length_nil]
      push_cast
      exact wRen
    · intro h
      rw [d2] at h
      cases h
  · have he:runA p l most=out:=by
      rw [hrun,List.drop_of_length_le (by rw [List.length_take]; omega),runV]
    rw [he]
    by_cases h3:i<l.length
    · have d1:decide ((i:Int)<(l.length:Int))=true:=decide_eq_true (by omega)
      have d2:decide ((i:Int)+1<(most:Int))=false:=decide_eq_false (by omega)
      refine awpF_region ?_; intro K hK; simp only [push_cast,seval,d1,d2]; refine wKk hK ?_; clear hK K
      refine wCd ?_ ?_
      · intro h
        rw [d2] at h
        cases h
      intro _
      refine wEx ?_
      refine awp_seq ?_
      refine wRg ?_
      refine wRet ?_
      exact DeepV.row rfl (by simp)
    · have d1:decide ((i:Int)<(l.length:Int))=false:=decide_eq_false (by omega)
      refine awpF_region ?_; intro K hK; simp only [push_cast,seval,d1]; refine wKk hK ?_; clear hK K
      refine wCd ?_ ?_
      · intro h; cases h
      intro _
      refine wEx ?_
      refine awp_seq ?_
      refine wRg ?_
      refine wRet ?_
      exact DeepV.row rfl (by simp)
theorem q31 (a b:List Int) (ha:a.length≤1000000) : PD Tryz.prog 31 [.sl (a.map encI),.sl (b.map encI)] (.d (.bool (decide (a=b)))):=by
  have hqa:∀ row,row∈a.map encI→row.length=1:=fun row hr=>by obtain ⟨_,_,rfl⟩:=List.mem_map.1 hr; rfl
  have hqb:∀ row,row∈b.map encI→row.length=1:=fun row hr=>by obtain ⟨_,_,rfl⟩:=List.mem_map.1 hr; rfl
  have hlen:a.length≠b.length→decide (a=b)=false:=fun h=>decide_eq_false fun e=>h (by rw [e])
  refine pd_of (fn:=Tryz.f31) [.tmp 4] (by kernel_rfl) rfl (by kernel_rfl) (Nat.le_of_ble_eq_true rfl) (by kernel_rfl) rfl rfl ?_
  refine awp_seq ?_
  refine wRg ?_
  refine awp_seq ?_
  refine awp_seq ?_
  refine wRg ?_
  refine awp_block ?_
  refine awp_loopP (α:=Nat) (st:=fun i=>⟨[(0,.d (.sl (a.map encI))),(1,.d (.sl (b.map encI))),(5,.d (.int .i64 i))],[]⟩)
    (inv:=fun i=>i≤a.length∧i≤b.length∧∀ j,j<i→a[j]? = b[j]?) (μ:=fun i=>a.length - i) (x0:=0) (r0:=[]) ⟨Nat.zero_le _,Nat.zero_le _,fun j hj=>absurd hj (Nat.not_lt_zero j)⟩ ?_ ?_
  · exact wRen
  rintro i ⟨hi,hib,he⟩
  refine awp_seq ?_
  refine awp_seq ?_
  by_cases h1:i<a.length∧i<b.length
  · have d1:decide ((i:Int)<(a.length:Int))=true:=decide_eq_true (by omega)
    have d2:decide ((i:Int)<(b.length:Int))=true:=decide_eq_true (by omega)
    refine awpF_region ?_; intro K hK; simp only [push_cast,seval,d1,d2]; refine wKk hK ?_; clear hK K
    refine wCd ?_ ?_
    · intro _
      obtain ⟨x,hx⟩ : ∃ x,a[i]? = some x:=⟨_,List.getElem?_eq_getElem h1.1⟩
      obtain ⟨y,hy⟩ : ∃ y,b[i]? = some y:=⟨_,List.getElem?_eq_getElem h1.2⟩
      refine awp_skip ?_
      refine awp_seq ?_
      refine awp_block ?_
      refine awp_seq ?_
      refine awpF_draw [0,1,2,3,4,5,6,7,8] (by kernel_rfl) (by kernel_rfl) rfl ?_; intro K hK; simp only [push_cast,seval,hx,hy,encI,Int.toNat_natCast]
      refine wOb ?_
      refine hK _ ?_; clear hK K
      by_cases hxy:x=y
      · have d3:(x != y)=false:=by rw [hxy]; exact bne_self_eq_false y
        rw [d3]
        refine wCd ?_ ?_
        · intro h; cases h
        intro _
        refine awp_skip ?_
        refine inblock_norm ?_
        refine wRg ?_
        refine round_endG (i+1) [] ⟨by omega,⟨by omega,by omega,fun j hj => ?_⟩,?_⟩
        · rcases Nat.lt_or_ge j i with h | h
          · exact he j h
          · obtain rfl:j=i:=by omega
            rw [hx,hy,hxy]
        · push_cast
          exact wRen
      · have d3:(x != y)=true:=by simpa using hxy
        rw [d3]
        have hne:decide (a=b)=false:=decide_eq_false fun e=>by
          rw [e,hy] at hx
          exact hxy (Option.some.inj hx).symm
        refine wCd ?_ ?_
        · intro _
          refine awp_seq ?_
          refine wRg ?_
          refine wRet ?_
          rw [hne]
        · intro h; cases h
    · intro h; cases h
  · have hfin:((a.length:Int)==(b.length:Int))=decide (a=b):=by
      by_cases hab:a.length=b.length
      · have heq:a=b:=List.ext_getElem? fun j=>by
          rcases Nat.lt_or_ge j i with h | h
          · exact he j h
          · rw [List.getElem?_eq_none (by omega),List.getElem?_eq_none (by omega)]
        rw [heq,decide_eq_true rfl]
        simp
      · rw [hlen hab]
        exact beq_eq_false_iff_ne.2 (by omega)
    by_cases h3:i<a.length
    · have d1:decide ((i:Int)<(a.length:Int))=true:=decide_eq_true (by omega)
      have d2:decide ((i:Int)<(b.length:Int))=false:=decide_eq_false (by omega)
      refine awpF_region ?_; intro K hK; simp only [push_cast,seval,d1,d2]; refine wKk hK ?_; clear hK K
      refine wCd ?_ ?_
      · intro h; cases h
      intro _
      refine wEx ?_
      refine awp_seq ?_
      refine wRg ?_
      refine wRet ?_
      rw [hfin]
    · have d1:decide ((i:Int)<(a.length:Int))=false:=decide_eq_false (by omega)
      refine awpF_region ?_; intro K hK; simp only [push_cast,seval,d1]; refine wKk hK ?_; clear hK K
      refine wCd ?_ ?_
      · intro h; cases h
      intro _
      refine wEx ?_
      refine awp_seq ?_
      refine wRg ?_
      refine wRet ?_
      rw [hfin]
end Go.Aw
