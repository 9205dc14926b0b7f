/-
  Costs and Better,on the program's side. Conditions: lengths that fit.
-/
import Derived.Test.YtlimahhonfckdaaGreatDoorPxU64
import Derived.Test.YtlimahhonfckdaaGreatDoorPkT
namespace Go.Aw
set_option linter.unusedSimpArgs false
set_option linter.unusedVariables false
open Go.RowKit Go.Proofs
set_option maxRecDepth 100000

def nI (cs:List Int) : List D:=cs.map fun x=>.int .i64 x
theorem dOfs_cvs:∀ cs:List Int,dOfs (cvs cs)=some (nI cs)
  | []=>rfl
  | x::l=>by rw [show cvs (x::l)=dI x::cvs l from rfl,dOfs,dOfs_cvs l]; rfl
theorem cvs_sh (n:Nat) : ∀ cs:List Int,V.shL n (cvs cs)=cvs cs
  | []=>rfl
  | _::l=>congrArg (List.cons _) (cvs_sh n l)
theorem cvs_frz (n:Nat) (rows:List (List D)) : ∀ cs:List Int,V.frzL n rows (cvs cs)=cvs cs
  | []=>rfl
  | _::l=>congrArg (List.cons _) (cvs_frz n rows l)
theorem nI_rows (cs:List Int) : (nI cs).map (fun c=>[c])=cs.map encI:=by rw [nI,List.map_map]; rfl
theorem nI_len (cs:List Int) : (nI cs).length=cs.length:=List.length_map _
def csV (b:List Lw) (w:Int) (T:List (List Int)) : List Int:=if coE b w T=0 then costV b T else []
theorem p41 (b:List Lw) (w:Int) (T:List (List Int)) (ht:treesOk b w) (hb:b.length≤1000000) (hT:T.length≤1000000) : PD Tryz.prog 17 [.sl (b.map encLw),.int .i64 w,.sl (T.map encR)] (.tup [.d (.sl ((csV b w T).map encI)),.d (.int .i64 (coE b w T))]):=by
  have h73:=p73 b w T ht hb hT
  have hl:=coV_len b w T
  have hcs:csV b w T=if coE b w T=0 then coV b w T else []:=by
    unfold csV coV
    split <;> rfl
  rw [hcs]
  clear hcs
  generalize coV b w T=cs at *
  generalize coE b w T=e at *
  have hl0:=cvs_all hl
  by_cases he:e=0
  · rw [if_pos he]
    subst he
    refine pd_of (fn:=Tryz.f17) [.tmp 6,.tmp 7] (by kernel_rfl) rfl (by kernel_rfl) (Nat.le_of_ble_eq_true rfl) (by kernel_rfl) rfl rfl ?_
    refine awp_seq ?_
    refine wRg ?_
    refine awp_seq ?_
    refine awpF_region ?_; intro K hK; simp only [push_cast,seval]
    refine CallK.pd (h73) ?_; refine wXo ?_
    simp only [cvs_sh,cvs_leaf,cvs_len,hl,true_and]
    refine hK _ ?_; clear hK K
    refine awp_seq ?_
    refine awp_seq ?_
    refine awpF_region ?_; intro K hK; simp only [push_cast,seval,bne_self_eq_false]; refine wKk hK ?_; clear hK K
    refine wCd ?_ ?_
    · intro h; cases h
    intro _
    refine awp_skip ?_
    refine awp_fz (.ref 0 0 0) ?_
    simp only [push_cast,seval,St.fz,St.frz,Blk.rowsD,dOfs_cvs,cvs_frz]
    refine awp_seq ?_
    refine awpF_region ?_; intro K hK; simp only [push_cast,seval,nI_len,nI_rows,hl]; refine wKk hK ?_; clear hK K
    refine wRet ?_
    rfl
  · have hb1:(e != 0)=true:=by simpa using he
    rw [if_neg he]
    refine pdv_of (fn:=Tryz.f17) [.tmp 6,.tmp 7] (by kernel_rfl) rfl (by kernel_rfl) (Nat.le_of_ble_eq_true rfl) (by kernel_rfl) rfl ?_
    refine awp_seq ?_
    refine wRg ?_
    refine awp_seq ?_
    refine awpF_region ?_; intro K hK; simp only [push_cast,seval]
    refine CallK.pd (h73) ?_; refine wXo ?_
    simp only [cvs_sh,cvs_leaf,cvs_len,hl,true_and]
    refine hK _ ?_; clear hK K
    refine awp_seq ?_
    refine awp_seq ?_
    refine awpF_region ?_; intro K hK; simp only [push_cast,seval,hb1]; refine wKk hK ?_; clear hK K
    refine wCd ?_ ?_
    · intro _
      refine awp_seq ?_
      refine wRg ?_
      refine wRet ?_
      exact DeepV.tups (DeepV.cons .nil (DeepV.cons (.dd _) DeepV.nils))
    · intro h; cases h
def btE (b:List Lw) (w:Int) (S T:List (List Int)) : Int:=if coE b w S≠0 then coE b w S else coE b w T
def btV (b:List Lw) (w:Int) (S T:List (List Int)) : Int:=if btE b w S T=0 then cmpL (costV b S) (costV b T) else 0
theorem p42 (b:List Lw) (w:Int) (S T:List (List Int)) (ht:treesOk b w) (hb:b.length≤1000000) (hS:S.length≤1000000) (hT:T.length≤1000000) : PD Tryz.prog 19 [.sl (b.map encLw),.int .i64 w,.sl (S.map encR),.sl (T.map encR)] (.tup [.d (.int .i64 (btV b w S T)),.d (.int .i64 (btE b w S T))]):=by
  have h1:=p73 b w S ht hb hS
  have h2:=p73 b w T ht hb hT
  have hl1:=coV_len b w S
  have hl2:=coV_len b w T
  have hv:btV b w S T=if btE b w S T=0 then cmpL (coV b w S) (coV b w T) else 0:=by
    unfold btV
    by_cases he:btE b w S T=0
    · rw [if_pos he,if_pos he]
      unfold btE at he
      split at he
      · rename_i h; exact absurd he h
      · rename_i h
        rw [coV,coV,if_pos (by simpa using h),if_pos he]
    · rw [if_neg he,if_neg he]
  have hE:btE b w S T=if coE b w S≠0 then coE b w S else coE b w T:=rfl
  have hl01:=cvs_all hl1
  have hl02:=cvs_all hl2
  have h74:=p74 (coV b w S) (coV b w T) (by rw [hl1,hl2]) (by omega)
  have hz:=cmpL_zero (a:=coV b w S) (b:=coV b w T) (by rw [hl1,hl2])
  generalize coV b w S=cs at *
  generalize coV b w T=ct at *
  generalize coE b w S=es at *
  generalize coE b w T=et at *
  generalize btE b w S T=e at *
  generalize btV b w S T=v at *
  subst hv
  by_cases he1:es=0
  · rw [if_neg (by simpa using he1)] at hE
    subst hE
    subst he1
    by_cases he2:e=0
    · subst he2
      rw [if_pos rfl]
      refine pd_of (fn:=Tryz.f19) [.tmp 8,.tmp 9] (by kernel_rfl) rfl (by kernel_rfl) (Nat.le_of_ble_eq_true rfl) (by kernel_rfl) rfl rfl ?_
      refine awp_seq ?_
      refine wRg ?_
      refine awp_seq ?_
      refine awpF_region ?_; intro K hK; simp only [push_cast,seval]
      refine CallK.pd (h1) ?_; refine wXo ?_
      simp only [cvs_sh,cvs_leaf,cvs_len,hl1,true_and]
      refine hK _ ?_; clear hK K
      refine awp_seq ?_
      refine awp_seq ?_
      refine awpF_region ?_; intro K hK; simp only [push_cast,seval,bne_self_eq_false]; refine wKk hK ?_; clear hK K
      refine wCd ?_ ?_
      · intro h; cases h
      intro _
      refine awp_skip ?_
      refine awp_seq ?_
      refine awpF_region ?_; intro K hK; simp only [push_cast,seval]
      refine CallK.pd (h2) ?_; refine wXo ?_
      simp only [cvs_sh,cvs_leaf,cvs_len,hl2,true_and]
      refine hK _ ?_; clear hK K
      refine awp_seq ?_
      refine awp_seq ?_
      refine awp_regionF ?_; intro K hK
      refine from_X 5 rfl rfl ?_; simp only [push_cast,seval,bne_self_eq_false,hl01,hl02]; refine wObW ?_
      refine OpX2.grd (by simp only [push_cast,seval,bne_self_eq_false]) (arrEq_X (n:=10) (e:=2) (t:=90) (by kernel_rfl) (rfl:Tryz.prog.info? 2=some _) (by kernel_rfl) (by kernel_rfl) (by kernel_rfl) (by kernel_rfl) hl1 hl2 rfl rfl ?_ ?_ ?_)
      · simp only [push_cast,seval]
      · simp only [push_cast,seval]
      simp only [push_cast,seval]
      by_cases heq:cs=ct
      · refine from_end ?_; simp only [push_cast,seval,decide_eq_true heq]; refine wKk hK ?_; clear hK K
        refine wCd ?_ ?_
        · intro _
          refine awp_seq ?_
          refine wRg ?_
          refine wRet ?_
          rw [hz.2 heq]
        · intro h; cases h
      · refine from_end ?_; simp only [push_cast,seval,decide_eq_false heq]; refine wKk hK ?_; clear hK K
        refine wCd ?_ ?_
        · intro h; cases h
        intro _
        refine awp_skip ?_
        refine awp_fz (.ref 0 0 0) ?_
        simp only [push_cast,seval,St.fz,St.frz,Blk.rowsD,dOfs_cvs,cvs_frz]
        refine awp_fz (.ref 1 0 0) ?_
        simp only [push_cast,seval,St.fz,St.frz,Blk.rowsD,dOfs_cvs,cvs_frz]
        refine awp_seq ?_
        refine awpF_draw [0,1,2,3,4] (by kernel_rfl) (by kernel_rfl) rfl ?_; intro K hK; simp only [push_cast,seval,nI_len,nI_rows,hl1,hl2]
        refine wOb ?_
        refine CallK.pd (h74) ?_; refine wXo ?_
        refine hK _ ?_; clear hK K
        refine wRet ?_
        rfl
    · have hb1:(e != 0)=true:=by simpa using he2
      rw [if_neg he2]
      refine pd_of (fn:=Tryz.f19) [.tmp 8,.tmp 9] (by kernel_rfl) rfl (by kernel_rfl) (Nat.le_of_ble_eq_true rfl) (by kernel_rfl) rfl rfl ?_
      refine awp_seq ?_
      refine wRg ?_
      refine awp_seq ?_
      refine awpF_region ?_; intro K hK; simp only [push_cast,seval]
      refine CallK.pd (h1) ?_; refine wXo ?_
      simp only [cvs_sh,cvs_leaf,cvs_len,hl1,true_and]
      refine hK _ ?_; clear hK K
      refine awp_seq ?_
      refine awp_seq ?_
      refine awpF_region ?_; intro K hK; simp only [push_cast,seval,bne_self_eq_false]; refine wKk hK ?_; clear hK K
      refine wCd ?_ ?_
      · intro h; cases h
      intro _
      refine awp_skip ?_
      refine awp_seq ?_
      refine awpF_region ?_; intro K hK; simp only [push_cast,seval]
      refine CallK.pd (h2) ?_; refine wXo ?_
      simp only [cvs_sh,cvs_leaf,cvs_len,hl2,true_and]
      refine hK _ ?_; clear hK K
      refine awp_seq ?_
      refine awp_seq ?_
      refine awp_regionF ?_; intro K hK
      refine from_X 5 rfl rfl ?_; simp only [push_cast,seval,hb1,hl01,hl02]; refine wObW ?_
      refine OpX2.off (.d (.bool false)) (by simp only [push_cast,seval,hb1]) ?_
      simp only [push_cast,seval]
      refine from_end ?_; simp only [push_cast,seval]; refine wKk hK ?_; clear hK K
      refine wCd ?_ ?_
      · intro _
        refine awp_seq ?_
        refine wRg ?_
        refine wRet ?_
        rfl
      · intro h; cases h
  · have hb1:(es != 0)=true:=by simpa using he1
    rw [if_pos he1] at hE
    subst hE
    rw [if_neg he1]
    refine pd_of (fn:=Tryz.f19) [.tmp 8,.tmp 9] (by kernel_rfl) rfl (by kernel_rfl) (Nat.le_of_ble_eq_true rfl) (by kernel_rfl) rfl rfl ?_
    refine awp_seq ?_
    refine wRg ?_
    refine awp_seq ?_
    refine awpF_region ?_; intro K hK; simp only [push_cast,seval]
    refine CallK.pd (h1) ?_; refine wXo ?_
    simp only [cvs_sh,cvs_leaf,cvs_len,hl1,true_and]
    refine hK _ ?_; clear hK K
    refine awp_seq ?_
    refine awp_seq ?_
    refine awpF_region ?_; intro K hK; simp only [push_cast,seval,hb1]; refine wKk hK ?_; clear hK K
    refine wCd ?_ ?_
    · intro _
      refine awp_seq ?_
      refine wRg ?_
      refine wRet ?_
      rfl
    · intro h; cases h
end Go.Aw
