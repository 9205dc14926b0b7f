/-
  The chapter's examples: a watch. No condition.
-/
import Derived.Test.YtlimahhonfckdaaGreatDoorPxY22
import Derived.Test.YtlimahhonfckdaaGreatDoorPxY18
import Derived.Test.YtlimahhonfckdaaGreatDoorPxU73
namespace Go.Aw
set_option linter.unusedSimpArgs false
set_option linter.unusedVariables false
open Go.RowKit Go.Proofs
set_option maxRecDepth 100000

def exC:Fm:=.u ⟨7,0,0,0,0,1⟩ (.z ⟨2,0,-1,0,0,0⟩)
theorem exC_wf:exC.wf:=⟨.inr (.inr rfl),.inr rfl⟩
set_option maxHeartbeats 4000000 in
theorem q46:PD Tryz.prog 46 [] (.d (.bool true)):=by
  have h37:=q37 [115,111,109,101,32,48,32,49,32,108,101,32,48,32,45,49,32,48] exC (by decide) (by decide +kernel) exC_wf (by decide +kernel)
  have h13:=p39 exC.flat 1 exC (by decide) (fun _=>⟨exC_wf,rfl⟩)
  have e0:bgW exC.flat 1 exC=⟨exC.flat,1,0,[],[]⟩:=by kernel_rfl
  have e1:chkE exC.flat 1 exC=0:=by decide +kernel
  rw [e0,e1] at h13
  have st:=fun (w:Wt) (row:List Int) (hw:w.nodes=exC.flat) (h1:w.rows.length≤10) (h2:w.opn.length≤10) (h3:row.length≤10)=>p40 w exC row (by rw [hw]; decide) (fun _=>⟨exC_wf,hw⟩) (by omega) (by omega) (by omega)
  have h1:=st ⟨exC.flat,1,0,[],[]⟩ [5] rfl (by decide) (by decide) (by decide)
  have h2:=st ⟨exC.flat,1,0,[[5]],[0]⟩ [4] rfl (by decide) (by decide) (by decide)
  have h3:=st ⟨exC.flat,1,1,[[4]],[1]⟩ [0] rfl (by decide) (by decide) (by decide)
  clear st
  have a1:puW exC ⟨exC.flat,1,0,[],[]⟩ [5]=⟨exC.flat,1,0,[[5]],[0]⟩:=by kernel_rfl
  have a2:puS exC ⟨exC.flat,1,0,[],[]⟩ [5]=[]:=by kernel_rfl
  have a3:pushE exC ⟨exC.flat,1,0,[],[]⟩ [5]=0:=by kernel_rfl
  have b1:puW exC ⟨exC.flat,1,0,[[5]],[0]⟩ [4]=⟨exC.flat,1,1,[[4]],[1]⟩:=by kernel_rfl
  have b2:puS exC ⟨exC.flat,1,0,[[5]],[0]⟩ [4]=[(0,false)]:=by kernel_rfl
  have b3:pushE exC ⟨exC.flat,1,0,[[5]],[0]⟩ [4]=0:=by kernel_rfl
  have c1:puW exC ⟨exC.flat,1,1,[[4]],[1]⟩ [0]=⟨exC.flat,1,3,[],[]⟩:=by kernel_rfl
  have c2:puS exC ⟨exC.flat,1,1,[[4]],[1]⟩ [0]=[(1,true),(2,true)]:=by kernel_rfl
  have c3:pushE exC ⟨exC.flat,1,1,[[4]],[1]⟩ [0]=0:=by kernel_rfl
  rw [a1,a2,a3] at h1
  rw [b1,b2,b3] at h2
  rw [c1,c2,c3] at h3
  have h54a:=q54 [(0,false)] (by decide)
  have h54b:=q54 [(1,true),(2,true)] (by decide)
  clear a1 a2 a3 b1 b2 b3 c1 c2 c3 e0 e1
  have tx:bs [115,111,109,101,32,48,32,49,32,108,101,32,48,32,45,49,32,48]=⟨#[115,111,109,101,32,48,32,49,32,108,101,32,48,32,45,49,32,48]⟩:=rfl
  rw [tx] at h37
  simp only [wtD,wtV,encR,encI,encSd,List.map_cons,List.map_nil] at h1 h2 h3 h13 h54a h54b
  generalize exC.flat.map encNd=F at *
  refine pd_of (fn:=Tryz.f46) [.tmp 0] (by kernel_rfl) rfl (by kernel_rfl) (Nat.le_of_ble_eq_true rfl) (by kernel_rfl) rfl rfl ?_
  (repeat' (first | refine awp_seq ?_ | refine awp_skip ?_ | refine awp_block ?_ | ((first | (refine awpF_region ?_; intro K hK) | refine CallK.pd (h37) ?_ | refine CallK.pg (fun _=>h37) ?_ | refine CallK.pd (h13) ?_ | refine CallK.pg (fun _=>h13) ?_ | refine CallK.pd (h1) ?_ | refine CallK.pg (fun _=>h1) ?_ | refine CallK.pd (h2) ?_ | refine CallK.pg (fun _=>h2) ?_ | refine CallK.pd (h3) ?_ | refine CallK.pg (fun _=>h3) ?_ | refine CallK.pd (h54a) ?_ | refine CallK.pg (fun _=>h54a) ?_ | refine CallK.pd (h54b) ?_ | refine CallK.pg (fun _=>h54b) ?_); simp only [push_cast,seval,beq_self_eq_true]; refine wObW ?_) | (refine hK _ ?_; clear hK K) | (refine wCd ?_ ?_) | (with_reducible intro hb; exfalso; revert hb; simp [beq_self_eq_true]; done) | (with_reducible intro hb; exfalso; replace hb:=wHb hb; omega; done) | (with_reducible intro hb; replace hb:=wHb hb) | (refine wEx ?_) | (refine wRp ?_; refine fin_of (by simp only [push_cast,seval,beq_self_eq_true]; first | done | rfl) ob1 ?_) | (refine inblock_norm ?_)))
  rfl
end Go.Aw
