/-
  RulesKnown answers true. No condition.
-/
import Derived.Test.YtlimahhonfckdaaGreatDoorPxY23
import Derived.Test.YtlimahhonfckdaaGreatDoorPxY7
import Derived.Test.YtlimahhonfckdaaGreatDoorPxU65
namespace Go.Aw
set_option linter.unusedSimpArgs false
set_option linter.unusedVariables false
open Go.RowKit Go.Proofs
set_option maxRecDepth 100000

def kn1:Fm:=.z ⟨1,0,0,0,0,0⟩
def knH:Fm:=.u ⟨6,0,0,0,1,3⟩ (.u ⟨7,0,0,0,0,2⟩ kn1)
def knI:Fm:=.b ⟨8,0,0,0,0,0⟩ (.u ⟨7,0,0,0,0,9⟩ kn1) kn1
def knD:Fm:=.b ⟨8,0,0,0,0,2⟩ (.z ⟨2,0,-1,5,0,0⟩) (.z ⟨2,0,-1,0,0,0⟩)
def knL:Fm:=.z ⟨2,0,-1,5,0,0⟩
def knM:Fm:=.u ⟨7,0,0,0,0,0⟩ (.z ⟨2,0,-1,9,0,0⟩)
def knN:Fm:=.u ⟨7,0,0,0,0,2⟩ (.z ⟨2,0,-1,3,0,0⟩)
def knO:Fm:=.u ⟨7,0,0,0,0,2⟩ (.z ⟨2,0,-1,2,0,0⟩)
def knP:Fm:=.u ⟨6,0,0,0,0,2⟩ (.z ⟨2,1,0,0,0,0⟩)
def knQ:Fm:=.u ⟨3,0,0,0,0,0⟩ (.z ⟨2,0,-1,-5,0,0⟩)
theorem knH_wf:knH.wf:=⟨.inr (.inl rfl),.inr (.inr rfl),.inl rfl⟩
theorem knI_wf:knI.wf:=⟨.inr (.inr rfl),⟨.inr (.inr rfl),.inl rfl⟩,.inl rfl⟩
theorem knD_wf:knD.wf:=⟨.inr (.inr rfl),.inr rfl,.inr rfl⟩
theorem knL_wf:knL.wf:=.inr rfl
theorem knM_wf:knM.wf:=⟨.inr (.inr rfl),.inr rfl⟩
theorem knN_wf:knN.wf:=⟨.inr (.inr rfl),.inr rfl⟩
theorem knO_wf:knO.wf:=⟨.inr (.inr rfl),.inr rfl⟩
theorem knP_wf:knP.wf:=⟨.inr (.inl rfl),.inr rfl⟩
theorem knQ_wf:knQ.wf:=⟨.inl rfl,.inr rfl⟩
def knB:List Lw:=[⟨1,knL.flat,knL⟩,⟨0,knM.flat,knM⟩]
theorem knB_ok:treesOk knB 1:=by
  intro l hl
  simp only [knB,List.mem_cons,List.not_mem_nil,or_false] at hl
  rcases hl with rfl | rfl
  · exact ⟨by decide,fun _=>⟨knL_wf,rfl⟩⟩
  · exact ⟨by decide,fun _=>⟨knM_wf,rfl⟩⟩
set_option maxHeartbeats 8000000 in
theorem q8:PD Tryz.prog 8 [] (.d (.bool true)):=by
  have bad:=fun (f:List Nd) (e:Int) (hf:f.length≤10) (hs:shE f 1≠0) (he:chkE f 1 kn1=e)=>he ▸ p16 f 1 kn1 (by omega) (fun h=>absurd h hs)
  have c1:=p16 knL.flat 1 knL (by decide) (fun _=>⟨knL_wf,rfl⟩)
  rw [show chkE knL.flat 1 knL=0 by decide +kernel,show knL.flat=[⟨2,0,-1,5,0,0⟩] from rfl] at c1
  have c2:=bad [⟨2,1,-1,5,0,0⟩] 2 (by decide) (by decide +kernel) (by decide +kernel)
  have c3:=bad [⟨4,0,0,0,0,0⟩,⟨1,0,0,0,0,0⟩] 6 (by decide) (by decide +kernel) (by decide +kernel)
  have c4:=bad [⟨1,0,0,0,0,0⟩,⟨1,0,0,0,0,0⟩] 5 (by decide) (by decide +kernel) (by decide +kernel)
  have c5:=bad [⟨7,0,0,0,3,2⟩,⟨1,0,0,0,0,0⟩] 2 (by decide) (by decide +kernel) (by decide +kernel)
  have c6:=bad [] 6 (by decide) (by decide +kernel) (by decide +kernel)
  have oH:=q37 [97,108,119,97,121,115,32,49,32,51,32,115,111,109,101,32,48,32,50,32,116,114,117,101] knH (by decide) (by decide +kernel) knH_wf (by decide +kernel)
  have oI:=q37 [117,110,116,105,108,32,48,32,48,32,115,111,109,101,32,48,32,57,32,116,114,117,101,32,116,114,117,101] knI (by decide) (by decide +kernel) knI_wf (by decide +kernel)
  have oL:=q37 [108,101,32,48,32,45,49,32,53] knL (by decide) (by decide +kernel) knL_wf (by decide +kernel)
  have oM:=q37 [115,111,109,101,32,48,32,48,32,108,101,32,48,32,45,49,32,57] knM (by decide) (by decide +kernel) knM_wf (by decide +kernel)
  have oN:=q37 [115,111,109,101,32,48,32,50,32,108,101,32,48,32,45,49,32,51] knN (by decide) (by decide +kernel) knN_wf (by decide +kernel)
  have oO:=q37 [115,111,109,101,32,48,32,50,32,108,101,32,48,32,45,49,32,50] knO (by decide) (by decide +kernel) knO_wf (by decide +kernel)
  have oP:=q37 [97,108,119,97,121,115,32,48,32,50,32,108,101,32,49,32,48,32,48] knP (by decide) (by decide +kernel) knP_wf (by decide +kernel)
  have oQ:=q37 [110,111,116,32,108,101,32,48,32,45,49,32,45,53] knQ (by decide) (by decide +kernel) knQ_wf (by decide +kernel)
  have zH:=p18 knH.flat knH (by decide) (fun _=>⟨knH_wf,rfl⟩)
  have zI:=p18 knI.flat knI (by decide) (fun _=>⟨knI_wf,rfl⟩)
  rw [show hzE knH.flat knH=5 by decide +kernel] at zH
  rw [show hzE knI.flat knI=0 by decide +kernel] at zI
  have sA:=q38 exAt exA 1 [3,4,5] (by decide) (by decide) (by decide +kernel) ⟨.inr (.inl rfl),.inr rfl⟩ (by decide +kernel) (by decide +kernel)
  have sD:=q38 [117,110,116,105,108,32,48,32,50,32,108,101,32,48,32,45,49,32,53,32,108,101,32,48,32,45,49,32,48] knD 1 [3,0] (by decide) (by decide) (by decide +kernel) knD_wf (by decide +kernel) (by decide +kernel)
  have sE:=q38 [117,110,116,105,108,32,48,32,50,32,108,101,32,48,32,45,49,32,53,32,108,101,32,48,32,45,49,32,48] knD 0 [3,9,0] (by decide) (by decide) (by decide +kernel) knD_wf (by decide +kernel) (by decide +kernel)
  have r1:=p75 [6,10,2] (by decide)
  have r2:=p75 [6,7,8] (by decide)
  have r3:=p75 [0,0,1] (by decide)
  have r4:=p75 [5] (by decide)
  have r5:=p75 [5,4,4] (by decide)
  have r6:=p75 [5,5,4] (by decide)
  have r7:=p75 [5,4,3] (by decide)
  have b1:=p41 knB 1 [[6],[10],[2]] knB_ok (by decide) (by decide)
  rw [show csV knB 1 [[6],[10],[2]]=[1,2,0,0,0,0,0,0,0,0] by decide +kernel,show coE knB 1 [[6],[10],[2]]=0 by decide +kernel] at b1
  have b2:=p42 knB 1 [[6],[10],[2]] [[6],[7],[8]] knB_ok (by decide) (by decide) (by decide)
  rw [show btV knB 1 [[6],[10],[2]] [[6],[7],[8]]=1 by decide +kernel,show btE knB 1 [[6],[10],[2]] [[6],[7],[8]]=0 by decide +kernel] at b2
  have b3:=p34 [1,2,0,0,0,0,0,0,0,0] [1,2,0,0,0,0,0,0,0,0] (by decide)
  rw [beq_self_eq_true] at b3
  have f1:=p30 stepsP [0] (by decide)
  rw [show folR stepsP [0]=[[0],[0],[1]] by decide +kernel,show folE stepsP [0]=0 by decide +kernel] at f1
  have f2:=p30 twoP [9,9] (by decide)
  rw [show folR twoP [9,9]=[[9,9],[9,9],[9,9],[9,9],[9,9],[9,9]] by decide +kernel,show folE twoP [9,9]=0 by decide +kernel] at f2
  have f3:=p23 [[0],[0],[1]] [[0],[0],[1]] (by decide) (by decide)
  have f4:=p23 [[9,9],[9,9],[9,9],[9,9],[9,9],[9,9]] [[9,9],[9,9],[9,9],[9,9],[9,9],[9,9]] (by decide) (by decide)
  rw [decide_eq_true rfl] at f3 f4
  have g1:=q27 knN.flat stepsP knN [[5]] (by decide) (by decide) (by decide) (fun _=>⟨knN_wf,rfl⟩)
  rw [show psB knN.flat stepsP knN [[5]]=true by decide +kernel,show reE knN.flat stepsP knN [[5]]=0 by decide +kernel] at g1
  have g2:=q27 knO.flat stepsP knO [[5]] (by decide) (by decide) (by decide) (fun _=>⟨knO_wf,rfl⟩)
  rw [show psB knO.flat stepsP knO [[5]]=false by decide +kernel,show reE knO.flat stepsP knO [[5]]=0 by decide +kernel] at g2
  have l1:=q43 knN.flat stepsP knN [[5],[4],[4]] 2 [0] (by decide) (by decide) (by decide) (fun _=>⟨knN_wf,rfl⟩) (by decide +kernel) (by decide +kernel) (by decide +kernel) (by decide +kernel) (by decide)
  have l2:=q43 knN.flat stepsP knN [[5],[5],[4]] 1 [0] (by decide) (by decide) (by decide) (fun _=>⟨knN_wf,rfl⟩) (by decide +kernel) (by decide +kernel) (by decide +kernel) (by decide +kernel) (by decide)
  have l3:=q43 knP.flat twoP knP [[0,0],[1,2]] 1 [1] (by decide) (by decide) (by decide) (fun _=>⟨knP_wf,rfl⟩) (by decide +kernel) (by decide +kernel) (by decide +kernel) (by decide +kernel) (by decide)
  have l4:=q43 knP.flat twoP knP [[0,0],[0,1]] 1 [0,1] (by decide) (by decide) (by decide) (fun _=>⟨knP_wf,rfl⟩) (by decide +kernel) (by decide +kernel) (by decide +kernel) (by decide +kernel) (by decide)
  have y1:=q29 knN.flat stepsP knN [[5],[4],[3]] (by decide) (by decide) (by decide) (fun _=>⟨knN_wf,rfl⟩)
  rw [show reAt knN.flat stepsP knN [[5],[4],[3]]=0 by decide +kernel,show reWho knN.flat stepsP knN [[5],[4],[3]]=[] by decide +kernel,show reL knN.flat stepsP knN [[5],[4],[3]]=false by decide +kernel,show reE knN.flat stepsP knN [[5],[4],[3]]=0 by decide +kernel] at y1
  have x1:=q44 [97,108,119,97,121,115,32,48,32,48,51,32,116,114,117,101] (by decide) (by decide +kernel)
  have x2:=q44 [108,101,32,48,32,45,49] (by decide) (by decide +kernel)
  have x3:=q44 [116,114,117,101,32,32,116,114,117,101] (by decide) (by decide +kernel)
  have n1:=p22 knQ.flat [⟨3,0,0,0,0,0⟩,⟨2,0,-1,-5,0,0⟩] (by decide)
  rw [show decide (knQ.flat=[⟨3,0,0,0,0,0⟩,⟨2,0,-1,-5,0,0⟩])=true by decide +kernel] at n1
  have h13:=p13
  have s40:=q40
  have s41:=q41
  have h46:=q46
  rw [show bs [97,108,119,97,121,115,32,49,32,51,32,115,111,109,101,32,48,32,50,32,116,114,117,101]=⟨#[97,108,119,97,121,115,32,49,32,51,32,115,111,109,101,32,48,32,50,32,116,114,117,101]⟩ from rfl] at oH
  rw [show bs [117,110,116,105,108,32,48,32,48,32,115,111,109,101,32,48,32,57,32,116,114,117,101,32,116,114,117,101]=⟨#[117,110,116,105,108,32,48,32,48,32,115,111,109,101,32,48,32,57,32,116,114,117,101,32,116,114,117,101]⟩ from rfl] at oI
  rw [show bs [108,101,32,48,32,45,49,32,53]=⟨#[108,101,32,48,32,45,49,32,53]⟩ from rfl] at oL
  rw [show bs [115,111,109,101,32,48,32,48,32,108,101,32,48,32,45,49,32,57]=⟨#[115,111,109,101,32,48,32,48,32,108,101,32,48,32,45,49,32,57]⟩ from rfl] at oM
  rw [show bs [115,111,109,101,32,48,32,50,32,108,101,32,48,32,45,49,32,51]=⟨#[115,111,109,101,32,48,32,50,32,108,101,32,48,32,45,49,32,51]⟩ from rfl] at oN
  rw [show bs [115,111,109,101,32,48,32,50,32,108,101,32,48,32,45,49,32,50]=⟨#[115,111,109,101,32,48,32,50,32,108,101,32,48,32,45,49,32,50]⟩ from rfl] at oO
  rw [show bs [97,108,119,97,121,115,32,48,32,50,32,108,101,32,49,32,48,32,48]=⟨#[97,108,119,97,121,115,32,48,32,50,32,108,101,32,49,32,48,32,48]⟩ from rfl] at oP
  rw [show bs [110,111,116,32,108,101,32,48,32,45,49,32,45,53]=⟨#[110,111,116,32,108,101,32,48,32,45,49,32,45,53]⟩ from rfl] at oQ
  rw [show bs exAt=⟨#[97,108,119,97,121,115,32,48,32,50,32,108,101,32,48,32,45,49,32,53]⟩ from rfl] at sA
  rw [show bs [117,110,116,105,108,32,48,32,50,32,108,101,32,48,32,45,49,32,53,32,108,101,32,48,32,45,49,32,48]=⟨#[117,110,116,105,108,32,48,32,50,32,108,101,32,48,32,45,49,32,53,32,108,101,32,48,32,45,49,32,48]⟩ from rfl] at sD
  rw [show bs [117,110,116,105,108,32,48,32,50,32,108,101,32,48,32,45,49,32,53,32,108,101,32,48,32,45,49,32,48]=⟨#[117,110,116,105,108,32,48,32,50,32,108,101,32,48,32,45,49,32,53,32,108,101,32,48,32,45,49,32,48]⟩ from rfl] at sE
  rw [show bs [97,108,119,97,121,115,32,48,32,48,51,32,116,114,117,101]=⟨#[97,108,119,97,121,115,32,48,32,48,51,32,116,114,117,101]⟩ from rfl] at x1
  rw [show bs [108,101,32,48,32,45,49]=⟨#[108,101,32,48,32,45,49]⟩ from rfl] at x2
  rw [show bs [116,114,117,101,32,32,116,114,117,101]=⟨#[116,114,117,101,32,32,116,114,117,101]⟩ from rfl] at x3
  clear bad
  simp only [knB,encLw,encNd,encR,encI,List.map_cons,List.map_nil] at *
  generalize knH.flat.map encNd=FH at *
  generalize knI.flat.map encNd=FI at *
  generalize knL.flat.map encNd=FL at *
  generalize knM.flat.map encNd=FM at *
  generalize knN.flat.map encNd=FN at *
  generalize knO.flat.map encNd=FO at *
  generalize knP.flat.map encNd=FP at *
  generalize knQ.flat.map encNd=FQ at *
  generalize stepsP.map encCh=PS at *
  generalize twoP.map encCh=PT at *
  refine pd_of (fn:=Tryz.f8) [.tmp 0] (by kernel_rfl) rfl (by kernel_rfl) (Nat.le_of_ble_eq_true rfl) (by kernel_rfl) rfl rfl ?_
  (repeat' (first | refine awp_seq ?_ | refine awp_skip ?_ | refine awp_block ?_ | ((first | ((fail_if_success refine awpF_region (id:=5) ?_); refine awpF_region ?_; intro K hK) | refine CallK.pd (c1) ?_ | refine CallK.pg (fun _=>c1) ?_ | refine CallK.pd (c2) ?_ | refine CallK.pg (fun _=>c2) ?_ | refine CallK.pd (c3) ?_ | refine CallK.pg (fun _=>c3) ?_ | refine CallK.pd (c4) ?_ | refine CallK.pg (fun _=>c4) ?_ | refine CallK.pd (c5) ?_ | refine CallK.pg (fun _=>c5) ?_ | refine CallK.pd (c6) ?_ | refine CallK.pg (fun _=>c6) ?_); simp only [push_cast,seval,beq_self_eq_true]; refine wObW ?_) | (refine hK _ ?_; clear hK K) | (refine wCd ?_ ?_) | (with_reducible intro hb; exfalso; revert hb; simp [beq_self_eq_true]; done) | (with_reducible intro hb; exfalso; replace hb:=wHb hb; omega; done) | (with_reducible intro hb; replace hb:=wHb hb) | (refine wEx ?_) | (refine wRp ?_; refine fin_of (by simp only [push_cast,seval,beq_self_eq_true]; first | done | rfl) ob1 ?_) | (refine inblock_norm ?_)))
  clear c1 c2 c3 c4 c5 c6
  (repeat' (first | refine awp_seq ?_ | refine awp_skip ?_ | refine awp_block ?_ | ((first | ((fail_if_success refine awpF_region (id:=14) ?_); refine awpF_region ?_; intro K hK) | refine CallK.pd (oH) ?_ | refine CallK.pg (fun _=>oH) ?_ | refine CallK.pd (oI) ?_ | refine CallK.pg (fun _=>oI) ?_ | refine CallK.pd (zH) ?_ | refine CallK.pg (fun _=>zH) ?_ | refine CallK.pd (zI) ?_ | refine CallK.pg (fun _=>zI) ?_ | refine CallK.pd (sA) ?_ | refine CallK.pg (fun _=>sA) ?_ | refine CallK.pd (sD) ?_ | refine CallK.pg (fun _=>sD) ?_ | refine CallK.pd (sE) ?_ | refine CallK.pg (fun _=>sE) ?_ | refine CallK.pd (oL) ?_ | refine CallK.pg (fun _=>oL) ?_ | refine CallK.pd (oM) ?_ | refine CallK.pg (fun _=>oM) ?_ | refine CallK.pd (r1) ?_ | refine CallK.pg (fun _=>r1) ?_ | refine CallK.pd (r2) ?_ | refine CallK.pg (fun _=>r2) ?_ | refine CallK.pd (b1) ?_ | refine CallK.pg (fun _=>b1) ?_ | refine CallK.pd (b2) ?_ | refine CallK.pg (fun _=>b2) ?_ | refine CallK.pd (b3) ?_ | refine CallK.pg (fun _=>b3) ?_ | refine CallK.pd (s40) ?_ | refine CallK.pg (fun _=>s40) ?_ | refine CallK.pd (s41) ?_ | refine CallK.pg (fun _=>s41) ?_ | refine CallK.pd (f1) ?_ | refine CallK.pg (fun _=>f1) ?_ | refine CallK.pd (f2) ?_ | refine CallK.pg (fun _=>f2) ?_); simp only [push_cast,seval,beq_self_eq_true]; refine wObW ?_) | (refine hK _ ?_; clear hK K) | (refine wCd ?_ ?_) | (with_reducible intro hb; exfalso; revert hb; simp [beq_self_eq_true]; done) | (with_reducible intro hb; exfalso; replace hb:=wHb hb; omega; done) | (with_reducible intro hb; replace hb:=wHb hb) | (refine wEx ?_) | (refine wRp ?_; refine fin_of (by simp only [push_cast,seval,beq_self_eq_true]; first | done | rfl) ob1 ?_) | (refine inblock_norm ?_)))
  clear oH oI zH zI sA sD sE oL oM b1 b2 b3 f1 f2
  refine awp_ren [16] ⟨[(4,.d (.bool true)),(5,.d (.bool true)),(6,.d (.bool true)),(12,.d (.bool true)),(13,.d (.sl [[.sl [[.int .i64 0]]],[.sl [[.int .i64 0]]],[.sl [[.int .i64 1]]]])),(14,.d (.int .i64 0)),(15,.d (.sl [[.sl [[.int .i64 9],[.int .i64 9]]],[.sl [[.int .i64 9],[.int .i64 9]]],[.sl [[.int .i64 9],[.int .i64 9]]],[.sl [[.int .i64 9],[.int .i64 9]]],[.sl [[.int .i64 9],[.int .i64 9]]],[.sl [[.int .i64 9],[.int .i64 9]]]])),(16,.d (.int .i64 0)),(17,.ref 0 0 2)],[.data 1 [[.int .i64 9],[.int .i64 9]]]⟩ ?_ ?_
  · exact wRen
  refine awp_fz (.ref 0 0 2) ?_
  simp only [push_cast,seval,St.fz,St.frz,Blk.rowsD,List.drop_zero]
  (repeat' (first | refine awp_seq ?_ | refine awp_skip ?_ | refine awp_block ?_ | ((first | ((fail_if_success refine awpF_region (id:=15) ?_); refine awpF_region ?_; intro K hK) | refine CallK.pd (r3) ?_ | refine CallK.pg (fun _=>r3) ?_ | refine CallK.pd (f3) ?_ | refine CallK.pg (fun _=>f3) ?_ | refine CallK.pd (f4) ?_ | refine CallK.pg (fun _=>f4) ?_); simp only [push_cast,seval,beq_self_eq_true]; refine wObW ?_) | (refine hK _ ?_; clear hK K) | (refine wCd ?_ ?_) | (with_reducible intro hb; exfalso; revert hb; simp [beq_self_eq_true]; done) | (with_reducible intro hb; exfalso; replace hb:=wHb hb; omega; done) | (with_reducible intro hb; replace hb:=wHb hb) | (refine wEx ?_) | (refine wRp ?_; refine fin_of (by simp only [push_cast,seval,beq_self_eq_true]; first | done | rfl) ob1 ?_) | (refine inblock_norm ?_)))
  refine awp_ren [] ⟨[(4,.d (.bool true)),(5,.d (.bool true)),(6,.d (.bool true)),(12,.d (.bool true)),(18,.d (.bool true))],[]⟩ ?_ ?_
  · exact wRen
  (repeat' (first | refine awp_seq ?_ | refine awp_skip ?_ | refine awp_block ?_ | ((first | ((fail_if_success refine awpF_region (id:=18) ?_); refine awpF_region ?_; intro K hK) | refine CallK.pd (oN) ?_ | refine CallK.pg (fun _=>oN) ?_ | refine CallK.pd (oO) ?_ | refine CallK.pg (fun _=>oO) ?_ | refine CallK.pd (s40) ?_ | refine CallK.pg (fun _=>s40) ?_ | refine CallK.pd (r4) ?_ | refine CallK.pg (fun _=>r4) ?_ | refine CallK.pd (g1) ?_ | refine CallK.pg (fun _=>g1) ?_ | refine CallK.pd (g2) ?_ | refine CallK.pg (fun _=>g2) ?_); simp only [push_cast,seval,beq_self_eq_true]; refine wObW ?_) | (refine hK _ ?_; clear hK K) | (refine wCd ?_ ?_) | (with_reducible intro hb; exfalso; revert hb; simp [beq_self_eq_true]; done) | (with_reducible intro hb; exfalso; replace hb:=wHb hb; omega; done) | (with_reducible intro hb; replace hb:=wHb hb) | (refine wEx ?_) | (refine wRp ?_; refine fin_of (by simp only [push_cast,seval,beq_self_eq_true]; first | done | rfl) ob1 ?_) | (refine inblock_norm ?_)))
  refine awp_ren [] ⟨[(4,.d (.bool true)),(5,.d (.bool true)),(6,.d (.bool true)),(12,.d (.bool true)),(18,.d (.bool true)),(19,.d (.sl FN)),(20,.d (.bool true)),(21,.d (.int .i64 0)),(22,.d (.bool false)),(23,.d (.int .i64 0))],[]⟩ ?_ ?_
  · exact wRen
  (repeat' (first | refine awp_seq ?_ | refine awp_skip ?_ | refine awp_block ?_ | ((first | ((fail_if_success refine awpF_region (id:=19) ?_); refine awpF_region ?_; intro K hK) | refine CallK.pd (s40) ?_ | refine CallK.pg (fun _=>s40) ?_ | refine CallK.pd (r5) ?_ | refine CallK.pg (fun _=>r5) ?_ | refine CallK.pd (r6) ?_ | refine CallK.pg (fun _=>r6) ?_ | refine CallK.pd (l1) ?_ | refine CallK.pg (fun _=>l1) ?_ | refine CallK.pd (l2) ?_ | refine CallK.pg (fun _=>l2) ?_); simp only [push_cast,seval,beq_self_eq_true]; refine wObW ?_) | (refine hK _ ?_; clear hK K) | (refine wCd ?_ ?_) | (with_reducible intro hb; exfalso; revert hb; simp [beq_self_eq_true]; done) | (with_reducible intro hb; exfalso; replace hb:=wHb hb; omega; done) | (with_reducible intro hb; replace hb:=wHb hb) | (refine wEx ?_) | (refine wRp ?_; refine fin_of (by simp only [push_cast,seval,beq_self_eq_true]; first | done | rfl) ob1 ?_) | (refine inblock_norm ?_)))
  refine awp_ren [] ⟨[(4,.d (.bool true)),(5,.d (.bool true)),(6,.d (.bool true)),(12,.d (.bool true)),(18,.d (.bool true)),(19,.d (.sl FN)),(24,.d (.bool true))],[]⟩ ?_ ?_
  · exact wRen
  (repeat' (first | refine awp_seq ?_ | refine awp_skip ?_ | refine awp_block ?_ | ((first | ((fail_if_success refine awpF_region (id:=21) ?_); refine awpF_region ?_; intro K hK) | refine CallK.pd (s40) ?_ | refine CallK.pg (fun _=>s40) ?_ | refine CallK.pd (r7) ?_ | refine CallK.pg (fun _=>r7) ?_ | refine CallK.pd (y1) ?_ | refine CallK.pg (fun _=>y1) ?_ | refine CallK.pd (oP) ?_ | refine CallK.pg (fun _=>oP) ?_); simp only [push_cast,seval,beq_self_eq_true]; refine wObW ?_) | (refine hK _ ?_; clear hK K) | (refine wCd ?_ ?_) | (with_reducible intro hb; exfalso; revert hb; simp [beq_self_eq_true]; done) | (with_reducible intro hb; exfalso; replace hb:=wHb hb; omega; done) | (with_reducible intro hb; replace hb:=wHb hb) | (refine wEx ?_) | (refine wRp ?_; refine fin_of (by simp only [push_cast,seval,beq_self_eq_true]; first | done | rfl) ob1 ?_) | (refine inblock_norm ?_)))
  refine awp_ren [] ⟨[(4,.d (.bool true)),(5,.d (.bool true)),(6,.d (.bool true)),(12,.d (.bool true)),(18,.d (.bool true)),(24,.d (.bool true)),(26,.d (.bool false)),(27,.d (.int .i64 0)),(28,.d (.sl FP))],[]⟩ ?_ ?_
  · exact wRen
  (repeat' (first | refine awp_seq ?_ | refine awp_skip ?_ | refine awp_block ?_ | ((first | ((fail_if_success refine awpF_region (id:=22) ?_); refine awpF_region ?_; intro K hK) | refine CallK.pd (s41) ?_ | refine CallK.pg (fun _=>s41) ?_ | refine CallK.pd (l3) ?_ | refine CallK.pg (fun _=>l3) ?_ | refine CallK.pd (l4) ?_ | refine CallK.pg (fun _=>l4) ?_); simp only [push_cast,seval,beq_self_eq_true]; refine wObW ?_) | (refine hK _ ?_; clear hK K) | (refine wCd ?_ ?_) | (with_reducible intro hb; exfalso; revert hb; simp [beq_self_eq_true]; done) | (with_reducible intro hb; exfalso; replace hb:=wHb hb; omega; done) | (with_reducible intro hb; replace hb:=wHb hb) | (refine wEx ?_) | (refine wRp ?_; refine fin_of (by simp only [push_cast,seval,beq_self_eq_true]; first | done | rfl) ob1 ?_) | (refine inblock_norm ?_)))
  refine awp_ren [] ⟨[(4,.d (.bool true)),(5,.d (.bool true)),(6,.d (.bool true)),(12,.d (.bool true)),(18,.d (.bool true)),(24,.d (.bool true)),(29,.d (.bool true))],[]⟩ ?_ ?_
  · exact wRen
  (repeat' (first | refine awp_seq ?_ | refine awp_skip ?_ | refine awp_block ?_ | ((first | (refine awpF_region ?_; intro K hK) | refine CallK.pd (x1) ?_ | refine CallK.pg (fun _=>x1) ?_ | refine CallK.pd (x2) ?_ | refine CallK.pg (fun _=>x2) ?_ | refine CallK.pd (x3) ?_ | refine CallK.pg (fun _=>x3) ?_ | refine CallK.pd (oQ) ?_ | refine CallK.pg (fun _=>oQ) ?_ | refine CallK.pd (n1) ?_ | refine CallK.pg (fun _=>n1) ?_ | refine CallK.pd (h13) ?_ | refine CallK.pg (fun _=>h13) ?_ | refine CallK.pd (h46) ?_ | refine CallK.pg (fun _=>h46) ?_); simp only [push_cast,seval,beq_self_eq_true]; refine wObW ?_) | (refine hK _ ?_; clear hK K) | (refine wCd ?_ ?_) | (with_reducible intro hb; exfalso; revert hb; simp [beq_self_eq_true]; done) | (with_reducible intro hb; exfalso; replace hb:=wHb hb; omega; done) | (with_reducible intro hb; replace hb:=wHb hb) | (refine wEx ?_) | (refine wRp ?_; refine fin_of (by simp only [push_cast,seval,beq_self_eq_true]; first | done | rfl) ob1 ?_) | (refine inblock_norm ?_)))
  rfl
end Go.Aw
