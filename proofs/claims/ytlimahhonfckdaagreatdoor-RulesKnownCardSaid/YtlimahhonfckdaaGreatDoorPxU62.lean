/-
  Valid books and the costs of a trace,on the program's side. Conditions: lengths that fit.
-/
import Derived.Test.YtlimahhonfckdaaGreatDoorPxAwAe
import Derived.Test.YtlimahhonfckdaaGreatDoorRuM
import Derived.Test.YtlimahhonfckdaaGreatDoorRuE
namespace Go.Aw
set_option linter.unusedSimpArgs false
set_option linter.unusedVariables false
open Go.RowKit Go.Proofs
set_option maxRecDepth 100000

def treesOk (b:List Lw) (w:Int) : Prop:=∀ l,l∈b→l.nodes.length≤1000000∧(shE l.nodes w=0→l.tree.wf∧l.nodes=l.tree.flat)
theorem p96 (b:List Lw) (w:Int) (ht:treesOk b w) : PD Tryz.prog 21 [.sl (b.map encLw),.int .i64 w] (.d (.int .i64 (bkE b w))):=by
  have hq:∀ row,row∈b.map encLw→row.length=2:=fun row hr=>by obtain ⟨_,_,rfl⟩:=List.mem_map.1 hr; rfl
  refine pd_of (fn:=Tryz.f21) [.tmp 4] (by kernel_rfl) rfl (by kernel_rfl) (Nat.le_of_ble_eq_true rfl) (by kernel_rfl) rfl rfl ?_
  refine awp_seq ?_
  refine wRg ?_
  refine awp_seq ?_
  refine awp_seq ?_
  refine wRg ?_
  refine wCd ?_ ?_
  · intro h1; replace h1:=wHb h1
    refine awp_seq ?_
    refine wRg ?_
    refine wRet ?_
    rw [bkE,if_pos (by omega)]
  intro h1; replace h1:=wHb h1
  refine awp_skip ?_
  have hbk:bkE b w=if lwsE w b≠0 then lwsE w b else if w<1∨12<w then 2 else 0:=by rw [bkE,if_neg (by omega)]
  refine awp_seq ?_
  refine awp_seq ?_
  refine wRg ?_
  refine awp_block ?_
  refine awp_loopP (α:=Nat) (st:=fun i=>⟨[(1,.d (.int .i64 w)),(11,.d (.sl (b.map encLw))),(12,.d (.int .i64 b.length)),(13,.d (.int .i64 i))],[]⟩)
    (inv:=fun i=>i≤b.length∧∀ l,l∈b.take i→lwE l w=0) (μ:=fun i=>b.length - i) (x0:=0) (r0:=[]) ⟨Nat.zero_le _,by simp⟩ ?_ ?_
  · exact wRen
  rintro i ⟨hi,hall⟩
  have hdr:=lwsE_drop hall
  refine awp_seq ?_
  refine wRg ?_
  refine awp_seq ?_
  refine wCd ?_ ?_
  · intro h2; replace h2:=wHb h2
    have hlt:i<b.length:=by omega
    obtain ⟨l,hl⟩ : ∃ l,b[i]? = some l:=⟨_,List.getElem?_eq_getElem hlt⟩
    have hmem:=List.mem_of_getElem? hl
    rw [List.drop_eq_getElem_cons hlt,show b[i]=l from (List.getElem?_eq_some_iff.1 hl).2,lwsE] at hdr
    obtain ⟨rk,nodes,tree⟩:=l
    have h16:=p16 nodes w tree (ht _ hmem).1 (ht _ hmem).2
    have hbad:lwE ⟨rk,nodes,tree⟩ w≠0→bkE b w=lwE ⟨rk,nodes,tree⟩ w:=fun h=>by
      rw [if_neg h] at hdr
      rw [hbk,hdr,if_pos h]
    have hle:lwE ⟨rk,nodes,tree⟩ w=if rk<0∨9<rk then 2 else chkE nodes w tree:=rfl
    generalize chkE nodes w tree=ce at *
    refine awp_skip ?_
    refine awp_seq ?_
    refine awp_block ?_
    refine awp_seq ?_
    refine awpF_region ?_; intro K hK; simp only [push_cast,seval,hl,encLw,Int.toNat_natCast]; refine wKk hK ?_; clear hK K
    refine awp_seq ?_
    refine awp_seq ?_
    refine awpF_region ?_; intro K hK; simp only [push_cast,seval]
    generalize e1:decide (rk<0)=b1
    generalize e2:decide (rk > 9)=b2
    (repeat ((with_reducible refine And.intro ?_ ?_); (focus ((cases b1 <;> cases b2 <;> (simp; done))))))
    refine hK _ ?_; clear hK K
    have hr:(rk<0∨9<rk)↔(bif b1 then true else b2)=true:=by
      rw [← e1,← e2]
      by_cases h:rk<0 <;> by_cases h':9<rk <;> simp [h,h']
    clear e1 e2
    refine wCd ?_ ?_
    · intro h3
      rw [if_pos (hr.2 h3)] at hle
      refine awp_seq ?_
      refine wRg ?_
      refine wRet ?_
      rw [hbad (by rw [hle]; decide),hle]
    · intro h3
      rw [if_neg (fun h=>by rw [hr.1 h] at h3; cases h3)] at hle
      refine awp_skip ?_
      refine awp_seq ?_
      refine awpF_region ?_; intro K hK; simp only [push_cast,seval]
      refine CallK.pd (h16) ?_; refine wXo ?_
      refine hK _ ?_; clear hK K
      refine awp_seq ?_
      refine wRg ?_
      refine wCd ?_ ?_
      · intro h4
        have h4':ce≠0:=by simpa using h4
        refine awp_seq ?_
        refine wRg ?_
        refine wRet ?_
        rw [hbad (by rw [hle]; exact h4'),hle]
      · intro h4
        have h4':ce=0:=by simpa using h4
        refine awp_skip ?_
        refine inblock_norm ?_
        refine wRg ?_
        refine round_endG (i+1) [] ⟨by omega,⟨by omega,fun m hm => ?_⟩,?_⟩
        · rw [List.take_add_one,hl] at hm
          simp only [Option.toList_some,List.mem_append,List.mem_singleton] at hm
          rcases hm with hm | rfl
          · exact hall m hm
          · rw [hle,h4']
        · push_cast
          exact wRen
  · intro h2; replace h2:=wHb h2
    obtain rfl:i=b.length:=by omega
    rw [List.take_length] at hall
    rw [lwsE_none hall,if_neg (by simp)] at hbk
    rw [hbk]
    refine wEx ?_
    refine awp_seq ?_
    refine awp_seq ?_
    refine wRg ?_
    refine wCd ?_ ?_
    · intro h3
      refine awp_seq ?_
      refine wRg ?_
      refine wRet ?_
      rw [if_pos (by
        rw [bif_or] at h3
        simp at h3
        omega)]
    · intro h3
      refine awp_skip ?_
      refine awp_seq ?_
      refine wRg ?_
      refine wRet ?_
      rw [if_neg (by
        rw [bif_or] at h3
        simp at h3
        omega)]
end Go.Aw
