/-
  Texts of the library,one behind the other. Over any program; no condition.
-/
import Derived.Test.YtlimahhonfckdaaGreatDoorRuA
namespace Go.Aw
set_option linter.unusedSimpArgs false
set_option linter.unusedVariables false
open Go.RowKit Go.Proofs
set_option maxRecDepth 100000

def encI (x:Int) : List D:=[.int .i64 x]
def encR (r:List Int) : List D:=[.sl (r.map encI)]
def inV (x:Int) : Bool:=decide (-1099511627776≤x∧x≤1099511627776)
def rowE (w:Int) (r:List Int) : Int:=if (r.length:Int)≠w then 3 else if r.all inV then 0 else 2
def rowsE (w:Int) : List (List Int)→Int
  | []=>0
  | r::l=>if rowE w r=0 then rowsE w l else rowE w r
def trE (t:List (List Int)) (w:Int) : Int:=if w<1∨12<w then 2 else if 400<t.length then 8 else rowsE w t
theorem rowsE_drop {w:Int} : ∀ {f:List (List Int)} {i:Nat},(∀ n,n∈f.take i→rowE w n=0)→rowsE w f=rowsE w (f.drop i)
  | f,0,_=>by rw [List.drop_zero]
  | [],i+1,_=>by rw [List.drop_nil]
  | n::l,i+1,h=>by
    rw [List.drop_succ_cons,← rowsE_drop (f:=l) (i:=i) fun m hm=>h m (by simp [hm]),rowsE,if_pos (h n (by simp))]
theorem p20 (t:List (List Int)) (w:Int) : PD Tryz.prog 70 [.sl (t.map encR),.int .i64 w] (.d (.int .i64 (trE t w))):=by
  have hq:∀ row,row∈t.map encR→row.length=1:=fun row hr=>by obtain ⟨_,_,rfl⟩:=List.mem_map.1 hr; rfl
  refine pd_of (fn:=Tryz.f70) [.tmp 4] (by kernel_rfl) rfl (by kernel_rfl) (Nat.le_of_ble_eq_true rfl) (by kernel_rfl) rfl rfl ?_
  refine awp_seq ?_
  refine wRg ?_
  refine awp_seq ?_
  refine awp_seq ?_
  refine wRg ?_
  refine wCd ?_ ?_
  · intro h1; replace h1:=wHb h1
    have h1':w<1∨12<w:=by
      rw [bif_or] at h1
      simp at h1
      omega
    refine awp_seq ?_
    refine wRg ?_
    refine wRet ?_
    rw [trE,if_pos h1']
  intro h1; replace h1:=wHb h1
  have h1':¬ (w<1∨12<w):=by
    rw [bif_or] at h1
    simp at h1
    omega
  rw [trE,if_neg h1']
  clear h1
  refine awp_skip ?_
  refine awp_seq ?_
  refine awp_seq ?_
  refine wRg ?_
  refine wCd ?_ ?_
  · intro h2; replace h2:=wHb h2
    refine awp_seq ?_
    refine wRg ?_
    refine wRet ?_
    rw [if_pos (by omega)]
  intro h2; replace h2:=wHb h2
  rw [if_neg (by omega)]
  refine awp_skip ?_
  refine awp_seq ?_
  refine awp_seq ?_
  refine wRg ?_
  refine awp_block ?_
  refine awp_loopP (α:=Nat) (st:=fun i=>⟨[(1,.d (.int .i64 w)),(18,.d (.sl (t.map encR))),(19,.d (.int .i64 t.length)),(20,.d (.int .i64 i))],[]⟩)
    (inv:=fun i=>i≤t.length∧∀ n,n∈t.take i→rowE w n=0) (μ:=fun i=>t.length - i) (x0:=0) (r0:=[]) ⟨Nat.zero_le _,by simp⟩ ?_ ?_
  · exact wRen
  intro i hi
  obtain ⟨hi,hall⟩:=hi
  have hfe:=rowsE_drop hall
  refine awp_seq ?_
  refine wRg ?_
  refine awp_seq ?_
  refine wCd ?_ ?_
  · intro h3; replace h3:=wHb h3
    have hlt:i<t.length:=by omega
    obtain ⟨r,hr⟩ : ∃ n,t[i]? = some n:=⟨_,List.getElem?_eq_getElem hlt⟩
    rw [List.drop_eq_getElem_cons hlt,rowsE,show t[i]=r from (List.getElem?_eq_some_iff.1 hr).2] at hfe
    refine awp_skip ?_
    refine awp_seq ?_
    refine awp_block ?_
    refine awp_seq ?_
    refine awpF_region ?_; intro K hK; simp only [push_cast,seval,hr,encR]; refine wKk hK ?_; clear hK K
    refine awp_seq ?_
    refine awp_seq ?_
    refine wRg ?_
    refine wCd ?_ ?_
    · intro h4
      have h4':¬ (r.length:Int)=w:=by simpa using h4
      refine awp_seq ?_
      refine wRg ?_
      refine wRet ?_
      rw [hfe,rowE,if_pos h4',if_neg (by decide)]
    · intro h4
      have h4':(r.length:Int)=w:=by simpa using h4
      have hre:rowE w r=if r.all inV then 0 else 2:=by rw [rowE,if_neg (fun h=>h h4')]
      have hqr:∀ row,row∈r.map encI→row.length=1:=fun row hr=>by obtain ⟨_,_,rfl⟩:=List.mem_map.1 hr; rfl
      refine awp_skip ?_
      refine awp_seq ?_
      refine wRg ?_
      refine awp_block ?_
      refine awp_loopP (α:=Nat) (st:=fun j=>⟨[(1,.d (.int .i64 w)),(18,.d (.sl (t.map encR))),(19,.d (.int .i64 t.length)),(20,.d (.int .i64 i)),(28,.d (.sl (r.map encI))),(29,.d (.int .i64 r.length)),(30,.d (.int .i64 j))],[]⟩)
        (inv:=fun j=>j≤r.length∧∀ x,x∈r.take j→inV x=true) (μ:=fun j=>r.length - j) (x0:=0) (r0:=[]) ⟨Nat.zero_le _,by simp⟩ ?_ ?_
      · exact wRen
      intro j hj
      obtain ⟨hj,hallj⟩:=hj
      refine awp_seq ?_
      refine wRg ?_
      refine awp_seq ?_
      refine wCd ?_ ?_
      · intro h5; replace h5:=wHb h5
        have hjl:j<r.length:=by omega
        obtain ⟨x,hx⟩ : ∃ x,r[j]? = some x:=⟨_,List.getElem?_eq_getElem hjl⟩
        refine awp_skip ?_
        refine awp_seq ?_
        refine awp_block ?_
        refine awp_seq ?_
        refine awpF_region ?_; intro K hK; simp only [push_cast,seval,hx,encI]; refine wKk hK ?_; clear hK K
        refine awp_seq ?_
        refine awpF_region ?_; intro K hK; simp only [push_cast,seval]
        refine wOb ?_
        refine CallK.pd (p49 _ _ _) ?_; refine wXo ?_
        refine hK _ ?_; clear hK K
        refine wCd ?_ ?_
        · intro h6
          have h6':inV x=false:=by
            unfold inV
            simp at h6 ⊢
            omega
          have hra:¬ r.all inV=true:=fun h=>by
            rw [List.all_eq_true.1 h x (List.mem_of_getElem? hx)] at h6'
            cases h6'
          rw [hre,if_neg hra] at hfe
          refine awp_seq ?_
          refine wRg ?_
          refine wRet ?_
          rw [hfe,if_neg (by decide)]
        · intro h6
          have h6':inV x=true:=by
            unfold inV
            simpa using h6
          refine awp_skip ?_
          refine inblock_norm ?_
          refine wRg ?_
          refine round_endG (j+1) [] ⟨by omega,⟨by omega,fun m hm => ?_⟩,?_⟩
          · rw [List.take_add_one,hx] at hm
            simp only [Option.toList_some,List.mem_append,List.mem_singleton] at hm
            rcases hm with hm | rfl
            · exact hallj m hm
            · exact h6'
          · exact wRen
      · intro h5; replace h5:=wHb h5
        obtain rfl:j=r.length:=by omega
        rw [List.take_length] at hallj
        rw [if_pos (List.all_eq_true.2 hallj)] at hre
        refine wEx ?_
        refine inblock_norm ?_
        refine wRg ?_
        refine round_endG (i+1) [] ⟨by omega,⟨by omega,fun m hm => ?_⟩,?_⟩
        · rw [List.take_add_one,hr] at hm
          simp only [Option.toList_some,List.mem_append,List.mem_singleton] at hm
          rcases hm with hm | rfl
          · exact hall m hm
          · exact hre
        · exact wRen
  intro h3; replace h3:=wHb h3
  obtain rfl:i=t.length:=by omega
  rw [List.drop_length,rowsE] at hfe
  rw [hfe]
  refine wEx ?_
  (repeat' (first | refine awp_seq ?_ | refine awp_skip ?_ | refine awp_block ?_ | ((first | (refine awpF_region ?_; intro K hK)); refine wXo ?_) | (refine hK _ ?_; clear hK K) | (refine wCd ?_ ?_) | (with_reducible intro hb; exfalso; revert hb; simp []; done) | (with_reducible intro hb; exfalso; replace hb:=wHb hb; omega; done) | (with_reducible intro hb; replace hb:=wHb hb) | (refine wEx ?_) | (refine wRet ?_) | (refine inblock_norm ?_)))
  rfl
end Go.Aw

namespace Go.Aw
set_option linter.unusedSimpArgs false
set_option linter.unusedVariables false
open Go.RowKit Go.Proofs
set_option maxRecDepth 100000

end Go.Aw

namespace Go.Aw
set_option linter.unusedSimpArgs false
set_option linter.unusedVariables false
open Go.RowKit Go.Proofs
set_option maxRecDepth 100000

theorem p34 (a b:List Int) (ha:a.length≤1000000000) : PD Tryz.prog 23 [.sl (a.map encI),.sl (b.map encI)] (.d (.bool (a==b))):=by
  refine pd_of (fn:=Tryz.f23) [.tmp 4] (by kernel_rfl) rfl (by kernel_rfl) (Nat.le_of_ble_eq_true rfl) (by kernel_rfl) rfl rfl ?_
  refine awp_seq ?_
  refine wRg ?_
  refine awp_seq ?_
  refine awp_seq ?_
  refine wRg ?_
  refine awp_block ?_
  refine awp_loopP (st:=fun x:Nat=>⟨[(0,.d (.sl (a.map encI))),(1,.d (.sl (b.map encI))),(5,.d (.int .i64 x))],[]⟩) (inv:=fun x=>x≤a.length∧x≤b.length∧∀ i,i<x→a[i]? = b[i]?) (μ:=fun x=>a.length - x) (x0:=0) (r0:=[]) ?_ ?_ ?_
  · simp
  · exact wRen
  rintro x ⟨hx1,hx2,hx3⟩
  refine awp_seq ?_
  refine awp_seq ?_
  refine wRg ?_
  refine wCd ?_ ?_
  · intro hb; replace hb:=wHb hb
    have hlt:x<a.length∧x<b.length:=by simp at hb; omega
    obtain ⟨p,hp⟩ : ∃ p,a[x]? = some p:=⟨_,List.getElem?_eq_getElem hlt.1⟩
    obtain ⟨q,hq⟩ : ∃ p,b[x]? = some p:=⟨_,List.getElem?_eq_getElem hlt.2⟩
    refine awp_skip ?_
    refine awp_seq ?_
    refine awp_block ?_
    refine awp_seq ?_
    refine awpF_draw [0,1,2,3,4,5,6,7,8] (by kernel_rfl) (by kernel_rfl) rfl ?_; intro K hK; simp only [push_cast,seval,hp,hq,encI]
    refine wOb ?_
    refine hK _ ?_; clear hK K
    refine wCd ?_ ?_
    · intro hc; replace hc:=wHb hc
      refine awp_seq ?_
      refine wRg ?_
      refine wRet ?_
      have:(a==b)=false:=by
        rw [beq_eq_false_iff_ne]
        rintro rfl
        rw [hp] at hq
        cases hq
        simp at hc
      rw [this]
    · intro hc; replace hc:=wHb hc
      refine awp_skip ?_
      refine wRg ?_
      refine round_end (y:=x+1) (r:=[]) (by omega) ⟨hlt.1,hlt.2,fun i hi => ?_⟩ ?_
      · rcases Nat.lt_or_ge i x with h | h
        · exact hx3 i h
        · have:i=x:=by omega
          subst this
          simp at hc
          rw [hp,hq,hc]
      · exact wRen
  · intro hb; replace hb:=wHb hb
    refine wEx ?_
    refine awp_seq ?_
    refine wRg ?_
    refine wRet ?_
    congr 2
    rw [Bool.eq_iff_iff]
    simp at hb ⊢
    constructor
    · intro h
      apply List.ext_getElem?
      intro i
      rcases Nat.lt_or_ge i x with h' | h'
      · exact hx3 i h'
      · have:a.length≤i:=by omega
        rw [List.getElem?_eq_none this,List.getElem?_eq_none (by omega)]
    · rintro rfl; rfl

theorem p22 (a b:List Nd) (ha:a.length≤1000000) : PD Tryz.prog 45 [.sl (a.map encNd),.sl (b.map encNd)] (.d (.bool (decide (a=b)))):=by
  have hqa:∀ row,row∈a.map encNd→row.length=6:=fun row hr=>by obtain ⟨_,_,rfl⟩:=List.mem_map.1 hr; rfl
  have hqb:∀ row,row∈b.map encNd→row.length=6:=fun row hr=>by obtain ⟨_,_,rfl⟩:=List.mem_map.1 hr; rfl
  refine pd_of (fn:=Tryz.f45) [.tmp 4] (by kernel_rfl) rfl (by kernel_rfl) (Nat.le_of_ble_eq_true rfl) (by kernel_rfl) rfl rfl ?_
  refine awp_seq ?_
  refine wRg ?_
  refine awp_seq ?_
  refine awp_seq ?_
  refine wRg ?_
  refine wCd ?_ ?_
  · intro h1; replace h1:=wHb h1
    have hne:¬ a=b:=fun h=>by
      subst h
      simp at h1
    refine awp_seq ?_
    refine wRg ?_
    refine wRet ?_
    rw [decide_eq_false hne]
  intro h1; replace h1:=wHb h1
  have hl:a.length=b.length:=by
    simp at h1
    omega
  refine awp_skip ?_
  refine awp_seq ?_
  refine awp_seq ?_
  refine wRg ?_
  refine awp_block ?_
  refine awp_loopP (st:=fun x:Nat=>⟨[(0,.d (.sl (a.map encNd))),(1,.d (.sl (b.map encNd))),(5,.d (.int .i64 x))],[]⟩) (inv:=fun x=>x≤a.length∧∀ i,i<x→a[i]? = b[i]?) (μ:=fun x=>a.length - x) (x0:=0) (r0:=[]) ?_ ?_ ?_
  · simp
  · exact wRen
  rintro x ⟨hx1,hx3⟩
  refine awp_seq ?_
  refine awp_seq ?_
  refine wRg ?_
  refine wCd ?_ ?_
  · intro h2; replace h2:=wHb h2
    have hlt:x<a.length∧x<b.length:=by omega
    obtain ⟨p,hp⟩ : ∃ p,a[x]? = some p:=⟨_,List.getElem?_eq_getElem hlt.1⟩
    obtain ⟨q,hq⟩ : ∃ p,b[x]? = some p:=⟨_,List.getElem?_eq_getElem hlt.2⟩
    refine awp_skip ?_
    refine awp_seq ?_
    refine awp_block ?_
    refine awp_seq ?_
    refine awpF_draw [0,1,2,3,4,5,6,7,8] (by kernel_rfl) (by kernel_rfl) rfl ?_; intro K hK; simp only [push_cast,seval,hp,hq,encNd]
    refine wOb ?_
    refine hK _ ?_; clear hK K
    refine wCd ?_ ?_
    · intro hc
      have hpq:¬ p=q:=fun h=>by
        subst h
        simp at hc
      have hne:¬ a=b:=fun h=>by
        subst h
        rw [hp] at hq
        cases hq
        exact hpq rfl
      refine awp_seq ?_
      refine wRg ?_
      refine wRet ?_
      rw [decide_eq_false hne]
    · intro hc
      have hpq:p=q:=by
        obtain ⟨a1,a2,a3,a4,a5,a6⟩:=p
        obtain ⟨b1,b2,b3,b4,b5,b6⟩:=q
        simp at hc ⊢
        exact hc
      refine awp_skip ?_
      refine inblock_norm ?_
      refine wRg ?_
      refine round_endG (x+1) [] ⟨by omega,⟨by omega,fun i hi => ?_⟩,?_⟩
      · rcases Nat.lt_or_ge i x with h | h
        · exact hx3 i h
        · obtain rfl:i=x:=by omega
          rw [hp,hq,hpq]
      · exact wRen
  · intro h2; replace h2:=wHb h2
    obtain rfl:x=a.length:=by omega
    have hab:a=b:=List.ext_getElem? fun i=>by
      rcases Nat.lt_or_ge i a.length with h' | h'
      · exact hx3 i h'
      · rw [List.getElem?_eq_none h',List.getElem?_eq_none (by omega)]
    refine wEx ?_
    refine awp_seq ?_
    refine wRg ?_
    refine wRet ?_
    rw [decide_eq_true hab]
theorem p23 (a b:List (List Int)) (ha:a.length≤1000000) (hs:∀ r,r∈a→r.length≤1000000000) : PD Tryz.prog 42 [.sl (a.map encR),.sl (b.map encR)] (.d (.bool (decide (a=b)))):=by
  have hqa:∀ row,row∈a.map encR→row.length=1:=fun row hr=>by obtain ⟨_,_,rfl⟩:=List.mem_map.1 hr; rfl
  have hqb:∀ row,row∈b.map encR→row.length=1:=fun row hr=>by obtain ⟨_,_,rfl⟩:=List.mem_map.1 hr; rfl
  refine pd_of (fn:=Tryz.f42) [.tmp 4] (by kernel_rfl) rfl (by kernel_rfl) (Nat.le_of_ble_eq_true rfl) (by kernel_rfl) rfl rfl ?_
  refine awp_seq ?_
  refine wRg ?_
  refine awp_seq ?_
  refine awp_seq ?_
  refine wRg ?_
  refine wCd ?_ ?_
  · intro h1; replace h1:=wHb h1
    have hne:¬ a=b:=fun h=>by
      subst h
      simp at h1
    refine awp_seq ?_
    refine wRg ?_
    refine wRet ?_
    rw [decide_eq_false hne]
  intro h1; replace h1:=wHb h1
  have hl:a.length=b.length:=by
    simp at h1
    omega
  refine awp_skip ?_
  refine awp_seq ?_
  refine awp_seq ?_
  refine wRg ?_
  refine awp_block ?_
  refine awp_loopP (st:=fun x:Nat=>⟨[(0,.d (.sl (a.map encR))),(1,.d (.sl (b.map encR))),(5,.d (.int .i64 x))],[]⟩) (inv:=fun x=>x≤a.length∧∀ i,i<x→a[i]? = b[i]?) (μ:=fun x=>a.length - x) (x0:=0) (r0:=[]) ?_ ?_ ?_
  · simp
  · exact wRen
  rintro x ⟨hx1,hx3⟩
  refine awp_seq ?_
  refine awp_seq ?_
  refine wRg ?_
  refine wCd ?_ ?_
  · intro h2; replace h2:=wHb h2
    have hlt:x<a.length∧x<b.length:=by omega
    obtain ⟨p,hp⟩ : ∃ p,a[x]? = some p:=⟨_,List.getElem?_eq_getElem hlt.1⟩
    obtain ⟨q,hq⟩ : ∃ p,b[x]? = some p:=⟨_,List.getElem?_eq_getElem hlt.2⟩
    refine awp_skip ?_
    refine awp_seq ?_
    refine awp_block ?_
    refine awp_seq ?_
    have h34:=p34 p q (hs p (List.mem_of_getElem? hp))
    refine awpF_draw [0,1,2,3,4,5,6,7,8,9] (by kernel_rfl) (by kernel_rfl) rfl ?_; intro K hK; simp only [push_cast,seval,hp,hq,encR]
    refine wOb ?_
    refine CallK.pd (h34) ?_; refine wXo ?_
    refine hK _ ?_; clear hK K
    refine wCd ?_ ?_
    · intro hc
      have hpq:¬ p=q:=fun h=>by
        subst h
        simp at hc
      have hne:¬ a=b:=fun h=>by
        subst h
        rw [hp] at hq
        cases hq
        exact hpq rfl
      refine awp_seq ?_
      refine wRg ?_
      refine wRet ?_
      rw [decide_eq_false hne]
    · intro hc
      have hpq:p=q:=by
        simpa using hc
      refine awp_skip ?_
      refine inblock_norm ?_
      refine wRg ?_
      refine round_endG (x+1) [] ⟨by omega,⟨by omega,fun i hi => ?_⟩,?_⟩
      · rcases Nat.lt_or_ge i x with h | h
        · exact hx3 i h
        · obtain rfl:i=x:=by omega
          rw [hp,hq,hpq]
      · exact wRen
  · intro h2; replace h2:=wHb h2
    obtain rfl:x=a.length:=by omega
    have hab:a=b:=List.ext_getElem? fun i=>by
      rcases Nat.lt_or_ge i a.length with h' | h'
      · exact hx3 i h'
      · rw [List.getElem?_eq_none h',List.getElem?_eq_none (by omega)]
    refine wEx ?_
    refine awp_seq ?_
    refine wRg ?_
    refine wRet ?_
    rw [decide_eq_true hab]
def cellsV (t:List (List Int)) : Nat:=(t.map List.length).sum
end Go.Aw

namespace Go.Aw
set_option linter.unusedSimpArgs false
set_option linter.unusedVariables false
open Go.RowKit Go.Proofs
set_option maxRecDepth 100000

end Go.Aw

namespace Go.Aw
set_option linter.unusedSimpArgs false
set_option linter.unusedVariables false
open Go.RowKit Go.Proofs
set_option maxRecDepth 100000

end Go.Aw

namespace Go.Aw
set_option linter.unusedSimpArgs false
set_option linter.unusedVariables false
open Go.RowKit Go.Proofs
set_option maxRecDepth 100000

end Go.Aw

namespace Go.Aw
set_option linter.unusedSimpArgs false
set_option linter.unusedVariables false
open Go.RowKit Go.Proofs
set_option maxRecDepth 100000

def ntV (v:Nat) : Nat:=if v=2 then 2 else 1 - v
def bothV (v w:Nat) : Nat:=if v=0∨w=0 then 0 else if v=2∨w=2 then 2 else 1
def eithV (v w:Nat) : Nat:=ntV (bothV (ntV v) (ntV w))
theorem vd_cases {v:Nat} (h:v≤2) : v=0∨v=1∨v=2:=by omega
theorem ntV_le (v:Nat) : ntV v≤2:=by unfold ntV; split <;> omega
theorem bothV_le (v w:Nat) : bothV v w≤2:=by unfold bothV; split <;> (try split) <;> omega
theorem eithV_le (v w:Nat) : eithV v w≤2:=ntV_le _
end Go.Aw

namespace Go.Aw
set_option linter.unusedSimpArgs false
set_option linter.unusedVariables false
open Go.RowKit Go.Proofs
set_option maxRecDepth 100000

def lessV (n:Nd) (t:List (List Int)) (i:Nat) : Nat:=match t[i]? with
  | none=>2
  | some r=>if (if 0≤n.r then r.getD n.l.toNat 0 - r.getD n.r.toNat 0 else r.getD n.l.toNat 0)≤n.k then 1 else 0
def colsOk (n:Nd) (t:List (List Int)) : Prop:=0≤n.l ∧ -1≤n.r∧∀ r,r∈t→n.l<r.length∧n.r<r.length∧∀ x,x∈r→inV x=true
end Go.Aw

namespace Go.Aw
set_option linter.unusedSimpArgs false
set_option linter.unusedVariables false

def allS (g:Nat→Nat) : Nat→Nat
  | 0=>1
  | k+1=>bothV (allS g k) (g k)
def anyS (g:Nat→Nat) : Nat→Nat
  | 0=>0
  | k+1=>eithV (anyS g k) (g k)
def untS (a b:Nat→Nat) (lo:Nat) : Nat→Nat × Nat
  | 0=>(1,0)
  | k+1=>(bothV (untS a b lo k).1 (a k),if lo≤k then eithV (untS a b lo k).2 (bothV (untS a b lo k).1 (b k)) else (untS a b lo k).2)
def vd:Fm→List (List Int)→Nat→Nat
  | .z n,T,i=>if n.op=1 then 1 else lessV n T i
  | .u n a,T,i=>if n.op=3 then ntV (vd a T i) else if n.op=6 then allS (fun k=>vd a T (i+n.lo.toNat+k)) (n.hi.toNat+1 - n.lo.toNat) else anyS (fun k=>vd a T (i+n.lo.toNat+k)) (n.hi.toNat+1 - n.lo.toNat)
  | .b n a b,T,i=>if n.op=4 then bothV (vd a T i) (vd b T i) else if n.op=5 then eithV (vd a T i) (vd b T i) else (untS (fun k=>vd a T (i+k)) (fun k=>vd b T (i+k)) n.lo.toNat (n.hi.toNat+1)).2
theorem allS_le (g:Nat→Nat) (k:Nat) : allS g k≤2:=by cases k <;> simp [allS,bothV_le]
theorem anyS_le (g:Nat→Nat) (k:Nat) : anyS g k≤2:=by cases k <;> simp [anyS,eithV_le]
theorem untS_le (a b:Nat→Nat) (lo:Nat) : ∀ k:Nat,(untS a b lo k).1≤2∧(untS a b lo k).2≤2
  | 0=>by simp [untS]
  | k+1=>by
    have:=untS_le a b lo k
    simp only [untS]
    refine ⟨bothV_le _ _,?_⟩
    split
    · exact eithV_le _ _
    · exact this.2
theorem lessV_le (n:Nd) (T:List (List Int)) (i:Nat) : lessV n T i≤2:=by
  unfold lessV
  split
  · omega
  · exact Nat.le_trans (by split <;> split <;> omega) (show 1≤2 by omega)
theorem vd_le:∀ (t:Fm) (T:List (List Int)) (i:Nat),vd t T i≤2
  | .z n,T,i=>by
    simp only [vd]
    split
    · omega
    · exact lessV_le n T i
  | .u n a,T,i=>by
    simp only [vd]
    split
    · exact ntV_le _
    · split
      · exact allS_le _ _
      · exact anyS_le _ _
  | .b n a b,T,i=>by
    simp only [vd]
    split
    · exact bothV_le _ _
    · split
      · exact eithV_le _ _
      · exact (untS_le _ _ _ _).2
theorem vd_end:∀ (t:Fm) (T:List (List Int)) (i:Nat),T.length≤i→vd t T i=vd t T T.length
  | .z n,T,i,h=>by
    simp only [vd,lessV,List.getElem?_eq_none h,List.getElem?_eq_none (Nat.le_refl _)]
  | .u n a,T,i,h=>by
    have ih:=vd_end a T
    simp only [vd]
    rw [ih i h]
    congr 1
    have e:∀ k,vd a T (i+n.lo.toNat+k)=vd a T (T.length+n.lo.toNat+k):=fun k=>by rw [ih _ (by omega),← ih (T.length+n.lo.toNat+k) (by omega)]
    simp only [e]
  | .b n a b,T,i,h=>by
    have ia:=vd_end a T
    have ib:=vd_end b T
    simp only [vd]
    rw [ia i h,ib i h]
    have ea:∀ k,vd a T (i+k)=vd a T (T.length+k):=fun k=>by rw [ia _ (by omega),← ia (T.length+k) (by omega)]
    have eb:∀ k,vd b T (i+k)=vd b T (T.length+k):=fun k=>by rw [ib _ (by omega),← ib (T.length+k) (by omega)]
    simp only [ea,eb]
theorem vd_min (t:Fm) (T:List (List Int)) (i:Nat) : vd t T (min i T.length)=vd t T i:=by
  rcases Nat.le_total i T.length with h | h
  · rw [Nat.min_eq_left h]
  · rw [Nat.min_eq_right h,← vd_end t T i h]
end Go.Aw
