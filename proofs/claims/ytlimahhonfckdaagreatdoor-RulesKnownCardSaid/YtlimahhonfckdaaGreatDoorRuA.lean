/-
  Texts of the library,one behind the other. Over any program; no condition.
-/
import Derived.Test.YtlimahhonfckdaaGreatDoorPkY
import Derived.Test.YtlimahhonfckdaaGreatDoorPkD
import Derived.Test.YtlimahhonfckdaaGreatDoorPkT
namespace Go.Aw
set_option linter.unusedSimpArgs false
set_option linter.unusedVariables false
theorem round_endG {Q:Exit→St→Prop} {α:Type} {Φ:α→List Nat→St→Prop} {u:St} (y:α) (r:List Nat) (h:Φ y r u) : Then (fun u=>∃ y r,Φ y r u) Q .normal u:=⟨y,r,h⟩
theorem inblock_norm {id:Nat} {Q:Exit→St→Prop} {s:St} (h:Q .normal s) : InBlock id Q .normal s:=h
theorem mid_end {kp:List Nat} {Q:Exit→St→Prop} {J:St→Prop} {t:St} (r:List Nat) (u:St) (h:J u) (hr:Ren kp r u t) : Then (fun t=>∃ r u,J u∧Ren kp r u t) Q .normal t:=⟨r,u,h,hr⟩
theorem bif_or (a b:Bool) : (bif a then true else b)=(a||b):=by cases a <;> rfl
end Go.Aw

namespace Go.Aw
set_option linter.unusedSimpArgs false
set_option linter.unusedVariables false
open Go.RowKit Go.Proofs

structure Nd where
  op:Int
  l:Int
  r:Int
  k:Int
  lo:Int
  hi:Int
deriving DecidableEq
def encNd (n:Nd) : List D:=[.int .i64 n.op,.int .i64 n.l,.int .i64 n.r,.int .i64 n.k,.int .i64 n.lo,.int .i64 n.hi]
def arV (op:Int) : Nat:=if op=1∨op=2 then 0 else if op=3∨op=6∨op=7 then 1 else 2
theorem op_cases (op:Int) : op=1∨op=2∨op=3∨op=4∨op=5∨op=6∨op=7∨op=8∨(op<1∨8<op):=by omega
theorem op_none {op:Int} (h:op<1∨8<op) : (op==1)=false∧(op==2)=false∧(op==3)=false∧(op==4)=false∧(op==5)=false∧(op==6)=false∧(op==7)=false∧(op==8)=false:=by
  simp
  omega
theorem p99 (op:Int) : PD Tryz.prog 118 [.int .i64 op] (.d (.int .i64 (arV op))):=by
  rcases op_cases op with rfl | rfl | rfl | rfl | rfl | rfl | rfl | rfl | h
  iterate 8 (refine pd_of (fn:=Tryz.f118) [.tmp 2] (by kernel_rfl) rfl (by kernel_rfl) (Nat.le_of_ble_eq_true rfl) (by kernel_rfl) rfl rfl ?_; (repeat' (first | refine awp_seq ?_ | refine awp_skip ?_ | refine awp_block ?_ | ((first | (refine awpF_region ?_; intro K hK)); simp only [push_cast,seval,beq_self_eq_true]; refine wObW ?_) | (refine hK _ ?_; clear hK K) | (refine wCd ?_ ?_) | (with_reducible intro hb; exfalso; revert hb; simp [beq_self_eq_true]; done) | (with_reducible intro hb; exfalso; replace hb:=wHb hb; omega; done) | (with_reducible intro hb; replace hb:=wHb hb) | (refine wEx ?_) | (refine wRp ?_; refine fin_of (by simp only [push_cast,seval,beq_self_eq_true]; first | done | rfl) ob1 ?_) | (refine inblock_norm ?_))); rfl)
  have e:arV op=2:=by
    unfold arV
    rw [if_neg (by omega),if_neg (by omega)]
  rw [e]
  refine pd_of (fn:=Tryz.f118) [.tmp 2] (by kernel_rfl) rfl (by kernel_rfl) (Nat.le_of_ble_eq_true rfl) (by kernel_rfl) rfl rfl ?_
  obtain ⟨e1,e2,e3,e4,e5,e6,e7,e8⟩:=op_none h
  (repeat' (first | refine awp_seq ?_ | refine awp_skip ?_ | refine awp_block ?_ | ((first | (refine awpF_region ?_; intro K hK)); simp only [push_cast,seval,e1,e2,e3,e4,e5,e6,e7,e8]; refine wObW ?_) | (refine hK _ ?_; clear hK K) | (refine wCd ?_ ?_) | (with_reducible intro hb; exfalso; revert hb; simp [e1,e2,e3,e4,e5,e6,e7,e8]; done) | (with_reducible intro hb; exfalso; replace hb:=wHb hb; omega; done) | (with_reducible intro hb; replace hb:=wHb hb) | (refine wEx ?_) | (refine wRp ?_; refine fin_of (by simp only [push_cast,seval,e1,e2,e3,e4,e5,e6,e7,e8]; first | done | rfl) ob1 ?_) | (refine inblock_norm ?_)))
  rfl
def ptV (op:Int) : Nat:=if op=3∨op=6∨op=7 then 1 else if op=4∨op=5∨op=8 then 2 else 0
theorem p49 (n a b:Int) : PD Tryz.prog 100 [.int .i64 n,.int .i64 a,.int .i64 b] (.d (.bool (decide (a≤n∧n≤b)))):=by
  refine pd_of (fn:=Tryz.f100) [.tmp 6] (by kernel_rfl) rfl (by kernel_rfl) (Nat.le_of_ble_eq_true rfl) (by kernel_rfl) rfl rfl ?_
  (repeat' (first | refine awp_seq ?_ | refine awp_skip ?_ | refine awp_block ?_ | ((first | (refine awpF_region ?_; intro K hK)); refine wXo ?_) | (refine hK _ ?_; clear hK K) | (refine wCd ?_ ?_) | (with_reducible intro hb; exfalso; revert hb; simp []; done) | (with_reducible intro hb; exfalso; replace hb:=wHb hb; omega; done) | (with_reducible intro hb; replace hb:=wHb hb) | (refine wEx ?_) | (refine wRet ?_) | (refine inblock_norm ?_)))
  congr 2
  by_cases h:n ≥ a
  · by_cases h2:n≤b <;> simp [h,h2]
  · simp [h]
def bare (n:Nd) : Nd:=if n.op=2 then ⟨n.op,n.l,n.r,n.k,0,0⟩ else if n.op=6∨n.op=7∨n.op=8 then ⟨n.op,0,0,0,n.lo,n.hi⟩ else ⟨n.op,0,0,0,0,0⟩
def fairN (n:Nd) (w:Int) : Bool:=if n.op=2 then decide (0≤n.l)&&decide (n.l<w)&&decide (-1≤n.r)&&decide (n.r<w)&&decide (-2199023255552≤n.k∧n.k≤2199023255552) else
  if n.op=6∨n.op=7∨n.op=8 then decide (0≤n.lo)&&decide (n.lo≤n.hi)&&decide (n.hi≤20) else true
def nodeE (n:Nd) (w:Int) : Int:=if n.op<1∨8<n.op then 4 else if bare n≠n then 3 else if fairN n w then 0 else 2
set_option maxHeartbeats 4000000 in
theorem p79 (n:Nd) (w:Int) : PD Tryz.prog 98 [.agg (encNd n),.int .i64 w] (.d (.int .i64 (nodeE n w))):=by
  obtain ⟨op,l,r,k,lo,hi⟩:=n
  simp only [encNd]
  rcases op_cases op with rfl | rfl | rfl | rfl | rfl | rfl | rfl | rfl | h
  iterate 8 (focus (refine pd_of (fn:=Tryz.f98) [.tmp 4] (by kernel_rfl) rfl (by kernel_rfl) (Nat.le_of_ble_eq_true rfl) (by kernel_rfl) rfl rfl ?_; (repeat' (first | refine awp_seq ?_ | refine awp_skip ?_ | refine awp_block ?_ | ((first | (refine awpF_region ?_; intro K hK) | (refine awpF_drawM (id:=10) [0,1,6] [] (DT.or (DT.op 2 (DT.or (DT.op 3 (DT.or (DT.op 4 (DT.or (DT.op 5 (DT.op 7 (DT.op 8 (DT.op 9 (DT.op 10 (DT.op 11 DT.nil)))))) (DT.op 7 (DT.op 8 (DT.or (DT.op 5 (DT.op 9 (DT.op 10 (DT.op 11 DT.nil)))) (DT.op 9 (DT.op 5 (DT.op 10 (DT.op 11 DT.nil))))))))) (DT.op 7 (DT.op 8 (DT.or (DT.op 4 (DT.or (DT.op 5 (DT.op 9 (DT.op 10 (DT.op 11 DT.nil)))) (DT.op 9 (DT.op 5 (DT.op 10 (DT.op 11 DT.nil)))))) (DT.op 9 (DT.op 4 (DT.op 5 (DT.op 10 (DT.op 11 DT.nil)))))))))) (DT.or (DT.op 4 (DT.or (DT.op 3 (DT.or (DT.op 5 (DT.op 7 (DT.op 8 (DT.op 9 (DT.op 10 (DT.op 11 DT.nil)))))) (DT.op 7 (DT.op 8 (DT.or (DT.op 5 (DT.op 9 (DT.op 10 (DT.op 11 DT.nil)))) (DT.op 9 (DT.op 5 (DT.op 10 (DT.op 11 DT.nil))))))))) (DT.or (DT.op 5 (DT.or (DT.op 3 (DT.op 7 (DT.op 8 (DT.op 9 (DT.op 10 (DT.op 11 DT.nil)))))) (DT.op 7 (DT.op 3 (DT.op 8 (DT.op 9 (DT.op 10 (DT.op 11 DT.nil)))))))) (DT.op 7 (DT.op 3 (DT.op 8 (DT.or (DT.op 5 (DT.op 9 (DT.op 10 (DT.op 11 DT.nil)))) (DT.op 9 (DT.op 5 (DT.op 10 (DT.op 11 DT.nil))))))))))) (DT.op 7 (DT.op 3 (DT.op 8 (DT.or (DT.op 4 (DT.or (DT.op 5 (DT.op 9 (DT.op 10 (DT.op 11 DT.nil)))) (DT.op 9 (DT.op 5 (DT.op 10 (DT.op 11 DT.nil)))))) (DT.op 9 (DT.op 4 (DT.op 5 (DT.op 10 (DT.op 11 DT.nil)))))))))))) (DT.or (DT.op 4 (DT.or (DT.op 2 (DT.or (DT.op 3 (DT.or (DT.op 5 (DT.op 7 (DT.op 8 (DT.op 9 (DT.op 10 (DT.op 11 DT.nil)))))) (DT.op 7 (DT.op 8 (DT.or (DT.op 5 (DT.op 9 (DT.op 10 (DT.op 11 DT.nil)))) (DT.op 9 (DT.op 5 (DT.op 10 (DT.op 11 DT.nil))))))))) (DT.or (DT.op 5 (DT.or (DT.op 3 (DT.op 7 (DT.op 8 (DT.op 9 (DT.op 10 (DT.op 11 DT.nil)))))) (DT.op 7 (DT.op 3 (DT.op 8 (DT.op 9 (DT.op 10 (DT.op 11 DT.nil)))))))) (DT.op 7 (DT.op 3 (DT.op 8 (DT.or (DT.op 5 (DT.op 9 (DT.op 10 (DT.op 11 DT.nil)))) (DT.op 9 (DT.op 5 (DT.op 10 (DT.op 11 DT.nil))))))))))) (DT.or (DT.op 5 (DT.or (DT.op 2 (DT.or (DT.op 3 (DT.op 7 (DT.op 8 (DT.op 9 (DT.op 10 (DT.op 11 DT.nil)))))) (DT.op 7 (DT.op 3 (DT.op 8 (DT.op 9 (DT.op 10 (DT.op 11 DT.nil)))))))) (DT.op 7 (DT.op 2 (DT.op 3 (DT.op 8 (DT.op 9 (DT.op 10 (DT.op 11 DT.nil))))))))) (DT.op 7 (DT.op 2 (DT.op 3 (DT.op 8 (DT.or (DT.op 5 (DT.op 9 (DT.op 10 (DT.op 11 DT.nil)))) (DT.op 9 (DT.op 5 (DT.op 10 (DT.op 11 DT.nil)))))))))))) (DT.op 7 (DT.op 2 (DT.op 3 (DT.op 8 (DT.or (DT.op 4 (DT.or (DT.op 5 (DT.op 9 (DT.op 10 (DT.op 11 DT.nil)))) (DT.op 9 (DT.op 5 (DT.op 10 (DT.op 11 DT.nil)))))) (DT.op 9 (DT.op 4 (DT.op 5 (DT.op 10 (DT.op 11 DT.nil)))))))))))) (by kernel_rfl) (by kernel_rfl) (by kernel_rfl) ?_; intro K hK) | (refine awpF_drawM (id:=15) [0,1,4] [] (DT.or (DT.op 2 (DT.or (DT.op 3 (DT.op 5 (DT.op 6 (DT.op 7 DT.nil)))) (DT.op 5 (DT.op 3 (DT.op 6 (DT.op 7 DT.nil)))))) (DT.op 5 (DT.op 2 (DT.op 3 (DT.op 6 (DT.op 7 DT.nil)))))) (by kernel_rfl) (by kernel_rfl) (by kernel_rfl) ?_; intro K hK) | refine CallK.pd (p49 _ _ _) ?_ | refine CallK.pg (fun _=>p49 _ _ _) ?_); simp only [push_cast,seval,beq_self_eq_true]; refine wObW ?_) | (refine hK _ ?_; clear hK K) | (refine wCd ?_ ?_) | (with_reducible intro hb; exfalso; revert hb; simp [beq_self_eq_true]; done) | (with_reducible intro hb; exfalso; replace hb:=wHb hb; omega; done) | (with_reducible intro hb; replace hb:=wHb hb) | (refine wEx ?_) | (refine wRp ?_; refine fin_of (by simp only [push_cast,seval,beq_self_eq_true]; first | done | rfl) ob1 ?_) | (refine inblock_norm ?_))); all_goals (first | rfl | (congr 2; simp_all [nodeE,bare,fairN]; done) | (congr 2; simp_all [nodeE,bare,fairN]; omega))))
  have e:nodeE ⟨op,l,r,k,lo,hi⟩ w=4:=by
    unfold nodeE
    rw [if_pos h]
  rw [e]
  obtain ⟨e1,e2,e3,e4,e5,e6,e7,e8⟩:=op_none h
  refine pd_of (fn:=Tryz.f98) [.tmp 4] (by kernel_rfl) rfl (by kernel_rfl) (Nat.le_of_ble_eq_true rfl) (by kernel_rfl) rfl rfl ?_
  (repeat' (first | refine awp_seq ?_ | refine awp_skip ?_ | refine awp_block ?_ | ((first | (refine awpF_region ?_; intro K hK) | (refine awpF_drawM (id:=10) [0,1,6] [] (DT.or (DT.op 2 (DT.or (DT.op 3 (DT.or (DT.op 4 (DT.or (DT.op 5 (DT.op 7 (DT.op 8 (DT.op 9 (DT.op 10 (DT.op 11 DT.nil)))))) (DT.op 7 (DT.op 8 (DT.or (DT.op 5 (DT.op 9 (DT.op 10 (DT.op 11 DT.nil)))) (DT.op 9 (DT.op 5 (DT.op 10 (DT.op 11 DT.nil))))))))) (DT.op 7 (DT.op 8 (DT.or (DT.op 4 (DT.or (DT.op 5 (DT.op 9 (DT.op 10 (DT.op 11 DT.nil)))) (DT.op 9 (DT.op 5 (DT.op 10 (DT.op 11 DT.nil)))))) (DT.op 9 (DT.op 4 (DT.op 5 (DT.op 10 (DT.op 11 DT.nil)))))))))) (DT.or (DT.op 4 (DT.or (DT.op 3 (DT.or (DT.op 5 (DT.op 7 (DT.op 8 (DT.op 9 (DT.op 10 (DT.op 11 DT.nil)))))) (DT.op 7 (DT.op 8 (DT.or (DT.op 5 (DT.op 9 (DT.op 10 (DT.op 11 DT.nil)))) (DT.op 9 (DT.op 5 (DT.op 10 (DT.op 11 DT.nil))))))))) (DT.or (DT.op 5 (DT.or (DT.op 3 (DT.op 7 (DT.op 8 (DT.op 9 (DT.op 10 (DT.op 11 DT.nil)))))) (DT.op 7 (DT.op 3 (DT.op 8 (DT.op 9 (DT.op 10 (DT.op 11 DT.nil)))))))) (DT.op 7 (DT.op 3 (DT.op 8 (DT.or (DT.op 5 (DT.op 9 (DT.op 10 (DT.op 11 DT.nil)))) (DT.op 9 (DT.op 5 (DT.op 10 (DT.op 11 DT.nil))))))))))) (DT.op 7 (DT.op 3 (DT.op 8 (DT.or (DT.op 4 (DT.or (DT.op 5 (DT.op 9 (DT.op 10 (DT.op 11 DT.nil)))) (DT.op 9 (DT.op 5 (DT.op 10 (DT.op 11 DT.nil)))))) (DT.op 9 (DT.op 4 (DT.op 5 (DT.op 10 (DT.op 11 DT.nil)))))))))))) (DT.or (DT.op 4 (DT.or (DT.op 2 (DT.or (DT.op 3 (DT.or (DT.op 5 (DT.op 7 (DT.op 8 (DT.op 9 (DT.op 10 (DT.op 11 DT.nil)))))) (DT.op 7 (DT.op 8 (DT.or (DT.op 5 (DT.op 9 (DT.op 10 (DT.op 11 DT.nil)))) (DT.op 9 (DT.op 5 (DT.op 10 (DT.op 11 DT.nil))))))))) (DT.or (DT.op 5 (DT.or (DT.op 3 (DT.op 7 (DT.op 8 (DT.op 9 (DT.op 10 (DT.op 11 DT.nil)))))) (DT.op 7 (DT.op 3 (DT.op 8 (DT.op 9 (DT.op 10 (DT.op 11 DT.nil)))))))) (DT.op 7 (DT.op 3 (DT.op 8 (DT.or (DT.op 5 (DT.op 9 (DT.op 10 (DT.op 11 DT.nil)))) (DT.op 9 (DT.op 5 (DT.op 10 (DT.op 11 DT.nil))))))))))) (DT.or (DT.op 5 (DT.or (DT.op 2 (DT.or (DT.op 3 (DT.op 7 (DT.op 8 (DT.op 9 (DT.op 10 (DT.op 11 DT.nil)))))) (DT.op 7 (DT.op 3 (DT.op 8 (DT.op 9 (DT.op 10 (DT.op 11 DT.nil)))))))) (DT.op 7 (DT.op 2 (DT.op 3 (DT.op 8 (DT.op 9 (DT.op 10 (DT.op 11 DT.nil))))))))) (DT.op 7 (DT.op 2 (DT.op 3 (DT.op 8 (DT.or (DT.op 5 (DT.op 9 (DT.op 10 (DT.op 11 DT.nil)))) (DT.op 9 (DT.op 5 (DT.op 10 (DT.op 11 DT.nil)))))))))))) (DT.op 7 (DT.op 2 (DT.op 3 (DT.op 8 (DT.or (DT.op 4 (DT.or (DT.op 5 (DT.op 9 (DT.op 10 (DT.op 11 DT.nil)))) (DT.op 9 (DT.op 5 (DT.op 10 (DT.op 11 DT.nil)))))) (DT.op 9 (DT.op 4 (DT.op 5 (DT.op 10 (DT.op 11 DT.nil)))))))))))) (by kernel_rfl) (by kernel_rfl) (by kernel_rfl) ?_; intro K hK) | (refine awpF_drawM (id:=15) [0,1,4] [] (DT.or (DT.op 2 (DT.or (DT.op 3 (DT.op 5 (DT.op 6 (DT.op 7 DT.nil)))) (DT.op 5 (DT.op 3 (DT.op 6 (DT.op 7 DT.nil)))))) (DT.op 5 (DT.op 2 (DT.op 3 (DT.op 6 (DT.op 7 DT.nil)))))) (by kernel_rfl) (by kernel_rfl) (by kernel_rfl) ?_; intro K hK) | refine CallK.pd (p49 _ _ _) ?_ | refine CallK.pg (fun _=>p49 _ _ _) ?_); simp only [push_cast,seval,e1,e2,e3,e4,e5,e6,e7,e8]; refine wObW ?_) | (refine hK _ ?_; clear hK K) | (refine wCd ?_ ?_) | (with_reducible intro hb; exfalso; revert hb; simp [e1,e2,e3,e4,e5,e6,e7,e8]; done) | (with_reducible intro hb; exfalso; replace hb:=wHb hb; omega; done) | (with_reducible intro hb; replace hb:=wHb hb) | (refine wEx ?_) | (refine wRp ?_; refine fin_of (by simp only [push_cast,seval,e1,e2,e3,e4,e5,e6,e7,e8]; first | done | rfl) ob1 ?_) | (refine inblock_norm ?_)))
  rfl
end Go.Aw

namespace Go.Aw
set_option linter.unusedSimpArgs false
set_option linter.unusedVariables false

inductive Fm where
  | z (n:Nd)
  | u (n:Nd) (a:Fm)
  | b (n:Nd) (a b:Fm)
namespace Fm
def nd:Fm→Nd
  | .z n=>n
  | .u n _=>n
  | .b n _ _=>n
def flat:Fm→List Nd
  | .z n=>[n]
  | .u n x=>n::x.flat
  | .b n x y=>n::(x.flat++y.flat)
def wf:Fm→Prop
  | .z n=>n.op=1∨n.op=2
  | .u n x=>(n.op=3∨n.op=6∨n.op=7)∧x.wf
  | .b n x y=>(n.op=4∨n.op=5∨n.op=8)∧x.wf∧y.wf
def hz:Fm→Int
  | .z _=>0
  | .u n x=>n.hi+x.hz
  | .b n x y=>if n.op=8 then (if 0<n.hi then max (n.hi+y.hz) (n.hi - 1+x.hz) else y.hz) else max x.hz y.hz
end Fm
def opOk (n:Nd) : Prop:=1≤n.op∧n.op≤8
def skp:Nat→List Nd→Option (List Nd)
  | 0,l=>some l
  | _+1,[]=>none
  | k+1,n::l=>skp (k+ptV n.op) l
theorem skp_flat:∀ (t:Fm),t.wf→∀ (k:Nat) (l:List Nd),skp (k+1) (t.flat++l)=skp k l
  | .z n,h,k,l=>by
    have e:ptV n.op=0:=by
      rcases h with h | h <;> rw [h] <;> rfl
    simp only [Fm.flat,List.singleton_append,skp,e,Nat.add_zero]
  | .u n a,h,k,l=>by
    have e:ptV n.op=1:=by
      rcases h.1 with h | h | h <;> rw [h] <;> rfl
    simp only [Fm.flat,List.cons_append,skp,e]
    exact skp_flat a h.2 k l
  | .b n a b,h,k,l=>by
    have e:ptV n.op=2:=by
      rcases h.1 with h | h | h <;> rw [h] <;> rfl
    simp only [Fm.flat,List.cons_append,skp,e,List.append_assoc]
    rw [skp_flat a h.2.1 (k+1) (b.flat++l),skp_flat b h.2.2 k l]
def flats:List Fm→List Nd
  | []=>[]
  | t::l=>t.flat++flats l
theorem skp_trees:∀ (l:List Nd) (k:Nat) (r:List Nd),(∀ n,n∈l→opOk n)→skp k l=some r→∃ ts:List Fm,ts.length=k∧(∀ t,t∈ts→t.wf)∧l=flats ts++r
  | l,0,r,_,h=>⟨[],rfl,by simp,by simpa [skp,flats] using h⟩
  | [],k+1,r,_,h=>by simp [skp] at h
  | n::l,k+1,r,ho,h=>by
    simp only [skp] at h
    obtain ⟨ts,h1,h2,h3⟩:=skp_trees l _ r (fun m hm=>ho m (by simp [hm])) h
    have hn:=ho n (by simp)
    unfold opOk at hn
    have hc:(n.op=1∨n.op=2)∧ptV n.op=0∨(n.op=3∨n.op=6∨n.op=7)∧ptV n.op=1∨(n.op=4∨n.op=5∨n.op=8)∧ptV n.op=2:=by
      rcases op_cases n.op with e | e | e | e | e | e | e | e | e
      · exact .inl ⟨.inl e,by rw [e]; rfl⟩
      · exact .inl ⟨.inr e,by rw [e]; rfl⟩
      · exact .inr (.inl ⟨.inl e,by rw [e]; rfl⟩)
      · exact .inr (.inr ⟨.inl e,by rw [e]; rfl⟩)
      · exact .inr (.inr ⟨.inr (.inl e),by rw [e]; rfl⟩)
      · exact .inr (.inl ⟨.inr (.inl e),by rw [e]; rfl⟩)
      · exact .inr (.inl ⟨.inr (.inr e),by rw [e]; rfl⟩)
      · exact .inr (.inr ⟨.inr (.inr e),by rw [e]; rfl⟩)
      · omega
    rcases hc with ⟨h4,h5⟩ | ⟨h4,h5⟩ | ⟨h4,h5⟩
    · rw [h5] at h1
      exact ⟨.z n::ts,by simp [h1],fun t ht=>by
        rcases List.mem_cons.1 ht with rfl | ht
        · exact h4
        · exact h2 t ht,by rw [h3]; rfl⟩
    · rw [h5] at h1
      match ts,h1,h2,h3 with
      | a::ts,h1,h2,h3 =>
        exact ⟨.u n a::ts,by simp at h1; simp [h1],fun t ht=>by
          rcases List.mem_cons.1 ht with rfl | ht
          · exact ⟨h4,h2 a (by simp)⟩
          · exact h2 t (by simp [ht]),by rw [h3]; simp [flats,Fm.flat]⟩
    · rw [h5] at h1
      match ts,h1,h2,h3 with
      | [a],h1,_,_=>simp at h1
      | a::b::ts,h1,h2,h3 =>
        exact ⟨.b n a b::ts,by simp at h1; simp; omega,fun t ht=>by
          rcases List.mem_cons.1 ht with rfl | ht
          · exact ⟨h4,h2 a (by simp),h2 b (by simp)⟩
          · exact h2 t (by simp [ht]),by rw [h3]; simp [flats,Fm.flat]⟩
theorem skp_one {l r:List Nd} (ho:∀ n,n∈l→opOk n) (h:skp 1 l=some r) : ∃ t:Fm,t.wf∧l=t.flat++r:=by
  obtain ⟨ts,h1,h2,h3⟩:=skp_trees l 1 r ho h
  match ts,h1,h2,h3 with
  | [t],_,h2,h3=>exact ⟨t,h2 t (by simp),by simpa [flats] using h3⟩
end Go.Aw

namespace Go.Aw
set_option linter.unusedSimpArgs false
set_option linter.unusedVariables false
open Go.RowKit Go.Proofs

def bhV (f:List Nd) (at':Nat) : Int:=match skp 1 (f.drop at') with
  | some r=>(f.length - r.length:Nat)
  | none => -1
end Go.Aw

namespace Go.Aw
set_option linter.unusedSimpArgs false
set_option linter.unusedVariables false
open Go.RowKit Go.Proofs

def okN (n:Nd) : Prop:=opOk n∧0≤n.lo∧n.lo≤n.hi∧n.hi≤20∧(n.op≠6→n.op≠7→n.op≠8→n.hi=0)
theorem okN_of {n:Nd} {w:Int} (h:nodeE n w=0) : okN n:=by
  obtain ⟨op,l,r,k,lo,hi⟩:=n
  unfold nodeE at h
  split at h
  · cases h
  · split at h
    · cases h
    · split at h
      · rename_i h1 h2 h3
        simp only [bare,fairN] at h1 h2 h3
        unfold okN opOk
        rcases op_cases op with e | e | e | e | e | e | e | e | e
        all_goals first | omega | (subst e; simp at h1 h2 h3 ⊢; try omega)
      · cases h
theorem hz_bd:∀ (t:Fm),t.wf→(∀ n,n∈t.flat→okN n)→0≤t.hz∧t.hz≤20*t.flat.length
  | .z n,_,_=>⟨Int.le_refl _,by simp only [Fm.hz,Fm.flat]; simp⟩
  | .u n x,h,ho=>by
    have h1:=hz_bd x h.2 fun m hm=>ho m (by simp [Fm.flat,hm])
    have h2:=ho n (by simp [Fm.flat])
    unfold okN at h2
    simp only [Fm.hz,Fm.flat,List.length_cons]
    omega
  | .b n x y,h,ho=>by
    have h1:=hz_bd x h.2.1 fun m hm=>ho m (by simp [Fm.flat,hm])
    have h2:=hz_bd y h.2.2 fun m hm=>ho m (by simp [Fm.flat,hm])
    have h3:=ho n (by simp [Fm.flat])
    unfold okN at h3
    simp only [Fm.hz,Fm.flat,List.length_cons,List.length_append]
    split
    · split <;> omega
    · omega

end Go.Aw

namespace Go.Aw
set_option linter.unusedSimpArgs false
set_option linter.unusedVariables false
open Go.RowKit Go.Proofs

end Go.Aw

namespace Go.Aw
set_option linter.unusedSimpArgs false
set_option linter.unusedVariables false
open Go.RowKit Go.Proofs
set_option maxRecDepth 100000

def firstE (w:Int) : List Nd→Int
  | []=>0
  | n::l=>if nodeE n w=0 then firstE w l else nodeE n w
theorem firstE_drop {w:Int} : ∀ {f:List Nd} {i:Nat},(∀ n,n∈f.take i→nodeE n w=0)→firstE w f=firstE w (f.drop i)
  | f,0,_=>by rw [List.drop_zero]
  | [],i+1,_=>by rw [List.drop_nil]
  | n::l,i+1,h=>by
    rw [List.drop_succ_cons,← firstE_drop (f:=l) (i:=i) fun m hm=>h m (by simp [hm]),firstE,if_pos (h n (by simp))]
theorem firstE_all {w:Int} : ∀ {f:List Nd},firstE w f=0→∀ n,n∈f→nodeE n w=0
  | [],_,n,hn=>by cases hn
  | m::l,h,n,hn=>by
    rw [firstE] at h
    split at h
    · rename_i h1
      rcases List.mem_cons.1 hn with rfl | hn
      · exact h1
      · exact firstE_all h n hn
    · rename_i h1
      exact absurd h h1
def shE (f:List Nd) (w:Int) : Int:=if w<1∨12<w then 2 else if 40<f.length then 5 else if firstE w f≠0 then firstE w f else if bhV f 0<0 then 6 else if bhV f 0<f.length then 5 else 0
def chkE (f:List Nd) (w:Int) (t:Fm) : Int:=if shE f w=0∧60<t.hz then 8 else shE f w
theorem sh_facts {f:List Nd} {w:Int} (h:shE f w=0) : f.length≤40∧(∀ n,n∈f→okN n)∧∃ t:Fm,t.wf∧f=t.flat:=by
  unfold shE at h
  split at h
  · cases h
  split at h
  · cases h
  split at h
  · rename_i h1; exact absurd h h1
  rename_i h2 h3
  have hok:∀ n,n∈f→okN n:=fun n hn=>okN_of (firstE_all (by simpa using h3) n hn)
  refine ⟨by omega,hok,?_⟩
  split at h
  · cases h
  split at h
  · cases h
  rename_i h4 h5
  unfold bhV at h4 h5
  rw [List.drop_zero] at h4 h5
  cases hs:skp 1 f with
  | none=>rw [hs] at h4; simp at h4
  | some r =>
    rw [hs] at h5
    obtain ⟨t,ht,e⟩:=skp_one (fun n hn=>(hok n hn).1) hs
    have hr:r=[]:=by
      have:=congrArg List.length e
      simp only [List.length_append] at this
      simp at h5
      rw [← List.length_eq_zero_iff]
      omega
    subst hr
    exact ⟨t,ht,by simpa using e⟩
def hzE (f:List Nd) (t:Fm) : Int:=if shE f 12=0 then t.hz else 0
end Go.Aw
