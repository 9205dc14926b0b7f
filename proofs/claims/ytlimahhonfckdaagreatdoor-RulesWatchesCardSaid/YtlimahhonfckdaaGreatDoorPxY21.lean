/-
  RulesWatches answers true. Conditions: lengths and numbers that a call can have.
-/
import Derived.Test.YtlimahhonfckdaaGreatDoorPxY20
import Derived.Test.YtlimahhonfckdaaGreatDoorPxV13
import Derived.Test.YtlimahhonfckdaaGreatDoorPxAwOz
import Derived.Test.YtlimahhonfckdaaGreatDoorPxU45
namespace Go.Aw
set_option linter.unusedSimpArgs false
set_option linter.unusedVariables false
open Go.RowKit Go.Proofs
set_option maxRecDepth 100000

theorem sh_w {f:List Nd} {w:Int} (h:shE f w=0) : 1≤w∧w≤12:=by
  unfold shE at h
  split at h
  · cases h
  · omega
theorem puS_len (t:Fm) (w:Wt) (row:List Int) : (puS t w row).length≤w.opn.length+1:=by
  unfold puS
  split
  · rw [saidL,List.length_map]
    refine Nat.le_trans (List.length_filter_le _ _) ?_
    simp [askL]
  · simp
def wN (t:Fm) (wd:Int) (S:List (List Int)) (row:List Int) : Wt:=if trE [row] wd=0 then wS t wd (S++[row]) else wt0
theorem q16S (t:Fm) (wd:Int) (S:List (List Int)) (row:List Int) (hc:chkE t.flat wd t=0) (hwf:t.wf) (hS:∀ r,r∈S→trE [r] wd=0) (hl:S.length≤300) (hrow:row.length≤1000000) :
    PD Tryz.prog 16 [.agg (wtD (wS t wd S)),.agg (wtD (wS t wd S)),.sl (row.map encI)] (.tup [.agg (wtV (wN t wd S row)),.agg (wtV (wN t wd S row)),.d (.bool true)]):=by
  have hs:=chk_sh hc
  have hw:=sh_w hs
  have hf40:=(sh_facts hs).1
  have hok:=wS_ok (t:=t) (wd:=wd) (S:=S) hc hw hS (by omega)
  have hsum:=wS_sum t wd S
  obtain ⟨b1,b2,b3⟩:=wS_bds hok
  have hpu:=wS_puW (row:=row) hok (by omega)
  have hps:=puS_len t (wS t wd S) row
  have hbd:(wN t wd S row).nodes.length≤1000000∧(wN t wd S row).rows.length≤1000000∧(∀ r,r∈(wN t wd S row).rows→r.length≤1000000)∧(wN t wd S row).opn.length≤1000000:=by
    unfold wN
    split
    · rename_i htr
      have hok2:=wS_ok (t:=t) (wd:=wd) (S:=S++[row]) hc hw (fun r hr=>by
        rcases List.mem_append.1 hr with h | h
        · exact hS r h
        · rw [List.mem_singleton.1 h]; exact htr) (by rw [List.length_append,List.length_singleton]; omega)
      obtain ⟨e1,e2,e3⟩:=wS_bds hok2
      exact ⟨by show t.flat.length≤_; omega,by omega,fun r hr=>by have:=e2 r hr; omega,by omega⟩
    · exact ⟨by decide,by decide,fun r hr=>absurd hr (by simp [wt0]),by decide⟩
  have h:=q16 (wS t wd S) t row (by show t.flat.length≤_; omega) (fun _=>⟨hwf,rfl⟩) hok hrow (by omega) b1 b2 b3 (by rw [hpu]; exact hbd.1) (by rw [hpu]; exact hbd.2.1) (by rw [hpu]; exact hbd.2.2.1) (by rw [hpu]; exact hbd.2.2.2) (by omega)
  rw [hpu] at h
  exact h
set_option maxHeartbeats 8000000 in
theorem q3 (f:List Nd) (wd:Int) (t:Fm) (T:List (List Int)) (nums rows:List Int) (hf:f.length≤1000000000000000) (hT:T.length≤1000000000000000) (hr:∀ r,r∈T→r.length≤1000000000000000)
    (ht:shE f wd=0→t.wf∧f=t.flat) (hn:numsOk nums) (hrw:numsOk rows) :
    PD Tryz.prog 3 [.sl (f.map encNd),.int .i64 wd,.sl (T.map encR),.sl (nums.map encI),.sl (rows.map encI)] (.d (.bool true)):=by
  have h12:=p12 T (by omega)
  have h13:=p13
  have hw:(1:Int)≤2∧(2:Int)≤12:=⟨by decide,by decide⟩
  have hm:(0:Int)≤4∧(4:Int)≤20:=⟨by decide,by decide⟩
  generalize hcv:IntKind.i64.wrap (cellsV T)=cv at *
  by_cases c1:20<f.length
  · have d1:decide ((f.length:Int) > 20)=true:=decide_eq_true (by omega)
    refine pd_of (fn:=Tryz.f3) [.tmp 10] (by kernel_rfl) rfl (by kernel_rfl) (Nat.le_of_ble_eq_true rfl) (by kernel_rfl) rfl rfl ?_
    (repeat' (first | refine awp_seq ?_ | refine awp_skip ?_ | refine awp_block ?_ | ((first | (refine awpF_region ?_; intro K hK) | (refine awpF_drawM (id:=16) [0,1,2,3,4,5] [] (DT.or (DT.op 6 (DT.op 7 (DT.op 8 (DT.or (DT.op 9 (DT.or (DT.op 10 (DT.or (DT.op 11 (DT.op 12 (DT.op 13 (DT.op 14 (DT.op 15 DT.nil))))) (DT.op 12 (DT.op 11 (DT.op 13 (DT.op 14 (DT.op 15 DT.nil))))))) (DT.or (DT.op 11 (DT.or (DT.op 10 (DT.op 12 (DT.op 13 (DT.op 14 (DT.op 15 DT.nil))))) (DT.op 12 (DT.or (DT.op 10 (DT.op 13 (DT.op 14 (DT.op 15 DT.nil)))) (DT.op 13 (DT.or (DT.op 10 (DT.op 14 (DT.op 15 DT.nil))) (DT.op 14 (DT.op 10 (DT.op 15 DT.nil))))))))) (DT.op 12 (DT.or (DT.op 10 (DT.op 11 (DT.op 13 (DT.op 14 (DT.op 15 DT.nil))))) (DT.op 11 (DT.or (DT.op 10 (DT.op 13 (DT.op 14 (DT.op 15 DT.nil)))) (DT.op 13 (DT.or (DT.op 10 (DT.op 14 (DT.op 15 DT.nil))) (DT.op 14 (DT.op 10 (DT.op 15 DT.nil)))))))))))) (DT.or (DT.op 10 (DT.or (DT.op 9 (DT.or (DT.op 11 (DT.op 12 (DT.op 13 (DT.op 14 (DT.op 15 DT.nil))))) (DT.op 12 (DT.op 11 (DT.op 13 (DT.op 14 (DT.op 15 DT.nil))))))) (DT.or (DT.op 11 (DT.or (DT.op 9 (DT.op 12 (DT.op 13 (DT.op 14 (DT.op 15 DT.nil))))) (DT.op 12 (DT.or (DT.op 9 (DT.op 13 (DT.op 14 (DT.op 15 DT.nil)))) (DT.op 13 (DT.op 9 (DT.op 14 (DT.op 15 DT.nil)))))))) (DT.op 12 (DT.or (DT.op 9 (DT.op 11 (DT.op 13 (DT.op 14 (DT.op 15 DT.nil))))) (DT.op 11 (DT.or (DT.op 9 (DT.op 13 (DT.op 14 (DT.op 15 DT.nil)))) (DT.op 13 (DT.op 9 (DT.op 14 (DT.op 15 DT.nil))))))))))) (DT.or (DT.op 11 (DT.or (DT.op 9 (DT.or (DT.op 10 (DT.op 12 (DT.op 13 (DT.op 14 (DT.op 15 DT.nil))))) (DT.op 12 (DT.or (DT.op 10 (DT.op 13 (DT.op 14 (DT.op 15 DT.nil)))) (DT.op 13 (DT.or (DT.op 10 (DT.op 14 (DT.op 15 DT.nil))) (DT.op 14 (DT.op 10 (DT.op 15 DT.nil))))))))) (DT.or (DT.op 10 (DT.or (DT.op 9 (DT.op 12 (DT.op 13 (DT.op 14 (DT.op 15 DT.nil))))) (DT.op 12 (DT.or (DT.op 9 (DT.op 13 (DT.op 14 (DT.op 15 DT.nil)))) (DT.op 13 (DT.op 9 (DT.op 14 (DT.op 15 DT.nil)))))))) (DT.op 12 (DT.or (DT.op 9 (DT.or (DT.op 10 (DT.op 13 (DT.op 14 (DT.op 15 DT.nil)))) (DT.op 13 (DT.or (DT.op 10 (DT.op 14 (DT.op 15 DT.nil))) (DT.op 14 (DT.op 10 (DT.op 15 DT.nil))))))) (DT.or (DT.op 10 (DT.or (DT.op 9 (DT.op 13 (DT.op 14 (DT.op 15 DT.nil)))) (DT.op 13 (DT.op 9 (DT.op 14 (DT.op 15 DT.nil)))))) (DT.op 13 (DT.op 9 (DT.or (DT.op 10 (DT.op 14 (DT.op 15 DT.nil))) (DT.op 14 (DT.op 10 (DT.op 15 DT.nil)))))))))))) (DT.op 12 (DT.or (DT.op 9 (DT.or (DT.op 10 (DT.op 11 (DT.op 13 (DT.op 14 (DT.op 15 DT.nil))))) (DT.op 11 (DT.or (DT.op 10 (DT.op 13 (DT.op 14 (DT.op 15 DT.nil)))) (DT.op 13 (DT.or (DT.op 10 (DT.op 14 (DT.op 15 DT.nil))) (DT.op 14 (DT.op 10 (DT.op 15 DT.nil))))))))) (DT.or (DT.op 10 (DT.or (DT.op 9 (DT.op 11 (DT.op 13 (DT.op 14 (DT.op 15 DT.nil))))) (DT.op 11 (DT.or (DT.op 9 (DT.op 13 (DT.op 14 (DT.op 15 DT.nil)))) (DT.op 13 (DT.op 9 (DT.op 14 (DT.op 15 DT.nil)))))))) (DT.op 11 (DT.or (DT.op 9 (DT.or (DT.op 10 (DT.op 13 (DT.op 14 (DT.op 15 DT.nil)))) (DT.op 13 (DT.or (DT.op 10 (DT.op 14 (DT.op 15 DT.nil))) (DT.op 14 (DT.op 10 (DT.op 15 DT.nil))))))) (DT.or (DT.op 10 (DT.or (DT.op 9 (DT.op 13 (DT.op 14 (DT.op 15 DT.nil)))) (DT.op 13 (DT.op 9 (DT.op 14 (DT.op 15 DT.nil)))))) (DT.op 13 (DT.op 9 (DT.or (DT.op 10 (DT.op 14 (DT.op 15 DT.nil))) (DT.op 14 (DT.op 10 (DT.op 15 DT.nil)))))))))))))))))) (DT.or (DT.op 11 (DT.or (DT.op 6 (DT.op 7 (DT.op 8 (DT.or (DT.op 9 (DT.or (DT.op 10 (DT.op 12 (DT.op 13 (DT.op 14 (DT.op 15 DT.nil))))) (DT.op 12 (DT.or (DT.op 10 (DT.op 13 (DT.op 14 (DT.op 15 DT.nil)))) (DT.op 13 (DT.or (DT.op 10 (DT.op 14 (DT.op 15 DT.nil))) (DT.op 14 (DT.op 10 (DT.op 15 DT.nil))))))))) (DT.or (DT.op 10 (DT.or (DT.op 9 (DT.op 12 (DT.op 13 (DT.op 14 (DT.op 15 DT.nil))))) (DT.op 12 (DT.or (DT.op 9 (DT.op 13 (DT.op 14 (DT.op 15 DT.nil)))) (DT.op 13 (DT.op 9 (DT.op 14 (DT.op 15 DT.nil)))))))) (DT.op 12 (DT.or (DT.op 9 (DT.or (DT.op 10 (DT.op 13 (DT.op 14 (DT.op 15 DT.nil)))) (DT.op 13 (DT.or (DT.op 10 (DT.op 14 (DT.op 15 DT.nil))) (DT.op 14 (DT.op 10 (DT.op 15 DT.nil))))))) (DT.or (DT.op 10 (DT.or (DT.op 9 (DT.op 13 (DT.op 14 (DT.op 15 DT.nil)))) (DT.op 13 (DT.op 9 (DT.op 14 (DT.op 15 DT.nil)))))) (DT.op 13 (DT.op 9 (DT.or (DT.op 10 (DT.op 14 (DT.op 15 DT.nil))) (DT.op 14 (DT.op 10 (DT.op 15 DT.nil)))))))))))))) (DT.op 12 (DT.op 6 (DT.op 7 (DT.op 8 (DT.or (DT.op 9 (DT.or (DT.op 10 (DT.op 13 (DT.op 14 (DT.op 15 DT.nil)))) (DT.op 13 (DT.or (DT.op 10 (DT.op 14 (DT.op 15 DT.nil))) (DT.op 14 (DT.op 10 (DT.op 15 DT.nil))))))) (DT.or (DT.op 10 (DT.or (DT.op 9 (DT.op 13 (DT.op 14 (DT.op 15 DT.nil)))) (DT.op 13 (DT.op 9 (DT.op 14 (DT.op 15 DT.nil)))))) (DT.op 13 (DT.op 9 (DT.or (DT.op 10 (DT.op 14 (DT.op 15 DT.nil))) (DT.op 14 (DT.op 10 (DT.op 15 DT.nil)))))))))))))) (DT.op 12 (DT.or (DT.op 6 (DT.op 7 (DT.op 8 (DT.or (DT.op 9 (DT.or (DT.op 10 (DT.op 11 (DT.op 13 (DT.op 14 (DT.op 15 DT.nil))))) (DT.op 11 (DT.or (DT.op 10 (DT.op 13 (DT.op 14 (DT.op 15 DT.nil)))) (DT.op 13 (DT.or (DT.op 10 (DT.op 14 (DT.op 15 DT.nil))) (DT.op 14 (DT.op 10 (DT.op 15 DT.nil))))))))) (DT.or (DT.op 10 (DT.or (DT.op 9 (DT.op 11 (DT.op 13 (DT.op 14 (DT.op 15 DT.nil))))) (DT.op 11 (DT.or (DT.op 9 (DT.op 13 (DT.op 14 (DT.op 15 DT.nil)))) (DT.op 13 (DT.op 9 (DT.op 14 (DT.op 15 DT.nil)))))))) (DT.op 11 (DT.or (DT.op 9 (DT.or (DT.op 10 (DT.op 13 (DT.op 14 (DT.op 15 DT.nil)))) (DT.op 13 (DT.or (DT.op 10 (DT.op 14 (DT.op 15 DT.nil))) (DT.op 14 (DT.op 10 (DT.op 15 DT.nil))))))) (DT.or (DT.op 10 (DT.or (DT.op 9 (DT.op 13 (DT.op 14 (DT.op 15 DT.nil)))) (DT.op 13 (DT.op 9 (DT.op 14 (DT.op 15 DT.nil)))))) (DT.op 13 (DT.op 9 (DT.or (DT.op 10 (DT.op 14 (DT.op 15 DT.nil))) (DT.op 14 (DT.op 10 (DT.op 15 DT.nil)))))))))))))) (DT.op 11 (DT.op 6 (DT.op 7 (DT.op 8 (DT.or (DT.op 9 (DT.or (DT.op 10 (DT.op 13 (DT.op 14 (DT.op 15 DT.nil)))) (DT.op 13 (DT.or (DT.op 10 (DT.op 14 (DT.op 15 DT.nil))) (DT.op 14 (DT.op 10 (DT.op 15 DT.nil))))))) (DT.or (DT.op 10 (DT.or (DT.op 9 (DT.op 13 (DT.op 14 (DT.op 15 DT.nil)))) (DT.op 13 (DT.op 9 (DT.op 14 (DT.op 15 DT.nil)))))) (DT.op 13 (DT.op 9 (DT.or (DT.op 10 (DT.op 14 (DT.op 15 DT.nil))) (DT.op 14 (DT.op 10 (DT.op 15 DT.nil)))))))))))))))) (by kernel_rfl) (by kernel_rfl) (by kernel_rfl) ?_; intro K hK) | (refine awpF_drawM (id:=20) [0] [] (DT.or (DT.op 1 (DT.op 2 (DT.op 3 DT.nil))) (DT.op 2 (DT.op 1 (DT.op 3 DT.nil)))) (by kernel_rfl) (by kernel_rfl) (by kernel_rfl) ?_; intro K hK) | refine CallK.pd (h12) ?_ | refine CallK.pg (fun _=>h12) ?_ | refine CallK.pd (h13) ?_ | refine CallK.pg (fun _=>h13) ?_); simp only [push_cast,seval,d1]; refine wObW ?_) | (refine hK _ ?_; clear hK K) | (refine wCd ?_ ?_) | (with_reducible intro hb; exfalso; revert hb; simp [d1]; done) | (with_reducible intro hb; exfalso; replace hb:=wHb hb; omega; done) | (with_reducible intro hb; replace hb:=wHb hb) | (refine wEx ?_) | (refine wRp ?_; refine fin_of (by simp only [push_cast,seval,d1]; first | done | rfl) ob1 ?_) | (refine inblock_norm ?_)))
    rfl
  have d1:decide ((f.length:Int) > 20)=false:=decide_eq_false (by omega)
  by_cases c2:120<cv
  · have d2:decide (cv > 120)=true:=decide_eq_true (by omega)
    refine pd_of (fn:=Tryz.f3) [.tmp 10] (by kernel_rfl) rfl (by kernel_rfl) (Nat.le_of_ble_eq_true rfl) (by kernel_rfl) rfl rfl ?_
    (repeat' (first | refine awp_seq ?_ | refine awp_skip ?_ | refine awp_block ?_ | ((first | (refine awpF_region ?_; intro K hK) | (refine awpF_drawM (id:=16) [0,1,2,3,4,5] [] (DT.or (DT.op 6 (DT.op 7 (DT.op 8 (DT.or (DT.op 9 (DT.or (DT.op 10 (DT.or (DT.op 11 (DT.op 12 (DT.op 13 (DT.op 14 (DT.op 15 DT.nil))))) (DT.op 12 (DT.op 11 (DT.op 13 (DT.op 14 (DT.op 15 DT.nil))))))) (DT.or (DT.op 11 (DT.or (DT.op 10 (DT.op 12 (DT.op 13 (DT.op 14 (DT.op 15 DT.nil))))) (DT.op 12 (DT.or (DT.op 10 (DT.op 13 (DT.op 14 (DT.op 15 DT.nil)))) (DT.op 13 (DT.or (DT.op 10 (DT.op 14 (DT.op 15 DT.nil))) (DT.op 14 (DT.op 10 (DT.op 15 DT.nil))))))))) (DT.op 12 (DT.or (DT.op 10 (DT.op 11 (DT.op 13 (DT.op 14 (DT.op 15 DT.nil))))) (DT.op 11 (DT.or (DT.op 10 (DT.op 13 (DT.op 14 (DT.op 15 DT.nil)))) (DT.op 13 (DT.or (DT.op 10 (DT.op 14 (DT.op 15 DT.nil))) (DT.op 14 (DT.op 10 (DT.op 15 DT.nil)))))))))))) (DT.or (DT.op 10 (DT.or (DT.op 9 (DT.or (DT.op 11 (DT.op 12 (DT.op 13 (DT.op 14 (DT.op 15 DT.nil))))) (DT.op 12 (DT.op 11 (DT.op 13 (DT.op 14 (DT.op 15 DT.nil))))))) (DT.or (DT.op 11 (DT.or (DT.op 9 (DT.op 12 (DT.op 13 (DT.op 14 (DT.op 15 DT.nil))))) (DT.op 12 (DT.or (DT.op 9 (DT.op 13 (DT.op 14 (DT.op 15 DT.nil)))) (DT.op 13 (DT.op 9 (DT.op 14 (DT.op 15 DT.nil)))))))) (DT.op 12 (DT.or (DT.op 9 (DT.op 11 (DT.op 13 (DT.op 14 (DT.op 15 DT.nil))))) (DT.op 11 (DT.or (DT.op 9 (DT.op 13 (DT.op 14 (DT.op 15 DT.nil)))) (DT.op 13 (DT.op 9 (DT.op 14 (DT.op 15 DT.nil))))))))))) (DT.or (DT.op 11 (DT.or (DT.op 9 (DT.or (DT.op 10 (DT.op 12 (DT.op 13 (DT.op 14 (DT.op 15 DT.nil))))) (DT.op 12 (DT.or (DT.op 10 (DT.op 13 (DT.op 14 (DT.op 15 DT.nil)))) (DT.op 13 (DT.or (DT.op 10 (DT.op 14 (DT.op 15 DT.nil))) (DT.op 14 (DT.op 10 (DT.op 15 DT.nil))))))))) (DT.or (DT.op 10 (DT.or (DT.op 9 (DT.op 12 (DT.op 13 (DT.op 14 (DT.op 15 DT.nil))))) (DT.op 12 (DT.or (DT.op 9 (DT.op 13 (DT.op 14 (DT.op 15 DT.nil)))) (DT.op 13 (DT.op 9 (DT.op 14 (DT.op 15 DT.nil)))))))) (DT.op 12 (DT.or (DT.op 9 (DT.or (DT.op 10 (DT.op 13 (DT.op 14 (DT.op 15 DT.nil)))) (DT.op 13 (DT.or (DT.op 10 (DT.op 14 (DT.op 15 DT.nil))) (DT.op 14 (DT.op 10 (DT.op 15 DT.nil))))))) (DT.or (DT.op 10 (DT.or (DT.op 9 (DT.op 13 (DT.op 14 (DT.op 15 DT.nil)))) (DT.op 13 (DT.op 9 (DT.op 14 (DT.op 15 DT.nil)))))) (DT.op 13 (DT.op 9 (DT.or (DT.op 10 (DT.op 14 (DT.op 15 DT.nil))) (DT.op 14 (DT.op 10 (DT.op 15 DT.nil)))))))))))) (DT.op 12 (DT.or (DT.op 9 (DT.or (DT.op 10 (DT.op 11 (DT.op 13 (DT.op 14 (DT.op 15 DT.nil))))) (DT.op 11 (DT.or (DT.op 10 (DT.op 13 (DT.op 14 (DT.op 15 DT.nil)))) (DT.op 13 (DT.or (DT.op 10 (DT.op 14 (DT.op 15 DT.nil))) (DT.op 14 (DT.op 10 (DT.op 15 DT.nil))))))))) (DT.or (DT.op 10 (DT.or (DT.op 9 (DT.op 11 (DT.op 13 (DT.op 14 (DT.op 15 DT.nil))))) (DT.op 11 (DT.or (DT.op 9 (DT.op 13 (DT.op 14 (DT.op 15 DT.nil)))) (DT.op 13 (DT.op 9 (DT.op 14 (DT.op 15 DT.nil)))))))) (DT.op 11 (DT.or (DT.op 9 (DT.or (DT.op 10 (DT.op 13 (DT.op 14 (DT.op 15 DT.nil)))) (DT.op 13 (DT.or (DT.op 10 (DT.op 14 (DT.op 15 DT.nil))) (DT.op 14 (DT.op 10 (DT.op 15 DT.nil))))))) (DT.or (DT.op 10 (DT.or (DT.op 9 (DT.op 13 (DT.op 14 (DT.op 15 DT.nil)))) (DT.op 13 (DT.op 9 (DT.op 14 (DT.op 15 DT.nil)))))) (DT.op 13 (DT.op 9 (DT.or (DT.op 10 (DT.op 14 (DT.op 15 DT.nil))) (DT.op 14 (DT.op 10 (DT.op 15 DT.nil)))))))))))))))))) (DT.or (DT.op 11 (DT.or (DT.op 6 (DT.op 7 (DT.op 8 (DT.or (DT.op 9 (DT.or (DT.op 10 (DT.op 12 (DT.op 13 (DT.op 14 (DT.op 15 DT.nil))))) (DT.op 12 (DT.or (DT.op 10 (DT.op 13 (DT.op 14 (DT.op 15 DT.nil)))) (DT.op 13 (DT.or (DT.op 10 (DT.op 14 (DT.op 15 DT.nil))) (DT.op 14 (DT.op 10 (DT.op 15 DT.nil))))))))) (DT.or (DT.op 10 (DT.or (DT.op 9 (DT.op 12 (DT.op 13 (DT.op 14 (DT.op 15 DT.nil))))) (DT.op 12 (DT.or (DT.op 9 (DT.op 13 (DT.op 14 (DT.op 15 DT.nil)))) (DT.op 13 (DT.op 9 (DT.op 14 (DT.op 15 DT.nil)))))))) (DT.op 12 (DT.or (DT.op 9 (DT.or (DT.op 10 (DT.op 13 (DT.op 14 (DT.op 15 DT.nil)))) (DT.op 13 (DT.or (DT.op 10 (DT.op 14 (DT.op 15 DT.nil))) (DT.op 14 (DT.op 10 (DT.op 15 DT.nil))))))) (DT.or (DT.op 10 (DT.or (DT.op 9 (DT.op 13 (DT.op 14 (DT.op 15 DT.nil)))) (DT.op 13 (DT.op 9 (DT.op 14 (DT.op 15 DT.nil)))))) (DT.op 13 (DT.op 9 (DT.or (DT.op 10 (DT.op 14 (DT.op 15 DT.nil))) (DT.op 14 (DT.op 10 (DT.op 15 DT.nil)))))))))))))) (DT.op 12 (DT.op 6 (DT.op 7 (DT.op 8 (DT.or (DT.op 9 (DT.or (DT.op 10 (DT.op 13 (DT.op 14 (DT.op 15 DT.nil)))) (DT.op 13 (DT.or (DT.op 10 (DT.op 14 (DT.op 15 DT.nil))) (DT.op 14 (DT.op 10 (DT.op 15 DT.nil))))))) (DT.or (DT.op 10 (DT.or (DT.op 9 (DT.op 13 (DT.op 14 (DT.op 15 DT.nil)))) (DT.op 13 (DT.op 9 (DT.op 14 (DT.op 15 DT.nil)))))) (DT.op 13 (DT.op 9 (DT.or (DT.op 10 (DT.op 14 (DT.op 15 DT.nil))) (DT.op 14 (DT.op 10 (DT.op 15 DT.nil)))))))))))))) (DT.op 12 (DT.or (DT.op 6 (DT.op 7 (DT.op 8 (DT.or (DT.op 9 (DT.or (DT.op 10 (DT.op 11 (DT.op 13 (DT.op 14 (DT.op 15 DT.nil))))) (DT.op 11 (DT.or (DT.op 10 (DT.op 13 (DT.op 14 (DT.op 15 DT.nil)))) (DT.op 13 (DT.or (DT.op 10 (DT.op 14 (DT.op 15 DT.nil))) (DT.op 14 (DT.op 10 (DT.op 15 DT.nil))))))))) (DT.or (DT.op 10 (DT.or (DT.op 9 (DT.op 11 (DT.op 13 (DT.op 14 (DT.op 15 DT.nil))))) (DT.op 11 (DT.or (DT.op 9 (DT.op 13 (DT.op 14 (DT.op 15 DT.nil)))) (DT.op 13 (DT.op 9 (DT.op 14 (DT.op 15 DT.nil)))))))) (DT.op 11 (DT.or (DT.op 9 (DT.or (DT.op 10 (DT.op 13 (DT.op 14 (DT.op 15 DT.nil)))) (DT.op 13 (DT.or (DT.op 10 (DT.op 14 (DT.op 15 DT.nil))) (DT.op 14 (DT.op 10 (DT.op 15 DT.nil))))))) (DT.or (DT.op 10 (DT.or (DT.op 9 (DT.op 13 (DT.op 14 (DT.op 15 DT.nil)))) (DT.op 13 (DT.op 9 (DT.op 14 (DT.op 15 DT.nil)))))) (DT.op 13 (DT.op 9 (DT.or (DT.op 10 (DT.op 14 (DT.op 15 DT.nil))) (DT.op 14 (DT.op 10 (DT.op 15 DT.nil)))))))))))))) (DT.op 11 (DT.op 6 (DT.op 7 (DT.op 8 (DT.or (DT.op 9 (DT.or (DT.op 10 (DT.op 13 (DT.op 14 (DT.op 15 DT.nil)))) (DT.op 13 (DT.or (DT.op 10 (DT.op 14 (DT.op 15 DT.nil))) (DT.op 14 (DT.op 10 (DT.op 15 DT.nil))))))) (DT.or (DT.op 10 (DT.or (DT.op 9 (DT.op 13 (DT.op 14 (DT.op 15 DT.nil)))) (DT.op 13 (DT.op 9 (DT.op 14 (DT.op 15 DT.nil)))))) (DT.op 13 (DT.op 9 (DT.or (DT.op 10 (DT.op 14 (DT.op 15 DT.nil))) (DT.op 14 (DT.op 10 (DT.op 15 DT.nil)))))))))))))))) (by kernel_rfl) (by kernel_rfl) (by kernel_rfl) ?_; intro K hK) | (refine awpF_drawM (id:=20) [0] [] (DT.or (DT.op 1 (DT.op 2 (DT.op 3 DT.nil))) (DT.op 2 (DT.op 1 (DT.op 3 DT.nil)))) (by kernel_rfl) (by kernel_rfl) (by kernel_rfl) ?_; intro K hK) | refine CallK.pd (h12) ?_ | refine CallK.pg (fun _=>h12) ?_ | refine CallK.pd (h13) ?_ | refine CallK.pg (fun _=>h13) ?_); simp only [push_cast,seval,d1,d2]; refine wObW ?_) | (refine hK _ ?_; clear hK K) | (refine wCd ?_ ?_) | (with_reducible intro hb; exfalso; revert hb; simp [d1,d2]; done) | (with_reducible intro hb; exfalso; replace hb:=wHb hb; omega; done) | (with_reducible intro hb; replace hb:=wHb hb) | (refine wEx ?_) | (refine wRp ?_; refine fin_of (by simp only [push_cast,seval,d1,d2]; first | done | rfl) ob1 ?_) | (refine inblock_norm ?_)))
    rfl
  have d2:decide (cv > 120)=false:=decide_eq_false (by omega)
  by_cases c3:120<T.length
  · have d3:decide ((T.length:Int) > 120)=true:=decide_eq_true (by omega)
    refine pd_of (fn:=Tryz.f3) [.tmp 10] (by kernel_rfl) rfl (by kernel_rfl) (Nat.le_of_ble_eq_true rfl) (by kernel_rfl) rfl rfl ?_
    (repeat' (first | refine awp_seq ?_ | refine awp_skip ?_ | refine awp_block ?_ | ((first | (refine awpF_region ?_; intro K hK) | (refine awpF_drawM (id:=16) [0,1,2,3,4,5] [] (DT.or (DT.op 6 (DT.op 7 (DT.op 8 (DT.or (DT.op 9 (DT.or (DT.op 10 (DT.or (DT.op 11 (DT.op 12 (DT.op 13 (DT.op 14 (DT.op 15 DT.nil))))) (DT.op 12 (DT.op 11 (DT.op 13 (DT.op 14 (DT.op 15 DT.nil))))))) (DT.or (DT.op 11 (DT.or (DT.op 10 (DT.op 12 (DT.op 13 (DT.op 14 (DT.op 15 DT.nil))))) (DT.op 12 (DT.or (DT.op 10 (DT.op 13 (DT.op 14 (DT.op 15 DT.nil)))) (DT.op 13 (DT.or (DT.op 10 (DT.op 14 (DT.op 15 DT.nil))) (DT.op 14 (DT.op 10 (DT.op 15 DT.nil))))))))) (DT.op 12 (DT.or (DT.op 10 (DT.op 11 (DT.op 13 (DT.op 14 (DT.op 15 DT.nil))))) (DT.op 11 (DT.or (DT.op 10 (DT.op 13 (DT.op 14 (DT.op 15 DT.nil)))) (DT.op 13 (DT.or (DT.op 10 (DT.op 14 (DT.op 15 DT.nil))) (DT.op 14 (DT.op 10 (DT.op 15 DT.nil)))))))))))) (DT.or (DT.op 10 (DT.or (DT.op 9 (DT.or (DT.op 11 (DT.op 12 (DT.op 13 (DT.op 14 (DT.op 15 DT.nil))))) (DT.op 12 (DT.op 11 (DT.op 13 (DT.op 14 (DT.op 15 DT.nil))))))) (DT.or (DT.op 11 (DT.or (DT.op 9 (DT.op 12 (DT.op 13 (DT.op 14 (DT.op 15 DT.nil))))) (DT.op 12 (DT.or (DT.op 9 (DT.op 13 (DT.op 14 (DT.op 15 DT.nil)))) (DT.op 13 (DT.op 9 (DT.op 14 (DT.op 15 DT.nil)))))))) (DT.op 12 (DT.or (DT.op 9 (DT.op 11 (DT.op 13 (DT.op 14 (DT.op 15 DT.nil))))) (DT.op 11 (DT.or (DT.op 9 (DT.op 13 (DT.op 14 (DT.op 15 DT.nil)))) (DT.op 13 (DT.op 9 (DT.op 14 (DT.op 15 DT.nil))))))))))) (DT.or (DT.op 11 (DT.or (DT.op 9 (DT.or (DT.op 10 (DT.op 12 (DT.op 13 (DT.op 14 (DT.op 15 DT.nil))))) (DT.op 12 (DT.or (DT.op 10 (DT.op 13 (DT.op 14 (DT.op 15 DT.nil)))) (DT.op 13 (DT.or (DT.op 10 (DT.op 14 (DT.op 15 DT.nil))) (DT.op 14 (DT.op 10 (DT.op 15 DT.nil))))))))) (DT.or (DT.op 10 (DT.or (DT.op 9 (DT.op 12 (DT.op 13 (DT.op 14 (DT.op 15 DT.nil))))) (DT.op 12 (DT.or (DT.op 9 (DT.op 13 (DT.op 14 (DT.op 15 DT.nil)))) (DT.op 13 (DT.op 9 (DT.op 14 (DT.op 15 DT.nil)))))))) (DT.op 12 (DT.or (DT.op 9 (DT.or (DT.op 10 (DT.op 13 (DT.op 14 (DT.op 15 DT.nil)))) (DT.op 13 (DT.or (DT.op 10 (DT.op 14 (DT.op 15 DT.nil))) (DT.op 14 (DT.op 10 (DT.op 15 DT.nil))))))) (DT.or (DT.op 10 (DT.or (DT.op 9 (DT.op 13 (DT.op 14 (DT.op 15 DT.nil)))) (DT.op 13 (DT.op 9 (DT.op 14 (DT.op 15 DT.nil)))))) (DT.op 13 (DT.op 9 (DT.or (DT.op 10 (DT.op 14 (DT.op 15 DT.nil))) (DT.op 14 (DT.op 10 (DT.op 15 DT.nil)))))))))))) (DT.op 12 (DT.or (DT.op 9 (DT.or (DT.op 10 (DT.op 11 (DT.op 13 (DT.op 14 (DT.op 15 DT.nil))))) (DT.op 11 (DT.or (DT.op 10 (DT.op 13 (DT.op 14 (DT.op 15 DT.nil)))) (DT.op 13 (DT.or (DT.op 10 (DT.op 14 (DT.op 15 DT.nil))) (DT.op 14 (DT.op 10 (DT.op 15 DT.nil))))))))) (DT.or (DT.op 10 (DT.or (DT.op 9 (DT.op 11 (DT.op 13 (DT.op 14 (DT.op 15 DT.nil))))) (DT.op 11 (DT.or (DT.op 9 (DT.op 13 (DT.op 14 (DT.op 15 DT.nil)))) (DT.op 13 (DT.op 9 (DT.op 14 (DT.op 15 DT.nil)))))))) (DT.op 11 (DT.or (DT.op 9 (DT.or (DT.op 10 (DT.op 13 (DT.op 14 (DT.op 15 DT.nil)))) (DT.op 13 (DT.or (DT.op 10 (DT.op 14 (DT.op 15 DT.nil))) (DT.op 14 (DT.op 10 (DT.op 15 DT.nil))))))) (DT.or (DT.op 10 (DT.or (DT.op 9 (DT.op 13 (DT.op 14 (DT.op 15 DT.nil)))) (DT.op 13 (DT.op 9 (DT.op 14 (DT.op 15 DT.nil)))))) (DT.op 13 (DT.op 9 (DT.or (DT.op 10 (DT.op 14 (DT.op 15 DT.nil))) (DT.op 14 (DT.op 10 (DT.op 15 DT.nil)))))))))))))))))) (DT.or (DT.op 11 (DT.or (DT.op 6 (DT.op 7 (DT.op 8 (DT.or (DT.op 9 (DT.or (DT.op 10 (DT.op 12 (DT.op 13 (DT.op 14 (DT.op 15 DT.nil))))) (DT.op 12 (DT.or (DT.op 10 (DT.op 13 (DT.op 14 (DT.op 15 DT.nil)))) (DT.op 13 (DT.or (DT.op 10 (DT.op 14 (DT.op 15 DT.nil))) (DT.op 14 (DT.op 10 (DT.op 15 DT.nil))))))))) (DT.or (DT.op 10 (DT.or (DT.op 9 (DT.op 12 (DT.op 13 (DT.op 14 (DT.op 15 DT.nil))))) (DT.op 12 (DT.or (DT.op 9 (DT.op 13 (DT.op 14 (DT.op 15 DT.nil)))) (DT.op 13 (DT.op 9 (DT.op 14 (DT.op 15 DT.nil)))))))) (DT.op 12 (DT.or (DT.op 9 (DT.or (DT.op 10 (DT.op 13 (DT.op 14 (DT.op 15 DT.nil)))) (DT.op 13 (DT.or (DT.op 10 (DT.op 14 (DT.op 15 DT.nil))) (DT.op 14 (DT.op 10 (DT.op 15 DT.nil))))))) (DT.or (DT.op 10 (DT.or (DT.op 9 (DT.op 13 (DT.op 14 (DT.op 15 DT.nil)))) (DT.op 13 (DT.op 9 (DT.op 14 (DT.op 15 DT.nil)))))) (DT.op 13 (DT.op 9 (DT.or (DT.op 10 (DT.op 14 (DT.op 15 DT.nil))) (DT.op 14 (DT.op 10 (DT.op 15 DT.nil)))))))))))))) (DT.op 12 (DT.op 6 (DT.op 7 (DT.op 8 (DT.or (DT.op 9 (DT.or (DT.op 10 (DT.op 13 (DT.op 14 (DT.op 15 DT.nil)))) (DT.op 13 (DT.or (DT.op 10 (DT.op 14 (DT.op 15 DT.nil))) (DT.op 14 (DT.op 10 (DT.op 15 DT.nil))))))) (DT.or (DT.op 10 (DT.or (DT.op 9 (DT.op 13 (DT.op 14 (DT.op 15 DT.nil)))) (DT.op 13 (DT.op 9 (DT.op 14 (DT.op 15 DT.nil)))))) (DT.op 13 (DT.op 9 (DT.or (DT.op 10 (DT.op 14 (DT.op 15 DT.nil))) (DT.op 14 (DT.op 10 (DT.op 15 DT.nil)))))))))))))) (DT.op 12 (DT.or (DT.op 6 (DT.op 7 (DT.op 8 (DT.or (DT.op 9 (DT.or (DT.op 10 (DT.op 11 (DT.op 13 (DT.op 14 (DT.op 15 DT.nil))))) (DT.op 11 (DT.or (DT.op 10 (DT.op 13 (DT.op 14 (DT.op 15 DT.nil)))) (DT.op 13 (DT.or (DT.op 10 (DT.op 14 (DT.op 15 DT.nil))) (DT.op 14 (DT.op 10 (DT.op 15 DT.nil))))))))) (DT.or (DT.op 10 (DT.or (DT.op 9 (DT.op 11 (DT.op 13 (DT.op 14 (DT.op 15 DT.nil))))) (DT.op 11 (DT.or (DT.op 9 (DT.op 13 (DT.op 14 (DT.op 15 DT.nil)))) (DT.op 13 (DT.op 9 (DT.op 14 (DT.op 15 DT.nil)))))))) (DT.op 11 (DT.or (DT.op 9 (DT.or (DT.op 10 (DT.op 13 (DT.op 14 (DT.op 15 DT.nil)))) (DT.op 13 (DT.or (DT.op 10 (DT.op 14 (DT.op 15 DT.nil))) (DT.op 14 (DT.op 10 (DT.op 15 DT.nil))))))) (DT.or (DT.op 10 (DT.or (DT.op 9 (DT.op 13 (DT.op 14 (DT.op 15 DT.nil)))) (DT.op 13 (DT.op 9 (DT.op 14 (DT.op 15 DT.nil)))))) (DT.op 13 (DT.op 9 (DT.or (DT.op 10 (DT.op 14 (DT.op 15 DT.nil))) (DT.op 14 (DT.op 10 (DT.op 15 DT.nil)))))))))))))) (DT.op 11 (DT.op 6 (DT.op 7 (DT.op 8 (DT.or (DT.op 9 (DT.or (DT.op 10 (DT.op 13 (DT.op 14 (DT.op 15 DT.nil)))) (DT.op 13 (DT.or (DT.op 10 (DT.op 14 (DT.op 15 DT.nil))) (DT.op 14 (DT.op 10 (DT.op 15 DT.nil))))))) (DT.or (DT.op 10 (DT.or (DT.op 9 (DT.op 13 (DT.op 14 (DT.op 15 DT.nil)))) (DT.op 13 (DT.op 9 (DT.op 14 (DT.op 15 DT.nil)))))) (DT.op 13 (DT.op 9 (DT.or (DT.op 10 (DT.op 14 (DT.op 15 DT.nil))) (DT.op 14 (DT.op 10 (DT.op 15 DT.nil)))))))))))))))) (by kernel_rfl) (by kernel_rfl) (by kernel_rfl) ?_; intro K hK) | (refine awpF_drawM (id:=20) [0] [] (DT.or (DT.op 1 (DT.op 2 (DT.op 3 DT.nil))) (DT.op 2 (DT.op 1 (DT.op 3 DT.nil)))) (by kernel_rfl) (by kernel_rfl) (by kernel_rfl) ?_; intro K hK) | refine CallK.pd (h12) ?_ | refine CallK.pg (fun _=>h12) ?_ | refine CallK.pd (h13) ?_ | refine CallK.pg (fun _=>h13) ?_); simp only [push_cast,seval,d1,d2,d3]; refine wObW ?_) | (refine hK _ ?_; clear hK K) | (refine wCd ?_ ?_) | (with_reducible intro hb; exfalso; revert hb; simp [d1,d2,d3]; done) | (with_reducible intro hb; exfalso; replace hb:=wHb hb; omega; done) | (with_reducible intro hb; replace hb:=wHb hb) | (refine wEx ?_) | (refine wRp ?_; refine fin_of (by simp only [push_cast,seval,d1,d2,d3]; first | done | rfl) ob1 ?_) | (refine inblock_norm ?_)))
    rfl
  have d3:decide ((T.length:Int) > 120)=false:=decide_eq_false (by omega)
  have hcs:=cells_small (k:=120) hr (by omega) (by rw [hcv]; exact (by omega:cv≤120))
  have hrT:∀ r,r∈T→r.length≤1000000:=fun r h=>by have:=cells_mem h; omega
  have h26:=p26 nums 2 4 hn.1 hn.2 hw hm
  rw [show (partT nums 2 4 3 0).1=ruleT nums 2 4 from rfl] at h26
  have hfl:=rule_len nums hw hm
  have hW:=rule_W nums hw hm
  have h27:=p27 rows 2 25 hrw.1 hrw.2 (by decide) (by decide)
  have hTl:=trace_len rows 2 25
  have hTr:∀ r,r∈traceT rows 2 25→r.length≤1000000:=fun r h=>by have:=(trace_rows r h).1; omega
  have hwf:=hW.wf
  clear hW hcs hcv
  generalize traceT rows 2 25=T2 at *
  generalize ruleT nums 2 4=t2 at *
  push_cast at h27
  have z01:((0:Int)==1)=false:=rfl
  have z11:((1:Int)==1)=true:=rfl
  refine pd_of (fn:=Tryz.f3) [.tmp 10] (by kernel_rfl) rfl (by kernel_rfl) (Nat.le_of_ble_eq_true rfl) (by kernel_rfl) rfl rfl ?_
  (repeat' (first | refine awp_seq ?_ | refine awp_skip ?_ | refine awp_block ?_ | ((first | ((fail_if_success refine awpF_region (id:=3) ?_); refine awpF_region ?_; intro K hK) | (refine awpF_drawM (id:=16) [0,1,2,3,4,5] [] (DT.or (DT.op 6 (DT.op 7 (DT.op 8 (DT.or (DT.op 9 (DT.or (DT.op 10 (DT.or (DT.op 11 (DT.op 12 (DT.op 13 (DT.op 14 (DT.op 15 DT.nil))))) (DT.op 12 (DT.op 11 (DT.op 13 (DT.op 14 (DT.op 15 DT.nil))))))) (DT.or (DT.op 11 (DT.or (DT.op 10 (DT.op 12 (DT.op 13 (DT.op 14 (DT.op 15 DT.nil))))) (DT.op 12 (DT.or (DT.op 10 (DT.op 13 (DT.op 14 (DT.op 15 DT.nil)))) (DT.op 13 (DT.or (DT.op 10 (DT.op 14 (DT.op 15 DT.nil))) (DT.op 14 (DT.op 10 (DT.op 15 DT.nil))))))))) (DT.op 12 (DT.or (DT.op 10 (DT.op 11 (DT.op 13 (DT.op 14 (DT.op 15 DT.nil))))) (DT.op 11 (DT.or (DT.op 10 (DT.op 13 (DT.op 14 (DT.op 15 DT.nil)))) (DT.op 13 (DT.or (DT.op 10 (DT.op 14 (DT.op 15 DT.nil))) (DT.op 14 (DT.op 10 (DT.op 15 DT.nil)))))))))))) (DT.or (DT.op 10 (DT.or (DT.op 9 (DT.or (DT.op 11 (DT.op 12 (DT.op 13 (DT.op 14 (DT.op 15 DT.nil))))) (DT.op 12 (DT.op 11 (DT.op 13 (DT.op 14 (DT.op 15 DT.nil))))))) (DT.or (DT.op 11 (DT.or (DT.op 9 (DT.op 12 (DT.op 13 (DT.op 14 (DT.op 15 DT.nil))))) (DT.op 12 (DT.or (DT.op 9 (DT.op 13 (DT.op 14 (DT.op 15 DT.nil)))) (DT.op 13 (DT.op 9 (DT.op 14 (DT.op 15 DT.nil)))))))) (DT.op 12 (DT.or (DT.op 9 (DT.op 11 (DT.op 13 (DT.op 14 (DT.op 15 DT.nil))))) (DT.op 11 (DT.or (DT.op 9 (DT.op 13 (DT.op 14 (DT.op 15 DT.nil)))) (DT.op 13 (DT.op 9 (DT.op 14 (DT.op 15 DT.nil))))))))))) (DT.or (DT.op 11 (DT.or (DT.op 9 (DT.or (DT.op 10 (DT.op 12 (DT.op 13 (DT.op 14 (DT.op 15 DT.nil))))) (DT.op 12 (DT.or (DT.op 10 (DT.op 13 (DT.op 14 (DT.op 15 DT.nil)))) (DT.op 13 (DT.or (DT.op 10 (DT.op 14 (DT.op 15 DT.nil))) (DT.op 14 (DT.op 10 (DT.op 15 DT.nil))))))))) (DT.or (DT.op 10 (DT.or (DT.op 9 (DT.op 12 (DT.op 13 (DT.op 14 (DT.op 15 DT.nil))))) (DT.op 12 (DT.or (DT.op 9 (DT.op 13 (DT.op 14 (DT.op 15 DT.nil)))) (DT.op 13 (DT.op 9 (DT.op 14 (DT.op 15 DT.nil)))))))) (DT.op 12 (DT.or (DT.op 9 (DT.or (DT.op 10 (DT.op 13 (DT.op 14 (DT.op 15 DT.nil)))) (DT.op 13 (DT.or (DT.op 10 (DT.op 14 (DT.op 15 DT.nil))) (DT.op 14 (DT.op 10 (DT.op 15 DT.nil))))))) (DT.or (DT.op 10 (DT.or (DT.op 9 (DT.op 13 (DT.op 14 (DT.op 15 DT.nil)))) (DT.op 13 (DT.op 9 (DT.op 14 (DT.op 15 DT.nil)))))) (DT.op 13 (DT.op 9 (DT.or (DT.op 10 (DT.op 14 (DT.op 15 DT.nil))) (DT.op 14 (DT.op 10 (DT.op 15 DT.nil)))))))))))) (DT.op 12 (DT.or (DT.op 9 (DT.or (DT.op 10 (DT.op 11 (DT.op 13 (DT.op 14 (DT.op 15 DT.nil))))) (DT.op 11 (DT.or (DT.op 10 (DT.op 13 (DT.op 14 (DT.op 15 DT.nil)))) (DT.op 13 (DT.or (DT.op 10 (DT.op 14 (DT.op 15 DT.nil))) (DT.op 14 (DT.op 10 (DT.op 15 DT.nil))))))))) (DT.or (DT.op 10 (DT.or (DT.op 9 (DT.op 11 (DT.op 13 (DT.op 14 (DT.op 15 DT.nil))))) (DT.op 11 (DT.or (DT.op 9 (DT.op 13 (DT.op 14 (DT.op 15 DT.nil)))) (DT.op 13 (DT.op 9 (DT.op 14 (DT.op 15 DT.nil)))))))) (DT.op 11 (DT.or (DT.op 9 (DT.or (DT.op 10 (DT.op 13 (DT.op 14 (DT.op 15 DT.nil)))) (DT.op 13 (DT.or (DT.op 10 (DT.op 14 (DT.op 15 DT.nil))) (DT.op 14 (DT.op 10 (DT.op 15 DT.nil))))))) (DT.or (DT.op 10 (DT.or (DT.op 9 (DT.op 13 (DT.op 14 (DT.op 15 DT.nil)))) (DT.op 13 (DT.op 9 (DT.op 14 (DT.op 15 DT.nil)))))) (DT.op 13 (DT.op 9 (DT.or (DT.op 10 (DT.op 14 (DT.op 15 DT.nil))) (DT.op 14 (DT.op 10 (DT.op 15 DT.nil)))))))))))))))))) (DT.or (DT.op 11 (DT.or (DT.op 6 (DT.op 7 (DT.op 8 (DT.or (DT.op 9 (DT.or (DT.op 10 (DT.op 12 (DT.op 13 (DT.op 14 (DT.op 15 DT.nil))))) (DT.op 12 (DT.or (DT.op 10 (DT.op 13 (DT.op 14 (DT.op 15 DT.nil)))) (DT.op 13 (DT.or (DT.op 10 (DT.op 14 (DT.op 15 DT.nil))) (DT.op 14 (DT.op 10 (DT.op 15 DT.nil))))))))) (DT.or (DT.op 10 (DT.or (DT.op 9 (DT.op 12 (DT.op 13 (DT.op 14 (DT.op 15 DT.nil))))) (DT.op 12 (DT.or (DT.op 9 (DT.op 13 (DT.op 14 (DT.op 15 DT.nil)))) (DT.op 13 (DT.op 9 (DT.op 14 (DT.op 15 DT.nil)))))))) (DT.op 12 (DT.or (DT.op 9 (DT.or (DT.op 10 (DT.op 13 (DT.op 14 (DT.op 15 DT.nil)))) (DT.op 13 (DT.or (DT.op 10 (DT.op 14 (DT.op 15 DT.nil))) (DT.op 14 (DT.op 10 (DT.op 15 DT.nil))))))) (DT.or (DT.op 10 (DT.or (DT.op 9 (DT.op 13 (DT.op 14 (DT.op 15 DT.nil)))) (DT.op 13 (DT.op 9 (DT.op 14 (DT.op 15 DT.nil)))))) (DT.op 13 (DT.op 9 (DT.or (DT.op 10 (DT.op 14 (DT.op 15 DT.nil))) (DT.op 14 (DT.op 10 (DT.op 15 DT.nil)))))))))))))) (DT.op 12 (DT.op 6 (DT.op 7 (DT.op 8 (DT.or (DT.op 9 (DT.or (DT.op 10 (DT.op 13 (DT.op 14 (DT.op 15 DT.nil)))) (DT.op 13 (DT.or (DT.op 10 (DT.op 14 (DT.op 15 DT.nil))) (DT.op 14 (DT.op 10 (DT.op 15 DT.nil))))))) (DT.or (DT.op 10 (DT.or (DT.op 9 (DT.op 13 (DT.op 14 (DT.op 15 DT.nil)))) (DT.op 13 (DT.op 9 (DT.op 14 (DT.op 15 DT.nil)))))) (DT.op 13 (DT.op 9 (DT.or (DT.op 10 (DT.op 14 (DT.op 15 DT.nil))) (DT.op 14 (DT.op 10 (DT.op 15 DT.nil)))))))))))))) (DT.op 12 (DT.or (DT.op 6 (DT.op 7 (DT.op 8 (DT.or (DT.op 9 (DT.or (DT.op 10 (DT.op 11 (DT.op 13 (DT.op 14 (DT.op 15 DT.nil))))) (DT.op 11 (DT.or (DT.op 10 (DT.op 13 (DT.op 14 (DT.op 15 DT.nil)))) (DT.op 13 (DT.or (DT.op 10 (DT.op 14 (DT.op 15 DT.nil))) (DT.op 14 (DT.op 10 (DT.op 15 DT.nil))))))))) (DT.or (DT.op 10 (DT.or (DT.op 9 (DT.op 11 (DT.op 13 (DT.op 14 (DT.op 15 DT.nil))))) (DT.op 11 (DT.or (DT.op 9 (DT.op 13 (DT.op 14 (DT.op 15 DT.nil)))) (DT.op 13 (DT.op 9 (DT.op 14 (DT.op 15 DT.nil)))))))) (DT.op 11 (DT.or (DT.op 9 (DT.or (DT.op 10 (DT.op 13 (DT.op 14 (DT.op 15 DT.nil)))) (DT.op 13 (DT.or (DT.op 10 (DT.op 14 (DT.op 15 DT.nil))) (DT.op 14 (DT.op 10 (DT.op 15 DT.nil))))))) (DT.or (DT.op 10 (DT.or (DT.op 9 (DT.op 13 (DT.op 14 (DT.op 15 DT.nil)))) (DT.op 13 (DT.op 9 (DT.op 14 (DT.op 15 DT.nil)))))) (DT.op 13 (DT.op 9 (DT.or (DT.op 10 (DT.op 14 (DT.op 15 DT.nil))) (DT.op 14 (DT.op 10 (DT.op 15 DT.nil)))))))))))))) (DT.op 11 (DT.op 6 (DT.op 7 (DT.op 8 (DT.or (DT.op 9 (DT.or (DT.op 10 (DT.op 13 (DT.op 14 (DT.op 15 DT.nil)))) (DT.op 13 (DT.or (DT.op 10 (DT.op 14 (DT.op 15 DT.nil))) (DT.op 14 (DT.op 10 (DT.op 15 DT.nil))))))) (DT.or (DT.op 10 (DT.or (DT.op 9 (DT.op 13 (DT.op 14 (DT.op 15 DT.nil)))) (DT.op 13 (DT.op 9 (DT.op 14 (DT.op 15 DT.nil)))))) (DT.op 13 (DT.op 9 (DT.or (DT.op 10 (DT.op 14 (DT.op 15 DT.nil))) (DT.op 14 (DT.op 10 (DT.op 15 DT.nil)))))))))))))))) (by kernel_rfl) (by kernel_rfl) (by kernel_rfl) ?_; intro K hK) | (refine awpF_drawM (id:=20) [0] [] (DT.or (DT.op 1 (DT.op 2 (DT.op 3 DT.nil))) (DT.op 2 (DT.op 1 (DT.op 3 DT.nil)))) (by kernel_rfl) (by kernel_rfl) (by kernel_rfl) ?_; intro K hK) | refine CallK.pd (h12) ?_ | refine CallK.pg (fun _=>h12) ?_ | refine CallK.pd (h13) ?_ | refine CallK.pg (fun _=>h13) ?_); simp only [push_cast,seval,d1,d2,d3]; refine wObW ?_) | (refine hK _ ?_; clear hK K) | (refine wCd ?_ ?_) | (with_reducible intro hb; exfalso; revert hb; simp [d1,d2,d3]; done) | (with_reducible intro hb; exfalso; replace hb:=wHb hb; omega; done) | (with_reducible intro hb; replace hb:=wHb hb) | (refine wEx ?_) | (refine wRp ?_; refine fin_of (by simp only [push_cast,seval,d1,d2,d3]; first | done | rfl) ob1 ?_) | (refine inblock_norm ?_)))
  refine wRg ?_
  refine awp_block ?_
  refine awp_loopP (α:=Nat) (st:=fun k=>⟨[(0,.d (.sl (f.map encNd))),(1,.d (.int .i64 wd)),(2,.d (.sl (T.map encR))),(3,.d (.sl (nums.map encI))),(4,.d (.sl (rows.map encI))),(11,.d (.int .i64 k))],[]⟩)
    (inv:=fun k=>k≤2) (μ:=fun k=>2 - k) (x0:=0) (r0:=[]) (Nat.zero_le _) ?_ ?_
  · exact wRen
  intro k hk
  refine awp_seq ?_
  refine awp_seq ?_
  refine wRg ?_
  refine wCd ?_ ?_
  · intro hk2
    have hk2':k<2:=by
      have:=of_decide_eq_true hk2
      omega
    refine awp_skip ?_
    refine awp_seq ?_
    refine awp_block ?_
    refine awp_seq ?_
    refine wRg ?_
    refine awp_mid (fun u=>∃ (F:List Nd) (wd':Int) (s:Fm) (U:List (List Int)),F.length≤1000∧U.length≤200∧(∀ r,r∈U→r.length≤1000000)∧(shE F wd'=0→s.wf∧F=s.flat)∧u=⟨[(0,.d (.sl (f.map encNd))),(1,.d (.int .i64 wd)),(2,.d (.sl (T.map encR))),(3,.d (.sl (nums.map encI))),(4,.d (.sl (rows.map encI))),(11,.d (.int .i64 k)),(12,.d (.sl (F.map encNd))),(13,.d (.int .i64 wd')),(14,.d (.sl (U.map encR)))],[]⟩) ?_ ?_
    · rcases show k=0∨k=1 by omega with rfl | rfl
      · refine awp_seq ?_
        refine awpF_region ?_; intro K hK; simp only [push_cast,seval,z01]; refine wKk hK ?_; clear hK K
        refine wCd ?_ ?_
        · intro h; cases h
        intro _
        refine awp_skip ?_
        refine mid_end [] _ ⟨f,wd,t,T,by omega,by omega,hrT,ht,rfl⟩ ?_
        push_cast
        exact wRen
      · refine awp_seq ?_
        refine awpF_region ?_; intro K hK; simp only [push_cast,seval,z11]; refine wKk hK ?_; clear hK K
        refine wCd ?_ ?_
        · intro _
          refine awpF_region ?_; intro K hK; simp only [push_cast,seval]
          refine wOb ?_
          refine CallK.pd (h26) ?_; refine wXo ?_
          refine CallK.pd (h27) ?_; refine wXo ?_
          refine hK _ ?_; clear hK K
          refine mid_end [] _ ⟨t2.flat,2,t2,T2,by omega,by omega,hTr,fun _=>⟨hwf,rfl⟩,rfl⟩ ?_
          push_cast
          exact wRen
        · intro h; cases h
    rintro _ ⟨F,wd',s,U,hF,hU,hUr,hs,rfl⟩
    have h39:=p39 F wd' s (by omega) hs
    have h14:=q14 F wd' s (by omega) hs
    by_cases he:chkE F wd' s=0
    rotate_left
    · have he1:(chkE F wd' s==0)=false:=by simpa using he
      have e1:bgW F wd' s=wt0:=by rw [bgW,if_neg he]
      have h15:=q15 wt0 (by decide) (by decide) (by simp [wt0]) (by decide)
      rw [e1] at h39 h14
      generalize chkE F wd' s=e at *
      simp only [wtD,wtV,wt0,List.map_cons,List.map_nil] at h39 h14 h15
      refine awp_seq ?_
      refine awpF_region ?_; intro K hK; simp only [push_cast,seval]
      refine wOb ?_
      refine CallK.pd (h39) ?_; refine wXo ?_
      refine hK _ ?_; clear hK K
      refine awp_seq ?_
      refine awpF_region ?_; intro K hK; simp only [push_cast,seval]
      refine wOb ?_
      refine CallK.pd (h14) ?_; refine wXo ?_
      refine hK _ ?_; clear hK K
      refine awp_seq ?_
      refine awp_seq ?_
      refine awpF_region ?_; intro K hK; simp only [push_cast,seval,bne_self_eq_false]
      refine wOb ?_
      refine CallK.pg (fun _=>h15) ?_; refine wXo ?_
      refine hK _ ?_; clear hK K
      refine wCd ?_ ?_
      · intro h; cases h
      intro _
      refine awp_skip ?_
      refine awp_seq ?_
      refine wRg ?_
      refine awp_block ?_
      refine awp_loopP (α:=Nat) (st:=fun j=>⟨[(0,.d (.sl (f.map encNd))),(1,.d (.int .i64 wd)),(2,.d (.sl (T.map encR))),(3,.d (.sl (nums.map encI))),(4,.d (.sl (rows.map encI))),(11,.d (.int .i64 k)),(14,.d (.sl (U.map encR))),(16,.d (.int .i64 e)),(19,.d (.int .i64 0))],[]⟩)
        (inv:=fun _=>True) (μ:=fun _=>0) (x0:=0) (r0:=[]) trivial ?_ ?_
      · exact wRen
      intro j _
      refine awp_seq ?_
      refine awp_seq ?_
      cases hd:decide ((0:Int)<(U.length:Int)) with
      | true =>
        refine awpF_region ?_; intro K hK; simp only [push_cast,seval,hd,he1]; refine wKk hK ?_; clear hK K
        refine wCd ?_ ?_
        · intro h; cases h
        intro _
        refine wEx ?_
        refine wRg ?_
        refine round_endG (k+1) [] ⟨by omega,by omega,?_⟩
        push_cast
        exact wRen
      | false =>
        refine awpF_region ?_; intro K hK; simp only [push_cast,seval,hd,he1]; refine wKk hK ?_; clear hK K
        refine wCd ?_ ?_
        · intro h; cases h
        intro _
        refine wEx ?_
        refine wRg ?_
        refine round_endG (k+1) [] ⟨by omega,by omega,?_⟩
        push_cast
        exact wRen
    have hsh:=chk_sh he
    obtain ⟨hwf1,rfl⟩:=hs hsh
    have hww:=sh_w hsh
    have e1:bgW s.flat wd' s=⟨s.flat,wd',0,[],[]⟩:=by rw [bgW,if_pos he]
    have h15:=q15 ⟨s.flat,wd',0,[],[]⟩ (by show s.flat.length≤_; omega) (Nat.zero_le _) (by simp) (Nat.zero_le _)
    rw [e1,he] at h39 h14
    simp only [wtD,wtV,List.map_cons,List.map_nil] at h39 h14 h15
    refine awp_seq ?_
    refine awpF_region ?_; intro K hK; simp only [push_cast,seval]
    refine wOb ?_
    refine CallK.pd (h39) ?_; refine wXo ?_
    refine hK _ ?_; clear hK K
    refine awp_seq ?_
    refine awpF_region ?_; intro K hK; simp only [push_cast,seval]
    refine wOb ?_
    refine CallK.pd (h14) ?_; refine wXo ?_
    refine hK _ ?_; clear hK K
    refine awp_seq ?_
    refine awp_seq ?_
    refine awpF_region ?_; intro K hK; simp only [push_cast,seval,bne_self_eq_false]
    refine wOb ?_
    refine CallK.pg (fun _=>h15) ?_; refine wXo ?_
    refine hK _ ?_; clear hK K
    refine wCd ?_ ?_
    · intro h; cases h
    intro _
    refine awp_skip ?_
    refine awp_seq ?_
    refine wRg ?_
    refine awp_block ?_
    refine awp_loopP (α:=Nat × List (List Int)) (st:=fun x=>⟨[(0,.d (.sl (f.map encNd))),(1,.d (.int .i64 wd)),(2,.d (.sl (T.map encR))),(3,.d (.sl (nums.map encI))),(4,.d (.sl (rows.map encI))),(11,.d (.int .i64 k)),(14,.d (.sl (U.map encR))),(15,.ptr 0 0 0),(16,.d (.int .i64 0)),(17,.ptr 1 0 0),(19,.d (.int .i64 x.1))],[.cells [.d (.sl ((wS s wd' x.2).nodes.map encNd)),.d (.int .i64 (wS s wd' x.2).width),.d (.int .i64 (wS s wd' x.2).fr),.d (.sl ((wS s wd' x.2).rows.map encR)),.d (.sl ((wS s wd' x.2).opn.map encI))],.cells [.d (.sl ((wS s wd' x.2).nodes.map encNd)),.d (.int .i64 (wS s wd' x.2).width),.d (.int .i64 (wS s wd' x.2).fr),.d (.sl ((wS s wd' x.2).rows.map encR)),.d (.sl ((wS s wd' x.2).opn.map encI))]]⟩)
      (inv:=fun x=>x.1≤U.length∧x.2.length≤x.1∧∀ r,r∈x.2→trE [r] wd'=0) (μ:=fun x=>U.length - x.1) (x0:=(0,[])) (r0:=[0,1]) ⟨Nat.zero_le _,Nat.zero_le _,fun r hr=>by cases hr⟩ ?_ ?_
    · simp only [wS_zero,List.map_nil]
      exact wRen
    rintro ⟨j,S⟩ ⟨hj,hSj,hSt⟩
    simp only at hj hSj hSt
    refine awp_seq ?_
    refine awp_seq ?_
    refine awpF_region ?_; intro K hK; simp only [push_cast,seval,beq_self_eq_true]; refine wKk hK ?_; clear hK K
    refine wCd ?_ ?_
    · intro h1
      have h1':decide ((j:Int)<(U.length:Int))=true:=by
        cases hd:decide ((j:Int)<(U.length:Int)) with
        | true=>rfl
        | false=>rw [hd] at h1; cases h1
      have h1'':=of_decide_eq_true h1'
      have hlt:j<U.length:=by omega
      obtain ⟨row,hx⟩ : ∃ row,U[j]? = some row:=⟨_,List.getElem?_eq_getElem hlt⟩
      have h16:=q16S s wd' S row he hwf1 hSt (by omega) (hUr row (List.mem_of_getElem? hx))
      refine awp_skip ?_
      simp only [wtD,wtV,List.map_cons,List.map_nil] at h16
      refine awp_seq ?_
      refine awp_block ?_
      refine awp_mid (fun u=>u=⟨[(0,.d (.sl (f.map encNd))),(1,.d (.int .i64 wd)),(2,.d (.sl (T.map encR))),(3,.d (.sl (nums.map encI))),(4,.d (.sl (rows.map encI))),(11,.d (.int .i64 k)),(14,.d (.sl (U.map encR))),(15,.ptr 0 0 0),(16,.d (.int .i64 0)),(17,.ptr 1 0 0),(19,.d (.int .i64 j)),(20,.ptr 2 0 0),(21,.ptr 3 0 0),(22,.d (.bool true))],[.cells [.d (.sl ((wS s wd' S).nodes.map encNd)),.d (.int .i64 (wS s wd' S).width),.d (.int .i64 (wS s wd' S).fr),.d (.sl ((wS s wd' S).rows.map encR)),.d (.sl ((wS s wd' S).opn.map encI))],.cells [.d (.sl ((wS s wd' S).nodes.map encNd)),.d (.int .i64 (wS s wd' S).width),.d (.int .i64 (wS s wd' S).fr),.d (.sl ((wS s wd' S).rows.map encR)),.d (.sl ((wS s wd' S).opn.map encI))],.cells [.d (.sl ((wN s wd' S row).nodes.map encNd)),.d (.int .i64 (wN s wd' S row).width),.d (.int .i64 (wN s wd' S row).fr),.d (.sl ((wN s wd' S row).rows.map encR)),.d (.sl ((wN s wd' S row).opn.map encI))],.cells [.d (.sl ((wN s wd' S row).nodes.map encNd)),.d (.int .i64 (wN s wd' S row).width),.d (.int .i64 (wN s wd' S row).fr),.d (.sl ((wN s wd' S row).rows.map encR)),.d (.sl ((wN s wd' S row).opn.map encI))]]⟩) ?_ ?_
      · refine awpF_drawTE [0,1,2,3,4,5] (DT.or (DT.op 6 (DT.op 7 (DT.op 8 (DT.op 9 (DT.op 10 (DT.or (DT.op 11 (DT.op 12 (DT.op 13 (DT.op 14 (DT.op 15 DT.nil))))) (DT.op 12 (DT.op 11 (DT.op 13 (DT.op 14 (DT.op 15 DT.nil))))))))))) (DT.or (DT.op 11 (DT.or (DT.op 6 (DT.op 7 (DT.op 8 (DT.op 9 (DT.op 10 (DT.op 12 (DT.op 13 (DT.op 14 (DT.op 15 DT.nil))))))))) (DT.op 12 (DT.op 6 (DT.op 7 (DT.op 8 (DT.op 9 (DT.op 10 (DT.op 13 (DT.op 14 (DT.op 15 DT.nil))))))))))) (DT.op 12 (DT.or (DT.op 6 (DT.op 7 (DT.op 8 (DT.op 9 (DT.op 10 (DT.op 11 (DT.op 13 (DT.op 14 (DT.op 15 DT.nil))))))))) (DT.op 11 (DT.op 6 (DT.op 7 (DT.op 8 (DT.op 9 (DT.op 10 (DT.op 13 (DT.op 14 (DT.op 15 DT.nil))))))))))))) (by kernel_rfl) (by kernel_rfl) (by kernel_rfl) ?_; intro K hK; simp only [push_cast,seval,hx,encR,Int.toNat_natCast]
        repeat' (first
          | (with_reducible refine And.intro ?_ ?_)
          | (refine CallK.pd h16 ?_; simp only [push_cast,seval])
          | exact ob1
          | fail)
        · refine hK _ ?_; refine mid_end [0,1,2,3] _ rfl ?_; exact wRen
        · refine hK _ ?_; refine mid_end [0,1,3,2] _ rfl ?_; exact wRen
        · refine hK _ ?_; refine mid_end [0,1,2,3] _ rfl ?_; exact wRen
        · refine hK _ ?_; refine mid_end [0,1,2,3] _ rfl ?_; exact wRen
        · refine hK _ ?_; refine mid_end [0,1,3,2] _ rfl ?_; exact wRen
        · refine hK _ ?_; refine mid_end [0,1,3,2] _ rfl ?_; exact wRen
      rintro _ rfl
      refine awp_seq ?_
      refine awp_seq ?_
      refine wRg ?_
      refine wCd ?_ ?_
      · intro h; cases h
      intro _
      refine awp_skip ?_
      refine awp_seq ?_
      refine wRg ?_
      by_cases htr:trE [row] wd'=0
      · have eN:wN s wd' S row=wS s wd' (S++[row]):=by rw [wN,if_pos htr]
        have eW:(wS s wd' (S++[row])).width=wd':=rfl
        have dw:decide (wd' > 0)=true:=decide_eq_true (by omega)
        simp only [eN,eW,dw]
        refine wCd ?_ ?_
        · intro _
          refine awpF_drawTE [0] (DT.or (DT.op 1 (DT.op 2 (DT.op 3 DT.nil))) (DT.op 2 (DT.op 1 (DT.op 3 DT.nil)))) (by kernel_rfl) (by kernel_rfl) (by kernel_rfl) ?_; intro K hK; simp only [push_cast,seval]
          repeat' (first
            | (with_reducible refine And.intro ?_ ?_)
            | exact ob1
            | fail)
          all_goals (refine hK _ ?_)
          all_goals (
            refine inblock_norm ?_
            refine wRg ?_
            refine round_endG (j+1,S++[row]) [0,1] ⟨by simp only; omega,⟨by simp only; omega,by rw [List.length_append,List.length_singleton]; simp only; omega,fun r hr=>by
              rcases List.mem_append.1 hr with h | h
              · exact hSt r h
              · rw [List.mem_singleton.1 h]; exact htr⟩,?_⟩
            push_cast
            simp only [eW]
            exact wRen)
        · intro h; cases h
      · have eN:wN s wd' S row=wt0:=by rw [wN,if_neg htr]
        have eW:wt0.width=0:=rfl
        have dw:decide ((0:Int) > 0)=false:=rfl
        simp only [eN,eW,dw]
        refine wCd ?_ ?_
        · intro h; cases h
        intro _
        refine awp_skip ?_
        refine inblock_norm ?_
        refine wRg ?_
        refine round_endG (j+1,S) [0,1] ⟨by simp only; omega,⟨by simp only; omega,by simp only; omega,hSt⟩,?_⟩
        push_cast
        exact wRen
    · intro h1
      refine wEx ?_
      refine wRg ?_
      refine round_endG (k+1) [] ⟨by omega,by omega,?_⟩
      push_cast
      exact wRen
  · intro h
    refine wEx ?_
    (repeat' (first | refine awp_seq ?_ | refine awp_skip ?_ | refine awp_block ?_ | ((first | (refine awpF_region ?_; intro K hK) | (refine awpF_drawM (id:=16) [0,1,2,3,4,5] [] (DT.or (DT.op 6 (DT.op 7 (DT.op 8 (DT.or (DT.op 9 (DT.or (DT.op 10 (DT.or (DT.op 11 (DT.op 12 (DT.op 13 (DT.op 14 (DT.op 15 DT.nil))))) (DT.op 12 (DT.op 11 (DT.op 13 (DT.op 14 (DT.op 15 DT.nil))))))) (DT.or (DT.op 11 (DT.or (DT.op 10 (DT.op 12 (DT.op 13 (DT.op 14 (DT.op 15 DT.nil))))) (DT.op 12 (DT.or (DT.op 10 (DT.op 13 (DT.op 14 (DT.op 15 DT.nil)))) (DT.op 13 (DT.or (DT.op 10 (DT.op 14 (DT.op 15 DT.nil))) (DT.op 14 (DT.op 10 (DT.op 15 DT.nil))))))))) (DT.op 12 (DT.or (DT.op 10 (DT.op 11 (DT.op 13 (DT.op 14 (DT.op 15 DT.nil))))) (DT.op 11 (DT.or (DT.op 10 (DT.op 13 (DT.op 14 (DT.op 15 DT.nil)))) (DT.op 13 (DT.or (DT.op 10 (DT.op 14 (DT.op 15 DT.nil))) (DT.op 14 (DT.op 10 (DT.op 15 DT.nil)))))))))))) (DT.or (DT.op 10 (DT.or (DT.op 9 (DT.or (DT.op 11 (DT.op 12 (DT.op 13 (DT.op 14 (DT.op 15 DT.nil))))) (DT.op 12 (DT.op 11 (DT.op 13 (DT.op 14 (DT.op 15 DT.nil))))))) (DT.or (DT.op 11 (DT.or (DT.op 9 (DT.op 12 (DT.op 13 (DT.op 14 (DT.op 15 DT.nil))))) (DT.op 12 (DT.or (DT.op 9 (DT.op 13 (DT.op 14 (DT.op 15 DT.nil)))) (DT.op 13 (DT.op 9 (DT.op 14 (DT.op 15 DT.nil)))))))) (DT.op 12 (DT.or (DT.op 9 (DT.op 11 (DT.op 13 (DT.op 14 (DT.op 15 DT.nil))))) (DT.op 11 (DT.or (DT.op 9 (DT.op 13 (DT.op 14 (DT.op 15 DT.nil)))) (DT.op 13 (DT.op 9 (DT.op 14 (DT.op 15 DT.nil))))))))))) (DT.or (DT.op 11 (DT.or (DT.op 9 (DT.or (DT.op 10 (DT.op 12 (DT.op 13 (DT.op 14 (DT.op 15 DT.nil))))) (DT.op 12 (DT.or (DT.op 10 (DT.op 13 (DT.op 14 (DT.op 15 DT.nil)))) (DT.op 13 (DT.or (DT.op 10 (DT.op 14 (DT.op 15 DT.nil))) (DT.op 14 (DT.op 10 (DT.op 15 DT.nil))))))))) (DT.or (DT.op 10 (DT.or (DT.op 9 (DT.op 12 (DT.op 13 (DT.op 14 (DT.op 15 DT.nil))))) (DT.op 12 (DT.or (DT.op 9 (DT.op 13 (DT.op 14 (DT.op 15 DT.nil)))) (DT.op 13 (DT.op 9 (DT.op 14 (DT.op 15 DT.nil)))))))) (DT.op 12 (DT.or (DT.op 9 (DT.or (DT.op 10 (DT.op 13 (DT.op 14 (DT.op 15 DT.nil)))) (DT.op 13 (DT.or (DT.op 10 (DT.op 14 (DT.op 15 DT.nil))) (DT.op 14 (DT.op 10 (DT.op 15 DT.nil))))))) (DT.or (DT.op 10 (DT.or (DT.op 9 (DT.op 13 (DT.op 14 (DT.op 15 DT.nil)))) (DT.op 13 (DT.op 9 (DT.op 14 (DT.op 15 DT.nil)))))) (DT.op 13 (DT.op 9 (DT.or (DT.op 10 (DT.op 14 (DT.op 15 DT.nil))) (DT.op 14 (DT.op 10 (DT.op 15 DT.nil)))))))))))) (DT.op 12 (DT.or (DT.op 9 (DT.or (DT.op 10 (DT.op 11 (DT.op 13 (DT.op 14 (DT.op 15 DT.nil))))) (DT.op 11 (DT.or (DT.op 10 (DT.op 13 (DT.op 14 (DT.op 15 DT.nil)))) (DT.op 13 (DT.or (DT.op 10 (DT.op 14 (DT.op 15 DT.nil))) (DT.op 14 (DT.op 10 (DT.op 15 DT.nil))))))))) (DT.or (DT.op 10 (DT.or (DT.op 9 (DT.op 11 (DT.op 13 (DT.op 14 (DT.op 15 DT.nil))))) (DT.op 11 (DT.or (DT.op 9 (DT.op 13 (DT.op 14 (DT.op 15 DT.nil)))) (DT.op 13 (DT.op 9 (DT.op 14 (DT.op 15 DT.nil)))))))) (DT.op 11 (DT.or (DT.op 9 (DT.or (DT.op 10 (DT.op 13 (DT.op 14 (DT.op 15 DT.nil)))) (DT.op 13 (DT.or (DT.op 10 (DT.op 14 (DT.op 15 DT.nil))) (DT.op 14 (DT.op 10 (DT.op 15 DT.nil))))))) (DT.or (DT.op 10 (DT.or (DT.op 9 (DT.op 13 (DT.op 14 (DT.op 15 DT.nil)))) (DT.op 13 (DT.op 9 (DT.op 14 (DT.op 15 DT.nil)))))) (DT.op 13 (DT.op 9 (DT.or (DT.op 10 (DT.op 14 (DT.op 15 DT.nil))) (DT.op 14 (DT.op 10 (DT.op 15 DT.nil)))))))))))))))))) (DT.or (DT.op 11 (DT.or (DT.op 6 (DT.op 7 (DT.op 8 (DT.or (DT.op 9 (DT.or (DT.op 10 (DT.op 12 (DT.op 13 (DT.op 14 (DT.op 15 DT.nil))))) (DT.op 12 (DT.or (DT.op 10 (DT.op 13 (DT.op 14 (DT.op 15 DT.nil)))) (DT.op 13 (DT.or (DT.op 10 (DT.op 14 (DT.op 15 DT.nil))) (DT.op 14 (DT.op 10 (DT.op 15 DT.nil))))))))) (DT.or (DT.op 10 (DT.or (DT.op 9 (DT.op 12 (DT.op 13 (DT.op 14 (DT.op 15 DT.nil))))) (DT.op 12 (DT.or (DT.op 9 (DT.op 13 (DT.op 14 (DT.op 15 DT.nil)))) (DT.op 13 (DT.op 9 (DT.op 14 (DT.op 15 DT.nil)))))))) (DT.op 12 (DT.or (DT.op 9 (DT.or (DT.op 10 (DT.op 13 (DT.op 14 (DT.op 15 DT.nil)))) (DT.op 13 (DT.or (DT.op 10 (DT.op 14 (DT.op 15 DT.nil))) (DT.op 14 (DT.op 10 (DT.op 15 DT.nil))))))) (DT.or (DT.op 10 (DT.or (DT.op 9 (DT.op 13 (DT.op 14 (DT.op 15 DT.nil)))) (DT.op 13 (DT.op 9 (DT.op 14 (DT.op 15 DT.nil)))))) (DT.op 13 (DT.op 9 (DT.or (DT.op 10 (DT.op 14 (DT.op 15 DT.nil))) (DT.op 14 (DT.op 10 (DT.op 15 DT.nil)))))))))))))) (DT.op 12 (DT.op 6 (DT.op 7 (DT.op 8 (DT.or (DT.op 9 (DT.or (DT.op 10 (DT.op 13 (DT.op 14 (DT.op 15 DT.nil)))) (DT.op 13 (DT.or (DT.op 10 (DT.op 14 (DT.op 15 DT.nil))) (DT.op 14 (DT.op 10 (DT.op 15 DT.nil))))))) (DT.or (DT.op 10 (DT.or (DT.op 9 (DT.op 13 (DT.op 14 (DT.op 15 DT.nil)))) (DT.op 13 (DT.op 9 (DT.op 14 (DT.op 15 DT.nil)))))) (DT.op 13 (DT.op 9 (DT.or (DT.op 10 (DT.op 14 (DT.op 15 DT.nil))) (DT.op 14 (DT.op 10 (DT.op 15 DT.nil)))))))))))))) (DT.op 12 (DT.or (DT.op 6 (DT.op 7 (DT.op 8 (DT.or (DT.op 9 (DT.or (DT.op 10 (DT.op 11 (DT.op 13 (DT.op 14 (DT.op 15 DT.nil))))) (DT.op 11 (DT.or (DT.op 10 (DT.op 13 (DT.op 14 (DT.op 15 DT.nil)))) (DT.op 13 (DT.or (DT.op 10 (DT.op 14 (DT.op 15 DT.nil))) (DT.op 14 (DT.op 10 (DT.op 15 DT.nil))))))))) (DT.or (DT.op 10 (DT.or (DT.op 9 (DT.op 11 (DT.op 13 (DT.op 14 (DT.op 15 DT.nil))))) (DT.op 11 (DT.or (DT.op 9 (DT.op 13 (DT.op 14 (DT.op 15 DT.nil)))) (DT.op 13 (DT.op 9 (DT.op 14 (DT.op 15 DT.nil)))))))) (DT.op 11 (DT.or (DT.op 9 (DT.or (DT.op 10 (DT.op 13 (DT.op 14 (DT.op 15 DT.nil)))) (DT.op 13 (DT.or (DT.op 10 (DT.op 14 (DT.op 15 DT.nil))) (DT.op 14 (DT.op 10 (DT.op 15 DT.nil))))))) (DT.or (DT.op 10 (DT.or (DT.op 9 (DT.op 13 (DT.op 14 (DT.op 15 DT.nil)))) (DT.op 13 (DT.op 9 (DT.op 14 (DT.op 15 DT.nil)))))) (DT.op 13 (DT.op 9 (DT.or (DT.op 10 (DT.op 14 (DT.op 15 DT.nil))) (DT.op 14 (DT.op 10 (DT.op 15 DT.nil)))))))))))))) (DT.op 11 (DT.op 6 (DT.op 7 (DT.op 8 (DT.or (DT.op 9 (DT.or (DT.op 10 (DT.op 13 (DT.op 14 (DT.op 15 DT.nil)))) (DT.op 13 (DT.or (DT.op 10 (DT.op 14 (DT.op 15 DT.nil))) (DT.op 14 (DT.op 10 (DT.op 15 DT.nil))))))) (DT.or (DT.op 10 (DT.or (DT.op 9 (DT.op 13 (DT.op 14 (DT.op 15 DT.nil)))) (DT.op 13 (DT.op 9 (DT.op 14 (DT.op 15 DT.nil)))))) (DT.op 13 (DT.op 9 (DT.or (DT.op 10 (DT.op 14 (DT.op 15 DT.nil))) (DT.op 14 (DT.op 10 (DT.op 15 DT.nil)))))))))))))))) (by kernel_rfl) (by kernel_rfl) (by kernel_rfl) ?_; intro K hK) | (refine awpF_drawM (id:=20) [0] [] (DT.or (DT.op 1 (DT.op 2 (DT.op 3 DT.nil))) (DT.op 2 (DT.op 1 (DT.op 3 DT.nil)))) (by kernel_rfl) (by kernel_rfl) (by kernel_rfl) ?_; intro K hK) | refine CallK.pd (h13) ?_ | refine CallK.pg (fun _=>h13) ?_); refine wXo ?_) | (refine hK _ ?_; clear hK K) | (refine wCd ?_ ?_) | (with_reducible intro hb; exfalso; revert hb; simp []; done) | (with_reducible intro hb; exfalso; replace hb:=wHb hb; omega; done) | (with_reducible intro hb; replace hb:=wHb hb) | (refine wEx ?_) | (refine wRet ?_) | (refine inblock_norm ?_)))
    rfl
end Go.Aw
