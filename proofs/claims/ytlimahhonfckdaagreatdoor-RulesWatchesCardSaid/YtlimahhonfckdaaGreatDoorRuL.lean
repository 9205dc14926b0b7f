/-
  Texts of the library,one behind the other. Over any program; no condition.
-/
import Derived.Test.YtlimahhonfckdaaGreatDoorRuB
import Derived.Test.YtlimahhonfckdaaGreatDoorPkT
namespace Go.Aw
set_option linter.unusedSimpArgs false
set_option linter.unusedVariables false
open Go.RowKit Go.Proofs
set_option maxRecDepth 100000

theorem encI_row {l:List Int} {row:List D} (h:row∈l.map encI) : row.length=1∧row.all D.leaf=true:=by
  obtain ⟨x,_,rfl⟩:=List.mem_map.1 h; exact ⟨rfl,rfl⟩
theorem encNd_row {l:List Nd} {row:List D} (h:row∈l.map encNd) : row.length=6∧row.all D.leaf=true:=by
  obtain ⟨x,_,rfl⟩:=List.mem_map.1 h; exact ⟨rfl,rfl⟩
theorem p72c (l:List Int) (hn:l.length≤1000000) : PC Tryz.prog 82 [.sl (l.map encI)] fun x H=>x=.ref 0 0 l.length∧H=[.data 1 (l.map encI)]:=by
  refine pc_of (fn:=Tryz.f82) [.tmp 2] (by kernel_rfl) rfl (by kernel_rfl) (Nat.le_of_ble_eq_true rfl) (by kernel_rfl) rfl ?_
  refine awp_seq ?_
  refine wRg ?_
  refine awp_seq ?_
  refine awp_seq ?_
  refine awpF_region ?_; intro K hK; simp only [push_cast,seval]
  refine ⟨?_,fun h0 => ?_⟩
  · refine hK _ ?_; clear hK K
    refine wCd ?_ ?_
    · intro h1; replace h1:=wHb h1
      cases h1
    intro h1; replace h1:=wHb h1
    refine awp_skip ?_
    refine awp_seq ?_
    refine awpF_region ?_; intro K hK; simp only [push_cast,seval]
    refine ⟨fun h=>h,by omega,by omega,fun r h=>encI_row h,?_⟩
    refine hK _ ?_; clear hK K
    refine wRet ?_
    exact ⟨rfl,rfl⟩
  · refine hK _ ?_; clear hK K
    obtain rfl:l=[]:=List.eq_nil_of_length_eq_zero h0
    refine wCd ?_ ?_
    · intro h1; replace h1:=wHb h1
      refine awp_seq ?_
      refine wRg ?_
      refine awp_virt 2 1 rfl ?_
      refine wRet ?_
      exact ⟨rfl,rfl⟩
    intro h1; replace h1:=wHb h1
    cases h1
theorem p72 (l:List Int) (hn:l.length≤1000000) : PD Tryz.prog 82 [.sl (l.map encI)] (.d (.sl (l.map encI))) :=
  AC.deepV (R:=fun x H=>x=.ref 0 0 l.length∧H=[.data 1 (l.map encI)]) (p72c l hn) fun x H ⟨h1,h2⟩=>⟨_,by rw [h1,h2]; exact DeepV.row rfl (by simp),rfl,rfl⟩
theorem p69c (l:List Nd) (hn:l.length≤1000000) : PC Tryz.prog 49 [.sl (l.map encNd)] fun x H=>x=.ref 0 0 l.length∧H=[.data 6 (l.map encNd)]:=by
  refine pc_of (fn:=Tryz.f49) [.tmp 2] (by kernel_rfl) rfl (by kernel_rfl) (Nat.le_of_ble_eq_true rfl) (by kernel_rfl) rfl ?_
  refine awp_seq ?_
  refine wRg ?_
  refine awp_seq ?_
  refine awp_seq ?_
  refine awpF_region ?_; intro K hK; simp only [push_cast,seval]
  refine ⟨?_,fun h0 => ?_⟩
  · refine hK _ ?_; clear hK K
    refine wCd ?_ ?_
    · intro h1; replace h1:=wHb h1
      cases h1
    intro h1; replace h1:=wHb h1
    refine awp_skip ?_
    refine awp_seq ?_
    refine awpF_region ?_; intro K hK; simp only [push_cast,seval]
    refine ⟨fun h=>h,by omega,by omega,fun r h=>encNd_row h,?_⟩
    refine hK _ ?_; clear hK K
    refine wRet ?_
    exact ⟨rfl,rfl⟩
  · refine hK _ ?_; clear hK K
    obtain rfl:l=[]:=List.eq_nil_of_length_eq_zero h0
    refine wCd ?_ ?_
    · intro h1; replace h1:=wHb h1
      refine awp_seq ?_
      refine wRg ?_
      refine awp_virt 2 6 rfl ?_
      refine wRet ?_
      exact ⟨rfl,rfl⟩
    intro h1; replace h1:=wHb h1
    cases h1
theorem p69 (l:List Nd) (hn:l.length≤1000000) : PD Tryz.prog 49 [.sl (l.map encNd)] (.d (.sl (l.map encNd))) :=
  AC.deepV (R:=fun x H=>x=.ref 0 0 l.length∧H=[.data 6 (l.map encNd)]) (p69c l hn) fun x H ⟨h1,h2⟩=>⟨_,by rw [h1,h2]; exact DeepV.row rfl (by simp),rfl,rfl⟩
theorem scr_id {n:Nat} {x:V} (h:V.bel n x=true) : scr n x=x:=by
  unfold scr
  rw [if_neg]
  intro hh
  have:=bel_has n x h n hh
  omega
theorem scrL_id {n:Nat} : ∀ {xs:List V},V.belL n xs=true→scrL n xs=xs
  | [],_=>rfl
  | x::xs,h=>by
    simp only [V.belL,Bool.and_eq_true] at h
    rw [scrL,scr_id h.1,scrL_id h.2]
theorem blkScr_id {n:Nat} {b:Blk} (h:b.bel n=true) : b.scr n=b:=by
  cases b with
  | cells xs=>simp only [Blk.scr]; rw [scrL_id (by simpa [Blk.bel] using h)]
  | vrs k rs =>
    simp only [Blk.scr]
    congr 1
    have h':∀ r,r∈rs→V.belL n r=true:=by simpa [Blk.bel] using h
    exact (List.map_congr_left fun r hr=>scrL_id (h' r hr)).trans (List.map_id _)
  | mp es =>
    simp only [Blk.scr]
    congr 1
    have h':∀ a b,(a,b)∈es→V.bel n a=true∧V.bel n b=true:=by simpa [Blk.bel] using h
    exact (List.map_congr_left fun r hr=>by rw [scr_id (h' r.1 r.2 hr).1,scr_id (h' r.1 r.2 hr).2]; rfl).trans (List.map_id _)
  | it x seen m=>simp only [Blk.scr]; rw [scr_id (by simpa [Blk.bel] using h)]
  | _=>rfl
theorem heapScr_id {n:Nat} : ∀ {H:List Blk},belHeap n H=true→heapScr n H=H
  | [],_=>rfl
  | b::H,h=>by
    simp only [belHeap,Bool.and_eq_true] at h
    rw [heapScr,blkScr_id h.1,heapScr_id h.2]
theorem heapScr_app {n k:Nat} {rows:List (List D)} {H:List Blk} (h:belHeap n H=true) : heapScr n (H++[.data k rows])=H++[.data k rows]:=by
  refine heapScr_id ?_
  induction H with
  | nil=>rfl
  | cons b H ih =>
    simp only [belHeap,Bool.and_eq_true] at h
    simp only [List.cons_append,belHeap,Bool.and_eq_true]
    exact ⟨h.1,ih h.2⟩
theorem p72A (l:List Int) (hn:l.length≤1000000) (H:List Blk) (k n:Nat) (rows:List (List D)) (kp:List Nat) (hk:H[k]? = some (.data 1 rows)) (hr:rows.take n=l.map encI) (hl:l.length=n) (hb:belHeap H.length H=true) (hkp:∀ i,i∈kp→i<H.length) :
    AC Tryz.prog 82 [.ref k 0 n] H kp fun x H'=>x=.ref H.length 0 n∧H'=H++[.data 1 (l.map encI)]:=by
  refine ac_ofF (fn:=Tryz.f82) [.tmp 2] (by kernel_rfl) rfl (by kernel_rfl) (Nat.le_of_ble_eq_true rfl) (by kernel_rfl) rfl ?_
  refine awp_seq ?_
  refine wRg ?_
  refine awp_seq ?_
  refine awp_seq ?_
  refine awpF_region ?_; intro K hK; simp only [push_cast,seval,hk]
  have hkl:k<H.length:=(List.getElem?_eq_some_iff.1 hk).1
  have e1:(H++[Blk.data 1 []])[k]? = some (.data 1 rows):=by rw [List.getElem?_append_left hkl,hk]
  have e2:(k==H.length)=false:=beq_eq_false_iff_ne.2 (by omega)
  have e3:∀ (b c:Blk),(H++[b]).set H.length c=H++[c]:=fun b c=>by rw [List.set_append_right _ _ (Nat.le_refl _),Nat.sub_self]; rfl
  have hq:∀ r,r∈rows.take n→r.length=1∧r.all D.leaf=true:=fun r h=>by rw [hr] at h; exact encI_row h
  refine ⟨?_,fun h0 => ?_⟩
  · refine hK _ ?_; clear hK K
    refine wCd ?_ ?_
    · intro h1; replace h1:=wHb h1
      cases h1
    intro h1; replace h1:=wHb h1
    refine awp_skip ?_
    refine awp_seq ?_
    refine awpF_region ?_; intro K hK; simp only [push_cast,seval,hk,e1,e2,e3,List.getElem?_concat_length,heapScr_app hb,hr]
    refine ⟨fun h=>by have:=hkp _ h; omega,by omega,by omega,?_⟩
    refine hK _ ?_; clear hK K
    refine wRet ?_
    rw [hl]
    exact ⟨rfl,rfl⟩
  · refine hK _ ?_; clear hK K
    subst h0
    obtain rfl:l=[]:=List.eq_nil_of_length_eq_zero hl
    refine wCd ?_ ?_
    · intro h1; replace h1:=wHb h1
      refine awp_seq ?_
      refine wRg ?_
      refine awp_virt 2 1 rfl ?_
      refine wRet ?_
      exact ⟨rfl,rfl⟩
    intro h1; replace h1:=wHb h1
    cases h1
end Go.Aw
