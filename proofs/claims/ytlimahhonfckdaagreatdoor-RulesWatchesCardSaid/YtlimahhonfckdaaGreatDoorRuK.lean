/-
  Texts of the library,one behind the other. Over any program; no condition.
-/
import Derived.Test.YtlimahhonfckdaaGreatDoorPkT
import Derived.Test.YtlimahhonfckdaaGreatDoorRuI
namespace Go.Aw
set_option linter.unusedSimpArgs false
set_option linter.unusedVariables false
open Go.RowKit Go.Proofs
set_option maxRecDepth 100000

def PartC (l:List Int) (w most:Int) (d:Nat) : Prop:=∀ (k n:Nat) (rows:List (List D)),k≤l.length→rows.length=n→n+2 ^ (d+1)≤10000→(∀ row,row∈rows→row.length=6∧row.all D.leaf=true) →
  AC Tryz.prog 47 [.ptr 0 0 0,.ref 1 0 n,.d (.int .i64 w),.d (.int .i64 d),.d (.int .i64 most)] (nH l k++[.data 6 rows]) [0] fun x H' =>
    x=.ref 1 0 (n+(partT l w most d k).1.flat.length)∧H'=nH l (partT l w most d k).2++[.data 6 (rows++(partT l w most d k).1.flat.map encNd)]
theorem partT_le (l:List Int) (w most:Int) : ∀ (d k:Nat),k≤l.length→(partT l w most d k).2≤l.length
  | 0,k,h=>nx_le _ _
  | d+1,k,h=>by
    have ih:=partT_le l w most d
    rw [partT]
    repeat' split
    all_goals first | exact nx_le _ _ | exact ih _ (nx_le _ _) | exact ih _ (ih _ (nx_le _ _))
set_option maxHeartbeats 4000000 in
theorem part0 (l:List Int) (w most:Int) (hl:l.length≤1000000000000000) (hx:∀ x,x∈l → -9223372036854775808≤x∧x≤9223372036854775807) (hw:1≤w∧w≤12) (hm:0≤most∧most≤20) : PartC l w most 0:=by
  intro k n rows hk hn hb hq6
  have hq:∀ row,row∈rows→row.length=6:=fun row h=>(hq6 row h).1
  have htk:List.take n rows=rows:=List.take_of_length_le (by omega)
  have h83:=fun (k:Nat) (n:Int) (hk:k≤l.length) (hn:1≤n∧n≤1000000)=>p83 l k n hk hl hn hx
  have hnx:∀ k,min l.length (k+1)=nx l k:=fun _=>rfl
  have hle:∀ k,nx l k≤l.length:=nx_le l
  have hpw:=two_pos 0
  simp only [hnx] at h83
  rw [nH,List.cons_append,List.nil_append]
  refine AC.cut (R:=fun x H'=>x=.ref 1 0 (n+(partT l w most 0 k).1.flat.length)∧H'.take 2=nH l (partT l w most 0 k).2++[.data 6 (rows++(partT l w most 0 k).1.flat.map encNd)]) ?_ ?_
  rotate_left
  · rintro x H' ⟨rfl,h2⟩
    exact ⟨H'.take 2,H'.drop 2,(List.take_append_drop 2 H').symm,by rw [h2]; rfl,by rw [h2]; rfl,by rw [h2]; simp [nH],rfl,h2⟩
  have w1:=nextV_bd l (nx l k) hw.1
  have w2:=nextV_bd l (nx l (nx l k)) (n:=w+1) (by omega)
  have w3:=nextV_bd l (nx l (nx l (nx l k))) (n:=9) (by omega)
  have hop:True:=trivial
  have e:partT l w most 0 k=lessT l w (nx l k):=rfl
  rw [e]
  clear e
  try dsimp only
  have h11:(1:Int)≤11:=by omega
  refine ac_ofF (fn:=Tryz.f47) [.tmp 10] (by kernel_rfl) rfl (by kernel_rfl) (Nat.le_of_ble_eq_true rfl) (by kernel_rfl) rfl ?_
  refine awp_seq ?_
  refine wRg ?_
  refine awp_seq ?_
  refine awp_regionF ?_; intro K hK
  refine from_X 1 rfl rfl ?_; refine wXo ?_
  refine call_Q (H1:=nH l (k)) (T:=[.data 6 rows]) 5 (by simp) rfl rfl rfl rfl (by simp only [push_cast,seval]) (h83 (k) _ (by first | exact hk | exact hle _) (by omega)) ?_; rintro _ _ ⟨rfl,rfl⟩; refine ⟨rfl,?_⟩; simp only [push_cast,seval,nH,List.cons_append,List.nil_append,Int.sub_add_cancel]; (try simp (disch:=omega) only [wrapI])
  refine from_end ?_; simp only [push_cast,seval]; refine wKk hK ?_; clear hK K
  (repeat' (first | refine awp_seq ?_ | refine awp_skip ?_ | refine awp_block ?_ | ((first | ((fail_if_success refine awpF_region (id:=10) ?_); refine awpF_region ?_; intro K hK)); refine wXo ?_) | (refine hK _ ?_; clear hK K) | (refine wCd ?_ ?_) | (with_reducible intro hb; exfalso; revert hb; simp []; done) | (with_reducible intro hb; exfalso; replace hb:=wHb hb; omega; done) | (with_reducible intro hb; replace hb:=wHb hb) | (refine wEx ?_) | (refine wRet ?_) | (refine inblock_norm ?_)))
  refine awp_regionF ?_; intro K hK
  refine from_X 2 rfl rfl ?_; refine wXo ?_
  refine call_Q (H1:=nH l (nx l (k))) (T:=[.data 6 rows,.cells ([V.d (D.int .i64 (2)),V.d (D.int .i64 (0)),V.d (D.int .i64 (0)),V.d (D.int .i64 (0)),V.d (D.int .i64 (0)),V.d (D.int .i64 (0))] : List V)]) 5 (by simp) rfl rfl rfl rfl (by simp only [push_cast,seval]) (h83 (nx l (k)) _ (by first | exact hk | exact hle _) (by omega)) ?_; rintro _ _ ⟨rfl,rfl⟩; refine ⟨rfl,?_⟩; simp only [push_cast,seval,nH,List.cons_append,List.nil_append,Int.sub_add_cancel]; (try simp (disch:=omega) only [wrapI])
  refine from_X 6 rfl rfl ?_; refine wXo ?_
  refine call_Q (H1:=nH l (nx l (nx l (k)))) (T:=[.data 6 rows,.cells ([V.d (D.int .i64 (2)),V.d (D.int .i64 (0)),V.d (D.int .i64 (0)),V.d (D.int .i64 (0)),V.d (D.int .i64 (0)),V.d (D.int .i64 (0))] : List V)]) 5 (by simp) rfl rfl rfl rfl (by simp only [push_cast,seval]) (h83 (nx l (nx l (k))) _ (by first | exact hk | exact hle _) (by omega)) ?_; rintro _ _ ⟨rfl,rfl⟩; refine ⟨rfl,?_⟩; simp only [push_cast,seval,nH,List.cons_append,List.nil_append,Int.sub_add_cancel]; (try simp (disch:=omega) only [wrapI])
  refine from_X 9 rfl rfl ?_; refine wXo ?_
  refine call_Q (H1:=nH l (nx l (nx l (nx l (k))))) (T:=[.data 6 rows,.cells ([V.d (D.int .i64 (2)),V.d (D.int .i64 (0)),V.d (D.int .i64 (0)),V.d (D.int .i64 (0)),V.d (D.int .i64 (0)),V.d (D.int .i64 (0))] : List V)]) 5 (by simp) rfl rfl rfl rfl (by simp only [push_cast,seval]) (h83 (nx l (nx l (nx l (k)))) _ (by first | exact hk | exact hle _) (by omega)) ?_; rintro _ _ ⟨rfl,rfl⟩; refine ⟨rfl,?_⟩; simp only [push_cast,seval,nH,List.cons_append,List.nil_append,Int.sub_add_cancel]; (try simp (disch:=omega) only [wrapI])
  refine from_end ?_; simp only [push_cast,seval]; refine wKk hK ?_; clear hK K
  refine awp_seq ?_
  refine awpF_region ?_; intro K hK; simp only [push_cast,seval,htk]; refine wKk hK ?_; clear hK K
  refine wRet ?_
  refine ⟨?_,?_⟩
  · first
      | rfl
      | (show V.ref 1 0 _=V.ref 1 0 _
         refine congrArg (V.ref 1 0) ?_
         (try simp only [Fm.flat,List.length_cons,List.length_nil,List.length_append])
         (try omega))
  · simp only [nH,lessT,Fm.flat,List.cons_append,List.nil_append,List.map_cons,List.map_nil,List.map_append,List.append_assoc,encNd]
    rfl
set_option maxHeartbeats 40000000 in
theorem partS (l:List Int) (w most:Int) (hl:l.length≤1000000000000000) (hx:∀ x,x∈l → -9223372036854775808≤x∧x≤9223372036854775807) (hw:1≤w∧w≤12) (hm:0≤most∧most≤20) (d:Nat) (hd10:d≤10) (ih:PartC l w most d) : PartC l w most (d+1):=by
  intro k n rows hk hn hb hq6
  have hq:∀ row,row∈rows→row.length=6:=fun row h=>(hq6 row h).1
  have htk:List.take n rows=rows:=List.take_of_length_le (by omega)
  have h83:=fun (k:Nat) (n:Int) (hk:k≤l.length) (hn:1≤n∧n≤1000000)=>p83 l k n hk hl hn hx
  have hnx:∀ k,min l.length (k+1)=nx l k:=fun _=>rfl
  have hle:∀ k,nx l k≤l.length:=nx_le l
  have hpw:=two_pos d
  simp only [hnx] at h83
  rw [nH,List.cons_append,List.nil_append]
  refine AC.cut (R:=fun x H'=>x=.ref 1 0 (n+(partT l w most (d+1) k).1.flat.length)∧H'.take 2=nH l (partT l w most (d+1) k).2++[.data 6 (rows++(partT l w most (d+1) k).1.flat.map encNd)]) ?_ ?_
  rotate_left
  · rintro x H' ⟨rfl,h2⟩
    exact ⟨H'.take 2,H'.drop 2,(List.take_append_drop 2 H').symm,by rw [h2]; rfl,by rw [h2]; rfl,by rw [h2]; simp [nH],rfl,h2⟩
  have w1:=nextV_bd l (nx l k) hw.1
  have w2:=nextV_bd l (nx l (nx l k)) (n:=w+1) (by omega)
  have w3:=nextV_bd l (nx l (nx l (nx l k))) (n:=9) (by omega)
  rw [Nat.pow_succ] at hb
  have hdw:IntKind.i64.wrap ((d:Int)+1 - 1)=d:=by
    rw [wrapI _ (by omega)]
    omega
  have hd0:((d:Int)+1==0)=false:=beq_eq_false_iff_ne.2 (by omega)
  have hlen:∀ k,(partT l w most d k).1.flat.length+1≤2 ^ (d+1):=fun k=>(part_W l hw hm d k).len
  have hkt:=partT_le l w most d
  have happ:∀ row:List D,row.length=6→row.all D.leaf=true→∀ r,r∈rows++[row]→r.length=6∧r.all D.leaf=true:=fun row h1 h2 r hr=>by
    rcases List.mem_append.1 hr with hr | hr
    · exact hq6 r hr
    · obtain rfl:=List.mem_singleton.1 hr
      exact ⟨h1,h2⟩
  have happ2:∀ row:List D,row.length=6→row.all D.leaf=true→∀ (g:List Nd) (r:List D),r∈rows++[row]++g.map encNd→r.length=6∧r.all D.leaf=true:=fun row h1 h2 g r hr=>by
    rcases List.mem_append.1 hr with hr | hr
    · exact happ row h1 h2 r hr
    · obtain ⟨p,_,rfl⟩:=List.mem_map.1 hr
      exact ⟨rfl,rfl⟩
  have hbd:=nextV_bd l k (n:=11) (by omega)
  have hb1:=nextV_bd l (nx l k) (n:=most+1) (by omega)
  have hb2:=nextV_bd l (nx l (nx l k)) (n:=nextV l (nx l k) (most+1)+1) (by omega)
  push_cast
  rcases show nextV l k 11=0∨nextV l k 11=1∨nextV l k 11=2∨nextV l k 11=3∨nextV l k 11=4∨nextV l k 11=5∨nextV l k 11=6∨nextV l k 11=7∨nextV l k 11=8∨nextV l k 11=9∨nextV l k 11=10 by omega with hop | hop | hop | hop | hop | hop | hop | hop | hop | hop | hop
  · have e:partT l w most (d+1) k=(.z ⟨1,0,0,0,0,0⟩,nx l k):=by
      rw [partT,hop]
      simp
    rw [e]
    clear e
    try dsimp only
    refine ac_ofF (fn:=Tryz.f47) [.tmp 10] (by kernel_rfl) rfl (by kernel_rfl) (Nat.le_of_ble_eq_true rfl) (by kernel_rfl) rfl ?_
    refine awp_seq ?_
    refine wRg ?_
    refine awp_seq ?_
    refine awp_regionF ?_; intro K hK
    refine from_X 1 rfl rfl ?_; refine wXo ?_
    refine call_Q (H1:=nH l (k)) (T:=[.data 6 rows]) 5 (by simp) rfl rfl rfl rfl (by simp only [push_cast,seval]) (h83 (k) _ (by first | exact hk | exact hle _) (by omega)) ?_; rintro _ _ ⟨rfl,rfl⟩; refine ⟨rfl,?_⟩; simp only [push_cast,seval,nH,List.cons_append,List.nil_append,Int.sub_add_cancel]; (try simp (disch:=omega) only [wrapI])
    refine from_end ?_; simp only [push_cast,seval,hop]; refine wKk hK ?_; clear hK K
    (repeat' (first | refine awp_seq ?_ | refine awp_skip ?_ | refine awp_block ?_ | ((first | (refine awpF_region ?_; intro K hK)); simp only [push_cast,seval,hd0,htk]; refine wObW ?_) | (refine hK _ ?_; clear hK K) | (refine wCd ?_ ?_) | (with_reducible intro hb; exfalso; revert hb; simp [hd0,htk]; done) | (with_reducible intro hb; exfalso; replace hb:=wHb hb; omega; done) | (with_reducible intro hb; replace hb:=wHb hb) | (refine wEx ?_) | (refine wRp ?_; refine fin_of (by simp only [push_cast,seval,hd0,htk]; first | done | rfl) ob1 ?_) | (refine inblock_norm ?_)))
    refine ⟨?_,?_⟩
    · first
        | rfl
        | (show V.ref 1 0 _=V.ref 1 0 _
           refine congrArg (V.ref 1 0) ?_
           (try simp only [Fm.flat,List.length_cons,List.length_nil,List.length_append])
           (try omega))
    · simp only [nH,lessT,Fm.flat,List.cons_append,List.nil_append,List.map_cons,List.map_nil,List.map_append,List.append_assoc,encNd]
      rfl
  · have e:partT l w most (d+1) k=(.z ⟨1,0,0,0,0,0⟩,nx l k):=by
      rw [partT,hop]
      simp
    rw [e]
    clear e
    try dsimp only
    refine ac_ofF (fn:=Tryz.f47) [.tmp 10] (by kernel_rfl) rfl (by kernel_rfl) (Nat.le_of_ble_eq_true rfl) (by kernel_rfl) rfl ?_
    refine awp_seq ?_
    refine wRg ?_
    refine awp_seq ?_
    refine awp_regionF ?_; intro K hK
    refine from_X 1 rfl rfl ?_; refine wXo ?_
    refine call_Q (H1:=nH l (k)) (T:=[.data 6 rows]) 5 (by simp) rfl rfl rfl rfl (by simp only [push_cast,seval]) (h83 (k) _ (by first | exact hk | exact hle _) (by omega)) ?_; rintro _ _ ⟨rfl,rfl⟩; refine ⟨rfl,?_⟩; simp only [push_cast,seval,nH,List.cons_append,List.nil_append,Int.sub_add_cancel]; (try simp (disch:=omega) only [wrapI])
    refine from_end ?_; simp only [push_cast,seval,hop]; refine wKk hK ?_; clear hK K
    (repeat' (first | refine awp_seq ?_ | refine awp_skip ?_ | refine awp_block ?_ | ((first | (refine awpF_region ?_; intro K hK)); simp only [push_cast,seval,hd0,htk]; refine wObW ?_) | (refine hK _ ?_; clear hK K) | (refine wCd ?_ ?_) | (with_reducible intro hb; exfalso; revert hb; simp [hd0,htk]; done) | (with_reducible intro hb; exfalso; replace hb:=wHb hb; omega; done) | (with_reducible intro hb; replace hb:=wHb hb) | (refine wEx ?_) | (refine wRp ?_; refine fin_of (by simp only [push_cast,seval,hd0,htk]; first | done | rfl) ob1 ?_) | (refine inblock_norm ?_)))
    refine ⟨?_,?_⟩
    · first
        | rfl
        | (show V.ref 1 0 _=V.ref 1 0 _
           refine congrArg (V.ref 1 0) ?_
           (try simp only [Fm.flat,List.length_cons,List.length_nil,List.length_append])
           (try omega))
    · simp only [nH,lessT,Fm.flat,List.cons_append,List.nil_append,List.map_cons,List.map_nil,List.map_append,List.append_assoc,encNd]
      rfl
  · have e:partT l w most (d+1) k=lessT l w (nx l k):=by
      rw [partT,hop]
      simp
    rw [e]
    clear e
    try dsimp only
    refine ac_ofF (fn:=Tryz.f47) [.tmp 10] (by kernel_rfl) rfl (by kernel_rfl) (Nat.le_of_ble_eq_true rfl) (by kernel_rfl) rfl ?_
    refine awp_seq ?_
    refine wRg ?_
    refine awp_seq ?_
    refine awp_regionF ?_; intro K hK
    refine from_X 1 rfl rfl ?_; refine wXo ?_
    refine call_Q (H1:=nH l (k)) (T:=[.data 6 rows]) 5 (by simp) rfl rfl rfl rfl (by simp only [push_cast,seval]) (h83 (k) _ (by first | exact hk | exact hle _) (by omega)) ?_; rintro _ _ ⟨rfl,rfl⟩; refine ⟨rfl,?_⟩; simp only [push_cast,seval,nH,List.cons_append,List.nil_append,Int.sub_add_cancel]; (try simp (disch:=omega) only [wrapI])
    refine from_end ?_; simp only [push_cast,seval,hop]; refine wKk hK ?_; clear hK K
    (repeat' (first | refine awp_seq ?_ | refine awp_skip ?_ | refine awp_block ?_ | ((first | ((fail_if_success refine awpF_region (id:=10) ?_); refine awpF_region ?_; intro K hK)); simp only [push_cast,seval,hd0]; refine wObW ?_) | (refine hK _ ?_; clear hK K) | (refine wCd ?_ ?_) | (with_reducible intro hb; exfalso; revert hb; simp [hd0]; done) | (with_reducible intro hb; exfalso; replace hb:=wHb hb; omega; done) | (with_reducible intro hb; replace hb:=wHb hb) | (refine wEx ?_) | (refine wRp ?_; refine fin_of (by simp only [push_cast,seval,hd0]; first | done | rfl) ob1 ?_) | (refine inblock_norm ?_)))
    refine awp_regionF ?_; intro K hK
    refine from_X 2 rfl rfl ?_; refine wXo ?_
    refine call_Q (H1:=nH l (nx l (k))) (T:=[.data 6 rows,.cells ([V.d (D.int .i64 (2)),V.d (D.int .i64 (0)),V.d (D.int .i64 (0)),V.d (D.int .i64 (0)),V.d (D.int .i64 (0)),V.d (D.int .i64 (0))] : List V)]) 5 (by simp) rfl rfl rfl rfl (by simp only [push_cast,seval]) (h83 (nx l (k)) _ (by first | exact hk | exact hle _) (by omega)) ?_; rintro _ _ ⟨rfl,rfl⟩; refine ⟨rfl,?_⟩; simp only [push_cast,seval,nH,List.cons_append,List.nil_append,Int.sub_add_cancel]; (try simp (disch:=omega) only [wrapI])
    refine from_X 6 rfl rfl ?_; refine wXo ?_
    refine call_Q (H1:=nH l (nx l (nx l (k)))) (T:=[.data 6 rows,.cells ([V.d (D.int .i64 (2)),V.d (D.int .i64 (0)),V.d (D.int .i64 (0)),V.d (D.int .i64 (0)),V.d (D.int .i64 (0)),V.d (D.int .i64 (0))] : List V)]) 5 (by simp) rfl rfl rfl rfl (by simp only [push_cast,seval]) (h83 (nx l (nx l (k))) _ (by first | exact hk | exact hle _) (by omega)) ?_; rintro _ _ ⟨rfl,rfl⟩; refine ⟨rfl,?_⟩; simp only [push_cast,seval,nH,List.cons_append,List.nil_append,Int.sub_add_cancel]; (try simp (disch:=omega) only [wrapI])
    refine from_X 9 rfl rfl ?_; refine wXo ?_
    refine call_Q (H1:=nH l (nx l (nx l (nx l (k))))) (T:=[.data 6 rows,.cells ([V.d (D.int .i64 (2)),V.d (D.int .i64 (0)),V.d (D.int .i64 (0)),V.d (D.int .i64 (0)),V.d (D.int .i64 (0)),V.d (D.int .i64 (0))] : List V)]) 5 (by simp) rfl rfl rfl rfl (by simp only [push_cast,seval]) (h83 (nx l (nx l (nx l (k)))) _ (by first | exact hk | exact hle _) (by omega)) ?_; rintro _ _ ⟨rfl,rfl⟩; refine ⟨rfl,?_⟩; simp only [push_cast,seval,nH,List.cons_append,List.nil_append,Int.sub_add_cancel]; (try simp (disch:=omega) only [wrapI])
    refine from_end ?_; simp only [push_cast,seval]; refine wKk hK ?_; clear hK K
    refine awp_seq ?_
    refine awpF_region ?_; intro K hK; simp only [push_cast,seval,htk]; refine wKk hK ?_; clear hK K
    refine wRet ?_
    refine ⟨?_,?_⟩
    · first
        | rfl
        | (show V.ref 1 0 _=V.ref 1 0 _
           refine congrArg (V.ref 1 0) ?_
           (try simp only [Fm.flat,List.length_cons,List.length_nil,List.length_append])
           (try omega))
    · simp only [nH,lessT,Fm.flat,List.cons_append,List.nil_append,List.map_cons,List.map_nil,List.map_append,List.append_assoc,encNd]
      rfl
  · have e:partT l w most (d+1) k=(.u ⟨3,0,0,0,0,0⟩ (partT l w most d (nx l k)).1,(partT l w most d (nx l k)).2):=by
      rw [partT,hop]
      simp
    rw [e]
    clear e
    try dsimp only
    refine ac_ofF (fn:=Tryz.f47) [.tmp 10] (by kernel_rfl) rfl (by kernel_rfl) (Nat.le_of_ble_eq_true rfl) (by kernel_rfl) rfl ?_
    refine awp_seq ?_
    refine wRg ?_
    refine awp_seq ?_
    refine awp_regionF ?_; intro K hK
    refine from_X 1 rfl rfl ?_; refine wXo ?_
    refine call_Q (H1:=nH l (k)) (T:=[.data 6 rows]) 5 (by simp) rfl rfl rfl rfl (by simp only [push_cast,seval]) (h83 (k) _ (by first | exact hk | exact hle _) (by omega)) ?_; rintro _ _ ⟨rfl,rfl⟩; refine ⟨rfl,?_⟩; simp only [push_cast,seval,nH,List.cons_append,List.nil_append,Int.sub_add_cancel]; (try simp (disch:=omega) only [wrapI])
    refine from_end ?_; simp only [push_cast,seval,hop]; refine wKk hK ?_; clear hK K
    (repeat' (first | refine awp_seq ?_ | refine awp_skip ?_ | refine awp_block ?_ | ((first | ((fail_if_success refine awpF_region (id:=13) ?_); refine awpF_region ?_; intro K hK)); simp only [push_cast,seval,hd0]; refine wObW ?_) | (refine hK _ ?_; clear hK K) | (refine wCd ?_ ?_) | (with_reducible intro hb; exfalso; revert hb; simp [hd0]; done) | (with_reducible intro hb; exfalso; replace hb:=wHb hb; omega; done) | (with_reducible intro hb; replace hb:=wHb hb) | (refine wEx ?_) | (refine wRp ?_; refine fin_of (by simp only [push_cast,seval,hd0]; first | done | rfl) ob1 ?_) | (refine inblock_norm ?_)))
    refine awp_regionF ?_; intro K hK
    refine from_X 9 rfl rfl ?_; simp only [push_cast,seval,htk,hdw]; refine wObW ?_
    refine call_Q (H1:=nH l (nx l k)++[Blk.data 6 (rows++[([D.int .i64 (3),D.int .i64 (0),D.int .i64 (0),D.int .i64 (0),D.int .i64 (0),D.int .i64 (0)] : List D)])]) (T:=[.cells ([V.d (D.int .i64 (3)),V.d (D.int .i64 (0)),V.d (D.int .i64 (0)),V.d (D.int .i64 (0)),V.d (D.int .i64 (0)),V.d (D.int .i64 (0))] : List V),.data 6 [([D.int .i64 (3),D.int .i64 (0),D.int .i64 (0),D.int .i64 (0),D.int .i64 (0),D.int .i64 (0)] : List D)]]) 1 (by simp) rfl rfl rfl rfl (by simp only [push_cast,seval]) (ih (nx l k) _ (rows++[([D.int .i64 (3),D.int .i64 (0),D.int .i64 (0),D.int .i64 (0),D.int .i64 (0),D.int .i64 (0)] : List D)]) (hle _) (by simp only [List.length_append,List.length_cons,List.length_nil,hn]; try omega) (by omega) (happ _ rfl rfl)) ?_; rintro _ _ ⟨rfl,rfl⟩; refine ⟨rfl,?_⟩; simp only [push_cast,seval,nH,List.cons_append,List.nil_append,Int.sub_add_cancel]
    refine from_end ?_; simp only [push_cast,seval]; refine wKk hK ?_; clear hK K
    refine wRet ?_
    refine ⟨?_,?_⟩
    · first
        | rfl
        | (show V.ref 1 0 _=V.ref 1 0 _
           refine congrArg (V.ref 1 0) ?_
           (try simp only [Fm.flat,List.length_cons,List.length_nil,List.length_append])
           (try omega))
    · simp only [nH,lessT,Fm.flat,List.cons_append,List.nil_append,List.map_cons,List.map_nil,List.map_append,List.append_assoc,encNd]
      rfl
  · have e:partT l w most (d+1) k=(.b ⟨4,0,0,0,0,0⟩ (partT l w most d (nx l k)).1 (partT l w most d (partT l w most d (nx l k)).2).1,(partT l w most d (partT l w most d (nx l k)).2).2):=by
      rw [partT,hop]
      simp
    rw [e]
    clear e
    try dsimp only
    refine ac_ofF (fn:=Tryz.f47) [.tmp 10] (by kernel_rfl) rfl (by kernel_rfl) (Nat.le_of_ble_eq_true rfl) (by kernel_rfl) rfl ?_
    refine awp_seq ?_
    refine wRg ?_
    refine awp_seq ?_
    refine awp_regionF ?_; intro K hK
    refine from_X 1 rfl rfl ?_; refine wXo ?_
    refine call_Q (H1:=nH l (k)) (T:=[.data 6 rows]) 5 (by simp) rfl rfl rfl rfl (by simp only [push_cast,seval]) (h83 (k) _ (by first | exact hk | exact hle _) (by omega)) ?_; rintro _ _ ⟨rfl,rfl⟩; refine ⟨rfl,?_⟩; simp only [push_cast,seval,nH,List.cons_append,List.nil_append,Int.sub_add_cancel]; (try simp (disch:=omega) only [wrapI])
    refine from_end ?_; simp only [push_cast,seval,hop]; refine wKk hK ?_; clear hK K
    (repeat' (first | refine awp_seq ?_ | refine awp_skip ?_ | refine awp_block ?_ | ((first | ((fail_if_success refine awpF_region (id:=16) ?_); refine awpF_region ?_; intro K hK)); simp only [push_cast,seval,hd0]; refine wObW ?_) | (refine hK _ ?_; clear hK K) | (refine wCd ?_ ?_) | (with_reducible intro hb; exfalso; revert hb; simp [hd0]; done) | (with_reducible intro hb; exfalso; replace hb:=wHb hb; omega; done) | (with_reducible intro hb; replace hb:=wHb hb) | (refine wEx ?_) | (refine wRp ?_; refine fin_of (by simp only [push_cast,seval,hd0]; first | done | rfl) ob1 ?_) | (refine inblock_norm ?_)))
    refine awp_regionF ?_; intro K hK
    refine from_X 10 rfl rfl ?_; simp only [push_cast,seval,htk,hdw]; refine wObW ?_
    refine call_Q (H1:=nH l (nx l k)++[Blk.data 6 (rows++[([D.int .i64 (4),D.int .i64 (0),D.int .i64 (0),D.int .i64 (0),D.int .i64 (0),D.int .i64 (0)] : List D)])]) (T:=[.cells ([V.d (D.int .i64 (4)),V.d (D.int .i64 (0)),V.d (D.int .i64 (0)),V.d (D.int .i64 (0)),V.d (D.int .i64 (0)),V.d (D.int .i64 (0))] : List V),.data 6 [([D.int .i64 (4),D.int .i64 (0),D.int .i64 (0),D.int .i64 (0),D.int .i64 (0),D.int .i64 (0)] : List D)]]) 1 (by simp) rfl rfl rfl rfl (by simp only [push_cast,seval]) (ih (nx l k) _ (rows++[([D.int .i64 (4),D.int .i64 (0),D.int .i64 (0),D.int .i64 (0),D.int .i64 (0),D.int .i64 (0)] : List D)]) (hle _) (by simp only [List.length_append,List.length_cons,List.length_nil,hn]; try omega) (by omega) (happ _ rfl rfl)) ?_; rintro _ _ ⟨rfl,rfl⟩; refine ⟨rfl,?_⟩; simp only [push_cast,seval,nH,List.cons_append,List.nil_append,Int.sub_add_cancel]
    have hl1:=hlen (nx l k)
    have hk2:=hkt (nx l k) (hle _)
    refine from_X 15 rfl rfl ?_; simp only [push_cast,seval,hdw]; refine wObW ?_
    refine call_Q (H1:=nH l ((partT l w most d (nx l k)).2)++[Blk.data 6 (rows++[([D.int .i64 (4),D.int .i64 (0),D.int .i64 (0),D.int .i64 (0),D.int .i64 (0),D.int .i64 (0)] : List D)]++(partT l w most d (nx l k)).1.flat.map encNd)]) (T:=[.cells ([V.d (D.int .i64 (4)),V.d (D.int .i64 (0)),V.d (D.int .i64 (0)),V.d (D.int .i64 (0)),V.d (D.int .i64 (0)),V.d (D.int .i64 (0))] : List V),.data 6 [([D.int .i64 (4),D.int .i64 (0),D.int .i64 (0),D.int .i64 (0),D.int .i64 (0),D.int .i64 (0)] : List D)]]) 1 (by simp) rfl rfl rfl rfl (by simp only [push_cast,seval]) (ih ((partT l w most d (nx l k)).2) _ (rows++[([D.int .i64 (4),D.int .i64 (0),D.int .i64 (0),D.int .i64 (0),D.int .i64 (0),D.int .i64 (0)] : List D)]++(partT l w most d (nx l k)).1.flat.map encNd) hk2 (by simp only [List.length_append,List.length_cons,List.length_nil,List.length_map,hn]; try omega) (by omega) (happ2 _ rfl rfl _)) ?_; rintro _ _ ⟨rfl,rfl⟩; refine ⟨rfl,?_⟩; simp only [push_cast,seval,nH,List.cons_append,List.nil_append,Int.sub_add_cancel]
    refine from_end ?_; simp only [push_cast,seval]; refine wKk hK ?_; clear hK K
    refine wRet ?_
    refine ⟨?_,?_⟩
    · first
        | rfl
        | (show V.ref 1 0 _=V.ref 1 0 _
           refine congrArg (V.ref 1 0) ?_
           (try simp only [Fm.flat,List.length_cons,List.length_nil,List.length_append])
           (try omega))
    · simp only [nH,lessT,Fm.flat,List.cons_append,List.nil_append,List.map_cons,List.map_nil,List.map_append,List.append_assoc,encNd]
      rfl
  · have e:partT l w most (d+1) k=(.b ⟨5,0,0,0,0,0⟩ (partT l w most d (nx l k)).1 (partT l w most d (partT l w most d (nx l k)).2).1,(partT l w most d (partT l w most d (nx l k)).2).2):=by
      rw [partT,hop]
      simp
    rw [e]
    clear e
    try dsimp only
    refine ac_ofF (fn:=Tryz.f47) [.tmp 10] (by kernel_rfl) rfl (by kernel_rfl) (Nat.le_of_ble_eq_true rfl) (by kernel_rfl) rfl ?_
    refine awp_seq ?_
    refine wRg ?_
    refine awp_seq ?_
    refine awp_regionF ?_; intro K hK
    refine from_X 1 rfl rfl ?_; refine wXo ?_
    refine call_Q (H1:=nH l (k)) (T:=[.data 6 rows]) 5 (by simp) rfl rfl rfl rfl (by simp only [push_cast,seval]) (h83 (k) _ (by first | exact hk | exact hle _) (by omega)) ?_; rintro _ _ ⟨rfl,rfl⟩; refine ⟨rfl,?_⟩; simp only [push_cast,seval,nH,List.cons_append,List.nil_append,Int.sub_add_cancel]; (try simp (disch:=omega) only [wrapI])
    refine from_end ?_; simp only [push_cast,seval,hop]; refine wKk hK ?_; clear hK K
    (repeat' (first | refine awp_seq ?_ | refine awp_skip ?_ | refine awp_block ?_ | ((first | ((fail_if_success refine awpF_region (id:=16) ?_); refine awpF_region ?_; intro K hK)); simp only [push_cast,seval,hd0]; refine wObW ?_) | (refine hK _ ?_; clear hK K) | (refine wCd ?_ ?_) | (with_reducible intro hb; exfalso; revert hb; simp [hd0]; done) | (with_reducible intro hb; exfalso; replace hb:=wHb hb; omega; done) | (with_reducible intro hb; replace hb:=wHb hb) | (refine wEx ?_) | (refine wRp ?_; refine fin_of (by simp only [push_cast,seval,hd0]; first | done | rfl) ob1 ?_) | (refine inblock_norm ?_)))
    refine awp_regionF ?_; intro K hK
    refine from_X 10 rfl rfl ?_; simp only [push_cast,seval,htk,hdw]; refine wObW ?_
    refine call_Q (H1:=nH l (nx l k)++[Blk.data 6 (rows++[([D.int .i64 (5),D.int .i64 (0),D.int .i64 (0),D.int .i64 (0),D.int .i64 (0),D.int .i64 (0)] : List D)])]) (T:=[.cells ([V.d (D.int .i64 (5)),V.d (D.int .i64 (0)),V.d (D.int .i64 (0)),V.d (D.int .i64 (0)),V.d (D.int .i64 (0)),V.d (D.int .i64 (0))] : List V),.data 6 [([D.int .i64 (5),D.int .i64 (0),D.int .i64 (0),D.int .i64 (0),D.int .i64 (0),D.int .i64 (0)] : List D)]]) 1 (by simp) rfl rfl rfl rfl (by simp only [push_cast,seval]) (ih (nx l k) _ (rows++[([D.int .i64 (5),D.int .i64 (0),D.int .i64 (0),D.int .i64 (0),D.int .i64 (0),D.int .i64 (0)] : List D)]) (hle _) (by simp only [List.length_append,List.length_cons,List.length_nil,hn]; try omega) (by omega) (happ _ rfl rfl)) ?_; rintro _ _ ⟨rfl,rfl⟩; refine ⟨rfl,?_⟩; simp only [push_cast,seval,nH,List.cons_append,List.nil_append,Int.sub_add_cancel]
    have hl1:=hlen (nx l k)
    have hk2:=hkt (nx l k) (hle _)
    refine from_X 15 rfl rfl ?_; simp only [push_cast,seval,hdw]; refine wObW ?_
    refine call_Q (H1:=nH l ((partT l w most d (nx l k)).2)++[Blk.data 6 (rows++[([D.int .i64 (5),D.int .i64 (0),D.int .i64 (0),D.int .i64 (0),D.int .i64 (0),D.int .i64 (0)] : List D)]++(partT l w most d (nx l k)).1.flat.map encNd)]) (T:=[.cells ([V.d (D.int .i64 (5)),V.d (D.int .i64 (0)),V.d (D.int .i64 (0)),V.d (D.int .i64 (0)),V.d (D.int .i64 (0)),V.d (D.int .i64 (0))] : List V),.data 6 [([D.int .i64 (5),D.int .i64 (0),D.int .i64 (0),D.int .i64 (0),D.int .i64 (0),D.int .i64 (0)] : List D)]]) 1 (by simp) rfl rfl rfl rfl (by simp only [push_cast,seval]) (ih ((partT l w most d (nx l k)).2) _ (rows++[([D.int .i64 (5),D.int .i64 (0),D.int .i64 (0),D.int .i64 (0),D.int .i64 (0),D.int .i64 (0)] : List D)]++(partT l w most d (nx l k)).1.flat.map encNd) hk2 (by simp only [List.length_append,List.length_cons,List.length_nil,List.length_map,hn]; try omega) (by omega) (happ2 _ rfl rfl _)) ?_; rintro _ _ ⟨rfl,rfl⟩; refine ⟨rfl,?_⟩; simp only [push_cast,seval,nH,List.cons_append,List.nil_append,Int.sub_add_cancel]
    refine from_end ?_; simp only [push_cast,seval]; refine wKk hK ?_; clear hK K
    refine wRet ?_
    refine ⟨?_,?_⟩
    · first
        | rfl
        | (show V.ref 1 0 _=V.ref 1 0 _
           refine congrArg (V.ref 1 0) ?_
           (try simp only [Fm.flat,List.length_cons,List.length_nil,List.length_append])
           (try omega))
    · simp only [nH,lessT,Fm.flat,List.cons_append,List.nil_append,List.map_cons,List.map_nil,List.map_append,List.append_assoc,encNd]
      rfl
  · have e:partT l w most (d+1) k=(.u ⟨6,0,0,0,nextV l (nx l (nx l k)) (nextV l (nx l k) (most+1)+1),nextV l (nx l k) (most+1)⟩ (partT l w most d (nx l (nx l (nx l k)))).1,(partT l w most d (nx l (nx l (nx l k)))).2):=by
      rw [partT,hop]
      simp
    rw [e]
    clear e
    try dsimp only
    refine ac_ofF (fn:=Tryz.f47) [.tmp 10] (by kernel_rfl) rfl (by kernel_rfl) (Nat.le_of_ble_eq_true rfl) (by kernel_rfl) rfl ?_
    refine awp_seq ?_
    refine wRg ?_
    refine awp_seq ?_
    refine awp_regionF ?_; intro K hK
    refine from_X 1 rfl rfl ?_; refine wXo ?_
    refine call_Q (H1:=nH l (k)) (T:=[.data 6 rows]) 5 (by simp) rfl rfl rfl rfl (by simp only [push_cast,seval]) (h83 (k) _ (by first | exact hk | exact hle _) (by omega)) ?_; rintro _ _ ⟨rfl,rfl⟩; refine ⟨rfl,?_⟩; simp only [push_cast,seval,nH,List.cons_append,List.nil_append,Int.sub_add_cancel]; (try simp (disch:=omega) only [wrapI])
    refine from_end ?_; simp only [push_cast,seval,hop]; refine wKk hK ?_; clear hK K
    (repeat' (first | refine awp_seq ?_ | refine awp_skip ?_ | refine awp_block ?_ | ((first | ((fail_if_success refine awpF_region (id:=17) ?_); refine awpF_region ?_; intro K hK)); simp only [push_cast,seval,hd0]; refine wObW ?_) | (refine hK _ ?_; clear hK K) | (refine wCd ?_ ?_) | (with_reducible intro hb; exfalso; revert hb; simp [hd0]; done) | (with_reducible intro hb; exfalso; replace hb:=wHb hb; omega; done) | (with_reducible intro hb; replace hb:=wHb hb) | (refine wEx ?_) | (refine wRp ?_; refine fin_of (by simp only [push_cast,seval,hd0]; first | done | rfl) ob1 ?_) | (refine inblock_norm ?_)))
    refine awp_regionF ?_; intro K hK
    refine from_X 3 rfl rfl ?_; refine wXo ?_
    refine call_Q (H1:=nH l (nx l k)) (T:=[.data 6 rows,.cells ([V.d (D.int .i64 (6)),V.d (D.int .i64 (0)),V.d (D.int .i64 (0)),V.d (D.int .i64 (0)),V.d (D.int .i64 (0)),V.d (D.int .i64 (0))] : List V)]) 5 (by simp) rfl rfl rfl rfl (by simp only [push_cast,seval]) (h83 (nx l k) _ (by first | exact hk | exact hle _) (by omega)) ?_; rintro _ _ ⟨rfl,rfl⟩; refine ⟨rfl,?_⟩; simp only [push_cast,seval,nH,List.cons_append,List.nil_append,Int.sub_add_cancel]; (try simp (disch:=omega) only [wrapI])
    refine from_end ?_; simp only [push_cast,seval]; refine wKk hK ?_; clear hK K
    refine awp_seq ?_
    refine awp_regionF ?_; intro K hK
    refine from_X 4 rfl rfl ?_; refine wXo ?_
    refine call_Q (H1:=nH l (nx l (nx l k))) (T:=[.data 6 rows,.cells ([V.d (D.int .i64 (6)),V.d (D.int .i64 (0)),V.d (D.int .i64 (0)),V.d (D.int .i64 (0)),V.d (D.int .i64 (0)),V.d (D.int .i64 (nextV l (nx l k) (most+1)))] : List V)]) 5 (by simp) rfl rfl rfl rfl (by simp only [push_cast,seval]) (h83 (nx l (nx l k)) _ (by first | exact hk | exact hle _) (by omega)) ?_; rintro _ _ ⟨rfl,rfl⟩; refine ⟨rfl,?_⟩; simp only [push_cast,seval,nH,List.cons_append,List.nil_append,Int.sub_add_cancel]; (try simp (disch:=omega) only [wrapI])
    refine from_end ?_; simp only [push_cast,seval]; refine wKk hK ?_; clear hK K
    refine awp_seq ?_
    refine awp_seq ?_
    refine awp_regionF ?_; intro K hK
    refine from_X 4 rfl rfl ?_; refine wXo ?_
    refine OpX2.off (.d (.int .i64 0)) (by simp only [push_cast,seval]; first | done | rfl) ?_; simp only [push_cast,seval]
    refine from_end ?_; simp only [push_cast,seval]; refine wKk hK ?_; clear hK K
    (repeat' (first | refine awp_seq ?_ | refine awp_skip ?_ | refine awp_block ?_ | ((first | ((fail_if_success refine awpF_region (id:=22) ?_); refine awpF_region ?_; intro K hK)); refine wXo ?_) | (refine hK _ ?_; clear hK K) | (refine wCd ?_ ?_) | (with_reducible intro hb; exfalso; revert hb; simp []; done) | (with_reducible intro hb; exfalso; replace hb:=wHb hb; omega; done) | (with_reducible intro hb; replace hb:=wHb hb) | (refine wEx ?_) | (refine wRet ?_) | (refine inblock_norm ?_)))
    refine awp_regionF ?_; intro K hK
    refine from_X 9 rfl rfl ?_; simp only [push_cast,seval,htk,hdw]; refine wObW ?_
    refine call_Q (H1:=nH l (nx l (nx l (nx l k)))++[Blk.data 6 (rows++[([D.int .i64 (6),D.int .i64 (0),D.int .i64 (0),D.int .i64 (0),D.int .i64 (nextV l (nx l (nx l k)) (nextV l (nx l k) (most+1)+1)),D.int .i64 (nextV l (nx l k) (most+1))] : List D)])]) (T:=[.cells ([V.d (D.int .i64 (6)),V.d (D.int .i64 (0)),V.d (D.int .i64 (0)),V.d (D.int .i64 (0)),V.d (D.int .i64 (nextV l (nx l (nx l k)) (nextV l (nx l k) (most+1)+1))),V.d (D.int .i64 (nextV l (nx l k) (most+1)))] : List V),.data 6 [([D.int .i64 (6),D.int .i64 (0),D.int .i64 (0),D.int .i64 (0),D.int .i64 (nextV l (nx l (nx l k)) (nextV l (nx l k) (most+1)+1)),D.int .i64 (nextV l (nx l k) (most+1))] : List D)]]) 1 (by simp) rfl rfl rfl rfl (by simp only [push_cast,seval]) (ih (nx l (nx l (nx l k))) _ (rows++[([D.int .i64 (6),D.int .i64 (0),D.int .i64 (0),D.int .i64 (0),D.int .i64 (nextV l (nx l (nx l k)) (nextV l (nx l k) (most+1)+1)),D.int .i64 (nextV l (nx l k) (most+1))] : List D)]) (hle _) (by simp only [List.length_append,List.length_cons,List.length_nil,hn]; try omega) (by omega) (happ _ rfl rfl)) ?_; rintro _ _ ⟨rfl,rfl⟩; refine ⟨rfl,?_⟩; simp only [push_cast,seval,nH,List.cons_append,List.nil_append,Int.sub_add_cancel]
    refine from_end ?_; simp only [push_cast,seval]; refine wKk hK ?_; clear hK K
    refine wRet ?_
    refine ⟨?_,?_⟩
    · first
        | rfl
        | (show V.ref 1 0 _=V.ref 1 0 _
           refine congrArg (V.ref 1 0) ?_
           (try simp only [Fm.flat,List.length_cons,List.length_nil,List.length_append])
           (try omega))
    · simp only [nH,lessT,Fm.flat,List.cons_append,List.nil_append,List.map_cons,List.map_nil,List.map_append,List.append_assoc,encNd]
      rfl
  · have hbb:=nextV_bd l (nx l (nx l (nx l k))) (n:=2) (by omega)
    by_cases h71:nextV l (nx l (nx l (nx l k))) 2=1
    · have e:partT l w most (d+1) k=(.b ⟨8,0,0,0,nextV l (nx l (nx l k)) (nextV l (nx l k) (most+1)+1),nextV l (nx l k) (most+1)⟩ (partT l w most d (nx l (nx l (nx l (nx l k))))).1 (partT l w most d (partT l w most d (nx l (nx l (nx l (nx l k))))).2).1,(partT l w most d (partT l w most d (nx l (nx l (nx l (nx l k))))).2).2):=by
        rw [partT,hop]
        simp [h71]
      rw [e]
      clear e
      try dsimp only
      refine ac_ofF (fn:=Tryz.f47) [.tmp 10] (by kernel_rfl) rfl (by kernel_rfl) (Nat.le_of_ble_eq_true rfl) (by kernel_rfl) rfl ?_
      refine awp_seq ?_
      refine wRg ?_
      refine awp_seq ?_
      refine awp_regionF ?_; intro K hK
      refine from_X 1 rfl rfl ?_; refine wXo ?_
      refine call_Q (H1:=nH l (k)) (T:=[.data 6 rows]) 5 (by simp) rfl rfl rfl rfl (by simp only [push_cast,seval]) (h83 (k) _ (by first | exact hk | exact hle _) (by omega)) ?_; rintro _ _ ⟨rfl,rfl⟩; refine ⟨rfl,?_⟩; simp only [push_cast,seval,nH,List.cons_append,List.nil_append,Int.sub_add_cancel]; (try simp (disch:=omega) only [wrapI])
      refine from_end ?_; simp only [push_cast,seval,hop]; refine wKk hK ?_; clear hK K
      (repeat' (first | refine awp_seq ?_ | refine awp_skip ?_ | refine awp_block ?_ | ((first | ((fail_if_success refine awpF_region (id:=17) ?_); refine awpF_region ?_; intro K hK)); simp only [push_cast,seval,hd0]; refine wObW ?_) | (refine hK _ ?_; clear hK K) | (refine wCd ?_ ?_) | (with_reducible intro hb; exfalso; revert hb; simp [hd0]; done) | (with_reducible intro hb; exfalso; replace hb:=wHb hb; omega; done) | (with_reducible intro hb; replace hb:=wHb hb) | (refine wEx ?_) | (refine wRp ?_; refine fin_of (by simp only [push_cast,seval,hd0]; first | done | rfl) ob1 ?_) | (refine inblock_norm ?_)))
      refine awp_regionF ?_; intro K hK
      refine from_X 3 rfl rfl ?_; refine wXo ?_
      refine call_Q (H1:=nH l (nx l k)) (T:=[.data 6 rows,.cells ([V.d (D.int .i64 (7)),V.d (D.int .i64 (0)),V.d (D.int .i64 (0)),V.d (D.int .i64 (0)),V.d (D.int .i64 (0)),V.d (D.int .i64 (0))] : List V)]) 5 (by simp) rfl rfl rfl rfl (by simp only [push_cast,seval]) (h83 (nx l k) _ (by first | exact hk | exact hle _) (by omega)) ?_; rintro _ _ ⟨rfl,rfl⟩; refine ⟨rfl,?_⟩; simp only [push_cast,seval,nH,List.cons_append,List.nil_append,Int.sub_add_cancel]; (try simp (disch:=omega) only [wrapI])
      refine from_end ?_; simp only [push_cast,seval]; refine wKk hK ?_; clear hK K
      refine awp_seq ?_
      refine awp_regionF ?_; intro K hK
      refine from_X 4 rfl rfl ?_; refine wXo ?_
      refine call_Q (H1:=nH l (nx l (nx l k))) (T:=[.data 6 rows,.cells ([V.d (D.int .i64 (7)),V.d (D.int .i64 (0)),V.d (D.int .i64 (0)),V.d (D.int .i64 (0)),V.d (D.int .i64 (0)),V.d (D.int .i64 (nextV l (nx l k) (most+1)))] : List V)]) 5 (by simp) rfl rfl rfl rfl (by simp only [push_cast,seval]) (h83 (nx l (nx l k)) _ (by first | exact hk | exact hle _) (by omega)) ?_; rintro _ _ ⟨rfl,rfl⟩; refine ⟨rfl,?_⟩; simp only [push_cast,seval,nH,List.cons_append,List.nil_append,Int.sub_add_cancel]; (try simp (disch:=omega) only [wrapI])
      refine from_end ?_; simp only [push_cast,seval]; refine wKk hK ?_; clear hK K
      refine awp_seq ?_
      refine awp_seq ?_
      refine awp_regionF ?_; intro K hK
      refine from_X 4 rfl rfl ?_; refine wXo ?_
      refine OpX2.grd (by simp only [push_cast,seval]; first | done | rfl) ?_
      refine call_Q (H1:=nH l (nx l (nx l (nx l k)))) (T:=[.data 6 rows,.cells ([V.d (D.int .i64 (7)),V.d (D.int .i64 (0)),V.d (D.int .i64 (0)),V.d (D.int .i64 (0)),V.d (D.int .i64 (nextV l (nx l (nx l k)) (nextV l (nx l k) (most+1)+1))),V.d (D.int .i64 (nextV l (nx l k) (most+1)))] : List V)]) 5 (by simp) rfl rfl rfl rfl (by simp only [push_cast,seval]) (h83 (nx l (nx l (nx l k))) _ (by first | exact hk | exact hle _) (by omega)) ?_; rintro _ _ ⟨rfl,rfl⟩; refine ⟨rfl,?_⟩; simp only [push_cast,seval,nH,List.cons_append,List.nil_append,Int.sub_add_cancel]; (try simp (disch:=omega) only [wrapI])
      refine from_end ?_; simp only [push_cast,seval]; refine wKk hK ?_; clear hK K
      (repeat' (first | refine awp_seq ?_ | refine awp_skip ?_ | refine awp_block ?_ | ((first | ((fail_if_success refine awpF_region (id:=21) ?_); refine awpF_region ?_; intro K hK)); simp only [push_cast,seval,h71]; refine wObW ?_) | (refine hK _ ?_; clear hK K) | (refine wCd ?_ ?_) | (with_reducible intro hb; exfalso; revert hb; simp [h71]; done) | (with_reducible intro hb; exfalso; replace hb:=wHb hb; omega; done) | (with_reducible intro hb; replace hb:=wHb hb) | (refine wEx ?_) | (refine wRp ?_; refine fin_of (by simp only [push_cast,seval,h71]; first | done | rfl) ob1 ?_) | (refine inblock_norm ?_)))
      refine awp_regionF ?_; intro K hK
      refine from_X 10 rfl rfl ?_; simp only [push_cast,seval,htk,hdw]; refine wObW ?_
      refine call_Q (H1:=nH l (nx l (nx l (nx l (nx l k))))++[Blk.data 6 (rows++[([D.int .i64 (8),D.int .i64 (0),D.int .i64 (0),D.int .i64 (0),D.int .i64 (nextV l (nx l (nx l k)) (nextV l (nx l k) (most+1)+1)),D.int .i64 (nextV l (nx l k) (most+1))] : List D)])]) (T:=[.cells ([V.d (D.int .i64 (8)),V.d (D.int .i64 (0)),V.d (D.int .i64 (0)),V.d (D.int .i64 (0)),V.d (D.int .i64 (nextV l (nx l (nx l k)) (nextV l (nx l k) (most+1)+1))),V.d (D.int .i64 (nextV l (nx l k) (most+1)))] : List V),.data 6 [([D.int .i64 (8),D.int .i64 (0),D.int .i64 (0),D.int .i64 (0),D.int .i64 (nextV l (nx l (nx l k)) (nextV l (nx l k) (most+1)+1)),D.int .i64 (nextV l (nx l k) (most+1))] : List D)]]) 1 (by simp) rfl rfl rfl rfl (by simp only [push_cast,seval]) (ih (nx l (nx l (nx l (nx l k)))) _ (rows++[([D.int .i64 (8),D.int .i64 (0),D.int .i64 (0),D.int .i64 (0),D.int .i64 (nextV l (nx l (nx l k)) (nextV l (nx l k) (most+1)+1)),D.int .i64 (nextV l (nx l k) (most+1))] : List D)]) (hle _) (by simp only [List.length_append,List.length_cons,List.length_nil,hn]; try omega) (by omega) (happ _ rfl rfl)) ?_; rintro _ _ ⟨rfl,rfl⟩; refine ⟨rfl,?_⟩; simp only [push_cast,seval,nH,List.cons_append,List.nil_append,Int.sub_add_cancel]
      have hl1:=hlen (nx l (nx l (nx l (nx l k))))
      have hk2:=hkt (nx l (nx l (nx l (nx l k)))) (hle _)
      refine from_X 15 rfl rfl ?_; simp only [push_cast,seval,hdw]; refine wObW ?_
      refine call_Q (H1:=nH l ((partT l w most d (nx l (nx l (nx l (nx l k))))).2)++[Blk.data 6 (rows++[([D.int .i64 (8),D.int .i64 (0),D.int .i64 (0),D.int .i64 (0),D.int .i64 (nextV l (nx l (nx l k)) (nextV l (nx l k) (most+1)+1)),D.int .i64 (nextV l (nx l k) (most+1))] : List D)]++(partT l w most d (nx l (nx l (nx l (nx l k))))).1.flat.map encNd)]) (T:=[.cells ([V.d (D.int .i64 (8)),V.d (D.int .i64 (0)),V.d (D.int .i64 (0)),V.d (D.int .i64 (0)),V.d (D.int .i64 (nextV l (nx l (nx l k)) (nextV l (nx l k) (most+1)+1))),V.d (D.int .i64 (nextV l (nx l k) (most+1)))] : List V),.data 6 [([D.int .i64 (8),D.int .i64 (0),D.int .i64 (0),D.int .i64 (0),D.int .i64 (nextV l (nx l (nx l k)) (nextV l (nx l k) (most+1)+1)),D.int .i64 (nextV l (nx l k) (most+1))] : List D)]]) 1 (by simp) rfl rfl rfl rfl (by simp only [push_cast,seval]) (ih ((partT l w most d (nx l (nx l (nx l (nx l k))))).2) _ (rows++[([D.int .i64 (8),D.int .i64 (0),D.int .i64 (0),D.int .i64 (0),D.int .i64 (nextV l (nx l (nx l k)) (nextV l (nx l k) (most+1)+1)),D.int .i64 (nextV l (nx l k) (most+1))] : List D)]++(partT l w most d (nx l (nx l (nx l (nx l k))))).1.flat.map encNd) hk2 (by simp only [List.length_append,List.length_cons,List.length_nil,List.length_map,hn]; try omega) (by omega) (happ2 _ rfl rfl _)) ?_; rintro _ _ ⟨rfl,rfl⟩; refine ⟨rfl,?_⟩; simp only [push_cast,seval,nH,List.cons_append,List.nil_append,Int.sub_add_cancel]
      refine from_end ?_; simp only [push_cast,seval]; refine wKk hK ?_; clear hK K
      refine wRet ?_
      refine ⟨?_,?_⟩
      · first
          | rfl
          | (show V.ref 1 0 _=V.ref 1 0 _
             refine congrArg (V.ref 1 0) ?_
             (try simp only [Fm.flat,List.length_cons,List.length_nil,List.length_append])
             (try omega))
      · simp only [nH,lessT,Fm.flat,List.cons_append,List.nil_append,List.map_cons,List.map_nil,List.map_append,List.append_assoc,encNd]
        rfl
    · have hb7:(nextV l (nx l (nx l (nx l k))) 2==1)=false:=by simpa using h71
      have e:partT l w most (d+1) k=(.u ⟨7,0,0,0,nextV l (nx l (nx l k)) (nextV l (nx l k) (most+1)+1),nextV l (nx l k) (most+1)⟩ (partT l w most d (nx l (nx l (nx l (nx l k))))).1,(partT l w most d (nx l (nx l (nx l (nx l k))))).2):=by
        rw [partT,hop]
        simp [h71]
      rw [e]
      clear e
      try dsimp only
      refine ac_ofF (fn:=Tryz.f47) [.tmp 10] (by kernel_rfl) rfl (by kernel_rfl) (Nat.le_of_ble_eq_true rfl) (by kernel_rfl) rfl ?_
      refine awp_seq ?_
      refine wRg ?_
      refine awp_seq ?_
      refine awp_regionF ?_; intro K hK
      refine from_X 1 rfl rfl ?_; refine wXo ?_
      refine call_Q (H1:=nH l (k)) (T:=[.data 6 rows]) 5 (by simp) rfl rfl rfl rfl (by simp only [push_cast,seval]) (h83 (k) _ (by first | exact hk | exact hle _) (by omega)) ?_; rintro _ _ ⟨rfl,rfl⟩; refine ⟨rfl,?_⟩; simp only [push_cast,seval,nH,List.cons_append,List.nil_append,Int.sub_add_cancel]; (try simp (disch:=omega) only [wrapI])
      refine from_end ?_; simp only [push_cast,seval,hop]; refine wKk hK ?_; clear hK K
      (repeat' (first | refine awp_seq ?_ | refine awp_skip ?_ | refine awp_block ?_ | ((first | ((fail_if_success refine awpF_region (id:=17) ?_); refine awpF_region ?_; intro K hK)); simp only [push_cast,seval,hd0]; refine wObW ?_) | (refine hK _ ?_; clear hK K) | (refine wCd ?_ ?_) | (with_reducible intro hb; exfalso; revert hb; simp [hd0]; done) | (with_reducible intro hb; exfalso; replace hb:=wHb hb; omega; done) | (with_reducible intro hb; replace hb:=wHb hb) | (refine wEx ?_) | (refine wRp ?_; refine fin_of (by simp only [push_cast,seval,hd0]; first | done | rfl) ob1 ?_) | (refine inblock_norm ?_)))
      refine awp_regionF ?_; intro K hK
      refine from_X 3 rfl rfl ?_; refine wXo ?_
      refine call_Q (H1:=nH l (nx l k)) (T:=[.data 6 rows,.cells ([V.d (D.int .i64 (7)),V.d (D.int .i64 (0)),V.d (D.int .i64 (0)),V.d (D.int .i64 (0)),V.d (D.int .i64 (0)),V.d (D.int .i64 (0))] : List V)]) 5 (by simp) rfl rfl rfl rfl (by simp only [push_cast,seval]) (h83 (nx l k) _ (by first | exact hk | exact hle _) (by omega)) ?_; rintro _ _ ⟨rfl,rfl⟩; refine ⟨rfl,?_⟩; simp only [push_cast,seval,nH,List.cons_append,List.nil_append,Int.sub_add_cancel]; (try simp (disch:=omega) only [wrapI])
      refine from_end ?_; simp only [push_cast,seval]; refine wKk hK ?_; clear hK K
      refine awp_seq ?_
      refine awp_regionF ?_; intro K hK
      refine from_X 4 rfl rfl ?_; refine wXo ?_
      refine call_Q (H1:=nH l (nx l (nx l k))) (T:=[.data 6 rows,.cells ([V.d (D.int .i64 (7)),V.d (D.int .i64 (0)),V.d (D.int .i64 (0)),V.d (D.int .i64 (0)),V.d (D.int .i64 (0)),V.d (D.int .i64 (nextV l (nx l k) (most+1)))] : List V)]) 5 (by simp) rfl rfl rfl rfl (by simp only [push_cast,seval]) (h83 (nx l (nx l k)) _ (by first | exact hk | exact hle _) (by omega)) ?_; rintro _ _ ⟨rfl,rfl⟩; refine ⟨rfl,?_⟩; simp only [push_cast,seval,nH,List.cons_append,List.nil_append,Int.sub_add_cancel]; (try simp (disch:=omega) only [wrapI])
      refine from_end ?_; simp only [push_cast,seval]; refine wKk hK ?_; clear hK K
      refine awp_seq ?_
      refine awp_seq ?_
      refine awp_regionF ?_; intro K hK
      refine from_X 4 rfl rfl ?_; refine wXo ?_
      refine OpX2.grd (by simp only [push_cast,seval]; first | done | rfl) ?_
      refine call_Q (H1:=nH l (nx l (nx l (nx l k)))) (T:=[.data 6 rows,.cells ([V.d (D.int .i64 (7)),V.d (D.int .i64 (0)),V.d (D.int .i64 (0)),V.d (D.int .i64 (0)),V.d (D.int .i64 (nextV l (nx l (nx l k)) (nextV l (nx l k) (most+1)+1))),V.d (D.int .i64 (nextV l (nx l k) (most+1)))] : List V)]) 5 (by simp) rfl rfl rfl rfl (by simp only [push_cast,seval]) (h83 (nx l (nx l (nx l k))) _ (by first | exact hk | exact hle _) (by omega)) ?_; rintro _ _ ⟨rfl,rfl⟩; refine ⟨rfl,?_⟩; simp only [push_cast,seval,nH,List.cons_append,List.nil_append,Int.sub_add_cancel]; (try simp (disch:=omega) only [wrapI])
      refine from_end ?_; simp only [push_cast,seval]; refine wKk hK ?_; clear hK K
      (repeat' (first | refine awp_seq ?_ | refine awp_skip ?_ | refine awp_block ?_ | ((first | ((fail_if_success refine awpF_region (id:=22) ?_); refine awpF_region ?_; intro K hK)); simp only [push_cast,seval,hb7]; refine wObW ?_) | (refine hK _ ?_; clear hK K) | (refine wCd ?_ ?_) | (with_reducible intro hb; exfalso; revert hb; simp [hb7]; done) | (with_reducible intro hb; exfalso; replace hb:=wHb hb; omega; done) | (with_reducible intro hb; replace hb:=wHb hb) | (refine wEx ?_) | (refine wRp ?_; refine fin_of (by simp only [push_cast,seval,hb7]; first | done | rfl) ob1 ?_) | (refine inblock_norm ?_)))
      refine awp_regionF ?_; intro K hK
      refine from_X 9 rfl rfl ?_; simp only [push_cast,seval,htk,hdw]; refine wObW ?_
      refine call_Q (H1:=nH l (nx l (nx l (nx l (nx l k))))++[Blk.data 6 (rows++[([D.int .i64 (7),D.int .i64 (0),D.int .i64 (0),D.int .i64 (0),D.int .i64 (nextV l (nx l (nx l k)) (nextV l (nx l k) (most+1)+1)),D.int .i64 (nextV l (nx l k) (most+1))] : List D)])]) (T:=[.cells ([V.d (D.int .i64 (7)),V.d (D.int .i64 (0)),V.d (D.int .i64 (0)),V.d (D.int .i64 (0)),V.d (D.int .i64 (nextV l (nx l (nx l k)) (nextV l (nx l k) (most+1)+1))),V.d (D.int .i64 (nextV l (nx l k) (most+1)))] : List V),.data 6 [([D.int .i64 (7),D.int .i64 (0),D.int .i64 (0),D.int .i64 (0),D.int .i64 (nextV l (nx l (nx l k)) (nextV l (nx l k) (most+1)+1)),D.int .i64 (nextV l (nx l k) (most+1))] : List D)]]) 1 (by simp) rfl rfl rfl rfl (by simp only [push_cast,seval]) (ih (nx l (nx l (nx l (nx l k)))) _ (rows++[([D.int .i64 (7),D.int .i64 (0),D.int .i64 (0),D.int .i64 (0),D.int .i64 (nextV l (nx l (nx l k)) (nextV l (nx l k) (most+1)+1)),D.int .i64 (nextV l (nx l k) (most+1))] : List D)]) (hle _) (by simp only [List.length_append,List.length_cons,List.length_nil,hn]; try omega) (by omega) (happ _ rfl rfl)) ?_; rintro _ _ ⟨rfl,rfl⟩; refine ⟨rfl,?_⟩; simp only [push_cast,seval,nH,List.cons_append,List.nil_append,Int.sub_add_cancel]
      refine from_end ?_; simp only [push_cast,seval]; refine wKk hK ?_; clear hK K
      refine wRet ?_
      refine ⟨?_,?_⟩
      · first
          | rfl
          | (show V.ref 1 0 _=V.ref 1 0 _
             refine congrArg (V.ref 1 0) ?_
             (try simp only [Fm.flat,List.length_cons,List.length_nil,List.length_append])
             (try omega))
      · simp only [nH,lessT,Fm.flat,List.cons_append,List.nil_append,List.map_cons,List.map_nil,List.map_append,List.append_assoc,encNd]
        rfl
  · have e:partT l w most (d+1) k=lessT l w (nx l k):=by
      rw [partT,hop]
      simp
    rw [e]
    clear e
    try dsimp only
    refine ac_ofF (fn:=Tryz.f47) [.tmp 10] (by kernel_rfl) rfl (by kernel_rfl) (Nat.le_of_ble_eq_true rfl) (by kernel_rfl) rfl ?_
    refine awp_seq ?_
    refine wRg ?_
    refine awp_seq ?_
    refine awp_regionF ?_; intro K hK
    refine from_X 1 rfl rfl ?_; refine wXo ?_
    refine call_Q (H1:=nH l (k)) (T:=[.data 6 rows]) 5 (by simp) rfl rfl rfl rfl (by simp only [push_cast,seval]) (h83 (k) _ (by first | exact hk | exact hle _) (by omega)) ?_; rintro _ _ ⟨rfl,rfl⟩; refine ⟨rfl,?_⟩; simp only [push_cast,seval,nH,List.cons_append,List.nil_append,Int.sub_add_cancel]; (try simp (disch:=omega) only [wrapI])
    refine from_end ?_; simp only [push_cast,seval,hop]; refine wKk hK ?_; clear hK K
    (repeat' (first | refine awp_seq ?_ | refine awp_skip ?_ | refine awp_block ?_ | ((first | ((fail_if_success refine awpF_region (id:=10) ?_); refine awpF_region ?_; intro K hK)); simp only [push_cast,seval,hd0]; refine wObW ?_) | (refine hK _ ?_; clear hK K) | (refine wCd ?_ ?_) | (with_reducible intro hb; exfalso; revert hb; simp [hd0]; done) | (with_reducible intro hb; exfalso; replace hb:=wHb hb; omega; done) | (with_reducible intro hb; replace hb:=wHb hb) | (refine wEx ?_) | (refine wRp ?_; refine fin_of (by simp only [push_cast,seval,hd0]; first | done | rfl) ob1 ?_) | (refine inblock_norm ?_)))
    refine awp_regionF ?_; intro K hK
    refine from_X 2 rfl rfl ?_; refine wXo ?_
    refine call_Q (H1:=nH l (nx l (k))) (T:=[.data 6 rows,.cells ([V.d (D.int .i64 (2)),V.d (D.int .i64 (0)),V.d (D.int .i64 (0)),V.d (D.int .i64 (0)),V.d (D.int .i64 (0)),V.d (D.int .i64 (0))] : List V)]) 5 (by simp) rfl rfl rfl rfl (by simp only [push_cast,seval]) (h83 (nx l (k)) _ (by first | exact hk | exact hle _) (by omega)) ?_; rintro _ _ ⟨rfl,rfl⟩; refine ⟨rfl,?_⟩; simp only [push_cast,seval,nH,List.cons_append,List.nil_append,Int.sub_add_cancel]; (try simp (disch:=omega) only [wrapI])
    refine from_X 6 rfl rfl ?_; refine wXo ?_
    refine call_Q (H1:=nH l (nx l (nx l (k)))) (T:=[.data 6 rows,.cells ([V.d (D.int .i64 (2)),V.d (D.int .i64 (0)),V.d (D.int .i64 (0)),V.d (D.int .i64 (0)),V.d (D.int .i64 (0)),V.d (D.int .i64 (0))] : List V)]) 5 (by simp) rfl rfl rfl rfl (by simp only [push_cast,seval]) (h83 (nx l (nx l (k))) _ (by first | exact hk | exact hle _) (by omega)) ?_; rintro _ _ ⟨rfl,rfl⟩; refine ⟨rfl,?_⟩; simp only [push_cast,seval,nH,List.cons_append,List.nil_append,Int.sub_add_cancel]; (try simp (disch:=omega) only [wrapI])
    refine from_X 9 rfl rfl ?_; refine wXo ?_
    refine call_Q (H1:=nH l (nx l (nx l (nx l (k))))) (T:=[.data 6 rows,.cells ([V.d (D.int .i64 (2)),V.d (D.int .i64 (0)),V.d (D.int .i64 (0)),V.d (D.int .i64 (0)),V.d (D.int .i64 (0)),V.d (D.int .i64 (0))] : List V)]) 5 (by simp) rfl rfl rfl rfl (by simp only [push_cast,seval]) (h83 (nx l (nx l (nx l (k)))) _ (by first | exact hk | exact hle _) (by omega)) ?_; rintro _ _ ⟨rfl,rfl⟩; refine ⟨rfl,?_⟩; simp only [push_cast,seval,nH,List.cons_append,List.nil_append,Int.sub_add_cancel]; (try simp (disch:=omega) only [wrapI])
    refine from_end ?_; simp only [push_cast,seval]; refine wKk hK ?_; clear hK K
    refine awp_seq ?_
    refine awpF_region ?_; intro K hK; simp only [push_cast,seval,htk]; refine wKk hK ?_; clear hK K
    refine wRet ?_
    refine ⟨?_,?_⟩
    · first
        | rfl
        | (show V.ref 1 0 _=V.ref 1 0 _
           refine congrArg (V.ref 1 0) ?_
           (try simp only [Fm.flat,List.length_cons,List.length_nil,List.length_append])
           (try omega))
    · simp only [nH,lessT,Fm.flat,List.cons_append,List.nil_append,List.map_cons,List.map_nil,List.map_append,List.append_assoc,encNd]
      rfl
  · have e:partT l w most (d+1) k=lessT l w (nx l k):=by
      rw [partT,hop]
      simp
    rw [e]
    clear e
    try dsimp only
    refine ac_ofF (fn:=Tryz.f47) [.tmp 10] (by kernel_rfl) rfl (by kernel_rfl) (Nat.le_of_ble_eq_true rfl) (by kernel_rfl) rfl ?_
    refine awp_seq ?_
    refine wRg ?_
    refine awp_seq ?_
    refine awp_regionF ?_; intro K hK
    refine from_X 1 rfl rfl ?_; refine wXo ?_
    refine call_Q (H1:=nH l (k)) (T:=[.data 6 rows]) 5 (by simp) rfl rfl rfl rfl (by simp only [push_cast,seval]) (h83 (k) _ (by first | exact hk | exact hle _) (by omega)) ?_; rintro _ _ ⟨rfl,rfl⟩; refine ⟨rfl,?_⟩; simp only [push_cast,seval,nH,List.cons_append,List.nil_append,Int.sub_add_cancel]; (try simp (disch:=omega) only [wrapI])
    refine from_end ?_; simp only [push_cast,seval,hop]; refine wKk hK ?_; clear hK K
    (repeat' (first | refine awp_seq ?_ | refine awp_skip ?_ | refine awp_block ?_ | ((first | ((fail_if_success refine awpF_region (id:=10) ?_); refine awpF_region ?_; intro K hK)); simp only [push_cast,seval,hd0]; refine wObW ?_) | (refine hK _ ?_; clear hK K) | (refine wCd ?_ ?_) | (with_reducible intro hb; exfalso; revert hb; simp [hd0]; done) | (with_reducible intro hb; exfalso; replace hb:=wHb hb; omega; done) | (with_reducible intro hb; replace hb:=wHb hb) | (refine wEx ?_) | (refine wRp ?_; refine fin_of (by simp only [push_cast,seval,hd0]; first | done | rfl) ob1 ?_) | (refine inblock_norm ?_)))
    refine awp_regionF ?_; intro K hK
    refine from_X 2 rfl rfl ?_; refine wXo ?_
    refine call_Q (H1:=nH l (nx l (k))) (T:=[.data 6 rows,.cells ([V.d (D.int .i64 (2)),V.d (D.int .i64 (0)),V.d (D.int .i64 (0)),V.d (D.int .i64 (0)),V.d (D.int .i64 (0)),V.d (D.int .i64 (0))] : List V)]) 5 (by simp) rfl rfl rfl rfl (by simp only [push_cast,seval]) (h83 (nx l (k)) _ (by first | exact hk | exact hle _) (by omega)) ?_; rintro _ _ ⟨rfl,rfl⟩; refine ⟨rfl,?_⟩; simp only [push_cast,seval,nH,List.cons_append,List.nil_append,Int.sub_add_cancel]; (try simp (disch:=omega) only [wrapI])
    refine from_X 6 rfl rfl ?_; refine wXo ?_
    refine call_Q (H1:=nH l (nx l (nx l (k)))) (T:=[.data 6 rows,.cells ([V.d (D.int .i64 (2)),V.d (D.int .i64 (0)),V.d (D.int .i64 (0)),V.d (D.int .i64 (0)),V.d (D.int .i64 (0)),V.d (D.int .i64 (0))] : List V)]) 5 (by simp) rfl rfl rfl rfl (by simp only [push_cast,seval]) (h83 (nx l (nx l (k))) _ (by first | exact hk | exact hle _) (by omega)) ?_; rintro _ _ ⟨rfl,rfl⟩; refine ⟨rfl,?_⟩; simp only [push_cast,seval,nH,List.cons_append,List.nil_append,Int.sub_add_cancel]; (try simp (disch:=omega) only [wrapI])
    refine from_X 9 rfl rfl ?_; refine wXo ?_
    refine call_Q (H1:=nH l (nx l (nx l (nx l (k))))) (T:=[.data 6 rows,.cells ([V.d (D.int .i64 (2)),V.d (D.int .i64 (0)),V.d (D.int .i64 (0)),V.d (D.int .i64 (0)),V.d (D.int .i64 (0)),V.d (D.int .i64 (0))] : List V)]) 5 (by simp) rfl rfl rfl rfl (by simp only [push_cast,seval]) (h83 (nx l (nx l (nx l (k)))) _ (by first | exact hk | exact hle _) (by omega)) ?_; rintro _ _ ⟨rfl,rfl⟩; refine ⟨rfl,?_⟩; simp only [push_cast,seval,nH,List.cons_append,List.nil_append,Int.sub_add_cancel]; (try simp (disch:=omega) only [wrapI])
    refine from_end ?_; simp only [push_cast,seval]; refine wKk hK ?_; clear hK K
    refine awp_seq ?_
    refine awpF_region ?_; intro K hK; simp only [push_cast,seval,htk]; refine wKk hK ?_; clear hK K
    refine wRet ?_
    refine ⟨?_,?_⟩
    · first
        | rfl
        | (show V.ref 1 0 _=V.ref 1 0 _
           refine congrArg (V.ref 1 0) ?_
           (try simp only [Fm.flat,List.length_cons,List.length_nil,List.length_append])
           (try omega))
    · simp only [nH,lessT,Fm.flat,List.cons_append,List.nil_append,List.map_cons,List.map_nil,List.map_append,List.append_assoc,encNd]
      rfl
  · have e:partT l w most (d+1) k=lessT l w (nx l k):=by
      rw [partT,hop]
      simp
    rw [e]
    clear e
    try dsimp only
    refine ac_ofF (fn:=Tryz.f47) [.tmp 10] (by kernel_rfl) rfl (by kernel_rfl) (Nat.le_of_ble_eq_true rfl) (by kernel_rfl) rfl ?_
    refine awp_seq ?_
    refine wRg ?_
    refine awp_seq ?_
    refine awp_regionF ?_; intro K hK
    refine from_X 1 rfl rfl ?_; refine wXo ?_
    refine call_Q (H1:=nH l (k)) (T:=[.data 6 rows]) 5 (by simp) rfl rfl rfl rfl (by simp only [push_cast,seval]) (h83 (k) _ (by first | exact hk | exact hle _) (by omega)) ?_; rintro _ _ ⟨rfl,rfl⟩; refine ⟨rfl,?_⟩; simp only [push_cast,seval,nH,List.cons_append,List.nil_append,Int.sub_add_cancel]; (try simp (disch:=omega) only [wrapI])
    refine from_end ?_; simp only [push_cast,seval,hop]; refine wKk hK ?_; clear hK K
    (repeat' (first | refine awp_seq ?_ | refine awp_skip ?_ | refine awp_block ?_ | ((first | ((fail_if_success refine awpF_region (id:=10) ?_); refine awpF_region ?_; intro K hK)); simp only [push_cast,seval,hd0]; refine wObW ?_) | (refine hK _ ?_; clear hK K) | (refine wCd ?_ ?_) | (with_reducible intro hb; exfalso; revert hb; simp [hd0]; done) | (with_reducible intro hb; exfalso; replace hb:=wHb hb; omega; done) | (with_reducible intro hb; replace hb:=wHb hb) | (refine wEx ?_) | (refine wRp ?_; refine fin_of (by simp only [push_cast,seval,hd0]; first | done | rfl) ob1 ?_) | (refine inblock_norm ?_)))
    refine awp_regionF ?_; intro K hK
    refine from_X 2 rfl rfl ?_; refine wXo ?_
    refine call_Q (H1:=nH l (nx l (k))) (T:=[.data 6 rows,.cells ([V.d (D.int .i64 (2)),V.d (D.int .i64 (0)),V.d (D.int .i64 (0)),V.d (D.int .i64 (0)),V.d (D.int .i64 (0)),V.d (D.int .i64 (0))] : List V)]) 5 (by simp) rfl rfl rfl rfl (by simp only [push_cast,seval]) (h83 (nx l (k)) _ (by first | exact hk | exact hle _) (by omega)) ?_; rintro _ _ ⟨rfl,rfl⟩; refine ⟨rfl,?_⟩; simp only [push_cast,seval,nH,List.cons_append,List.nil_append,Int.sub_add_cancel]; (try simp (disch:=omega) only [wrapI])
    refine from_X 6 rfl rfl ?_; refine wXo ?_
    refine call_Q (H1:=nH l (nx l (nx l (k)))) (T:=[.data 6 rows,.cells ([V.d (D.int .i64 (2)),V.d (D.int .i64 (0)),V.d (D.int .i64 (0)),V.d (D.int .i64 (0)),V.d (D.int .i64 (0)),V.d (D.int .i64 (0))] : List V)]) 5 (by simp) rfl rfl rfl rfl (by simp only [push_cast,seval]) (h83 (nx l (nx l (k))) _ (by first | exact hk | exact hle _) (by omega)) ?_; rintro _ _ ⟨rfl,rfl⟩; refine ⟨rfl,?_⟩; simp only [push_cast,seval,nH,List.cons_append,List.nil_append,Int.sub_add_cancel]; (try simp (disch:=omega) only [wrapI])
    refine from_X 9 rfl rfl ?_; refine wXo ?_
    refine call_Q (H1:=nH l (nx l (nx l (nx l (k))))) (T:=[.data 6 rows,.cells ([V.d (D.int .i64 (2)),V.d (D.int .i64 (0)),V.d (D.int .i64 (0)),V.d (D.int .i64 (0)),V.d (D.int .i64 (0)),V.d (D.int .i64 (0))] : List V)]) 5 (by simp) rfl rfl rfl rfl (by simp only [push_cast,seval]) (h83 (nx l (nx l (nx l (k)))) _ (by first | exact hk | exact hle _) (by omega)) ?_; rintro _ _ ⟨rfl,rfl⟩; refine ⟨rfl,?_⟩; simp only [push_cast,seval,nH,List.cons_append,List.nil_append,Int.sub_add_cancel]; (try simp (disch:=omega) only [wrapI])
    refine from_end ?_; simp only [push_cast,seval]; refine wKk hK ?_; clear hK K
    refine awp_seq ?_
    refine awpF_region ?_; intro K hK; simp only [push_cast,seval,htk]; refine wKk hK ?_; clear hK K
    refine wRet ?_
    refine ⟨?_,?_⟩
    · first
        | rfl
        | (show V.ref 1 0 _=V.ref 1 0 _
           refine congrArg (V.ref 1 0) ?_
           (try simp only [Fm.flat,List.length_cons,List.length_nil,List.length_append])
           (try omega))
    · simp only [nH,lessT,Fm.flat,List.cons_append,List.nil_append,List.map_cons,List.map_nil,List.map_append,List.append_assoc,encNd]
      rfl
end Go.Aw

namespace Go.Aw
set_option linter.unusedSimpArgs false
set_option linter.unusedVariables false
open Go.RowKit Go.Proofs
set_option maxRecDepth 100000

theorem partAll (l:List Int) (w most:Int) (hl:l.length≤1000000000000000) (hx:∀ x,x∈l → -9223372036854775808≤x∧x≤9223372036854775807) (hw:1≤w∧w≤12) (hm:0≤most∧most≤20) : ∀ d:Nat,d≤10→PartC l w most d
  | 0,_=>part0 l w most hl hx hw hm
  | d+1,h=>partS l w most hl hx hw hm d (by omega) (partAll l w most hl hx hw hm d (by omega))
theorem p26 (l:List Int) (w most:Int) (hl:l.length≤1000000000000000) (hx:∀ x,x∈l → -9223372036854775808≤x∧x≤9223372036854775807) (hw:1≤w∧w≤12) (hm:0≤most∧most≤20) :
    PD Tryz.prog 11 [.sl (l.map encI),.int .i64 w,.int .i64 most] (.d (.sl ((partT l w most 3 0).1.flat.map encNd))):=by
  have h53:=partAll l w most hl hx hw hm 3 (by decide) 0 0 [] (Nat.zero_le _) rfl (by decide) (by simp)
  have hv:=AC.virt (xs:=[.ptr 0 0 0]) (ys:=[.d (.int .i64 w),.d (.int .i64 (3:Nat)),.d (.int .i64 most)]) (H:=nH l 0) 6 h53 rfl rfl (by simp [nH])
  clear h53
  generalize partT l w most 3 0=r at *
  push_cast at hv
  refine pdv_of (fn:=Tryz.f11) [.tmp 6] (by kernel_rfl) rfl (by kernel_rfl) (Nat.le_of_ble_eq_true rfl) (by kernel_rfl) rfl ?_
  refine awp_seq ?_
  refine wRg ?_
  refine awp_seq ?_
  refine wRg ?_
  refine awp_seq ?_
  refine awp_regionF ?_; intro K hK
  refine from_X 3 rfl rfl ?_; refine wXo ?_
  refine call_X (by simp only [push_cast,seval]) hv ?_
  rintro _ _ ⟨rfl,rfl⟩
  simp only [push_cast,seval,nH,List.cons_append,List.nil_append]
  refine from_end ?_; simp only [push_cast,seval]; refine wKk hK ?_; clear hK K
  refine wRet ?_
  exact DeepV.row rfl (by simp)
end Go.Aw

namespace Go.Aw
set_option linter.unusedSimpArgs false
set_option linter.unusedVariables false
open Go.RowKit Go.Proofs
set_option maxRecDepth 100000

theorem p27 (l:List Int) (w most:Nat) (hl:l.length≤1000000000000000) (hx:∀ x,x∈l → -9223372036854775808≤x∧x≤9223372036854775807) (hw:w≤100) (hm:most≤1000) :
    PD Tryz.prog 12 [.sl (l.map encI),.int .i64 w,.int .i64 most] (.d (.sl ((traceT l w most).map encR))):=by
  have hq:∀ row,row∈l.map encI→row.length=1:=fun row hr=>by obtain ⟨_,_,rfl⟩:=List.mem_map.1 hr; rfl
  generalize hf:(fun x:Int=>rowT w (x % 1073741824))=f
  have htr:traceT l w most=(l.take most).map f:=by rw [traceT,hf]
  rw [htr]
  refine pdv_of (fn:=Tryz.f12) [.tmp 6] (by kernel_rfl) rfl (by kernel_rfl) (Nat.le_of_ble_eq_true rfl) (by kernel_rfl) rfl ?_
  refine awp_seq ?_
  refine wRg ?_
  refine awp_seq ?_
  refine wRg ?_
  refine awp_seq ?_
  refine awp_seq ?_
  refine wRg ?_
  refine awp_virt 7 1 (by simp only [push_cast,seval]) ?_
  refine awp_block ?_
  refine awp_loopP (α:=Nat) (st:=fun i=>⟨[(0,.d (.sl (l.map encI))),(1,.d (.int .i64 w)),(2,.d (.int .i64 most)),(7,.ref 0 0 i),(8,.d (.int .i64 i))],[.data 1 (((l.take i).map f).map encR)]⟩)
    (inv:=fun i=>i≤l.length∧i≤most) (μ:=fun i=>most - i) (x0:=0) (r0:=[0]) ⟨Nat.zero_le _,Nat.zero_le _⟩ ?_ ?_
  · exact wRen
  rintro i ⟨hi,him⟩
  have hil:(((l.take i).map f).map encR).length=i:=by simp; omega
  have htk:List.take i (((l.take i).map f).map encR)=((l.take i).map f).map encR:=List.take_of_length_le (by omega)
  have hqR:∀ row,row∈(((l.take i).map f).map encR)→row.length=1:=fun row hr=>by obtain ⟨_,_,rfl⟩:=List.mem_map.1 hr; rfl
  refine awp_seq ?_
  refine awp_seq ?_
  refine wRg ?_
  refine wCd ?_ ?_
  · intro h1
    have h1':i<l.length∧i<most:=by simp at h1; omega
    clear h1
    obtain ⟨v,hv⟩ : ∃ v,l[i]? = some v:=⟨_,List.getElem?_eq_getElem h1'.1⟩
    have h28:=p28 v 1073741824 (hx v (List.mem_of_getElem? hv)) ⟨by omega,by omega⟩
    have hfv:f v=rowT w (v % 1073741824):=by rw [← hf]
    have hn0:0≤v % 1073741824∧v % 1073741824<1073741824:=⟨Int.emod_nonneg _ (by omega),Int.emod_lt_of_pos _ (by omega)⟩
    generalize v % 1073741824=n0 at *
    refine awp_skip ?_
    refine awp_seq ?_
    refine awp_block ?_
    refine awp_seq ?_
    refine awpF_region ?_; intro K hK; simp only [push_cast,seval,hv,encI,Int.toNat_natCast]
    refine wOb ?_
    refine CallK.pd (h28) ?_; refine wXo ?_
    refine hK _ ?_; clear hK K
    refine awp_seq ?_
    refine wRg ?_
    refine awp_seq ?_
    refine awp_seq ?_
    refine wRg ?_
    refine awp_virt 10 1 (by simp only [push_cast,seval]) ?_
    refine awp_block ?_
    refine awp_loopP (α:=Nat × Int × List Int) (st:=fun x=>⟨[(0,.d (.sl (l.map encI))),(1,.d (.int .i64 w)),(2,.d (.int .i64 most)),(7,.ref 0 0 i),(8,.d (.int .i64 i)),(9,.d (.int .i64 x.2.1)),(10,.ref 1 0 x.1),(11,.d (.int .i64 x.1))],
        [.data 1 (((l.take i).map f).map encR),.data 1 (x.2.2.map encI)]⟩)
      (inv:=fun x=>x.1≤w∧x.2.2.length=x.1∧rowT w n0=x.2.2++rowT (w - x.1) x.2.1∧0≤x.2.1∧x.2.1<1073741824) (μ:=fun x=>w - x.1) (x0:=(0,n0,[])) (r0:=[0,1]) ⟨Nat.zero_le _,rfl,by simp,hn0⟩ ?_ ?_
    · exact wRen
    rintro ⟨j,n,row⟩ ⟨hj,hrl,hrow,hn⟩
    dsimp only at hj hrl hrow hn ⊢
    have htj:List.take j (row.map encI)=row.map encI:=List.take_of_length_le (by simp; omega)
    have hjl:(row.map encI).length=j:=by simp [hrl]
    refine awp_seq ?_
    refine awp_seq ?_
    refine wRg ?_
    refine wCd ?_ ?_
    · intro h2; replace h2:=wHb h2
      have hd:n.tdiv 10=n / 10:=Int.tdiv_eq_ediv_of_nonneg hn.1
      have hmd:n.tmod 10=n % 10:=Int.tmod_eq_emod_of_nonneg hn.1
      refine awp_skip ?_
      refine awp_seq ?_
      refine awp_block ?_
      refine awp_seq ?_
      refine awpF_region ?_; intro K hK; simp only [push_cast,seval,hd,hmd,htj]; refine wKk hK ?_; clear hK K
      refine awpF_region ?_; intro K hK; simp only [push_cast,seval,hd,hmd]; refine wKk hK ?_; clear hK K
      refine inblock_norm ?_
      refine wRg ?_
      obtain ⟨w',hw'⟩ : ∃ w',w - j=w'+1:=⟨w - j - 1,by omega⟩
      refine round_endG (j+1,n / 10,row++[n % 10 - 3]) ([0,1]) ⟨by show w - (j+1)<w - j; omega,⟨by show j+1≤w; omega,by simp [hrl],?_,by show 0≤n / 10; omega,by show n / 10<1073741824; omega⟩,?_⟩
      · dsimp only
        rw [hrow,hw',rowT,show w - (j+1)=w' by omega]
        simp
      · simp only [List.map_append,List.map_cons,List.map_nil,encI]
        push_cast
        exact wRen
    · intro h2; replace h2:=wHb h2
      obtain rfl:j=w:=by omega
      rw [show j - j=0 by omega,rowT,List.append_nil] at hrow
      refine wEx ?_
      refine awpF_region ?_; intro K hK; simp only [push_cast,seval,htk,htj]; refine wKk hK ?_; clear hK K
      refine inblock_norm ?_
      refine wRg ?_
      refine round_endG (i+1) ([0]) ⟨by omega,⟨by omega,by omega⟩,?_⟩
      have e:((l.take (i+1)).map f).map encR=((l.take i).map f).map encR++[[.sl (row.map encI)]]:=by
        rw [List.take_add_one,hv,List.map_append,List.map_append,← hrow,← hfv]
        rfl
      rw [e]
      push_cast
      exact wRen
  · intro h1
    have h1':i=l.length∨i=most:=by simp at h1; omega
    have e:l.take most=l.take i:=by
      rcases h1' with h | h
      · rw [h,List.take_length,List.take_of_length_le (by omega)]
      · rw [h]
    rw [e]
    refine wEx ?_
    refine awp_seq ?_
    refine wRg ?_
    refine wRet ?_
    exact DeepV.row rfl hil.symm
end Go.Aw
