/-
  Push of the program. Conditions: lengths that fit.
-/
import Derived.Test.YtlimahhonfckdaaGreatDoorPxU71
import Derived.Test.YtlimahhonfckdaaGreatDoorPkT
import Derived.Test.YtlimahhonfckdaaGreatDoorPkD
namespace Go.Aw
set_option linter.unusedSimpArgs false
set_option linter.unusedVariables false
open Go.RowKit Go.Proofs
set_option maxRecDepth 100000

def wtV (w:Wt) : List V:=(wtD w).map .d
def wt0:Wt:=⟨[],0,0,[],[]⟩
def encSd (x:Int × Bool) : List D:=[.int .i64 x.1,.bool x.2]
def puW (t:Fm) (w:Wt) (row:List Int) : Wt:=if pushE t w row=0 then pushW t w row else wt0
def puS (t:Fm) (w:Wt) (row:List Int) : List (Int × Bool):=if pushE t w row=0 then saidL t w row else []
theorem deep_wt0 {H:List Blk} (e:D) : DeepV H (.tup [.agg [.nil,.d (.int .i64 0),.d (.int .i64 0),.nil,.nil],.nil,.d e]) (.tup [.agg (wtV wt0),.d (.sl []),.d e]) :=
  DeepV.tups (DeepV.cons (DeepV.aggs (DeepV.cons .nil (DeepV.cons (.dd _) (DeepV.cons (.dd _) (DeepV.cons .nil (DeepV.cons .nil DeepV.nils)))))) (DeepV.cons .nil (DeepV.cons (.dd e) DeepV.nils)))
theorem rowsE_app {w:Int} {a b:List (List Int)} (ha:rowsE w a=0) (hb:rowsE w b=0) : rowsE w (a++b)=0:=by
  induction a with
  | nil=>exact hb
  | cons r a ih =>
    rw [rowsE] at ha
    split at ha
    · rename_i h
      rw [List.cons_append,rowsE,if_pos h]
      exact ih ha
    · rename_i h
      exact absurd ha h
theorem trE_rows {w:Int} {a:List (List Int)} (h:trE a w=0) : rowsE w a=0:=by
  unfold trE at h
  split at h
  · cases h
  split at h
  · cases h
  exact h
theorem trE_app {w:Int} {a b:List (List Int)} (ha:trE a w=0) (hb:trE b w=0) (hl:(a++b).length≤400) : trE (a++b) w=0:=by
  obtain ⟨w1,w2,_,_⟩:=tr_facts ha
  rw [trE,if_neg (by omega),if_neg (by omega)]
  exact rowsE_app (trE_rows ha) (trE_rows hb)
theorem chk_hz {f:List Nd} {w:Int} {t:Fm} (h:chkE f w t=0) : t.hz≤60:=by
  unfold chkE at h
  split at h
  · cases h
  · rename_i h1
    have:¬ 60<t.hz:=fun h2=>h1 ⟨h,h2⟩
    omega
theorem watch_facts {w:Wt} {t:Fm} (h:cwE w t=0) : chkE w.nodes w.width t=0∧trE w.rows w.width=0∧0≤w.fr∧w.fr≤1099511627776∧openL t w.rows w.fr=w.opn∧(w.rows≠[]→w.opn.head? = some w.fr):=by
  unfold cwE at h
  split at h
  · rename_i h1; exact absurd h h1
  rename_i h1
  split at h
  · rename_i h2; exact absurd h h2
  rename_i h2
  split at h
  · cases h
  rename_i h3
  split at h
  · cases h
  rename_i h4
  refine ⟨by simpa using h1,by simpa using h2,by omega,by omega,?_,fun hr => ?_⟩
  · exact Decidable.byContradiction fun e=>h4 (.inl e)
  · exact Decidable.byContradiction fun e=>h4 (.inr ⟨hr,e⟩)
theorem watch_rows {w:Wt} {t:Fm} (h:cwE w t=0) (hw:t.wf) (ho:∀ n,n∈t.flat→okN n) : w.rows.length≤60:=by
  obtain ⟨h1,h2,h3,h4,h5,h6⟩:=watch_facts h
  have hz:=chk_hz h1
  rcases Nat.lt_or_ge 60 w.rows.length with hl | hl
  · exfalso
    have h7:=h6 (by intro e; rw [e] at hl; simp at hl)
    rw [← h5,openL] at h7
    cases ho':opN t w.rows with
    | nil=>rw [ho'] at h7; cases h7
    | cons i l =>
      rw [ho'] at h7
      simp only [List.map_cons,List.head?_cons,Option.some.injEq] at h7
      have hi:=opN_lt (show i∈opN t w.rows by rw [ho']; simp)
      exact vd_dec t w.rows i hw ho (by omega) hi.2
  · exact hl
def stA (t:Fm) (T:List (List Int)) (fr:Int) (A:List Int) (i:Nat) : List Int:=(A.take i).filter fun x=>decide (vd t T (x - fr).toNat=2)
def sdA (t:Fm) (T:List (List Int)) (fr:Int) (A:List Int) (i:Nat) : List (Int × Bool):=((A.take i).filter fun x=>decide (vd t T (x - fr).toNat≠2)).map fun x=>(x,decide (vd t T (x - fr).toNat=1))
def pwM (f:List Nd) (wd fr n:Int) (T:List (List Int)) (S:List Int) : Wt:=match S with
  | []=>⟨f,wd,n,[],[]⟩
  | x::l=>⟨f,wd,x,T.drop (x - fr).toNat,x::l⟩
theorem stA_mem {t:Fm} {T:List (List Int)} {fr:Int} {A:List Int} {i:Nat} {x:Int} (h:x∈stA t T fr A i) : x∈A:=List.mem_of_mem_take (List.mem_filter.1 h).1
theorem stA_zero (t:Fm) (T:List (List Int)) (fr:Int) (A:List Int) : stA t T fr A 0=[]:=rfl
theorem sdA_zero (t:Fm) (T:List (List Int)) (fr:Int) (A:List Int) : sdA t T fr A 0=[]:=rfl
theorem stA_step {t:Fm} {T:List (List Int)} {fr:Int} {A:List Int} {i:Nat} {x:Int} (h:A[i]? = some x) : stA t T fr A (i+1)=stA t T fr A i++if vd t T (x - fr).toNat=2 then [x] else []:=by
  rw [stA,stA,List.take_add_one,h,List.filter_append]
  congr 1
  by_cases h2:vd t T (x - fr).toNat=2 <;> simp [h2]
theorem sdA_step {t:Fm} {T:List (List Int)} {fr:Int} {A:List Int} {i:Nat} {x:Int} (h:A[i]? = some x) : sdA t T fr A (i+1)=sdA t T fr A i++if vd t T (x - fr).toNat=2 then [] else [(x,decide (vd t T (x - fr).toNat=1))]:=by
  rw [sdA,sdA,List.take_add_one,h,List.filter_append,List.map_append]
  congr 1
  by_cases h2:vd t T (x - fr).toNat=2 <;> simp [h2]
theorem stA_len (t:Fm) (T:List (List Int)) (fr:Int) (A:List Int) (i:Nat) : (stA t T fr A i).length≤i:=by
  refine Nat.le_trans (List.length_filter_le _ _) ?_
  rw [List.length_take]
  omega
theorem sdA_len (t:Fm) (T:List (List Int)) (fr:Int) (A:List Int) (i:Nat) : (sdA t T fr A i).length≤i:=by
  rw [sdA,List.length_map]
  refine Nat.le_trans (List.length_filter_le _ _) ?_
  rw [List.length_take]
  omega
theorem awp_virtJ {P:Program} {kp:List Nat} {n:Nat} {s:St} {Q:Exit→St→Prop} {c:Code} (id j k:Nat) (xs:List V) (hi:s.heap[id]? = some (.cells xs)) (hj:xs[j]? = some .nil)
    (h:AWP P kp n c { s with heap:=(s.heap++[Blk.data k []]).set id (.cells (xs.set j (.ref s.heap.length 0 0))) } Q) : AWP P kp n c s Q:=by
  intro hok B a w E F h1 h2 h3
  subst h1
  obtain ⟨e1,e2⟩:=virt_rel h3.rel k
  have hlt:=(List.getElem?_eq_some_iff.1 hi).1
  have h4:Sim B ⟨s.tm,s.heap++[Blk.data k []]⟩ a w (E++[⟨none,k,0⟩]) F:=⟨⟨e2.os,e2.tape,e2.output,e2.size,e2.F0,e2.only,e2.same,e2.lt,e2.hr,e2.src,e2.keep,e2.sz⟩,h3.defers,fun j x hx=>by
    obtain ⟨v,hv,hr⟩:=h3.tm j x hx
    exact ⟨v,hv,hr.evo e1 (fun _ _=>trivial)⟩⟩
  refine h hok B a w _ F rfl h2 (cells_sim h4 id xs (xs.set j (.ref s.heap.length 0 0)) (by rw [List.getElem?_append_left hlt]; exact hi) (by simp) ?_)
  intro i x y hx hy v hv
  rw [List.getElem?_set] at hy
  split at hy
  · rename_i e
    subst e
    rw [hj] at hx
    cases hx
    split at hy
    · cases hy
      cases hv with
      | nil a=>exact .refv _ k 0 a (by rw [← h3.rel.hr.len,List.getElem?_append_right (Nat.le_refl _)]; simp)
    · cases hy
  · rw [hx] at hy
    cases hy
    exact hv
set_option maxHeartbeats 2000000 in
theorem p40 (w:Wt) (t:Fm) (row:List Int) (hf:w.nodes.length≤1000000) (ht:shE w.nodes w.width=0→t.wf∧w.nodes=t.flat) (hr:w.rows.length≤1000000) (ho:w.opn.length≤1000000) (hrow:row.length≤1000000) :
    PD Tryz.prog 52 [.agg (wtD w),.sl (row.map encI)] (.tup [.agg (wtV (puW t w row)),.d (.sl ((puS t w row).map encSd)),.d (.int .i64 (pushE t w row))]):=by
  have h70:=p70 w t hf ht hr ho
  have h20:=p20 [row] w.width
  simp only [List.map_cons,List.map_nil,encR] at h20
  have hE:pushE t w row=if cwE w t≠0 then cwE w t else if trE [row] w.width≠0 then trE [row] w.width else if 1099511627776≤w.fr+(w.rows.length:Int) then 8 else 0:=rfl
  by_cases hc:cwE w t=0
  · rw [if_neg (by simpa using hc)] at hE
    rw [hc] at h70
    obtain ⟨c1,c2,c3,c4,c5,c6⟩:=watch_facts hc
    obtain ⟨_,_,hr4,_⟩:=tr_facts c2
    by_cases htr:trE [row] w.width=0
    · rw [if_neg (by simpa using htr)] at hE
      rw [htr] at h20
      by_cases hl:1099511627776≤w.fr+(w.rows.length:Int)
      · rw [if_pos hl] at hE
        have e1:puW t w row=wt0:=by rw [puW,hE,if_neg (by decide)]
        have e2:puS t w row=[]:=by rw [puS,hE,if_neg (by decide)]
        rw [e1,e2,hE]
        obtain ⟨f,wd,fr,T,O⟩:=w
        simp only [wtD] at *
        have d1:decide (fr+(T.length:Int) ≥ 1099511627776)=true:=decide_eq_true hl
        refine pdv_of (fn:=Tryz.f52) [.cell 4 31,.tmp 5,.tmp 6] (by kernel_rfl) rfl (by kernel_rfl) (Nat.le_of_ble_eq_true rfl) (by kernel_rfl) rfl ?_
        (repeat' (first | refine awp_seq ?_ | refine awp_skip ?_ | refine awp_block ?_ | ((first | (refine awpF_region ?_; intro K hK) | (refine awpF_draw (id:=12) [0,1,3,4,5,6,2,7,8,9] (by kernel_rfl) (by kernel_rfl) rfl ?_; intro K hK) | refine CallK.pd (h70) ?_ | refine CallK.pg (fun _=>h70) ?_ | refine CallK.pd (h20) ?_ | refine CallK.pg (fun _=>h20) ?_); simp only [push_cast,seval,bne_self_eq_false,d1]; refine wObW ?_) | (refine hK _ ?_; clear hK K) | (refine wCd ?_ ?_) | (with_reducible intro hb; exfalso; revert hb; simp [bne_self_eq_false,d1]; done) | (with_reducible intro hb; exfalso; replace hb:=wHb hb; omega; done) | (with_reducible intro hb; replace hb:=wHb hb) | (refine wEx ?_) | (refine wRp ?_; refine fin_of (by simp only [push_cast,seval,bne_self_eq_false,d1]; first | done | rfl) ob1 ?_) | (refine inblock_norm ?_)))
        exact deep_wt0 _
      rw [if_neg hl] at hE
      have e1:puW t w row=pushW t w row:=by rw [puW,if_pos hE]
      have e2:puS t w row=saidL t w row:=by rw [puS,if_pos hE]
      rw [e1,e2,hE]
      have h45:=p45 w.nodes w.width t hf ht
      rw [c1] at h45
      have hs:=chk_sh c1
      obtain ⟨t1,t2⟩:=ht hs
      obtain ⟨hf40,hno,_⟩:=sh_facts hs
      have hr60:=watch_rows hc t1 (fun n hn=>hno n (by rw [t2]; exact hn))
      have h71:=p71c w.rows (by omega) fun r hm=>by
        have:=(tr_facts c2).2.2.2 r hm
        have:=(tr_facts c2).2.1
        omega
      have h72:=p72 row hrow
      have h72c:=p72c w.opn ho
      have h69:=p69 w.nodes hf
      have hT:trE (w.rows++[row]) w.width=0:=trE_app c2 htr (by rw [List.length_append,List.length_singleton]; omega)
      have hjd:∀ (P:List (Nat × Nat)) (Q:List Int),FmOk w.nodes P Q→JudC 101 w.nodes P Q (w.rows++[row]) t 0:=fun P Q hok2 =>
        jud_all (by omega) hok2.1 hno (fun n hn h2=>cols_of (firstE_mem hs n hn) h2 hT) t 0 ⟨t1,by rw [List.drop_zero,Nat.zero_add,← t2,List.drop_length,List.append_nil]⟩ (hok2.2.2 t t1 t2)
      obtain ⟨f,wd,fr,T,O⟩:=w
      simp only [wtD] at *
      have happ:T.map encR++[[.sl (row.map encI)]]=(T++[row]).map encR:=by rw [List.map_append]; rfl
      have hlen:(T++[row]).length=T.length+1:=by rw [List.length_append]; rfl
      have hpE:saidL t ⟨f,wd,fr,T,O⟩ row=sdA t (T++[row]) fr (O++[fr+(T.length:Int)]) (O++[fr+(T.length:Int)]).length:=by
        rw [sdA,List.take_length]
        rfl
      have hpW:pushW t ⟨f,wd,fr,T,O⟩ row=pwM f wd fr (fr+(T.length:Int)+1) (T++[row]) (stA t (T++[row]) fr (O++[fr+(T.length:Int)]) (O++[fr+(T.length:Int)]).length):=by
        rw [stA,List.take_length]
        rfl
      rw [hpE,hpW]
      clear hpE hpW
      generalize hT':T++[row]=T' at *
      have hA:O.map encI++[[.int .i64 (fr+(T.length:Int))]]=(O++[fr+(T.length:Int)]).map encI:=by rw [List.map_append]; rfl
      have hAl:(O++[fr+(T.length:Int)]).length=O.length+1:=by rw [List.length_append]; rfl
      have hAn:∀ x,x∈O++[fr+(T.length:Int)]→∃ n:Nat,x=fr+(n:Int)∧n≤T.length:=fun x hx=>by
        rcases List.mem_append.1 hx with h | h
        · rw [← c5,openL] at h
          obtain ⟨n,hn,rfl⟩:=List.mem_map.1 h
          have:=(opN_lt hn).1
          exact ⟨n,rfl,by omega⟩
        · exact ⟨T.length,List.mem_singleton.1 h,Nat.le_refl _⟩
      generalize O++[fr+(T.length:Int)]=A at *
      have d1:decide (fr+(T.length:Int) ≥ 1099511627776)=false:=decide_eq_false hl
      refine pdv_of (fn:=Tryz.f52) [.cell 4 31,.tmp 5,.tmp 6] (by kernel_rfl) rfl (by kernel_rfl) (Nat.le_of_ble_eq_true rfl) (by kernel_rfl) rfl ?_
      (repeat' (first | refine awp_seq ?_ | refine awp_skip ?_ | refine awp_block ?_ | ((first | ((fail_if_success refine awpF_region (id:=10) ?_); refine awpF_region ?_; intro K hK) | (refine awpF_draw (id:=12) [0,1,3,4,5,6,2,7,8,9] (by kernel_rfl) (by kernel_rfl) rfl ?_; intro K hK) | refine CallK.pd (h70) ?_ | refine CallK.pg (fun _=>h70) ?_ | refine CallK.pd (h20) ?_ | refine CallK.pg (fun _=>h20) ?_); simp only [push_cast,seval,bne_self_eq_false,d1]; refine wObW ?_) | (refine hK _ ?_; clear hK K) | (refine wCd ?_ ?_) | (with_reducible intro hb; exfalso; revert hb; simp [bne_self_eq_false,d1]; done) | (with_reducible intro hb; exfalso; replace hb:=wHb hb; omega; done) | (with_reducible intro hb; replace hb:=wHb hb) | (refine wEx ?_) | (refine wRp ?_; refine fin_of (by simp only [push_cast,seval,bne_self_eq_false,d1]; first | done | rfl) ob1 ?_) | (refine inblock_norm ?_)))
      refine awpF_region ?_; intro K hK; simp only [push_cast,seval]
      refine wOb ?_
      refine CallK.rel h45 ?_
      rintro _ _ ⟨⟨a,b,Q,rfl,hok⟩,rfl⟩
      obtain ⟨rfl,P,rfl,hok2⟩:=hok rfl
      have hj:=hjd P Q hok2
      have h50:=p50 f P Q T'
      have tT':(T'.map encR).take (T.length+1)=T'.map encR:=List.take_of_length_le (by simp [hlen])
      simp only [push_cast,seval]
      refine wOb ?_
      refine hK _ ?_; clear hK K
      refine awp_seq ?_
      refine awpF_region ?_; intro K hK; simp only [push_cast,seval]
      refine CallK.rel h71 ?_
      rintro _ _ ⟨rfl,rfl⟩
      simp only [push_cast,seval]
      refine wOb ?_
      refine CallK.pd (h72) ?_; refine wXo ?_
      have tT:(T.map encR).take T.length=T.map encR:=List.take_of_length_le (by simp)
      simp only [tT,happ]
      refine wOb ?_
      refine hK _ ?_; clear hK K
      refine awp_seq ?_
      refine awpF_drawT (DT.op 0 (DT.op 1 (DT.op 3 (DT.op 4 (DT.op 5 (DT.op 6 (DT.or (DT.op 2 (DT.op 7 (DT.op 8 (DT.op 9 DT.nil)))) (DT.op 8 (DT.op 2 (DT.op 7 (DT.op 9 DT.nil))))))))))) (by kernel_rfl) (by kernel_rfl) (by kernel_rfl) ?_; intro K hK; apply dt_close; (rotate_left; (intro fin; (focus (simp only [push_cast,seval]; (try simp (disch:=omega) only [wrapI]); (repeat' (first | exact fin | (with_reducible refine And.intro ?_ ?_) | (refine CallK.pd (h69) ?_; simp only [push_cast,seval]; (try simp (disch:=omega) only [wrapI])) | (refine CallK.pg (fun _=>h69) ?_; simp only [push_cast,seval]; (try simp (disch:=omega) only [wrapI])) | exact ob1)))))); refine hK _ ?_; clear hK K
      refine awp_seq ?_
      refine wRg ?_
      refine awp_virt 14 2 (by simp only [push_cast,seval]) ?_
      refine awp_seq ?_
      refine awpF_region ?_; intro K hK; simp only [push_cast,seval,tT']
      refine CallK.rel h50 ?_
      rintro _ _ ⟨rfl,bq,cq,rfl⟩
      unfold jdK
      simp only [push_cast,seval]
      refine wOb ?_
      refine hK _ ?_; clear hK K
      refine awp_virtJ 6 4 1 _ rfl rfl ?_
      simp only [List.set_cons_succ,List.set_cons_zero,List.cons_append,List.nil_append,List.length_cons,List.length_nil]
      refine awp_seq ?_
      refine awp_seq ?_
      refine awpF_region ?_; intro K hK; simp only [push_cast,seval]
      refine CallK.rel h72c ?_
      rintro _ _ ⟨rfl,rfl⟩
      simp only [push_cast,seval]
      refine wOb ?_
      have tO:(O.map encI).take O.length=O.map encI:=List.take_of_length_le (by simp)
      simp only [tO,hA]
      refine wOb ?_
      refine hK _ ?_; clear hK K
      refine awp_block ?_
      refine awp_loopP (α:=Nat × List (V × V)) (st:=fun x=>⟨[(2,.ptr 0 0 0),(4,.ptr 1 0 0),(12,.d (.sl (T'.map encR))),(13,.ptr 2 0 0),(14,.ref 3 0 (sdA t T' fr A x.1).length),(15,.ptr 4 0 0),(74,.ref 5 0 A.length),(75,.d (.int .i64 A.length)),(76,.d (.int .i64 x.1))],[.cells [.d (.sl (f.map encNd)),.d (.int .i64 wd),.d (.int .i64 fr),.d (.sl (T.map encR)),.d (.sl (O.map encI))],.cells [.nil,.d (.int .i64 0),.d (.int .i64 0),.nil,.nil],.cells [.d (.sl (f.map encNd)),.d (.int .i64 wd),.d (.int .i64 (fr+(T.length:Int)+1)),.nil,.ref 6 0 (stA t T' fr A x.1).length],.data 2 ((sdA t T' fr A x.1).map encSd),.cells [.d (.sl (f.map encNd)),.d (.sl (P.map encP2)),.d (.sl (Q.map encH)),.d (.sl (T'.map encR)),.map 7],.data 1 (A.map encI),.data 1 ((stA t T' fr A x.1).map encI),.mp x.2]⟩)
        (inv:=fun x=>x.1≤A.length∧EOK f T' x.2) (μ:=fun x=>A.length - x.1) (x0:=(0,[])) (r0:=[0,1,6,7,11,13,12,10]) ⟨Nat.zero_le _,EOK.nil f T'⟩ ?_ ?_
      · simp only [stA_zero,sdA_zero,hAl]
        exact wRen
      rintro ⟨i,es⟩ ⟨hi,he⟩
      refine awp_seq ?_
      refine wRg ?_
      refine awp_seq ?_
      refine wCd ?_ ?_
      · intro h3; replace h3:=wHb h3
        simp only at hi he h3
        have hlt:i<A.length:=by omega
        obtain ⟨x,hx⟩ : ∃ x,A[i]? = some x:=⟨_,List.getElem?_eq_getElem hlt⟩
        obtain ⟨n,hxn,hn60⟩:=hAn x (List.mem_of_getElem? hx)
        have hxm:(x - fr).toNat=n:=by omega
        have hw:IntKind.i64.wrap (x - fr)=(n:Int):=by rw [wrapI _ (by omega)]; omega
        have hk:=p51k hj (by rw [hlen]; omega) (by rw [← t2]; omega) n (by omega) es he 7
        have hs1:=stA_step (t:=t) (T:=T') (fr:=fr) hx
        have hs2:=sdA_step (t:=t) (T:=T') (fr:=fr) hx
        have hl1:=stA_len t T' fr A i
        have hl2:=sdA_len t T' fr A i
        have hv2:=vd_le t T' n
        rw [hxm] at hs1 hs2
        unfold jdK at hk
        generalize vd t T' n=v at *
        generalize stA t T' fr A i=S1 at *
        generalize sdA t T' fr A i=S2 at *
        have tS1:(S1.map encI).take S1.length=S1.map encI:=List.take_of_length_le (by simp)
        have tS2:(S2.map encSd).take S2.length=S2.map encSd:=List.take_of_length_le (by simp)
        have tA:(A.map encI).take A.length=A.map encI:=List.take_of_length_le (by simp)
        have gA:((A.map encI)[i]?.getD []).getD 0 .nilptr=.int .i64 x:=by rw [List.getElem?_map,hx]; rfl
        refine awp_skip ?_
        refine awp_mid (fun u=>∃ es',EOK f T' es'∧u=⟨[(2,.ptr 0 0 0),(4,.ptr 1 0 0),(12,.d (.sl (T'.map encR))),(13,.ptr 2 0 0),(14,.ref 3 0 (sdA t T' fr A (i+1)).length),(15,.ptr 4 0 0),(74,.ref 5 0 A.length),(75,.d (.int .i64 A.length)),(76,.d (.int .i64 i))],[.cells [.d (.sl (f.map encNd)),.d (.int .i64 wd),.d (.int .i64 fr),.d (.sl (T.map encR)),.d (.sl (O.map encI))],.cells [.nil,.d (.int .i64 0),.d (.int .i64 0),.nil,.nil],.cells [.d (.sl (f.map encNd)),.d (.int .i64 wd),.d (.int .i64 (fr+(T.length:Int)+1)),.nil,.ref 6 0 (stA t T' fr A (i+1)).length],.data 2 ((sdA t T' fr A (i+1)).map encSd),.cells [.d (.sl (f.map encNd)),.d (.sl (P.map encP2)),.d (.sl (Q.map encH)),.d (.sl (T'.map encR)),.map 7],.data 1 (A.map encI),.data 1 ((stA t T' fr A (i+1)).map encI),.mp es']⟩) ?_ ?_
        · refine awp_block ?_
          refine awp_seq ?_
          refine awpF_region ?_; intro K hK; simp only [push_cast,seval,hx,encI,Int.toNat_natCast]; refine wKk hK ?_; clear hK K
          refine awp_seq ?_
          refine awpF_regionH [5] ?_; intro K hK; simp only [push_cast,seval,List.zipIdx_cons,List.zipIdx_nil,hw]
          refine HeapK.mk _ (hk _ _ rfl) ?_
          rintro _ _ ⟨rfl,es',rfl,he'⟩
          simp only [push_cast,seval,List.set_cons_succ,List.set_cons_zero]
          refine hK _ ?_; clear hK K
          refine awp_seq ?_
          refine wRg ?_
          refine awp_block ?_
          refine awp_seq ?_
          refine wRg ?_
          refine wCd ?_ ?_
          · intro h4
            have h4':v=2:=by
              have:((v:Int)==2)=true:=h4
              simp at this
              omega
            rw [if_pos h4'] at hs1 hs2
            rw [List.append_nil] at hs2
            rw [hs1,hs2]
            have hsc:=he'.scr2 6
            refine awpF_region ?_; intro K hK; simp only [push_cast,seval,tS1]; refine wKk hK ?_; clear hK K
            refine inblock_norm ?_
            refine inblock_norm ?_
            refine mid_end [0,1,2,3,4,5,6,7] _ ⟨es',he',rfl⟩ ?_
            refine ⟨by simp,by simp,by simp [push_cast,seval,he'.ren,hsc,encI],by simp [push_cast,seval],by simp [push_cast,seval],?_⟩
            simp [push_cast,seval]
            exact he'.bel2
          · intro h4
            have h4':v≠2:=by
              rintro rfl
              cases h4
            rw [if_neg h4'] at hs1 hs2
            rw [List.append_nil] at hs1
            rw [hs1,hs2]
            have hsc:=he'.scr2 3
            rcases show v=0∨v=1 by omega with rfl | rfl
            · refine awp_seq ?_
              refine awp_seq ?_
              refine wRg ?_
              refine wCd ?_ ?_
              · intro h; cases h
              intro _
              refine wRg ?_
              refine wCd ?_ ?_
              · intro _
                refine awpF_region ?_; intro K hK; simp only [push_cast,seval,tS2]; refine wKk hK ?_; clear hK K
                refine inblock_norm ?_
                refine inblock_norm ?_
                refine mid_end [0,1,2,3,4,5,6,7] _ ⟨es',he',rfl⟩ ?_
                refine ⟨by simp,by simp,by simp [push_cast,seval,he'.ren,hsc,encSd],by simp [push_cast,seval],by simp [push_cast,seval],?_⟩
                simp [push_cast,seval]
                exact he'.bel2
              · intro h; cases h
            · refine awp_seq ?_
              refine awp_seq ?_
              refine wRg ?_
              refine wCd ?_ ?_
              · intro _
                refine awp_skip ?_
                refine wCd ?_ ?_
                · intro _
                  refine awpF_region ?_; intro K hK; simp only [push_cast,seval,tS2]; refine wKk hK ?_; clear hK K
                  refine inblock_norm ?_
                  refine inblock_norm ?_
                  refine mid_end [0,1,2,3,4,5,6,7] _ ⟨es',he',rfl⟩ ?_
                  refine ⟨by simp,by simp,by simp [push_cast,seval,he'.ren,hsc,encSd],by simp [push_cast,seval],by simp [push_cast,seval],?_⟩
                  simp [push_cast,seval]
                  exact he'.bel2
                · intro h; cases h
              · intro h; cases h
        rintro _ ⟨es',he',rfl⟩
        refine wRg ?_
        refine round_endG (i+1,es') [0,1,2,3,4,5,6,7] ⟨by simp only; omega,⟨by simp only; omega,he'⟩,?_⟩
        push_cast
        refine ⟨by simp,by simp,by simp [push_cast,seval,he'.ren],by simp [push_cast,seval],by simp [push_cast,seval],?_⟩
        simp [push_cast,seval]
        exact he'.bel2
      · intro h3; replace h3:=wHb h3
        simp only at h3 hi
        obtain rfl:i=A.length:=by omega
        refine wEx ?_
        have hmem:=fun x (h:x∈stA t T' fr A A.length)=>hAn x (stA_mem h)
        have hl1:=stA_len t T' fr A A.length
        generalize stA t T' fr A A.length=S1 at *
        generalize sdA t T' fr A A.length=S2 at *
        have dS2:∀ (b0 b1 b2:Blk) (X:List Blk),DeepV (b0::b1::b2::.data 2 (S2.map encSd)::X) (.ref 3 0 S2.length) (.d (.sl (S2.map encSd))):=fun b0 b1 b2 X=>DeepV.row rfl (by simp)
        cases S1 with
        | nil =>
          refine awp_seq ?_
          refine awp_seq ?_
          refine wRg ?_
          refine wCd ?_ ?_
          · intro h
            simp at h
          intro _
          refine awp_skip ?_
          refine awp_seq ?_
          refine wRg ?_
          refine wRet ?_
          exact DeepV.tups (DeepV.cons (DeepV.aggs (DeepV.cons (.dd _) (DeepV.cons (.dd _) (DeepV.cons (.dd _) (DeepV.cons .nil (DeepV.cons (DeepV.row rfl rfl) DeepV.nils)))))) (DeepV.cons (dS2 _ _ _ _) (DeepV.cons (.dd _) DeepV.nils)))
        | cons y S1 =>
          obtain ⟨n,hyn,hnT⟩:=hmem y (by simp)
          have hw:IntKind.i64.wrap (y - fr)=(n:Int):=by rw [wrapI _ (by omega)]; omega
          have hd:decide ((S1.length:Int)+1 > 0)=true:=decide_eq_true (by omega)
          refine awp_seq ?_
          refine awp_seq ?_
          refine awpF_region ?_; intro K hK; simp only [push_cast,seval,List.length_cons,hd]; refine wKk hK ?_; clear hK K
          refine wCd ?_ ?_
          · intro _
            refine awp_seq ?_
            refine awpF_region ?_; intro K hK; simp only [push_cast,seval,List.getElem?_cons_zero,Option.getD_some,encI]; refine wKk hK ?_; clear hK K
            refine awpF_region ?_; intro K hK; simp only [push_cast,seval,hw,Int.toNat_natCast]; refine wKk hK ?_; clear hK K
            refine awp_seq ?_
            refine wRg ?_
            have hdr:((T'.map encR).drop n).take (T'.length - n)=(T'.drop (y - fr).toNat).map encR:=by
              rw [show (y - fr).toNat=n by omega,List.take_of_length_le (by simp),List.map_drop]
            refine wRet ?_
            rw [hdr]
            exact DeepV.tups (DeepV.cons (DeepV.aggs (DeepV.cons (.dd _) (DeepV.cons (.dd _) (DeepV.cons (.dd _) (DeepV.cons (.dd _) (DeepV.cons (DeepV.row rfl (by simp [pwM])) DeepV.nils)))))) (DeepV.cons (dS2 _ _ _ _) (DeepV.cons (.dd _) DeepV.nils)))
          · intro h; cases h
    · rw [if_pos htr] at hE
      have e1:puW t w row=wt0:=by rw [puW,hE,if_neg htr]
      have e2:puS t w row=[]:=by rw [puS,hE,if_neg htr]
      rw [e1,e2,hE]
      obtain ⟨f,wd,fr,T,O⟩:=w
      simp only [wtD] at *
      have hb1:(trE [row] wd != 0)=true:=by simpa using htr
      generalize trE [row] wd=e at *
      refine pdv_of (fn:=Tryz.f52) [.cell 4 31,.tmp 5,.tmp 6] (by kernel_rfl) rfl (by kernel_rfl) (Nat.le_of_ble_eq_true rfl) (by kernel_rfl) rfl ?_
      (repeat' (first | refine awp_seq ?_ | refine awp_skip ?_ | refine awp_block ?_ | ((first | (refine awpF_region ?_; intro K hK) | (refine awpF_draw (id:=12) [0,1,3,4,5,6,2,7,8,9] (by kernel_rfl) (by kernel_rfl) rfl ?_; intro K hK) | refine CallK.pd (h70) ?_ | refine CallK.pg (fun _=>h70) ?_ | refine CallK.pd (h20) ?_ | refine CallK.pg (fun _=>h20) ?_); simp only [push_cast,seval,bne_self_eq_false,hb1]; refine wObW ?_) | (refine hK _ ?_; clear hK K) | (refine wCd ?_ ?_) | (with_reducible intro hb; exfalso; revert hb; simp [bne_self_eq_false,hb1]; done) | (with_reducible intro hb; exfalso; replace hb:=wHb hb; omega; done) | (with_reducible intro hb; replace hb:=wHb hb) | (refine wEx ?_) | (refine wRp ?_; refine fin_of (by simp only [push_cast,seval,bne_self_eq_false,hb1]; first | done | rfl) ob1 ?_) | (refine inblock_norm ?_)))
      exact deep_wt0 _
  · rw [if_pos hc] at hE
    have e1:puW t w row=wt0:=by rw [puW,hE,if_neg hc]
    have e2:puS t w row=[]:=by rw [puS,hE,if_neg hc]
    rw [e1,e2,hE]
    have hb1:(cwE w t != 0)=true:=by simpa using hc
    generalize cwE w t=e at *
    obtain ⟨f,wd,fr,T,O⟩:=w
    simp only [wtD] at *
    refine pdv_of (fn:=Tryz.f52) [.cell 4 31,.tmp 5,.tmp 6] (by kernel_rfl) rfl (by kernel_rfl) (Nat.le_of_ble_eq_true rfl) (by kernel_rfl) rfl ?_
    (repeat' (first | refine awp_seq ?_ | refine awp_skip ?_ | refine awp_block ?_ | ((first | (refine awpF_region ?_; intro K hK) | (refine awpF_draw (id:=12) [0,1,3,4,5,6,2,7,8,9] (by kernel_rfl) (by kernel_rfl) rfl ?_; intro K hK) | refine CallK.pd (h70) ?_ | refine CallK.pg (fun _=>h70) ?_); simp only [push_cast,seval,hb1]; refine wObW ?_) | (refine hK _ ?_; clear hK K) | (refine wCd ?_ ?_) | (with_reducible intro hb; exfalso; revert hb; simp [hb1]; done) | (with_reducible intro hb; exfalso; replace hb:=wHb hb; omega; done) | (with_reducible intro hb; replace hb:=wHb hb) | (refine wEx ?_) | (refine wRp ?_; refine fin_of (by simp only [push_cast,seval,hb1]; first | done | rfl) ob1 ?_) | (refine inblock_norm ?_)))
    exact deep_wt0 _
end Go.Aw
