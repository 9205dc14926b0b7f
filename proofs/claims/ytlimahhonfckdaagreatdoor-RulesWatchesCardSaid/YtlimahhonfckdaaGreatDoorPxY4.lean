/-
  Push of the program,with a row of the caller's own. Conditions: a valid watch,lengths that fit.
-/
import Derived.Test.YtlimahhonfckdaaGreatDoorPxU72
import Derived.Test.YtlimahhonfckdaaGreatDoorPxAwAb
import Derived.Test.YtlimahhonfckdaaGreatDoorPkT
namespace Go.Aw
set_option linter.unusedSimpArgs false
set_option linter.unusedVariables false
open Go.RowKit Go.Proofs
set_option maxRecDepth 100000

def unnil:V→V
  | .nil=>.d (.sl [])
  | x=>x
theorem awp_nil {P:Program} {kp:List Nat} {n:Nat} {s:St} {Q:Exit→St→Prop} {c:Code} (id:Nat) (xs:List V) (hi:s.heap[id]? = some (.cells xs))
    (h:AWP P kp n c { s with heap:=s.heap.set id (.cells (xs.map unnil)) } Q) : AWP P kp n c s Q:=by
  refine awp_cells id xs (xs.map unnil) hi (by simp) (fun j x y hx hy E F w v hv => ?_) h
  rw [List.getElem?_map,hx,Option.map_some,Option.some.injEq] at hy
  subst hy
  cases x with
  | nil=>cases hv with | nil a=>exact .d _ _ (.sl0 a 0)
  | _=>exact hv
theorem unnil_VR {E:Env} {F:Nat→Prop} {w:World} {x:V} {v:Value} (hv:VR E F w x v) : VR E F w (unnil x) v:=by
  cases x with
  | nil=>cases hv with | nil a=>exact .d _ _ (.sl0 a 0)
  | _=>exact hv
def un1:V→V
  | .nil=>.d (.sl [])
  | .agg ys=>.agg (ys.map unnil)
  | x=>x
theorem un1_VR {E:Env} {F:Nat→Prop} {w:World} {x:V} {v:Value} (hv:VR E F w x v) : VR E F w (un1 x) v:=by
  cases x with
  | nil=>cases hv with | nil a=>exact .d _ _ (.sl0 a 0)
  | agg ys =>
    cases hv with
    | agg _ cs hs hr =>
      refine .agg (ys.map unnil) cs (by simpa using hs) fun j y u hy hu => ?_
      rw [List.getElem?_map,Option.map_eq_some_iff] at hy
      obtain ⟨z,hz,rfl⟩:=hy
      exact unnil_VR (hr j z u hz hu)
  | _=>exact hv
def unx:V→V
  | .tup xs=>.tup (xs.map un1)
  | x=>x
theorem unx_VR {E:Env} {F:Nat→Prop} {w:World} {x:V} {v:Value} (hv:VR E F w x v) : VR E F w (unx x) v:=by
  cases x with
  | tup ys =>
    cases hv with
    | tup _ cs hs hr =>
      refine .tup (ys.map un1) cs (by simpa using hs) fun j y u hy hu => ?_
      rw [List.getElem?_map,Option.map_eq_some_iff] at hy
      obtain ⟨z,hz,rfl⟩:=hy
      exact un1_VR (hr j z u hz hu)
  | _=>exact hv
theorem AC.unx {P:Program} {f:FuncId} {args:List V} {H:List Blk} {kp:List Nat} {R:V→List Blk→Prop} (h:AC P f args H kp fun x H'=>R (Go.Aw.unx x) H') : AC P f args H kp R:=by
  refine ⟨h.1,fun w cargs E F h1 h2 h3 h4=>(h.2 w cargs E F h1 h2 h3 h4).mono ?_⟩
  rintro e w' ⟨v,x,H',E',F',q1,q2,q3,q4⟩
  exact ⟨v,_,H',E',F',q1,q2,q3,unx_VR q4⟩
theorem deep_one {H:List Blk} {k j n:Nat} {rows:List (List D)} (h0:H[k]? = some (.vrs 1 [[.ref j 0 n]])) (h1:H[j]? = some (.data 1 rows)) (hn:n=rows.length) : DeepV H (.ref k 0 1) (.d (.sl [[.sl rows]])):=by
  subst hn
  refine .of _ _ (Deep.vrs k 1 [[.ref j 0 rows.length]] [[.sl rows]] h0 rfl (fun i drow hi => ?_) fun i row drow m x y hi hd hx hy => ?_)
  · cases i with
    | zero=>simp at hi; subst hi; rfl
    | succ i=>simp at hi
  · cases i with
    | zero =>
      simp at hi hd
      subst hi hd
      cases m with
      | zero =>
        simp at hx hy
        subst hx hy
        have h:=Deep.data (H:=H) j 0 rows.length 1 rows h1 (by omega)
        rw [List.drop_zero,List.take_of_length_le (by omega)] at h
        exact h
      | succ m=>simp at hx
    | succ i=>simp at hi
theorem lit_X {P:Program} {kp:List Nat} {ops:Array Oper} {s:St} {K:St→Prop} {t:TypeId} {n k:Nat} {parts:Array (Nat × Operand)} {d:Option Tmp} {ty:TypeId} {ps:String} {af:Array Edge} {ob:Prop} {rows:List (List V)}
    (h:litVQ P s t n parts=some (ob,k,rows)) (hob:ob) (hK:K (({ s with heap:=s.heap++[.vrs k rows] } : St).put d (.ref s.heap.length 0 n))) :
    OpX2 P kp ops { dst:=d,op:=.buildSlice t n parts,type:=ty,pos:=ps,after:=af,guard:=none } s K:=by
  intro B a w E F Q h1 hs hd
  refine .inl ⟨rfl,?_⟩
  obtain ⟨v,w',hrun,_,E',q1,q2,q3⟩:=litV_sound (a:=a) h hob hs
  unfold Oper.wp
  have:(execOp a.eval { dst:=d,op:=.buildSlice t n parts,type:=ty,pos:=ps,after:=af,guard:=none }).run P w=.ok (.value v) w':=by
    simp [execOp,hrun]
  rw [this]
  exact ⟨v,_,E',F,rfl,hK,Sim.put (hs.evo q1 q2 rfl) q3 hd⟩
set_option maxHeartbeats 4000000 in
theorem q52 (w:Wt) (t:Fm) (row:List Int) (hf:w.nodes.length≤1000000) (ht:shE w.nodes w.width=0→t.wf∧w.nodes=t.flat) (hc:cwE w t=0) (hrow:row.length≤1000000) (hfr:w.fr+(w.rows.length:Int)<1099511627776) :
    AC Tryz.prog 52 [.agg (wtV w),.ref 0 0 row.length] [.data 1 (row.map encI)] [0] fun x H'=>x=.tup [.agg (wtV (puW t w row)),.d (.sl ((puS t w row).map encSd)),.d (.int .i64 (pushE t w row))]∧H'=[.data 1 (row.map encI)]:=by
  refine AC.cut (R:=fun x H'=>x=.tup [.agg (wtV (puW t w row)),.d (.sl ((puS t w row).map encSd)),.d (.int .i64 (pushE t w row))]∧∃ X,H'=[.data 1 (row.map encI)]++X) ?_ ?_
  rotate_left
  · rintro x _ ⟨rfl,X,rfl⟩
    exact ⟨_,X,rfl,rfl,rfl,by simp,rfl,rfl⟩
  refine AC.unx ?_
  have hE:pushE t w row=if cwE w t≠0 then cwE w t else if trE [row] w.width≠0 then trE [row] w.width else if 1099511627776≤w.fr+(w.rows.length:Int) then 8 else 0:=rfl
  rw [if_neg (by simpa using hc)] at hE
  obtain ⟨c1,c2,c3,c4,c5,c6⟩:=watch_facts hc
  obtain ⟨_,_,hr4,_⟩:=tr_facts c2
  have ho:w.opn.length≤1000000:=by rw [← c5]; have:=openL_len t w.rows w.fr; omega
  have h70:=p70 w t hf ht (by omega) ho
  rw [hc] at h70
  have h20:=p20 [row] w.width
  simp only [List.map_cons,List.map_nil,encR] at h20
  by_cases htr:trE [row] w.width=0
  rotate_left
  · rw [if_pos htr] at hE
    have e1:puW t w row=wt0:=by rw [puW,hE,if_neg htr]
    have e2:puS t w row=[]:=by rw [puS,hE,if_neg htr]
    rw [e1,e2,hE]
    obtain ⟨f,wd,fr,T,O⟩:=w
    simp only [wtD,wtV,List.map_cons,List.map_nil] at *
    have hb1:(trE [row] wd != 0)=true:=by simpa using htr
    generalize trE [row] wd=e at *
    refine ac_ofF (fn:=Tryz.f52) [.cell 4 31,.tmp 5,.tmp 6] (by kernel_rfl) rfl (by kernel_rfl) (Nat.le_of_ble_eq_true rfl) (by kernel_rfl) rfl ?_
    (repeat' (first | refine awp_seq ?_ | refine awp_skip ?_ | refine awp_block ?_ | ((first | ((fail_if_success refine awpF_region (id:=4) ?_); refine awpF_region ?_; intro K hK) | (refine awpF_draw (id:=12) [0,1,3,4,5,6,2,7,8,9] (by kernel_rfl) (by kernel_rfl) rfl ?_; intro K hK) | refine CallK.pd (h70) ?_ | refine CallK.pg (fun _=>h70) ?_); simp only [push_cast,seval,bne_self_eq_false]; refine wObW ?_) | (refine hK _ ?_; clear hK K) | (refine wCd ?_ ?_) | (with_reducible intro hb; exfalso; revert hb; simp [bne_self_eq_false]; done) | (with_reducible intro hb; exfalso; replace hb:=wHb hb; omega; done) | (with_reducible intro hb; replace hb:=wHb hb) | (refine wEx ?_) | (refine wRp ?_; refine fin_of (by simp only [push_cast,seval,bne_self_eq_false]; first | done | rfl) ob1 ?_) | (refine inblock_norm ?_)))
    refine awp_regionF ?_; intro K hK
    refine from_X 1 rfl rfl ?_; refine wXo ?_
    refine lit_X (h:=by simp only [push_cast,seval]; rfl) ?_ ?_
    · simp only [push_cast,seval]
    simp only [push_cast,seval]
    refine from_X 4 rfl rfl ?_; refine wXo ?_
    refine OpK.toX (callRO (ds:=[.sl [[.sl (row.map encI)]],.int .i64 wd]) ?_ ?_ h20 rfl ?_)
    · simp only [push_cast,seval]
    · simp only [push_cast,seval]
      exact ⟨deep_one rfl rfl (by simp),DeepV.dd _,trivial⟩
    refine from_end ?_; simp only [push_cast,seval]; refine wKk hK ?_; clear hK K
    (repeat' (first | refine awp_seq ?_ | refine awp_skip ?_ | refine awp_block ?_ | ((first | (refine awpF_region ?_; intro K hK) | (refine awpF_draw (id:=12) [0,1,3,4,5,6,2,7,8,9] (by kernel_rfl) (by kernel_rfl) rfl ?_; intro K hK)); simp only [push_cast,seval,bne_self_eq_false,hb1]; refine wObW ?_) | (refine hK _ ?_; clear hK K) | (refine wCd ?_ ?_) | (with_reducible intro hb; exfalso; revert hb; simp [bne_self_eq_false,hb1]; done) | (with_reducible intro hb; exfalso; replace hb:=wHb hb; omega; done) | (with_reducible intro hb; replace hb:=wHb hb) | (refine wEx ?_) | (refine wRp ?_; refine fin_of (by simp only [push_cast,seval,bne_self_eq_false,hb1]; first | done | rfl) ob1 ?_) | (refine inblock_norm ?_)))
    exact ⟨rfl,_,rfl⟩
  rw [if_neg (by simpa using htr),if_neg (by omega)] at hE
  rw [htr] at h20
  have e1:puW t w row=pushW t w row:=by rw [puW,if_pos hE]
  have e2:puS t w row=saidL t w row:=by rw [puS,if_pos hE]
  rw [e1,e2,hE]
  have h45:=p45 w.nodes w.width t hf ht
  rw [c1] at h45
  have hs:=chk_sh c1
  obtain ⟨t1,t2⟩:=ht hs
  obtain ⟨hf40,hno,_⟩:=sh_facts hs
  have hr60:=watch_rows hc t1 (fun n hn=>hno n (by rw [t2]; exact hn))
  have h71:=p71c w.rows (by omega) fun r hm=>by
    have:=(tr_facts c2).2.2.2 r hm
    have:=(tr_facts c2).2.1
    omega
  have h72c:=p72c w.opn ho
  have h69:=p69 w.nodes hf
  have hT:trE (w.rows++[row]) w.width=0:=trE_app c2 htr (by rw [List.length_append,List.length_singleton]; omega)
  have hjd:∀ (P:List (Nat × Nat)) (Q:List Int),FmOk w.nodes P Q→JudC 101 w.nodes P Q (w.rows++[row]) t 0:=fun P Q hok2 =>
    jud_all (by omega) hok2.1 hno (fun n hn h2=>cols_of (firstE_mem hs n hn) h2 hT) t 0 ⟨t1,by rw [List.drop_zero,Nat.zero_add,← t2,List.drop_length,List.append_nil]⟩ (hok2.2.2 t t1 t2)
  obtain ⟨f,wd,fr,T,O⟩:=w
  simp only [wtD] at *
  have happ:T.map encR++[[.sl (row.map encI)]]=(T++[row]).map encR:=by rw [List.map_append]; rfl
  have hlen:(T++[row]).length=T.length+1:=by rw [List.length_append]; rfl
  have hpE:saidL t ⟨f,wd,fr,T,O⟩ row=sdA t (T++[row]) fr (O++[fr+(T.length:Int)]) (O++[fr+(T.length:Int)]).length:=by
    rw [sdA,List.take_length]
    rfl
  have hpW:pushW t ⟨f,wd,fr,T,O⟩ row=pwM f wd fr (fr+(T.length:Int)+1) (T++[row]) (stA t (T++[row]) fr (O++[fr+(T.length:Int)]) (O++[fr+(T.length:Int)]).length):=by
    rw [stA,List.take_length]
    rfl
  rw [hpE,hpW]
  clear hpE hpW
  generalize hT':T++[row]=T' at *
  have hA:O.map encI++[[.int .i64 (fr+(T.length:Int))]]=(O++[fr+(T.length:Int)]).map encI:=by rw [List.map_append]; rfl
  have hAl:(O++[fr+(T.length:Int)]).length=O.length+1:=by rw [List.length_append]; rfl
  have hAn:∀ x,x∈O++[fr+(T.length:Int)]→∃ n:Nat,x=fr+(n:Int)∧n≤T.length:=fun x hx=>by
    rcases List.mem_append.1 hx with h | h
    · rw [← c5,openL] at h
      obtain ⟨n,hn,rfl⟩:=List.mem_map.1 h
      have:=(opN_lt hn).1
      exact ⟨n,rfl,by omega⟩
    · exact ⟨T.length,List.mem_singleton.1 h,Nat.le_refl _⟩
  generalize O++[fr+(T.length:Int)]=A at *
  have d1:decide (fr+(T.length:Int) ≥ 1099511627776)=false:=decide_eq_false (by omega)
  have trw:(row.map encI).take row.length=row.map encI:=List.take_of_length_le (by simp)
  simp only [wtV,wtD,List.map_cons,List.map_nil]
  refine ac_ofF (fn:=Tryz.f52) [.cell 4 31,.tmp 5,.tmp 6] (by kernel_rfl) rfl (by kernel_rfl) (Nat.le_of_ble_eq_true rfl) (by kernel_rfl) rfl ?_
  (repeat' (first | refine awp_seq ?_ | refine awp_skip ?_ | refine awp_block ?_ | ((first | ((fail_if_success refine awpF_region (id:=4) ?_); refine awpF_region ?_; intro K hK) | (refine awpF_draw (id:=12) [0,1,3,4,5,6,2,7,8,9] (by kernel_rfl) (by kernel_rfl) rfl ?_; intro K hK) | refine CallK.pd (h70) ?_ | refine CallK.pg (fun _=>h70) ?_); simp only [push_cast,seval,bne_self_eq_false]; refine wObW ?_) | (refine hK _ ?_; clear hK K) | (refine wCd ?_ ?_) | (with_reducible intro hb; exfalso; revert hb; simp [bne_self_eq_false]; done) | (with_reducible intro hb; exfalso; replace hb:=wHb hb; omega; done) | (with_reducible intro hb; replace hb:=wHb hb) | (refine wEx ?_) | (refine wRp ?_; refine fin_of (by simp only [push_cast,seval,bne_self_eq_false]; first | done | rfl) ob1 ?_) | (refine inblock_norm ?_)))
  refine awp_regionF ?_; intro K hK
  refine from_X 1 rfl rfl ?_; refine wXo ?_
  refine lit_X (h:=by simp only [push_cast,seval]; rfl) ?_ ?_
  · simp only [push_cast,seval]
  simp only [push_cast,seval]
  refine from_X 4 rfl rfl ?_; refine wXo ?_
  refine OpK.toX (callRO (ds:=[.sl [[.sl (row.map encI)]],.int .i64 wd]) ?_ ?_ h20 rfl ?_)
  · simp only [push_cast,seval]
  · simp only [push_cast,seval]
    exact ⟨deep_one rfl rfl (by simp),DeepV.dd _,trivial⟩
  refine from_end ?_; simp only [push_cast,seval]; refine wKk hK ?_; clear hK K
  (repeat' (first | refine awp_seq ?_ | refine awp_skip ?_ | refine awp_block ?_ | ((first | ((fail_if_success refine awpF_region (id:=10) ?_); refine awpF_region ?_; intro K hK) | (refine awpF_draw (id:=12) [0,1,3,4,5,6,2,7,8,9] (by kernel_rfl) (by kernel_rfl) rfl ?_; intro K hK)); simp only [push_cast,seval,bne_self_eq_false,d1]; refine wObW ?_) | (refine hK _ ?_; clear hK K) | (refine wCd ?_ ?_) | (with_reducible intro hb; exfalso; revert hb; simp [bne_self_eq_false,d1]; done) | (with_reducible intro hb; exfalso; replace hb:=wHb hb; omega; done) | (with_reducible intro hb; replace hb:=wHb hb) | (refine wEx ?_) | (refine wRp ?_; refine fin_of (by simp only [push_cast,seval,bne_self_eq_false,d1]; first | done | rfl) ob1 ?_) | (refine inblock_norm ?_)))
  refine awpF_region ?_; intro K hK; simp only [push_cast,seval]
  refine wOb ?_
  refine CallK.rel h45 ?_
  rintro _ _ ⟨⟨a,b,Q,rfl,hok⟩,rfl⟩
  obtain ⟨rfl,P,rfl,hok2⟩:=hok rfl
  have hj:=hjd P Q hok2
  have h50:=p50 f P Q T'
  have tT':(T'.map encR).take (T.length+1)=T'.map encR:=List.take_of_length_le (by simp [hlen])
  simp only [push_cast,seval]
  refine wOb ?_
  refine hK _ ?_; clear hK K
  refine awp_seq ?_
  refine awpF_regionH [4] ?_; intro K hK; simp only [push_cast,seval,List.zipIdx_cons,List.zipIdx_nil]
  refine CallK.rel h71 ?_
  rintro _ _ ⟨rfl,rfl⟩
  simp only [push_cast,seval]
  refine wOb ?_
  refine HeapK.mk _ (p72A row hrow _ 0 row.length (row.map encI) _ rfl trw rfl rfl (fun i hi=>List.mem_range.1 hi)) ?_
  rintro _ _ ⟨rfl,rfl⟩
  have tT:(T.map encR).take T.length=T.map encR:=List.take_of_length_le (by simp)
  simp only [push_cast,seval,tT,happ,trw]
  refine wOb ?_
  refine hK _ ?_; clear hK K
  refine awp_seq ?_
  refine awpF_drawT (DT.op 0 (DT.op 1 (DT.op 3 (DT.op 4 (DT.op 5 (DT.op 6 (DT.or (DT.op 2 (DT.op 7 (DT.op 8 (DT.op 9 DT.nil)))) (DT.op 8 (DT.op 2 (DT.op 7 (DT.op 9 DT.nil))))))))))) (by kernel_rfl) (by kernel_rfl) (by kernel_rfl) ?_; intro K hK; apply dt_close; (rotate_left; (intro fin; (focus (simp only [push_cast,seval]; (try simp (disch:=omega) only [wrapI]); (repeat' (first | exact fin | (with_reducible refine And.intro ?_ ?_) | (refine CallK.pd (h69) ?_; simp only [push_cast,seval]; (try simp (disch:=omega) only [wrapI])) | (refine CallK.pg (fun _=>h69) ?_; simp only [push_cast,seval]; (try simp (disch:=omega) only [wrapI])) | exact ob1)))))); refine hK _ ?_; clear hK K
  refine awp_seq ?_
  refine wRg ?_
  refine awp_virt 14 2 (by simp only [push_cast,seval]) ?_
  refine awp_seq ?_
  refine awpF_region ?_; intro K hK; simp only [push_cast,seval,tT']
  refine CallK.rel h50 ?_
  rintro _ _ ⟨rfl,bq,cq,rfl⟩
  unfold jdK
  simp only [push_cast,seval]
  refine wOb ?_
  refine hK _ ?_; clear hK K
  refine awp_virtJ 8 4 1 _ rfl rfl ?_
  simp only [List.set_cons_succ,List.set_cons_zero,List.cons_append,List.nil_append,List.length_cons,List.length_nil]
  refine awp_seq ?_
  refine awp_seq ?_
  refine awpF_region ?_; intro K hK; simp only [push_cast,seval]
  refine CallK.rel h72c ?_
  rintro _ _ ⟨rfl,rfl⟩
  simp only [push_cast,seval]
  refine wOb ?_
  have tO:(O.map encI).take O.length=O.map encI:=List.take_of_length_le (by simp)
  simp only [tO,hA]
  refine wOb ?_
  refine hK _ ?_; clear hK K
  refine awp_block ?_
  refine awp_loopP (α:=Nat × List (V × V)) (st:=fun x=>⟨[(2,.ptr 1 0 0),(4,.ptr 2 0 0),(12,.d (.sl (T'.map encR))),(13,.ptr 3 0 0),(14,.ref 4 0 (sdA t T' fr A x.1).length),(15,.ptr 5 0 0),(74,.ref 6 0 A.length),(75,.d (.int .i64 A.length)),(76,.d (.int .i64 x.1))],[.data 1 (row.map encI),.cells [.d (.sl (f.map encNd)),.d (.int .i64 wd),.d (.int .i64 fr),.d (.sl (T.map encR)),.d (.sl (O.map encI))],.cells [.nil,.d (.int .i64 0),.d (.int .i64 0),.nil,.nil],.cells [.d (.sl (f.map encNd)),.d (.int .i64 wd),.d (.int .i64 (fr+(T.length:Int)+1)),.nil,.ref 7 0 (stA t T' fr A x.1).length],.data 2 ((sdA t T' fr A x.1).map encSd),.cells [.d (.sl (f.map encNd)),.d (.sl (P.map encP2)),.d (.sl (Q.map encH)),.d (.sl (T'.map encR)),.map 8],.data 1 (A.map encI),.data 1 ((stA t T' fr A x.1).map encI),.mp x.2]⟩)
    (inv:=fun x=>x.1≤A.length∧EOK f T' x.2) (μ:=fun x=>A.length - x.1) (x0:=(0,[])) (r0:=[0,1,2,8,9,13,15,14,12]) ⟨Nat.zero_le _,EOK.nil f T'⟩ ?_ ?_
  · simp only [stA_zero,sdA_zero,hAl]
    exact wRen
  rintro ⟨i,es⟩ ⟨hi,he⟩
  refine awp_seq ?_
  refine wRg ?_
  refine awp_seq ?_
  refine wCd ?_ ?_
  · intro h3; replace h3:=wHb h3
    simp only at hi he h3
    have hlt:i<A.length:=by omega
    obtain ⟨x,hx⟩ : ∃ x,A[i]? = some x:=⟨_,List.getElem?_eq_getElem hlt⟩
    obtain ⟨n,hxn,hn60⟩:=hAn x (List.mem_of_getElem? hx)
    have hxm:(x - fr).toNat=n:=by omega
    have hw:IntKind.i64.wrap (x - fr)=(n:Int):=by rw [wrapI _ (by omega)]; omega
    have hk:=p51k hj (by rw [hlen]; omega) (by rw [← t2]; omega) n (by omega) es he 8
    have hs1:=stA_step (t:=t) (T:=T') (fr:=fr) hx
    have hs2:=sdA_step (t:=t) (T:=T') (fr:=fr) hx
    have hl1:=stA_len t T' fr A i
    have hl2:=sdA_len t T' fr A i
    have hv2:=vd_le t T' n
    rw [hxm] at hs1 hs2
    unfold jdK at hk
    generalize vd t T' n=v at *
    generalize stA t T' fr A i=S1 at *
    generalize sdA t T' fr A i=S2 at *
    have tS1:(S1.map encI).take S1.length=S1.map encI:=List.take_of_length_le (by simp)
    have tS2:(S2.map encSd).take S2.length=S2.map encSd:=List.take_of_length_le (by simp)
    have tA:(A.map encI).take A.length=A.map encI:=List.take_of_length_le (by simp)
    have gA:((A.map encI)[i]?.getD []).getD 0 .nilptr=.int .i64 x:=by rw [List.getElem?_map,hx]; rfl
    refine awp_skip ?_
    refine awp_mid (fun u=>∃ es',EOK f T' es'∧u=⟨[(2,.ptr 1 0 0),(4,.ptr 2 0 0),(12,.d (.sl (T'.map encR))),(13,.ptr 3 0 0),(14,.ref 4 0 (sdA t T' fr A (i+1)).length),(15,.ptr 5 0 0),(74,.ref 6 0 A.length),(75,.d (.int .i64 A.length)),(76,.d (.int .i64 i))],[.data 1 (row.map encI),.cells [.d (.sl (f.map encNd)),.d (.int .i64 wd),.d (.int .i64 fr),.d (.sl (T.map encR)),.d (.sl (O.map encI))],.cells [.nil,.d (.int .i64 0),.d (.int .i64 0),.nil,.nil],.cells [.d (.sl (f.map encNd)),.d (.int .i64 wd),.d (.int .i64 (fr+(T.length:Int)+1)),.nil,.ref 7 0 (stA t T' fr A (i+1)).length],.data 2 ((sdA t T' fr A (i+1)).map encSd),.cells [.d (.sl (f.map encNd)),.d (.sl (P.map encP2)),.d (.sl (Q.map encH)),.d (.sl (T'.map encR)),.map 8],.data 1 (A.map encI),.data 1 ((stA t T' fr A (i+1)).map encI),.mp es']⟩) ?_ ?_
    · refine awp_block ?_
      refine awp_seq ?_
      refine awpF_region ?_; intro K hK; simp only [push_cast,seval,hx,encI,Int.toNat_natCast]; refine wKk hK ?_; clear hK K
      refine awp_seq ?_
      refine awpF_regionH [5] ?_; intro K hK; simp only [push_cast,seval,List.zipIdx_cons,List.zipIdx_nil,hw]
      refine HeapK.mk _ (hk _ _ rfl) ?_
      rintro _ _ ⟨rfl,es',rfl,he'⟩
      simp only [push_cast,seval,List.set_cons_succ,List.set_cons_zero]
      refine hK _ ?_; clear hK K
      refine awp_seq ?_
      refine wRg ?_
      refine awp_block ?_
      refine awp_seq ?_
      refine wRg ?_
      refine wCd ?_ ?_
      · intro h4
        have h4':v=2:=by
          have:((v:Int)==2)=true:=h4
          simp at this
          omega
        rw [if_pos h4'] at hs1 hs2
        rw [List.append_nil] at hs2
        rw [hs1,hs2]
        have hsc:=he'.scr2 7
        refine awpF_region ?_; intro K hK; simp only [push_cast,seval,tS1]; refine wKk hK ?_; clear hK K
        refine inblock_norm ?_
        refine inblock_norm ?_
        refine mid_end [0,1,2,3,4,5,6,7,8] _ ⟨es',he',rfl⟩ ?_
        refine ⟨by simp,by simp,by simp [push_cast,seval,he'.ren,hsc,encI],by simp [push_cast,seval],by simp [push_cast,seval],?_⟩
        simp [push_cast,seval]
        exact he'.bel2
      · intro h4
        have h4':v≠2:=by
          rintro rfl
          cases h4
        rw [if_neg h4'] at hs1 hs2
        rw [List.append_nil] at hs1
        rw [hs1,hs2]
        have hsc:=he'.scr2 4
        rcases show v=0∨v=1 by omega with rfl | rfl
        · refine awp_seq ?_
          refine awp_seq ?_
          refine wRg ?_
          refine wCd ?_ ?_
          · intro h; cases h
          intro _
          refine wRg ?_
          refine wCd ?_ ?_
          · intro _
            refine awpF_region ?_; intro K hK; simp only [push_cast,seval,tS2]; refine wKk hK ?_; clear hK K
            refine inblock_norm ?_
            refine inblock_norm ?_
            refine mid_end [0,1,2,3,4,5,6,7,8] _ ⟨es',he',rfl⟩ ?_
            refine ⟨by simp,by simp,by simp [push_cast,seval,he'.ren,hsc,encSd],by simp [push_cast,seval],by simp [push_cast,seval],?_⟩
            simp [push_cast,seval]
            exact he'.bel2
          · intro h; cases h
        · refine awp_seq ?_
          refine awp_seq ?_
          refine wRg ?_
          refine wCd ?_ ?_
          · intro _
            refine awp_skip ?_
            refine wCd ?_ ?_
            · intro _
              refine awpF_region ?_; intro K hK; simp only [push_cast,seval,tS2]; refine wKk hK ?_; clear hK K
              refine inblock_norm ?_
              refine inblock_norm ?_
              refine mid_end [0,1,2,3,4,5,6,7,8] _ ⟨es',he',rfl⟩ ?_
              refine ⟨by simp,by simp,by simp [push_cast,seval,he'.ren,hsc,encSd],by simp [push_cast,seval],by simp [push_cast,seval],?_⟩
              simp [push_cast,seval]
              exact he'.bel2
            · intro h; cases h
          · intro h; cases h
    rintro _ ⟨es',he',rfl⟩
    refine wRg ?_
    refine round_endG (i+1,es') [0,1,2,3,4,5,6,7,8] ⟨by simp only; omega,⟨by simp only; omega,he'⟩,?_⟩
    push_cast
    refine ⟨by simp,by simp,by simp [push_cast,seval,he'.ren],by simp [push_cast,seval],by simp [push_cast,seval],?_⟩
    simp [push_cast,seval]
    exact he'.bel2
  · intro h3; replace h3:=wHb h3
    simp only at h3 hi
    obtain rfl:i=A.length:=by omega
    refine wEx ?_
    have hmem:=fun x (h:x∈stA t T' fr A A.length)=>hAn x (stA_mem h)
    have hl1:=stA_len t T' fr A A.length
    generalize stA t T' fr A A.length=S1 at *
    generalize sdA t T' fr A A.length=S2 at *
    have tS2:(S2.map encSd).take S2.length=S2.map encSd:=List.take_of_length_le (by simp)
    cases S1 with
    | nil =>
      refine awp_seq ?_
      refine awp_seq ?_
      refine wRg ?_
      refine wCd ?_ ?_
      · intro h
        simp at h
      intro _
      refine awp_skip ?_
      refine awp_seq ?_
      refine wRg ?_
      refine awp_fz (.ref 7 0 0) ?_
      simp only [push_cast,seval,St.fz,St.frz,Blk.rowsD,List.drop_zero,List.map_nil,List.take_nil]
      refine awp_fz (.ref 4 0 S2.length) ?_
      simp only [push_cast,seval,St.fz,St.frz,Blk.rowsD,List.drop_zero,tS2]
      refine awp_nil 2 _ rfl ?_
      simp only [push_cast,seval,unnil,List.map_cons,List.map_nil,List.set_cons_succ,List.set_cons_zero]
      refine wRet ?_
      exact ⟨rfl,_,rfl⟩
    | cons y S1 =>
      obtain ⟨n,hyn,hnT⟩:=hmem y (by simp)
      have hw:IntKind.i64.wrap (y - fr)=(n:Int):=by rw [wrapI _ (by omega)]; omega
      have hd:decide ((S1.length:Int)+1 > 0)=true:=decide_eq_true (by omega)
      have tS1:((y::S1).map encI).take (y::S1).length=(y::S1).map encI:=List.take_of_length_le (by simp)
      refine awp_seq ?_
      refine awp_seq ?_
      refine awpF_region ?_; intro K hK; simp only [push_cast,seval,List.length_cons,hd]; refine wKk hK ?_; clear hK K
      refine wCd ?_ ?_
      · intro _
        refine awp_seq ?_
        refine awpF_region ?_; intro K hK; simp only [push_cast,seval,List.getElem?_cons_zero,Option.getD_some,encI]; refine wKk hK ?_; clear hK K
        refine awpF_region ?_; intro K hK; simp only [push_cast,seval,hw,Int.toNat_natCast]; refine wKk hK ?_; clear hK K
        refine awp_seq ?_
        refine wRg ?_
        have hdr:((T'.map encR).drop n).take (T'.length - n)=(T'.drop (y - fr).toNat).map encR:=by
          rw [show (y - fr).toNat=n by omega,List.take_of_length_le (by simp),List.map_drop]
        rw [hdr]
        refine awp_fz (.ref 7 0 (S1.length+1)) ?_
        simp only [push_cast,seval,St.fz,St.frz,Blk.rowsD,List.drop_zero]
        refine awp_fz (.ref 4 0 S2.length) ?_
        simp only [push_cast,seval,St.fz,St.frz,Blk.rowsD,List.drop_zero,tS2]
        refine wRet ?_
        refine ⟨?_,_,rfl⟩
        simp only [List.length_cons,List.map_cons] at tS1
        simp [pwM,wtV,wtD,tS1,encI,unx,un1,unnil]
        exact List.take_of_length_le (by simp)
      · intro h; cases h
end Go.Aw
