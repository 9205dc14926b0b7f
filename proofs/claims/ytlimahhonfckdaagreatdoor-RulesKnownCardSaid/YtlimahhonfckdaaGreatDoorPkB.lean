/-
  Texts of the library,one behind the other. Over any program; no condition.
-/
import Derived.Laws.BytesArg
import Derived.Laws.Externs
import Derived.Maps.Keyed
import Derived.Maps.RangeRun
import Derived.WalkSpells
import Derived.WideLaws
import Derived.Test.YtlimahhonfckdaaGreatDoorPkA
namespace Go.Aw
set_option linter.unusedSimpArgs false
set_option linter.unusedVariables false
open Go.RowKit

def kseq (P:Program) (t:TypeId) : Bool :=
  match P.underlying t with
  | some (.slice _)=>true
  | some .string=>true
  | _=>false

theorem kseq_spec {P:Program} {t:TypeId} (h:kseq P t=true) : (∃ e,P.underlying t=some (.slice e))∨P.underlying t=some .string:=by
  unfold kseq at h
  split at h
  · rename_i e hu; exact .inl ⟨_,hu⟩
  · rename_i hu; exact .inr hu
  · cases h

theorem run_append_in {P:Program} {w:World} {t t2 ty e:TypeId} {i:TypeInfo} (ht:P.underlying t=some (.slice e)) (hi:P.info? e=some i) (ht2:kseq P t2=true)
    (a:Option Addr) (len cap n:Nat) (x:Value) (cs:Array Value) (w':World) (hl:∀ w,(Builtin.lenOf x).run P w=.ok n w) (hf:(Builtin.firstCells i.size n x).run P w=.ok cs w) (hroom:len+n≤cap)
    (hst:(match a with | some ad=>storeCells (ad.add (len*i.size)) cs.toList | none=>pure ()).run P w=.ok () w') :
    (Builtin.append_ #[t,t2] ty #[.slice a len cap,x]).run P w=.ok (.slice a (len+n) cap) w':=by
  rcases kseq_spec ht2 with ⟨e',hd⟩ | hd <;> cases a with
  | none =>
    simp only [Sem.run_pure] at hst
    cases hst
    simp [Builtin.append_,run_underlying ht,sizeOf,typeInfo,hi,run_underlying hd,hl,hroom,hf]
  | some ad =>
    simp only at hst
    simp [Builtin.append_,run_underlying ht,sizeOf,typeInfo,hi,run_underlying hd,hl,hroom,hf,hst]

theorem run_append_out {P:Program} {w:World} {t t2 ty e:TypeId} {i:TypeInfo} {z:Value} (ht:P.underlying t=some (.slice e)) (hi:P.info? e=some i) (hz:i.zero=some z) (ht2:kseq P t2=true)
    (a:Option Addr) (len cap n:Nat) (x:Value) (os cs:Array Value) (hl:∀ w,(Builtin.lenOf x).run P w=.ok n w) (hf:(Builtin.firstCells i.size n x).run P w.drew=.ok cs w.drew)
    (hfo:(Builtin.firstCells i.size len (.slice a len cap)).run P w.drew=.ok os w.drew) (hroom:cap<len+n) (hbytes:(len+n)*i.bytes≤140737488355328) (h63:len+n≤9223372036854775807) :
    (Builtin.append_ #[t,t2] ty #[.slice a len cap,x]).run P w=.ok (.slice (some ⟨w.heap.size,0,none⟩) (len+n) (grownCap w (len+n) cap e))
      (w.drew.alloc (.cells (os++cs++Builtin.zeroCells z.cells (grownCap w (len+n) cap e - (len+n))) e)):=by
  have hn:¬ (len+n≤cap):=by omega
  have h63':¬ (9223372036854775807<((len:Int)+(n:Int))):=by omega
  have h48':¬ (281474976710656<Builtin.nextslicecap (len+n) cap*i.bytes):=by have:=growslice_fits (bytes:=i.bytes) hroom hbytes; omega
  rcases kseq_spec ht2 with ⟨e',hd⟩ | hd <;>
    simp [Builtin.append_,run_underlying ht,sizeOf,typeInfo,zeroValue,hi,hz,run_underlying hd,hl,hn,h63',h48',Question.forced,hf,hfo,newRow,grownCap]

theorem le_grownCap (w:World) (need old:Nat) (e:TypeId) : need≤grownCap w need old e:=by
  simp [grownCap,Question.cut]

def appQ (P:Program) (kp:List Nat) (s:St) (t t2:TypeId) (dst src:V) : Option (Prop × V × St) :=
  match kel P t with
  | some (none,k,u) =>
    match kbytes P u,kzero P u,srcQ s.heap k src with
    | some by_,some zs,some (ob,ys) =>
      match dst with
      | .nil=>some ((kseq P t2=true∧zs.length=k∧ys.length*by_≤140737488355328∧ys.length≤9223372036854775807)∧ob,.ref s.heap.length 0 ys.length,{ s with heap:=s.heap++[.data k ys] })
      | .ref id off len =>
        match s.heap[id]? with
        | some (.data k' rows)=>some ((kseq P t2=true∧zs.length=k∧k=k'∧off=0∧id ∉ kp∧(len+ys.length)*by_≤140737488355328∧len+ys.length≤9223372036854775807)∧ob,.ref id 0 (len+ys.length),
            { tm:=tmScr id s.tm,heap:=(heapScr id s.heap).set id (.data k (rows.take len++ys)) })
        | _=>none
      | _=>none
    | _,_,_=>none
  | _=>none

theorem size_zeroCells (z:Array Value) (n:Nat) : (Builtin.zeroCells z n).size=n*z.size:=by simp [Builtin.zeroCells]

theorem get3 {os cs zz:Array Value} {j:Nat} (h:j<os.size+cs.size) : (os++cs++zz)[j]? = (os++cs)[j]?:=by
  rw [Array.getElem?_append_left (by simp; omega)]

theorem appQ_sound {P:Program} {B:Base} {s s':St} {a:Act} {w:World} {E:Env} {F:Nat→Prop} {t t2 ty:TypeId} {dst src x:V} {ob:Prop} {v u:Value}
    (h:appQ P B.keep s t t2 dst src=some (ob,x,s')) (hob:ob) (hs:Sim B s a w E F) (hd:VR E F w dst v) (hsr:VR E F w src u) :
    ∃ r w' E',(Builtin.append_ #[t,t2] ty #[v,u]).run P w=.ok r w'∧Sim B s' a w' E' F∧VR E' F w' x r:=by
  unfold appQ at h
  split at h
  · rename_i k e hk
    obtain ⟨i,ht,hi,rfl⟩:=kel_slice hk
    split at h
    · rename_i by_ zs ob' ys hby hz hsrc
      simp [kbytes,hi] at hby
      subst hby
      obtain ⟨i',z,hi',hz',rfl⟩:=kzero_spec hz
      rw [hi] at hi'
      cases hi'
      split at h
      · -- onto nothing
        simp only [Option.some.injEq,Prod.mk.injEq] at h
        obtain ⟨rfl,rfl,rfl⟩:=h
        obtain ⟨⟨h2,hzl,hb,h63⟩,hob⟩:=hob
        obtain ⟨cs,hc⟩:=srcQ_sound (P:=P) hsrc hob hs.rel.hr hs.rel.lt hsr
        cases hd with
        | nil ad =>
          by_cases h0:ys.length=0
          · obtain rfl:=List.length_eq_zero_iff.1 h0
            have hcs:cs=[]:=List.length_eq_zero_iff.1 (by simpa using hc.size)
            subst hcs
            obtain ⟨e1,e2⟩:=virt_rel hs.rel i.size
            refine ⟨_,w,_,run_append_in (ty:=ty) ht hi h2 ad 0 0 0 u #[] w hc.len (hc.run w (Keep.refl w)) (Nat.le_refl _) (by cases ad <;> simp [storeCells]),hs.evo e1 e2 rfl,?_⟩
            exact .refv _ i.size 0 _ (by rw [← hs.rel.hr.len,List.getElem?_append_right (Nat.le_refl _)]; simp)
          · have hrun:=run_append_out (ty:=ty) ht hi hz' h2 ad 0 0 ys.length u #[] cs.toArray hc.len (hc.run _ (fun _ _=>rfl)) (by cases ad <;> simp [Builtin.firstCells,run_load0]) (by omega) (by simpa using hb) (by omega)
            simp only [Nat.zero_add] at hrun
            have hg:=le_grownCap w ys.length 0 e
            have hz2:z.cells.size=i.size:=by simpa using hzl
            obtain ⟨e1,e2,e3⟩:=row_rel hs.rel.drew e (#[]++cs.toArray++Builtin.zeroCells z.cells (grownCap w ys.length 0 e - ys.length)) i.size (grownCap w ys.length 0 e) ys hc.row hg (by
                simp only [Array.size_append,List.size_toArray,size_zeroCells,hc.size,hz2,← Nat.add_mul,List.length_nil,Nat.zero_add]
                exact Nat.mul_le_mul_right _ (by omega)) (fun l row j y hl hj=>by
                obtain ⟨uu,hu,hr⟩:=hc.cell l row j y hl hj
                refine ⟨uu,?_,RD.evo (w:=w) (w':=w.drew) (fun _ h=>h) (fun _ _=>rfl) hr⟩
                have hlt:=(List.getElem?_eq_some_iff.1 hu).1
                rw [get3 (by simp; exact hlt)]
                simpa using hu)
            exact ⟨_,_,_,hrun,hs.drew.evo e1 e2 rfl,e3⟩
      · -- onto a row of the walk's own
        rename_i id off len
        split at h
        · rename_i k' rows hH
          simp only [Option.some.injEq,Prod.mk.injEq] at h
          obtain ⟨rfl,rfl,rfl⟩:=h
          obtain ⟨⟨h2,hzl,rfl,rfl,hkp,hb,h63⟩,hob⟩:=hob
          obtain ⟨cs,hc⟩:=srcQ_sound (P:=P) hsrc hob hs.rel.hr hs.rel.lt hsr
          have hz2:z.cells.size=i.size:=by simpa using hzl
          -- the row behind it
          have hrows:∀ (rows:List (List D)),(∀ (l:Nat) (row:List D),rows[l]? = some row→row.length=i.size∧row.all D.leaf=true)→len≤rows.length →
              (∀ (l:Nat) (row:List D),(rows.take len++ys)[l]? = some row→row.length=i.size∧row.all D.leaf=true)∧(rows.take len++ys).length=len+ys.length:=by
            intro rows h3 hlr
            refine ⟨fun l row hl => ?_,by simp; omega⟩
            rw [List.getElem?_append] at hl
            split at hl
            · rw [List.getElem?_take] at hl
              split at hl
              · exact h3 _ _ hl
              · cases hl
            · exact hc.row _ _ hl
          have grow:∀ (os:List Value),os.length=len*i.size→len≤rows.length→(∀ (l:Nat) (row:List D),rows[l]? = some row→row.length=i.size∧row.all D.leaf=true) →
              (∀ (l:Nat) (row:List D) (j:Nat) (y:D),l<len→rows[l]? = some row→row[j]? = some y→∃ v,os[l*i.size+j]? = some v∧RD F w y v) →
              ∀ (en:En),E[id]? = some en→∀ cap,len+ys.length≤cap→∀ nc,cap≤nc →
              Sim B { tm:=tmScr id s.tm,heap:=(heapScr id s.heap).set id (.data i.size (rows.take len++ys)) } a (w.drew.alloc (.cells (os.toArray++cs.toArray++Builtin.zeroCells z.cells (cap - (len+ys.length))) e))
                (E.set id ⟨some w.heap.size,i.size,len+ys.length⟩) F ∧
              VR (E.set id ⟨some w.heap.size,i.size,len+ys.length⟩) F (w.drew.alloc (.cells (os.toArray++cs.toArray++Builtin.zeroCells z.cells (cap - (len+ys.length))) e)) (.ref id 0 (len+ys.length)) (.slice (some ⟨w.heap.size,0,none⟩) (len+ys.length) cap):=by
            intro os hos hlr h3 hcell en hE cap hcap nc _
            obtain ⟨g1,g2⟩:=hrows rows h3 hlr
            have hil:id<E.length:=(List.getElem?_eq_some_iff.1 hE).1
            have hsize:(os.toArray++cs.toArray++Builtin.zeroCells z.cells (cap - (len+ys.length))).size=cap*i.size:=by
              simp only [Array.size_append,List.size_toArray,size_zeroCells,hc.size,hos,hz2,← Nat.add_mul]
              congr 1
              omega
            have hsame:∀ b,b<w.heap.size→(w.drew.alloc (.cells (os.toArray++cs.toArray++Builtin.zeroCells z.cells (cap - (len+ys.length))) e)).heap[b]? = w.heap[b]?:=fun b hb=>Below.heap_alloc w.drew _ b hb
            refine ⟨rebind hs hE hH rfl hkp rfl rfl ⟨rfl⟩ (by simp) (fun b hb=>hsame b (hs.rel.lt b hb)) (fun b h1 _=>hsame b (Nat.lt_of_lt_of_le h1 hs.rel.size)) (fun c hc=>by simp at hc; subst hc; exact .inl hs.rel.size) (fun j ej bj c hj h4 h5 h6 h7 => ?_) (fun b n hb=>Sz.alloc (w:=w.drew) _ hb) (fun c hc => ?_) ?_,?_⟩
            · have:=(hs.rel.hr.free j c ej bj h4 h7 h5 h6).1
              exact ⟨hsame c this,fun h=>by simp at h; omega⟩
            · simp at hc
              subst hc
              exact ⟨by simp,fun h=>by have:=hs.rel.lt _ h; omega⟩
            · refine ⟨rfl,g2.symm,g1,.inr ⟨w.heap.size,_,e,rfl,heap_alloc_new w.drew _,?_,fun l row j y hl hj => ?_⟩⟩
              · rw [hsize,g2]
                exact Nat.mul_le_mul_right _ hcap
              · have hjk:=(List.getElem?_eq_some_iff.1 hj).1
                have hrl:=(g1 l row hl).1
                rw [List.getElem?_append] at hl
                split at hl
                · rename_i hll
                  have hll':l<len:=by simp at hll; omega
                  rw [List.getElem?_take_of_lt hll'] at hl
                  obtain ⟨uu,hu,hr⟩:=hcell l row j y hll' hl hj
                  refine ⟨uu,?_,hr.evo (fun _ h=>h) (fun b hb=>hsame b (hs.rel.lt b hb))⟩
                  have:=lt_mul_of (n:=len) (m:=1) (k:=i.size) (off:=j) (row:=l) hll' (by omega)
                  rw [get3 (by simp; omega)]
                  simp only [List.append_toArray,List.getElem?_toArray]
                  rw [List.getElem?_append_left (by omega)]
                  exact hu
                · rename_i hll
                  simp only [List.length_take] at hl hll
                  rw [show min len rows.length=len by omega] at hl hll
                  obtain ⟨uu,hu,hr⟩:=hc.cell _ row j y hl hj
                  refine ⟨uu,?_,hr.evo (fun _ h=>h) (fun b hb=>hsame b (hs.rel.lt b hb))⟩
                  have hlt:=(List.getElem?_eq_some_iff.1 hu).1
                  have e1:l*i.size=len*i.size+(l - len)*i.size:=by rw [← Nat.add_mul]; congr 1; omega
                  rw [get3 (by simp; omega)]
                  simp only [List.append_toArray,List.getElem?_toArray]
                  rw [List.getElem?_append_right (by omega),show l*i.size+j - os.length=(l - len)*i.size+j by omega]
                  exact hu
            · have hEs:(E.set id ⟨some w.heap.size,i.size,len+ys.length⟩)[id]? = some ⟨some w.heap.size,i.size,len+ys.length⟩:=List.getElem?_set_self hil
              exact .ref id 0 _ w.heap.size i.size _ _ cap (cap*i.size) hEs (by omega) (fun _=>by simp) hcap ⟨_,e,heap_alloc_new w.drew _,hsize⟩ (by simp)
          cases hd with
          | ref _ _ _ b k2 m ad cap n hE hm ha hl hbz hcp =>
            obtain ⟨g1,g2,g3,g4⟩:=hs.rel.hr.blk _ _ _ hE hH
            dsimp only at g1 g2
            subst g1 g2
            rcases g4 with ⟨g4,_⟩ | ⟨b',cur,tt,g4,hw,hsz,hcell⟩
            · cases g4
            simp only [Option.some.injEq] at g4
            subst g4
            have had:=ha (.inr rfl)
            subst had
            have hcur:n=cur.size:=by
              obtain ⟨c0,t0,q1,q2⟩:=hbz
              rw [hw] at q1
              cases q1
              exact q2.symm
            subst hcur
            simp only [Nat.zero_add] at hm hcp
            obtain ⟨g5,g6⟩:=hrows rows g3 hm
            by_cases hroom:len+ys.length≤cap
            · -- there is room
              have hcap2:(len+ys.length)*i.size≤cur.size:=Nat.le_trans (Nat.mul_le_mul_right _ hroom) hcp
              have hfit:len*i.size+cs.length≤cur.size:=by rw [hc.size,← Nat.add_mul]; exact hcap2
              have hst:=run_storeCells_at (P:=P) b (0*i.size+len*i.size) tt cs 0 cur w hw (by omega) hc.one
              simp only [Nat.zero_mul,Nat.zero_add,Nat.add_zero,List.append_assoc] at hst
              have hset:(cur.toList.take (len*i.size)++(cs++cur.toList.drop (len*i.size+cs.length)))=setL cur.toList (len*i.size) cs:=rfl
              rw [hset] at hst
              have hrun:=run_append_in (ty:=ty) ht hi h2 (some ⟨b,0,none⟩) len cap ys.length u cs.toArray _ hc.len (hc.run w (Keep.refl w)) hroom (by
                show (storeCells ((⟨b,0,none⟩ : Addr).add (len*i.size)) cs).run P w=_
                rw [Addr.add_mid,Nat.zero_add]; exact hst)
              have hss:(setL cur.toList (len*i.size) cs).toArray.size=cur.size:=by rw [List.size_toArray,setL_len _ _ _ (by simp; omega),Array.length_toList]
              obtain ⟨hbl,hbF⟩:=hs.rel.hr.free id b _ _ hE rfl hH rfl
              have hil:id<E.length:=(List.getElem?_eq_some_iff.1 hE).1
              have hF:∀ c,F c→(w.setRow b (setL cur.toList (len*i.size) cs).toArray).heap[c]? = w.heap[c]?:=fun c hc=>heap_setRow_other w b c _ (fun q=>hbF (q ▸ hc))
              refine ⟨.slice (some ⟨b,0,none⟩) (len+ys.length) cap,w.setRow b (setL cur.toList (len*i.size) cs).toArray,E.set id ⟨some b,i.size,len+ys.length⟩,by simpa using hrun,rebind hs hE hH rfl hkp rfl rfl ⟨rfl⟩ (by simp) hF (fun c h1 h2=>heap_setRow_other w b c _ (fun q=>(hs.rel.src id b _ _ hE hH rfl rfl).elim (fun h=>by omega) (fun h=>h2 (q ▸ h)))) (fun c hc=>by simp at hc; subst hc; exact hs.rel.src id b _ _ hE hH rfl rfl) (fun j ej bj c hj h4 h5 h6 h7 => ?_) (fun b' n' hb'=>hb'.setRow hw hss) (fun c hc => ?_) ?_,?_⟩
              · have hne:c≠b:=fun q=>hj (hs.rel.hr.inj j id c ej _ bj _ h4 hE h7 (by simp [q]) h5 hH h6 rfl)
                exact ⟨heap_setRow_other w b c _ hne,fun h=>by simp at h; exact hne h.symm⟩
              · simp at hc
                subst hc
                exact ⟨by simpa using hbl,hbF⟩
              · refine ⟨rfl,g6.symm,g5,.inr ⟨b,_,tt,rfl,setRow_heap w b cur _ tt _ hw,?_,fun l row j y hl hj => ?_⟩⟩
                · rw [hss,g6]; exact hcap2
                · have hjk:=(List.getElem?_eq_some_iff.1 hj).1
                  have hrl:=(g5 l row hl).1
                  simp only [List.getElem?_toArray]
                  rw [setL_get _ _ _ (by simp; omega)]
                  rw [List.getElem?_append] at hl
                  split at hl
                  · rename_i hll
                    have hll':l<len:=by simp at hll; omega
                    rw [List.getElem?_take_of_lt hll'] at hl
                    obtain ⟨uu,hu,hr⟩:=hcell l row j y hl hj
                    have:=lt_mul_of (n:=len) (m:=1) (k:=i.size) (off:=j) (row:=l) hll' (by omega)
                    rw [if_neg (by omega)]
                    exact ⟨uu,by simpa using hu,hr.evo (fun _ h=>h) hF⟩
                  · rename_i hll
                    simp only [List.length_take] at hl hll
                    rw [show min len rows.length=len by omega] at hl hll
                    obtain ⟨uu,hu,hr⟩:=hc.cell _ row j y hl hj
                    have hlt:=(List.getElem?_eq_some_iff.1 hu).1
                    have e1:l*i.size=len*i.size+(l - len)*i.size:=by rw [← Nat.add_mul]; congr 1; omega
                    rw [if_pos (by omega),show l*i.size+j - len*i.size=(l - len)*i.size+j by omega]
                    exact ⟨uu,hu,hr.evo (fun _ h=>h) hF⟩
              · have hEs:(E.set id ⟨some b,i.size,len+ys.length⟩)[id]? = some ⟨some b,i.size,len+ys.length⟩:=List.getElem?_set_self hil
                exact .ref id 0 _ b i.size _ _ cap cur.size hEs (by omega) (fun _=>by simp) hroom (Sz.setRow hw hss (⟨cur,tt,hw,rfl⟩ : Sz w b cur.size)) (by simpa using hcp)
            · -- a new row
              have hos:((cur.toList.take (len*i.size))).length=len*i.size:=by
                have:len*i.size≤cur.size:=Nat.le_trans (Nat.mul_le_mul_right _ hl) hcp
                simp; omega
              have hfo:(Builtin.firstCells i.size len (.slice (some ⟨b,0*i.size,none⟩) len cap)).run P w.drew=.ok (cur.toList.take (len*i.size)).toArray w.drew:=by
                have:=run_loadCells_list (P:=P) w.drew ⟨b,0,none⟩ (cur.toList.take (len*i.size)) (fun j u hj=>by
                  rw [List.getElem?_take] at hj
                  split at hj
                  · rw [Addr.add_mid,Nat.zero_add,cell_of_row w.drew b j cur tt (0,0) hw]
                    simpa using hj
                  · cases hj)
                rw [hos] at this
                simp only [Nat.zero_mul]
                simp [Builtin.firstCells,this]
              have hrun:=run_append_out (ty:=ty) ht hi hz' h2 _ len cap ys.length u _ cs.toArray hc.len (hc.run _ (fun _ _=>rfl)) hfo (by omega) hb h63
              obtain ⟨q1,q2⟩:=grow _ hos hm g3 (fun l row j y hl hrow hj=>by
                obtain ⟨uu,hu,hr⟩:=hcell l row j y hrow hj
                have hjk:=(List.getElem?_eq_some_iff.1 hj).1
                have:=(g3 l row hrow).1
                have:=lt_mul_of (n:=len) (m:=1) (k:=i.size) (off:=j) (row:=l) hl (by omega)
                exact ⟨uu,by rw [List.getElem?_take_of_lt (by omega)]; simpa using hu,hr⟩) _ hE _ (le_grownCap w (len+ys.length) cap e) _ (Nat.le_refl _)
              exact ⟨_,_,_,hrun,q1,q2⟩
          | refv _ k2 m ad hE =>
            obtain ⟨g1,g2,g3,g4⟩:=hs.rel.hr.blk _ _ _ hE hH
            dsimp only at g1 g2
            subst g1
            have hrn:rows=[]:=by
              rcases g4 with ⟨_,g4⟩ | ⟨b',cur,tt,g4,_⟩
              · exact g4
              · cases g4
            subst hrn
            by_cases h0:ys.length=0
            · obtain rfl:=List.length_eq_zero_iff.1 h0
              have hcs:cs=[]:=List.length_eq_zero_iff.1 (by simpa using hc.size)
              subst hcs
              have hil:id<E.length:=(List.getElem?_eq_some_iff.1 hE).1
              refine ⟨_,w,E.set id ⟨none,i.size,0⟩,run_append_in (ty:=ty) ht hi h2 ad 0 0 0 u #[] w hc.len (hc.run w (Keep.refl w)) (Nat.le_refl _) (by cases ad <;> simp [storeCells]),?_,?_⟩
              · exact rebind hs hE hH rfl hkp rfl rfl ⟨rfl⟩ (Nat.le_refl _) (fun _ _=>rfl) (fun _ _ _=>rfl) (fun c hc=>by simp at hc) (fun j ej bj c hj h4 h5 h6 h7=>⟨rfl,by simp⟩) (fun _ _ h=>h) (fun c hc=>by simp at hc) ⟨rfl,by simp,by simp,.inl ⟨rfl,by simp⟩⟩
              · exact .refv id i.size 0 ad (List.getElem?_set_self hil)
            · have hrun:=run_append_out (ty:=ty) ht hi hz' h2 ad 0 0 ys.length u #[] cs.toArray hc.len (hc.run _ (fun _ _=>rfl)) (by cases ad <;> simp [Builtin.firstCells,run_load0]) (by omega) (by simpa using hb) (by omega)
              obtain ⟨q1,q2⟩:=grow [] (by simp) (by simp) (by simp) (by simp) _ hE _ (le_grownCap w (0+ys.length) 0 e) _ (Nat.le_refl _)
              exact ⟨_,_,_,hrun,q1,q2⟩
        · cases h
      · cases h
    · cases h
  · cases h

end Go.Aw

namespace Go.Aw
set_option linter.unusedSimpArgs false
set_option linter.unusedVariables false
open Go.RowKit

def srcV (H:List Blk) (k:Nat) (x:V) : Option (Prop × List (List V)) :=
  match srcQ H k x with
  | some r=>some (r.1,r.2.map fun d=>d.map .d)
  | none =>
    match x with
    | .ref id off len =>
      match H[id]? with
      | some (.vrs k' rs)=>some (k'=k,(rs.drop off).take len)
      | _=>none
    | _=>none

structure SrcV (P:Program) (E:Env) (F:Nat→Prop) (w:World) (k:Nat) (ys:List (List V)) (v:Value) (cs:List Value) : Prop where
  size:cs.length=ys.length*k
  len:∀ w',(Builtin.lenOf v).run P w'=.ok ys.length w'
  row:∀ (i:Nat) (row:List V),ys[i]? = some row→row.length=k
  cell:∀ (i:Nat) (row:List V) (j:Nat) (x:V),ys[i]? = some row→row[j]? = some x→∃ u,cs[i*k+j]? = some u∧u.oneCell'=true∧VR E F w x u
  run:∀ w',Keep w w'→(Builtin.firstCells k ys.length v).run P w'=.ok cs.toArray w'

theorem SrcV.one {P:Program} {E:Env} {F:Nat→Prop} {w:World} {k:Nat} {ys:List (List V)} {v:Value} {cs:List Value} (h:SrcV P E F w k ys v cs) : ∀ u∈cs,u.oneCell'=true:=by
  intro u hu
  obtain ⟨j,hj,rfl⟩:=List.getElem_of_mem hu
  have hs:=h.size
  by_cases hk:k=0
  · subst hk; simp at hs; subst hs; simp at hj
  have hd:j / k<ys.length:=(Nat.div_lt_iff_lt_mul (by omega)).2 (by omega)
  have hm:j % k<k:=Nat.mod_lt _ (by omega)
  have hrow:ys[j / k]? = some ys[j / k]:=List.getElem?_eq_getElem hd
  have hl:=h.row _ _ hrow
  have hx:ys[j / k][j % k]? = some (ys[j / k][j % k]'(by omega)):=List.getElem?_eq_getElem _
  obtain ⟨u,hu',ho,hr⟩:=h.cell _ _ _ _ hrow hx
  have e:j / k*k+j % k=j:=by rw [Nat.mul_comm]; exact Nat.div_add_mod j k
  rw [e,List.getElem?_eq_getElem hj] at hu'
  cases hu'
  exact ho

theorem Src.toV {P:Program} {E:Env} {F:Nat→Prop} {w:World} {k:Nat} {ys:List (List D)} {v:Value} {cs:List Value} (h:Src P F w k ys v cs) : SrcV P E F w k (ys.map fun d=>d.map .d) v cs:=by
  refine ⟨by simpa using h.size,by simpa using h.len,fun i row hi => ?_,fun i row j x hi hj => ?_,by simpa using h.run⟩
  · simp only [List.getElem?_map,Option.map_eq_some_iff] at hi
    obtain ⟨r,hr,rfl⟩:=hi
    simpa using (h.row i r hr).1
  · simp only [List.getElem?_map,Option.map_eq_some_iff] at hi
    obtain ⟨r,hr,rfl⟩:=hi
    simp only [List.getElem?_map,Option.map_eq_some_iff] at hj
    obtain ⟨y,hy,rfl⟩:=hj
    obtain ⟨u,hu,hd⟩:=h.cell i r j y hr hy
    exact ⟨u,hu,hd.one (List.all_eq_true.1 (h.row i r hr).2 _ (List.mem_of_getElem? hy)),.d _ _ hd⟩

theorem srcV_sound {P:Program} {E:Env} {F:Nat→Prop} {w:World} {H:List Blk} {k:Nat} {x:V} {ob:Prop} {ys:List (List V)} {v:Value} (h:srcV H k x=some (ob,ys)) (hob:ob)
    (hr:HR E F w H) (hlt:∀ b,F b→b<w.heap.size) (hx:VR E F w x v) : ∃ cs,SrcV P E F w k ys v cs:=by
  unfold srcV at h
  split at h
  · rename_i r hq
    simp only [Option.some.injEq,Prod.mk.injEq] at h
    obtain ⟨rfl,rfl⟩:=h
    obtain ⟨cs,hc⟩:=srcQ_sound (P:=P) hq hob hr hlt hx
    exact ⟨cs,hc.toV⟩
  · rename_i hnone
    clear hnone
    split at h
    · rename_i id off len
      split at h
      · rename_i k2 rows hH
        simp only [Option.some.injEq,Prod.mk.injEq] at h
        obtain ⟨rfl,rfl⟩:=h
        subst hob
        cases hx with
        | ref _ _ _ b k' m a cap n hE hm ha hl hb hc =>
          obtain ⟨h1,h2,h3,h4⟩:=hr.blk _ _ _ hE hH
          dsimp only at h1 h2
          subst h1 h2
          rcases h4 with ⟨h4,_⟩ | ⟨b',cs,t,h4,hw,hsz,hcell⟩
          · cases h4
          simp only [Option.some.injEq] at h4
          subst h4
          have hlen:((rows.drop off).take len).length=len:=by rw [List.length_take,List.length_drop]; omega
          by_cases h0:len=0
          · subst h0
            rw [List.take_zero]
            exact ⟨[],(src_nil (P:=P) (F:=F) (w:=w) k' a cap).toV⟩
          have haa:=ha (.inl (by omega))
          subst haa
          have hoff:(off+len)*k'≤cs.size:=Nat.le_trans (Nat.mul_le_mul_right _ hm) hsz
          have hget:∀ (j:Nat) (row:List V),((rows.drop off).take len)[j]? = some row→j<len∧rows[off+j]? = some row:=fun j row hj=>by
            rw [List.getElem?_take] at hj
            split at hj
            · rw [List.getElem?_drop] at hj; exact ⟨by assumption,hj⟩
            · cases hj
          have hcl:((cs.toList.drop (off*k')).take (len*k')).length=len*k':=by
            rw [Nat.add_mul] at hoff
            simp; omega
          refine ⟨(cs.toList.drop (off*k')).take (len*k'),by rw [hcl,hlen],fun w'=>by simp [Builtin.lenOf,hlen],fun i row hi=>h3 _ _ (hget i row hi).2,fun i row j x hi hj => ?_,fun w' hk' => ?_⟩
          · obtain ⟨hil,hi'⟩:=hget i row hi
            obtain ⟨u,hu,ho,hrd⟩:=hcell _ _ j x hi' hj
            have hjk:=(List.getElem?_eq_some_iff.1 hj).1
            have:=h3 _ _ hi'
            have hlm:=lt_mul_of (n:=len) (m:=1) (k:=k') (off:=j) (row:=i) hil (by omega)
            refine ⟨u,?_,ho,hrd⟩
            rw [slice_get (by omega),show off*k'+(i*k'+j)=(off+i)*k'+j by rw [Nat.add_mul]; omega]
            exact hu
          · rw [hlen]
            have:=run_loadCells_list (P:=P) w' ⟨b,off*k',none⟩ ((cs.toList.drop (off*k')).take (len*k')) (fun j u hj=>by
              rcases Nat.lt_or_ge j (len*k') with hjl | hjl
              · rw [slice_get hjl] at hj
                rw [Addr.add_mid,cell_keep hk' hw]
                exact hj
              · rw [List.getElem?_take_eq_none hjl] at hj; cases hj)
            rw [hcl] at this
            simp [Builtin.firstCells,this]
        | refv _ k' m a hE =>
          rw [List.take_zero]
          exact ⟨[],(src_nil (P:=P) (F:=F) (w:=w) k2 a 0).toV⟩
      · cases h
    · cases h

theorem row_relV {B:Base} {s:St} {E:Env} {F:Nat→Prop} {w:World} (hr:Rel B s E F w) (t:TypeId) (cs:Array Value) (k cap:Nat) (rows:List (List V))
    (hk:∀ (i:Nat) (row:List V),rows[i]? = some row→row.length=k) (hcap:rows.length≤cap) (hs:cap*k≤cs.size)
    (hc:∀ (i:Nat) (row:List V) (j:Nat) (x:V),rows[i]? = some row→row[j]? = some x→∃ v,cs[i*k+j]? = some v∧v.oneCell'=true∧VR E F w x v) :
    Evo E F w (E++[⟨some w.heap.size,k,rows.length⟩]) F (w.alloc (.cells cs t)) (fun _=>True) ∧
    Rel B { s with heap:=s.heap++[.vrs k rows] } (E++[⟨some w.heap.size,k,rows.length⟩]) F (w.alloc (.cells cs t)) ∧
      VR (E++[⟨some w.heap.size,k,rows.length⟩]) F (w.alloc (.cells cs t)) (.ref s.heap.length 0 rows.length) (.slice (some ⟨w.heap.size,0,none⟩) rows.length cap):=by
  have hkl:rows.length*k≤cs.size:=Nat.le_trans (Nat.mul_le_mul_right _ hcap) hs
  obtain ⟨h1,h2⟩:=alloc_rel hr (.cells cs t) (e:=⟨some w.heap.size,k,rows.length⟩) (blk:=.vrs k rows) rfl fun evo =>
    ⟨rfl,rfl,hk,.inr ⟨w.heap.size,cs,t,rfl,heap_alloc_new w _,hkl,fun i row j x hi hj=>let ⟨v,hv,ho,hd⟩:=hc i row j x hi hj; ⟨v,hv,ho,hd.evo evo (fun _ _=>trivial)⟩⟩⟩
  refine ⟨h1,h2,?_⟩
  exact VR.ref (E:=E++[⟨some w.heap.size,k,rows.length⟩]) (F:=F) (w:=w.alloc (.cells cs t)) s.heap.length 0 rows.length w.heap.size k rows.length (some ⟨w.heap.size,0,none⟩) cap cs.size (by
    rw [← hr.hr.len,List.getElem?_append_right (Nat.le_refl _)]; simp) (by omega) (fun _=>by simp) hcap ⟨cs,t,heap_alloc_new w _,rfl⟩ (by simpa using hs)

theorem toV_rel {B:Base} {s:St} {E:Env} {F:Nat→Prop} {w:World} (hr:Rel B s E F w) {i k:Nat} {rows:List (List D)} (hb:s.heap[i]? = some (.data k rows)) :
    Rel B { s with heap:=s.heap.set i (.vrs k (rows.map fun r=>r.map .d)) } E F w:=by
  have hget:∀ (j:Nat) (bj:Blk),(s.heap.set i (.vrs k (rows.map fun r=>r.map .d)))[j]? = some bj→(j=i∧bj=.vrs k (rows.map fun r=>r.map .d))∨(j≠i∧s.heap[j]? = some bj):=fun j bj hj=>by
    rw [List.getElem?_set] at hj
    split at hj
    · split at hj
      · simp at hj; exact .inl ⟨(by assumption:i=j).symm,hj.symm⟩
      · cases hj
    · exact .inr ⟨Ne.symm (by assumption),hj⟩
  have hl:∀ (j:Nat) (bj:Blk),(s.heap.set i (.vrs k (rows.map fun r=>r.map .d)))[j]? = some bj→bj.live=true→∃ b0,s.heap[j]? = some b0∧b0.live=true:=fun j bj hj hlj=>by
    rcases hget j bj hj with ⟨rfl,rfl⟩ | ⟨hji,hj⟩
    · exact ⟨_,hb,rfl⟩
    · exact ⟨bj,hj,hlj⟩
  refine ⟨hr.os,hr.tape,hr.output,hr.size,hr.F0,hr.only,hr.same,hr.lt,⟨by simpa using hr.hr.len,?_,?_,?_⟩,?_,hr.keep,hr.sz⟩
  · intro j e b h1 h2
    rcases hget j b h2 with ⟨rfl,rfl⟩ | ⟨_,h2⟩
    · obtain ⟨q1,q2,q3,q4⟩:=hr.hr.blk _ _ _ h1 hb
      refine ⟨q1,by simpa using q2,fun l row hl => ?_,q4.imp (fun ⟨z1,z2⟩=>⟨z1,by simp [z2]⟩) ?_⟩
      · simp only [List.getElem?_map,Option.map_eq_some_iff] at hl
        obtain ⟨r,hr,rfl⟩:=hl
        simpa using (q3 l r hr).1
      · rintro ⟨b,cs,t,z1,z2,z3,z4⟩
        refine ⟨b,cs,t,z1,z2,by simpa using z3,fun l row j x hl hj => ?_⟩
        simp only [List.getElem?_map,Option.map_eq_some_iff] at hl
        obtain ⟨r,hr,rfl⟩:=hl
        simp only [List.getElem?_map,Option.map_eq_some_iff] at hj
        obtain ⟨y,hy,rfl⟩:=hj
        obtain ⟨v,hv,hd⟩:=z4 l r j y hr hy
        exact ⟨v,hv,hd.one (List.all_eq_true.1 (q3 l r hr).2 _ (List.mem_of_getElem? hy)),.d _ _ hd⟩
    · exact hr.hr.blk j e b h1 h2
  · intro j b e bj h1 h2 h3 h4
    obtain ⟨b0,h0,hl0⟩:=hl j bj h3 h4
    exact hr.hr.free j b e b0 h1 h2 h0 hl0
  · intro j l c ej el bj bl h1 h2 h3 h4 h5 h6 h7 h8
    obtain ⟨b0,h0,hl0⟩:=hl j bj h5 h7
    obtain ⟨b1,h1',hl1⟩:=hl l bl h6 h8
    exact hr.hr.inj j l c ej el b0 b1 h1 h2 h3 h4 h0 h1' hl0 hl1
  · intro j b e bj h1 h2 h3 h4
    obtain ⟨b0,h0,hl0⟩:=hl j bj h2 h3
    exact hr.src j b e b0 h1 h0 hl0 h4

theorem virt_relV {B:Base} {s:St} {E:Env} {F:Nat→Prop} {w:World} (hr:Rel B s E F w) (k:Nat) :
    Evo E F w (E++[⟨none,k,0⟩]) F w (fun _=>True)∧Rel B { s with heap:=s.heap++[.vrs k []] } (E++[⟨none,k,0⟩]) F w:=by
  obtain ⟨h1,h2⟩:=virt_rel hr k
  refine ⟨h1,?_⟩
  have:=toV_rel h2 (i:=s.heap.length) (k:=k) (rows:=[]) (by simp)
  simpa using this

def appV (P:Program) (kp:List Nat) (s:St) (t t2:TypeId) (dst src:V) : Option (Prop × V × St) :=
  match kel P t with
  | some (none,k,u) =>
    match kbytes P u,kzero P u,srcV s.heap k src with
    | some by_,some zs,some (ob,ys) =>
      match dst with
      | .nil=>some ((kseq P t2=true∧zs.length=k∧ys.length*by_≤140737488355328∧ys.length≤9223372036854775807)∧ob,.ref s.heap.length 0 ys.length,{ s with heap:=s.heap++[.vrs k ys] })
      | .ref id off len =>
        match s.heap[id]? with
        | some (.vrs k' rows)=>some ((kseq P t2=true∧zs.length=k∧k=k'∧off=0∧id ∉ kp∧(len+ys.length)*by_≤140737488355328∧len+ys.length≤9223372036854775807)∧ob,.ref id 0 (len+ys.length),
            { tm:=tmScr id s.tm,heap:=(heapScr id s.heap).set id (.vrs k ((rows.take len++ys).map fun r=>r.map (scr id))) })
        | _=>none
      | _=>none
    | _,_,_=>none
  | _=>none

theorem appV_sound {P:Program} {B:Base} {s s':St} {a:Act} {w:World} {E:Env} {F:Nat→Prop} {t t2 ty:TypeId} {dst src x:V} {ob:Prop} {v u:Value}
    (h:appV P B.keep s t t2 dst src=some (ob,x,s')) (hob:ob) (hs:Sim B s a w E F) (hd:VR E F w dst v) (hsr:VR E F w src u) :
    ∃ r w' E',(Builtin.append_ #[t,t2] ty #[v,u]).run P w=.ok r w'∧Sim B s' a w' E' F∧VR E' F w' x r:=by
  unfold appV at h
  split at h
  · rename_i k e hk
    obtain ⟨i,ht,hi,rfl⟩:=kel_slice hk
    split at h
    · rename_i by_ zs ob' ys hby hz hsrc
      simp [kbytes,hi] at hby
      subst hby
      obtain ⟨i',z,hi',hz',rfl⟩:=kzero_spec hz
      rw [hi] at hi'
      cases hi'
      split at h
      · -- onto nothing
        simp only [Option.some.injEq,Prod.mk.injEq] at h
        obtain ⟨rfl,rfl,rfl⟩:=h
        obtain ⟨⟨h2,hzl,hb,h63⟩,hob⟩:=hob
        obtain ⟨cs,hc⟩:=srcV_sound (P:=P) hsrc hob hs.rel.hr hs.rel.lt hsr
        cases hd with
        | nil ad =>
          by_cases h0:ys.length=0
          · obtain rfl:=List.length_eq_zero_iff.1 h0
            have hcs:cs=[]:=List.length_eq_zero_iff.1 (by simpa using hc.size)
            subst hcs
            obtain ⟨e1,e2⟩:=virt_relV hs.rel i.size
            refine ⟨_,w,_,run_append_in (ty:=ty) ht hi h2 ad 0 0 0 u #[] w hc.len (hc.run w (Keep.refl w)) (Nat.le_refl _) (by cases ad <;> simp [storeCells]),hs.evo e1 e2 rfl,?_⟩
            exact .refv _ i.size 0 _ (by rw [← hs.rel.hr.len,List.getElem?_append_right (Nat.le_refl _)]; simp)
          · have hrun:=run_append_out (ty:=ty) ht hi hz' h2 ad 0 0 ys.length u #[] cs.toArray hc.len (hc.run _ (fun _ _=>rfl)) (by cases ad <;> simp [Builtin.firstCells,run_load0]) (by omega) (by simpa using hb) (by omega)
            simp only [Nat.zero_add] at hrun
            have hg:=le_grownCap w ys.length 0 e
            have hz2:z.cells.size=i.size:=by simpa using hzl
            obtain ⟨e1,e2,e3⟩:=row_relV hs.rel.drew e (#[]++cs.toArray++Builtin.zeroCells z.cells (grownCap w ys.length 0 e - ys.length)) i.size (grownCap w ys.length 0 e) ys hc.row hg (by
                simp only [Array.size_append,List.size_toArray,size_zeroCells,hc.size,hz2,← Nat.add_mul,List.length_nil,Nat.zero_add]
                exact Nat.mul_le_mul_right _ (by omega)) (fun l row j y hl hj=>by
                obtain ⟨uu,hu,ho,hr⟩:=hc.cell l row j y hl hj
                refine ⟨uu,?_,ho,VR.evo (w:=w) (w':=w.drew) (E:=E) (F:=F) (E':=E) (F':=F) (ok:=fun _=>True) ⟨fun _ h=>h,fun _ _=>rfl,fun _ _ _ h=>h,fun _ _ h=>h⟩ hr (fun _ _=>trivial)⟩
                have hlt:=(List.getElem?_eq_some_iff.1 hu).1
                rw [get3 (by simp; exact hlt)]
                simpa using hu)
            exact ⟨_,_,_,hrun,hs.drew.evo e1 e2 rfl,e3⟩
      · -- onto a row of the walk's own
        rename_i id off len
        split at h
        · rename_i k' rows hH
          simp only [Option.some.injEq,Prod.mk.injEq] at h
          obtain ⟨rfl,rfl,rfl⟩:=h
          obtain ⟨⟨h2,hzl,rfl,rfl,hkp,hb,h63⟩,hob⟩:=hob
          obtain ⟨cs,hc⟩:=srcV_sound (P:=P) hsrc hob hs.rel.hr hs.rel.lt hsr
          have hz2:z.cells.size=i.size:=by simpa using hzl
          -- the row behind it
          have hrows:∀ (rows:List (List V)),(∀ (l:Nat) (row:List V),rows[l]? = some row→row.length=i.size)→len≤rows.length →
              (∀ (l:Nat) (row:List V),(rows.take len++ys)[l]? = some row→row.length=i.size)∧(rows.take len++ys).length=len+ys.length:=by
            intro rows h3 hlr
            refine ⟨fun l row hl => ?_,by simp; omega⟩
            rw [List.getElem?_append] at hl
            split at hl
            · rw [List.getElem?_take] at hl
              split at hl
              · exact h3 _ _ hl
              · cases hl
            · exact hc.row _ _ hl
          have grow:∀ (os:List Value),os.length=len*i.size→len≤rows.length→(∀ (l:Nat) (row:List V),rows[l]? = some row→row.length=i.size) →
              (∀ (l:Nat) (row:List V) (j:Nat) (y:V),l<len→rows[l]? = some row→row[j]? = some y→∃ v,os[l*i.size+j]? = some v∧v.oneCell'=true∧VR E F w y v) →
              ∀ (en:En),E[id]? = some en→∀ cap,len+ys.length≤cap→∀ nc,cap≤nc →
              Sim B { tm:=tmScr id s.tm,heap:=(heapScr id s.heap).set id (.vrs i.size ((rows.take len++ys).map fun r=>r.map (scr id))) } a (w.drew.alloc (.cells (os.toArray++cs.toArray++Builtin.zeroCells z.cells (cap - (len+ys.length))) e))
                (E.set id ⟨some w.heap.size,i.size,len+ys.length⟩) F ∧
              VR (E.set id ⟨some w.heap.size,i.size,len+ys.length⟩) F (w.drew.alloc (.cells (os.toArray++cs.toArray++Builtin.zeroCells z.cells (cap - (len+ys.length))) e)) (.ref id 0 (len+ys.length)) (.slice (some ⟨w.heap.size,0,none⟩) (len+ys.length) cap):=by
            intro os hos hlr h3 hcell en hE cap hcap nc _
            obtain ⟨g1,g2⟩:=hrows rows h3 hlr
            have hil:id<E.length:=(List.getElem?_eq_some_iff.1 hE).1
            have hsize:(os.toArray++cs.toArray++Builtin.zeroCells z.cells (cap - (len+ys.length))).size=cap*i.size:=by
              simp only [Array.size_append,List.size_toArray,size_zeroCells,hc.size,hos,hz2,← Nat.add_mul]
              congr 1
              omega
            have hsame:∀ b,b<w.heap.size→(w.drew.alloc (.cells (os.toArray++cs.toArray++Builtin.zeroCells z.cells (cap - (len+ys.length))) e)).heap[b]? = w.heap[b]?:=fun b hb=>Below.heap_alloc w.drew _ b hb
            refine ⟨rebind hs hE hH rfl hkp rfl rfl ⟨rfl⟩ (by simp) (fun b hb=>hsame b (hs.rel.lt b hb)) (fun b h1 _=>hsame b (Nat.lt_of_lt_of_le h1 hs.rel.size)) (fun c hc=>by simp at hc; subst hc; exact .inl hs.rel.size) (fun j ej bj c hj h4 h5 h6 h7 => ?_) (fun b n hb=>Sz.alloc (w:=w.drew) _ hb) (fun c hc => ?_) ?_,?_⟩
            · have:=(hs.rel.hr.free j c ej bj h4 h7 h5 h6).1
              exact ⟨hsame c this,fun h=>by simp at h; omega⟩
            · simp at hc
              subst hc
              exact ⟨by simp,fun h=>by have:=hs.rel.lt _ h; omega⟩
            · have evo:Evo E F w (E.set id ⟨some w.heap.size,i.size,len+ys.length⟩) F (w.drew.alloc (.cells (os.toArray++cs.toArray++Builtin.zeroCells z.cells (cap - (len+ys.length))) e)) (fun j=>j≠id) :=
                ⟨fun _ h=>h,fun b hb=>hsame b (hs.rel.lt b hb),fun j ej hj h=>by rw [List.getElem?_set_ne (Ne.symm hj)]; exact h,fun b n hb=>Sz.alloc (w:=w.drew) _ hb⟩
              refine ⟨rfl,by simpa using g2.symm,fun l row hl=>by
                  simp only [List.getElem?_map,Option.map_eq_some_iff] at hl
                  obtain ⟨row0,hl,rfl⟩:=hl
                  simpa using g1 l row0 hl,.inr ⟨w.heap.size,_,e,rfl,heap_alloc_new w.drew _,?_,fun l row j y hl hj => ?_⟩⟩
              · rw [hsize,List.length_map,g2]
                exact Nat.mul_le_mul_right _ hcap
              · simp only [List.getElem?_map,Option.map_eq_some_iff] at hl
                obtain ⟨row0,hl,rfl⟩:=hl
                simp only [List.getElem?_map,Option.map_eq_some_iff] at hj
                obtain ⟨y0,hj,rfl⟩:=hj
                have hjk:=(List.getElem?_eq_some_iff.1 hj).1
                have hrl:=g1 l row0 hl
                rw [List.getElem?_append] at hl
                split at hl
                · rename_i hll
                  have hll':l<len:=by simp at hll; omega
                  rw [List.getElem?_take_of_lt hll'] at hl
                  obtain ⟨uu,hu,ho,hr⟩:=hcell l row0 j y0 hll' hl hj
                  refine ⟨uu,?_,ho,scr_VR evo hr⟩
                  have:=lt_mul_of (n:=len) (m:=1) (k:=i.size) (off:=j) (row:=l) hll' (by omega)
                  rw [get3 (by simp; omega)]
                  simp only [List.append_toArray,List.getElem?_toArray]
                  rw [List.getElem?_append_left (by omega)]
                  exact hu
                · rename_i hll
                  simp only [List.length_take] at hl hll
                  rw [show min len rows.length=len by omega] at hl hll
                  obtain ⟨uu,hu,ho,hr⟩:=hc.cell _ row0 j y0 hl hj
                  refine ⟨uu,?_,ho,scr_VR evo hr⟩
                  have hlt:=(List.getElem?_eq_some_iff.1 hu).1
                  have e1:l*i.size=len*i.size+(l - len)*i.size:=by rw [← Nat.add_mul]; congr 1; omega
                  rw [get3 (by simp; omega)]
                  simp only [List.append_toArray,List.getElem?_toArray]
                  rw [List.getElem?_append_right (by omega),show l*i.size+j - os.length=(l - len)*i.size+j by omega]
                  exact hu
            · have hEs:(E.set id ⟨some w.heap.size,i.size,len+ys.length⟩)[id]? = some ⟨some w.heap.size,i.size,len+ys.length⟩:=List.getElem?_set_self hil
              exact .ref id 0 _ w.heap.size i.size _ _ cap (cap*i.size) hEs (by omega) (fun _=>by simp) hcap ⟨_,e,heap_alloc_new w.drew _,hsize⟩ (by simp)
          cases hd with
          | ref _ _ _ b k2 m ad cap n hE hm ha hl hbz hcp =>
            obtain ⟨g1,g2,g3,g4⟩:=hs.rel.hr.blk _ _ _ hE hH
            dsimp only at g1 g2
            subst g1 g2
            rcases g4 with ⟨g4,_⟩ | ⟨b',cur,tt,g4,hw,hsz,hcell⟩
            · cases g4
            simp only [Option.some.injEq] at g4
            subst g4
            have had:=ha (.inr rfl)
            subst had
            have hcur:n=cur.size:=by
              obtain ⟨c0,t0,q1,q2⟩:=hbz
              rw [hw] at q1
              cases q1
              exact q2.symm
            subst hcur
            simp only [Nat.zero_add] at hm hcp
            obtain ⟨g5,g6⟩:=hrows rows g3 hm
            by_cases hroom:len+ys.length≤cap
            · -- there is room
              have hcap2:(len+ys.length)*i.size≤cur.size:=Nat.le_trans (Nat.mul_le_mul_right _ hroom) hcp
              have hfit:len*i.size+cs.length≤cur.size:=by rw [hc.size,← Nat.add_mul]; exact hcap2
              have hst:=run_storeCells_at (P:=P) b (0*i.size+len*i.size) tt cs 0 cur w hw (by omega) hc.one
              simp only [Nat.zero_mul,Nat.zero_add,Nat.add_zero,List.append_assoc] at hst
              have hset:(cur.toList.take (len*i.size)++(cs++cur.toList.drop (len*i.size+cs.length)))=setL cur.toList (len*i.size) cs:=rfl
              rw [hset] at hst
              have hrun:=run_append_in (ty:=ty) ht hi h2 (some ⟨b,0,none⟩) len cap ys.length u cs.toArray _ hc.len (hc.run w (Keep.refl w)) hroom (by
                show (storeCells ((⟨b,0,none⟩ : Addr).add (len*i.size)) cs).run P w=_
                rw [Addr.add_mid,Nat.zero_add]; exact hst)
              have hss:(setL cur.toList (len*i.size) cs).toArray.size=cur.size:=by rw [List.size_toArray,setL_len _ _ _ (by simp; omega),Array.length_toList]
              obtain ⟨hbl,hbF⟩:=hs.rel.hr.free id b _ _ hE rfl hH rfl
              have hil:id<E.length:=(List.getElem?_eq_some_iff.1 hE).1
              have hF:∀ c,F c→(w.setRow b (setL cur.toList (len*i.size) cs).toArray).heap[c]? = w.heap[c]?:=fun c hc=>heap_setRow_other w b c _ (fun q=>hbF (q ▸ hc))
              refine ⟨.slice (some ⟨b,0,none⟩) (len+ys.length) cap,w.setRow b (setL cur.toList (len*i.size) cs).toArray,E.set id ⟨some b,i.size,len+ys.length⟩,by simpa using hrun,rebind hs hE hH rfl hkp rfl rfl ⟨rfl⟩ (by simp) hF (fun c h1 h2=>heap_setRow_other w b c _ (fun q=>(hs.rel.src id b _ _ hE hH rfl rfl).elim (fun h=>by omega) (fun h=>h2 (q ▸ h)))) (fun c hc=>by simp at hc; subst hc; exact hs.rel.src id b _ _ hE hH rfl rfl) (fun j ej bj c hj h4 h5 h6 h7 => ?_) (fun b' n' hb'=>hb'.setRow hw hss) (fun c hc => ?_) ?_,?_⟩
              · have hne:c≠b:=fun q=>hj (hs.rel.hr.inj j id c ej _ bj _ h4 hE h7 (by simp [q]) h5 hH h6 rfl)
                exact ⟨heap_setRow_other w b c _ hne,fun h=>by simp at h; exact hne h.symm⟩
              · simp at hc
                subst hc
                exact ⟨by simpa using hbl,hbF⟩
              · have evo:Evo E F w (E.set id ⟨some b,i.size,len+ys.length⟩) F (w.setRow b (setL cur.toList (len*i.size) cs).toArray) (fun j=>j≠id) :=
                  ⟨fun _ h=>h,hF,fun j ej hj h=>by rw [List.getElem?_set_ne (Ne.symm hj)]; exact h,fun b' n' hb'=>hb'.setRow hw hss⟩
                refine ⟨rfl,by simpa using g6.symm,fun l row hl=>by
                  simp only [List.getElem?_map,Option.map_eq_some_iff] at hl
                  obtain ⟨row0,hl,rfl⟩:=hl
                  simpa using g5 l row0 hl,.inr ⟨b,_,tt,rfl,setRow_heap w b cur _ tt _ hw,?_,fun l row j y hl hj => ?_⟩⟩
                · rw [hss,List.length_map,g6]; exact hcap2
                · simp only [List.getElem?_map,Option.map_eq_some_iff] at hl
                  obtain ⟨row0,hl,rfl⟩:=hl
                  simp only [List.getElem?_map,Option.map_eq_some_iff] at hj
                  obtain ⟨y0,hj,rfl⟩:=hj
                  have hjk:=(List.getElem?_eq_some_iff.1 hj).1
                  have hrl:=g5 l row0 hl
                  simp only [List.getElem?_toArray]
                  rw [setL_get _ _ _ (by simp; omega)]
                  rw [List.getElem?_append] at hl
                  split at hl
                  · rename_i hll
                    have hll':l<len:=by simp at hll; omega
                    rw [List.getElem?_take_of_lt hll'] at hl
                    obtain ⟨uu,hu,ho,hr⟩:=hcell l row0 j y0 hl hj
                    have:=lt_mul_of (n:=len) (m:=1) (k:=i.size) (off:=j) (row:=l) hll' (by omega)
                    rw [if_neg (by omega)]
                    exact ⟨uu,by simpa using hu,ho,scr_VR evo hr⟩
                  · rename_i hll
                    simp only [List.length_take] at hl hll
                    rw [show min len rows.length=len by omega] at hl hll
                    obtain ⟨uu,hu,ho,hr⟩:=hc.cell _ row0 j y0 hl hj
                    have hlt:=(List.getElem?_eq_some_iff.1 hu).1
                    have e1:l*i.size=len*i.size+(l - len)*i.size:=by rw [← Nat.add_mul]; congr 1; omega
                    rw [if_pos (by omega),show l*i.size+j - len*i.size=(l - len)*i.size+j by omega]
                    exact ⟨uu,hu,ho,scr_VR evo hr⟩
              · have hEs:(E.set id ⟨some b,i.size,len+ys.length⟩)[id]? = some ⟨some b,i.size,len+ys.length⟩:=List.getElem?_set_self hil
                exact .ref id 0 _ b i.size _ _ cap cur.size hEs (by omega) (fun _=>by simp) hroom (Sz.setRow hw hss (⟨cur,tt,hw,rfl⟩ : Sz w b cur.size)) (by simpa using hcp)
            · -- a new row
              have hos:((cur.toList.take (len*i.size))).length=len*i.size:=by
                have:len*i.size≤cur.size:=Nat.le_trans (Nat.mul_le_mul_right _ hl) hcp
                simp; omega
              have hfo:(Builtin.firstCells i.size len (.slice (some ⟨b,0*i.size,none⟩) len cap)).run P w.drew=.ok (cur.toList.take (len*i.size)).toArray w.drew:=by
                have:=run_loadCells_list (P:=P) w.drew ⟨b,0,none⟩ (cur.toList.take (len*i.size)) (fun j u hj=>by
                  rw [List.getElem?_take] at hj
                  split at hj
                  · rw [Addr.add_mid,Nat.zero_add,cell_of_row w.drew b j cur tt (0,0) hw]
                    simpa using hj
                  · cases hj)
                rw [hos] at this
                simp only [Nat.zero_mul]
                simp [Builtin.firstCells,this]
              have hrun:=run_append_out (ty:=ty) ht hi hz' h2 _ len cap ys.length u _ cs.toArray hc.len (hc.run _ (fun _ _=>rfl)) hfo (by omega) hb h63
              obtain ⟨q1,q2⟩:=grow _ hos hm g3 (fun l row j y hl hrow hj=>by
                obtain ⟨uu,hu,ho,hr⟩:=hcell l row j y hrow hj
                have hjk:=(List.getElem?_eq_some_iff.1 hj).1
                have:=g3 l row hrow
                have:=lt_mul_of (n:=len) (m:=1) (k:=i.size) (off:=j) (row:=l) hl (by omega)
                exact ⟨uu,by rw [List.getElem?_take_of_lt (by omega)]; simpa using hu,ho,hr⟩) _ hE _ (le_grownCap w (len+ys.length) cap e) _ (Nat.le_refl _)
              exact ⟨_,_,_,hrun,q1,q2⟩
          | refv _ k2 m ad hE =>
            obtain ⟨g1,g2,g3,g4⟩:=hs.rel.hr.blk _ _ _ hE hH
            dsimp only at g1 g2
            subst g1
            have hrn:rows=[]:=by
              rcases g4 with ⟨_,g4⟩ | ⟨b',cur,tt,g4,_⟩
              · exact g4
              · cases g4
            subst hrn
            by_cases h0:ys.length=0
            · obtain rfl:=List.length_eq_zero_iff.1 h0
              have hcs:cs=[]:=List.length_eq_zero_iff.1 (by simpa using hc.size)
              subst hcs
              have hil:id<E.length:=(List.getElem?_eq_some_iff.1 hE).1
              refine ⟨_,w,E.set id ⟨none,i.size,0⟩,run_append_in (ty:=ty) ht hi h2 ad 0 0 0 u #[] w hc.len (hc.run w (Keep.refl w)) (Nat.le_refl _) (by cases ad <;> simp [storeCells]),?_,?_⟩
              · exact rebind hs hE hH rfl hkp rfl rfl ⟨rfl⟩ (Nat.le_refl _) (fun _ _=>rfl) (fun _ _ _=>rfl) (fun c hc=>by simp at hc) (fun j ej bj c hj h4 h5 h6 h7=>⟨rfl,by simp⟩) (fun _ _ h=>h) (fun c hc=>by simp at hc) ⟨rfl,by simp,by simp,.inl ⟨rfl,by simp⟩⟩
              · exact .refv id i.size 0 ad (List.getElem?_set_self hil)
            · have hrun:=run_append_out (ty:=ty) ht hi hz' h2 ad 0 0 ys.length u #[] cs.toArray hc.len (hc.run _ (fun _ _=>rfl)) (by cases ad <;> simp [Builtin.firstCells,run_load0]) (by omega) (by simpa using hb) (by omega)
              obtain ⟨q1,q2⟩:=grow [] (by simp) (by simp) (by simp) (by simp) _ hE _ (le_grownCap w (0+ys.length) 0 e) _ (Nat.le_refl _)
              exact ⟨_,_,_,hrun,q1,q2⟩
        · cases h
      · cases h
    · cases h
  · cases h

def rowsV:List (Nat × V)→Nat→Option (List (List V))
  | [],_=>some []
  | (i,x)::r,m=>if i=m then (rowsV r (m+1)).map fun l=>x.cellsV::l else none
def flatsV (n:Nat) : List (Nat × V)→Prop
  | []=>True
  | (_,x)::r=>(x.flat=true∧x.cellsV.length=n)∧flatsV n r
def hasNil:List (Nat × V)→Bool
  | []=>false
  | (_,x)::r=>x.cellsV.any (fun y=>match y with | .nil=>true | _=>false)||hasNil r

def litVQ (P:Program) (s:St) (t:TypeId) (n:Nat) (parts:Array (Nat × Operand)) : Option (Prop × Nat × List (List V)) :=
  match kel P t with
  | some (none,k,u) =>
    match kzero P u,rowsV (parts.toList.map fun p=>(p.1,(s.ev p.2).strip.2)) 0 with
    | some zs,some rows=>if rows.length=n then some (zs.length=k∧n*k≤16777216∧stripsOk s parts.toList∧flatsV k (parts.toList.map fun p=>(p.1,(s.ev p.2).strip.2)),k,rows) else none
    | _,_=>none
  | _=>none

theorem lit_fillV {E:Env} {F:Nat→Prop} {w:World} (k N:Nat) : ∀ (parts:List (Nat × V)) (vs:List (Nat × Value)) (m:Nat) (rows:List (List V)) (cs:Array Value),
    rowsV parts m=some rows→flatsV k parts→parts.length=vs.length→(∀ (j:Nat) (x:Nat × V) (v:Nat × Value),parts[j]? = some x→vs[j]? = some v→x.1=v.1∧VR E F w x.2 v.2) →
    (m+rows.length)*k≤cs.size→∃ cs',Instr.fill (fun i=>some (i*k,k)) cs vs=some cs'∧cs'.size=cs.size∧(∀ j,j<m*k→cs'[j]? = cs[j]?) ∧
      (∀ (i:Nat) (row:List V),rows[i]? = some row→row.length=k) ∧
      ∀ (i:Nat) (row:List V) (j:Nat) (x:V),rows[i]? = some row→row[j]? = some x→∃ v,cs'[(m+i)*k+j]? = some v∧v.oneCell'=true∧VR E F w x v
  | [],[],m,rows,cs,h,_,_,_,_=>by
    simp [rowsV] at h
    subst h
    exact ⟨cs,rfl,rfl,fun _ _=>rfl,by simp,by simp⟩
  | (i,x)::r,[],m,rows,cs,h,_,hl,_,_=>by simp at hl
  | [],v::vs,m,rows,cs,h,_,hl,_,_=>by simp at hl
  | (i,x)::r,(i',v)::vs,m,rows,cs,h,hp,hl,hr,hsz=>by
    obtain ⟨hi,hx⟩:=hr 0 (i,x) (i',v) rfl rfl
    dsimp only at hi hx
    subst hi
    simp only [rowsV] at h
    split at h
    · rename_i him
      subst him
      simp only [Option.map_eq_some_iff] at h
      obtain ⟨rs,hrs,rfl⟩:=h
      obtain ⟨⟨h1,h2⟩,hp'⟩:=hp
      obtain ⟨c1,c2,c3⟩:=cellsV_sound hx h1
      simp only [List.length_cons] at hsz
      have hb:i*k+k≤cs.size:=by
        have:(i+1)*k≤(i+(rs.length+1))*k:=Nat.mul_le_mul_right _ (by omega)
        rw [Nat.add_mul,Nat.one_mul] at this
        omega
      have hset:=foldl_set (i*k) v.cells.toList 0 cs (by simp; omega)
      have hz:v.cells.zipIdx.foldl (fun cs (p:Value × Nat)=>cs.setIfInBounds (i*k+p.2) p.1) cs=(setL cs.toList (i*k) v.cells.toList).toArray:=by
        apply Array.ext'
        rw [← Array.foldl_toList]
        simpa [Array.toList_zipIdx] using hset
      have hss:(setL cs.toList (i*k) v.cells.toList).toArray.size=cs.size:=by
        rw [List.size_toArray,setL_len _ _ _ (by simp; omega),Array.length_toList]
      obtain ⟨cs',e1,e2,e3,e4,e5⟩:=lit_fillV k N r vs (i+1) rs (setL cs.toList (i*k) v.cells.toList).toArray hrs hp' (by simpa using hl) (fun j x v hj hv=>hr (j+1) x v (by simpa using hj) (by simpa using hv)) (by
        rw [hss]
        rwa [show i+1+rs.length=i+(rs.length+1) by omega])
      rw [hss] at e2
      refine ⟨cs',?_,e2,fun j hj => ?_,fun l row hl => ?_,fun l row j y hl hy => ?_⟩
      · simp only [Instr.fill]
        rw [if_neg (by simp; omega),hz]
        exact e1
      · rw [e3 j (by rw [Nat.add_mul]; omega),List.getElem?_toArray,setL_get _ _ _ (by simp; omega),if_neg (by omega)]
        simp
      · cases l with
        | zero=>simp at hl; subst hl; omega
        | succ l=>exact e4 l row (by simpa using hl)
      · cases l with
        | zero =>
          simp at hl
          subst hl
          have hjk:=(List.getElem?_eq_some_iff.1 hy).1
          obtain ⟨u,hu1,hu2⟩:=c2 j y hy
          refine ⟨u,?_,c3 _ (Array.mem_toList_iff.2 (Array.mem_of_getElem? hu1)),hu2⟩
          rw [Nat.add_zero,e3 _ (by rw [Nat.add_mul]; omega),List.getElem?_toArray,setL_get _ _ _ (by simp; omega),if_pos (by simp; omega)]
          simpa using hu1
        | succ l =>
          obtain ⟨u,hu,ho,hrd⟩:=e5 l row j y (by simpa using hl) hy
          exact ⟨u,by rwa [show i+(l+1)=i+1+l by omega],ho,hrd⟩
    · cases h

theorem litV_sound {P:Program} {B:Base} {s:St} {a:Act} {w:World} {E:Env} {F:Nat→Prop} {t:TypeId} {n k:Nat} {parts:Array (Nat × Operand)} {ob:Prop} {rows:List (List V)}
    (h:litVQ P s t n parts=some (ob,k,rows)) (hob:ob) (hs:Sim B s a w E F) :
    ∃ v w',(Instr.buildSlice t n (parts.map fun (p:Nat × Operand)=>(p.1,a.eval p.2))).run P w=.ok v w'∧Keep w w' ∧
      ∃ E',Evo E F w E' F w' (fun _=>True)∧Rel B { s with heap:=s.heap++[.vrs k rows] } E' F w'∧VR E' F w' (.ref s.heap.length 0 n) v:=by
  unfold litVQ at h
  split at h
  · rename_i k' u hk
    split at h
    · rename_i zs rows' hz hrows
      split at h
      · rename_i hn
        simp only [Option.some.injEq,Prod.mk.injEq] at h
        obtain ⟨rfl,rfl,rfl⟩:=h
        obtain ⟨hzl,hmax,hst,hok⟩:=hob
        obtain ⟨j,hu,hj,rfl⟩:=kel_slice hk
        obtain ⟨i,z,hi,hz',rfl⟩:=kzero_spec hz
        rw [hj] at hi
        cases hi
        have hzs:z.cells.size=j.size:=by simpa using hzl
        obtain ⟨cs',e1,e2,_,e4,e5⟩:=lit_fillV (E:=E) (F:=F) (w:=w) j.size n _ (parts.toList.map fun p=>(p.1,a.eval p.2)) 0 rows'
          ((Array.range (n*j.size)).map (z.cells[· % z.cells.size]!)) hrows hok (by simp) (fun j x v hx hv=>by
          simp only [List.getElem?_map,Option.map_eq_some_iff] at hx hv
          obtain ⟨q,hq,rfl⟩:=hx
          obtain ⟨q',hq',rfl⟩:=hv
          rw [hq] at hq'
          cases hq'
          exact ⟨rfl,V.strip_sound (ev_sound hs _) (stripsOk_at hst (List.mem_of_getElem? hq))⟩) (by simp [hn])
        have hcs:cs'.size=n*j.size:=by simpa using e2
        obtain ⟨h1,h2,h3⟩:=row_relV hs.rel u cs' j.size n rows' e4 (by omega) (by omega) (by simpa using e5)
        rw [hn] at h1 h2 h3
        refine ⟨_,_,?_,fun b hb=>Below.heap_alloc w _ b hb,_,h1,h2,h3⟩
        by_cases h0:n*j.size=0
        · have hcs0:cs' = #[]:=Array.eq_empty_of_size_eq_zero (by omega)
          simp only [h0,Array.range_zero',Array.map_empty] at e1
          simp [Instr.buildSlice,run_underlying hu,sizeOf,typeInfo,hj,zeroValue,hz',h0,show Array.range 0 = #[] from rfl,e1,newRow]
        · have hmx:¬ (2 ^ 24<n*j.size):=by omega
          simp only [Instr.buildSlice,Sem.run_bind,run_underlying hu,Result.andThen_ok,sizeOf,typeInfo,run_program,hj,Sem.run_pure,gt_iff_lt,if_neg hmx,if_neg h0,zeroValue,hz']
          simp only [Array.toList_map,e1]
          simp [newRow]
      · cases h
    · cases h
  · cases h


end Go.Aw

namespace Go.Aw
set_option linter.unusedSimpArgs false
set_option linter.unusedVariables false
open Go.RowKit

mutual
def V.sh (n:Nat) : V→V
  | .agg xs=>.agg (V.shL n xs)
  | .tup xs=>.tup (V.shL n xs)
  | .ptr id row off=>.ptr (n+id) row off
  | .ref id off len=>.ref (n+id) off len
  | .fn f xs=>.fn f (V.shL n xs)
  | .map id=>.map (n+id)
  | .iface t x=>.iface t (V.sh n x)
  | .opt g x=>.opt g (V.sh n x)
  | x=>x
def V.shL (n:Nat) : List V→List V
  | []=>[]
  | x::r=>V.sh n x::V.shL n r
end
theorem shL_eq (n:Nat) : ∀ xs:List V,V.shL n xs=xs.map (V.sh n)
  | []=>rfl
  | x::r=>by simp [V.shL,shL_eq n r]
def Blk.sh (n:Nat) : Blk→Blk
  | .cells xs=>.cells (V.shL n xs)
  | .vrs k rs=>.vrs k (rs.map fun r=>V.shL n r)
  | .mp es=>.mp (es.map fun p=>(V.sh n p.1,V.sh n p.2))
  | .it x seen m=>.it (V.sh n x) seen m
  | b=>b
def heapSh (n:Nat) : List Blk→List Blk
  | []=>[]
  | b::r=>b.sh n::heapSh n r
theorem heapSh_eq (n:Nat) : ∀ l,heapSh n l=l.map (Blk.sh n)
  | []=>rfl
  | b::r=>by simp [heapSh,heapSh_eq n r]
theorem Blk.sh_map1 (n:Nat) (b:Blk) : b.sh n=b.map1 (V.sh n):=by
  cases b <;> simp [Blk.sh,Blk.map1,shL_eq]
theorem Blk.live_sh (n:Nat) (b:Blk) : (b.sh n).live=b.live:=by cases b <;> rfl

theorem sh_VR {E0 E:Env} {F:Nat→Prop} {w:World} {x:V} {v:Value} (hx:VR E F w x v) : VR (E0++E) F w (x.sh E0.length) v:=by
  have get:∀ (id:Nat) (e:En),E[id]? = some e→(E0++E)[E0.length+id]? = some e:=fun id e h=>by
    rw [List.getElem?_append_right (by omega),show E0.length+id - E0.length=id by omega]; exact h
  induction hx with
  | d x v hd=>exact .d x v hd
  | agg xs cs hs hrr ih =>
    simp only [V.sh,shL_eq]
    refine .agg _ cs (by simpa using hs) fun j x v hx hv => ?_
    simp only [List.getElem?_map,Option.map_eq_some_iff] at hx
    obtain ⟨y,hy,rfl⟩:=hx
    exact ih j y v hy hv
  | tup xs cs hs hrr ih =>
    simp only [V.sh,shL_eq]
    refine .tup _ cs (by simpa using hs) fun j x v hx hv => ?_
    simp only [List.getElem?_map,Option.map_eq_some_iff] at hx
    obtain ⟨y,hy,rfl⟩:=hx
    exact ih j y v hy hv
  | fn f xs cs hs hrr ih =>
    simp only [V.sh,shL_eq]
    refine .fn f _ cs (by simpa using hs) fun j x v hx hv => ?_
    simp only [List.getElem?_map,Option.map_eq_some_iff] at hx
    obtain ⟨y,hy,rfl⟩:=hx
    exact ih j y v hy hv
  | iface t x v hx ih=>exact .iface t _ v ih
  | opt g x v hx hu ih=>exact .opt g _ v ih hu
  | junk v=>exact .junk v
  | nil a=>exact .nil a
  | map id b k m hE=>exact .map _ b k m (get _ _ hE)
  | ptr id row off b k m hE hm=>exact .ptr _ row off b k m (get _ _ hE) hm
  | ref id off len b k m a cap n hE hm ha hl hbz hcp=>exact .ref _ off len b k m a cap n (get _ _ hE) hm ha hl hbz hcp
  | refv id k m a hE=>exact .refv _ k m a (get _ _ hE)

def own (E:Env) (H:List Blk) (b:Nat) : Prop:=∃ (id:Nat) (e:En) (blk:Blk),E[id]? = some e∧H[id]? = some blk∧blk.live=true∧e.blk=some b

def callable (P : Program) (f : FuncId) : Prop := ∃ fn, P.funcs[f]? = some fn ∧ (fn.name == "runtime.NumGoroutine") = false ∧ fn.body.isNone = false

def AC (P:Program) (f:FuncId) (args:List V) (H:List Blk) (kp:List Nat) (R:V→List Blk→Prop) : Prop :=
  callable P f∧∀ (w:World) (cargs:Array Value) (E:Env) (F:Nat→Prop),HR E F w H→FO F w→(∀ i,i∈kp→i<H.length)→CR E F w args cargs →
    Calls P f cargs w fun e w'=>∃ v x H' E' F',e=.returned v∧R x H'∧Rel ⟨w,F,own E H,E,kp,[]⟩ ⟨[],H'⟩ E' F' w'∧VR E' F' w' x v

theorem AC.mono {P:Program} {f:FuncId} {args:List V} {H:List Blk} {kp:List Nat} {R R':V→List Blk→Prop} (h:AC P f args H kp R) (hr:∀ x H',R x H'→R' x H') : AC P f args H kp R' :=
  ⟨h.1,fun w cargs E F h1 h2 h3 h4=>(h.2 w cargs E F h1 h2 h3 h4).mono fun e w' ⟨v,x,H',E',F',q1,q2,q3⟩=>⟨v,x,H',E',F',q1,hr _ _ q2,q3⟩⟩

def ofD:D→V
  | .agg xs=>.agg (xs.map .d)
  | .tup xs=>.tup (xs.map .d)
  | x=>.d x

def PC (P:Program) (f:FuncId) (args:List D) (R:V→List Blk→Prop) : Prop:=AC P f (args.map ofD) [] [] R

theorem PC.mono {P:Program} {f:FuncId} {args:List D} {R R':V→List Blk→Prop} (h:PC P f args R) (hr:∀ x H',R x H'→R' x H') : PC P f args R':=AC.mono h hr

theorem ofD_sound {E:Env} {F:Nat→Prop} {w:World} {x:D} {v:Value} (h:RD F w x v) : VR E F w (ofD x) v:=by
  cases h with
  | agg xs cs hs hr =>
    refine .agg _ cs (by simpa using hs) fun j y u hy hu => ?_
    simp only [List.getElem?_map,Option.map_eq_some_iff] at hy
    obtain ⟨z,hz,rfl⟩:=hy
    exact .d _ _ (hr j z u hz hu)
  | tup xs cs hs hr =>
    refine .tup _ cs (by simpa using hs) fun j y u hy hu => ?_
    simp only [List.getElem?_map,Option.map_eq_some_iff] at hy
    obtain ⟨z,hz,rfl⟩:=hy
    exact .d _ _ (hr j z u hz hu)
  | int k n=>exact .d _ _ (.int k n)
  | bool b=>exact .d _ _ (.bool b)
  | str s=>exact .d _ _ (.str s)
  | nilfn=>exact .d _ _ .nilfn
  | nilptr=>exact .d _ _ .nilptr
  | nilmap=>exact .d _ _ .nilmap
  | niliface=>exact .d _ _ .niliface
  | iface t x v h=>exact .d _ _ (.iface t x v h)
  | sl0 a cap=>exact .d _ _ (.sl0 a cap)
  | sl b off cap k rows c hn hF hk hc hr=>exact .d _ _ (.sl b off cap k rows c hn hF hk hc hr)
  | cp b o off xs c hF hc hr=>exact .d _ _ (.cp b o off xs c hF hc hr)
  | fn f xs cs hs hr=>exact .d _ _ (.fn f xs cs hs hr)

def dV:V→Option D
  | .d x=>some x
  | .nil=>some (.sl [])
  | .agg xs=>(dOfs xs).map .agg
  | .fn f xs=>(dOfs xs).map (.fn f)
  | .iface t (.d x)=>some (.iface t x)
  | .iface t (.agg xs)=>(dOfs xs).map fun ds=>.iface t (.agg ds)
  | _=>none

theorem dOfs_RD {E:Env} {F:Nat→Prop} {w:World} {xs:List V} {ds:List D} {cs:Array Value} (h:dOfs xs=some ds) (hs:cs.size=xs.length)
    (hr:∀ (j:Nat) (x:V) (v:Value),xs[j]? = some x→cs[j]? = some v→VR E F w x v) : cs.size=ds.length∧∀ (j:Nat) (x:D) (v:Value),ds[j]? = some x→cs[j]? = some v→RD F w x v:=by
  obtain ⟨h1,h2⟩:=dOfs_get h
  refine ⟨by omega,fun j x v hx hv => ?_⟩
  obtain ⟨y,hy,hd⟩:=h2 j x hx
  exact dOf_sound hd (hr j y v hy hv)

theorem dV_sound {E:Env} {F:Nat→Prop} {w:World} {x:V} {d:D} {v:Value} (h:dV x=some d) (hx:VR E F w x v) : RD F w d v:=by
  unfold dV at h
  split at h
  · simp at h; subst h; cases hx; assumption
  · simp at h; subst h; cases hx; exact .sl0 _ _
  · simp only [Option.map_eq_some_iff] at h
    obtain ⟨ds,hds,rfl⟩:=h
    cases hx with
    | agg xs cs hs hr=>obtain ⟨q1,q2⟩:=dOfs_RD hds hs hr; exact .agg _ _ q1 q2
  · simp only [Option.map_eq_some_iff] at h
    obtain ⟨ds,hds,rfl⟩:=h
    cases hx with
    | fn f xs cs hs hr=>obtain ⟨q1,q2⟩:=dOfs_RD hds hs hr; exact .fn _ _ _ q1 q2
  · simp at h; subst h
    cases hx with
    | iface t x v hx=>cases hx with | d _ _ hd=>exact .iface _ _ _ hd
  · simp only [Option.map_eq_some_iff] at h
    obtain ⟨ds,hds,rfl⟩:=h
    cases hx with
    | iface t x v hx =>
      cases hx with
      | agg xs cs hs hr=>obtain ⟨q1,q2⟩:=dOfs_RD hds hs hr; exact .iface _ _ _ (.agg _ _ q1 q2)
  · cases h

def dVs:List V→Option (List D)
  | []=>some []
  | x::r=>match dV x,dVs r with
    | some d,some ds=>some (d::ds)
    | _,_=>none

theorem dVs_sound {E E':Env} {F:Nat→Prop} {w:World} : ∀ {xs:List V} {ds:List D} {vs:List Value},dVs xs=some ds→vs.length=xs.length →
    (∀ (j:Nat) (x:V) (v:Value),xs[j]? = some x→vs[j]? = some v→VR E F w x v)→CR E' F w (ds.map ofD) vs.toArray
  | [],ds,vs,h,hl,_=>by
    simp [dVs] at h
    subst h
    have:vs=[]:=List.length_eq_zero_iff.1 hl
    subst this
    exact ⟨rfl,by simp⟩
  | x::r,ds,[],h,hl,_=>by simp at hl
  | x::r,ds,v::vs,h,hl,hr=>by
    simp only [dVs] at h
    split at h
    · rename_i d ds' hd hds
      simp at h
      subst h
      obtain ⟨q1,q2⟩:=dVs_sound (E':=E') (vs:=vs) hds (by simpa using hl) (fun j y u hy hu=>hr (j+1) y u (by simpa using hy) (by simpa using hu))
      refine ⟨by simpa using q1,fun j y u hy hu => ?_⟩
      cases j with
      | zero =>
        simp at hy hu
        subst hy hu
        exact ofD_sound (dV_sound hd (hr 0 x v rfl rfl))
      | succ j=>exact q2 j y u (by simpa using hy) (by simpa using hu)
    · cases h

theorem merge {B:Base} {s:St} {a:Act} {w w':World} {E E':Env} {F F':Nat→Prop} {H':List Blk} {x:V} {v:Value} (hs:Sim B s a w E F)
    (hr:Rel ⟨w,F,own [] [],[],[],[]⟩ ⟨[],H'⟩ E' F' w') (hx:VR E' F' w' x v) :
    Sim B { s with heap:=s.heap++heapSh s.heap.length H' } a w' (E++E') F'∧VR (E++E') F' w' (x.sh s.heap.length) v∧Keep w w':=by
  have hno:∀ b,¬ own [] [] b:=fun b ⟨id,e,blk,h,_⟩=>by simp at h
  have keep:Keep w w':=fun b hb=>hr.same b hb (hno b)
  have hF:∀ b,F' b→F b∨w.heap.size≤b:=fun b hb=>by
    rcases hr.only b hb with h | h | h
    · exact .inl h
    · exact .inr h
    · exact absurd h (hno b)
  have hs':=hs.rel
  have evo:Evo E F w (E++E') F' w' (fun _=>True):=⟨hr.F0,fun b hb=>keep b (hs'.lt b hb),fun j e _ h=>by rw [List.getElem?_append_left (List.getElem?_eq_some_iff.1 h).1]; exact h,fun b n h=>by
    obtain ⟨cs,t,q1,q2⟩:=h
    exact ⟨cs,t,(keep b (Sz.lt ⟨cs,t,q1,q2⟩)).trans q1,q2⟩⟩
  have hlen:E.length=s.heap.length:=hs'.hr.len
  have hget:∀ (j:Nat) (ej:En) (bj:Blk),(E++E')[j]? = some ej→(s.heap++heapSh s.heap.length H')[j]? = some bj →
      (E[j]? = some ej∧s.heap[j]? = some bj)∨(E.length≤j∧E'[j - E.length]? = some ej∧∃ b0,H'[j - E.length]? = some b0∧bj=b0.sh s.heap.length):=fun j ej bj h1 h2=>by
    rcases Nat.lt_or_ge j E.length with h | h
    · rw [List.getElem?_append_left h] at h1
      rw [List.getElem?_append_left (by omega)] at h2
      exact .inl ⟨h1,h2⟩
    · rw [List.getElem?_append_right h] at h1
      rw [List.getElem?_append_right (by omega),heapSh_eq,List.getElem?_map,Option.map_eq_some_iff] at h2
      obtain ⟨b0,h0,rfl⟩:=h2
      exact .inr ⟨h,h1,b0,by rw [hlen]; exact h0,rfl⟩
  have hnew:∀ (j b:Nat) (e:En) (blk:Blk),E'[j]? = some e→H'[j]? = some blk→blk.live=true→e.blk=some b→w.heap.size≤b:=fun j b e blk h1 h2 h3 h4=>by
    rcases hr.src j b e blk h1 h2 h3 h4 with h | h
    · exact h
    · exact absurd h (hno b)
  refine ⟨⟨⟨hr.os.trans hs'.os,hr.tape.trans hs'.tape,hr.output.trans hs'.output,Nat.le_trans hs'.size hr.size,fun b hb=>hr.F0 b (hs'.F0 b hb),?_,fun b h1 h2=>(keep b (Nat.lt_of_lt_of_le h1 hs'.size)).trans (hs'.same b h1 h2),hr.lt,⟨?_,?_,?_,?_⟩,?_,?_,fun b n h=>hr.sz b n (hs'.sz b n h)⟩,hs.defers,?_⟩,?_,keep⟩
  · intro b hb
    rcases hF b hb with h | h
    · exact hs'.only b h
    · exact .inr (.inl (Nat.le_trans hs'.size h))
  · simp [heapSh_eq,hlen,hr.hr.len]
  · intro j e b h1 h2
    rcases hget j e b h1 h2 with ⟨g1,g2⟩ | ⟨g0,g1,b0,g2,rfl⟩
    · cases hl:b.live with
      | false=>cases b <;> simp_all [Blk.live]; trivial
      | true=>exact (hs'.hr.blk j e b g1 g2).evo evo (fun _ _=>trivial) fun c hc=>keep c (hs'.hr.free j c e b g1 hc g2 hl).1
    · have h3:=hr.hr.blk _ e b0 g1 g2
      have:=BR.to (f:=V.sh s.heap.length) (E':=E++E') (F':=F') (w':=w') h3 (fun _ _ h=>h) (fun x v _ hx=>by rw [← hlen]; exact sh_VR hx) (fun _ _=>rfl)
      rwa [← Blk.sh_map1] at this
  · intro j b e blk h1 hb h2 hl
    rcases hget j e blk h1 h2 with ⟨g1,g2⟩ | ⟨g0,g1,b0,g2,rfl⟩
    · obtain ⟨q1,q2⟩:=hs'.hr.free j b e blk g1 hb g2 hl
      refine ⟨Nat.lt_of_lt_of_le q1 hr.size,fun h => ?_⟩
      rcases hF b h with h | h
      · exact q2 h
      · omega
    · rw [Blk.live_sh] at hl
      exact hr.hr.free _ b e b0 g1 hb g2 hl
  · intro i j b ei ej bi bj h1 h2 h3 h4 h5 h6 h7 h8
    rcases hget i ei bi h1 h5 with ⟨g1,g2⟩ | ⟨g0,g1,b0,g2,rfl⟩ <;> rcases hget j ej bj h2 h6 with ⟨f1,f2⟩ | ⟨f0,f1,b1,f2,rfl⟩
    · exact hs'.hr.inj i j b ei ej bi bj g1 f1 h3 h4 g2 f2 h7 h8
    · rw [Blk.live_sh] at h8
      have q1:=(hs'.hr.free i b ei bi g1 h3 g2 h7).1
      have q2:=hnew _ b ej b1 f1 f2 h8 h4
      omega
    · rw [Blk.live_sh] at h7
      have q1:=(hs'.hr.free j b ej bj f1 h4 f2 h8).1
      have q2:=hnew _ b ei b0 g1 g2 h7 h3
      omega
    · rw [Blk.live_sh] at h7 h8
      have:=hr.hr.inj _ _ b ei ej b0 b1 g1 f1 h3 h4 g2 f2 h7 h8
      omega
  · intro j b e blk h1 h2 hl hb
    rcases hget j e blk h1 h2 with ⟨g1,g2⟩ | ⟨g0,g1,b0,g2,rfl⟩
    · exact hs'.src j b e blk g1 g2 hl hb
    · rw [Blk.live_sh] at hl
      exact .inl (Nat.le_trans hs'.size (hnew _ b e b0 g1 g2 hl hb))
  · intro i hi
    obtain ⟨e,q1,q2⟩:=hs'.keep i hi
    exact ⟨e,by rw [List.getElem?_append_left (List.getElem?_eq_some_iff.1 q1).1]; exact q1,q2⟩
  · intro i y hy
    obtain ⟨u,hu,hv⟩:=hs.tm i y hy
    exact ⟨u,hu,hv.evo evo (fun _ _=>trivial)⟩
  · rw [← hlen]; exact sh_VR hx

end Go.Aw

namespace Go.Aw
set_option linter.unusedSimpArgs false
set_option linter.unusedVariables false
open Go.RowKit

def kbyt (P:Program) (t:TypeId) : Bool :=
  match P.underlying t with
  | some (.slice e)=>match P.underlying e with
    | some (.int .u8)=>true
    | _=>false
  | _=>false
theorem kbyt_spec {P:Program} {t:TypeId} (h:kbyt P t=true) : ∃ e,P.underlying t=some (.slice e)∧P.underlying e=some (.int .u8):=by
  unfold kbyt at h
  split at h
  · rename_i e he
    split at h
    · exact ⟨e,he,by assumption⟩
    · cases h
  · cases h

def byteN:List D→Int
  | [.int _ n]=>n
  | _=>0
def bytesOf (ys:List (List D)) : ByteArray:=strOfNums (ys.map byteN)
def bytesOk (ys:List (List D)) : Prop:=∀ row,row∈ys→row=[.int .u8 (byteN row)]

def strQ (P:Program) (H:List Blk) (src dst:TypeId) (x:V) : Option (Prop × V) :=
  match x,kstr P dst with
  | .d (.int _ n),true=>match kint P src with
    | some _=>some (True,.d (.str (Utf8.encode n)))
    | none=>none
  | .ref id off len,true=>if kbyt P src then (srcQ H 1 (.ref id off len)).map fun r=>(r.1∧bytesOk r.2,.d (.str (bytesOf r.2))) else none
  | .d (.sl rows),true=>if kbyt P src then (srcQ H 1 (.d (.sl rows))).map fun r=>(r.1∧bytesOk r.2,.d (.str (bytesOf r.2))) else none
  | .nil,true=>if kbyt P src then (srcQ H 1 .nil).map fun r=>(r.1∧bytesOk r.2,.d (.str (bytesOf r.2))) else none
  | _,_=>none

theorem src_str {P:Program} {F:Nat→Prop} {w:World} {ys:List (List D)} {a:Option Addr} {l c:Nat} {cs:List Value} {src e dst:TypeId} (h:Src P F w 1 ys (.slice a l c) cs) (hy:bytesOk ys)
    (hs:P.underlying src=some (.slice e)) (he:P.underlying e=some (.int .u8)) (hd:P.underlying dst=some .string) : ∀ w',Keep w w'→(convert src dst (.slice a l c)).run P w'=.ok (.string (bytesOf ys)) w':=by
  have hl:l=ys.length:=by have:=h.len w; simpa [Builtin.lenOf] using this
  have hsz:=h.size
  have hcs:cs=(ys.map byteN).map (Value.int .u8):=by
    apply List.ext_getElem?
    intro i
    by_cases hi:i<ys.length
    · have hr:=List.getElem?_eq_getElem hi
      have hrow:=hy _ (List.getElem_mem hi)
      obtain ⟨u,hu,hd⟩:=h.cell i _ 0 (.int .u8 (byteN ys[i])) hr (by rw [hrow]; simp [byteN])
      cases hd
      rw [Nat.mul_one,Nat.add_zero] at hu
      rw [hu]
      simp [hr]
    · rw [List.getElem?_eq_none (by omega),List.getElem?_eq_none (by simp; omega)]
  intro w' hk
  have hrun:=h.run w' hk
  cases a with
  | none =>
    have h0:ys=[]:=by
      simp [Builtin.firstCells] at hrun
      have:cs.length=0:=by rw [hrun]; rfl
      exact List.eq_nil_of_length_eq_zero (by omega)
    subst h0
    rw [run_convert_bytes_nil w' src e hs he l c dst hd]
    rfl
  | some a =>
    rw [run_convert_bytes_string w' src dst e _ l c hs he hd,run_bytesToString w' a l c (ys.map byteN) (by
      simp only [Builtin.firstCells,Nat.mul_one] at hrun
      rw [hl,hrun,hcs]),foldl_push_bytes]
    simp [bytesOf,strOfNums,ByteArray.empty,ByteArray.emptyWithCapacity]
    rfl

theorem strQ_sound {P:Program} {E:Env} {F:Nat→Prop} {w:World} {H:List Blk} {src dst:TypeId} {x y:V} {ob:Prop} {v:Value} (h:strQ P H src dst x=some (ob,y)) (hob:ob)
    (hr:HR E F w H) (hlt:∀ b,F b→b<w.heap.size) (hx:VR E F w x v) : ∃ u,VR E F w y u∧∀ w',Keep w w'→(convert src dst v).run P w'=.ok u w':=by
  unfold strQ at h
  split at h
  · rename_i k n hd
    split at h
    · rename_i k' hk
      simp only [Option.some.injEq,Prod.mk.injEq] at h
      obtain ⟨rfl,rfl⟩:=h
      have:=int_of hx
      subst this
      exact ⟨_,.d _ _ (.str _),fun w' _=>by simp [convert,run_underlying (kint_spec hk),run_underlying (kstr_spec hd),Conv.intToString]⟩
    · cases h
  all_goals try (cases h; done)
  all_goals
    rename_i hd
    split at h
    · rename_i hb
      obtain ⟨e,hs,he⟩:=kbyt_spec hb
      simp only [Option.map_eq_some_iff,Prod.exists,Prod.mk.injEq] at h
      obtain ⟨p,ys,hq,rfl,rfl⟩:=h
      obtain ⟨cs,hsrc⟩:=srcQ_sound (P:=P) hq hob.1 hr hlt hx
      have hv:∃ a l c,v=.slice a l c:=by
        first
          | (cases hx <;> exact ⟨_,_,_,rfl⟩)
          | (cases hx; rename_i hd'; cases hd' <;> exact ⟨_,_,_,rfl⟩)
      obtain ⟨a,l,c,rfl⟩:=hv
      exact ⟨_,.d _ _ (.str _),src_str hsrc hob.2 hs he (kstr_spec hd)⟩
    · cases h

def extN (P:Program) (g:FuncId) : Nat :=
  match P.funcs[g]? with
  | some fn=>if fn.body.isNone&&(Extern.allNextRows.lookup fn.name).isNone&&(Extern.allNextRows.lookup fn.origin).isNone then
      if fn.name == "math/bits.Add64" then 1 else if fn.name == "math/bits.Sub64" then 2 else 0
    else 0
  | none=>0

def u64ok (x:Int) : Prop:=0≤x∧x≤18446744073709551615
def extR (n:Nat) (args:List V) : Option (Prop × V) :=
  match n,args with
  | 1,[.d (.int .u64 x),.d (.int .u64 y),.d (.int .u64 c)]=>some (u64ok x∧u64ok y∧0≤c∧c≤1,.tup [.d (.int .u64 ((x+y+c) % 18446744073709551616)),.d (.int .u64 ((x+y+c) / 18446744073709551616))])
  | 2,[.d (.int .u64 x),.d (.int .u64 y),.d (.int .u64 c)]=>some (u64ok x∧u64ok y∧0≤c∧c≤1,.tup [.d (.int .u64 ((x - y - c) % 18446744073709551616)),.d (.int .u64 (if x<y+c then 1 else 0))])
  | _,_=>none
def add64E:Array Value→Sem Value:=fun args=>do
  let (x, y, c) ← Extern.MathBitsCarry.three "Add64" args
  pure (Extern.MathBitsCarry.pair ((x+y+c) % Extern.MathBitsCarry.m64) ((x+y+c) / Extern.MathBitsCarry.m64))
def sub64E:Array Value→Sem Value:=fun args=>do
  let (x, y, b) ← Extern.MathBitsCarry.three "Sub64" args
  pure (Extern.MathBitsCarry.pair ((x+Extern.MathBitsCarry.m64 - y - b) % Extern.MathBitsCarry.m64) (if x<y+b then 1 else 0))
theorem run_add64E (x y c:Nat) (hc:c≤1) (w:World) (P:Program) : (add64E #[.int .u64 x,.int .u64 y,.int .u64 c]).run P w=.ok (.tuple #[.int .u64 (((x+y+c) % 18446744073709551616:Nat) : Int),.int .u64 (((x+y+c) / 18446744073709551616:Nat) : Int)]) w:=by
  have:c=0∨c=1:=by omega
  rcases this with rfl | rfl <;> rfl
theorem run_sub64E (x y b:Nat) (hb:b≤1) (w:World) (P:Program) : (sub64E #[.int .u64 x,.int .u64 y,.int .u64 b]).run P w=.ok (.tuple #[.int .u64 (((x+18446744073709551616 - y - b) % 18446744073709551616:Nat) : Int),.int .u64 ((if x<y+b then 1 else 0:Nat) : Int)]) w:=by
  have:b=0∨b=1:=by omega
  rcases this with rfl | rfl <;> rfl

theorem ext_find {fn:Func} {n:String} {e:Array Value→Sem Value} (hn:fn.name=n) (h1:Extern.allGenericRows.lookup n=none) (h2:Extern.allTypedRows.lookup n=none) (h3:Extern.allRows.lookup n=some e) : Extern.find fn=some e:=by
  simp [Extern.find,hn,h1,h2,h3]

theorem extN_spec {P : Program} {g n : Nat} (h : extN P g = n) (hn : n ≠ 0) : ∃ fn, P.funcs[g]? = some fn ∧ (fn.name == "runtime.NumGoroutine") = false ∧ fn.body.isNone = true ∧ Extern.findNext fn = none ∧
    ((n=1∧Extern.find fn=some add64E)∨(n=2∧Extern.find fn=some sub64E)):=by
  unfold extN at h
  split at h
  · rename_i fn hf
    split at h
    · rename_i hc
      simp only [Bool.and_eq_true,Option.isNone_iff_eq_none] at hc
      obtain ⟨⟨hb,h1⟩,h2⟩:=hc
      have hnx:Extern.findNext fn=none:=by simp [Extern.findNext,h1,h2]
      split at h
      · rename_i hnm
        have hnm : fn.name = "math/bits.Add64" := by simpa using hnm
        exact ⟨fn,hf,by rw [hnm]; decide,by simp [hb],hnx,.inl ⟨h.symm,ext_find hnm (by kernel_rfl) (by kernel_rfl) (by kernel_rfl)⟩⟩
      · split at h
        · rename_i hnm
          have hnm : fn.name = "math/bits.Sub64" := by simpa using hnm
          exact ⟨fn,hf,by rw [hnm]; decide,by simp [hb],hnx,.inr ⟨h.symm,ext_find hnm (by kernel_rfl) (by kernel_rfl) (by kernel_rfl)⟩⟩
        · exact absurd h.symm hn
    · exact absurd h.symm hn
  · exact absurd h.symm hn

theorem extR_sound {P:Program} {E:Env} {F:Nat→Prop} {w:World} {g:FuncId} {args:List V} {ob:Prop} {x:V} {cargs:Array Value} (h:extR (extN P g) args=some (ob,x)) (hob:ob)
    (hc:CR E F w args cargs) : ∃ v,VR E F w x v∧∀ w',(callFunc g cargs).run P w'=.ok (.value v) w':=by
  have three:∀ x y c:Int,args=[.d (.int .u64 x),.d (.int .u64 y),.d (.int .u64 c)]→cargs = #[.int .u64 x,.int .u64 y,.int .u64 c]:=by
    intro x y c ha
    subst ha
    obtain ⟨hs,hr⟩:=hc
    obtain ⟨l⟩:=cargs
    match l,hs with
    | [a,b,d],_ =>
      have e0:=int_of (hr 0 _ a rfl rfl)
      have e1:=int_of (hr 1 _ b rfl rfl)
      have e2:=int_of (hr 2 _ d rfl rfl)
      rw [e0,e1,e2]
  have pair:∀ a b:Int,VR E F w (.tup [.d (.int .u64 a),.d (.int .u64 b)]) (.tuple #[.int .u64 a,.int .u64 b]):=fun a b=>by
    refine .tup _ _ rfl fun j u v hu hv => ?_
    match j with
    | 0=>simp at hu hv; subst hu hv; exact .d _ _ (.int _ _)
    | 1=>simp at hu hv; subst hu hv; exact .d _ _ (.int _ _)
    | j+2=>simp at hu
  unfold extR at h
  split at h
  · rename_i x1 y1 c1 hn
    simp only [Option.some.injEq,Prod.mk.injEq] at h
    obtain ⟨rfl,rfl⟩:=h
    obtain ⟨⟨hx0,hx1⟩,⟨hy0,hy1⟩,hc0,hc1⟩:=hob
    have ha:=three _ _ _ rfl
    subst ha
    obtain ⟨a,rfl⟩:=Int.eq_ofNat_of_zero_le hx0
    obtain ⟨b,rfl⟩:=Int.eq_ofNat_of_zero_le hy0
    obtain ⟨c,rfl⟩:=Int.eq_ofNat_of_zero_le hc0
    obtain ⟨fn,hf,hnm,hb,hnx,hfd⟩:=extN_spec hn (by decide)
    have hfd:Extern.find fn=some add64E:=by
      rcases hfd with ⟨_,h⟩ | ⟨h,_⟩
      · exact h
      · cases h
    refine ⟨_,pair _ _,fun w' => ?_⟩
    rw [run_callFunc_extern hf hnm hb hnx hfd,run_add64E a b c (by omega)]
    simp only [Result.andThen]
    congr 5
  · rename_i x1 y1 c1 hn
    simp only [Option.some.injEq,Prod.mk.injEq] at h
    obtain ⟨rfl,rfl⟩:=h
    obtain ⟨⟨hx0,hx1⟩,⟨hy0,hy1⟩,hc0,hc1⟩:=hob
    have ha:=three _ _ _ rfl
    subst ha
    obtain ⟨a,rfl⟩:=Int.eq_ofNat_of_zero_le hx0
    obtain ⟨b,rfl⟩:=Int.eq_ofNat_of_zero_le hy0
    obtain ⟨c,rfl⟩:=Int.eq_ofNat_of_zero_le hc0
    obtain ⟨fn,hf,hnm,hb,hnx,hfd⟩:=extN_spec hn (by decide)
    have hfd:Extern.find fn=some sub64E:=by
      rcases hfd with ⟨h,_⟩ | ⟨_,h⟩
      · cases h
      · exact h
    refine ⟨_,pair _ _,fun w' => ?_⟩
    rw [run_callFunc_extern hf hnm hb hnx hfd,run_sub64E a b c (by omega)]
    simp only [Result.andThen]
    have e1:(((a+18446744073709551616 - b - c) % 18446744073709551616:Nat) : Int)=((a:Int) - b - c) % 18446744073709551616:=by omega
    have e2:((if a<b+c then 1 else 0:Nat) : Int)=if (a:Int)<b+c then 1 else 0:=by split <;> split <;> omega
    rw [e1,e2]
  · cases h

end Go.Aw

namespace Go.Aw
set_option linter.unusedSimpArgs false
set_option linter.unusedVariables false
open Go.RowKit

def kmap (P:Program) (t:TypeId) : Option (TypeId × TypeId) :=
  match P.underlying t with
  | some (.map k e)=>some (k,e)
  | _=>none

def kc1:V→Option (IntKind × Int)
  | .d (.int k n)=>some (k,n)
  | _=>none
def kcs:List V→Option (List (IntKind × Int))
  | []=>some []
  | x::r=>match kc1 x,kcs r with
    | some c,some l=>some (c::l)
    | _,_=>none
def kcells:V→Option (Bool × List (IntKind × Int))
  | .d (.int k n)=>some (false,[(k,n)])
  | .agg xs=>match kcs xs with
    | some l=>some (true,l)
    | none=>none
  | _=>none
def kval:Bool × List (IntKind × Int)→Value
  | (false,[(k,n)])=>.int k n
  | (_,l)=>.agg (l.map fun p=>.int p.1 p.2).toArray

theorem kcs_len:∀ {xs:List V} {l:List (IntKind × Int)},kcs xs=some l→l.length=xs.length
  | [],l,h=>by simp [kcs] at h; subst h; rfl
  | x::r,l,h=>by
    simp only [kcs] at h
    split at h
    · rename_i c l' h1 h2
      simp at h; subst h
      simp [kcs_len h2]
    · cases h
theorem kcs_get:∀ {xs:List V} {l:List (IntKind × Int)},kcs xs=some l→∀ (j:Nat) (p:IntKind × Int),l[j]? = some p→xs[j]? = some (V.d (D.int p.1 p.2))
  | [],l,h,j,p,hj=>by simp [kcs] at h; subst h; simp at hj
  | x::r,l,h,j,p,hj=>by
    simp only [kcs] at h
    split at h
    · rename_i c l' h1 h2
      simp at h; subst h
      cases j with
      | zero =>
        simp at hj; subst hj
        unfold kc1 at h1
        split at h1
        · simp at h1; subst h1; rfl
        · cases h1
      | succ j=>simpa using kcs_get h2 j p (by simpa using hj)
    · cases h

theorem kcells_val {E:Env} {F:Nat→Prop} {w:World} {x:V} {c:Bool × List (IntKind × Int)} {v:Value} (h:kcells x=some c) (hx:VR E F w x v) : v=kval c:=by
  unfold kcells at h
  split at h
  · simp at h; subst h; exact int_of hx
  · rename_i xs
    split at h
    · rename_i l hl
      simp at h; subst h
      cases hx with
      | agg _ cs hs hr =>
        have:cs=(l.map fun p=>Value.int p.1 p.2).toArray:=by
          apply Array.ext
          · simp [hs,kcs_len hl]
          · intro i h1 h2
            have h3:i<l.length:=by simpa using h2
            have:=hr i _ _ (kcs_get hl i _ (List.getElem?_eq_getElem h3)) (Array.getElem?_eq_getElem h1)
            rw [int_of this]
            simp
        subst this
        cases l with
        | nil=>rfl
        | cons a r=>rfl
    · cases h
  · cases h

theorem kval_inj {x y:V} {c c':Bool × List (IntKind × Int)} (h:kcells x=some c) (h':kcells y=some c') (he:kval c=kval c') : c=c':=by
  have inj:∀ {l l':List (IntKind × Int)},(l.map fun p=>Value.int p.1 p.2).toArray=(l'.map fun p=>Value.int p.1 p.2).toArray→l=l':=by
    intro l l' h
    have h:(l.map fun p=>Value.int p.1 p.2)=(l'.map fun p=>Value.int p.1 p.2):=by simpa using congrArg Array.toList h
    exact List.map_inj_right (fun p q hpq=>by cases p; cases q; simp at hpq; simp [hpq]) |>.1 h
  unfold kcells at h h'
  split at h
  · simp at h; subst h
    split at h'
    · simp at h'; subst h'
      simp only [kval,Value.int.injEq] at he
      simp [he]
    · split at h'
      · simp at h'; subst h'
        simp [kval] at he
      · cases h'
    · cases h'
  · split at h
    · simp at h; subst h
      split at h'
      · simp at h'; subst h'
        simp [kval] at he
      · split at h'
        · simp at h'; subst h'
          simp only [kval,Value.agg.injEq] at he
          rw [inj he]
        · cases h'
      · cases h'
    · cases h
  · cases h

def kwf (P:Program) (kt:TypeId) (x:V) : Prop:=∃ c l,kcells x=some c∧keyOf P kt (kval c)=some l
def MK (P:Program) (kt:TypeId) (es:List (V × V)) : Prop:=Maps.Keyed P kt∧(∀ p,p∈es→kwf P kt p.1)∧es.Pairwise fun p q=>kcells p.1≠kcells q.1
def mfind (es:List (V × V)) (x:V) : Option Nat:=es.findIdx? fun p=>decide (kcells p.1=kcells x)
def mput (es:List (V × V)) (x y:V) : List (V × V) :=
  match mfind es x with
  | some j=>es.modify j fun p=>(p.1,y)
  | none=>es++[(x,y)]
def kzeroV (P:Program) (t:TypeId) : Option V:=((P.info? t).bind (·.zero)).map ofConst

theorem find_sound {P:Program} {E:Env} {F:Nat→Prop} {w:World} {kt:TypeId} {es:List (V × V)} {mes:Array MapEntry} {x:V} {v:Value} (hM:MK P kt es) (hk:kwf P kt x) (hs:mes.size=es.length)
    (hr:∀ (i:Nat) (p:V × V) (m:MapEntry),es[i]? = some p→mes[i]? = some m→VR E F w p.1 m.key∧VR E F w p.2 m.val∧m.born=i) (hx:VR E F w x v) :
    (∃ l,keyOf P kt v=some l)∧∀ w',((Instr.findKey kt v mes.toList).run P w'=.ok none w'∧mfind es x=none) ∨
      ∃ j e p,(Instr.findKey kt v mes.toList).run P w'=.ok (some (j,e.val)) w'∧mfind es x=some j∧mes[j]? = some e∧es[j]? = some p∧e.key=v:=by
  obtain ⟨c,l,hc,hl⟩:=hk
  have hv:v=kval c:=kcells_val hc hx
  subst hv
  have hall:∀ e∈mes.toList,∃ l,keyOf P kt e.key=some l:=by
    intro e he
    obtain ⟨i,hi,rfl⟩:=List.getElem_of_mem he
    have hi':i<es.length:=by rw [← hs]; simpa using hi
    obtain ⟨c',l',h1,h2⟩:=hM.2.1 _ (List.getElem_mem hi')
    have:=(hr i _ _ (List.getElem?_eq_getElem hi') (Array.getElem?_eq_getElem (by simpa using hi))).1
    exact ⟨l',by rw [Array.getElem_toList,kcells_val h1 this]; exact h2⟩
  refine ⟨⟨l,hl⟩,fun w' => ?_⟩
  rcases hM.1.find w' hl mes.toList hall with ⟨h1,h2⟩ | ⟨j,e,h1,h2,h3⟩
  · refine .inl ⟨h1,?_⟩
    unfold mfind
    rw [List.findIdx?_eq_none_iff]
    intro p hp
    obtain ⟨i,hi,rfl⟩:=List.getElem_of_mem hp
    have hi':i<mes.size:=by omega
    simp only [decide_eq_false_iff_not]
    intro he
    refine h2 mes[i] (by simp) ?_
    exact kcells_val (he.trans hc) (hr i _ _ (List.getElem?_eq_getElem hi) (Array.getElem?_eq_getElem hi')).1
  · have h2':mes[j]? = some e:=by simpa using h2
    have hj:j<mes.size:=(Array.getElem?_eq_some_iff.1 h2').1
    have hj':j<es.length:=by omega
    refine .inr ⟨j,e,es[j],h1,?_,h2',List.getElem?_eq_getElem hj',h3⟩
    unfold mfind
    obtain ⟨c',l',q1,q2⟩:=hM.2.1 _ (List.getElem_mem hj')
    have q3:=kcells_val q1 (hr j _ _ (List.getElem?_eq_getElem hj') h2').1
    have q4:c'=c:=kval_inj q1 hc (q3.symm.trans h3)
    subst q4
    rw [List.findIdx?_eq_some_iff_getElem]
    refine ⟨hj',by simp [q1,hc],fun i hi => ?_⟩
    have:=List.pairwise_iff_getElem.1 hM.2.2 i j (by omega) hj' hi
    rw [q1] at this
    simpa [hc] using this

abbrev setB (w:World) (b:Nat) (o:Obj) : World:={ w with heap:=w.heap.setIfInBounds b o }

theorem heap_setB_other (w:World) (b c:Nat) (o:Obj) (h:c≠b) : (setB w b o).heap[c]? = w.heap[c]?:=by
  simp [setB,Array.getElem?_setIfInBounds,Ne.symm h]

theorem not_sz {w:World} {b clock:Nat} {mes:Array MapEntry} (hw:w.heap[b]? = some (.map mes clock)) (n:Nat) : ¬ Sz w b n:=fun ⟨c,u,hc,_⟩=>by rw [hw] at hc; cases hc

theorem upd_relM {B:Base} {s:St} {E:Env} {F:Nat→Prop} {w:World} (hr:Rel B s E F w) {i b:Nat} {e:En} {blk blk':Blk} {o:Obj}
    (he:E[i]? = some e) (hb:s.heap[i]? = some blk) (hl:blk.live=true) (heb:e.blk=some b) (hnc:∀ n,¬ Sz w b n)
    (hbr:Evo E F w E F (setB w b o) (fun _=>True)→BR E F (setB w b o) e blk') :
    Evo E F w E F (setB w b o) (fun _=>True)∧Rel B { s with heap:=s.heap.set i blk' } E F (setB w b o):=by
  obtain ⟨hbl,hbF⟩:=hr.hr.free i b e blk he heb hb hl
  have hsame:∀ c,F c→(setB w b o).heap[c]? = w.heap[c]?:=fun c hc=>heap_setB_other w b c o (fun e=>hbF (e ▸ hc))
  have hSz:∀ b' n,Sz w b' n→Sz (setB w b o) b' n:=fun b' n hz=>by
    by_cases hbb:b'=b
    · subst hbb; exact absurd hz (hnc n)
    · obtain ⟨c,u,hc,hn⟩:=hz
      exact ⟨c,u,(heap_setB_other w b b' o hbb).trans hc,hn⟩
  have evo:Evo E F w E F (setB w b o) (fun _=>True):=⟨fun _ h=>h,hsame,fun _ _ _ h=>h,hSz⟩
  have hbr:=hbr evo
  have hget:∀ (j:Nat) (bj:Blk),(s.heap.set i blk')[j]? = some bj→(j=i∧bj=blk')∨(j≠i∧s.heap[j]? = some bj):=fun j bj hj=>by
    rw [List.getElem?_set] at hj
    split at hj
    · split at hj
      · simp at hj; exact .inl ⟨(by assumption:i=j).symm,hj.symm⟩
      · cases hj
    · exact .inr ⟨Ne.symm (by assumption),hj⟩
  refine ⟨evo,hr.os,hr.tape,⟨hr.output.output⟩,by simpa using hr.size,hr.F0,hr.only,fun c h1 h2=>(heap_setB_other w b c o (fun q=>(hr.src i b e blk he hb hl heb).elim (fun h=>by omega) (fun h=>h2 (q ▸ h)))).trans (hr.same c h1 h2),hr.lt.evo evo.up evo.same (by simpa using hr.lt.lt),⟨by simpa using hr.hr.len,?_,?_,?_⟩,?_,?_,fun b' n h=>hSz b' n (hr.sz b' n h)⟩
  · intro j ej bj hEj hj
    rcases hget j bj hj with ⟨rfl,rfl⟩ | ⟨hji,hj⟩
    · rw [he] at hEj
      simp only [Option.some.injEq] at hEj
      subst hEj
      exact hbr
    · cases hlj:bj.live with
      | false=>cases bj <;> simp_all [Blk.live]; trivial
      | true =>
        refine (hr.hr.blk j ej bj hEj hj).evo evo (fun _ _=>trivial) fun c hc=>heap_setB_other w b c o fun e => ?_
        subst e
        exact hji (hr.hr.inj j i c ej _ bj blk hEj he hc heb hj hb hlj hl)
  · intro j c ej bj hEj hc hj hlj
    have:(setB w b o).heap.size=w.heap.size:=by simp
    rw [this]
    rcases hget j bj hj with ⟨rfl,rfl⟩ | ⟨hji,hj⟩
    · rw [he] at hEj
      simp only [Option.some.injEq] at hEj
      subst hEj
      exact hr.hr.free j c _ blk he hc hb hl
    · exact hr.hr.free j c ej bj hEj hc hj hlj
  · intro j l c ej el bj bl hEj hEl hcj hcl hj hl' hlj hll
    have hb':∀ (j:Nat) (bj:Blk),(s.heap.set i blk')[j]? = some bj→bj.live=true→∃ b0,s.heap[j]? = some b0∧b0.live=true:=fun j bj hj hlj=>by
      rcases hget j bj hj with ⟨rfl,rfl⟩ | ⟨hji,hj⟩
      · exact ⟨blk,hb,hl⟩
      · exact ⟨bj,hj,hlj⟩
    obtain ⟨b0,h0,hl0⟩:=hb' j bj hj hlj
    obtain ⟨b1,h1,hl1⟩:=hb' l bl hl' hll
    exact hr.hr.inj j l c ej el b0 b1 hEj hEl hcj hcl h0 h1 hl0 hl1
  · intro j c ej bj hEj hj hlj hc
    rcases hget j bj hj with ⟨rfl,rfl⟩ | ⟨hji,hj⟩
    · exact hr.src j c ej blk hEj hb hl hc
    · exact hr.src j c ej bj hEj hj hlj hc
  · exact hr.keep

def lookQ (P:Program) (H:List Blk) (t:TypeId) (x i:V) (ok:Bool) : Option (Prop × V) :=
  match x with
  | .map id =>
    match H[id]?,kmap P t with
    | some (.mp es),some (kt,et) =>
      match kzeroV P et with
      | some z=>some (MK P kt es∧kwf P kt i,
          match mfind es i with
          | some j=>if ok then .tup [(es[j]?.getD default).2,.d (.bool true)] else (es[j]?.getD default).2
          | none=>if ok then .tup [z,.d (.bool false)] else z)
      | none=>none
    | _,_=>none
  | _=>none

theorem tup2 {E:Env} {F:Nat→Prop} {w:World} {x y:V} {u v:Value} (hx:VR E F w x u) (hy:VR E F w y v) : VR E F w (.tup [x,y]) (.tuple #[u,v]):=by
  refine .tup _ _ rfl fun j z t hz ht => ?_
  match j with
  | 0=>simp at hz ht; subst hz ht; exact hx
  | 1=>simp at hz ht; subst hz ht; exact hy
  | j+2=>simp at hz

theorem kmap_spec {P:Program} {t kt et:TypeId} (h:kmap P t=some (kt,et)) : P.underlying t=some (.map kt et):=by
  unfold kmap at h
  split at h
  · simp at h; obtain ⟨rfl,rfl⟩:=h; assumption
  · cases h

theorem kzeroV_sound {P:Program} {t:TypeId} {z:V} (h:kzeroV P t=some z) : ∃ v,(∀ w,(zeroValue t).run P w=.ok v w)∧∀ E F w,VR E F w z v:=by
  unfold kzeroV at h
  cases hi:P.info? t with
  | none=>simp [hi] at h
  | some i =>
    cases hz:i.zero with
    | none=>simp [hi,hz] at h
    | some z' =>
      simp [hi,hz] at h
      subst h
      exact ⟨z',fun w=>by simp [zeroValue,typeInfo,hi,hz],fun E F w=>ofConst_sound z'⟩

theorem lookQ_sound {P:Program} {B:Base} {s:St} {w:World} {E:Env} {F:Nat→Prop} {t:TypeId} {x i y:V} {ok:Bool} {ob:Prop} {u v:Value}
    (h:lookQ P s.heap t x i ok=some (ob,y)) (hob:ob) (hr:Rel B s E F w) (hx:VR E F w x u) (hi:VR E F w i v) :
    ∃ r,VR E F w y r∧∀ w',Keep w w'→(Instr.lookup t u v ok).run P w'=.ok r w':=by
  unfold lookQ at h
  split at h
  · rename_i id
    split at h
    · rename_i es kt et hH hm
      split at h
      · rename_i z hz
        simp only [Option.some.injEq,Prod.mk.injEq] at h
        obtain ⟨rfl,rfl⟩:=h
        cases hx with
        | map id b k m hE =>
          obtain ⟨b',mes,h4,hw,hs,hcell⟩:=hr.hr.blk _ _ _ hE hH
          simp only [Option.some.injEq] at h4
          subst h4
          obtain ⟨hbl,_⟩:=hr.hr.free id b _ _ hE rfl hH rfl
          obtain ⟨⟨l,hl⟩,hf⟩:=find_sound hob.1 hob.2 hs hcell hi
          obtain ⟨zv,hz1,hz2⟩:=kzeroV_sound hz
          rcases hf w with ⟨_,h2⟩ | ⟨j,e,p,_,h2,h3,h5,_⟩
          · rw [h2]
            refine ⟨if ok then .tuple #[zv,.bool false] else zv,?_,fun w' hk => ?_⟩
            · cases ok
              · exact hz2 _ _ _
              · exact tup2 (hz2 _ _ _) (.d _ _ (.bool false))
            · rcases hf w' with ⟨q1,_⟩ | ⟨j,e,p,q1,q2,_⟩
              · have hw':w'.heap[b]? = some (.map mes mes.size):=(hk b hbl).trans hw
                simp [Instr.lookup,run_underlying (kmap_spec hm),MapKept.run_getObj_map hw',hob.1.1.check w' _ hl,q1,hz1,Result.andThen]
              · rw [h2] at q2; cases q2
          · rw [h2]
            obtain ⟨v1,v2,_⟩:=hcell j p e h5 h3
            refine ⟨if ok then .tuple #[e.val,.bool true] else e.val,?_,fun w' hk => ?_⟩
            · simp only [h5,Option.getD_some]
              cases ok
              · exact v2
              · exact tup2 v2 (.d _ _ (.bool true))
            · rcases hf w' with ⟨q1,q2⟩ | ⟨j',e',p',q1,q2,q3,_⟩
              · rw [h2] at q2; cases q2
              · rw [h2] at q2
                cases q2
                rw [h3] at q3
                cases q3
                have hw':w'.heap[b]? = some (.map mes mes.size):=(hk b hbl).trans hw
                simp [Instr.lookup,run_underlying (kmap_spec hm),MapKept.run_getObj_map hw',hob.1.1.check w' _ hl,q1,Result.andThen]
      · cases h
    · cases h
  · cases h

def mputQ (P:Program) (H:List Blk) (t:TypeId) (x i y:V) : Option (Prop × List Blk) :=
  match x with
  | .map id =>
    match H[id]?,kmap P t with
    | some (.mp es),some (kt,_)=>some (MK P kt es∧kwf P kt i,H.set id (.mp (mput es i y)))
    | _,_=>none
  | _=>none

theorem mputQ_sound {P:Program} {B:Base} {s:St} {w:World} {E:Env} {F:Nat→Prop} {t:TypeId} {x i y:V} {ob:Prop} {H':List Blk} {u v z:Value}
    (h:mputQ P s.heap t x i y=some (ob,H')) (hob:ob) (hr:Rel B s E F w) (hx:VR E F w x u) (hi:VR E F w i v) (hy:VR E F w y z) :
    ∃ w',(Instr.mapUpdate t u v z).run P w=.ok () w'∧Evo E F w E F w' (fun _=>True)∧Rel B { s with heap:=H' } E F w':=by
  unfold mputQ at h
  split at h
  · rename_i id
    split at h
    · rename_i es kt et hH hm
      simp only [Option.some.injEq,Prod.mk.injEq] at h
      obtain ⟨rfl,rfl⟩:=h
      cases hx with
      | map id b k m hE =>
        obtain ⟨b',mes,h4,hw,hs,hcell⟩:=hr.hr.blk _ _ _ hE hH
        simp only [Option.some.injEq] at h4
        subst h4
        obtain ⟨hbl,_⟩:=hr.hr.free id b _ _ hE rfl hH rfl
        obtain ⟨⟨l,hl⟩,hf⟩:=find_sound hob.1 hob.2 hs hcell hi
        rcases hf w with ⟨h1,h2⟩ | ⟨j,e,p,h1,h2,h3,h5,h6⟩
        · have hrun:(Instr.mapUpdate t (.map (some b)) v z).run P w=.ok () (setB w b (.map (mes.push { key:=v,val:=z,born:=mes.size }) (mes.size+1))):=by
            simp [Instr.mapUpdate,run_underlying (kmap_spec hm),MapKept.run_getObj_map hw,hob.1.1.check w _ hl,h1,Result.andThen,MapKept.run_setObj_map _ hw]
          refine ⟨_,hrun,?_⟩
          refine upd_relM hr hE hH rfl rfl (not_sz hw) fun evo => ?_
          refine ⟨b,(mes.push { key:=v,val:=z,born:=mes.size } : Array MapEntry),rfl,?_,?_,?_⟩
          · rw [show mes.size+1=(mes.push { key:=v,val:=z,born:=mes.size:MapEntry }).size by simp]
            simp [setB,Array.getElem?_setIfInBounds,hbl]
          · simp [mput,h2,hs]
          · intro i' p m hp hm'
            simp only [mput,h2] at hp
            rw [List.getElem?_append] at hp
            split at hp
            · rename_i hlt
              rw [Array.getElem?_push] at hm'
              rw [if_neg (by omega)] at hm'
              obtain ⟨a1,a2,a3⟩:=hcell i' p m hp hm'
              exact ⟨a1.evo evo (fun _ _=>trivial),a2.evo evo (fun _ _=>trivial),a3⟩
            · rename_i hge
              have:i'=es.length:=by
                have:=(List.getElem?_eq_some_iff.1 hp).1
                simp at this; omega
              subst this
              rw [← hs] at hm'
              simp at hp hm'
              subst hp hm'
              exact ⟨hi.evo evo (fun _ _=>trivial),hy.evo evo (fun _ _=>trivial),hs⟩
        · have hrun:(Instr.mapUpdate t (.map (some b)) v z).run P w=.ok () (setB w b (.map (mes.modify j fun e=>{ e with key:=v,val:=z }) mes.size)):=by
            have hst:=hob.1.1.stays w hl
            simp [Instr.mapUpdate,run_underlying (kmap_spec hm),MapKept.run_getObj_map hw,hob.1.1.check w _ hl,h1,Result.andThen,MapKept.run_setObj_map _ hw,h3,h6,hst]
          refine ⟨_,hrun,?_⟩
          refine upd_relM hr hE hH rfl rfl (not_sz hw) fun evo => ?_
          refine ⟨b,(mes.modify j fun e=>{ e with key:=v,val:=z } : Array MapEntry),rfl,?_,?_,?_⟩
          · simp only [Array.size_modify]
            simp [setB,Array.getElem?_setIfInBounds,hbl]
          · simp [mput,h2,hs]
          · intro i' p' m hp hm'
            simp only [mput,h2] at hp
            rw [List.getElem?_modify] at hp
            rw [Array.getElem?_modify] at hm'
            simp only [Option.map_eq_map,Option.map_eq_some_iff] at hp hm'
            obtain ⟨p0,hp0,rfl⟩:=hp
            split at hm'
            · rename_i hji
              subst hji
              rw [if_pos rfl]
              simp only [Option.map_eq_some_iff] at hm'
              obtain ⟨m0,hm0,rfl⟩:=hm'
              obtain ⟨a1,a2,a3⟩:=hcell j p0 m0 hp0 hm0
              rw [h3] at hm0
              cases hm0
              exact ⟨h6 ▸ a1.evo evo (fun _ _=>trivial),hy.evo evo (fun _ _=>trivial),a3⟩
            · rename_i hji
              rw [if_neg hji]
              obtain ⟨a1,a2,a3⟩:=hcell i' p0 m hp0 hm'
              exact ⟨a1.evo evo (fun _ _=>trivial),a2.evo evo (fun _ _=>trivial),a3⟩
    · cases h
  · cases h

theorem map_rel {B:Base} {s:St} {E:Env} {F:Nat→Prop} {w:World} (hr:Rel B s E F w) :
    Evo E F w (E++[⟨some w.heap.size,0,0⟩]) F (w.alloc (.map #[] 0)) (fun _=>True)∧Rel B { s with heap:=s.heap++[.mp []] } (E++[⟨some w.heap.size,0,0⟩]) F (w.alloc (.map #[] 0)) ∧
      VR (E++[⟨some w.heap.size,0,0⟩]) F (w.alloc (.map #[] 0)) (.map s.heap.length) (.map (some w.heap.size)):=by
  obtain ⟨h1,h2⟩:=alloc_rel hr (.map #[] 0) (e:=⟨some w.heap.size,0,0⟩) (blk:=.mp []) rfl fun evo =>
    ⟨w.heap.size,#[],rfl,heap_alloc_new w _,rfl,fun i p m hp=>by simp at hp⟩
  refine ⟨h1,h2,?_⟩
  exact VR.map (E:=E++[⟨some w.heap.size,0,0⟩]) (F:=F) (w:=w.alloc (.map #[] 0)) s.heap.length w.heap.size 0 0 (by
    rw [← hr.hr.len,List.getElem?_append_right (Nat.le_refl _)]; simp)

def entryQ (P:Program) (H:List Blk) (t:TypeId) (x i:V) : Option (Prop × V × List Blk) :=
  match x with
  | .map id =>
    match H[id]?,kmap P t with
    | some (.mp es),some (kt,et) =>
      match kzeroV P et with
      | some z=>match mfind es i with
        | some j=>some (MK P kt es∧kwf P kt i,.tup [(es[j]?.getD default).2,.d (.int .i64 j)],H)
        | none=>some (MK P kt es∧kwf P kt i,.tup [z,.d (.int .i64 es.length)],H.set id (.mp (es++[(i,z)])))
      | none=>none
    | _,_=>none
  | _=>none
def estoreQ (H:List Blk) (x:V) (n:Int) (y:V) : Option (Prop × List Blk) :=
  match x with
  | .map id =>
    match H[id]? with
    | some (.mp es)=>some (0≤n∧n<es.length,H.set id (.mp (es.modify n.toNat fun p=>(p.1,y))))
    | _=>none
  | _=>none

theorem entryQ_sound {P:Program} {B:Base} {s:St} {w:World} {E:Env} {F:Nat→Prop} {t:TypeId} {x i y:V} {ob:Prop} {H':List Blk} {u v:Value}
    (h:entryQ P s.heap t x i=some (ob,y,H')) (hob:ob) (hr:Rel B s E F w) (hx:VR E F w x u) (hi:VR E F w i v) :
    ∃ r w',(Instr.mapEntry t u v).run P w=.ok r w'∧Evo E F w E F w' (fun _=>True)∧Rel B { s with heap:=H' } E F w'∧VR E F w' y r:=by
  unfold entryQ at h
  split at h
  · rename_i id
    split at h
    · rename_i es kt et hH hm
      split at h
      · rename_i z0 hz
        have key:MK P kt es∧kwf P kt i→∀ y H',(match mfind es i with
            | some j=>some (MK P kt es∧kwf P kt i,V.tup [(es[j]?.getD default).2,.d (.int .i64 j)],s.heap)
            | none=>some (MK P kt es∧kwf P kt i,.tup [z0,.d (.int .i64 es.length)],s.heap.set id (.mp (es++[(i,z0)]))))=some (MK P kt es∧kwf P kt i,y,H') →
            ∃ r w',(Instr.mapEntry t u v).run P w=.ok r w'∧Evo E F w E F w' (fun _=>True)∧Rel B { s with heap:=H' } E F w'∧VR E F w' y r:=by
          intro hob y H' h
          cases hx with
          | map id b k m hE =>
            obtain ⟨b',mes,h4,hw,hs,hcell⟩:=hr.hr.blk _ _ _ hE hH
            simp only [Option.some.injEq] at h4
            subst h4
            obtain ⟨hbl,_⟩:=hr.hr.free id b _ _ hE rfl hH rfl
            obtain ⟨⟨l,hl⟩,hf⟩:=find_sound hob.1 hob.2 hs hcell hi
            obtain ⟨zv,hz1,hz2⟩:=kzeroV_sound hz
            rcases hf w with ⟨h1,h2⟩ | ⟨j,e,p,h1,h2,h3,h5,h6⟩
            · rw [h2] at h
              simp only [Option.some.injEq,Prod.mk.injEq,true_and] at h
              obtain ⟨rfl,rfl⟩:=h
              have hrun:(Instr.mapEntry t (.map (some b)) v).run P w=.ok (.tuple #[zv,goInt mes.size]) (setB w b (.map (mes.push { key:=v,val:=zv,born:=mes.size }) (mes.size+1))):=by
                simp [Instr.mapEntry,run_underlying (kmap_spec hm),MapKept.run_getObj_map hw,hob.1.1.check w _ hl,h1,hz1,Result.andThen,MapKept.run_setObj_map _ hw]
              obtain ⟨e1,e2⟩:=upd_relM (blk':=.mp (es++[(i,z0)])) (o:=.map (mes.push { key:=v,val:=zv,born:=mes.size }) (mes.size+1)) hr hE hH rfl rfl (not_sz hw) fun evo=>by
                refine ⟨b,(mes.push { key:=v,val:=zv,born:=mes.size } : Array MapEntry),rfl,?_,?_,?_⟩
                · rw [show mes.size+1=(mes.push { key:=v,val:=zv,born:=mes.size:MapEntry }).size by simp]
                  simp [setB,Array.getElem?_setIfInBounds,hbl]
                · simp [hs]
                · intro i' p m hp hm'
                  rw [List.getElem?_append] at hp
                  split at hp
                  · rename_i hlt
                    rw [Array.getElem?_push] at hm'
                    rw [if_neg (by omega)] at hm'
                    obtain ⟨a1,a2,a3⟩:=hcell i' p m hp hm'
                    exact ⟨a1.evo evo (fun _ _=>trivial),a2.evo evo (fun _ _=>trivial),a3⟩
                  · rename_i hge
                    have:i'=es.length:=by
                      have:=(List.getElem?_eq_some_iff.1 hp).1
                      simp at this; omega
                    subst this
                    rw [← hs] at hm'
                    simp at hp hm'
                    subst hp hm'
                    exact ⟨hi.evo evo (fun _ _=>trivial),hz2 _ _ _,hs⟩
              refine ⟨_,_,hrun,e1,e2,tup2 (hz2 _ _ _) ?_⟩
              rw [hs]
              exact .d _ _ (.int _ _)
            · rw [h2] at h
              simp only [Option.some.injEq,Prod.mk.injEq,true_and] at h
              obtain ⟨rfl,rfl⟩:=h
              obtain ⟨a1,a2,a3⟩:=hcell j p e h5 h3
              have hmod:(mes.modify j fun e=>{ e with key:=v })=mes:=by
                apply Array.ext_getElem?
                intro q
                rw [Array.getElem?_modify]
                split
                · rename_i hq
                  subst hq
                  rw [h3]
                  simp [← h6]
                · rfl
              have hrun:(Instr.mapEntry t (.map (some b)) v).run P w=.ok (.tuple #[e.val,goInt e.born]) (setB w b (.map mes mes.size)):=by
                have hst:=hob.1.1.stays w hl
                simp [Instr.mapEntry,run_underlying (kmap_spec hm),MapKept.run_getObj_map hw,hob.1.1.check w _ hl,h1,Result.andThen,MapKept.run_setObj_map _ hw,h3,h6,hst,hmod]
              have hsame:setB w b (.map mes mes.size)=w:=by
                have:w.heap.setIfInBounds b (.map mes mes.size)=w.heap:=by
                  apply Array.ext_getElem?
                  intro q
                  rw [Array.getElem?_setIfInBounds]
                  split
                  · rename_i hq; subst hq; simp [hbl,hw] at *; simpa [hbl] using hw.symm
                  · rfl
                show ({ w with heap:=w.heap.setIfInBounds b (.map mes mes.size) } : World)=w
                rw [this]
              rw [hsame] at hrun
              refine ⟨_,w,hrun,⟨fun _ h=>h,fun _ _=>rfl,fun _ _ _ h=>h,fun _ _ h=>h⟩,⟨hr.os,hr.tape,hr.output,hr.size,hr.F0,hr.only,hr.same,hr.lt,hr.hr,hr.src,hr.keep,hr.sz⟩,?_⟩
              simp only [h5,Option.getD_some]
              refine tup2 a2 ?_
              rw [a3]
              exact .d _ _ (.int _ _)
        split at h
        · rename_i j hj
          simp only [Option.some.injEq,Prod.mk.injEq] at h
          obtain ⟨rfl,rfl,rfl⟩:=h
          exact key hob _ _ (by rw [hj])
        · rename_i hj
          simp only [Option.some.injEq,Prod.mk.injEq] at h
          obtain ⟨rfl,rfl,rfl⟩:=h
          exact key hob _ _ (by rw [hj])
      · cases h
    · cases h
  · cases h

theorem estoreQ_sound {P:Program} {B:Base} {s:St} {w:World} {E:Env} {F:Nat→Prop} {t:TypeId} {x y:V} {n:Int} {ob:Prop} {H':List Blk} {u z:Value} (kd:IntKind)
    (h:estoreQ s.heap x n y=some (ob,H')) (hob:ob) (hr:Rel B s E F w) (hx:VR E F w x u) (hy:VR E F w y z) :
    ∃ w',(Instr.entryStore t u (.int kd n) z).run P w=.ok () w'∧Evo E F w E F w' (fun _=>True)∧Rel B { s with heap:=H' } E F w':=by
  unfold estoreQ at h
  split at h
  · rename_i id
    split at h
    · rename_i es hH
      simp only [Option.some.injEq,Prod.mk.injEq] at h
      obtain ⟨rfl,rfl⟩:=h
      cases hx with
      | map id b k m hE =>
        obtain ⟨b',mes,h4,hw,hs,hcell⟩:=hr.hr.blk _ _ _ hE hH
        simp only [Option.some.injEq] at h4
        subst h4
        obtain ⟨hbl,_⟩:=hr.hr.free id b _ _ hE rfl hH rfl
        have hj:n.toNat<mes.size:=by omega
        have hborn:∀ i (h:i<mes.size),mes[i].born=i:=fun i h =>
          (hcell i _ _ (List.getElem?_eq_getElem (by omega)) (Array.getElem?_eq_getElem h)).2.2
        have hfind:mes.findIdx? (fun e=>(e.born:Int)==n)=some n.toNat:=by
          rw [Array.findIdx?_eq_some_iff_getElem]
          refine ⟨hj,by simp [hborn]; omega,fun i hi => ?_⟩
          simp [hborn]
          omega
        have hrun:(Instr.entryStore t (.map (some b)) (.int kd n) z).run P w=.ok () (setB w b (.map (mes.modify n.toNat fun e=>{ e with val:=z }) mes.size)):=by
          simp [Instr.entryStore,MapKept.run_getObj_map hw,Result.andThen,asInt,asIntOf,hfind,MapKept.run_setObj_map _ hw]
        refine ⟨_,hrun,?_⟩
        refine upd_relM hr hE hH rfl rfl (not_sz hw) fun evo => ?_
        refine ⟨b,(mes.modify n.toNat fun e=>{ e with val:=z } : Array MapEntry),rfl,?_,?_,?_⟩
        · simp only [Array.size_modify]
          simp [setB,Array.getElem?_setIfInBounds,hbl]
        · simp [hs]
        · intro i' p' m hp hm'
          rw [List.getElem?_modify] at hp
          rw [Array.getElem?_modify] at hm'
          simp only [Option.map_eq_map,Option.map_eq_some_iff] at hp
          obtain ⟨p0,hp0,rfl⟩:=hp
          split at hm'
          · rename_i hji
            subst hji
            rw [if_pos rfl]
            simp only [Option.map_eq_some_iff] at hm'
            obtain ⟨m0,hm0,rfl⟩:=hm'
            obtain ⟨a1,a2,a3⟩:=hcell _ p0 m0 hp0 hm0
            exact ⟨a1.evo evo (fun _ _=>trivial),hy.evo evo (fun _ _=>trivial),a3⟩
          · rename_i hji
            rw [if_neg hji]
            obtain ⟨a1,a2,a3⟩:=hcell i' p0 m hp0 hm'
            exact ⟨a1.evo evo (fun _ _=>trivial),a2.evo evo (fun _ _=>trivial),a3⟩
    · cases h
  · cases h

theorem iter_rel {B:Base} {s:St} {E:Env} {F:Nat→Prop} {w:World} (hr:Rel B s E F w) {x:V} {m n:Nat} (hx:VR E F w x (.map (some m))) :
    Evo E F w (E++[⟨some w.heap.size,0,1⟩]) F (w.alloc (.mapIter (some m) n #[] n)) (fun _=>True)∧Rel B { s with heap:=s.heap++[.it x [] n] } (E++[⟨some w.heap.size,0,1⟩]) F (w.alloc (.mapIter (some m) n #[] n)) ∧
      VR (E++[⟨some w.heap.size,0,1⟩]) F (w.alloc (.mapIter (some m) n #[] n)) (.ptr s.heap.length 0 0) (.pointer (some ⟨w.heap.size,0,none⟩)):=by
  obtain ⟨h1,h2⟩:=alloc_rel hr (.mapIter (some m) n #[] n) (e:=⟨some w.heap.size,0,1⟩) (blk:=.it x [] n) rfl fun evo =>
    ⟨w.heap.size,m,rfl,heap_alloc_new w _,hx.evo evo (fun _ _=>trivial)⟩
  refine ⟨h1,h2,?_⟩
  have:=VR.ptr (E:=E++[⟨some w.heap.size,0,1⟩]) (F:=F) (w:=w.alloc (.mapIter (some m) n #[] n)) s.heap.length 0 0 w.heap.size 0 1 (by
    rw [← hr.hr.len,List.getElem?_append_right (Nat.le_refl _)]; simp) (by omega)
  simpa using this

def rangeQ (P:Program) (s:St) (t:TypeId) (x:V) : Option (Prop × V × St) :=
  match x with
  | .map id =>
    match s.heap[id]?,kmap P t with
    | some (.mp es),some _=>some (True,.ptr s.heap.length 0 0,{ s with heap:=s.heap++[.it (.map id) [] es.length] })
    | _,_=>none
  | _=>none

theorem rangeQ_sound {P:Program} {B:Base} {s s':St} {w:World} {E:Env} {F:Nat→Prop} {t:TypeId} {x y:V} {ob:Prop} {u:Value} (h:rangeQ P s t x=some (ob,y,s')) (hr:Rel B s E F w) (hx:VR E F w x u) :
    ∃ r w' E',(Instr.range t u).run P w=.ok r w'∧Keep w w'∧Evo E F w E' F w' (fun _=>True)∧Rel B s' E' F w'∧VR E' F w' y r∧s'.tm=s.tm:=by
  unfold rangeQ at h
  split at h
  · rename_i id
    split at h
    · rename_i es kt hH hm
      simp only [Option.some.injEq,Prod.mk.injEq] at h
      obtain ⟨_,rfl,rfl⟩:=h
      have hx0:=hx
      cases hx with
      | map id b k m hE =>
        obtain ⟨b',mes,h4,hw,hs,hcell⟩:=hr.hr.blk _ _ _ hE hH
        simp only [Option.some.injEq] at h4
        subst h4
        obtain ⟨h1,h2,h3⟩:=iter_rel (n:=es.length) hr hx0
        obtain ⟨k1,k2⟩:=kt
        refine ⟨_,_,_,?_,fun c hc=>Below.heap_alloc w _ c hc,h1,h2,h3,rfl⟩
        rw [← hs]
        have hnew:∀ o:Obj,(newObj o).run P w=.ok w.heap.size (w.alloc o):=fun o=>rfl
        simp [Instr.range,run_underlying (kmap_spec hm),MapKept.run_getObj_map hw,Result.andThen,hnew]
    · cases h
  · cases h

def nextQ (H:List Blk) (x:V) : Option (Nat × V × List Nat × Nat × List (V × V)) :=
  match x with
  | .ptr id 0 0 =>
    match H[id]? with
    | some (.it (.map m) seen n) =>
      match H[m]? with
      | some (.mp es)=>some (id,.map m,seen,n,es)
      | _=>none
    | _=>none
  | _=>none

theorem nextQ_spec {H:List Blk} {x mv:V} {id n:Nat} {seen:List Nat} {es:List (V × V)} (h:nextQ H x=some (id,mv,seen,n,es)) : x=.ptr id 0 0∧∃ m,mv=.map m∧H[id]? = some (.it (.map m) seen n)∧H[m]? = some (.mp es):=by
  unfold nextQ at h
  split at h
  · split at h
    · split at h
      · simp only [Option.some.injEq,Prod.mk.injEq] at h
        obtain ⟨rfl,rfl,rfl,rfl,rfl⟩:=h
        exact ⟨rfl,_,rfl,by assumption,by assumption⟩
      · cases h
    · cases h
  · cases h

theorem iter_at {B:Base} {s:St} {w:World} {E:Env} {F:Nat→Prop} {m id n:Nat} {seen:List Nat} {es:List (V × V)} {u:Value} (hr:Rel B s E F w) (hx:VR E F w (.ptr id 0 0) u) (h1:s.heap[id]? = some (.it (.map m) seen n)) (h2:s.heap[m]? = some (.mp es)) :
    ∃ b bm mes e,u=.pointer (some ⟨b,0,none⟩)∧E[id]? = some e∧e.blk=some b∧w.heap[b]? = some (.mapIter (some bm) n seen.toArray n)∧w.heap[bm]? = some (.map mes mes.size)∧mes.size=es.length∧VR E F w (.map m) (.map (some bm)) ∧
      ∀ (i:Nat) (p:V × V) (q:MapEntry),es[i]? = some p→mes[i]? = some q→VR E F w p.1 q.key∧VR E F w p.2 q.val∧q.born=i:=by
  cases hx with
  | ptr _ _ _ b k mm hE hm =>
    obtain ⟨b',bm,h4,hw,hv⟩:=hr.hr.blk _ _ _ hE h1
    simp only [Option.some.injEq] at h4
    subst h4
    have hv0:=hv
    cases hv with
    | map _ _ k2 m2 hE2 =>
      obtain ⟨b2,mes,h5,hw2,hs,hcell⟩:=hr.hr.blk _ _ _ hE2 h2
      simp only [Option.some.injEq] at h5
      subst h5
      exact ⟨b,bm,mes,_,by simp,hE,rfl,hw,hw2,hs,hv0,hcell⟩

theorem tup3 {E:Env} {F:Nat→Prop} {w:World} {x y z:V} {u v t:Value} (hx:VR E F w x u) (hy:VR E F w y v) (hz:VR E F w z t) : VR E F w (.tup [x,y,z]) (.tuple #[u,v,t]):=by
  refine .tup _ _ rfl fun j a b ha hb => ?_
  match j with
  | 0=>simp at ha hb; subst ha hb; exact hx
  | 1=>simp at ha hb; subst ha hb; exact hy
  | 2=>simp at ha hb; subst ha hb; exact hz
  | j+3=>simp at ha

theorem nextQ_sound {P:Program} {B:Base} {s:St} {w:World} {E:Env} {F:Nat→Prop} {x mv:V} {id n:Nat} {seen:List Nat} {es:List (V × V)} {u:Value} (ty:TypeId) (h:nextQ s.heap x=some (id,mv,seen,n,es)) (hn:n=es.length)
    (hr:Rel B s E F w) (hx:VR E F w x u) :
    ((∀ j,j<es.length→j∈seen)∧(Instr.next u false ty).run P w=.ok (.tuple #[.bool false]) w) ∨
    ∃ j p,es[j]? = some p∧j ∉ seen∧∃ r w',(Instr.next u false ty).run P w=.ok r w'∧Evo E F w E F w' (fun _=>True)∧Rel B { s with heap:=s.heap.set id (.it mv (seen++[j]) n) } E F w'∧VR E F w' (.tup [.d (.bool true),p.1,p.2]) r:=by
  obtain ⟨rfl,m,rfl,h1,h2⟩:=nextQ_spec h
  obtain ⟨b,bm,mes,e,rfl,hE,heb,hw,hw2,hs,hv,hcell⟩:=iter_at hr hx h1 h2
  have hborn:∀ i (hi:i<mes.size),mes[i].born=i:=fun i hi=>(hcell i _ _ (List.getElem?_eq_getElem (by omega)) (Array.getElem?_eq_getElem hi)).2.2
  have hhold:∀ q∈mes.toList,q.born<n:=fun q hq=>by
    obtain ⟨i,hi,rfl⟩:=List.getElem_of_mem hq
    have hi':i<mes.size:=by simpa using hi
    rw [Array.getElem_toList,hborn i hi']
    omega
  rcases run_next_at (P:=P) w ty b bm n n seen.toArray mes mes.size hw hw2 hhold (Nat.le_refl _) with ⟨g1,g2⟩ | ⟨q,hq,w1,hw1,hrun⟩
  · refine .inl ⟨fun j hj => ?_,g2⟩
    have hj':j<mes.size:=by omega
    have hemp:leftOf mes seen.toArray = #[]:=Array.eq_empty_of_size_eq_zero g1
    unfold leftOf at hemp
    rw [Array.filter_eq_empty_iff] at hemp
    have:=hemp mes[j] (Array.getElem_mem hj')
    rw [hborn j hj'] at this
    simpa using this
  · unfold leftOf at hq
    simp only [Array.toList_filter,List.mem_filter] at hq
    obtain ⟨hq1,hq2⟩:=hq
    obtain ⟨j,hj,rfl⟩:=List.getElem_of_mem hq1
    have hj':j<mes.size:=by simpa using hj
    rw [Array.getElem_toList] at hq2 hrun
    have hb:=hborn j hj'
    rw [hb] at hq2 hrun
    have hjs:j ∉ seen:=by simpa using hq2
    have hje:j<es.length:=by omega
    obtain ⟨a1,a2,_⟩:=hcell j es[j] mes[j] (List.getElem?_eq_getElem hje) (Array.getElem?_eq_getElem hj')
    refine .inr ⟨j,es[j],List.getElem?_eq_getElem hje,hjs,_,_,hrun,?_⟩
    have key:∀ w1:World,w1.heap[b]? = some (.mapIter (some bm) n seen.toArray n)→Rel B s E F w1→VR E F w1 (.map m) (.map (some bm))→VR E F w1 es[j].1 mes[j].key→VR E F w1 es[j].2 mes[j].val →
        Evo E F w1 E F (setB w1 b (.mapIter (some bm) n (seen.toArray.push j) mes.size)) (fun _=>True)∧Rel B { s with heap:=s.heap.set id (.it (.map m) (seen++[j]) n) } E F (setB w1 b (.mapIter (some bm) n (seen.toArray.push j) mes.size)) ∧
        VR E F (setB w1 b (.mapIter (some bm) n (seen.toArray.push j) mes.size)) (.tup [.d (.bool true),es[j].1,es[j].2]) (.tuple #[.bool true,mes[j].key,mes[j].val]):=by
      intro w1 hw1 hr1 hv1 b1 b2
      have hbl:b<w1.heap.size:=(Array.getElem?_eq_some_iff.1 hw1).1
      obtain ⟨e1,e2⟩:=upd_relM (blk':=.it (.map m) (seen++[j]) n) (o:=.mapIter (some bm) n (seen.toArray.push j) mes.size) hr1 hE h1 rfl heb (fun n ⟨c,u,hc,_⟩=>by rw [hw1] at hc; cases hc) fun evo=>by
        refine ⟨b,bm,heb,?_,hv1.evo evo (fun _ _=>trivial)⟩
        rw [hs,← hn]
        simp [setB,Array.getElem?_setIfInBounds,hbl]
      exact ⟨e1,e2,tup3 (.d _ _ (.bool true)) (b1.evo e1 (fun _ _=>trivial)) (b2.evo e1 (fun _ _=>trivial))⟩
    rcases hw1 with rfl | rfl
    · exact key _ hw hr hv a1 a2
    · have ed:Evo E F w E F w.drew (fun _=>True):=⟨fun _ h=>h,fun _ _=>rfl,fun _ _ _ h=>h,fun _ _ h=>h⟩
      obtain ⟨k1,k2,k3⟩:=key w.drew hw hr.drew (hv.evo ed (fun _ _=>trivial)) (a1.evo ed (fun _ _=>trivial)) (a2.evo ed (fun _ _=>trivial))
      exact ⟨⟨k1.up,k1.same,k1.env,k1.sz⟩,k2,k3⟩

def entryOf (H:List Blk) (x:V) : Option (Prop × V) :=
  match nextQ H x with
  | some (_,_,seen,n,es) =>
    match seen.getLast? with
    | some j=>some (n=es.length∧j<es.length,.tup [(es[j]?.getD default).1,(es[j]?.getD default).2])
    | none=>none
  | none=>none

theorem entryOf_sound {P:Program} {B:Base} {s:St} {w:World} {E:Env} {F:Nat→Prop} {x y:V} {ob:Prop} {u:Value} (h:entryOf s.heap x=some (ob,y)) (hob:ob) (hr:Rel B s E F w) (hx:VR E F w x u) :
    ∃ r,VR E F w y r∧∀ w',Keep w w'→(Instr.entry u).run P w'=.ok r w':=by
  unfold entryOf at h
  split at h
  · rename_i id mv seen n es hq
    split at h
    · rename_i j hj
      simp only [Option.some.injEq,Prod.mk.injEq] at h
      obtain ⟨rfl,rfl⟩:=h
      obtain ⟨hn,hjl⟩:=hob
      obtain ⟨rfl,m,rfl,h1,h2⟩:=nextQ_spec hq
      obtain ⟨b,bm,mes,e,rfl,hE,heb,hw,hw2,hs,hv,hcell⟩:=iter_at hr hx h1 h2
      have hborn:∀ i (hi:i<mes.size),mes[i].born=i:=fun i hi=>(hcell i _ _ (List.getElem?_eq_getElem (by omega)) (Array.getElem?_eq_getElem hi)).2.2
      have hj':j<mes.size:=by omega
      obtain ⟨a1,a2,a3⟩:=hcell j es[j] mes[j] (List.getElem?_eq_getElem hjl) (Array.getElem?_eq_getElem hj')
      refine ⟨.tuple #[mes[j].key,mes[j].val],?_,fun w' hk => ?_⟩
      · rw [List.getElem?_eq_getElem hjl,Option.getD_some]
        exact tup2 a1 a2
      · obtain ⟨s0,hs0⟩ : ∃ s0,seen=s0++[j]:=by
          rw [List.getLast?_eq_some_iff] at hj
          exact hj
        have hw':w'.heap[b]? = some (.mapIter (some bm) n (s0.toArray.push mes[j].born) mes.size):=by
          rw [hk b (Array.getElem?_eq_some_iff.1 hw).1,hw,hs0,a3,hs,hn]
          simp
        refine run_entry_at w' b bm n s0.toArray mes mes.size mes[j] hw' ((hk bm (Array.getElem?_eq_some_iff.1 hw2).1).trans hw2) (by simp) ?_
        have:mes.toList.map (·.born)=List.range mes.size:=by
          apply List.ext_getElem?
          intro i
          by_cases hi:i<mes.size
          · simp [List.getElem?_range hi,hi,hborn i hi]
          · simp [hi,List.getElem?_eq_none (show (List.range mes.size).length≤i by simp; omega)]
        rw [this]
        exact List.nodup_range
    · cases h
  · cases h

end Go.Aw

namespace Go.Aw
set_option linter.unusedSimpArgs false
set_option linter.unusedVariables false
open Go.RowKit

def stripAll (s:St) : List Operand→Prop × List V
  | []=>(True,[])
  | x::r=>((s.ev x).strip.1∧(stripAll s r).1,(s.ev x).strip.2::(stripAll s r).2)

theorem stripAll_sound {B:Base} {s:St} {a:Act} {w:World} {E:Env} {F:Nat→Prop} (hs:Sim B s a w E F) : ∀ (l:List Operand),(stripAll s l).1 →
    (stripAll s l).2.length=l.length∧∀ (j:Nat) (x:V) (v:Value),(stripAll s l).2[j]? = some x→(l.map a.eval)[j]? = some v→VR E F w x v
  | [],_=>⟨rfl,by simp [stripAll]⟩
  | y::r,h=>by
    obtain ⟨h1,h2⟩:=h
    obtain ⟨q1,q2⟩:=stripAll_sound hs r h2
    refine ⟨by simp [stripAll,q1],fun j x v hx hv => ?_⟩
    cases j with
    | zero =>
      simp [stripAll] at hx hv
      subst hx hv
      exact V.strip_sound (ev_sound hs y) h1
    | succ j=>exact q2 j x v (by simpa [stripAll] using hx) (by simpa using hv)

def kconc (P:Program) (t:TypeId) : Bool :=
  match P.underlying t with
  | some (.interface _)=>false
  | some _=>true
  | none=>false
theorem run_makeIface {P:Program} {t:TypeId} (h:kconc P t=true) (v:Value) (w:World) : (Instr.makeInterface t v).run P w=.ok (.iface t v) w:=by
  unfold kconc at h
  cases hu:P.underlying t with
  | none=>simp [hu] at h
  | some d=>cases d <;> simp [hu] at h <;> simp [Instr.makeInterface,Sem.run_bind,run_underlying hu w]
theorem run_assert {P:Program} {t xt:TypeId} (h:kconc P t=true) (v:Value) (w:World) : (Instr.typeAssert (.iface t v) xt t false).run P w=.ok v w:=by
  unfold kconc at h
  cases hu:P.underlying t with
  | none=>simp [hu] at h
  | some d=>cases d <;> simp [hu] at h <;> simp [Instr.typeAssert,Sem.run_bind,run_underlying hu w]
def mkifQ (P:Program) (t:TypeId) (x:V) : Option (Prop × V) :=
  match kconc P t with
  | true=>some (True,.iface t x)
  | false=>none
def asrtQ (P:Program) (t:TypeId) (x:V) : Option (Prop × V) :=
  match x,kconc P t with
  | .iface t' y,true=>some (t'=t,y)
  | .d (.iface t' y),true=>some (t'=t,ofD y)
  | _,_=>none
theorem asrtQ_sound {P:Program} {E:Env} {F:Nat→Prop} {w:World} {t xt:TypeId} {x y:V} {ob:Prop} {v:Value} (h:asrtQ P t x=some (ob,y)) (hob:ob) (hx:VR E F w x v) :
    ∃ u,VR E F w y u∧∀ w',(Instr.typeAssert v xt t false).run P w'=.ok u w':=by
  unfold asrtQ at h
  split at h
  · rename_i t' y' hk
    simp only [Option.some.injEq,Prod.mk.injEq] at h
    obtain ⟨rfl,rfl⟩:=h
    subst hob
    cases hx with
    | iface t x v hv=>exact ⟨v,hv,fun w'=>run_assert hk v w'⟩
  · rename_i t' y' hk
    simp only [Option.some.injEq,Prod.mk.injEq] at h
    obtain ⟨rfl,rfl⟩:=h
    subst hob
    cases hx with
    | d _ _ hd =>
      cases hd with
      | iface t x v hv=>exact ⟨v,ofD_sound hv,fun w'=>run_assert hk v w'⟩
  · cases h
def kif (P:Program) (t:TypeId) : Bool :=
  match P.underlying t with
  | some (.interface _)=>true
  | _=>false
theorem kif_spec {P:Program} {t:TypeId} (h:kif P t=true) : P.underlying t=some (.interface (P.methodsAt t)):=by
  unfold kif at h
  split at h
  · rename_i ms hu
    simp only [Program.methodsAt,hu]
  · cases h
def nifQ (P:Program) (op:BinOp) (t:TypeId) (x:V) : Option Bool :=
  if kif P t then match op,x with
    | .eql,.d .niliface=>some true
    | .neq,.d .niliface=>some false
    | .eql,.d (.iface _ _)=>some false
    | .neq,.d (.iface _ _)=>some true
    | .eql,.iface _ _=>some false
    | .neq,.iface _ _=>some true
    | _,_=>none
  else none
theorem nifQ_sound {P:Program} {E:Env} {F:Nat→Prop} {w:World} {op:BinOp} {t:TypeId} {x:V} {b:Bool} {v:Value} (h:nifQ P op t x=some b) (hx:VR E F w x v) (xo:Operand) (w':World) :
    ((do eqGuard op t xo (.const .nilIface) v .nilIface; binOp op t v .nilIface) : Sem Value).run P w'=.ok (.bool b) w':=by
  unfold nifQ at h
  split at h
  · rename_i hk
    have hu:=kif_spec hk
    split at h
    all_goals try (cases h; done)
    all_goals
      simp only [Option.some.injEq] at h
      subst h
    · cases hx with | d _ _ hd=>cases hd; simp [eqGuard_nil_constR,run_eql_nil_nil w' t hu]
    · cases hx with | d _ _ hd=>cases hd; simp [eqGuard_nil_constR,run_neq_nil_nil w' t hu]
    · cases hx with | d _ _ hd=>cases hd; simp [eqGuard_at_iface,run_eql_held_nil w' t _ _ hu]
    · cases hx with | d _ _ hd=>cases hd; simp [eqGuard_at_iface,run_neq_held_nil w' t _ _ hu]
    · cases hx; simp [eqGuard_at_iface,run_eql_held_nil w' t _ _ hu]
    · cases hx; simp [eqGuard_at_iface,run_neq_held_nil w' t _ _ hu]
  · cases h
def opR (P:Program) (s:St) : Op→Option (Prop × V)
  | .build t parts=>buildQ P s t parts
  | .lookup t x i ok=>(lookQ P s.heap t (s.ev x).strip.2 (s.ev i).strip.2 ok).map fun r=>((s.ev x).strip.1∧(s.ev i).strip.1∧r.1,r.2)
  | .entry x=>(entryOf s.heap (s.ev x).strip.2).map fun r=>((s.ev x).strip.1∧r.1,r.2)
  | .makeInterface t x=>(mkifQ P t (s.ev x).strip.2).map fun r=>((s.ev x).strip.1∧r.1,r.2)
  | .typeAssert x _ t false=>(asrtQ P t (s.ev x).strip.2).map fun r=>((s.ev x).strip.1∧r.1,r.2)
  | .convert src dst x =>
    match strQ P s.heap src dst (s.ev x).strip.2 with
    | some r=>some ((s.ev x).strip.1∧r.1,r.2)
    | none=>opQ P s (.convert src dst x)
  | .call c =>
    match c.callee with
    | .value (.func g)=>(extR (extN P g) (stripAll s c.args.toList).2).map fun r=>((stripAll s c.args.toList).1∧r.1,r.2)
    | _=>opQ P s (.call c)
  | .binOp op t x y ty =>
    match y with
    | .const .nilIface=>(nifQ P op t (s.ev x).strip.2).map fun b=>((s.ev x).strip.1,.d (.bool b))
    | _=>opQ P s (.binOp op t x y ty)
  | op=>opQ P s op

theorem opR_sound {P:Program} {B:Base} {s:St} {a:Act} {w:World} {E:Env} {F:Nat→Prop} {op:Op} {ob:Prop} {x:V} (h:opR P s op=some (ob,x)) (hob:ob)
    (hs:Sim B s a w E F) (o:Oper) (ho:o.op=op) : ∃ v,VR E F w x v∧∀ w',Keep w w'→(execOp a.eval o).run P w'=.ok (.value v) w':=by
  unfold opR at h
  split at h
  · rename_i t parts
    obtain ⟨v,h1,h2⟩:=buildQ_sound h hob hs
    exact ⟨v,h1,fun w' _=>by simp [execOp,ho,h2 w']⟩
  · rename_i t x i ok
    simp only [Option.map_eq_some_iff,Prod.exists,Prod.mk.injEq] at h
    obtain ⟨p,y,hq,rfl,rfl⟩:=h
    obtain ⟨r,h1,h2⟩:=lookQ_sound hq hob.2.2 hs.rel (V.strip_sound (ev_sound hs x) hob.1) (V.strip_sound (ev_sound hs i) hob.2.1)
    exact ⟨r,h1,fun w' hk=>by simp [execOp,ho,h2 w' hk]⟩
  · rename_i x
    simp only [Option.map_eq_some_iff,Prod.exists,Prod.mk.injEq] at h
    obtain ⟨p,y,hq,rfl,rfl⟩:=h
    obtain ⟨r,h1,h2⟩:=entryOf_sound (P:=P) hq hob.2 hs.rel (V.strip_sound (ev_sound hs x) hob.1)
    exact ⟨r,h1,fun w' hk=>by simp [execOp,ho,h2 w' hk]⟩
  · rename_i t x
    simp only [Option.map_eq_some_iff,Prod.exists,Prod.mk.injEq] at h
    obtain ⟨p,y,hq,rfl,rfl⟩:=h
    unfold mkifQ at hq
    split at hq
    · rename_i hk
      simp only [Option.some.injEq,Prod.mk.injEq] at hq
      obtain ⟨rfl,rfl⟩:=hq
      exact ⟨_,.iface t _ _ (V.strip_sound (ev_sound hs x) hob.1),fun w' _=>by simp [execOp,ho,run_makeIface hk]⟩
    · cases hq
  · rename_i x xt t
    simp only [Option.map_eq_some_iff,Prod.exists,Prod.mk.injEq] at h
    obtain ⟨p,y,hq,rfl,rfl⟩:=h
    obtain ⟨u,h1,h2⟩:=asrtQ_sound (xt:=xt) hq hob.2 (V.strip_sound (ev_sound hs x) hob.1)
    exact ⟨u,h1,fun w' _=>by simp [execOp,ho,h2 w']⟩
  · rename_i src dst x
    split at h
    · rename_i r hq
      simp only [Option.some.injEq,Prod.mk.injEq] at h
      obtain ⟨rfl,rfl⟩:=h
      obtain ⟨u,h1,h2⟩:=strQ_sound (P:=P) hq hob.2 hs.rel.hr hs.rel.lt (V.strip_sound (ev_sound hs x) hob.1)
      exact ⟨u,h1,fun w' hk=>by simp [execOp,ho,h2 w' hk]⟩
    · exact opQ_sound h hob hs o ho
  · rename_i c
    split at h
    · rename_i g hcal
      simp only [Option.map_eq_some_iff,Prod.exists,Prod.mk.injEq] at h
      obtain ⟨p,y,hq,rfl,rfl⟩:=h
      obtain ⟨q1,q2⟩:=stripAll_sound hs c.args.toList hob.1
      obtain ⟨v,h1,h2⟩:=extR_sound (cargs:=(c.args.map a.eval)) hq hob.2 ⟨by simp [q1],fun j x v hx hv=>q2 j x v hx (by simpa using hv)⟩
      refine ⟨v,h1,fun w' _ => ?_⟩
      have hf:a.eval (.func g)=.func (.func g) #[] #[]:=rfl
      simp [execOp,ho,resolve,hcal,hf,Deferred.ofValue,invoke,h2]
    · exact opQ_sound h hob hs o ho
  · rename_i op t x y ty
    split at h
    · simp only [Option.map_eq_some_iff,Prod.mk.injEq] at h
      obtain ⟨b,hq,rfl,rfl⟩:=h
      refine ⟨_,.d _ _ (.bool b),fun w' _ => ?_⟩
      have:=nifQ_sound hq (V.strip_sound (ev_sound hs x) hob) x w'
      simp only [Sem.run_bind] at this
      have he:a.eval (.const .nilIface)=.nilIface:=rfl
      simp only [execOp,ho,he,Sem.run_bind,this]
      simp
    · exact opQ_sound h hob hs o ho
  · exact opQ_sound h hob hs o ho

def opE (P:Program) (kp:List Nat) (s:St) : Op→Option (Prop × V × St)
  | .alloc t=>(kzero P t).map fun zs=>(True,.ptr s.heap.length 0 0,{ s with heap:=s.heap++[.cells zs] })
  | .box _ x=>some ((s.ev x).flat=true,.ptr s.heap.length 0 0,{ s with heap:=s.heap++[.cells (s.ev x).cellsV] })
  | .buildSlice t n parts =>
    let s':=s.settle (parts.toList.map (·.2))
    if hasNil (parts.toList.map fun p=>(p.1,(s'.ev p.2).strip.2)) then (litVQ P s' t n parts).map fun r=>(r.1,.ref s'.heap.length 0 n,{ s' with heap:=s'.heap++[.vrs r.2.1 r.2.2] })
    else (sliceLitQ P s' t n parts).map fun r=>(r.1,.ref s'.heap.length 0 n,{ s' with heap:=s'.heap++[.data r.2.1 r.2.2] })
  | .makeSlice t l c =>
    match s.ev l,s.ev c with
    | .d (.int _ l),.d (.int _ c)=>(makeQ P t l c).map fun r=>(r.1,.ref s.heap.length 0 l.toNat,{ s with heap:=s.heap++[.data r.2.1 (List.replicate l.toNat r.2.2)] })
    | _,_=>none
  | .store t p x =>
    let s':=match s.ev p with
      | .ptr id _ _=>match s.heap[id]?.getD .gone with
        | .data _ _=>s.settle [x]
        | _=>s
      | _=>s
    (storeQ P s'.heap t (s'.ev p) (s'.ev x)).map fun r=>(r.1,.junk,{ s' with heap:=r.2 })
  | .call c =>
    match c.callee,c.args.toList,c.argTypes.toList with
    | .builtin .append,[x,y],[t,t2] =>
      match appQ P kp s t t2 (s.ev x) (s.ev y) with
      | some r=>some r
      | none=>appV P kp s t t2 (s.ev x) (s.ev y)
    | _,_,_=>none
  | .makeMap _ none=>some (True,.map s.heap.length,{ s with heap:=s.heap++[.mp []] })
  | .makeMap t (some r) =>
    match s.ev r,kmap P t with
    | .d (.int _ _),some _=>some (True,.map s.heap.length,{ s with heap:=s.heap++[.mp []] })
    | _,_=>none
  | .mapUpdate t m k x=>(mputQ P s.heap t (s.ev m) (s.ev k) (s.ev x)).map fun r=>(r.1,.junk,{ s with heap:=r.2 })
  | .insert t m k x=>(mputQ P s.heap t (s.ev m) (s.ev k) (s.ev x)).map fun r=>(r.1,.junk,{ s with heap:=r.2 })
  | .mapEntry t m k=>(entryQ P s.heap t (s.ev m) (s.ev k)).map fun r=>(r.1,r.2.1,{ s with heap:=r.2.2 })
  | .range t x=>rangeQ P s t (s.ev x)
  | .entryStore _ m st x =>
    match s.ev st with
    | .d (.int _ n)=>(estoreQ s.heap (s.ev m) n (s.ev x)).map fun r=>(r.1,.junk,{ s with heap:=r.2 })
    | _=>none
  | _=>none

def kindT:Op→Bool
  | .store .. => true
  | .mapUpdate .. => true
  | .insert .. => true
  | .mapEntry .. => true
  | .entryStore .. => true
  | .next .. => true
  | .call c=>match c.callee with
    | .builtin .append=>true
    | _=>false
  | _=>false

theorem opE_sound {P:Program} {B:Base} {s s':St} {a:Act} {w:World} {E:Env} {F:Nat→Prop} {op:Op} {ob:Prop} {x:V} (h:opE P B.keep s op=some (ob,x,s')) (hob:ob)
    (hs:Sim B s a w E F) (o:Oper) (ho:o.op=op) : ∃ r w' E' F',(kindT op=true∨Keep w w')∧((execOp a.eval o).run P w=.ok (.value r) w'∨((execOp a.eval o).run P w=.ok .skip w'∧r=undef))∧Sim B s' a w' E' F'∧VR E' F' w' x r:=by
  have ev:=ev_sound hs
  unfold opE at h
  split at h
  · rename_i t
    simp only [Option.map_eq_some_iff,Prod.mk.injEq] at h
    obtain ⟨zs,hz,rfl,rfl,rfl⟩:=h
    obtain ⟨z,rfl,hrun⟩:=run_alloc_of hz w
    obtain ⟨h1,h2,h3⟩:=var_rel hs.rel t z.cells (z.cells.toList.map leafConst) (by simp) (zero_get z)
    exact ⟨_,_,_,F,.inr fun b hb=>Below.heap_alloc w _ b hb,.inl (by simp [execOp,ho,hrun]),hs.evo h1 h2 rfl,h3⟩
  · rename_i t x
    simp only [Option.some.injEq,Prod.mk.injEq] at h
    obtain ⟨rfl,rfl,rfl⟩:=h
    obtain ⟨c1,c2,c3⟩:=cellsV_sound (ev x) hob
    obtain ⟨h1,h2,h3⟩:=var_rel hs.rel t (a.eval x).cells (s.ev x).cellsV c1 c2
    exact ⟨_,_,_,F,.inr fun b hb=>Below.heap_alloc w _ b hb,.inl (by simp [execOp,ho,run_box_of]),hs.evo h1 h2 rfl,h3⟩
  · rename_i t n parts
    obtain ⟨F1,hs1⟩:=settle_sim (parts.toList.map (·.2)) s F hs
    dsimp only at h
    split at h
    · simp only [Option.map_eq_some_iff,Prod.exists,Prod.mk.injEq] at h
      obtain ⟨p,k,rows,hq,rfl,rfl,rfl⟩:=h
      obtain ⟨v,w',hrun,hkw,E',h1,h2,h3⟩:=litV_sound hq hob hs1
      exact ⟨v,w',E',F1,.inr hkw,.inl (by simp [execOp,ho,hrun]),hs1.evo h1 h2 rfl,h3⟩
    · simp only [Option.map_eq_some_iff,Prod.exists,Prod.mk.injEq] at h
      obtain ⟨p,k,rows,hq,rfl,rfl,rfl⟩:=h
      obtain ⟨v,w',hrun,hkw,E',h1,h2,h3⟩:=sliceLit_sound hq hob hs1
      exact ⟨v,w',E',F1,.inr hkw,.inl (by simp [execOp,ho,hrun]),hs1.evo h1 h2 rfl,h3⟩
  · rename_i t l c
    split at h
    · rename_i k1 l' k2 c' hl hc
      simp only [Option.map_eq_some_iff,Prod.exists,Prod.mk.injEq] at h
      obtain ⟨p,k,ds,hq,rfl,rfl,rfl⟩:=h
      have e1:=ev l
      have e2:=ev c
      rw [hl] at e1
      rw [hc] at e2
      obtain ⟨v,w',hrun,hkw,E',h1,h2,h3⟩:=make_sound k1 k2 hq hob hs
      exact ⟨v,w',E',F,.inr hkw,.inl (by simp [execOp,ho,int_of e1,int_of e2,hrun]),hs.evo h1 h2 rfl,h3⟩
    · cases h
  · rename_i t p x
    have key:∀ s1 F1,Sim B s1 a w E F1→(storeQ P s1.heap t (s1.ev p) (s1.ev x)).map (fun r=>(r.1,V.junk,{ s1 with heap:=r.2 }))=some (ob,‹V›,s') →
        ∃ r w' E' F',(kindT (.store t p x)=true∨Keep w w')∧((execOp a.eval o).run P w=.ok (.value r) w'∨((execOp a.eval o).run P w=.ok .skip w'∧r=undef))∧Sim B s' a w' E' F'∧VR E' F' w' ‹V› r:=by
      intro s1 F1 hs1 h
      simp only [Option.map_eq_some_iff,Prod.exists,Prod.mk.injEq] at h
      obtain ⟨p',H',hq,rfl,rfl,rfl⟩:=h
      obtain ⟨w',hrun,h1,h2⟩:=storeQ_sound hq hob hs1.rel (ev_sound hs1 p) (ev_sound hs1 x)
      exact ⟨undef,w',E,F1,.inl rfl,.inr ⟨by simp [execOp,ho,hrun],rfl⟩,hs1.evo h1 h2 rfl,.junk _⟩
    dsimp only at h
    split at h
    · split at h
      · obtain ⟨F1,hs1⟩:=settle_sim [x] s F hs
        exact key _ F1 hs1 h
      · exact key _ F hs h
    · exact key _ F hs h
  · rename_i c
    split at h
    · rename_i x y t t2 hc ha ht
      obtain ⟨r,w',E',hrun,h1,h2⟩ : ∃ r w' E',(Builtin.append_ #[t,t2] o.type #[a.eval x,a.eval y]).run P w=.ok r w'∧Sim B s' a w' E' F∧VR E' F w' ‹V› r:=by
        split at h
        · rename_i r hq
          cases h
          exact appQ_sound (ty:=o.type) hq hob hs (ev x) (ev y)
        · exact appV_sound (ty:=o.type) h hob hs (ev x) (ev y)
      refine ⟨r,w',E',F,.inl (by simp [kindT,hc]),.inl ?_,h1,h2⟩
      obtain ⟨callee,args,ts⟩:=c
      obtain ⟨args⟩:=args
      obtain ⟨ts⟩:=ts
      simp only at hc ha ht
      subst hc ha ht
      simp [execOp,ho,resolve,invoke,builtin,hrun]
    · cases h
  · rename_i t
    simp only [Option.some.injEq,Prod.mk.injEq] at h
    obtain ⟨rfl,rfl,rfl⟩:=h
    obtain ⟨h1,h2,h3⟩:=map_rel hs.rel
    exact ⟨_,_,_,F,.inr fun b hb=>Below.heap_alloc w _ b hb,.inl (by simp [execOp,ho,run_makeMap]),hs.evo h1 h2 rfl,h3⟩
  · rename_i t r
    split at h
    · rename_i k n kt hr hm
      simp only [Option.some.injEq,Prod.mk.injEq] at h
      obtain ⟨rfl,rfl,rfl⟩:=h
      obtain ⟨h1,h2,h3⟩:=map_rel hs.rel
      have e1:=ev r
      rw [hr] at e1
      have hrun:(Instr.makeMap t (some (.int k n))).run P w=.ok (.map (some w.heap.size)) (w.alloc (.map #[] 0)):=by
        obtain ⟨k1,k2⟩:=kt
        simp [Instr.makeMap,run_underlying (kmap_spec hm),Result.andThen,asInt,asIntOf]
      exact ⟨_,_,_,F,.inr fun b hb=>Below.heap_alloc w _ b hb,.inl (by simp [execOp,ho,int_of e1,hrun]),hs.evo h1 h2 rfl,h3⟩
    · cases h
  · rename_i t m k x
    simp only [Option.map_eq_some_iff,Prod.exists,Prod.mk.injEq] at h
    obtain ⟨p',H',hq,rfl,rfl,rfl⟩:=h
    obtain ⟨w',hrun,h1,h2⟩:=mputQ_sound hq hob hs.rel (ev m) (ev k) (ev x)
    exact ⟨undef,w',E,F,.inl rfl,.inr ⟨by simp [execOp,ho,hrun],rfl⟩,hs.evo h1 h2 rfl,.junk _⟩
  · rename_i t m k x
    simp only [Option.map_eq_some_iff,Prod.exists,Prod.mk.injEq] at h
    obtain ⟨p',H',hq,rfl,rfl,rfl⟩:=h
    obtain ⟨w',hrun,h1,h2⟩:=mputQ_sound hq hob hs.rel (ev m) (ev k) (ev x)
    exact ⟨undef,w',E,F,.inl rfl,.inr ⟨by simp [execOp,ho,hrun],rfl⟩,hs.evo h1 h2 rfl,.junk _⟩
  · rename_i t m k
    simp only [Option.map_eq_some_iff,Prod.exists,Prod.mk.injEq] at h
    obtain ⟨p',y,H',hq,rfl,rfl,rfl⟩:=h
    obtain ⟨r,w',hrun,h1,h2,h3⟩:=entryQ_sound hq hob hs.rel (ev m) (ev k)
    exact ⟨r,w',E,F,.inl rfl,.inl (by simp [execOp,ho,hrun]),hs.evo h1 h2 rfl,h3⟩
  · rename_i t x
    obtain ⟨r,w',E',hrun,hk,h1,h2,h3,h4⟩:=rangeQ_sound h hs.rel (ev x)
    exact ⟨r,w',E',F,.inr hk,.inl (by simp [execOp,ho,hrun]),hs.evo h1 h2 h4,h3⟩
  · rename_i t m st x
    split at h
    · rename_i kd n hst
      simp only [Option.map_eq_some_iff,Prod.exists,Prod.mk.injEq] at h
      obtain ⟨p',H',hq,rfl,rfl,rfl⟩:=h
      have e1:=ev st
      rw [hst] at e1
      obtain ⟨w',hrun,h1,h2⟩:=estoreQ_sound (P:=P) (t:=t) kd hq hob hs.rel (ev m) (ev x)
      exact ⟨undef,w',E,F,.inl rfl,.inr ⟨by simp [execOp,ho,int_of e1,hrun],rfl⟩,hs.evo h1 h2 rfl,.junk _⟩
    · cases h
  · cases h

def St.guardOf (s:St) (ops:Array Oper) (o:Oper) : Option Bool :=
  match o.guard with
  | none=>some true
  | some (j,want) =>
    match (ops[j]?).bind (·.dst) with
    | some d=>match tget s.tm d with
      | some (.d (.bool b))=>some (b==want)
      | some (.opt g (.d (.bool b)))=>some (g&&(b==want))
      | _=>none
    | none=>none

theorem guardOf_sound {B:Base} {s:St} {a:Act} {w:World} {E:Env} {F:Nat→Prop} {ops:Array Oper} {o:Oper} {g:Bool} (hs:Sim B s a w E F) (h:s.guardOf ops o=some g) :
    Region.wanted o (yielded ops a.tmps)=g:=by
  unfold St.guardOf at h
  unfold Region.wanted
  split at h
  · rename_i hg
    simp at h
    subst h
    rw [hg]
  · rename_i j want hg
    rw [hg]
    dsimp only
    split at h
    · rename_i d hd
      unfold yielded
      rw [hd]
      split at h
      · rename_i b hb
        simp at h
        obtain ⟨v,hv,hr⟩:=hs.tm d _ hb
        have hv':a.tmps[d]? = some (.bool b):=by rw [hv,bool_of hr]
        simp only [Option.bind_some,hv']
        rw [← h]
        cases b <;> cases want <;> rfl
      · rename_i g' b hb
        simp at h
        obtain ⟨v,hv,hr⟩:=hs.tm d _ hb
        cases hr with
        | opt _ _ _ h1 h2 =>
          cases g' with
          | true =>
            have hv':a.tmps[d]? = some (.bool b):=by rw [hv,bool_of (h1 rfl)]
            simp only [Option.bind_some,hv']
            rw [← h]
            cases b <;> cases want <;> rfl
          | false =>
            have hv':a.tmps[d]? = some undef:=by rw [hv,h2 rfl]
            simp only [Option.bind_some,hv',undef]
            rw [← h]
            cases want <;> rfl
      · cases h
    · cases h

def callT (s:St) (c:Call) : Option (Prop × FuncId × List V) :=
  match c.callee with
  | .value f =>
    match (s.ev f).strip.2 with
    | .d (.fn (.func g) caps)=>some ((s.ev f).strip.1∧(stripAll s c.args.toList).1,g,(stripAll s c.args.toList).2++caps.map .d)
    | .fn (.func g) caps=>some ((s.ev f).strip.1∧(stripAll s c.args.toList).1,g,(stripAll s c.args.toList).2++caps)
    | _=>none
  | _=>none

def callOps (c:Call) : List Operand :=
  match c.callee with
  | .value f=>c.args.toList++[f]
  | _=>[]

def CallD (P:Program) (g:Bool) (guarded:Bool) (f:FuncId) (args:List D) (K:V→List Blk→Prop) : Prop :=
  (g=true∧∃ R:V→List Blk→Prop,PC P f args R∧∀ x H,R x H→K x H) ∨
  (guarded=true∧∃ x0:V,(g=true→PC P f args fun x H=>x=x0∧H=[])∧K (.opt g x0) [])

theorem CallD.det {P:Program} {gd:Bool} {f:FuncId} {args:List D} {x0:V} {H0:List Blk} {K:V→List Blk→Prop} (h:PC P f args fun x H=>x=x0∧H=H0) (hk:K x0 H0) : CallD P true gd f args K :=
  .inl ⟨rfl,_,h,fun x H ⟨h1,h2⟩=>by subst h1 h2; exact hk⟩
theorem CallD.rel {P:Program} {gd:Bool} {f:FuncId} {args:List D} {R:V→List Blk→Prop} {K:V→List Blk→Prop} (h:PC P f args R) (hk:∀ x H,R x H→K x H) : CallD P true gd f args K :=
  .inl ⟨rfl,R,h,hk⟩
theorem CallD.grd {P:Program} {g:Bool} {f:FuncId} {args:List D} {x0:V} {K:V→List Blk→Prop} (h:g=true→PC P f args fun x H=>x=x0∧H=[]) (hk:K (.opt g x0) []) : CallD P g true f args K :=
  .inr ⟨rfl,x0,h,hk⟩

def V.off:V→V
  | .ref _ _ _=>.d (.sl [])
  | .ptr _ _ _=>.d .nilptr
  | x=>x

def dfl (P:Program) (t:TypeId) : V:=(kzeroV P t).getD .junk
def offVC (P:Program) (o:Oper) (g:Bool) (s:St) (K:St→Prop) : Prop :=
  match g with
  | false=>K (s.put o.dst (.opt false (dfl P o.type)))
  | true=>False

theorem offVC.imp {P:Program} {o:Oper} {g:Bool} {s:St} {K K':St→Prop} (h:offVC P o g s K) (hk:∀ t,K t→K' t) : offVC P o g s K':=by
  cases g with
  | false=>exact hk _ h
  | true=>exact h.elim

def nilCmp:BinOp→Operand→Option Bool
  | .eql,.const (.slice none 0 0)=>some true
  | .neq,.const (.slice none 0 0)=>some false
  | _,_=>none
def nilLen (P:Program) (t:TypeId) : V→Option Nat
  | .d (.sl rows)=>if ksl P t then some rows.length else none
  | .ref _ _ n=>if ksl P t then some n else none
  | .nil=>if ksl P t then some 0 else none
  | _=>none
def nilQ (P:Program) (t:TypeId) (q:Option Bool) (x:V) : Option (Bool × Nat) :=
  match q with
  | some b=>(nilLen P t x).map fun n=>(b,n)
  | none=>none
def nilVC (P:Program) (o:Oper) (q:Option (Bool × Nat)) (p:Prop) (g:Bool) (s:St) (K:St→Prop) : Prop :=
  match q,g with
  | some (b,n),true=>p∧K (s.put o.dst (.d (.bool (!b))))∧(n=0→K (s.put o.dst (.d (.bool b))))
  | _,_=>offVC P o g s K

theorem nilVC.imp {P:Program} {o:Oper} {q:Option (Bool × Nat)} {p:Prop} {g:Bool} {s:St} {K K':St→Prop} (h:nilVC P o q p g s K) (hk:∀ t,K t→K' t) : nilVC P o q p g s K':=by
  cases q with
  | none=>exact offVC.imp h hk
  | some q=>obtain ⟨b,n⟩:=q; cases g with
    | false=>exact offVC.imp (show offVC P o false s K from h) hk
    | true=>exact ⟨h.1,hk _ h.2.1,fun h0=>hk _ (h.2.2 h0)⟩

theorem nilQ_sound {P:Program} {E:Env} {F:Nat→Prop} {w:World} {op:BinOp} {t:TypeId} {x:V} {y:Operand} {b:Bool} {n:Nat} {v:Value} (h:nilQ P t (nilCmp op y) x=some (b,n)) (hx:VR E F w x v) :
    ∃ r,(r = !b∨(n=0∧r=b))∧∀ (a:Act) (xo:Operand) (w':World),(eqGuard op t xo y v (a.eval y)).run P w'=.ok () w'∧(binOp op t v (a.eval y)).run P w'=.ok (.bool r) w':=by
  unfold nilQ at h
  split at h
  · rename_i b' hb
    simp only [Option.map_eq_some_iff,Prod.mk.injEq] at h
    obtain ⟨m,hm,rfl,rfl⟩:=h
    have key:∃ (ad:Option Addr) (l c:Nat),v=.slice ad l c∧ksl P t=true∧(ad=none→m=0):=by
      unfold nilLen at hm
      split at hm
      · split at hm
        · rename_i hk
          cases hm
          cases hx with
          | d _ _ hd=>cases hd with
            | sl0 a c=>exact ⟨a,0,c,rfl,hk,fun _=>rfl⟩
            | sl b off cap k rows c _ _ _ _ _=>exact ⟨_,_,_,rfl,hk,fun h=>by cases h⟩
        · cases hm
      · rename_i id off len
        split at hm
        · rename_i hk
          cases hm
          cases hx with
          | ref _ _ _ b k m' a cap n hE hm' ha hl hb hc =>
            refine ⟨a,_,_,rfl,hk,fun h => ?_⟩
            refine Nat.eq_zero_of_not_pos fun h0 => ?_
            rw [ha (.inl h0)] at h; cases h
          | refv id k m a hE=>exact ⟨a,_,_,rfl,hk,fun _=>rfl⟩
        · cases hm
      · split at hm
        · rename_i hk
          cases hm
          cases hx with
          | nil a=>exact ⟨a,_,_,rfl,hk,fun _=>rfl⟩
        · cases hm
      · cases hm
    obtain ⟨ad,l,c,rfl,hk,hn⟩:=key
    obtain ⟨e,hu⟩:=ksl_spec hk
    unfold nilCmp at hb
    split at hb
    · cases hb
      refine ⟨ad.isNone,?_,fun a xo w' => ?_⟩
      · cases ad with
        | none=>exact .inr ⟨hn rfl,rfl⟩
        | some _=>exact .inl rfl
      · have:=Lib.run_eql_slice_nil w' t e ad l c 0 0 hu
        exact ⟨by simp [eqGuard,Act.eval],this⟩
    · cases hb
      refine ⟨!ad.isNone,?_,fun a xo w' => ?_⟩
      · cases ad with
        | none=>exact .inr ⟨hn rfl,rfl⟩
        | some _=>exact .inl rfl
      · have:=Go.run_neq_slice_nil_any w' t e ad l c 0 0 hu
        exact ⟨by simp [eqGuard,Act.eval],this⟩
    · cases hb
  · cases h

def OpVC (P:Program) (kp:List Nat) (ops:Array Oper) (o:Oper) (s:St) (K:St→Prop) : Prop :=
  match s.guardOf ops o with
  | none=>False
  | some g =>
    match opR P s o.op with
    | some (ob,x)=>(g=true→ob∧(o.guard.isSome=true→x.strip.1))∧K (s.put o.dst (if o.guard.isSome then .opt g x.strip.2 else x))
    | none =>
      match opE P kp s o.op with
      | some (ob,x,s')=>match g with
        | true=>ob∧K (s'.put o.dst x)
        | false=>K (s.put o.dst (.opt false x.off))
      | none =>
        match o.op with
        | .call c =>
          let s':=s.settle (callOps c)
          match callT s' c with
          | some (p,f,args) =>
            match dVs args with
            | some ds=>(g=true→p)∧CallD P g o.guard.isSome f ds fun x H=>K ({ s' with heap:=s'.heap++heapSh s'.heap.length H }.put o.dst (x.sh s'.heap.length))
            | none=>offVC P o g s K
          | none=>offVC P o g s K
        | .next x false =>
          match nextQ s.heap (s.ev x).strip.2 with
          | some (id,mv,seen,n,es)=>g=true∧(s.ev x).strip.1∧n=es.length∧((∀ j,j<es.length→j∈seen)→K (s.put o.dst (.tup [.d (.bool false)]))) ∧
              ∀ j p,es[j]? = some p→j ∉ seen→K ({ s with heap:=s.heap.set id (.it mv (seen++[j]) n) }.put o.dst (.tup [.d (.bool true),p.1,p.2]))
          | none=>offVC P o g s K
        | .binOp op t x y _=>nilVC P o (nilQ P t (nilCmp op y) (s.ev x).strip.2) (s.ev x).strip.1 g s K
        | _=>offVC P o g s K

theorem Sim.put {B:Base} {s:St} {a:Act} {w:World} {E:Env} {F:Nat→Prop} (hs:Sim B s a w E F) {dst:Option Tmp} {x:V} {v:Value} (hx:VR E F w x v)
    (hd:∀ d,dst=some d→d<a.tmps.size) : Sim B (s.put dst x) (a.put dst v) w E F:=by
  cases dst with
  | none=>exact hs
  | some d =>
    have hh:(s.put (some d) x).heap=s.heap:=rfl
    refine ⟨⟨hs.rel.os,hs.rel.tape,hs.rel.output,hs.rel.size,hs.rel.F0,hs.rel.only,hs.rel.same,hs.rel.lt,hs.rel.hr,hs.rel.src,hs.rel.keep,hs.rel.sz⟩,hs.defers,fun i y hy => ?_⟩
    simp only [St.put,tget_tput] at hy
    have hlt:=hd d rfl
    simp only [Act.put]
    by_cases hi:i=d
    · subst hi
      simp at hy
      subst hy
      exact ⟨v,by simp [hlt],hx⟩
    · rw [if_neg hi] at hy
      obtain ⟨u,hu,hr⟩:=hs.tm i y hy
      exact ⟨u,by rw [Array.getElem?_setIfInBounds_ne (Ne.symm hi)]; exact hu,hr⟩

def kindQ:Op→Bool
  | .alloc _=>false
  | .makeMap .. => false
  | .mapUpdate .. => false
  | .insert .. => false
  | .mapEntry .. => false
  | .entryStore .. => false
  | .range .. => false
  | .next .. => false
  | .box .. => false
  | .buildSlice .. => false
  | .makeSlice .. => false
  | .store .. => false
  | .call c=>match c.callee with
    | .builtin .len=>true
    | .builtin .max=>true
    | .builtin .min=>true
    | _=>false
  | _=>true

theorem opE_kind {P:Program} {kp:List Nat} {s:St} {op:Op} {r:Prop × V × St} (h:opE P kp s op=some r) : kindQ op=false:=by
  unfold opE at h
  split at h <;> first | rfl | skip
  · split at h
    · rename_i hc _ _; simp [kindQ,hc]
    · cases h
  · cases h

theorem op_sound {P:Program} {B:Base} {s:St} {a:Act} {w:World} {E:Env} {F:Nat→Prop} {ops:Array Oper} {o:Oper} {K:St→Prop} {Q:Exit→Act→World→Prop}
    (hs:Sim B s a w E F) (hd:∀ d,o.dst=some d→d<a.tmps.size) (h:OpVC P B.keep ops o s K) :
    (∃ v s',K s'∧Sim B s' (a.put o.dst v) w E F∧((Region.wanted o (yielded ops a.tmps)=true∧∀ w',Keep w w'→(execOp a.eval o).run P w'=.ok (.value v) w')∨(Region.wanted o (yielded ops a.tmps)=false∧v=undef))) ∨
    (kindQ o.op=false ∧
      ((Region.wanted o (yielded ops a.tmps)=true∧o.wp P a w (fun a' w'=>(kindT o.op=true∨Keep w w')∧∃ v s' E' F',a'=a.put o.dst v∧K s'∧Sim B s' a' w' E' F') Q) ∨
       (Region.wanted o (yielded ops a.tmps)=false∧∃ s' F',K s'∧Sim B s' (a.put o.dst undef) w E F'))):=by
  unfold OpVC at h
  split at h
  · exact h.elim
  rename_i g hg
  have hw:=guardOf_sound hs hg
  split at h
  · rename_i ob x hq
    obtain ⟨h1,h2⟩:=h
    refine .inl ?_
    cases g with
    | true =>
      obtain ⟨v,hv,hrun⟩:=opR_sound hq (h1 rfl).1 hs o rfl
      refine ⟨v,_,h2,Sim.put hs ?_ hd,.inl ⟨hw,hrun⟩⟩
      split
      · exact .opt _ _ _ (fun _=>V.strip_sound hv ((h1 rfl).2 (by assumption))) (by simp)
      · exact hv
    | false =>
      refine ⟨undef,_,h2,Sim.put hs ?_ hd,.inr ⟨hw,rfl⟩⟩
      split
      · exact .opt _ _ _ (by simp) (fun _=>rfl)
      · rename_i hn
        unfold St.guardOf at hg
        cases hgd:o.guard with
        | none=>rw [hgd] at hg; simp at hg
        | some p=>rw [hgd] at hn; simp at hn
  · rename_i hq
    split at h
    · rename_i ob x s' he
      refine .inr ⟨opE_kind he,?_⟩
      cases g with
      | false=>exact .inr ⟨hw,_,F,h,Sim.put hs (.opt _ _ _ (by simp) (fun _=>rfl)) hd⟩
      | true =>
      obtain ⟨h1,h2⟩:=h
      refine .inl ⟨hw,?_⟩
      obtain ⟨r,w',E',F',hkk,hrun,hs',hx⟩:=opE_sound he h1 hs o rfl
      unfold Oper.wp
      rcases hrun with hrun | ⟨hrun,rfl⟩
      · rw [hrun]
        exact ⟨hkk,r,_,E',F',rfl,h2,Sim.put hs' hx hd⟩
      · rw [hrun]
        exact ⟨hkk,undef,_,E',F',rfl,h2,Sim.put hs' hx hd⟩
    · rename_i he
      have off:offVC P o g s K→(∃ v s',K s'∧Sim B s' (a.put o.dst v) w E F∧((Region.wanted o (yielded ops a.tmps)=true∧∀ w',Keep w w'→(execOp a.eval o).run P w'=.ok (.value v) w')∨(Region.wanted o (yielded ops a.tmps)=false∧v=undef))) ∨
          (kindQ o.op=false ∧
            ((Region.wanted o (yielded ops a.tmps)=true∧o.wp P a w (fun a' w'=>(kindT o.op=true∨Keep w w')∧∃ v s' E' F',a'=a.put o.dst v∧K s'∧Sim B s' a' w' E' F') Q) ∨
             (Region.wanted o (yielded ops a.tmps)=false∧∃ s' F',K s'∧Sim B s' (a.put o.dst undef) w E F'))):=fun h=>by
        cases g with
        | true=>exact h.elim
        | false=>exact .inl ⟨undef,_,h,Sim.put hs (.opt _ _ _ (by simp) (fun _=>rfl)) hd,.inr ⟨hw,rfl⟩⟩
      split at h
      · rename_i c hc
        dsimp only at h
        obtain ⟨F1,hs1⟩:=settle_sim (callOps c) s F hs
        generalize s.settle (callOps c)=s1 at h hs1
        split at h
        · rename_i p f args hT
          split at h
          · rename_i ds hds
            refine .inr ⟨by rw [hc]; unfold callT at hT; cases hcc:c.callee <;> simp_all [kindQ],?_⟩
            obtain ⟨hp,h⟩:=h
            -- the model's target
            have hrun:∀ R,PC P f ds R→p→∃ cargs,(execOp a.eval o).run P w=.ok (.enter f cargs) w∧CR [] F1 w (ds.map ofD) cargs:=by
              intro R hpc hp
              obtain ⟨fn,hfn,hnm,hbd⟩:=hpc.1
              have hcf:∀ cargs,(callFunc f cargs).run P w=.ok (.enter f cargs) w:=fun cargs=>by
                simp only [callFunc,Sem.run_bind,run_program,Result.andThen_ok,hfn,hnm,hbd,Bool.false_eq_true,if_false]
                rfl
              unfold callT at hT
              split at hT
              · rename_i fo hcal
                have fin:∀ (caps:List V) (cv:Array Value),a.eval fo=.func (.func f) #[] cv→cv.size=caps.length →
                    (∀ (j:Nat) (x:V) (v:Value),caps[j]? = some x→cv[j]? = some v→VR E F1 w x v)→(stripAll s1 c.args.toList).1→args=(stripAll s1 c.args.toList).2++caps →
                    ∃ cargs,(execOp a.eval o).run P w=.ok (.enter f cargs) w∧CR [] F1 w (ds.map ofD) cargs:=by
                  intro caps cv hf hcs hcr hst hargs
                  subst hargs
                  obtain ⟨q1,q2⟩:=stripAll_sound hs1 c.args.toList hst
                  refine ⟨(c.args.map a.eval)++cv,?_,?_⟩
                  · simp [execOp,hc,resolve,hcal,hf,Deferred.ofValue,invoke,hcf]
                  · have:=dVs_sound (E:=E) (E':=[]) (F:=F1) (w:=w) (vs:=c.args.toList.map a.eval++cv.toList) hds (by simp [q1,hcs]) (fun j x v hx hv=>by
                      rw [List.getElem?_append] at hx hv
                      rw [q1] at hx
                      simp only [List.length_map] at hv
                      split at hx
                      · rename_i hj
                        rw [if_pos hj] at hv
                        exact q2 j x v hx hv
                      · rename_i hj
                        rw [if_neg hj] at hv
                        exact hcr _ x v hx (by simpa using hv))
                    have e:(c.args.toList.map a.eval++cv.toList).toArray=c.args.map a.eval++cv:=by
                      apply Array.ext'; simp
                    rwa [e] at this
                have e0:=ev_sound hs1 fo
                split at hT
                · rename_i f' caps hfo
                  simp only [Option.some.injEq,Prod.mk.injEq] at hT
                  obtain ⟨rfl,rfl,rfl⟩:=hT
                  have e1:=V.strip_sound e0 hp.1
                  rw [hfo] at e1
                  generalize hv:a.eval fo=v at e1
                  cases e1 with
                  | d _ _ hd' =>
                    cases hd' with
                    | fn _ _ cs hss hrr =>
                      refine fin (caps.map .d) cs hv (by simpa using hss) (fun j x v hx hv => ?_) hp.2 rfl
                      simp only [List.getElem?_map,Option.map_eq_some_iff] at hx
                      obtain ⟨y,hy,rfl⟩:=hx
                      exact .d _ _ (hrr j y v hy hv)
                · rename_i f' caps hfo
                  simp only [Option.some.injEq,Prod.mk.injEq] at hT
                  obtain ⟨rfl,rfl,rfl⟩:=hT
                  have e1:=V.strip_sound e0 hp.1
                  rw [hfo] at e1
                  generalize hv:a.eval fo=v at e1
                  cases e1 with
                  | fn _ _ cs hss hrr=>exact fin caps cs hv hss hrr hp.2 rfl
                · cases hT
              · cases hT
            have go:∀ R,PC P f ds R→p→∀ (x1:V→V),(∀ x H,R x H→K ({ s1 with heap:=s1.heap++heapSh s1.heap.length H }.put o.dst ((x1 x).sh s1.heap.length))) →
                (∀ x E F w v,VR E F w x v→VR E F w (x1 x) v)→Region.wanted o (yielded ops a.tmps)=true →
                o.wp P a w (fun a' w'=>(kindT o.op=true∨Keep w w')∧∃ v s' E' F',a'=a.put o.dst v∧K s'∧Sim B s' a' w' E' F') Q:=by
              intro R hpc hp x1 hK hx1 hwt
              obtain ⟨cargs,hrun,hcr⟩:=hrun R hpc hp
              have hcalls:=hpc.2 w cargs [] F1 ⟨rfl,by simp,by simp,by simp⟩ hs1.rel.lt (by simp) hcr
              unfold Oper.wp
              rw [hrun]
              refine hcalls.mono ?_
              rintro e w' ⟨v,x,H',E',F',rfl,hR,hrel,hx⟩
              obtain ⟨m1,m2,m3⟩:=merge hs1 hrel hx
              refine ⟨.inr m3,v,_,E++E',F',rfl,hK x H' hR,Sim.put m1 ?_ hd⟩
              have:=hx1 x E' F' w' v hx
              obtain ⟨_,m4,_⟩:=merge hs1 hrel this
              exact m4
            rcases h with ⟨rfl,R,hpc,hK⟩ | ⟨hgd,x0,hpc,hK⟩
            · exact .inl ⟨hw,go R hpc (hp rfl) id hK (fun _ _ _ _ _ h=>h) hw⟩
            · cases g with
              | true =>
                refine .inl ⟨hw,go _ (hpc rfl) (hp rfl) (.opt true) ?_ (fun x E F w v h=>.opt _ _ _ (fun _=>h) (by simp)) hw⟩
                rintro x H ⟨rfl,rfl⟩
                exact hK
              | false =>
                refine .inr ⟨hw,_,F1,hK,?_⟩
                refine Sim.put (s:={ s1 with heap:=s1.heap++heapSh s1.heap.length [] }) ?_ (.opt _ _ _ (by simp) (fun _=>rfl)) hd
                simpa [heapSh] using hs1
          · exact off h
        · exact off h
      · rename_i x hc
        split at h
        · rename_i id mv seen n es hnx
          refine .inr ⟨by rw [hc]; rfl,.inl ?_⟩
          obtain ⟨rfl,hp,hn,hend,hmore⟩:=h
          refine ⟨hw,?_⟩
          have hx:=V.strip_sound (ev_sound hs x) hp
          unfold Oper.wp
          rcases nextQ_sound (P:=P) o.type hnx hn hs.rel hx with ⟨g1,g2⟩ | ⟨j,p,hj,hns,r,w',hrun,h1,h2,h3⟩
          · have hrun:(execOp a.eval o).run P w=.ok (.value (.tuple #[.bool false])) w:=by simp [execOp,hc,g2]
            rw [hrun]
            refine ⟨.inr (Keep.refl w),_,_,E,F,rfl,hend g1,Sim.put hs ?_ hd⟩
            refine .tup _ _ rfl fun j u v hu hv => ?_
            match j with
            | 0=>simp at hu hv; subst hu hv; exact .d _ _ (.bool false)
            | j+1=>simp at hu
          · have hrun:(execOp a.eval o).run P w=.ok (.value r) w':=by simp [execOp,hc,hrun]
            rw [hrun]
            exact ⟨.inl (by rw [hc]; rfl),_,_,E,F,rfl,hmore j p hj hns,Sim.put (hs.evo h1 h2 rfl) h3 hd⟩
        · exact off h
      · rename_i op t x y t2 hc
        cases hq:nilQ P t (nilCmp op y) (s.ev x).strip.2 with
        | none=>rw [hq] at h; exact off h
        | some q =>
          rw [hq] at h
          obtain ⟨b,n⟩:=q
          cases g with
          | false=>exact off h
          | true =>
            obtain ⟨hp,h1,h2⟩:=h
            obtain ⟨r,hr,hrun⟩:=nilQ_sound hq (V.strip_sound (ev_sound hs x) hp)
            refine .inl ⟨.bool r,s.put o.dst (.d (.bool r)),?_,Sim.put hs (.d _ _ (.bool r)) hd,.inl ⟨hw,fun w' _=>by simp [execOp,hc,(hrun a x w').1,(hrun a x w').2]⟩⟩
            rcases hr with rfl | ⟨h0,rfl⟩
            · exact h1
            · exact h2 h0
      · exact off h

end Go.Aw
