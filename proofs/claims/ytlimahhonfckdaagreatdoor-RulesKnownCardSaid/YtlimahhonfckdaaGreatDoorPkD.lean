/-
  Texts of the library,one behind the other. Over any program; no condition.
-/
import Derived.ProofKit
import Derived.Carry
import Derived.Deep.Strs
import Derived.Test.YtlimahhonfckdaaGreatDoorProg
import Derived.KernelRfl
import Derived.RangeFuncKeeps
import Derived.RangeFuncRecord
import Derived.Sort.Row
import Derived.Sort.Grow
import Derived.Test.YtlimahhonfckdaaGreatDoorPkY
import Derived.Test.YtlimahhonfckdaaGreatDoorPkC
namespace Go.Aw
set_option linter.unusedSimpArgs false
set_option linter.unusedVariables false
open Go.RowKit

inductive Deep (H:List Blk) : V→D→Prop where
  | d (x:D) : Deep H (.d x) x
  | nil:Deep H .nil (.sl [])
  | data (id off len k:Nat) (rows:List (List D)) (h:H[id]? = some (.data k rows)) (hl:off+len≤rows.length) : Deep H (.ref id off len) (.sl ((rows.drop off).take len))
  | vrs (id k:Nat) (rs:List (List V)) (ds:List (List D)) (h:H[id]? = some (.vrs k rs)) (hl:ds.length=rs.length) (hk:∀ (i:Nat) (row:List D),ds[i]? = some row→row.length=k)
      (hr:∀ (i:Nat) (row:List V) (drow:List D) (j:Nat) (x:V) (y:D),rs[i]? = some row→ds[i]? = some drow→row[j]? = some x→drow[j]? = some y→Deep H x y) : Deep H (.ref id 0 rs.length) (.sl ds)
  | agg (xs:List V) (ds:List D) (hl:ds.length=xs.length) (hr:∀ (j:Nat) (x:V) (y:D),xs[j]? = some x→ds[j]? = some y→Deep H x y) : Deep H (.agg xs) (.agg ds)
  | tup (xs:List V) (ds:List D) (hl:ds.length=xs.length) (hr:∀ (j:Nat) (x:V) (y:D),xs[j]? = some x→ds[j]? = some y→Deep H x y) : Deep H (.tup xs) (.tup ds)

def allF (E:Env) (F:Nat→Prop) (H:List Blk) (b:Nat) : Prop:=F b∨own E H b

theorem deep_sound {E:Env} {F:Nat→Prop} {w:World} {H:List Blk} (hr:HR E F w H) {x:V} {d:D} (h:Deep H x d) : ∀ {v:Value},VR E F w x v→RD (allF E F H) w d v:=by
  have up:∀ {d:D} {v:Value},RD F w d v→RD (allF E F H) w d v:=fun h=>h.evo (fun _ h=>.inl h) (fun _ _=>rfl)
  induction h with
  | d x=>intro v hv; cases hv with | d _ _ h=>exact up h
  | nil=>intro v hv; cases hv with | nil a=>exact .sl0 a 0
  | data id off len k rows hH hl =>
    intro v hv
    cases hv with
    | ref _ _ _ b k' m a cap n hE hm ha hlc hb hc =>
      obtain ⟨h1,h2,h3,h4⟩:=hr.blk _ _ _ hE hH
      dsimp only at h1 h2
      subst h1
      rcases Nat.eq_zero_or_pos len with h0 | hpos
      · subst h0
        rw [List.take_zero]
        exact .sl0 a cap
      · rcases h4 with ⟨h4,_⟩ | ⟨b',cs,t,h4,hw,hsz,hcell⟩
        · cases h4
        · simp only [Option.some.injEq] at h4
          subst h4
          have hlen:((rows.drop off).take len).length=len:=by simp; omega
          rw [ha (.inl hpos)]
          have hget:∀ (i:Nat) (row:List D),((rows.drop off).take len)[i]? = some row→i<len∧rows[off+i]? = some row:=fun i row hi=>by
            have hlt:=(List.getElem?_eq_some_iff.1 hi).1
            rw [hlen] at hlt
            rw [List.getElem?_take_of_lt hlt,List.getElem?_drop] at hi
            exact ⟨hlt,hi⟩
          have:=RD.sl (F:=allF E F H) (w:=w) b (off*k') cap k' ((rows.drop off).take len) (fun i j=>(w.cell? ⟨b,off*k'+(i*k'+j),none⟩).getD undef) (by omega) (.inr ⟨id,_,_,hE,hH,rfl,rfl⟩)
            (fun i row hi=>(h3 _ _ (hget i row hi).2).1)
            (fun i j hi hj=>by
              have hi':off+i<rows.length:=by omega
              obtain ⟨v,hv,_⟩:=hcell (off+i) rows[off+i] j (rows[off+i][j]'(by rw [(h3 _ _ (List.getElem?_eq_getElem hi')).1]; exact hj)) (List.getElem?_eq_getElem hi') (List.getElem?_eq_getElem _)
              have:w.cell? ⟨b,off*k'+(i*k'+j),none⟩=some v:=by
                rw [show off*k'+(i*k'+j)=(off+i)*k'+j by rw [Nat.add_mul]; omega]
                simp [World.cell?,hw,hv]
              rw [this]; rfl)
            (fun i row j x hi hj=>by
              obtain ⟨hi1,hi2⟩:=hget i row hi
              obtain ⟨v,hv,hd⟩:=hcell (off+i) row j x hi2 hj
              have:w.cell? ⟨b,off*k'+(i*k'+j),none⟩=some v:=by
                rw [show off*k'+(i*k'+j)=(off+i)*k'+j by rw [Nat.add_mul]; omega]
                simp [World.cell?,hw,hv]
              rw [this]
              exact up hd)
          rwa [hlen] at this
    | refv _ k' m a hE =>
      rw [List.take_zero]
      exact .sl0 a 0
  | vrs id k rs ds hH hl hk hrr ih =>
    intro v hv
    generalize hn:rs.length=len at hv
    cases hv with
    | ref _ _ _ b k' m a cap n hE hm ha hlc hb hc =>
      obtain ⟨h1,h2,h3,h4⟩:=hr.blk _ _ _ hE hH
      dsimp only at h1 h2
      subst h1
      rcases Nat.eq_zero_or_pos len with h0 | hpos
      · have:ds=[]:=List.eq_nil_of_length_eq_zero (by omega)
        subst this
        rw [h0]
        exact .sl0 a cap
      · rcases h4 with ⟨h4,_⟩ | ⟨b',cs,t,h4,hw,hsz,hcell⟩
        · cases h4
        · simp only [Option.some.injEq] at h4
          subst h4
          rw [ha (.inl hpos)]
          have:=RD.sl (F:=allF E F H) (w:=w) b (0*k') cap k' ds (fun i j=>(w.cell? ⟨b,0*k'+(i*k'+j),none⟩).getD undef) (by omega) (.inr ⟨id,_,_,hE,hH,rfl,rfl⟩) hk
            (fun i j hi hj=>by
              have hi':i<rs.length:=by omega
              obtain ⟨v,hv,_⟩:=hcell i rs[i] j (rs[i][j]'(by rw [h3 _ _ (List.getElem?_eq_getElem hi')]; exact hj)) (List.getElem?_eq_getElem hi') (List.getElem?_eq_getElem _)
              have:w.cell? ⟨b,0*k'+(i*k'+j),none⟩=some v:=by simp [World.cell?,hw,hv]
              rw [this]; rfl)
            (fun i row j y hi hj=>by
              have hi':i<rs.length:=by have:=(List.getElem?_eq_some_iff.1 hi).1; omega
              have hj':j<rs[i].length:=by
                have e1:=(List.getElem?_eq_some_iff.1 hj).1
                rw [h3 _ _ (List.getElem?_eq_getElem hi')]
                have e2:=hk i row hi
                omega
              obtain ⟨v,hv,_,hd⟩:=hcell i rs[i] j rs[i][j] (List.getElem?_eq_getElem hi') (List.getElem?_eq_getElem hj')
              have:w.cell? ⟨b,0*k'+(i*k'+j),none⟩=some v:=by simp [World.cell?,hw,hv]
              rw [this]
              exact ih i rs[i] row j rs[i][j] y (List.getElem?_eq_getElem hi') hi (List.getElem?_eq_getElem hj') hj hd)
          rw [show ds.length=len by omega] at this
          exact this
    | refv _ k' m a hE =>
      have:ds=[]:=List.eq_nil_of_length_eq_zero (by omega)
      subst this
      exact .sl0 a 0
  | agg xs ds hl hrr ih =>
    intro v hv
    cases hv with
    | agg _ cs hs hr' =>
      refine .agg ds cs (by omega) fun j y v hy hv => ?_
      have hj:j<xs.length:=by have:=(List.getElem?_eq_some_iff.1 hy).1; omega
      exact ih j xs[j] y (List.getElem?_eq_getElem hj) hy (hr' j _ v (List.getElem?_eq_getElem hj) hv)
  | tup xs ds hl hrr ih =>
    intro v hv
    cases hv with
    | tup _ cs hs hr' =>
      refine .tup ds cs (by omega) fun j y v hy hv => ?_
      have hj:j<xs.length:=by have:=(List.getElem?_eq_some_iff.1 hy).1; omega
      exact ih j xs[j] y (List.getElem?_eq_getElem hj) hy (hr' j _ v (List.getElem?_eq_getElem hj) hv)

theorem AC.deep {P:Program} {f:FuncId} {args:List V} {H:List Blk} {R:V→List Blk→Prop} {R':V→List Blk→Prop} (h:AC P f args H [] R) (hR:∀ x H',R x H'→∃ d,Deep H' x d∧R' (ofD d) []) : AC P f args H [] R':=by
  refine ⟨h.1,fun w cargs E F h1 h2 h3 h4=>(h.2 w cargs E F h1 h2 h3 h4).mono ?_⟩
  rintro e w' ⟨v,x,H',E',F',q1,q2,q3,q4⟩
  obtain ⟨d,r1,r2⟩:=hR x H' q2
  have hd:=deep_sound q3.hr r1 q4
  refine ⟨v,ofD d,[],[],allF E' F' H',q1,r2,⟨q3.os,q3.tape,q3.output,q3.size,fun b hb=>.inl (q3.F0 b hb),?_,q3.same,?_,⟨rfl,by simp,by simp,by simp⟩,by simp,by simp,q3.sz⟩,ofD_sound hd⟩
  · rintro b (hb | ⟨id,e,blk,g1,g2,g3,g4⟩)
    · exact q3.only b hb
    · exact .inr (q3.src id b e blk g1 g2 g3 g4)
  · refine q3.lt.evo (fun _ h=>.inl h) (fun _ _=>rfl) ?_
    rintro b (hb | ⟨id,e,blk,g1,g2,g3,g4⟩)
    · exact q3.lt b hb
    · exact (q3.hr.free id b e blk g1 g4 g2 g3).1

theorem pdd_of {P:Program} {f:FuncId} {fn:Func} {c:Code} {args:List D} {d0:D} (rs:List ResultVar) (hf:P.funcs[f]? = some fn) (hb:fn.body=some c)
    (hnm : (fn.name == "runtime.NumGoroutine") = false) (hn : (args.map ofD).length ≤ fn.ntmps) (hok : codeOk fn.ntmps c = true) (hrs : fn.results.toList = rs)
    (h:AWP P [] fn.ntmps c ⟨argTm 0 (args.map ofD),[]⟩ (Fin P rs fun x H=>Deep H x d0)) : PD P f args (ofD d0):=by
  subst hrs
  exact AC.deep (R:=fun x H=>Deep H x d0) (ac_of hf hb hnm hn hok h) fun x H' hh=>⟨d0,hh,rfl,rfl⟩

end Go.Aw

namespace Go.Aw
set_option linter.unusedSimpArgs false
set_option linter.unusedVariables false
open Go.ChangeShapes Go.WideShapes Go.ChangeAt Go.RowKit

inductive Ty where
  | int (k:IntKind)
  | bool
  | str
  | sl (e:Ty)
  | st (fs:Ty)
  | unit
  | pair (a b:Ty)
  | arr (n:Nat) (e:Ty)

inductive Fits:Ty→List D→Prop
  | int (k:IntKind) (n:Int) (h:(Lit.int k n).wf=true) : Fits (.int k) [.int k n]
  | bool (b:Bool) : Fits .bool [.bool b]
  | str (s:ByteArray) (h:s.size≤reachBytes) : Fits .str [.str s]
  | sl (e:Ty) (rows:List (List D)) (hl:rows.length≤reachBytes) (h:∀ row,row∈rows→Fits e row) : Fits (.sl e) [.sl rows]
  | st (fs:Ty) (xs:List D) (h:Fits fs xs) : Fits (.st fs) xs
  | unit:Fits .unit []
  | pair (a b:Ty) (xs ys:List D) (h:Fits a xs) (h':Fits b ys) : Fits (.pair a b) (xs++ys)
  | arr0 (e:Ty) : Fits (.arr 0 e) []
  | arrS (n:Nat) (e:Ty) (xs ys:List D) (h:Fits e xs) (h':Fits (.arr n e) ys) : Fits (.arr (n+1) e) (xs++ys)

def Ty.is (P:Program) : Ty→TypeId ⊕ (List Field × Nat × Nat)→Bool
  | .int k,.inl t=>match P.underlying t with
    | some (.int k')=>k'==k
    | _=>false
  | .bool,.inl t=>match P.underlying t with
    | some .bool=>true
    | _=>false
  | .str,.inl t=>match P.underlying t with
    | some .string=>true
    | _=>false
  | .sl e,.inl t=>match P.underlying t with
    | some (.slice e')=>e.is P (.inl e')&&decide (0<P.cellsOf e')&&decide (0<P.bytesOf e')
    | _=>false
  | .st fs,.inl t=>match P.underlying t with
    | some (.struct f)=>fs.is P (.inr (f.toList,0,P.cellsOf t))
    | _=>false
  | .arr n e,.inl t=>match P.underlying t with
    | some (.array n' e')=>n'==n&&e.is P (.inl e')&&P.cellsOf t==n*P.cellsOf e'
    | _=>false
  | .unit,.inr ([],off,tot)=>off==tot
  | .pair a b,.inr (f::r,off,tot)=>f.offset==off&&a.is P (.inl f.type)&&b.is P (.inr (r,off+P.cellsOf f.type,tot))
  | _,_=>false

def CRL (W:World) (xs:List D) (cs:List Value) : Prop:=∀ (j:Nat) (x:D) (v:Value),xs[j]? = some x→cs[j]? = some v→RD (fun b=>b<W.heap.size) W x v

theorem CRL.app {W:World} {xs ys:List D} {cs:List Value} {k:Nat} (h1:CRL W xs (cs.take k)) (l1:xs.length=(cs.take k).length) (h2:CRL W ys (cs.drop k)) (l2:ys.length=(cs.drop k).length) :
    CRL W (xs++ys) cs∧(xs++ys).length=cs.length:=by
  have hs:cs=cs.take k++cs.drop k:=(List.take_append_drop k cs).symm
  constructor
  · intro j x v hx hv
    rw [hs] at hv
    rw [List.getElem?_append] at hx hv
    rw [l1] at hx
    split at hx
    · rename_i hj
      rw [if_pos hj] at hv
      exact h1 j x v hx hv
    · rename_i hj
      rw [if_neg hj] at hv
      exact h2 _ x v hx hv
  · rw [List.length_append,l1,l2,← List.length_append,← hs]

theorem mapM_get {α β:Type} {f:α→Option β} : ∀ {l:List α} {m:List β},l.mapM f=some m→m.length=l.length∧∀ (i:Nat) (x:α),l[i]? = some x→∃ y,f x=some y∧m[i]? = some y
  | [],m,h=>by simp at h; subst h; simp
  | a::l,m,h=>by
    rw [List.mapM_cons] at h
    cases ha:f a with
    | none=>simp [ha] at h
    | some y =>
      cases hl:l.mapM f with
      | none=>simp [ha,hl] at h
      | some ys =>
        simp [ha,hl] at h
        subst h
        obtain ⟨h1,h2⟩:=mapM_get hl
        refine ⟨by simp [h1],fun i x hx => ?_⟩
        cases i with
        | zero=>simp at hx; subst hx; exact ⟨y,ha,rfl⟩
        | succ i=>simpa using h2 i x (by simpa using hx)

theorem trod_arr {e:Ty} {W:World} {k:Nat} : ∀ (n:Nat) (cs:List Value),cs.length=n*k →
    (∀ i,i<n→∃ xs,Fits e xs∧xs.length=((cs.drop (i*k)).take k).length∧CRL W xs ((cs.drop (i*k)).take k))→∃ xs,Fits (.arr n e) xs∧xs.length=cs.length∧CRL W xs cs
  | 0,cs,hl,h=>by
    have:cs=[]:=List.eq_nil_of_length_eq_zero (by omega)
    subst this
    exact ⟨[],.arr0 e,rfl,fun j x v hx=>by simp at hx⟩
  | n+1,cs,hl,h=>by
    obtain ⟨xs,h1,h2,h3⟩:=h 0 (by omega)
    simp only [Nat.zero_mul,List.drop_zero] at h2 h3
    have hl':cs.length=n*k+k:=by rw [hl,Nat.add_mul,Nat.one_mul]
    obtain ⟨ys,q1,q2,q3⟩:=trod_arr (e:=e) (W:=W) (k:=k) n (cs.drop k) (by rw [List.length_drop]; omega) (fun i hi=>by
      have:=h (i+1) (by omega)
      rw [List.drop_drop]
      rwa [show k+i*k=(i+1)*k by rw [Nat.add_mul]; omega])
    obtain ⟨c1,c2⟩:=CRL.app h3 h2 q3 q2
    exact ⟨xs++ys,.arrS n e xs ys h1 q1,c2,c1⟩

theorem add_spot0 (b off n:Nat) : (⟨b,off,none⟩ : Addr).add n=⟨b,off+n,none⟩:=by
  simp [Addr.add]

section
variable {H:Type} {enc:TypeId × Value→H} {P:Program} {W:World} {sp:Nat→Bool} {hd:Bool}

def fitsB (l:List Nat) : Prop:=l.all (·≤reachBytes)=true
theorem fitsB_app {l m:List Nat} (h:fitsB (l++m)) : fitsB l∧fitsB m:=by
  unfold fitsB at h ⊢
  rw [List.all_append,Bool.and_eq_true] at h
  exact h
theorem weights_mem {e:TypeId} : ∀ {ds:List (DataW H)} {d:DataW H},fitsB (DataW.weightsAll P e ds)→d∈ds→fitsB (d.weights P e)
  | [],d,_,h=>by cases h
  | c::ds,d,hw,h=>by
    rw [DataW.weightsAll] at hw
    rcases List.mem_cons.1 h with rfl | h
    · exact (fitsB_app hw).1
    · exact weights_mem (fitsB_app hw).2 h
theorem weights_app:∀ {ts us:List TypeId} {ds gs:List (DataW H)},ds.length=ts.length→fitsB (DataW.weightsEach P (ts++us) (ds++gs))→fitsB (DataW.weightsEach P ts ds)
  | [],us,ds,gs,h,hw=>by
    obtain rfl:ds=[]:=List.eq_nil_of_length_eq_zero h
    rfl
  | t::ts,us,[],gs,h,hw=>by simp at h
  | t::ts,us,d::ds,gs,h,hw=>by
    rw [List.cons_append,List.cons_append,DataW.weightsEach] at hw
    rw [DataW.weightsEach]
    have h1:=(fitsB_app hw).1
    have h2:=weights_app (by simpa using h) (fitsB_app hw).2
    unfold fitsB at h1 h2 ⊢
    rw [List.all_append,h1,h2]
    rfl

theorem rd_is:∀ (ty:Ty) (fuel:Nat),
    (∀ (t:TypeId) (cs:List Value) (x:DataW H × List MemPlace),ty.is P (.inl t)=true→fitsB (x.1.weights P t)→DataW.trod enc P W 0 sp hd fuel t cs=some x→∃ xs,Fits ty xs∧xs.length=cs.length∧CRL W xs cs) ∧
    (∀ (fs:List Field) (off tot:Nat) (cs:List Value) (l:List (DataW H × List MemPlace)),ty.is P (.inr (fs,off,tot))=true→fitsB (DataW.weightsEach P (fs.map (·.type)) (l.map (·.1)))→cs.length=tot →
      fs.mapM (fun f=>DataW.trod enc P W 0 sp hd fuel f.type ((cs.drop f.offset).take (P.cellsOf f.type)))=some l→∃ xs,Fits ty xs∧xs.length=(cs.drop off).length∧CRL W xs (cs.drop off)):=by
  intro ty
  induction ty with
  | int k =>
    intro fuel
    refine ⟨fun t cs x hty hw h => ?_,fun fs off tot cs l hty=>by simp [Ty.is] at hty⟩
    simp only [Ty.is] at hty
    split at hty
    · rename_i k' hu
      have hk:k'=k:=by simpa using hty
      subst hk
      obtain ⟨x0,e0,_,e2⟩:=DataW.trod_int hu h
      subst e0
      refine ⟨[.int k' x0],.int _ _ ?_,rfl,fun j y v hy hv => ?_⟩
      · cases fuel with
        | zero=>simp [DataW.trod] at h
        | succ n =>
          simp only [DataW.trod,hu] at h
          split at h
          · rename_i hh; exact hh.2
          · cases h
      · match j with
        | 0=>simp at hy hv; subst hy hv; exact .int _ _
        | j+1=>simp at hy
    · cases hty
  | bool =>
    intro fuel
    refine ⟨fun t cs x hty hw h => ?_,fun fs off tot cs l hty=>by simp [Ty.is] at hty⟩
    simp only [Ty.is] at hty
    split at hty
    · rename_i hu
      cases fuel with
      | zero=>simp [DataW.trod] at h
      | succ n =>
        unfold DataW.trod at h
        rw [hu] at h
        split at h <;> first | (rename_i h1 _; cases h1; done) | skip
        all_goals try (simp at *; done)
        rename_i b h1
        refine ⟨[.bool b],.bool b,rfl,fun j y v hy hv => ?_⟩
        match j with
        | 0=>simp at hy hv; subst hy hv; exact .bool _
        | j+1=>simp at hy
    · cases hty
  | str =>
    intro fuel
    refine ⟨fun t cs x hty hw h => ?_,fun fs off tot cs l hty=>by simp [Ty.is] at hty⟩
    simp only [Ty.is] at hty
    split at hty
    · rename_i hu
      cases fuel with
      | zero=>simp [DataW.trod] at h
      | succ n =>
        unfold DataW.trod at h
        rw [hu] at h
        split at h <;> first | (rename_i h1 _; cases h1; done) | skip
        all_goals try (simp at *; done)
        rename_i s h1
        split at h
        · rename_i hsz
          have hsr:s.size≤reachBytes:=by
            have e:=Option.some.inj h
            rw [← e] at hw
            unfold fitsB at hw
            simpa [DataW.weights] using hw
          refine ⟨[.str s],.str s hsr,rfl,fun j y v hy hv => ?_⟩
          match j with
          | 0=>simp at hy hv; subst hy hv; exact .str _
          | j+1=>simp at hy
        · cases h
    · cases hty
  | sl e ih =>
    intro fuel
    refine ⟨fun t cs x hty hw h => ?_,fun fs off tot cs l hty=>by simp [Ty.is] at hty⟩
    simp only [Ty.is] at hty
    split at hty
    · rename_i e' hu
      simp only [Bool.and_eq_true,decide_eq_true_eq] at hty
      obtain ⟨⟨he,hk⟩,hby⟩:=hty
      rcases DataW.trod_slice hu h with ⟨rfl,_⟩ | ⟨a,len,cap,elems,rest,n,rfl,rfl,rfl,_,hl,hcap,hlen,hel,_⟩
      · refine ⟨[.sl []],.sl e [] (by simp) (by simp),rfl,fun j y v hy hv => ?_⟩
        match j with
        | 0=>simp at hy hv; subst hy hv; exact .sl0 _ _
        | j+1=>simp at hy
      · have hw2:(elems.length+rest.length)*P.bytesOf e'≤reachBytes∧fitsB (DataW.weightsAll P e' (elems.map (·.1))):=by
          unfold fitsB at hw ⊢
          simp only [DataW.weights,hu,List.all_cons,Bool.and_eq_true,List.all_append,decide_eq_true_eq,List.length_map] at hw
          exact ⟨hw.1,hw.2.1⟩
        have hlr:len≤reachBytes:=by
          have h1:=hw2.1
          have h2:(elems.length+rest.length)*1≤(elems.length+rest.length)*P.bytesOf e':=Nat.mul_le_mul_left _ hby
          omega
        have fin:∀ (rows:List (List D)),Fits (.sl e) [.sl rows]→RD (fun b=>b<W.heap.size) W (.sl rows) (.slice (some a) len cap)→∃ xs,Fits (.sl e) xs∧xs.length=[Value.slice (some a) len cap].length∧CRL W xs [Value.slice (some a) len cap]:=by
          intro rows h1 h2
          refine ⟨_,h1,rfl,fun j y v hy hv => ?_⟩
          match j with
          | 0=>simp at hy hv; subst hy hv; exact h2
          | j+1=>simp at hy
        rcases Nat.eq_zero_or_pos len with h0 | hpos
        · subst h0
          exact fin [] (.sl e [] (by simp) (by simp)) (.sl0 _ _)
        have hkk:∃ k,P.cellsOf e'=k∧0<k:=⟨_,rfl,hk⟩
        obtain ⟨k,hke,hk0⟩:=hkk
        rw [hke] at hel
        have row0:∀ i,i<len→∃ cs,W.cells? 0 (a.add (i*k)) k=some cs∧∃ y,elems[i]? = some y∧DataW.trod enc P W 0 sp hd n e' cs=some y:=by
          intro i hi
          have h2:=hel i hi
          rw [List.getElem?_eq_getElem (by omega),Option.bind_eq_some_iff] at h2
          obtain ⟨cs,hcs,ht⟩:=h2
          exact ⟨cs,hcs,_,List.getElem?_eq_getElem (by omega),ht⟩
        have hspot:a.spot=none:=by
          obtain ⟨cs,hcs,_⟩:=row0 0 hpos
          simp only [World.cells?,Nat.zero_le,if_true,Nat.zero_mul] at hcs
          obtain ⟨_,hg⟩:=mapM_get hcs
          obtain ⟨y,hy,_⟩:=hg 0 0 (by rw [List.getElem?_range hk0])
          simp only [Addr.add,if_true] at hy
          unfold World.cell? at hy
          split at hy
          · split at hy
            · cases hy
            · rename_i hs; simpa using hs
          · cases hy
        obtain ⟨b,off,spo⟩:=a
        simp only at hspot
        subst hspot
        have row1:∀ i,i<len→∃ xs,Fits e xs∧xs.length=k∧∀ j,j<k→∃ v,W.cell? ⟨b,off+(i*k+j),none⟩=some v∧∀ x,xs[j]? = some x→RD (fun b=>b<W.heap.size) W x v:=by
          intro i hi
          obtain ⟨cs,hcs,y,hye,hy⟩:=row0 i hi
          simp only [World.cells?,Nat.zero_le,if_true,add_spot0] at hcs
          obtain ⟨hl1,hg⟩:=mapM_get hcs
          rw [List.length_range] at hl1
          obtain ⟨xs,f1,f2,f3⟩:=(ih n).1 e' cs y he (weights_mem hw2.2 (List.mem_map.2 ⟨y,List.mem_of_getElem? hye,rfl⟩)) hy
          refine ⟨xs,f1,by omega,fun j hj => ?_⟩
          obtain ⟨v,hv,hm⟩:=hg j j (by rw [List.getElem?_range hj])
          refine ⟨v,?_,fun x hx=>f3 j x v hx hm⟩
          rw [← hv,Nat.add_assoc]
        have ex:∃ g:Nat→List D,∀ i,i<len→Fits e (g i)∧(g i).length=k∧∀ j,j<k→∃ v,W.cell? ⟨b,off+(i*k+j),none⟩=some v∧∀ x,(g i)[j]? = some x→RD (fun b=>b<W.heap.size) W x v :=
          ⟨fun i=>if h:i<len then (row1 i h).choose else [],fun i hi=>by simp only [hi,dif_pos]; exact (row1 i hi).choose_spec⟩
        obtain ⟨g,hg⟩:=ex
        have hb:b<W.heap.size:=by
          obtain ⟨_,_,h1⟩:=hg 0 hpos
          obtain ⟨v,hv,_⟩:=h1 0 hk0
          rcases Nat.lt_or_ge b W.heap.size with h | h
          · exact h
          · simp [World.cell?,Array.getElem?_eq_none h] at hv
        have hrow:∀ (i:Nat) (row:List D),((List.range len).map g)[i]? = some row→i<len∧row=g i:=fun i row hi=>by
          simp only [List.getElem?_map,Option.map_eq_some_iff] at hi
          obtain ⟨q,hq,rfl⟩:=hi
          rw [List.getElem?_eq_some_iff] at hq
          obtain ⟨h1,h2⟩:=hq
          simp at h1 h2
          subst h2
          exact ⟨h1,rfl⟩
        have hl':((List.range len).map g).length=len:=by simp
        have hrd:=RD.sl (F:=fun b=>b<W.heap.size) (w:=W) b off cap k ((List.range len).map g) (fun i j=>(W.cell? ⟨b,off+(i*k+j),none⟩).getD undef) (by rw [hl']; exact hl) hb
          (fun i row hi=>by obtain ⟨h1,rfl⟩:=hrow i row hi; exact (hg i h1).2.1)
          (fun i j hi hj=>by
            rw [hl'] at hi
            obtain ⟨v,hv,_⟩:=(hg i hi).2.2 j hj
            rw [hv]; rfl)
          (fun i row j x hi hj=>by
            obtain ⟨h1,rfl⟩:=hrow i row hi
            obtain ⟨_,h3,h4⟩:=hg i h1
            have hjk:j<k:=by have:=(List.getElem?_eq_some_iff.1 hj).1; omega
            obtain ⟨v,hv,h5⟩:=h4 j hjk
            rw [hv]
            exact h5 x hj)
        rw [hl'] at hrd
        refine fin _ (.sl e _ (by rw [hl']; omega) fun row hr => ?_) hrd
        obtain ⟨i,hi,rfl⟩:=List.mem_map.1 hr
        exact (hg i (List.mem_range.1 hi)).1
    · cases hty
  | st fs ih =>
    intro fuel
    refine ⟨fun t cs x hty hw h => ?_,fun fs off tot cs l hty=>by simp [Ty.is] at hty⟩
    simp only [Ty.is] at hty
    split at hty
    · rename_i f hu
      cases fuel with
      | zero=>simp [DataW.trod] at h
      | succ n =>
        simp only [DataW.trod,hu] at h
        split at h
        · rename_i hl
          simp only [Option.map_eq_some_iff] at h
          obtain ⟨l,hm,hx⟩:=h
          obtain ⟨xs,h1,h2,h3⟩:=(ih n).2 f.toList 0 _ cs l hty (by rw [← hx] at hw; simpa only [DataW.weights,hu] using hw) hl hm
          rw [List.drop_zero] at h2 h3
          exact ⟨xs,.st fs xs h1,h2,h3⟩
        · cases h
    · cases hty
  | unit =>
    intro fuel
    refine ⟨fun t cs x hty hw h=>by simp [Ty.is] at hty,fun fs off tot cs l hty hw hl h => ?_⟩
    cases fs with
    | cons f r=>simp [Ty.is] at hty
    | nil =>
      simp only [Ty.is,beq_iff_eq] at hty
      refine ⟨[],.unit,?_,fun j x v hx=>by simp at hx⟩
      rw [List.length_drop]; simp; omega
  | pair a b iha ihb =>
    intro fuel
    refine ⟨fun t cs x hty hw h=>by simp [Ty.is] at hty,fun fs off tot cs l hty hw hl h => ?_⟩
    cases fs with
    | nil=>simp [Ty.is] at hty
    | cons f r =>
      simp only [Ty.is,Bool.and_eq_true,beq_iff_eq] at hty
      obtain ⟨⟨ho,ha⟩,hb⟩:=hty
      rw [List.mapM_cons] at h
      cases h1:DataW.trod enc P W 0 sp hd fuel f.type ((cs.drop f.offset).take (P.cellsOf f.type)) with
      | none=>simp [h1] at h
      | some y =>
        cases h2:r.mapM (fun f=>DataW.trod enc P W 0 sp hd fuel f.type ((cs.drop f.offset).take (P.cellsOf f.type))) with
        | none=>simp [h1,h2] at h
        | some ys =>
          rw [h1,h2] at h
          obtain rfl:y::ys=l:=by simpa using h
          rw [List.map_cons,List.map_cons,DataW.weightsEach] at hw
          obtain ⟨xs,q1,q2,q3⟩:=(iha fuel).1 _ _ y ha (fitsB_app hw).1 h1
          obtain ⟨zs,r1,r2,r3⟩:=(ihb fuel).2 r _ tot cs ys hb (fitsB_app hw).2 hl h2
          rw [ho] at q2 q3
          rw [← List.drop_drop] at r2 r3
          obtain ⟨c1,c2⟩:=CRL.app q3 q2 r3 r2
          exact ⟨xs++zs,.pair a b xs zs q1 r1,c2,c1⟩
  | arr n e ih =>
    intro fuel
    refine ⟨fun t cs x hty hw h => ?_,fun fs off tot cs l hty=>by simp [Ty.is] at hty⟩
    simp only [Ty.is] at hty
    split at hty
    · rename_i n' e' hu
      simp only [Bool.and_eq_true,beq_iff_eq] at hty
      obtain ⟨⟨rfl,he⟩,hcl⟩:=hty
      cases fuel with
      | zero=>simp [DataW.trod] at h
      | succ m =>
        simp only [DataW.trod,hu] at h
        split at h
        · rename_i hl
          simp only [Option.map_eq_some_iff] at h
          obtain ⟨l,hm,hx⟩:=h
          rw [← hx] at hw
          have hw2:fitsB (DataW.weightsAll P e' (l.map (·.1))):=by simpa only [DataW.weights,hu] using hw
          obtain ⟨_,hg⟩:=mapM_get hm
          refine trod_arr (k:=P.cellsOf e') n' cs (by omega) fun i hi => ?_
          obtain ⟨y,hy,hyl⟩:=hg i i (by rw [List.getElem?_range hi])
          exact (ih m).1 e' _ y he (weights_mem hw2 (List.mem_map.2 ⟨y,List.mem_of_getElem? hyl,rfl⟩)) hy
        · cases h
    · cases hty

def FitA:Ty→D→Prop
  | .st fs,x=>∃ xs,x=.agg xs∧Fits (.st fs) xs
  | .arr n e,x=>∃ xs,x=.agg xs∧Fits (.arr n e) xs
  | ty,x=>Fits ty [x]

theorem one_of {ty:Ty} {xs:List D} {v:Value} (h:Fits ty xs) (hl:xs.length=[v].length) (hc:CRL W xs [v]) : ∃ x,Fits ty [x]∧VR [] (fun b=>b<W.heap.size) W (ofD x) v:=by
  match xs,hl with
  | [x],_=>exact ⟨x,h,ofD_sound (hc 0 x v rfl rfl)⟩

theorem arg_is {ty:Ty} {t:TypeId} {v:Value} {d:DataW H} {ps:List MemPlace} {base:Nat} (hty:ty.is P (.inl t)=true) (hval:Value.okWide P W .any base t v) (hw:fitsB (d.weights P t)) (h:DataW.Trod enc P W 0 sp hd t v d ps) :
    ∃ x,FitA ty x∧VR [] (fun b=>b<W.heap.size) W (ofD x) v:=by
  obtain ⟨fuel,hf⟩:=h
  obtain ⟨xs,h1,h2,h3⟩:=(rd_is ty fuel).1 t _ _ hty hw hf
  have agg:∀ cs:Array Value,v=.agg cs→VR [] (fun b=>b<W.heap.size) W (ofD (.agg xs)) v:=by
    rintro cs rfl
    refine ofD_sound (.agg xs cs (by simpa [Value.cells] using h2.symm) fun j x v hx hv=>h3 j x v hx (by simpa [Value.cells] using hv))
  cases ty with
  | st fs =>
    simp only [Ty.is] at hty
    split at hty
    · rename_i f hu
      simp only [Value.okWide,hu] at hval
      obtain ⟨cs,hv,_⟩:=hval
      exact ⟨.agg xs,⟨xs,rfl,h1⟩,agg cs hv⟩
    · cases hty
  | arr n e =>
    simp only [Ty.is] at hty
    split at hty
    · rename_i n' e' hu
      simp only [Value.okWide,hu] at hval
      obtain ⟨cs,hv,_⟩:=hval
      exact ⟨.agg xs,⟨xs,rfl,h1⟩,agg cs hv⟩
    · cases hty
  | int k =>
    simp only [Ty.is] at hty
    split at hty
    · rename_i k' hu
      cases v <;> simp only [Value.okWide,hu,Cell.okWide,Cell.ok] at hval
      exact one_of h1 (by simpa [Value.cells] using h2) (by simpa [Value.cells] using h3)
    · cases hty
  | bool =>
    simp only [Ty.is] at hty
    split at hty
    · rename_i hu
      cases v <;> simp only [Value.okWide,hu,Cell.okWide,Cell.ok] at hval
      exact one_of h1 (by simpa [Value.cells] using h2) (by simpa [Value.cells] using h3)
    · cases hty
  | str =>
    simp only [Ty.is] at hty
    split at hty
    · rename_i hu
      cases v <;> simp only [Value.okWide,hu,Cell.okWide,Cell.ok] at hval
      exact one_of h1 (by simpa [Value.cells] using h2) (by simpa [Value.cells] using h3)
    · cases hty
  | sl e =>
    simp only [Ty.is] at hty
    split at hty
    · rename_i e' hu
      obtain ⟨a,len,cap,rfl⟩:=okWide_slice hu hval
      exact one_of h1 (by simpa [Value.cells] using h2) (by simpa [Value.cells] using h3)
    · cases hty
  | unit=>simp [Ty.is] at hty
  | pair a b=>simp [Ty.is] at hty

def FitAs:List Ty→List D→Prop
  | [],[]=>True
  | ty::tys,x::xs=>FitA ty x∧FitAs tys xs
  | _,_=>False
def isAll (P:Program) : List Ty→List TypeId→Bool
  | [],[]=>true
  | ty::tys,t::ts=>ty.is P (.inl t)&&isAll P tys ts
  | _,_=>false

theorem args_is {base:Nat} : ∀ {tys:List Ty} {ts:List TypeId} {vs:List Value} {ds:List (DataW H)} {ps:List MemPlace},isAll P tys ts=true→(∀ (j:Nat) (t:TypeId) (v:Value),ts[j]? = some t→vs[j]? = some v→Value.okWide P W .any base t v)→fitsB (DataW.weightsEach P ts ds) →
    DataW.TrodAll enc P W 0 sp hd ts vs ds ps→∃ xs,FitAs tys xs∧xs.length=vs.length∧∀ (j:Nat) (x:D) (v:Value),xs[j]? = some x→vs[j]? = some v→VR [] (fun b=>b<W.heap.size) W (ofD x) v
  | [],[],vs,ds,ps,_,_,_,h=>by
    obtain ⟨rfl,_,_⟩:=trodAll_nil h
    exact ⟨[],trivial,rfl,fun j x v hx=>by simp at hx⟩
  | [],t::ts,_,_,_,hty,_,_,_=>by simp [isAll] at hty
  | ty::tys,[],_,_,_,hty,_,_,_=>by simp [isAll] at hty
  | ty::tys,t::ts,vs,ds,ps,hty,hval,hw,h=>by
    simp only [isAll,Bool.and_eq_true] at hty
    cases vs with
    | nil=>cases ds <;> exact h.elim
    | cons v vs =>
      cases ds with
      | nil=>exact h.elim
      | cons d ds =>
        obtain ⟨p,q,h1,h2,_⟩:=h
        rw [DataW.weightsEach] at hw
        obtain ⟨x,f1,f2⟩:=arg_is hty.1 (hval 0 t v rfl rfl) (fitsB_app hw).1 h1
        obtain ⟨xs,g1,g2,g3⟩:=args_is hty.2 (fun j t v ht hv=>hval (j+1) t v (by simpa using ht) (by simpa using hv)) (fitsB_app hw).2 h2
        refine ⟨x::xs,⟨f1,g1⟩,by simp [g2],fun j y u hy hu => ?_⟩
        cases j with
        | zero=>simp at hy hu; subst hy hu; exact f2
        | succ j=>exact g3 j y u (by simpa using hy) (by simpa using hu)

theorem trodAll_len {base:Nat} : ∀ {ts:List TypeId} {vs:List Value} {ds:List (DataW H)} {ps:List MemPlace},DataW.TrodAll enc P W base sp hd ts vs ds ps→ds.length=ts.length
  | [],vs,ds,ps,h=>by obtain ⟨_,rfl,_⟩:=trodAll_nil h; rfl
  | t::ts,vs,ds,ps,h=>by
    cases vs with
    | nil=>cases ds <;> exact h.elim
    | cons v vs =>
      cases ds with
      | nil=>exact h.elim
      | cons d ds =>
        obtain ⟨p,q,_,h2,_⟩:=h
        simp [trodAll_len h2]

def readAll (P:Program) (ts:List TypeId) : Bool:=ts.all fun t=>P.readableRec t&&decide (t<P.types.size)
theorem trodAll_below {W':World} (hl:laidOutB P=true) (hb:Below W.heap.size W W') : ∀ {ts:List TypeId} {vs:List Value} {ds:List (DataW H)} {ps:List MemPlace},readAll P ts=true →
    DataW.TrodAll enc P W 0 (fun _=>true) true ts vs ds ps→(∀ x∈ps,x.block<W.heap.size)→DataW.TrodAll enc P W' 0 (fun b=>decide (b<W.heap.size)) true ts vs ds ps
  | [],vs,ds,ps,_,h,_=>by
    obtain ⟨rfl,rfl,rfl⟩:=trodAll_nil h
    rfl
  | t::ts,vs,ds,ps,hr,h,hlt=>by
    simp only [readAll,List.all_cons,Bool.and_eq_true,decide_eq_true_eq] at hr
    cases vs with
    | nil=>cases ds <;> exact h.elim
    | cons v vs =>
      cases ds with
      | nil=>exact h.elim
      | cons d ds =>
        obtain ⟨p,q,h1,h2,rfl⟩:=h
        exact ⟨p,q,Below.trod hl hr.1.1 hr.1.2 h1 hb (fun x hx=>hlt x (by simp [hx])),trodAll_below hl hb hr.2 h2 (fun x hx=>hlt x (by simp [hx])),rfl⟩

theorem pd_callsG {f:FuncId} {args:List D} {x0:V} (h:PD P f args x0)
    (hG:FO (fun b=>b<W.heap.size) W) {cargs:Array Value} (hc:CR [] (fun b=>b<W.heap.size) W (args.map ofD) cargs) :
    Calls P f cargs W fun e W'=>∃ v E' F',e=.returned v∧Below W.heap.size W W'∧VR E' F' W' x0 v:=by
  refine (h.2 W cargs [] (fun b=>b<W.heap.size) ⟨rfl,by simp,by simp,by simp⟩ hG (by simp) hc).mono ?_
  rintro e W' ⟨v,x,H',E',F',rfl,⟨rfl,rfl⟩,hr,hv⟩
  refine ⟨v,E',F',rfl,⟨hr.os,hr.tape,hr.output.output,hr.size,fun k hk=>hr.same k hk ?_⟩,hv⟩
  rintro ⟨id,en,blk,h1,_⟩
  simp at h1

theorem row_true (hl:laidOutB P=true) {f:FuncId} {fn:Func} {s:ChangeSpec} {tys:List Ty} {bt:TypeId} {apart fresh:Bool} (hty:isAll P tys fn.params.toList=true) (hrd:readAll P fn.params.toList=true) (hres:fn.resultTypes = #[bt]) (hbt:P.underlying bt=some .bool)
    (hvars:s.vars=[]) (hs:∀ ds:List (DataW H),ds.length=tys.length→s.fn H ds={ results:=[.lit (.bool true)],args:=ds }) (h:∀ xs,FitAs tys xs→PD P f xs (.d (.bool true)))
    (hG:FO (fun b=>b<W.heap.size) W)
    {args:Array Value} {ds gs:List (DataW H)} {before:List MemPlace} {base:Nat} (hval:∀ (j:Nat) (t:TypeId) (v:Value),fn.params[j]? = some t→args[j]? = some v→Value.okWide P W .any base t v)
    (hwt:(DataW.weightsEach P (fn.params.toList++s.plain.varTypes P) (ds++gs)).all (·≤reachBytes)=true)
    (hW:DataW.Whole enc P fn.params.toList s.vars apart W args.toList ds gs before) :
    Calls P f args W fun e W'=>∃ v,e=.returned v∧s.post enc P fn apart fresh false false W args v W':=by
  have hW':=hW
  obtain ⟨p,q,hA,hV,hpq,hfz,hnd⟩:=hW
  rw [hvars] at hV
  obtain ⟨rfl,rfl⟩:=trodVars_none hV
  obtain ⟨xs,f1,f2,f3⟩:=args_is hty (fun j t v ht hv=>hval j t v (by simpa using ht) (by simpa using hv)) (weights_app (trodAll_len hA) hwt) hA
  refine (pd_callsG (W:=W) (h xs f1) hG ⟨by simp [f2],fun j z v hz hv => ?_⟩).mono fun e W' ⟨v,E',F',he,hb,hv⟩ => ?_
  · simp only [List.getElem?_map,Option.map_eq_some_iff] at hz
    obtain ⟨x,hx,rfl⟩:=hz
    exact f3 j x v hx (by simpa using hv)
  subst he
  have hvv:=bool_of hv
  subst hvv
  have hlt:∀ x∈p,x.block<W.heap.size:=fun x hx=>by
    have:=hW'.lt x (by rw [hpq]; simp [hx])
    simpa using this
  have hdl:ds.length=tys.length:=by
    have h1:=trodAll_len hA
    have h2:∀ {tys:List Ty} {ts:List TypeId},isAll P tys ts=true→tys.length=ts.length:=by
      intro tys
      induction tys with
      | nil=>intro ts h; cases ts with
        | nil=>rfl
        | cons a b=>simp [isAll] at h
      | cons a b ih=>intro ts h; cases ts with
        | nil=>simp [isAll] at h
        | cons c d=>simp only [isAll,Bool.and_eq_true] at h; simp [ih h.2]
    rw [h1,h2 hty]
  have hfn:=hs ds hdl
  refine ⟨_,rfl,ds,[],before,[],p,[],hW',?_,?_,?_,hb.frame _,fun h=>by cases h⟩
  · rw [List.append_nil,hfn,hres]
    exact trodAll_mk1 (shut_bool hbt true)
  · rw [List.append_nil,hfn]
    exact trodAll_below hl hb hrd hA hlt
  · rw [hvars,List.append_nil,hfn]
    rfl

end
end Go.Aw

namespace Go.Aw
set_option linter.unusedSimpArgs false
set_option linter.unusedVariables false
open Go.RowKit

theorem fitAs_nil {xs:List D} (h:FitAs [] xs) : xs=[]:=by
  cases xs with
  | nil=>rfl
  | cons x r=>exact h.elim

abbrev ty2:Ty:=.st (.pair (.int .i64) (.pair (.int .i64) .unit))
abbrev ty3:Ty:=.st (.pair (.int .i64) (.pair (.int .i64) (.pair (.int .i64) .unit)))
end Go.Aw

namespace Go.Aw
set_option linter.unusedSimpArgs false
set_option linter.unusedVariables false
open Go.RowKit Go.Proofs

theorem tz1:ksz Tryz.prog 1=some (false,1):=by kernel_rfl
theorem tzero1:kzero Tryz.prog 1=some [.d .nilfn]:=by kernel_rfl
theorem tcn2:kconc Tryz.prog 2=true:=by kernel_rfl
theorem tz2:ksz Tryz.prog 2=some (false,1):=by kernel_rfl
theorem tzero2:kzero Tryz.prog 2=some [.d (.int .i64 0)]:=by kernel_rfl
theorem tzv2:kzeroV Tryz.prog 2=some (.d (.int .i64 0)):=by kernel_rfl
theorem tby2:kbytes Tryz.prog 2=some 8:=by kernel_rfl
theorem tint2:kint Tryz.prog 2=some .i64:=by kernel_rfl
theorem tstr2:kstr Tryz.prog 2=false:=by kernel_rfl
theorem tlf2:klf Tryz.prog 2=1:=by kernel_rfl
theorem tcn3:kconc Tryz.prog 3=true:=by kernel_rfl
theorem tz3:ksz Tryz.prog 3=some (false,1):=by kernel_rfl
theorem tzero3:kzero Tryz.prog 3=some [.d (.int .i64 0)]:=by kernel_rfl
theorem tzv3:kzeroV Tryz.prog 3=some (.d (.int .i64 0)):=by kernel_rfl
theorem tby3:kbytes Tryz.prog 3=some 8:=by kernel_rfl
theorem tint3:kint Tryz.prog 3=some .i64:=by kernel_rfl
theorem tstr3:kstr Tryz.prog 3=false:=by kernel_rfl
theorem tlf3:klf Tryz.prog 3=1:=by kernel_rfl
theorem tcn4:kconc Tryz.prog 4=true:=by kernel_rfl
theorem tz4:ksz Tryz.prog 4=some (false,1):=by kernel_rfl
theorem tzero4:kzero Tryz.prog 4=some [.d (.bool false)]:=by kernel_rfl
theorem tzv4:kzeroV Tryz.prog 4=some (.d (.bool false)):=by kernel_rfl
theorem tby4:kbytes Tryz.prog 4=some 1:=by kernel_rfl
theorem tlf4:klf Tryz.prog 4=2:=by kernel_rfl
theorem tcn5:kconc Tryz.prog 5=true:=by kernel_rfl
theorem tz5:ksz Tryz.prog 5=some (false,1):=by kernel_rfl
theorem tzero5:kzero Tryz.prog 5=some [.d (.int .u8 0)]:=by kernel_rfl
theorem tzv5:kzeroV Tryz.prog 5=some (.d (.int .u8 0)):=by kernel_rfl
theorem tby5:kbytes Tryz.prog 5=some 1:=by kernel_rfl
theorem tint5:kint Tryz.prog 5=some .u8:=by kernel_rfl
theorem tstr5:kstr Tryz.prog 5=false:=by kernel_rfl
theorem tlf5:klf Tryz.prog 5=1:=by kernel_rfl
theorem tcn6:kconc Tryz.prog 6=true:=by kernel_rfl
theorem tz6:ksz Tryz.prog 6=some (false,1):=by kernel_rfl
theorem tzero6:kzero Tryz.prog 6=some [.d (.int .u8 0)]:=by kernel_rfl
theorem tzv6:kzeroV Tryz.prog 6=some (.d (.int .u8 0)):=by kernel_rfl
theorem tby6:kbytes Tryz.prog 6=some 1:=by kernel_rfl
theorem tint6:kint Tryz.prog 6=some .u8:=by kernel_rfl
theorem tstr6:kstr Tryz.prog 6=false:=by kernel_rfl
theorem tlf6:klf Tryz.prog 6=1:=by kernel_rfl
theorem tcn7:kconc Tryz.prog 7=true:=by kernel_rfl
theorem tz7:ksz Tryz.prog 7=some (true,4):=by kernel_rfl
theorem tzero7:kzero Tryz.prog 7=some [.d (.int .i64 0),.d (.int .i64 0),.d (.bool false),.d (.int .u8 0)]:=by kernel_rfl
theorem tzv7:kzeroV Tryz.prog 7=some (.agg [.d (.int .i64 0),.d (.int .i64 0),.d (.bool false),.d (.int .u8 0)]):=by kernel_rfl
theorem tby7:kbytes Tryz.prog 7=some 24:=by kernel_rfl
theorem tpls7:kplaces Tryz.prog 7=true:=by kernel_rfl
theorem tf7_0:kfld Tryz.prog 7 0=some (0,2):=by kernel_rfl
theorem tpl7_0:kplace Tryz.prog 7 0=some (0,1):=by kernel_rfl
theorem tf7_1:kfld Tryz.prog 7 1=some (1,3):=by kernel_rfl
theorem tpl7_1:kplace Tryz.prog 7 1=some (1,1):=by kernel_rfl
theorem tf7_2:kfld Tryz.prog 7 2=some (2,4):=by kernel_rfl
theorem tpl7_2:kplace Tryz.prog 7 2=some (2,1):=by kernel_rfl
theorem tf7_3:kfld Tryz.prog 7 3=some (3,6):=by kernel_rfl
theorem tpl7_3:kplace Tryz.prog 7 3=some (3,1):=by kernel_rfl
theorem tcn8:kconc Tryz.prog 8=true:=by kernel_rfl
theorem tz8:ksz Tryz.prog 8=some (true,4):=by kernel_rfl
theorem tzero8:kzero Tryz.prog 8=some [.d (.int .i64 0),.d (.int .i64 0),.d (.bool false),.d (.int .u8 0)]:=by kernel_rfl
theorem tzv8:kzeroV Tryz.prog 8=some (.agg [.d (.int .i64 0),.d (.int .i64 0),.d (.bool false),.d (.int .u8 0)]):=by kernel_rfl
theorem tby8:kbytes Tryz.prog 8=some 24:=by kernel_rfl
theorem tpls8:kplaces Tryz.prog 8=true:=by kernel_rfl
theorem tf8_0:kfld Tryz.prog 8 0=some (0,2):=by kernel_rfl
theorem tpl8_0:kplace Tryz.prog 8 0=some (0,1):=by kernel_rfl
theorem tf8_1:kfld Tryz.prog 8 1=some (1,3):=by kernel_rfl
theorem tpl8_1:kplace Tryz.prog 8 1=some (1,1):=by kernel_rfl
theorem tf8_2:kfld Tryz.prog 8 2=some (2,4):=by kernel_rfl
theorem tpl8_2:kplace Tryz.prog 8 2=some (2,1):=by kernel_rfl
theorem tf8_3:kfld Tryz.prog 8 3=some (3,6):=by kernel_rfl
theorem tpl8_3:kplace Tryz.prog 8 3=some (3,1):=by kernel_rfl
theorem tcn9:kconc Tryz.prog 9=true:=by kernel_rfl
theorem tz9:ksz Tryz.prog 9=some (false,1):=by kernel_rfl
theorem tzero9:kzero Tryz.prog 9=some [.d (.str ByteArray.empty)]:=by kernel_rfl
theorem tzv9:kzeroV Tryz.prog 9=some (.d (.str ByteArray.empty)):=by kernel_rfl
theorem tby9:kbytes Tryz.prog 9=some 16:=by kernel_rfl
theorem tstr9:kstr Tryz.prog 9=true:=by kernel_rfl
theorem tsl9:ksl Tryz.prog 9=false:=by kernel_rfl
theorem tseq9:kseq Tryz.prog 9=true:=by kernel_rfl
theorem tlf9:klf Tryz.prog 9=3:=by kernel_rfl
theorem tcn10:kconc Tryz.prog 10=true:=by kernel_rfl
theorem tz10:ksz Tryz.prog 10=some (false,1):=by kernel_rfl
theorem tzero10:kzero Tryz.prog 10=some [.d (.str ByteArray.empty)]:=by kernel_rfl
theorem tzv10:kzeroV Tryz.prog 10=some (.d (.str ByteArray.empty)):=by kernel_rfl
theorem tby10:kbytes Tryz.prog 10=some 16:=by kernel_rfl
theorem tstr10:kstr Tryz.prog 10=true:=by kernel_rfl
theorem tsl10:ksl Tryz.prog 10=false:=by kernel_rfl
theorem tseq10:kseq Tryz.prog 10=true:=by kernel_rfl
theorem tlf10:klf Tryz.prog 10=3:=by kernel_rfl
theorem tcn11:kconc Tryz.prog 11=true:=by kernel_rfl
theorem tz11:ksz Tryz.prog 11=some (false,1):=by kernel_rfl
theorem tzero11:kzero Tryz.prog 11=some [.d (.str ByteArray.empty)]:=by kernel_rfl
theorem tzv11:kzeroV Tryz.prog 11=some (.d (.str ByteArray.empty)):=by kernel_rfl
theorem tby11:kbytes Tryz.prog 11=some 16:=by kernel_rfl
theorem tstr11:kstr Tryz.prog 11=true:=by kernel_rfl
theorem tsl11:ksl Tryz.prog 11=false:=by kernel_rfl
theorem tseq11:kseq Tryz.prog 11=true:=by kernel_rfl
theorem tlf11:klf Tryz.prog 11=3:=by kernel_rfl
theorem tcn12:kconc Tryz.prog 12=true:=by kernel_rfl
theorem tz12:ksz Tryz.prog 12=some (false,1):=by kernel_rfl
theorem tzero12:kzero Tryz.prog 12=some [.d (.int .u64 0)]:=by kernel_rfl
theorem tzv12:kzeroV Tryz.prog 12=some (.d (.int .u64 0)):=by kernel_rfl
theorem tby12:kbytes Tryz.prog 12=some 8:=by kernel_rfl
theorem tint12:kint Tryz.prog 12=some .u64:=by kernel_rfl
theorem tstr12:kstr Tryz.prog 12=false:=by kernel_rfl
theorem tlf12:klf Tryz.prog 12=1:=by kernel_rfl
theorem tcn13:kconc Tryz.prog 13=true:=by kernel_rfl
theorem tz13:ksz Tryz.prog 13=some (true,2):=by kernel_rfl
theorem tzero13:kzero Tryz.prog 13=some [.d (.str ByteArray.empty),.d (.int .u64 0)]:=by kernel_rfl
theorem tzv13:kzeroV Tryz.prog 13=some (.agg [.d (.str ByteArray.empty),.d (.int .u64 0)]):=by kernel_rfl
theorem tby13:kbytes Tryz.prog 13=some 24:=by kernel_rfl
theorem tpls13:kplaces Tryz.prog 13=true:=by kernel_rfl
theorem tf13_0:kfld Tryz.prog 13 0=some (0,9):=by kernel_rfl
theorem tpl13_0:kplace Tryz.prog 13 0=some (0,1):=by kernel_rfl
theorem tf13_1:kfld Tryz.prog 13 1=some (1,12):=by kernel_rfl
theorem tpl13_1:kplace Tryz.prog 13 1=some (1,1):=by kernel_rfl
theorem tcn14:kconc Tryz.prog 14=true:=by kernel_rfl
theorem tz14:ksz Tryz.prog 14=some (true,2):=by kernel_rfl
theorem tzero14:kzero Tryz.prog 14=some [.d (.str ByteArray.empty),.d (.int .u64 0)]:=by kernel_rfl
theorem tzv14:kzeroV Tryz.prog 14=some (.agg [.d (.str ByteArray.empty),.d (.int .u64 0)]):=by kernel_rfl
theorem tby14:kbytes Tryz.prog 14=some 24:=by kernel_rfl
theorem tpls14:kplaces Tryz.prog 14=true:=by kernel_rfl
theorem tf14_0:kfld Tryz.prog 14 0=some (0,9):=by kernel_rfl
theorem tpl14_0:kplace Tryz.prog 14 0=some (0,1):=by kernel_rfl
theorem tf14_1:kfld Tryz.prog 14 1=some (1,12):=by kernel_rfl
theorem tpl14_1:kplace Tryz.prog 14 1=some (1,1):=by kernel_rfl
theorem tcn15:kconc Tryz.prog 15=true:=by kernel_rfl
theorem tz15:ksz Tryz.prog 15=some (false,1):=by kernel_rfl
theorem tzero15:kzero Tryz.prog 15=some [.d .nilptr]:=by kernel_rfl
theorem tzv15:kzeroV Tryz.prog 15=some (.d .nilptr):=by kernel_rfl
theorem tby15:kbytes Tryz.prog 15=some 8:=by kernel_rfl
theorem tcn16:kconc Tryz.prog 16=true:=by kernel_rfl
theorem tz16:ksz Tryz.prog 16=some (false,1):=by kernel_rfl
theorem tzero16:kzero Tryz.prog 16=some [.d .nilptr]:=by kernel_rfl
theorem tzv16:kzeroV Tryz.prog 16=some (.d .nilptr):=by kernel_rfl
theorem tby16:kbytes Tryz.prog 16=some 8:=by kernel_rfl
theorem tcn17:kconc Tryz.prog 17=true:=by kernel_rfl
theorem tz17:ksz Tryz.prog 17=some (false,1):=by kernel_rfl
theorem tzero17:kzero Tryz.prog 17=some [.d .nilptr]:=by kernel_rfl
theorem tzv17:kzeroV Tryz.prog 17=some (.d .nilptr):=by kernel_rfl
theorem tby17:kbytes Tryz.prog 17=some 8:=by kernel_rfl
theorem tcn18:kconc Tryz.prog 18=true:=by kernel_rfl
theorem tz18:ksz Tryz.prog 18=some (true,1):=by kernel_rfl
theorem tzero18:kzero Tryz.prog 18=some [.d .nilptr]:=by kernel_rfl
theorem tzv18:kzeroV Tryz.prog 18=some (.agg [.d .nilptr]):=by kernel_rfl
theorem tby18:kbytes Tryz.prog 18=some 8:=by kernel_rfl
theorem tpls18:kplaces Tryz.prog 18=true:=by kernel_rfl
theorem tf18_0:kfld Tryz.prog 18 0=some (0,17):=by kernel_rfl
theorem tpl18_0:kplace Tryz.prog 18 0=some (0,1):=by kernel_rfl
theorem tcn19:kconc Tryz.prog 19=true:=by kernel_rfl
theorem tz19:ksz Tryz.prog 19=some (true,1):=by kernel_rfl
theorem tzero19:kzero Tryz.prog 19=some [.d .nilptr]:=by kernel_rfl
theorem tzv19:kzeroV Tryz.prog 19=some (.agg [.d .nilptr]):=by kernel_rfl
theorem tby19:kbytes Tryz.prog 19=some 8:=by kernel_rfl
theorem tpls19:kplaces Tryz.prog 19=true:=by kernel_rfl
theorem tf19_0:kfld Tryz.prog 19 0=some (0,17):=by kernel_rfl
theorem tpl19_0:kplace Tryz.prog 19 0=some (0,1):=by kernel_rfl
theorem tcn20:kconc Tryz.prog 20=false:=by kernel_rfl
theorem tz20:ksz Tryz.prog 20=some (false,1):=by kernel_rfl
theorem tzero20:kzero Tryz.prog 20=some [.d .niliface]:=by kernel_rfl
theorem tzv20:kzeroV Tryz.prog 20=some (.d .niliface):=by kernel_rfl
theorem tif20:kif Tryz.prog 20=true:=by kernel_rfl
theorem tby20:kbytes Tryz.prog 20=some 16:=by kernel_rfl
theorem tcn21:kconc Tryz.prog 21=true:=by kernel_rfl
theorem tz21:ksz Tryz.prog 21=some (false,1):=by kernel_rfl
theorem tzero21:kzero Tryz.prog 21=some [.d (.int .i32 0)]:=by kernel_rfl
theorem tzv21:kzeroV Tryz.prog 21=some (.d (.int .i32 0)):=by kernel_rfl
theorem tby21:kbytes Tryz.prog 21=some 4:=by kernel_rfl
theorem tint21:kint Tryz.prog 21=some .i32:=by kernel_rfl
theorem tstr21:kstr Tryz.prog 21=false:=by kernel_rfl
theorem tlf21:klf Tryz.prog 21=1:=by kernel_rfl
theorem tcn22:kconc Tryz.prog 22=true:=by kernel_rfl
theorem tz22:ksz Tryz.prog 22=some (false,1):=by kernel_rfl
theorem tzero22:kzero Tryz.prog 22=some [.nil]:=by kernel_rfl
theorem tzv22:kzeroV Tryz.prog 22=some (.nil):=by kernel_rfl
theorem tby22:kbytes Tryz.prog 22=some 24:=by kernel_rfl
theorem tel22:kel Tryz.prog 22=some (none,6,69):=by kernel_rfl
theorem tsl22:ksl Tryz.prog 22=true:=by kernel_rfl
theorem tstr22:kstr Tryz.prog 22=false:=by kernel_rfl
theorem tseq22:kseq Tryz.prog 22=true:=by kernel_rfl
theorem tcn23:kconc Tryz.prog 23=true:=by kernel_rfl
theorem tz23:ksz Tryz.prog 23=some (false,1):=by kernel_rfl
theorem tzero23:kzero Tryz.prog 23=some [.nil]:=by kernel_rfl
theorem tzv23:kzeroV Tryz.prog 23=some (.nil):=by kernel_rfl
theorem tby23:kbytes Tryz.prog 23=some 24:=by kernel_rfl
theorem tel23:kel Tryz.prog 23=some (none,1,29):=by kernel_rfl
theorem tsl23:ksl Tryz.prog 23=true:=by kernel_rfl
theorem tstr23:kstr Tryz.prog 23=false:=by kernel_rfl
theorem tseq23:kseq Tryz.prog 23=true:=by kernel_rfl
theorem tcn24:kconc Tryz.prog 24=true:=by kernel_rfl
theorem tz24:ksz Tryz.prog 24=some (false,1):=by kernel_rfl
theorem tzero24:kzero Tryz.prog 24=some [.nil]:=by kernel_rfl
theorem tzv24:kzeroV Tryz.prog 24=some (.nil):=by kernel_rfl
theorem tby24:kbytes Tryz.prog 24=some 24:=by kernel_rfl
theorem tel24:kel Tryz.prog 24=some (none,1,3):=by kernel_rfl
theorem tsl24:ksl Tryz.prog 24=true:=by kernel_rfl
theorem tstr24:kstr Tryz.prog 24=false:=by kernel_rfl
theorem tseq24:kseq Tryz.prog 24=true:=by kernel_rfl
theorem tz25:ksz Tryz.prog 25=some (false,1):=by kernel_rfl
theorem tzero25:kzero Tryz.prog 25=some [.d .nilfn]:=by kernel_rfl
theorem tz26:ksz Tryz.prog 26=some (false,1):=by kernel_rfl
theorem tzero26:kzero Tryz.prog 26=some [.d .nilfn]:=by kernel_rfl
theorem tz27:ksz Tryz.prog 27=some (false,1):=by kernel_rfl
theorem tzero27:kzero Tryz.prog 27=some [.d .nilfn]:=by kernel_rfl
theorem tz28:ksz Tryz.prog 28=some (false,1):=by kernel_rfl
theorem tzero28:kzero Tryz.prog 28=some [.d .nilfn]:=by kernel_rfl
theorem tcn29:kconc Tryz.prog 29=true:=by kernel_rfl
theorem tz29:ksz Tryz.prog 29=some (false,1):=by kernel_rfl
theorem tzero29:kzero Tryz.prog 29=some [.nil]:=by kernel_rfl
theorem tzv29:kzeroV Tryz.prog 29=some (.nil):=by kernel_rfl
theorem tby29:kbytes Tryz.prog 29=some 24:=by kernel_rfl
theorem tel29:kel Tryz.prog 29=some (none,1,2):=by kernel_rfl
theorem tsl29:ksl Tryz.prog 29=true:=by kernel_rfl
theorem tstr29:kstr Tryz.prog 29=false:=by kernel_rfl
theorem tseq29:kseq Tryz.prog 29=true:=by kernel_rfl
theorem tcn30:kconc Tryz.prog 30=true:=by kernel_rfl
theorem tz30:ksz Tryz.prog 30=some (true,5):=by kernel_rfl
theorem tzero30:kzero Tryz.prog 30=some [.nil,.d (.int .i64 0),.d (.int .i64 0),.nil,.nil]:=by kernel_rfl
theorem tzv30:kzeroV Tryz.prog 30=some (.agg [.nil,.d (.int .i64 0),.d (.int .i64 0),.nil,.nil]):=by kernel_rfl
theorem tby30:kbytes Tryz.prog 30=some 88:=by kernel_rfl
theorem tpls30:kplaces Tryz.prog 30=true:=by kernel_rfl
theorem tf30_0:kfld Tryz.prog 30 0=some (0,22):=by kernel_rfl
theorem tpl30_0:kplace Tryz.prog 30 0=some (0,1):=by kernel_rfl
theorem tf30_1:kfld Tryz.prog 30 1=some (1,3):=by kernel_rfl
theorem tpl30_1:kplace Tryz.prog 30 1=some (1,1):=by kernel_rfl
theorem tf30_2:kfld Tryz.prog 30 2=some (2,2):=by kernel_rfl
theorem tpl30_2:kplace Tryz.prog 30 2=some (2,1):=by kernel_rfl
theorem tf30_3:kfld Tryz.prog 30 3=some (3,23):=by kernel_rfl
theorem tpl30_3:kplace Tryz.prog 30 3=some (3,1):=by kernel_rfl
theorem tf30_4:kfld Tryz.prog 30 4=some (4,29):=by kernel_rfl
theorem tpl30_4:kplace Tryz.prog 30 4=some (4,1):=by kernel_rfl
theorem tcn31:kconc Tryz.prog 31=true:=by kernel_rfl
theorem tz31:ksz Tryz.prog 31=some (true,5):=by kernel_rfl
theorem tzero31:kzero Tryz.prog 31=some [.nil,.d (.int .i64 0),.d (.int .i64 0),.nil,.nil]:=by kernel_rfl
theorem tzv31:kzeroV Tryz.prog 31=some (.agg [.nil,.d (.int .i64 0),.d (.int .i64 0),.nil,.nil]):=by kernel_rfl
theorem tby31:kbytes Tryz.prog 31=some 88:=by kernel_rfl
theorem tst31:kst Tryz.prog 31=some [(22,0),(3,1),(2,2),(23,3),(29,4)]:=by kernel_rfl
theorem tpls31:kplaces Tryz.prog 31=true:=by kernel_rfl
theorem tf31_0:kfld Tryz.prog 31 0=some (0,22):=by kernel_rfl
theorem tpl31_0:kplace Tryz.prog 31 0=some (0,1):=by kernel_rfl
theorem tf31_1:kfld Tryz.prog 31 1=some (1,3):=by kernel_rfl
theorem tpl31_1:kplace Tryz.prog 31 1=some (1,1):=by kernel_rfl
theorem tf31_2:kfld Tryz.prog 31 2=some (2,2):=by kernel_rfl
theorem tpl31_2:kplace Tryz.prog 31 2=some (2,1):=by kernel_rfl
theorem tf31_3:kfld Tryz.prog 31 3=some (3,23):=by kernel_rfl
theorem tpl31_3:kplace Tryz.prog 31 3=some (3,1):=by kernel_rfl
theorem tf31_4:kfld Tryz.prog 31 4=some (4,29):=by kernel_rfl
theorem tpl31_4:kplace Tryz.prog 31 4=some (4,1):=by kernel_rfl
theorem tcn32:kconc Tryz.prog 32=true:=by kernel_rfl
theorem tz32:ksz Tryz.prog 32=some (false,1):=by kernel_rfl
theorem tzero32:kzero Tryz.prog 32=some [.d (.int .i64 0)]:=by kernel_rfl
theorem tzv32:kzeroV Tryz.prog 32=some (.d (.int .i64 0)):=by kernel_rfl
theorem tby32:kbytes Tryz.prog 32=some 8:=by kernel_rfl
theorem tint32:kint Tryz.prog 32=some .i64:=by kernel_rfl
theorem tstr32:kstr Tryz.prog 32=false:=by kernel_rfl
theorem tlf32:klf Tryz.prog 32=1:=by kernel_rfl
theorem tz34:ksz Tryz.prog 34=some (false,1):=by kernel_rfl
theorem tzero34:kzero Tryz.prog 34=some [.d .nilfn]:=by kernel_rfl
theorem tz35:ksz Tryz.prog 35=some (false,1):=by kernel_rfl
theorem tzero35:kzero Tryz.prog 35=some [.d .nilfn]:=by kernel_rfl
theorem tz37:ksz Tryz.prog 37=some (false,1):=by kernel_rfl
theorem tzero37:kzero Tryz.prog 37=some [.d .nilfn]:=by kernel_rfl
theorem tz38:ksz Tryz.prog 38=some (false,1):=by kernel_rfl
theorem tzero38:kzero Tryz.prog 38=some [.d .nilfn]:=by kernel_rfl
theorem tcn39:kconc Tryz.prog 39=true:=by kernel_rfl
theorem tz39:ksz Tryz.prog 39=some (false,1):=by kernel_rfl
theorem tzero39:kzero Tryz.prog 39=some [.nil]:=by kernel_rfl
theorem tzv39:kzeroV Tryz.prog 39=some (.nil):=by kernel_rfl
theorem tby39:kbytes Tryz.prog 39=some 24:=by kernel_rfl
theorem tel39:kel Tryz.prog 39=some (none,2,41):=by kernel_rfl
theorem tsl39:ksl Tryz.prog 39=true:=by kernel_rfl
theorem tstr39:kstr Tryz.prog 39=false:=by kernel_rfl
theorem tseq39:kseq Tryz.prog 39=true:=by kernel_rfl
theorem tcn40:kconc Tryz.prog 40=true:=by kernel_rfl
theorem tz40:ksz Tryz.prog 40=some (true,2):=by kernel_rfl
theorem tzero40:kzero Tryz.prog 40=some [.d (.int .i64 0),.nil]:=by kernel_rfl
theorem tzv40:kzeroV Tryz.prog 40=some (.agg [.d (.int .i64 0),.nil]):=by kernel_rfl
theorem tby40:kbytes Tryz.prog 40=some 32:=by kernel_rfl
theorem tpls40:kplaces Tryz.prog 40=true:=by kernel_rfl
theorem tf40_0:kfld Tryz.prog 40 0=some (0,3):=by kernel_rfl
theorem tpl40_0:kplace Tryz.prog 40 0=some (0,1):=by kernel_rfl
theorem tf40_1:kfld Tryz.prog 40 1=some (1,22):=by kernel_rfl
theorem tpl40_1:kplace Tryz.prog 40 1=some (1,1):=by kernel_rfl
theorem tcn41:kconc Tryz.prog 41=true:=by kernel_rfl
theorem tz41:ksz Tryz.prog 41=some (true,2):=by kernel_rfl
theorem tzero41:kzero Tryz.prog 41=some [.d (.int .i64 0),.nil]:=by kernel_rfl
theorem tzv41:kzeroV Tryz.prog 41=some (.agg [.d (.int .i64 0),.nil]):=by kernel_rfl
theorem tby41:kbytes Tryz.prog 41=some 32:=by kernel_rfl
theorem tst41:kst Tryz.prog 41=some [(3,0),(22,1)]:=by kernel_rfl
theorem tpls41:kplaces Tryz.prog 41=true:=by kernel_rfl
theorem tf41_0:kfld Tryz.prog 41 0=some (0,3):=by kernel_rfl
theorem tpl41_0:kplace Tryz.prog 41 0=some (0,1):=by kernel_rfl
theorem tf41_1:kfld Tryz.prog 41 1=some (1,22):=by kernel_rfl
theorem tpl41_1:kplace Tryz.prog 41 1=some (1,1):=by kernel_rfl
theorem tz43:ksz Tryz.prog 43=some (false,1):=by kernel_rfl
theorem tzero43:kzero Tryz.prog 43=some [.d .nilfn]:=by kernel_rfl
theorem tz45:ksz Tryz.prog 45=some (false,1):=by kernel_rfl
theorem tzero45:kzero Tryz.prog 45=some [.d .nilfn]:=by kernel_rfl
theorem tz46:ksz Tryz.prog 46=some (false,1):=by kernel_rfl
theorem tzero46:kzero Tryz.prog 46=some [.d .nilfn]:=by kernel_rfl
theorem tz47:ksz Tryz.prog 47=some (false,1):=by kernel_rfl
theorem tzero47:kzero Tryz.prog 47=some [.d .nilfn]:=by kernel_rfl
theorem tz48:ksz Tryz.prog 48=some (false,1):=by kernel_rfl
theorem tzero48:kzero Tryz.prog 48=some [.d .nilfn]:=by kernel_rfl
theorem tcn49:kconc Tryz.prog 49=true:=by kernel_rfl
theorem tz49:ksz Tryz.prog 49=some (false,1):=by kernel_rfl
theorem tzero49:kzero Tryz.prog 49=some [.nil]:=by kernel_rfl
theorem tzv49:kzeroV Tryz.prog 49=some (.nil):=by kernel_rfl
theorem tby49:kbytes Tryz.prog 49=some 24:=by kernel_rfl
theorem tel49:kel Tryz.prog 49=some (none,5,66):=by kernel_rfl
theorem tsl49:ksl Tryz.prog 49=true:=by kernel_rfl
theorem tstr49:kstr Tryz.prog 49=false:=by kernel_rfl
theorem tseq49:kseq Tryz.prog 49=true:=by kernel_rfl
theorem tz50:ksz Tryz.prog 50=some (false,1):=by kernel_rfl
theorem tzero50:kzero Tryz.prog 50=some [.d .nilfn]:=by kernel_rfl
theorem tz51:ksz Tryz.prog 51=some (false,1):=by kernel_rfl
theorem tzero51:kzero Tryz.prog 51=some [.d .nilfn]:=by kernel_rfl
theorem tz52:ksz Tryz.prog 52=some (false,1):=by kernel_rfl
theorem tzero52:kzero Tryz.prog 52=some [.d .nilfn]:=by kernel_rfl
theorem tz54:ksz Tryz.prog 54=some (false,1):=by kernel_rfl
theorem tzero54:kzero Tryz.prog 54=some [.d .nilfn]:=by kernel_rfl
theorem tcn55:kconc Tryz.prog 55=true:=by kernel_rfl
theorem tz55:ksz Tryz.prog 55=some (true,2):=by kernel_rfl
theorem tzero55:kzero Tryz.prog 55=some [.d (.int .i64 0),.nil]:=by kernel_rfl
theorem tzv55:kzeroV Tryz.prog 55=some (.agg [.d (.int .i64 0),.nil]):=by kernel_rfl
theorem tby55:kbytes Tryz.prog 55=some 32:=by kernel_rfl
theorem tpls55:kplaces Tryz.prog 55=true:=by kernel_rfl
theorem tf55_0:kfld Tryz.prog 55 0=some (0,3):=by kernel_rfl
theorem tpl55_0:kplace Tryz.prog 55 0=some (0,1):=by kernel_rfl
theorem tf55_1:kfld Tryz.prog 55 1=some (1,24):=by kernel_rfl
theorem tpl55_1:kplace Tryz.prog 55 1=some (1,1):=by kernel_rfl
theorem tcn56:kconc Tryz.prog 56=true:=by kernel_rfl
theorem tz56:ksz Tryz.prog 56=some (true,2):=by kernel_rfl
theorem tzero56:kzero Tryz.prog 56=some [.d (.int .i64 0),.nil]:=by kernel_rfl
theorem tzv56:kzeroV Tryz.prog 56=some (.agg [.d (.int .i64 0),.nil]):=by kernel_rfl
theorem tby56:kbytes Tryz.prog 56=some 32:=by kernel_rfl
theorem tst56:kst Tryz.prog 56=some [(3,0),(24,1)]:=by kernel_rfl
theorem tpls56:kplaces Tryz.prog 56=true:=by kernel_rfl
theorem tf56_0:kfld Tryz.prog 56 0=some (0,3):=by kernel_rfl
theorem tpl56_0:kplace Tryz.prog 56 0=some (0,1):=by kernel_rfl
theorem tf56_1:kfld Tryz.prog 56 1=some (1,24):=by kernel_rfl
theorem tpl56_1:kplace Tryz.prog 56 1=some (1,1):=by kernel_rfl
theorem tz58:ksz Tryz.prog 58=some (false,1):=by kernel_rfl
theorem tzero58:kzero Tryz.prog 58=some [.d .nilfn]:=by kernel_rfl
theorem tz59:ksz Tryz.prog 59=some (false,1):=by kernel_rfl
theorem tzero59:kzero Tryz.prog 59=some [.d .nilfn]:=by kernel_rfl
theorem tz60:ksz Tryz.prog 60=some (false,1):=by kernel_rfl
theorem tzero60:kzero Tryz.prog 60=some [.d .nilfn]:=by kernel_rfl
theorem tz61:ksz Tryz.prog 61=some (false,1):=by kernel_rfl
theorem tzero61:kzero Tryz.prog 61=some [.d .nilfn]:=by kernel_rfl
theorem tz62:ksz Tryz.prog 62=some (false,1):=by kernel_rfl
theorem tzero62:kzero Tryz.prog 62=some [.d .nilfn]:=by kernel_rfl
theorem tz64:ksz Tryz.prog 64=some (false,1):=by kernel_rfl
theorem tzero64:kzero Tryz.prog 64=some [.d .nilfn]:=by kernel_rfl
theorem tcn65:kconc Tryz.prog 65=true:=by kernel_rfl
theorem tz65:ksz Tryz.prog 65=some (true,5):=by kernel_rfl
theorem tzero65:kzero Tryz.prog 65=some [.d (.int .i64 0),.d (.int .i64 0),.d (.int .i64 0),.d (.int .i64 0),.d (.int .i64 0)]:=by kernel_rfl
theorem tzv65:kzeroV Tryz.prog 65=some (.agg [.d (.int .i64 0),.d (.int .i64 0),.d (.int .i64 0),.d (.int .i64 0),.d (.int .i64 0)]):=by kernel_rfl
theorem tby65:kbytes Tryz.prog 65=some 40:=by kernel_rfl
theorem tpls65:kplaces Tryz.prog 65=true:=by kernel_rfl
theorem tf65_0:kfld Tryz.prog 65 0=some (0,3):=by kernel_rfl
theorem tpl65_0:kplace Tryz.prog 65 0=some (0,1):=by kernel_rfl
theorem tf65_1:kfld Tryz.prog 65 1=some (1,2):=by kernel_rfl
theorem tpl65_1:kplace Tryz.prog 65 1=some (1,1):=by kernel_rfl
theorem tf65_2:kfld Tryz.prog 65 2=some (2,2):=by kernel_rfl
theorem tpl65_2:kplace Tryz.prog 65 2=some (2,1):=by kernel_rfl
theorem tf65_3:kfld Tryz.prog 65 3=some (3,2):=by kernel_rfl
theorem tpl65_3:kplace Tryz.prog 65 3=some (3,1):=by kernel_rfl
theorem tf65_4:kfld Tryz.prog 65 4=some (4,2):=by kernel_rfl
theorem tpl65_4:kplace Tryz.prog 65 4=some (4,1):=by kernel_rfl
theorem tcn66:kconc Tryz.prog 66=true:=by kernel_rfl
theorem tz66:ksz Tryz.prog 66=some (true,5):=by kernel_rfl
theorem tzero66:kzero Tryz.prog 66=some [.d (.int .i64 0),.d (.int .i64 0),.d (.int .i64 0),.d (.int .i64 0),.d (.int .i64 0)]:=by kernel_rfl
theorem tzv66:kzeroV Tryz.prog 66=some (.agg [.d (.int .i64 0),.d (.int .i64 0),.d (.int .i64 0),.d (.int .i64 0),.d (.int .i64 0)]):=by kernel_rfl
theorem tby66:kbytes Tryz.prog 66=some 40:=by kernel_rfl
theorem tst66:kst Tryz.prog 66=some [(3,0),(2,1),(2,2),(2,3),(2,4)]:=by kernel_rfl
theorem tpls66:kplaces Tryz.prog 66=true:=by kernel_rfl
theorem tf66_0:kfld Tryz.prog 66 0=some (0,3):=by kernel_rfl
theorem tpl66_0:kplace Tryz.prog 66 0=some (0,1):=by kernel_rfl
theorem tf66_1:kfld Tryz.prog 66 1=some (1,2):=by kernel_rfl
theorem tpl66_1:kplace Tryz.prog 66 1=some (1,1):=by kernel_rfl
theorem tf66_2:kfld Tryz.prog 66 2=some (2,2):=by kernel_rfl
theorem tpl66_2:kplace Tryz.prog 66 2=some (2,1):=by kernel_rfl
theorem tf66_3:kfld Tryz.prog 66 3=some (3,2):=by kernel_rfl
theorem tpl66_3:kplace Tryz.prog 66 3=some (3,1):=by kernel_rfl
theorem tf66_4:kfld Tryz.prog 66 4=some (4,2):=by kernel_rfl
theorem tpl66_4:kplace Tryz.prog 66 4=some (4,1):=by kernel_rfl
theorem tz67:ksz Tryz.prog 67=some (false,1):=by kernel_rfl
theorem tzero67:kzero Tryz.prog 67=some [.d .nilfn]:=by kernel_rfl
theorem tcn68:kconc Tryz.prog 68=true:=by kernel_rfl
theorem tz68:ksz Tryz.prog 68=some (true,6):=by kernel_rfl
theorem tzero68:kzero Tryz.prog 68=some [.d (.int .i64 0),.d (.int .i64 0),.d (.int .i64 0),.d (.int .i64 0),.d (.int .i64 0),.d (.int .i64 0)]:=by kernel_rfl
theorem tzv68:kzeroV Tryz.prog 68=some (.agg [.d (.int .i64 0),.d (.int .i64 0),.d (.int .i64 0),.d (.int .i64 0),.d (.int .i64 0),.d (.int .i64 0)]):=by kernel_rfl
theorem tby68:kbytes Tryz.prog 68=some 48:=by kernel_rfl
theorem tpls68:kplaces Tryz.prog 68=true:=by kernel_rfl
theorem tf68_0:kfld Tryz.prog 68 0=some (0,3):=by kernel_rfl
theorem tpl68_0:kplace Tryz.prog 68 0=some (0,1):=by kernel_rfl
theorem tf68_1:kfld Tryz.prog 68 1=some (1,3):=by kernel_rfl
theorem tpl68_1:kplace Tryz.prog 68 1=some (1,1):=by kernel_rfl
theorem tf68_2:kfld Tryz.prog 68 2=some (2,3):=by kernel_rfl
theorem tpl68_2:kplace Tryz.prog 68 2=some (2,1):=by kernel_rfl
theorem tf68_3:kfld Tryz.prog 68 3=some (3,2):=by kernel_rfl
theorem tpl68_3:kplace Tryz.prog 68 3=some (3,1):=by kernel_rfl
theorem tf68_4:kfld Tryz.prog 68 4=some (4,2):=by kernel_rfl
theorem tpl68_4:kplace Tryz.prog 68 4=some (4,1):=by kernel_rfl
theorem tf68_5:kfld Tryz.prog 68 5=some (5,2):=by kernel_rfl
theorem tpl68_5:kplace Tryz.prog 68 5=some (5,1):=by kernel_rfl
theorem tcn69:kconc Tryz.prog 69=true:=by kernel_rfl
theorem tz69:ksz Tryz.prog 69=some (true,6):=by kernel_rfl
theorem tzero69:kzero Tryz.prog 69=some [.d (.int .i64 0),.d (.int .i64 0),.d (.int .i64 0),.d (.int .i64 0),.d (.int .i64 0),.d (.int .i64 0)]:=by kernel_rfl
theorem tzv69:kzeroV Tryz.prog 69=some (.agg [.d (.int .i64 0),.d (.int .i64 0),.d (.int .i64 0),.d (.int .i64 0),.d (.int .i64 0),.d (.int .i64 0)]):=by kernel_rfl
theorem tby69:kbytes Tryz.prog 69=some 48:=by kernel_rfl
theorem tst69:kst Tryz.prog 69=some [(3,0),(3,1),(3,2),(2,3),(2,4),(2,5)]:=by kernel_rfl
theorem tpls69:kplaces Tryz.prog 69=true:=by kernel_rfl
theorem tf69_0:kfld Tryz.prog 69 0=some (0,3):=by kernel_rfl
theorem tpl69_0:kplace Tryz.prog 69 0=some (0,1):=by kernel_rfl
theorem tf69_1:kfld Tryz.prog 69 1=some (1,3):=by kernel_rfl
theorem tpl69_1:kplace Tryz.prog 69 1=some (1,1):=by kernel_rfl
theorem tf69_2:kfld Tryz.prog 69 2=some (2,3):=by kernel_rfl
theorem tpl69_2:kplace Tryz.prog 69 2=some (2,1):=by kernel_rfl
theorem tf69_3:kfld Tryz.prog 69 3=some (3,2):=by kernel_rfl
theorem tpl69_3:kplace Tryz.prog 69 3=some (3,1):=by kernel_rfl
theorem tf69_4:kfld Tryz.prog 69 4=some (4,2):=by kernel_rfl
theorem tpl69_4:kplace Tryz.prog 69 4=some (4,1):=by kernel_rfl
theorem tf69_5:kfld Tryz.prog 69 5=some (5,2):=by kernel_rfl
theorem tpl69_5:kplace Tryz.prog 69 5=some (5,1):=by kernel_rfl
theorem tz70:ksz Tryz.prog 70=some (false,1):=by kernel_rfl
theorem tzero70:kzero Tryz.prog 70=some [.d .nilfn]:=by kernel_rfl
theorem tz71:ksz Tryz.prog 71=some (false,1):=by kernel_rfl
theorem tzero71:kzero Tryz.prog 71=some [.d .nilfn]:=by kernel_rfl
theorem tz72:ksz Tryz.prog 72=some (false,1):=by kernel_rfl
theorem tzero72:kzero Tryz.prog 72=some [.d .nilfn]:=by kernel_rfl
theorem tz73:ksz Tryz.prog 73=some (false,1):=by kernel_rfl
theorem tzero73:kzero Tryz.prog 73=some [.d .nilfn]:=by kernel_rfl
theorem tz74:ksz Tryz.prog 74=some (false,1):=by kernel_rfl
theorem tzero74:kzero Tryz.prog 74=some [.d .nilfn]:=by kernel_rfl
theorem tz75:ksz Tryz.prog 75=some (false,1):=by kernel_rfl
theorem tzero75:kzero Tryz.prog 75=some [.d .nilfn]:=by kernel_rfl
theorem tz76:ksz Tryz.prog 76=some (false,1):=by kernel_rfl
theorem tzero76:kzero Tryz.prog 76=some [.d .nilfn]:=by kernel_rfl
theorem tz77:ksz Tryz.prog 77=some (false,1):=by kernel_rfl
theorem tzero77:kzero Tryz.prog 77=some [.d .nilfn]:=by kernel_rfl
theorem tz78:ksz Tryz.prog 78=some (false,1):=by kernel_rfl
theorem tzero78:kzero Tryz.prog 78=some [.d .nilfn]:=by kernel_rfl
theorem tcn79:kconc Tryz.prog 79=true:=by kernel_rfl
theorem tz79:ksz Tryz.prog 79=some (false,1):=by kernel_rfl
theorem tzero79:kzero Tryz.prog 79=some [.d .nilptr]:=by kernel_rfl
theorem tzv79:kzeroV Tryz.prog 79=some (.d .nilptr):=by kernel_rfl
theorem tby79:kbytes Tryz.prog 79=some 8:=by kernel_rfl
theorem tcn80:kconc Tryz.prog 80=true:=by kernel_rfl
theorem tz80:ksz Tryz.prog 80=some (true,2):=by kernel_rfl
theorem tzero80:kzero Tryz.prog 80=some [.nil,.d (.int .i64 0)]:=by kernel_rfl
theorem tzv80:kzeroV Tryz.prog 80=some (.agg [.nil,.d (.int .i64 0)]):=by kernel_rfl
theorem tby80:kbytes Tryz.prog 80=some 32:=by kernel_rfl
theorem tpls80:kplaces Tryz.prog 80=true:=by kernel_rfl
theorem tf80_0:kfld Tryz.prog 80 0=some (0,24):=by kernel_rfl
theorem tpl80_0:kplace Tryz.prog 80 0=some (0,1):=by kernel_rfl
theorem tf80_1:kfld Tryz.prog 80 1=some (1,3):=by kernel_rfl
theorem tpl80_1:kplace Tryz.prog 80 1=some (1,1):=by kernel_rfl
theorem tcn81:kconc Tryz.prog 81=true:=by kernel_rfl
theorem tz81:ksz Tryz.prog 81=some (true,2):=by kernel_rfl
theorem tzero81:kzero Tryz.prog 81=some [.nil,.d (.int .i64 0)]:=by kernel_rfl
theorem tzv81:kzeroV Tryz.prog 81=some (.agg [.nil,.d (.int .i64 0)]):=by kernel_rfl
theorem tby81:kbytes Tryz.prog 81=some 32:=by kernel_rfl
theorem tst81:kst Tryz.prog 81=some [(24,0),(3,1)]:=by kernel_rfl
theorem tpls81:kplaces Tryz.prog 81=true:=by kernel_rfl
theorem tf81_0:kfld Tryz.prog 81 0=some (0,24):=by kernel_rfl
theorem tpl81_0:kplace Tryz.prog 81 0=some (0,1):=by kernel_rfl
theorem tf81_1:kfld Tryz.prog 81 1=some (1,3):=by kernel_rfl
theorem tpl81_1:kplace Tryz.prog 81 1=some (1,1):=by kernel_rfl
theorem tz82:ksz Tryz.prog 82=some (false,1):=by kernel_rfl
theorem tzero82:kzero Tryz.prog 82=some [.d .nilfn]:=by kernel_rfl
theorem tz83:ksz Tryz.prog 83=some (false,1):=by kernel_rfl
theorem tzero83:kzero Tryz.prog 83=some [.d .nilfn]:=by kernel_rfl
theorem tz84:ksz Tryz.prog 84=some (false,1):=by kernel_rfl
theorem tzero84:kzero Tryz.prog 84=some [.d .nilfn]:=by kernel_rfl
theorem tz85:ksz Tryz.prog 85=some (false,1):=by kernel_rfl
theorem tzero85:kzero Tryz.prog 85=some [.d .nilfn]:=by kernel_rfl
theorem tcn86:kconc Tryz.prog 86=true:=by kernel_rfl
theorem tz86:ksz Tryz.prog 86=some (false,1):=by kernel_rfl
theorem tzero86:kzero Tryz.prog 86=some [.nil]:=by kernel_rfl
theorem tzv86:kzeroV Tryz.prog 86=some (.nil):=by kernel_rfl
theorem tby86:kbytes Tryz.prog 86=some 24:=by kernel_rfl
theorem tel86:kel Tryz.prog 86=some (none,2,119):=by kernel_rfl
theorem tsl86:ksl Tryz.prog 86=true:=by kernel_rfl
theorem tstr86:kstr Tryz.prog 86=false:=by kernel_rfl
theorem tseq86:kseq Tryz.prog 86=true:=by kernel_rfl
theorem tz88:ksz Tryz.prog 88=some (false,1):=by kernel_rfl
theorem tzero88:kzero Tryz.prog 88=some [.d .nilfn]:=by kernel_rfl
theorem tz89:ksz Tryz.prog 89=some (false,1):=by kernel_rfl
theorem tzero89:kzero Tryz.prog 89=some [.d .nilfn]:=by kernel_rfl
theorem tcn90:kconc Tryz.prog 90=true:=by kernel_rfl
theorem tz90:ksz Tryz.prog 90=some (true,10):=by kernel_rfl
theorem tzero90:kzero Tryz.prog 90=some [.d (.int .i64 0),.d (.int .i64 0),.d (.int .i64 0),.d (.int .i64 0),.d (.int .i64 0),.d (.int .i64 0),.d (.int .i64 0),.d (.int .i64 0),.d (.int .i64 0),.d (.int .i64 0)]:=by kernel_rfl
theorem tzv90:kzeroV Tryz.prog 90=some (.agg [.d (.int .i64 0),.d (.int .i64 0),.d (.int .i64 0),.d (.int .i64 0),.d (.int .i64 0),.d (.int .i64 0),.d (.int .i64 0),.d (.int .i64 0),.d (.int .i64 0),.d (.int .i64 0)]):=by kernel_rfl
theorem tby90:kbytes Tryz.prog 90=some 80:=by kernel_rfl
theorem tel90:kel Tryz.prog 90=some (some 10,1,2):=by kernel_rfl
theorem tpls90:kplaces Tryz.prog 90=true:=by kernel_rfl
theorem tpl90_0:kplace Tryz.prog 90 0=some (0,1):=by kernel_rfl
theorem tpl90_1:kplace Tryz.prog 90 1=some (1,1):=by kernel_rfl
theorem tpl90_2:kplace Tryz.prog 90 2=some (2,1):=by kernel_rfl
theorem tpl90_3:kplace Tryz.prog 90 3=some (3,1):=by kernel_rfl
theorem tpl90_4:kplace Tryz.prog 90 4=some (4,1):=by kernel_rfl
theorem tpl90_5:kplace Tryz.prog 90 5=some (5,1):=by kernel_rfl
theorem tpl90_6:kplace Tryz.prog 90 6=some (6,1):=by kernel_rfl
theorem tpl90_7:kplace Tryz.prog 90 7=some (7,1):=by kernel_rfl
theorem tz92:ksz Tryz.prog 92=some (false,1):=by kernel_rfl
theorem tzero92:kzero Tryz.prog 92=some [.d .nilfn]:=by kernel_rfl
theorem tz93:ksz Tryz.prog 93=some (false,1):=by kernel_rfl
theorem tzero93:kzero Tryz.prog 93=some [.d .nilfn]:=by kernel_rfl
theorem tz94:ksz Tryz.prog 94=some (false,1):=by kernel_rfl
theorem tzero94:kzero Tryz.prog 94=some [.d .nilfn]:=by kernel_rfl
theorem tz95:ksz Tryz.prog 95=some (false,1):=by kernel_rfl
theorem tzero95:kzero Tryz.prog 95=some [.d .nilfn]:=by kernel_rfl
theorem tz96:ksz Tryz.prog 96=some (false,1):=by kernel_rfl
theorem tzero96:kzero Tryz.prog 96=some [.d .nilfn]:=by kernel_rfl
theorem tcn97:kconc Tryz.prog 97=true:=by kernel_rfl
theorem tz97:ksz Tryz.prog 97=some (false,1):=by kernel_rfl
theorem tzero97:kzero Tryz.prog 97=some [.nil]:=by kernel_rfl
theorem tzv97:kzeroV Tryz.prog 97=some (.nil):=by kernel_rfl
theorem tby97:kbytes Tryz.prog 97=some 24:=by kernel_rfl
theorem tel97:kel Tryz.prog 97=some (none,2,148):=by kernel_rfl
theorem tsl97:ksl Tryz.prog 97=true:=by kernel_rfl
theorem tstr97:kstr Tryz.prog 97=false:=by kernel_rfl
theorem tseq97:kseq Tryz.prog 97=true:=by kernel_rfl
theorem tcn98:kconc Tryz.prog 98=true:=by kernel_rfl
theorem tz98:ksz Tryz.prog 98=some (true,3):=by kernel_rfl
theorem tzero98:kzero Tryz.prog 98=some [.nil,.nil,.nil]:=by kernel_rfl
theorem tzv98:kzeroV Tryz.prog 98=some (.agg [.nil,.nil,.nil]):=by kernel_rfl
theorem tby98:kbytes Tryz.prog 98=some 72:=by kernel_rfl
theorem tpls98:kplaces Tryz.prog 98=true:=by kernel_rfl
theorem tf98_0:kfld Tryz.prog 98 0=some (0,22):=by kernel_rfl
theorem tpl98_0:kplace Tryz.prog 98 0=some (0,1):=by kernel_rfl
theorem tf98_1:kfld Tryz.prog 98 1=some (1,97):=by kernel_rfl
theorem tpl98_1:kplace Tryz.prog 98 1=some (1,1):=by kernel_rfl
theorem tf98_2:kfld Tryz.prog 98 2=some (2,29):=by kernel_rfl
theorem tpl98_2:kplace Tryz.prog 98 2=some (2,1):=by kernel_rfl
theorem tcn99:kconc Tryz.prog 99=true:=by kernel_rfl
theorem tz99:ksz Tryz.prog 99=some (true,3):=by kernel_rfl
theorem tzero99:kzero Tryz.prog 99=some [.nil,.nil,.nil]:=by kernel_rfl
theorem tzv99:kzeroV Tryz.prog 99=some (.agg [.nil,.nil,.nil]):=by kernel_rfl
theorem tby99:kbytes Tryz.prog 99=some 72:=by kernel_rfl
theorem tst99:kst Tryz.prog 99=some [(22,0),(97,1),(29,2)]:=by kernel_rfl
theorem tpls99:kplaces Tryz.prog 99=true:=by kernel_rfl
theorem tf99_0:kfld Tryz.prog 99 0=some (0,22):=by kernel_rfl
theorem tpl99_0:kplace Tryz.prog 99 0=some (0,1):=by kernel_rfl
theorem tf99_1:kfld Tryz.prog 99 1=some (1,97):=by kernel_rfl
theorem tpl99_1:kplace Tryz.prog 99 1=some (1,1):=by kernel_rfl
theorem tf99_2:kfld Tryz.prog 99 2=some (2,29):=by kernel_rfl
theorem tpl99_2:kplace Tryz.prog 99 2=some (2,1):=by kernel_rfl
theorem tz101:ksz Tryz.prog 101=some (false,1):=by kernel_rfl
theorem tzero101:kzero Tryz.prog 101=some [.d .nilfn]:=by kernel_rfl
theorem tz102:ksz Tryz.prog 102=some (false,1):=by kernel_rfl
theorem tzero102:kzero Tryz.prog 102=some [.d .nilfn]:=by kernel_rfl
theorem tz103:ksz Tryz.prog 103=some (false,1):=by kernel_rfl
theorem tzero103:kzero Tryz.prog 103=some [.d .nilfn]:=by kernel_rfl
theorem tz104:ksz Tryz.prog 104=some (false,1):=by kernel_rfl
theorem tzero104:kzero Tryz.prog 104=some [.d .nilfn]:=by kernel_rfl
theorem tz105:ksz Tryz.prog 105=some (false,1):=by kernel_rfl
theorem tzero105:kzero Tryz.prog 105=some [.d .nilfn]:=by kernel_rfl
theorem tz106:ksz Tryz.prog 106=some (false,1):=by kernel_rfl
theorem tzero106:kzero Tryz.prog 106=some [.d .nilfn]:=by kernel_rfl
theorem tz107:ksz Tryz.prog 107=some (false,1):=by kernel_rfl
theorem tzero107:kzero Tryz.prog 107=some [.d .nilfn]:=by kernel_rfl
theorem tcn108:kconc Tryz.prog 108=true:=by kernel_rfl
theorem tz108:ksz Tryz.prog 108=some (false,1):=by kernel_rfl
theorem tzero108:kzero Tryz.prog 108=some [.d .nilmap]:=by kernel_rfl
theorem tzv108:kzeroV Tryz.prog 108=some (.d .nilmap):=by kernel_rfl
theorem tmap108:kmap Tryz.prog 108=some (148,3):=by kernel_rfl
theorem tby108:kbytes Tryz.prog 108=some 8:=by kernel_rfl
theorem tcn109:kconc Tryz.prog 109=true:=by kernel_rfl
theorem tz109:ksz Tryz.prog 109=some (true,5):=by kernel_rfl
theorem tzero109:kzero Tryz.prog 109=some [.nil,.nil,.nil,.nil,.d .nilmap]:=by kernel_rfl
theorem tzv109:kzeroV Tryz.prog 109=some (.agg [.nil,.nil,.nil,.nil,.d .nilmap]):=by kernel_rfl
theorem tby109:kbytes Tryz.prog 109=some 104:=by kernel_rfl
theorem tpls109:kplaces Tryz.prog 109=true:=by kernel_rfl
theorem tf109_0:kfld Tryz.prog 109 0=some (0,99):=by kernel_rfl
theorem tpl109_0:kplace Tryz.prog 109 0=some (0,3):=by kernel_rfl
theorem tf109_1:kfld Tryz.prog 109 1=some (3,23):=by kernel_rfl
theorem tpl109_1:kplace Tryz.prog 109 1=some (3,1):=by kernel_rfl
theorem tf109_2:kfld Tryz.prog 109 2=some (4,108):=by kernel_rfl
theorem tpl109_2:kplace Tryz.prog 109 2=some (4,1):=by kernel_rfl
theorem tcn110:kconc Tryz.prog 110=true:=by kernel_rfl
theorem tz110:ksz Tryz.prog 110=some (true,5):=by kernel_rfl
theorem tzero110:kzero Tryz.prog 110=some [.nil,.nil,.nil,.nil,.d .nilmap]:=by kernel_rfl
theorem tzv110:kzeroV Tryz.prog 110=some (.agg [.nil,.nil,.nil,.nil,.d .nilmap]):=by kernel_rfl
theorem tby110:kbytes Tryz.prog 110=some 104:=by kernel_rfl
theorem tst110:kst Tryz.prog 110=some [(99,0),(23,3),(108,4)]:=by kernel_rfl
theorem tpls110:kplaces Tryz.prog 110=true:=by kernel_rfl
theorem tf110_0:kfld Tryz.prog 110 0=some (0,99):=by kernel_rfl
theorem tpl110_0:kplace Tryz.prog 110 0=some (0,3):=by kernel_rfl
theorem tf110_1:kfld Tryz.prog 110 1=some (3,23):=by kernel_rfl
theorem tpl110_1:kplace Tryz.prog 110 1=some (3,1):=by kernel_rfl
theorem tf110_2:kfld Tryz.prog 110 2=some (4,108):=by kernel_rfl
theorem tpl110_2:kplace Tryz.prog 110 2=some (4,1):=by kernel_rfl
theorem tz111:ksz Tryz.prog 111=some (false,1):=by kernel_rfl
theorem tzero111:kzero Tryz.prog 111=some [.d .nilfn]:=by kernel_rfl
theorem tz112:ksz Tryz.prog 112=some (false,1):=by kernel_rfl
theorem tzero112:kzero Tryz.prog 112=some [.d .nilfn]:=by kernel_rfl
theorem tz113:ksz Tryz.prog 113=some (false,1):=by kernel_rfl
theorem tzero113:kzero Tryz.prog 113=some [.d .nilfn]:=by kernel_rfl
theorem tz114:ksz Tryz.prog 114=some (false,1):=by kernel_rfl
theorem tzero114:kzero Tryz.prog 114=some [.d .nilfn]:=by kernel_rfl
theorem tz115:ksz Tryz.prog 115=some (false,1):=by kernel_rfl
theorem tzero115:kzero Tryz.prog 115=some [.d .nilfn]:=by kernel_rfl
theorem tz117:ksz Tryz.prog 117=some (false,1):=by kernel_rfl
theorem tzero117:kzero Tryz.prog 117=some [.d .nilfn]:=by kernel_rfl
theorem tcn118:kconc Tryz.prog 118=true:=by kernel_rfl
theorem tz118:ksz Tryz.prog 118=some (true,2):=by kernel_rfl
theorem tzero118:kzero Tryz.prog 118=some [.d (.int .i64 0),.d (.bool false)]:=by kernel_rfl
theorem tzv118:kzeroV Tryz.prog 118=some (.agg [.d (.int .i64 0),.d (.bool false)]):=by kernel_rfl
theorem tby118:kbytes Tryz.prog 118=some 16:=by kernel_rfl
theorem tpls118:kplaces Tryz.prog 118=true:=by kernel_rfl
theorem tf118_0:kfld Tryz.prog 118 0=some (0,2):=by kernel_rfl
theorem tpl118_0:kplace Tryz.prog 118 0=some (0,1):=by kernel_rfl
theorem tf118_1:kfld Tryz.prog 118 1=some (1,4):=by kernel_rfl
theorem tpl118_1:kplace Tryz.prog 118 1=some (1,1):=by kernel_rfl
theorem tcn119:kconc Tryz.prog 119=true:=by kernel_rfl
theorem tz119:ksz Tryz.prog 119=some (true,2):=by kernel_rfl
theorem tzero119:kzero Tryz.prog 119=some [.d (.int .i64 0),.d (.bool false)]:=by kernel_rfl
theorem tzv119:kzeroV Tryz.prog 119=some (.agg [.d (.int .i64 0),.d (.bool false)]):=by kernel_rfl
theorem tby119:kbytes Tryz.prog 119=some 16:=by kernel_rfl
theorem tst119:kst Tryz.prog 119=some [(2,0),(4,1)]:=by kernel_rfl
theorem tpls119:kplaces Tryz.prog 119=true:=by kernel_rfl
theorem tf119_0:kfld Tryz.prog 119 0=some (0,2):=by kernel_rfl
theorem tpl119_0:kplace Tryz.prog 119 0=some (0,1):=by kernel_rfl
theorem tf119_1:kfld Tryz.prog 119 1=some (1,4):=by kernel_rfl
theorem tpl119_1:kplace Tryz.prog 119 1=some (1,1):=by kernel_rfl
theorem tz120:ksz Tryz.prog 120=some (false,1):=by kernel_rfl
theorem tzero120:kzero Tryz.prog 120=some [.d .nilfn]:=by kernel_rfl
theorem tz121:ksz Tryz.prog 121=some (false,1):=by kernel_rfl
theorem tzero121:kzero Tryz.prog 121=some [.d .nilfn]:=by kernel_rfl
theorem tz122:ksz Tryz.prog 122=some (false,1):=by kernel_rfl
theorem tzero122:kzero Tryz.prog 122=some [.d .nilfn]:=by kernel_rfl
theorem tcn123:kconc Tryz.prog 123=true:=by kernel_rfl
theorem tz123:ksz Tryz.prog 123=some (false,1):=by kernel_rfl
theorem tzero123:kzero Tryz.prog 123=some [.nil]:=by kernel_rfl
theorem tzv123:kzeroV Tryz.prog 123=some (.nil):=by kernel_rfl
theorem tby123:kbytes Tryz.prog 123=some 24:=by kernel_rfl
theorem tel123:kel Tryz.prog 123=some (none,1,24):=by kernel_rfl
theorem tsl123:ksl Tryz.prog 123=true:=by kernel_rfl
theorem tstr123:kstr Tryz.prog 123=false:=by kernel_rfl
theorem tseq123:kseq Tryz.prog 123=true:=by kernel_rfl
theorem tcn124:kconc Tryz.prog 124=true:=by kernel_rfl
theorem tz124:ksz Tryz.prog 124=some (false,1):=by kernel_rfl
theorem tzero124:kzero Tryz.prog 124=some [.nil]:=by kernel_rfl
theorem tzv124:kzeroV Tryz.prog 124=some (.nil):=by kernel_rfl
theorem tby124:kbytes Tryz.prog 124=some 24:=by kernel_rfl
theorem tel124:kel Tryz.prog 124=some (none,1,24):=by kernel_rfl
theorem tsl124:ksl Tryz.prog 124=true:=by kernel_rfl
theorem tstr124:kstr Tryz.prog 124=false:=by kernel_rfl
theorem tseq124:kseq Tryz.prog 124=true:=by kernel_rfl
theorem tz125:ksz Tryz.prog 125=some (false,1):=by kernel_rfl
theorem tzero125:kzero Tryz.prog 125=some [.d .nilfn]:=by kernel_rfl
theorem tz126:ksz Tryz.prog 126=some (false,1):=by kernel_rfl
theorem tzero126:kzero Tryz.prog 126=some [.d .nilfn]:=by kernel_rfl
theorem tz127:ksz Tryz.prog 127=some (false,1):=by kernel_rfl
theorem tzero127:kzero Tryz.prog 127=some [.d .nilfn]:=by kernel_rfl
theorem tz128:ksz Tryz.prog 128=some (false,1):=by kernel_rfl
theorem tzero128:kzero Tryz.prog 128=some [.d .nilfn]:=by kernel_rfl
theorem tz129:ksz Tryz.prog 129=some (false,1):=by kernel_rfl
theorem tzero129:kzero Tryz.prog 129=some [.d .nilfn]:=by kernel_rfl
theorem tz130:ksz Tryz.prog 130=some (false,1):=by kernel_rfl
theorem tzero130:kzero Tryz.prog 130=some [.d .nilfn]:=by kernel_rfl
theorem tz131:ksz Tryz.prog 131=some (false,1):=by kernel_rfl
theorem tzero131:kzero Tryz.prog 131=some [.d .nilfn]:=by kernel_rfl
theorem tz132:ksz Tryz.prog 132=some (false,1):=by kernel_rfl
theorem tzero132:kzero Tryz.prog 132=some [.d .nilfn]:=by kernel_rfl
theorem tz133:ksz Tryz.prog 133=some (false,1):=by kernel_rfl
theorem tzero133:kzero Tryz.prog 133=some [.d .nilfn]:=by kernel_rfl
theorem tz134:ksz Tryz.prog 134=some (false,1):=by kernel_rfl
theorem tzero134:kzero Tryz.prog 134=some [.d .nilfn]:=by kernel_rfl
theorem tz135:ksz Tryz.prog 135=some (false,1):=by kernel_rfl
theorem tzero135:kzero Tryz.prog 135=some [.d .nilfn]:=by kernel_rfl
theorem tz136:ksz Tryz.prog 136=some (false,1):=by kernel_rfl
theorem tzero136:kzero Tryz.prog 136=some [.d .nilfn]:=by kernel_rfl
theorem tz138:ksz Tryz.prog 138=some (false,1):=by kernel_rfl
theorem tzero138:kzero Tryz.prog 138=some [.d .nilfn]:=by kernel_rfl
theorem tcn139:kconc Tryz.prog 139=true:=by kernel_rfl
theorem tz139:ksz Tryz.prog 139=some (true,8):=by kernel_rfl
theorem tzero139:kzero Tryz.prog 139=some [.d (.str ByteArray.empty),.d (.str ByteArray.empty),.d (.str ByteArray.empty),.d (.str ByteArray.empty),.d (.str ByteArray.empty),.d (.str ByteArray.empty),.d (.str ByteArray.empty),.d (.str ByteArray.empty)]:=by kernel_rfl
theorem tzv139:kzeroV Tryz.prog 139=some (.agg [.d (.str ByteArray.empty),.d (.str ByteArray.empty),.d (.str ByteArray.empty),.d (.str ByteArray.empty),.d (.str ByteArray.empty),.d (.str ByteArray.empty),.d (.str ByteArray.empty),.d (.str ByteArray.empty)]):=by kernel_rfl
theorem tby139:kbytes Tryz.prog 139=some 128:=by kernel_rfl
theorem tel139:kel Tryz.prog 139=some (some 8,1,9):=by kernel_rfl
theorem tpls139:kplaces Tryz.prog 139=true:=by kernel_rfl
theorem tpl139_0:kplace Tryz.prog 139 0=some (0,1):=by kernel_rfl
theorem tpl139_1:kplace Tryz.prog 139 1=some (1,1):=by kernel_rfl
theorem tpl139_2:kplace Tryz.prog 139 2=some (2,1):=by kernel_rfl
theorem tpl139_3:kplace Tryz.prog 139 3=some (3,1):=by kernel_rfl
theorem tpl139_4:kplace Tryz.prog 139 4=some (4,1):=by kernel_rfl
theorem tpl139_5:kplace Tryz.prog 139 5=some (5,1):=by kernel_rfl
theorem tpl139_6:kplace Tryz.prog 139 6=some (6,1):=by kernel_rfl
theorem tpl139_7:kplace Tryz.prog 139 7=some (7,1):=by kernel_rfl
theorem tz140:ksz Tryz.prog 140=some (false,1):=by kernel_rfl
theorem tzero140:kzero Tryz.prog 140=some [.d .nilfn]:=by kernel_rfl
theorem tcn141:kconc Tryz.prog 141=true:=by kernel_rfl
theorem tz141:ksz Tryz.prog 141=some (true,3):=by kernel_rfl
theorem tzero141:kzero Tryz.prog 141=some [.d (.int .i64 0),.d (.int .i64 0),.d (.int .i64 0)]:=by kernel_rfl
theorem tzv141:kzeroV Tryz.prog 141=some (.agg [.d (.int .i64 0),.d (.int .i64 0),.d (.int .i64 0)]):=by kernel_rfl
theorem tby141:kbytes Tryz.prog 141=some 24:=by kernel_rfl
theorem tel141:kel Tryz.prog 141=some (some 3,1,2):=by kernel_rfl
theorem tpls141:kplaces Tryz.prog 141=true:=by kernel_rfl
theorem tpl141_0:kplace Tryz.prog 141 0=some (0,1):=by kernel_rfl
theorem tpl141_1:kplace Tryz.prog 141 1=some (1,1):=by kernel_rfl
theorem tpl141_2:kplace Tryz.prog 141 2=some (2,1):=by kernel_rfl
theorem tz143:ksz Tryz.prog 143=some (false,1):=by kernel_rfl
theorem tzero143:kzero Tryz.prog 143=some [.d .nilfn]:=by kernel_rfl
theorem tz144:ksz Tryz.prog 144=some (false,1):=by kernel_rfl
theorem tzero144:kzero Tryz.prog 144=some [.d .nilfn]:=by kernel_rfl
theorem tz145:ksz Tryz.prog 145=some (false,1):=by kernel_rfl
theorem tzero145:kzero Tryz.prog 145=some [.d .nilfn]:=by kernel_rfl
theorem tz146:ksz Tryz.prog 146=some (false,1):=by kernel_rfl
theorem tzero146:kzero Tryz.prog 146=some [.d .nilfn]:=by kernel_rfl
theorem tz147:ksz Tryz.prog 147=some (false,1):=by kernel_rfl
theorem tzero147:kzero Tryz.prog 147=some [.d .nilfn]:=by kernel_rfl
theorem tcn148:kconc Tryz.prog 148=true:=by kernel_rfl
theorem tz148:ksz Tryz.prog 148=some (true,2):=by kernel_rfl
theorem tzero148:kzero Tryz.prog 148=some [.d (.int .i64 0),.d (.int .i64 0)]:=by kernel_rfl
theorem tzv148:kzeroV Tryz.prog 148=some (.agg [.d (.int .i64 0),.d (.int .i64 0)]):=by kernel_rfl
theorem tby148:kbytes Tryz.prog 148=some 16:=by kernel_rfl
theorem tel148:kel Tryz.prog 148=some (some 2,1,3):=by kernel_rfl
theorem tpls148:kplaces Tryz.prog 148=true:=by kernel_rfl
theorem tpl148_0:kplace Tryz.prog 148 0=some (0,1):=by kernel_rfl
theorem tpl148_1:kplace Tryz.prog 148 1=some (1,1):=by kernel_rfl
theorem tz149:ksz Tryz.prog 149=some (false,1):=by kernel_rfl
theorem tzero149:kzero Tryz.prog 149=some [.d .nilfn]:=by kernel_rfl
theorem tz151:ksz Tryz.prog 151=some (false,1):=by kernel_rfl
theorem tzero151:kzero Tryz.prog 151=some [.d .nilfn]:=by kernel_rfl
theorem tcn152:kconc Tryz.prog 152=false:=by kernel_rfl
theorem tz152:ksz Tryz.prog 152=some (false,1):=by kernel_rfl
theorem tzero152:kzero Tryz.prog 152=some [.d .niliface]:=by kernel_rfl
theorem tzv152:kzeroV Tryz.prog 152=some (.d .niliface):=by kernel_rfl
theorem tif152:kif Tryz.prog 152=true:=by kernel_rfl
theorem tby152:kbytes Tryz.prog 152=some 16:=by kernel_rfl
theorem tcn153:kconc Tryz.prog 153=false:=by kernel_rfl
theorem tz153:ksz Tryz.prog 153=some (false,1):=by kernel_rfl
theorem tzero153:kzero Tryz.prog 153=some [.d .niliface]:=by kernel_rfl
theorem tzv153:kzeroV Tryz.prog 153=some (.d .niliface):=by kernel_rfl
theorem tif153:kif Tryz.prog 153=true:=by kernel_rfl
theorem tby153:kbytes Tryz.prog 153=some 16:=by kernel_rfl
theorem tz155:ksz Tryz.prog 155=some (false,1):=by kernel_rfl
theorem tzero155:kzero Tryz.prog 155=some [.d .nilfn]:=by kernel_rfl
theorem tz156:ksz Tryz.prog 156=some (false,1):=by kernel_rfl
theorem tzero156:kzero Tryz.prog 156=some [.d .nilfn]:=by kernel_rfl
theorem tz157:ksz Tryz.prog 157=some (false,1):=by kernel_rfl
theorem tzero157:kzero Tryz.prog 157=some [.d .nilfn]:=by kernel_rfl
theorem tcn158:kconc Tryz.prog 158=true:=by kernel_rfl
theorem tz158:ksz Tryz.prog 158=some (true,3):=by kernel_rfl
theorem tzero158:kzero Tryz.prog 158=some [.d (.int .i64 0),.d (.int .i64 0),.d (.int .i64 0)]:=by kernel_rfl
theorem tzv158:kzeroV Tryz.prog 158=some (.agg [.d (.int .i64 0),.d (.int .i64 0),.d (.int .i64 0)]):=by kernel_rfl
theorem tby158:kbytes Tryz.prog 158=some 24:=by kernel_rfl
theorem tel158:kel Tryz.prog 158=some (some 3,1,3):=by kernel_rfl
theorem tpls158:kplaces Tryz.prog 158=true:=by kernel_rfl
theorem tpl158_0:kplace Tryz.prog 158 0=some (0,1):=by kernel_rfl
theorem tpl158_1:kplace Tryz.prog 158 1=some (1,1):=by kernel_rfl
theorem tpl158_2:kplace Tryz.prog 158 2=some (2,1):=by kernel_rfl
theorem tz159:ksz Tryz.prog 159=some (false,1):=by kernel_rfl
theorem tzero159:kzero Tryz.prog 159=some [.d .nilfn]:=by kernel_rfl
theorem tz160:ksz Tryz.prog 160=some (false,1):=by kernel_rfl
theorem tzero160:kzero Tryz.prog 160=some [.d .nilfn]:=by kernel_rfl
theorem tz161:ksz Tryz.prog 161=some (false,1):=by kernel_rfl
theorem tzero161:kzero Tryz.prog 161=some [.d .nilfn]:=by kernel_rfl
theorem tz162:ksz Tryz.prog 162=some (false,1):=by kernel_rfl
theorem tzero162:kzero Tryz.prog 162=some [.d .nilfn]:=by kernel_rfl
theorem tz163:ksz Tryz.prog 163=some (false,1):=by kernel_rfl
theorem tzero163:kzero Tryz.prog 163=some [.d .nilfn]:=by kernel_rfl
theorem tz164:ksz Tryz.prog 164=some (false,1):=by kernel_rfl
theorem tzero164:kzero Tryz.prog 164=some [.d .nilfn]:=by kernel_rfl
theorem tcn165:kconc Tryz.prog 165=true:=by kernel_rfl
theorem tz165:ksz Tryz.prog 165=some (false,1):=by kernel_rfl
theorem tzero165:kzero Tryz.prog 165=some [.d (.int .u64 0)]:=by kernel_rfl
theorem tzv165:kzeroV Tryz.prog 165=some (.d (.int .u64 0)):=by kernel_rfl
theorem tby165:kbytes Tryz.prog 165=some 8:=by kernel_rfl
theorem tint165:kint Tryz.prog 165=some .u64:=by kernel_rfl
theorem tstr165:kstr Tryz.prog 165=false:=by kernel_rfl
theorem tlf165:klf Tryz.prog 165=1:=by kernel_rfl
theorem tz166:ksz Tryz.prog 166=some (false,1):=by kernel_rfl
theorem tzero166:kzero Tryz.prog 166=some [.d .nilfn]:=by kernel_rfl
theorem tcn167:kconc Tryz.prog 167=true:=by kernel_rfl
theorem tz167:ksz Tryz.prog 167=some (false,1):=by kernel_rfl
theorem tzero167:kzero Tryz.prog 167=some [.d (.int .i64 0)]:=by kernel_rfl
theorem tzv167:kzeroV Tryz.prog 167=some (.d (.int .i64 0)):=by kernel_rfl
theorem tby167:kbytes Tryz.prog 167=some 8:=by kernel_rfl
theorem tint167:kint Tryz.prog 167=some .i64:=by kernel_rfl
theorem tstr167:kstr Tryz.prog 167=false:=by kernel_rfl
theorem tlf167:klf Tryz.prog 167=1:=by kernel_rfl
theorem tcn168:kconc Tryz.prog 168=true:=by kernel_rfl
theorem tz168:ksz Tryz.prog 168=some (false,1):=by kernel_rfl
theorem tzero168:kzero Tryz.prog 168=some [.d (.int .u64 0)]:=by kernel_rfl
theorem tzv168:kzeroV Tryz.prog 168=some (.d (.int .u64 0)):=by kernel_rfl
theorem tby168:kbytes Tryz.prog 168=some 8:=by kernel_rfl
theorem tint168:kint Tryz.prog 168=some .u64:=by kernel_rfl
theorem tstr168:kstr Tryz.prog 168=false:=by kernel_rfl
theorem tlf168:klf Tryz.prog 168=1:=by kernel_rfl
theorem tz170:ksz Tryz.prog 170=some (false,1):=by kernel_rfl
theorem tzero170:kzero Tryz.prog 170=some [.d .nilfn]:=by kernel_rfl
theorem tcn171:kconc Tryz.prog 171=true:=by kernel_rfl
theorem tz171:ksz Tryz.prog 171=some (false,1):=by kernel_rfl
theorem tzero171:kzero Tryz.prog 171=some [.d .nilptr]:=by kernel_rfl
theorem tzv171:kzeroV Tryz.prog 171=some (.d .nilptr):=by kernel_rfl
theorem tby171:kbytes Tryz.prog 171=some 8:=by kernel_rfl
theorem tz172:ksz Tryz.prog 172=some (false,1):=by kernel_rfl
theorem tzero172:kzero Tryz.prog 172=some [.d .nilfn]:=by kernel_rfl
theorem tz173:ksz Tryz.prog 173=some (false,1):=by kernel_rfl
theorem tzero173:kzero Tryz.prog 173=some [.d .nilfn]:=by kernel_rfl
theorem tz174:ksz Tryz.prog 174=some (false,1):=by kernel_rfl
theorem tzero174:kzero Tryz.prog 174=some [.d .nilfn]:=by kernel_rfl
theorem tcn175:kconc Tryz.prog 175=true:=by kernel_rfl
theorem tz175:ksz Tryz.prog 175=some (true,24):=by kernel_rfl
theorem tzero175:kzero Tryz.prog 175=some [.d (.int .u8 0),.d (.int .u8 0),.d (.int .u8 0),.d (.int .u8 0),.d (.int .u8 0),.d (.int .u8 0),.d (.int .u8 0),.d (.int .u8 0),.d (.int .u8 0),.d (.int .u8 0),.d (.int .u8 0),.d (.int .u8 0),.d (.int .u8 0),.d (.int .u8 0),.d (.int .u8 0),.d (.int .u8 0),.d (.int .u8 0),.d (.int .u8 0),.d (.int .u8 0),.d (.int .u8 0),.d (.int .u8 0),.d (.int .u8 0),.d (.int .u8 0),.d (.int .u8 0)]:=by kernel_rfl
theorem tby175:kbytes Tryz.prog 175=some 24:=by kernel_rfl
theorem tel175:kel Tryz.prog 175=some (some 24,1,5):=by kernel_rfl
theorem tpls175:kplaces Tryz.prog 175=true:=by kernel_rfl
theorem tpl175_0:kplace Tryz.prog 175 0=some (0,1):=by kernel_rfl
theorem tpl175_1:kplace Tryz.prog 175 1=some (1,1):=by kernel_rfl
theorem tpl175_2:kplace Tryz.prog 175 2=some (2,1):=by kernel_rfl
theorem tpl175_3:kplace Tryz.prog 175 3=some (3,1):=by kernel_rfl
theorem tpl175_4:kplace Tryz.prog 175 4=some (4,1):=by kernel_rfl
theorem tpl175_5:kplace Tryz.prog 175 5=some (5,1):=by kernel_rfl
theorem tpl175_6:kplace Tryz.prog 175 6=some (6,1):=by kernel_rfl
theorem tpl175_7:kplace Tryz.prog 175 7=some (7,1):=by kernel_rfl
theorem tz176:ksz Tryz.prog 176=some (false,1):=by kernel_rfl
theorem tzero176:kzero Tryz.prog 176=some [.d .nilfn]:=by kernel_rfl
theorem tz177:ksz Tryz.prog 177=some (false,1):=by kernel_rfl
theorem tzero177:kzero Tryz.prog 177=some [.d .nilfn]:=by kernel_rfl
theorem tcn178:kconc Tryz.prog 178=true:=by kernel_rfl
theorem tz178:ksz Tryz.prog 178=some (false,1):=by kernel_rfl
theorem tzero178:kzero Tryz.prog 178=some [.nil]:=by kernel_rfl
theorem tzv178:kzeroV Tryz.prog 178=some (.nil):=by kernel_rfl
theorem tby178:kbytes Tryz.prog 178=some 24:=by kernel_rfl
theorem tel178:kel Tryz.prog 178=some (none,1,5):=by kernel_rfl
theorem tsl178:ksl Tryz.prog 178=true:=by kernel_rfl
theorem tstr178:kstr Tryz.prog 178=false:=by kernel_rfl
theorem tseq178:kseq Tryz.prog 178=true:=by kernel_rfl
theorem tz180:ksz Tryz.prog 180=some (false,1):=by kernel_rfl
theorem tzero180:kzero Tryz.prog 180=some [.d .nilfn]:=by kernel_rfl
theorem tz181:ksz Tryz.prog 181=some (false,1):=by kernel_rfl
theorem tzero181:kzero Tryz.prog 181=some [.d .nilfn]:=by kernel_rfl
theorem tcn182:kconc Tryz.prog 182=true:=by kernel_rfl
theorem tz182:ksz Tryz.prog 182=some (false,1):=by kernel_rfl
theorem tzero182:kzero Tryz.prog 182=some [.d (.int .u32 0)]:=by kernel_rfl
theorem tzv182:kzeroV Tryz.prog 182=some (.d (.int .u32 0)):=by kernel_rfl
theorem tby182:kbytes Tryz.prog 182=some 4:=by kernel_rfl
theorem tint182:kint Tryz.prog 182=some .u32:=by kernel_rfl
theorem tstr182:kstr Tryz.prog 182=false:=by kernel_rfl
theorem tlf182:klf Tryz.prog 182=1:=by kernel_rfl
theorem tz184:ksz Tryz.prog 184=some (false,1):=by kernel_rfl
theorem tzero184:kzero Tryz.prog 184=some [.d .nilfn]:=by kernel_rfl
theorem tz185:ksz Tryz.prog 185=some (false,1):=by kernel_rfl
theorem tzero185:kzero Tryz.prog 185=some [.d .nilfn]:=by kernel_rfl
theorem tz186:ksz Tryz.prog 186=some (false,1):=by kernel_rfl
theorem tzero186:kzero Tryz.prog 186=some [.d .nilfn]:=by kernel_rfl
theorem tz187:ksz Tryz.prog 187=some (false,1):=by kernel_rfl
theorem tzero187:kzero Tryz.prog 187=some [.d .nilfn]:=by kernel_rfl
theorem tcn188:kconc Tryz.prog 188=true:=by kernel_rfl
theorem tz188:ksz Tryz.prog 188=some (true,3):=by kernel_rfl
theorem tzero188:kzero Tryz.prog 188=some [.d (.str ByteArray.empty),.d (.str ByteArray.empty),.d .niliface]:=by kernel_rfl
theorem tzv188:kzeroV Tryz.prog 188=some (.agg [.d (.str ByteArray.empty),.d (.str ByteArray.empty),.d .niliface]):=by kernel_rfl
theorem tby188:kbytes Tryz.prog 188=some 48:=by kernel_rfl
theorem tpls188:kplaces Tryz.prog 188=true:=by kernel_rfl
theorem tf188_0:kfld Tryz.prog 188 0=some (0,9):=by kernel_rfl
theorem tpl188_0:kplace Tryz.prog 188 0=some (0,1):=by kernel_rfl
theorem tf188_1:kfld Tryz.prog 188 1=some (1,9):=by kernel_rfl
theorem tpl188_1:kplace Tryz.prog 188 1=some (1,1):=by kernel_rfl
theorem tf188_2:kfld Tryz.prog 188 2=some (2,153):=by kernel_rfl
theorem tpl188_2:kplace Tryz.prog 188 2=some (2,1):=by kernel_rfl
theorem tcn189:kconc Tryz.prog 189=true:=by kernel_rfl
theorem tz189:ksz Tryz.prog 189=some (true,3):=by kernel_rfl
theorem tzero189:kzero Tryz.prog 189=some [.d (.str ByteArray.empty),.d (.str ByteArray.empty),.d .niliface]:=by kernel_rfl
theorem tzv189:kzeroV Tryz.prog 189=some (.agg [.d (.str ByteArray.empty),.d (.str ByteArray.empty),.d .niliface]):=by kernel_rfl
theorem tby189:kbytes Tryz.prog 189=some 48:=by kernel_rfl
theorem tpls189:kplaces Tryz.prog 189=true:=by kernel_rfl
theorem tf189_0:kfld Tryz.prog 189 0=some (0,9):=by kernel_rfl
theorem tpl189_0:kplace Tryz.prog 189 0=some (0,1):=by kernel_rfl
theorem tf189_1:kfld Tryz.prog 189 1=some (1,9):=by kernel_rfl
theorem tpl189_1:kplace Tryz.prog 189 1=some (1,1):=by kernel_rfl
theorem tf189_2:kfld Tryz.prog 189 2=some (2,153):=by kernel_rfl
theorem tpl189_2:kplace Tryz.prog 189 2=some (2,1):=by kernel_rfl
theorem tz190:ksz Tryz.prog 190=some (false,1):=by kernel_rfl
theorem tzero190:kzero Tryz.prog 190=some [.d .nilfn]:=by kernel_rfl
theorem tz191:ksz Tryz.prog 191=some (false,1):=by kernel_rfl
theorem tzero191:kzero Tryz.prog 191=some [.d .nilfn]:=by kernel_rfl
theorem tcn192:kconc Tryz.prog 192=true:=by kernel_rfl
theorem tz192:ksz Tryz.prog 192=some (true,20):=by kernel_rfl
theorem tzero192:kzero Tryz.prog 192=some [.d (.int .u64 0),.d (.int .u64 0),.d (.int .u64 0),.d (.int .u64 0),.d (.int .u64 0),.d (.int .u64 0),.d (.int .u64 0),.d (.int .u64 0),.d (.int .u64 0),.d (.int .u64 0),.d (.int .u64 0),.d (.int .u64 0),.d (.int .u64 0),.d (.int .u64 0),.d (.int .u64 0),.d (.int .u64 0),.d (.int .u64 0),.d (.int .u64 0),.d (.int .u64 0),.d (.int .u64 0)]:=by kernel_rfl
theorem tby192:kbytes Tryz.prog 192=some 160:=by kernel_rfl
theorem tel192:kel Tryz.prog 192=some (some 20,1,168):=by kernel_rfl
theorem tpls192:kplaces Tryz.prog 192=true:=by kernel_rfl
theorem tpl192_0:kplace Tryz.prog 192 0=some (0,1):=by kernel_rfl
theorem tpl192_1:kplace Tryz.prog 192 1=some (1,1):=by kernel_rfl
theorem tpl192_2:kplace Tryz.prog 192 2=some (2,1):=by kernel_rfl
theorem tpl192_3:kplace Tryz.prog 192 3=some (3,1):=by kernel_rfl
theorem tpl192_4:kplace Tryz.prog 192 4=some (4,1):=by kernel_rfl
theorem tpl192_5:kplace Tryz.prog 192 5=some (5,1):=by kernel_rfl
theorem tpl192_6:kplace Tryz.prog 192 6=some (6,1):=by kernel_rfl
theorem tpl192_7:kplace Tryz.prog 192 7=some (7,1):=by kernel_rfl
theorem tcn193:kconc Tryz.prog 193=true:=by kernel_rfl
theorem tz193:ksz Tryz.prog 193=some (true,65):=by kernel_rfl
theorem tby193:kbytes Tryz.prog 193=some 65:=by kernel_rfl
theorem tel193:kel Tryz.prog 193=some (some 65,1,5):=by kernel_rfl
theorem tpls193:kplaces Tryz.prog 193=true:=by kernel_rfl
theorem tpl193_0:kplace Tryz.prog 193 0=some (0,1):=by kernel_rfl
theorem tpl193_1:kplace Tryz.prog 193 1=some (1,1):=by kernel_rfl
theorem tpl193_2:kplace Tryz.prog 193 2=some (2,1):=by kernel_rfl
theorem tpl193_3:kplace Tryz.prog 193 3=some (3,1):=by kernel_rfl
theorem tpl193_4:kplace Tryz.prog 193 4=some (4,1):=by kernel_rfl
theorem tpl193_5:kplace Tryz.prog 193 5=some (5,1):=by kernel_rfl
theorem tpl193_6:kplace Tryz.prog 193 6=some (6,1):=by kernel_rfl
theorem tpl193_7:kplace Tryz.prog 193 7=some (7,1):=by kernel_rfl
theorem tz194:ksz Tryz.prog 194=some (false,1):=by kernel_rfl
theorem tzero194:kzero Tryz.prog 194=some [.d .nilfn]:=by kernel_rfl
theorem tcn195:kconc Tryz.prog 195=true:=by kernel_rfl
theorem tz195:ksz Tryz.prog 195=some (false,1):=by kernel_rfl
theorem tzero195:kzero Tryz.prog 195=some [.d .nilptr]:=by kernel_rfl
theorem tzv195:kzeroV Tryz.prog 195=some (.d .nilptr):=by kernel_rfl
theorem tby195:kbytes Tryz.prog 195=some 8:=by kernel_rfl
theorem tcn196:kconc Tryz.prog 196=true:=by kernel_rfl
theorem tz196:ksz Tryz.prog 196=some (false,1):=by kernel_rfl
theorem tzero196:kzero Tryz.prog 196=some [.d .nilptr]:=by kernel_rfl
theorem tzv196:kzeroV Tryz.prog 196=some (.d .nilptr):=by kernel_rfl
theorem tby196:kbytes Tryz.prog 196=some 8:=by kernel_rfl
theorem tcn197:kconc Tryz.prog 197=true:=by kernel_rfl
theorem tz197:ksz Tryz.prog 197=some (true,1):=by kernel_rfl
theorem tzero197:kzero Tryz.prog 197=some [.d (.str ByteArray.empty)]:=by kernel_rfl
theorem tzv197:kzeroV Tryz.prog 197=some (.agg [.d (.str ByteArray.empty)]):=by kernel_rfl
theorem tby197:kbytes Tryz.prog 197=some 16:=by kernel_rfl
theorem tpls197:kplaces Tryz.prog 197=true:=by kernel_rfl
theorem tf197_0:kfld Tryz.prog 197 0=some (0,9):=by kernel_rfl
theorem tpl197_0:kplace Tryz.prog 197 0=some (0,1):=by kernel_rfl
theorem tcn198:kconc Tryz.prog 198=true:=by kernel_rfl
theorem tz198:ksz Tryz.prog 198=some (true,1):=by kernel_rfl
theorem tzero198:kzero Tryz.prog 198=some [.d (.str ByteArray.empty)]:=by kernel_rfl
theorem tzv198:kzeroV Tryz.prog 198=some (.agg [.d (.str ByteArray.empty)]):=by kernel_rfl
theorem tby198:kbytes Tryz.prog 198=some 16:=by kernel_rfl
theorem tpls198:kplaces Tryz.prog 198=true:=by kernel_rfl
theorem tf198_0:kfld Tryz.prog 198 0=some (0,9):=by kernel_rfl
theorem tpl198_0:kplace Tryz.prog 198 0=some (0,1):=by kernel_rfl
theorem tz199:ksz Tryz.prog 199=some (false,1):=by kernel_rfl
theorem tzero199:kzero Tryz.prog 199=some [.d .nilfn]:=by kernel_rfl
theorem tcn200:kconc Tryz.prog 200=true:=by kernel_rfl
theorem tz200:ksz Tryz.prog 200=some (true,32):=by kernel_rfl
theorem tzero200:kzero Tryz.prog 200=some [.d (.int .u8 0),.d (.int .u8 0),.d (.int .u8 0),.d (.int .u8 0),.d (.int .u8 0),.d (.int .u8 0),.d (.int .u8 0),.d (.int .u8 0),.d (.int .u8 0),.d (.int .u8 0),.d (.int .u8 0),.d (.int .u8 0),.d (.int .u8 0),.d (.int .u8 0),.d (.int .u8 0),.d (.int .u8 0),.d (.int .u8 0),.d (.int .u8 0),.d (.int .u8 0),.d (.int .u8 0),.d (.int .u8 0),.d (.int .u8 0),.d (.int .u8 0),.d (.int .u8 0),.d (.int .u8 0),.d (.int .u8 0),.d (.int .u8 0),.d (.int .u8 0),.d (.int .u8 0),.d (.int .u8 0),.d (.int .u8 0),.d (.int .u8 0)]:=by kernel_rfl
theorem tby200:kbytes Tryz.prog 200=some 32:=by kernel_rfl
theorem tel200:kel Tryz.prog 200=some (some 32,1,5):=by kernel_rfl
theorem tpls200:kplaces Tryz.prog 200=true:=by kernel_rfl
theorem tpl200_0:kplace Tryz.prog 200 0=some (0,1):=by kernel_rfl
theorem tpl200_1:kplace Tryz.prog 200 1=some (1,1):=by kernel_rfl
theorem tpl200_2:kplace Tryz.prog 200 2=some (2,1):=by kernel_rfl
theorem tpl200_3:kplace Tryz.prog 200 3=some (3,1):=by kernel_rfl
theorem tpl200_4:kplace Tryz.prog 200 4=some (4,1):=by kernel_rfl
theorem tpl200_5:kplace Tryz.prog 200 5=some (5,1):=by kernel_rfl
theorem tpl200_6:kplace Tryz.prog 200 6=some (6,1):=by kernel_rfl
theorem tpl200_7:kplace Tryz.prog 200 7=some (7,1):=by kernel_rfl
theorem tcn201:kconc Tryz.prog 201=true:=by kernel_rfl
theorem tz201:ksz Tryz.prog 201=some (true,64):=by kernel_rfl
theorem tby201:kbytes Tryz.prog 201=some 64:=by kernel_rfl
theorem tel201:kel Tryz.prog 201=some (some 64,1,5):=by kernel_rfl
theorem tpls201:kplaces Tryz.prog 201=true:=by kernel_rfl
theorem tpl201_0:kplace Tryz.prog 201 0=some (0,1):=by kernel_rfl
theorem tpl201_1:kplace Tryz.prog 201 1=some (1,1):=by kernel_rfl
theorem tpl201_2:kplace Tryz.prog 201 2=some (2,1):=by kernel_rfl
theorem tpl201_3:kplace Tryz.prog 201 3=some (3,1):=by kernel_rfl
theorem tpl201_4:kplace Tryz.prog 201 4=some (4,1):=by kernel_rfl
theorem tpl201_5:kplace Tryz.prog 201 5=some (5,1):=by kernel_rfl
theorem tpl201_6:kplace Tryz.prog 201 6=some (6,1):=by kernel_rfl
theorem tpl201_7:kplace Tryz.prog 201 7=some (7,1):=by kernel_rfl
theorem tz202:ksz Tryz.prog 202=some (false,1):=by kernel_rfl
theorem tzero202:kzero Tryz.prog 202=some [.d .nilfn]:=by kernel_rfl
theorem tcn203:kconc Tryz.prog 203=true:=by kernel_rfl
theorem tz203:ksz Tryz.prog 203=some (true,4):=by kernel_rfl
theorem tzero203:kzero Tryz.prog 203=some [.d .nilptr,.d .nilptr,.d .nilptr,.d (.str ByteArray.empty)]:=by kernel_rfl
theorem tzv203:kzeroV Tryz.prog 203=some (.agg [.d .nilptr,.d .nilptr,.d .nilptr,.d (.str ByteArray.empty)]):=by kernel_rfl
theorem tby203:kbytes Tryz.prog 203=some 40:=by kernel_rfl
theorem tpls203:kplaces Tryz.prog 203=true:=by kernel_rfl
theorem tf203_0:kfld Tryz.prog 203 0=some (0,17):=by kernel_rfl
theorem tpl203_0:kplace Tryz.prog 203 0=some (0,1):=by kernel_rfl
theorem tf203_1:kfld Tryz.prog 203 1=some (1,17):=by kernel_rfl
theorem tpl203_1:kplace Tryz.prog 203 1=some (1,1):=by kernel_rfl
theorem tf203_2:kfld Tryz.prog 203 2=some (2,17):=by kernel_rfl
theorem tpl203_2:kplace Tryz.prog 203 2=some (2,1):=by kernel_rfl
theorem tf203_3:kfld Tryz.prog 203 3=some (3,9):=by kernel_rfl
theorem tpl203_3:kplace Tryz.prog 203 3=some (3,1):=by kernel_rfl
theorem tcn204:kconc Tryz.prog 204=true:=by kernel_rfl
theorem tz204:ksz Tryz.prog 204=some (true,4):=by kernel_rfl
theorem tzero204:kzero Tryz.prog 204=some [.d .nilptr,.d .nilptr,.d .nilptr,.d (.str ByteArray.empty)]:=by kernel_rfl
theorem tzv204:kzeroV Tryz.prog 204=some (.agg [.d .nilptr,.d .nilptr,.d .nilptr,.d (.str ByteArray.empty)]):=by kernel_rfl
theorem tby204:kbytes Tryz.prog 204=some 40:=by kernel_rfl
theorem tpls204:kplaces Tryz.prog 204=true:=by kernel_rfl
theorem tf204_0:kfld Tryz.prog 204 0=some (0,17):=by kernel_rfl
theorem tpl204_0:kplace Tryz.prog 204 0=some (0,1):=by kernel_rfl
theorem tf204_1:kfld Tryz.prog 204 1=some (1,17):=by kernel_rfl
theorem tpl204_1:kplace Tryz.prog 204 1=some (1,1):=by kernel_rfl
theorem tf204_2:kfld Tryz.prog 204 2=some (2,17):=by kernel_rfl
theorem tpl204_2:kplace Tryz.prog 204 2=some (2,1):=by kernel_rfl
theorem tf204_3:kfld Tryz.prog 204 3=some (3,9):=by kernel_rfl
theorem tpl204_3:kplace Tryz.prog 204 3=some (3,1):=by kernel_rfl
theorem tcn205:kconc Tryz.prog 205=true:=by kernel_rfl
theorem tz205:ksz Tryz.prog 205=some (true,0):=by kernel_rfl
theorem tzero205:kzero Tryz.prog 205=some []:=by kernel_rfl
theorem tzv205:kzeroV Tryz.prog 205=some (.agg []):=by kernel_rfl
theorem tby205:kbytes Tryz.prog 205=some 0:=by kernel_rfl
theorem tel205:kel Tryz.prog 205=some (some 0,1,16):=by kernel_rfl
theorem tpls205:kplaces Tryz.prog 205=true:=by kernel_rfl
theorem tcn206:kconc Tryz.prog 206=true:=by kernel_rfl
theorem tz206:ksz Tryz.prog 206=some (true,0):=by kernel_rfl
theorem tzero206:kzero Tryz.prog 206=some []:=by kernel_rfl
theorem tzv206:kzeroV Tryz.prog 206=some (.agg []):=by kernel_rfl
theorem tby206:kbytes Tryz.prog 206=some 0:=by kernel_rfl
theorem tpls206:kplaces Tryz.prog 206=true:=by kernel_rfl
theorem tpl206_0:kplace Tryz.prog 206 0=some (0,0):=by kernel_rfl
theorem tcn207:kconc Tryz.prog 207=true:=by kernel_rfl
theorem tz207:ksz Tryz.prog 207=some (true,0):=by kernel_rfl
theorem tzero207:kzero Tryz.prog 207=some []:=by kernel_rfl
theorem tzv207:kzeroV Tryz.prog 207=some (.agg []):=by kernel_rfl
theorem tby207:kbytes Tryz.prog 207=some 0:=by kernel_rfl
theorem tpls207:kplaces Tryz.prog 207=true:=by kernel_rfl
theorem tpl207_0:kplace Tryz.prog 207 0=some (0,0):=by kernel_rfl
theorem tz208:ksz Tryz.prog 208=some (false,1):=by kernel_rfl
theorem tzero208:kzero Tryz.prog 208=some [.d .nilfn]:=by kernel_rfl
theorem tcn209:kconc Tryz.prog 209=true:=by kernel_rfl
theorem tz209:ksz Tryz.prog 209=some (false,1):=by kernel_rfl
theorem tzero209:kzero Tryz.prog 209=some [.d (.int .u8 0)]:=by kernel_rfl
theorem tzv209:kzeroV Tryz.prog 209=some (.d (.int .u8 0)):=by kernel_rfl
theorem tby209:kbytes Tryz.prog 209=some 1:=by kernel_rfl
theorem tint209:kint Tryz.prog 209=some .u8:=by kernel_rfl
theorem tstr209:kstr Tryz.prog 209=false:=by kernel_rfl
theorem tlf209:klf Tryz.prog 209=1:=by kernel_rfl
theorem tcn210:kconc Tryz.prog 210=true:=by kernel_rfl
theorem tz210:ksz Tryz.prog 210=some (false,1):=by kernel_rfl
theorem tzero210:kzero Tryz.prog 210=some [.d (.int .u8 0)]:=by kernel_rfl
theorem tzv210:kzeroV Tryz.prog 210=some (.d (.int .u8 0)):=by kernel_rfl
theorem tby210:kbytes Tryz.prog 210=some 1:=by kernel_rfl
theorem tint210:kint Tryz.prog 210=some .u8:=by kernel_rfl
theorem tstr210:kstr Tryz.prog 210=false:=by kernel_rfl
theorem tlf210:klf Tryz.prog 210=1:=by kernel_rfl
theorem tz211:ksz Tryz.prog 211=some (false,1):=by kernel_rfl
theorem tzero211:kzero Tryz.prog 211=some [.d .nilfn]:=by kernel_rfl
theorem tcn212:kconc Tryz.prog 212=true:=by kernel_rfl
theorem tz212:ksz Tryz.prog 212=some (false,1):=by kernel_rfl
theorem tzero212:kzero Tryz.prog 212=some [.d (.int .i32 0)]:=by kernel_rfl
theorem tzv212:kzeroV Tryz.prog 212=some (.d (.int .i32 0)):=by kernel_rfl
theorem tby212:kbytes Tryz.prog 212=some 4:=by kernel_rfl
theorem tint212:kint Tryz.prog 212=some .i32:=by kernel_rfl
theorem tstr212:kstr Tryz.prog 212=false:=by kernel_rfl
theorem tlf212:klf Tryz.prog 212=1:=by kernel_rfl
theorem tcn213:kconc Tryz.prog 213=true:=by kernel_rfl
theorem tz213:ksz Tryz.prog 213=some (false,1):=by kernel_rfl
theorem tzero213:kzero Tryz.prog 213=some [.d (.int .i32 0)]:=by kernel_rfl
theorem tzv213:kzeroV Tryz.prog 213=some (.d (.int .i32 0)):=by kernel_rfl
theorem tby213:kbytes Tryz.prog 213=some 4:=by kernel_rfl
theorem tint213:kint Tryz.prog 213=some .i32:=by kernel_rfl
theorem tstr213:kstr Tryz.prog 213=false:=by kernel_rfl
theorem tlf213:klf Tryz.prog 213=1:=by kernel_rfl
theorem tcn214:kconc Tryz.prog 214=true:=by kernel_rfl
theorem tz214:ksz Tryz.prog 214=some (true,11):=by kernel_rfl
theorem tzero214:kzero Tryz.prog 214=some [.d (.int .u64 0),.d (.int .u64 0),.d (.int .u32 0),.d (.int .u8 0),.d (.int .u8 0),.d (.int .u8 0),.d (.int .u8 0),.d .nilfn,.d .nilptr,.d (.int .i32 0),.d (.int .i32 0)]:=by kernel_rfl
theorem tzv214:kzeroV Tryz.prog 214=some (.agg [.d (.int .u64 0),.d (.int .u64 0),.d (.int .u32 0),.d (.int .u8 0),.d (.int .u8 0),.d (.int .u8 0),.d (.int .u8 0),.d .nilfn,.d .nilptr,.d (.int .i32 0),.d (.int .i32 0)]):=by kernel_rfl
theorem tby214:kbytes Tryz.prog 214=some 48:=by kernel_rfl
theorem tpls214:kplaces Tryz.prog 214=true:=by kernel_rfl
theorem tf214_0:kfld Tryz.prog 214 0=some (0,12):=by kernel_rfl
theorem tpl214_0:kplace Tryz.prog 214 0=some (0,1):=by kernel_rfl
theorem tf214_1:kfld Tryz.prog 214 1=some (1,12):=by kernel_rfl
theorem tpl214_1:kplace Tryz.prog 214 1=some (1,1):=by kernel_rfl
theorem tf214_2:kfld Tryz.prog 214 2=some (2,182):=by kernel_rfl
theorem tpl214_2:kplace Tryz.prog 214 2=some (2,1):=by kernel_rfl
theorem tf214_3:kfld Tryz.prog 214 3=some (3,209):=by kernel_rfl
theorem tpl214_3:kplace Tryz.prog 214 3=some (3,1):=by kernel_rfl
theorem tf214_4:kfld Tryz.prog 214 4=some (4,5):=by kernel_rfl
theorem tpl214_4:kplace Tryz.prog 214 4=some (4,1):=by kernel_rfl
theorem tf214_5:kfld Tryz.prog 214 5=some (5,5):=by kernel_rfl
theorem tpl214_5:kplace Tryz.prog 214 5=some (5,1):=by kernel_rfl
theorem tf214_6:kfld Tryz.prog 214 6=some (6,210):=by kernel_rfl
theorem tpl214_6:kplace Tryz.prog 214 6=some (6,1):=by kernel_rfl
theorem tf214_7:kfld Tryz.prog 214 7=some (7,211):=by kernel_rfl
theorem tpl214_7:kplace Tryz.prog 214 7=some (7,1):=by kernel_rfl
theorem tf214_8:kfld Tryz.prog 214 8=some (8,195):=by kernel_rfl
theorem tpl214_8:kplace Tryz.prog 214 8=some (8,1):=by kernel_rfl
theorem tf214_9:kfld Tryz.prog 214 9=some (9,212):=by kernel_rfl
theorem tpl214_9:kplace Tryz.prog 214 9=some (9,1):=by kernel_rfl
theorem tf214_10:kfld Tryz.prog 214 10=some (10,213):=by kernel_rfl
theorem tpl214_10:kplace Tryz.prog 214 10=some (10,1):=by kernel_rfl
theorem tcn215:kconc Tryz.prog 215=true:=by kernel_rfl
theorem tz215:ksz Tryz.prog 215=some (true,11):=by kernel_rfl
theorem tzero215:kzero Tryz.prog 215=some [.d (.int .u64 0),.d (.int .u64 0),.d (.int .u32 0),.d (.int .u8 0),.d (.int .u8 0),.d (.int .u8 0),.d (.int .u8 0),.d .nilfn,.d .nilptr,.d (.int .i32 0),.d (.int .i32 0)]:=by kernel_rfl
theorem tzv215:kzeroV Tryz.prog 215=some (.agg [.d (.int .u64 0),.d (.int .u64 0),.d (.int .u32 0),.d (.int .u8 0),.d (.int .u8 0),.d (.int .u8 0),.d (.int .u8 0),.d .nilfn,.d .nilptr,.d (.int .i32 0),.d (.int .i32 0)]):=by kernel_rfl
theorem tby215:kbytes Tryz.prog 215=some 48:=by kernel_rfl
theorem tpls215:kplaces Tryz.prog 215=true:=by kernel_rfl
theorem tf215_0:kfld Tryz.prog 215 0=some (0,12):=by kernel_rfl
theorem tpl215_0:kplace Tryz.prog 215 0=some (0,1):=by kernel_rfl
theorem tf215_1:kfld Tryz.prog 215 1=some (1,12):=by kernel_rfl
theorem tpl215_1:kplace Tryz.prog 215 1=some (1,1):=by kernel_rfl
theorem tf215_2:kfld Tryz.prog 215 2=some (2,182):=by kernel_rfl
theorem tpl215_2:kplace Tryz.prog 215 2=some (2,1):=by kernel_rfl
theorem tf215_3:kfld Tryz.prog 215 3=some (3,209):=by kernel_rfl
theorem tpl215_3:kplace Tryz.prog 215 3=some (3,1):=by kernel_rfl
theorem tf215_4:kfld Tryz.prog 215 4=some (4,5):=by kernel_rfl
theorem tpl215_4:kplace Tryz.prog 215 4=some (4,1):=by kernel_rfl
theorem tf215_5:kfld Tryz.prog 215 5=some (5,5):=by kernel_rfl
theorem tpl215_5:kplace Tryz.prog 215 5=some (5,1):=by kernel_rfl
theorem tf215_6:kfld Tryz.prog 215 6=some (6,210):=by kernel_rfl
theorem tpl215_6:kplace Tryz.prog 215 6=some (6,1):=by kernel_rfl
theorem tf215_7:kfld Tryz.prog 215 7=some (7,211):=by kernel_rfl
theorem tpl215_7:kplace Tryz.prog 215 7=some (7,1):=by kernel_rfl
theorem tf215_8:kfld Tryz.prog 215 8=some (8,195):=by kernel_rfl
theorem tpl215_8:kplace Tryz.prog 215 8=some (8,1):=by kernel_rfl
theorem tf215_9:kfld Tryz.prog 215 9=some (9,212):=by kernel_rfl
theorem tpl215_9:kplace Tryz.prog 215 9=some (9,1):=by kernel_rfl
theorem tf215_10:kfld Tryz.prog 215 10=some (10,213):=by kernel_rfl
theorem tpl215_10:kplace Tryz.prog 215 10=some (10,1):=by kernel_rfl
theorem tcn216:kconc Tryz.prog 216=true:=by kernel_rfl
theorem tz216:ksz Tryz.prog 216=some (false,1):=by kernel_rfl
theorem tzero216:kzero Tryz.prog 216=some [.d .nilptr]:=by kernel_rfl
theorem tzv216:kzeroV Tryz.prog 216=some (.d .nilptr):=by kernel_rfl
theorem tby216:kbytes Tryz.prog 216=some 8:=by kernel_rfl
theorem tex0:extN Tryz.prog 0=0:=by kernel_rfl
theorem tex1:extN Tryz.prog 1=0:=by kernel_rfl
theorem tex2:extN Tryz.prog 2=0:=by kernel_rfl
theorem tex3:extN Tryz.prog 3=0:=by kernel_rfl
theorem tex4:extN Tryz.prog 4=0:=by kernel_rfl
theorem tex5:extN Tryz.prog 5=0:=by kernel_rfl
theorem tex6:extN Tryz.prog 6=0:=by kernel_rfl
theorem tex7:extN Tryz.prog 7=0:=by kernel_rfl
theorem tex8:extN Tryz.prog 8=0:=by kernel_rfl
theorem tex9:extN Tryz.prog 9=0:=by kernel_rfl
theorem tex10:extN Tryz.prog 10=0:=by kernel_rfl
theorem tex11:extN Tryz.prog 11=0:=by kernel_rfl
theorem tex12:extN Tryz.prog 12=0:=by kernel_rfl
theorem tex13:extN Tryz.prog 13=0:=by kernel_rfl
theorem tex14:extN Tryz.prog 14=0:=by kernel_rfl
theorem tex15:extN Tryz.prog 15=0:=by kernel_rfl
theorem tex16:extN Tryz.prog 16=0:=by kernel_rfl
theorem tex17:extN Tryz.prog 17=0:=by kernel_rfl
theorem tex18:extN Tryz.prog 18=0:=by kernel_rfl
theorem tex19:extN Tryz.prog 19=0:=by kernel_rfl
theorem tex20:extN Tryz.prog 20=0:=by kernel_rfl
theorem tex21:extN Tryz.prog 21=0:=by kernel_rfl
theorem tex22:extN Tryz.prog 22=0:=by kernel_rfl
theorem tex23:extN Tryz.prog 23=0:=by kernel_rfl
theorem tex24:extN Tryz.prog 24=0:=by kernel_rfl
theorem tex25:extN Tryz.prog 25=0:=by kernel_rfl
theorem tex26:extN Tryz.prog 26=0:=by kernel_rfl
theorem tex27:extN Tryz.prog 27=0:=by kernel_rfl
theorem tex28:extN Tryz.prog 28=0:=by kernel_rfl
theorem tex29:extN Tryz.prog 29=0:=by kernel_rfl
theorem tex30:extN Tryz.prog 30=0:=by kernel_rfl
theorem tex31:extN Tryz.prog 31=0:=by kernel_rfl
theorem tex32:extN Tryz.prog 32=0:=by kernel_rfl
theorem tex33:extN Tryz.prog 33=0:=by kernel_rfl
theorem tex34:extN Tryz.prog 34=0:=by kernel_rfl
theorem tex35:extN Tryz.prog 35=0:=by kernel_rfl
theorem tex36:extN Tryz.prog 36=0:=by kernel_rfl
theorem tex37:extN Tryz.prog 37=0:=by kernel_rfl
theorem tex38:extN Tryz.prog 38=0:=by kernel_rfl
theorem tex39:extN Tryz.prog 39=0:=by kernel_rfl
theorem tex40:extN Tryz.prog 40=0:=by kernel_rfl
theorem tex41:extN Tryz.prog 41=0:=by kernel_rfl
theorem tex42:extN Tryz.prog 42=0:=by kernel_rfl
theorem tex43:extN Tryz.prog 43=0:=by kernel_rfl
theorem tex44:extN Tryz.prog 44=0:=by kernel_rfl
theorem tex45:extN Tryz.prog 45=0:=by kernel_rfl
theorem tex46:extN Tryz.prog 46=0:=by kernel_rfl
theorem tex47:extN Tryz.prog 47=0:=by kernel_rfl
theorem tex48:extN Tryz.prog 48=0:=by kernel_rfl
theorem tex49:extN Tryz.prog 49=0:=by kernel_rfl
theorem tex50:extN Tryz.prog 50=0:=by kernel_rfl
theorem tex51:extN Tryz.prog 51=0:=by kernel_rfl
theorem tex52:extN Tryz.prog 52=0:=by kernel_rfl
theorem tex53:extN Tryz.prog 53=0:=by kernel_rfl
theorem tex54:extN Tryz.prog 54=0:=by kernel_rfl
theorem tex55:extN Tryz.prog 55=0:=by kernel_rfl
theorem tex56:extN Tryz.prog 56=0:=by kernel_rfl
theorem tex57:extN Tryz.prog 57=0:=by kernel_rfl
theorem tex58:extN Tryz.prog 58=0:=by kernel_rfl
theorem tex59:extN Tryz.prog 59=0:=by kernel_rfl
theorem tex60:extN Tryz.prog 60=0:=by kernel_rfl
theorem tex61:extN Tryz.prog 61=0:=by kernel_rfl
theorem tex62:extN Tryz.prog 62=0:=by kernel_rfl
theorem tex63:extN Tryz.prog 63=0:=by kernel_rfl
theorem tex64:extN Tryz.prog 64=0:=by kernel_rfl
theorem tex65:extN Tryz.prog 65=0:=by kernel_rfl
theorem tex66:extN Tryz.prog 66=0:=by kernel_rfl
theorem tex67:extN Tryz.prog 67=0:=by kernel_rfl
theorem tex68:extN Tryz.prog 68=0:=by kernel_rfl
theorem tex69:extN Tryz.prog 69=0:=by kernel_rfl
theorem tex70:extN Tryz.prog 70=0:=by kernel_rfl
theorem tex71:extN Tryz.prog 71=0:=by kernel_rfl
theorem tex72:extN Tryz.prog 72=0:=by kernel_rfl
theorem tex73:extN Tryz.prog 73=0:=by kernel_rfl
theorem tex74:extN Tryz.prog 74=0:=by kernel_rfl
theorem tex75:extN Tryz.prog 75=0:=by kernel_rfl
theorem tex76:extN Tryz.prog 76=0:=by kernel_rfl
theorem tex77:extN Tryz.prog 77=0:=by kernel_rfl
theorem tex78:extN Tryz.prog 78=0:=by kernel_rfl
theorem tex79:extN Tryz.prog 79=0:=by kernel_rfl
theorem tex80:extN Tryz.prog 80=0:=by kernel_rfl
theorem tex81:extN Tryz.prog 81=0:=by kernel_rfl
theorem tex82:extN Tryz.prog 82=0:=by kernel_rfl
theorem tex83:extN Tryz.prog 83=0:=by kernel_rfl
theorem tex84:extN Tryz.prog 84=0:=by kernel_rfl
theorem tex85:extN Tryz.prog 85=0:=by kernel_rfl
theorem tex86:extN Tryz.prog 86=0:=by kernel_rfl
theorem tex87:extN Tryz.prog 87=0:=by kernel_rfl
theorem tex88:extN Tryz.prog 88=0:=by kernel_rfl
theorem tex89:extN Tryz.prog 89=0:=by kernel_rfl
theorem tex90:extN Tryz.prog 90=0:=by kernel_rfl
theorem tex91:extN Tryz.prog 91=0:=by kernel_rfl
theorem tex92:extN Tryz.prog 92=0:=by kernel_rfl
theorem tex93:extN Tryz.prog 93=0:=by kernel_rfl
theorem tex94:extN Tryz.prog 94=0:=by kernel_rfl
theorem tex95:extN Tryz.prog 95=0:=by kernel_rfl
theorem tex96:extN Tryz.prog 96=0:=by kernel_rfl
theorem tex97:extN Tryz.prog 97=0:=by kernel_rfl
theorem tex98:extN Tryz.prog 98=0:=by kernel_rfl
theorem tex99:extN Tryz.prog 99=0:=by kernel_rfl
theorem tex100:extN Tryz.prog 100=0:=by kernel_rfl
theorem tex101:extN Tryz.prog 101=0:=by kernel_rfl
theorem tex102:extN Tryz.prog 102=0:=by kernel_rfl
theorem tex103:extN Tryz.prog 103=0:=by kernel_rfl
theorem tex104:extN Tryz.prog 104=0:=by kernel_rfl
theorem tex105:extN Tryz.prog 105=0:=by kernel_rfl
theorem tex106:extN Tryz.prog 106=0:=by kernel_rfl
theorem tex107:extN Tryz.prog 107=0:=by kernel_rfl
theorem tex108:extN Tryz.prog 108=0:=by kernel_rfl
theorem tex109:extN Tryz.prog 109=0:=by kernel_rfl
theorem tex110:extN Tryz.prog 110=0:=by kernel_rfl
theorem tex111:extN Tryz.prog 111=0:=by kernel_rfl
theorem tex112:extN Tryz.prog 112=0:=by kernel_rfl
theorem tex113:extN Tryz.prog 113=0:=by kernel_rfl
theorem tex114:extN Tryz.prog 114=0:=by kernel_rfl
theorem tex115:extN Tryz.prog 115=0:=by kernel_rfl
theorem tex116:extN Tryz.prog 116=0:=by kernel_rfl
theorem tex117:extN Tryz.prog 117=0:=by kernel_rfl
theorem tex118:extN Tryz.prog 118=0:=by kernel_rfl
theorem tex119:extN Tryz.prog 119=0:=by kernel_rfl
theorem tex120:extN Tryz.prog 120=0:=by kernel_rfl
theorem tex121:extN Tryz.prog 121=0:=by kernel_rfl
theorem tex122:extN Tryz.prog 122=0:=by kernel_rfl
theorem tex123:extN Tryz.prog 123=0:=by kernel_rfl
theorem tex124:extN Tryz.prog 124=0:=by kernel_rfl
theorem tex125:extN Tryz.prog 125=0:=by kernel_rfl
theorem tex126:extN Tryz.prog 126=0:=by kernel_rfl
theorem tex127:extN Tryz.prog 127=0:=by kernel_rfl
theorem tex128:extN Tryz.prog 128=0:=by kernel_rfl
theorem tex129:extN Tryz.prog 129=0:=by kernel_rfl
theorem tex130:extN Tryz.prog 130=0:=by kernel_rfl
theorem tex131:extN Tryz.prog 131=0:=by kernel_rfl
theorem tex132:extN Tryz.prog 132=0:=by kernel_rfl
theorem tex133:extN Tryz.prog 133=0:=by kernel_rfl
theorem tex134:extN Tryz.prog 134=0:=by kernel_rfl
theorem tex135:extN Tryz.prog 135=0:=by kernel_rfl
theorem tex136:extN Tryz.prog 136=0:=by kernel_rfl
theorem tex137:extN Tryz.prog 137=0:=by kernel_rfl
theorem tex138:extN Tryz.prog 138=0:=by kernel_rfl
theorem tex139:extN Tryz.prog 139=0:=by kernel_rfl
theorem tex140:extN Tryz.prog 140=0:=by kernel_rfl
theorem tex141:extN Tryz.prog 141=0:=by kernel_rfl
theorem tex142:extN Tryz.prog 142=0:=by kernel_rfl
theorem tex143:extN Tryz.prog 143=0:=by kernel_rfl
theorem tex144:extN Tryz.prog 144=0:=by kernel_rfl
theorem tex145:extN Tryz.prog 145=0:=by kernel_rfl
theorem tex146:extN Tryz.prog 146=0:=by kernel_rfl
theorem tex147:extN Tryz.prog 147=0:=by kernel_rfl
theorem tex148:extN Tryz.prog 148=0:=by kernel_rfl
theorem tex149:extN Tryz.prog 149=0:=by kernel_rfl
theorem tex150:extN Tryz.prog 150=0:=by kernel_rfl
theorem tex151:extN Tryz.prog 151=0:=by kernel_rfl
theorem tex152:extN Tryz.prog 152=0:=by kernel_rfl
theorem tex153:extN Tryz.prog 153=0:=by kernel_rfl
theorem tex154:extN Tryz.prog 154=0:=by kernel_rfl
theorem tex155:extN Tryz.prog 155=0:=by kernel_rfl
theorem tex156:extN Tryz.prog 156=0:=by kernel_rfl
theorem tex157:extN Tryz.prog 157=0:=by kernel_rfl
theorem tex158:extN Tryz.prog 158=0:=by kernel_rfl
theorem tex159:extN Tryz.prog 159=0:=by kernel_rfl
theorem tex160:extN Tryz.prog 160=0:=by kernel_rfl
theorem tex161:extN Tryz.prog 161=0:=by kernel_rfl
theorem tex162:extN Tryz.prog 162=0:=by kernel_rfl
theorem tex163:extN Tryz.prog 163=0:=by kernel_rfl
theorem tex164:extN Tryz.prog 164=0:=by kernel_rfl
theorem tex165:extN Tryz.prog 165=0:=by kernel_rfl
theorem tex166:extN Tryz.prog 166=0:=by kernel_rfl
theorem tex167:extN Tryz.prog 167=0:=by kernel_rfl
theorem tex168:extN Tryz.prog 168=0:=by kernel_rfl
theorem tex169:extN Tryz.prog 169=0:=by kernel_rfl
theorem tex170:extN Tryz.prog 170=0:=by kernel_rfl
theorem tex171:extN Tryz.prog 171=0:=by kernel_rfl
theorem tex172:extN Tryz.prog 172=0:=by kernel_rfl
theorem tex173:extN Tryz.prog 173=0:=by kernel_rfl
theorem tex174:extN Tryz.prog 174=0:=by kernel_rfl
theorem tex175:extN Tryz.prog 175=0:=by kernel_rfl
theorem tex176:extN Tryz.prog 176=0:=by kernel_rfl
theorem tex177:extN Tryz.prog 177=0:=by kernel_rfl
theorem tex178:extN Tryz.prog 178=0:=by kernel_rfl
theorem tex179:extN Tryz.prog 179=0:=by kernel_rfl
theorem tex180:extN Tryz.prog 180=0:=by kernel_rfl
theorem tex181:extN Tryz.prog 181=0:=by kernel_rfl
theorem tex182:extN Tryz.prog 182=0:=by kernel_rfl
theorem tex183:extN Tryz.prog 183=0:=by kernel_rfl
theorem tex184:extN Tryz.prog 184=0:=by kernel_rfl
theorem tex185:extN Tryz.prog 185=0:=by kernel_rfl
theorem tex186:extN Tryz.prog 186=0:=by kernel_rfl
theorem tex187:extN Tryz.prog 187=0:=by kernel_rfl
theorem tex188:extN Tryz.prog 188=0:=by kernel_rfl
theorem tex189:extN Tryz.prog 189=0:=by kernel_rfl
theorem tex190:extN Tryz.prog 190=0:=by kernel_rfl
theorem tex191:extN Tryz.prog 191=0:=by kernel_rfl
theorem tex192:extN Tryz.prog 192=0:=by kernel_rfl
theorem tex193:extN Tryz.prog 193=0:=by kernel_rfl
attribute [push_cast] tz1 tzero1 tcn2 tz2 tzero2 tzv2 tby2 tint2 tstr2 tlf2 tcn3 tz3 tzero3 tzv3 tby3 tint3 tstr3 tlf3 tcn4 tz4 tzero4 tzv4 tby4 tlf4 tcn5 tz5 tzero5 tzv5 tby5 tint5 tstr5 tlf5 tcn6 tz6 tzero6 tzv6 tby6 tint6 tstr6 tlf6 tcn7 tz7 tzero7 tzv7 tby7 tpls7 tf7_0 tpl7_0 tf7_1 tpl7_1 tf7_2 tpl7_2 tf7_3 tpl7_3 tcn8 tz8 tzero8 tzv8 tby8 tpls8 tf8_0 tpl8_0 tf8_1 tpl8_1 tf8_2 tpl8_2 tf8_3 tpl8_3 tcn9 tz9 tzero9 tzv9 tby9 tstr9 tsl9 tseq9 tlf9 tcn10 tz10 tzero10 tzv10 tby10 tstr10 tsl10 tseq10 tlf10 tcn11 tz11 tzero11 tzv11 tby11 tstr11 tsl11 tseq11 tlf11 tcn12 tz12 tzero12 tzv12 tby12 tint12 tstr12 tlf12 tcn13 tz13 tzero13 tzv13 tby13 tpls13 tf13_0 tpl13_0 tf13_1 tpl13_1 tcn14 tz14 tzero14 tzv14 tby14 tpls14 tf14_0 tpl14_0 tf14_1 tpl14_1 tcn15 tz15 tzero15 tzv15 tby15 tcn16 tz16 tzero16 tzv16 tby16 tcn17 tz17 tzero17 tzv17 tby17 tcn18 tz18 tzero18 tzv18 tby18 tpls18 tf18_0 tpl18_0 tcn19 tz19 tzero19 tzv19 tby19 tpls19 tf19_0 tpl19_0 tcn20 tz20 tzero20 tzv20 tif20 tby20 tcn21 tz21 tzero21 tzv21 tby21 tint21 tstr21 tlf21 tcn22 tz22 tzero22 tzv22 tby22 tel22 tsl22 tstr22 tseq22 tcn23 tz23 tzero23 tzv23 tby23 tel23 tsl23 tstr23 tseq23 tcn24 tz24 tzero24 tzv24 tby24 tel24 tsl24 tstr24 tseq24 tz25 tzero25 tz26 tzero26 tz27 tzero27 tz28 tzero28 tcn29 tz29 tzero29 tzv29 tby29 tel29 tsl29 tstr29 tseq29 tcn30 tz30 tzero30 tzv30 tby30 tpls30 tf30_0 tpl30_0 tf30_1 tpl30_1 tf30_2 tpl30_2 tf30_3 tpl30_3 tf30_4 tpl30_4 tcn31 tz31 tzero31 tzv31 tby31 tst31 tpls31 tf31_0 tpl31_0 tf31_1 tpl31_1 tf31_2 tpl31_2 tf31_3 tpl31_3 tf31_4 tpl31_4 tcn32 tz32 tzero32 tzv32 tby32 tint32 tstr32 tlf32 tz34 tzero34 tz35 tzero35 tz37 tzero37 tz38 tzero38 tcn39 tz39 tzero39 tzv39 tby39 tel39 tsl39 tstr39 tseq39 tcn40 tz40 tzero40 tzv40 tby40 tpls40 tf40_0 tpl40_0 tf40_1 tpl40_1 tcn41 tz41 tzero41 tzv41 tby41 tst41 tpls41 tf41_0 tpl41_0 tf41_1 tpl41_1 tz43 tzero43 tz45 tzero45 tz46 tzero46 tz47 tzero47 tz48 tzero48 tcn49 tz49 tzero49 tzv49 tby49 tel49 tsl49 tstr49 tseq49 tz50 tzero50 tz51 tzero51 tz52 tzero52 tz54 tzero54 tcn55 tz55 tzero55 tzv55 tby55 tpls55 tf55_0 tpl55_0 tf55_1 tpl55_1 tcn56 tz56 tzero56 tzv56 tby56 tst56 tpls56 tf56_0 tpl56_0 tf56_1 tpl56_1 tz58 tzero58 tz59 tzero59 tz60 tzero60 tz61 tzero61 tz62 tzero62 tz64 tzero64 tcn65 tz65 tzero65 tzv65 tby65 tpls65 tf65_0 tpl65_0 tf65_1 tpl65_1 tf65_2 tpl65_2 tf65_3 tpl65_3 tf65_4 tpl65_4 tcn66 tz66 tzero66 tzv66 tby66 tst66 tpls66 tf66_0 tpl66_0 tf66_1 tpl66_1 tf66_2 tpl66_2 tf66_3 tpl66_3 tf66_4 tpl66_4 tz67 tzero67 tcn68 tz68 tzero68 tzv68 tby68 tpls68 tf68_0 tpl68_0 tf68_1 tpl68_1 tf68_2 tpl68_2 tf68_3 tpl68_3 tf68_4 tpl68_4 tf68_5 tpl68_5 tcn69 tz69 tzero69 tzv69 tby69 tst69 tpls69 tf69_0 tpl69_0 tf69_1 tpl69_1 tf69_2 tpl69_2 tf69_3 tpl69_3 tf69_4 tpl69_4 tf69_5 tpl69_5 tz70 tzero70 tz71 tzero71 tz72 tzero72 tz73 tzero73 tz74 tzero74 tz75 tzero75 tz76 tzero76 tz77 tzero77 tz78 tzero78 tcn79 tz79 tzero79 tzv79 tby79 tcn80 tz80 tzero80 tzv80 tby80 tpls80 tf80_0 tpl80_0 tf80_1 tpl80_1 tcn81 tz81 tzero81 tzv81 tby81 tst81 tpls81 tf81_0 tpl81_0 tf81_1 tpl81_1 tz82 tzero82 tz83 tzero83 tz84 tzero84 tz85 tzero85 tcn86 tz86 tzero86 tzv86 tby86 tel86 tsl86 tstr86 tseq86 tz88 tzero88 tz89 tzero89 tcn90 tz90 tzero90 tzv90 tby90 tel90 tpls90 tpl90_0 tpl90_1 tpl90_2 tpl90_3 tpl90_4 tpl90_5 tpl90_6 tpl90_7 tz92 tzero92 tz93 tzero93 tz94 tzero94 tz95 tzero95 tz96 tzero96 tcn97 tz97 tzero97 tzv97 tby97 tel97 tsl97 tstr97 tseq97 tcn98 tz98 tzero98 tzv98 tby98 tpls98 tf98_0 tpl98_0 tf98_1 tpl98_1 tf98_2 tpl98_2 tcn99 tz99 tzero99 tzv99 tby99 tst99 tpls99 tf99_0 tpl99_0 tf99_1 tpl99_1 tf99_2 tpl99_2 tz101 tzero101 tz102 tzero102 tz103 tzero103 tz104 tzero104 tz105 tzero105 tz106 tzero106 tz107 tzero107 tcn108 tz108 tzero108 tzv108 tmap108 tby108 tcn109 tz109 tzero109 tzv109 tby109 tpls109 tf109_0 tpl109_0 tf109_1 tpl109_1 tf109_2 tpl109_2 tcn110 tz110 tzero110 tzv110 tby110 tst110 tpls110 tf110_0 tpl110_0 tf110_1 tpl110_1 tf110_2 tpl110_2 tz111 tzero111 tz112 tzero112 tz113 tzero113 tz114 tzero114 tz115 tzero115 tz117 tzero117 tcn118 tz118 tzero118 tzv118 tby118 tpls118 tf118_0 tpl118_0 tf118_1 tpl118_1 tcn119 tz119 tzero119 tzv119 tby119 tst119 tpls119 tf119_0 tpl119_0 tf119_1 tpl119_1 tz120 tzero120 tz121 tzero121 tz122 tzero122 tcn123 tz123 tzero123 tzv123 tby123 tel123 tsl123 tstr123 tseq123 tcn124 tz124 tzero124 tzv124 tby124 tel124 tsl124 tstr124 tseq124 tz125 tzero125 tz126 tzero126 tz127 tzero127 tz128 tzero128 tz129 tzero129 tz130 tzero130 tz131 tzero131 tz132 tzero132 tz133 tzero133 tz134 tzero134 tz135 tzero135 tz136 tzero136 tz138 tzero138 tcn139 tz139 tzero139 tzv139 tby139 tel139 tpls139 tpl139_0 tpl139_1 tpl139_2 tpl139_3 tpl139_4 tpl139_5 tpl139_6 tpl139_7 tz140 tzero140 tcn141 tz141 tzero141 tzv141 tby141 tel141 tpls141 tpl141_0 tpl141_1 tpl141_2 tz143 tzero143 tz144 tzero144 tz145 tzero145 tz146 tzero146 tz147 tzero147 tcn148 tz148 tzero148 tzv148 tby148 tel148 tpls148 tpl148_0 tpl148_1 tz149 tzero149 tz151 tzero151 tcn152 tz152 tzero152 tzv152 tif152 tby152 tcn153 tz153 tzero153 tzv153 tif153 tby153 tz155 tzero155 tz156 tzero156 tz157 tzero157 tcn158 tz158 tzero158 tzv158 tby158 tel158 tpls158 tpl158_0 tpl158_1 tpl158_2 tz159 tzero159 tz160 tzero160 tz161 tzero161 tz162 tzero162 tz163 tzero163 tz164 tzero164 tcn165 tz165 tzero165 tzv165 tby165 tint165 tstr165 tlf165 tz166 tzero166 tcn167 tz167 tzero167 tzv167 tby167 tint167 tstr167 tlf167 tcn168 tz168 tzero168 tzv168 tby168 tint168 tstr168 tlf168 tz170 tzero170 tcn171 tz171 tzero171 tzv171 tby171 tz172 tzero172 tz173 tzero173 tz174 tzero174 tcn175 tz175 tzero175 tby175 tel175 tpls175 tpl175_0 tpl175_1 tpl175_2 tpl175_3 tpl175_4 tpl175_5 tpl175_6 tpl175_7 tz176 tzero176 tz177 tzero177 tcn178 tz178 tzero178 tzv178 tby178 tel178 tsl178 tstr178 tseq178 tz180 tzero180 tz181 tzero181 tcn182 tz182 tzero182 tzv182 tby182 tint182 tstr182 tlf182 tz184 tzero184 tz185 tzero185 tz186 tzero186 tz187 tzero187 tcn188 tz188 tzero188 tzv188 tby188 tpls188 tf188_0 tpl188_0 tf188_1 tpl188_1 tf188_2 tpl188_2 tcn189 tz189 tzero189 tzv189 tby189 tpls189 tf189_0 tpl189_0 tf189_1 tpl189_1 tf189_2 tpl189_2 tz190 tzero190 tz191 tzero191 tcn192 tz192 tzero192 tby192 tel192 tpls192 tpl192_0 tpl192_1 tpl192_2 tpl192_3 tpl192_4 tpl192_5 tpl192_6 tpl192_7 tcn193 tz193 tby193 tel193 tpls193 tpl193_0 tpl193_1 tpl193_2 tpl193_3 tpl193_4 tpl193_5 tpl193_6 tpl193_7 tz194 tzero194 tcn195 tz195 tzero195 tzv195 tby195 tcn196 tz196 tzero196 tzv196 tby196 tcn197 tz197 tzero197 tzv197 tby197 tpls197 tf197_0 tpl197_0 tcn198 tz198 tzero198 tzv198 tby198 tpls198 tf198_0 tpl198_0 tz199 tzero199 tcn200 tz200 tzero200 tby200 tel200 tpls200 tpl200_0 tpl200_1 tpl200_2 tpl200_3 tpl200_4 tpl200_5 tpl200_6 tpl200_7 tcn201 tz201 tby201 tel201 tpls201 tpl201_0 tpl201_1 tpl201_2 tpl201_3 tpl201_4 tpl201_5 tpl201_6 tpl201_7 tz202 tzero202 tcn203 tz203 tzero203 tzv203 tby203 tpls203 tf203_0 tpl203_0 tf203_1 tpl203_1 tf203_2 tpl203_2 tf203_3 tpl203_3 tcn204 tz204 tzero204 tzv204 tby204 tpls204 tf204_0 tpl204_0 tf204_1 tpl204_1 tf204_2 tpl204_2 tf204_3 tpl204_3 tcn205 tz205 tzero205 tzv205 tby205 tel205 tpls205 tcn206 tz206 tzero206 tzv206 tby206 tpls206 tpl206_0 tcn207 tz207 tzero207 tzv207 tby207 tpls207 tpl207_0 tz208 tzero208 tcn209 tz209 tzero209 tzv209 tby209 tint209 tstr209 tlf209 tcn210 tz210 tzero210 tzv210 tby210 tint210 tstr210 tlf210 tz211 tzero211 tcn212 tz212 tzero212 tzv212 tby212 tint212 tstr212 tlf212 tcn213 tz213 tzero213 tzv213 tby213 tint213 tstr213 tlf213 tcn214 tz214 tzero214 tzv214 tby214 tpls214 tf214_0 tpl214_0 tf214_1 tpl214_1 tf214_2 tpl214_2 tf214_3 tpl214_3 tf214_4 tpl214_4 tf214_5 tpl214_5 tf214_6 tpl214_6 tf214_7 tpl214_7 tf214_8 tpl214_8 tf214_9 tpl214_9 tf214_10 tpl214_10 tcn215 tz215 tzero215 tzv215 tby215 tpls215 tf215_0 tpl215_0 tf215_1 tpl215_1 tf215_2 tpl215_2 tf215_3 tpl215_3 tf215_4 tpl215_4 tf215_5 tpl215_5 tf215_6 tpl215_6 tf215_7 tpl215_7 tf215_8 tpl215_8 tf215_9 tpl215_9 tf215_10 tpl215_10 tcn216 tz216 tzero216 tzv216 tby216 tex0 tex1 tex2 tex3 tex4 tex5 tex6 tex7 tex8 tex9 tex10 tex11 tex12 tex13 tex14 tex15 tex16 tex17 tex18 tex19 tex20 tex21 tex22 tex23 tex24 tex25 tex26 tex27 tex28 tex29 tex30 tex31 tex32 tex33 tex34 tex35 tex36 tex37 tex38 tex39 tex40 tex41 tex42 tex43 tex44 tex45 tex46 tex47 tex48 tex49 tex50 tex51 tex52 tex53 tex54 tex55 tex56 tex57 tex58 tex59 tex60 tex61 tex62 tex63 tex64 tex65 tex66 tex67 tex68 tex69 tex70 tex71 tex72 tex73 tex74 tex75 tex76 tex77 tex78 tex79 tex80 tex81 tex82 tex83 tex84 tex85 tex86 tex87 tex88 tex89 tex90 tex91 tex92 tex93 tex94 tex95 tex96 tex97 tex98 tex99 tex100 tex101 tex102 tex103 tex104 tex105 tex106 tex107 tex108 tex109 tex110 tex111 tex112 tex113 tex114 tex115 tex116 tex117 tex118 tex119 tex120 tex121 tex122 tex123 tex124 tex125 tex126 tex127 tex128 tex129 tex130 tex131 tex132 tex133 tex134 tex135 tex136 tex137 tex138 tex139 tex140 tex141 tex142 tex143 tex144 tex145 tex146 tex147 tex148 tex149 tex150 tex151 tex152 tex153 tex154 tex155 tex156 tex157 tex158 tex159 tex160 tex161 tex162 tex163 tex164 tex165 tex166 tex167 tex168 tex169 tex170 tex171 tex172 tex173 tex174 tex175 tex176 tex177 tex178 tex179 tex180 tex181 tex182 tex183 tex184 tex185 tex186 tex187 tex188 tex189 tex190 tex191 tex192 tex193

end Go.Aw

namespace Go.Aw
set_option linter.unusedSimpArgs false
set_option linter.unusedVariables false
open Go.RowKit

theorem fz_bel (s:St) : ∀ (k:Nat) (x:V),V.bel 0 x=true→St.fz k s x=s
  | 0,_,_=>rfl
  | k+1,x,h=>by
    have hl:∀ xs:List V,V.belL 0 xs=true→xs.foldl (St.fz k) s=s:=fun xs=>by
      induction xs with
      | nil=>intro _; rfl
      | cons y r ih =>
        intro h
        simp only [V.belL,Bool.and_eq_true] at h
        rw [List.foldl_cons,fz_bel s k y h.1]
        exact ih h.2
    cases x with
    | ref id off len=>simp [V.bel] at h
    | ptr id row off=>simp [V.bel] at h
    | fn f xs=>exact hl xs (by simpa [V.bel] using h)
    | agg xs=>exact hl xs (by simpa [V.bel] using h)
    | iface t y=>exact fz_bel s k y (by simpa [V.bel] using h)
    | opt g y=>exact fz_bel s k y (by simpa [V.bel] using h)
    | _=>rfl
theorem settle_bel (s:St) : ∀ l:List Operand,(∀ y,y∈l→V.bel 0 (s.ev y)=true)→s.settle l=s
  | [],_=>rfl
  | x::r,h=>by
    rw [St.settle,fz_bel s 3 _ (h x (by simp))]
    exact settle_bel s r fun y hy=>h y (by simp [hy])
theorem sh_bel (n:Nat) : ∀ x:V,V.bel 0 x=true→V.sh n x=x:=by
  intro x
  apply V.rec (motive_1:=fun x=>V.bel 0 x=true→V.sh n x=x) (motive_2:=fun xs=>V.belL 0 xs=true→V.shL n xs=xs)
  · intro x _; rfl
  · intro xs ih h; simp only [V.sh]; rw [ih (by simpa [V.bel] using h)]
  · intro xs ih h; simp only [V.sh]; rw [ih (by simpa [V.bel] using h)]
  · intro id row off h; simp [V.bel] at h
  · intro id off len h; simp [V.bel] at h
  · intro _; rfl
  · intro f xs ih h; simp only [V.sh]; rw [ih (by simpa [V.bel] using h)]
  · intro id h; simp [V.bel] at h
  · intro t x ih h; simp only [V.sh]; rw [ih (by simpa [V.bel] using h)]
  · intro g x ih h; simp only [V.sh]; rw [ih (by simpa [V.bel] using h)]
  · intro _; rfl
  · intro _; rfl
  · intro x r ih1 ih2 h
    simp only [V.belL,Bool.and_eq_true] at h
    simp only [V.shL]
    rw [ih1 h.1,ih2 h.2]
theorem ren_fix {r:List Nat} {n:Nat} (hr:∀ i,i<n→r.getD i 0=i) : ∀ x:V,V.bel n x=true→V.ren r x=x:=by
  intro x
  apply V.rec (motive_1:=fun x=>V.bel n x=true→V.ren r x=x) (motive_2:=fun xs=>V.belL n xs=true→V.renL r xs=xs)
  · intro x _; rfl
  · intro xs ih h; simp only [V.ren]; rw [ih (by simpa [V.bel] using h)]
  · intro xs ih h; simp only [V.ren]; rw [ih (by simpa [V.bel] using h)]
  · intro id row off h; simp only [V.ren]; rw [hr id (by simpa [V.bel] using h)]
  · intro id off len h; simp only [V.ren]; rw [hr id (by simpa [V.bel] using h)]
  · intro _; rfl
  · intro f xs ih h; simp only [V.ren]; rw [ih (by simpa [V.bel] using h)]
  · intro id h; simp only [V.ren]; rw [hr id (by simpa [V.bel] using h)]
  · intro t x ih h; simp only [V.ren]; rw [ih (by simpa [V.bel] using h)]
  · intro g x ih h; simp only [V.ren]; rw [ih (by simpa [V.bel] using h)]
  · intro _; rfl
  · intro _; rfl
  · intro x r ih1 ih2 h
    simp only [V.belL,Bool.and_eq_true] at h
    simp only [V.renL]
    rw [ih1 h.1,ih2 h.2]
theorem bel_up {n m:Nat} (hnm:n≤m) : ∀ x:V,V.bel n x=true→V.bel m x=true:=by
  intro x
  apply V.rec (motive_1:=fun x=>V.bel n x=true→V.bel m x=true) (motive_2:=fun xs=>V.belL n xs=true→V.belL m xs=true)
  · intro x _; rfl
  · intro xs ih h; simpa [V.bel] using ih (by simpa [V.bel] using h)
  · intro xs ih h; simpa [V.bel] using ih (by simpa [V.bel] using h)
  · intro id row off h; simp [V.bel] at h ⊢; omega
  · intro id off len h; simp [V.bel] at h ⊢; omega
  · intro _; rfl
  · intro f xs ih h; simpa [V.bel] using ih (by simpa [V.bel] using h)
  · intro id h; simp [V.bel] at h ⊢; omega
  · intro t x ih h; simpa [V.bel] using ih (by simpa [V.bel] using h)
  · intro g x ih h; simpa [V.bel] using ih (by simpa [V.bel] using h)
  · intro _; rfl
  · intro _; rfl
  · intro x r ih1 ih2 h
    simp only [V.belL,Bool.and_eq_true] at h ⊢
    exact ⟨ih1 h.1,ih2 h.2⟩
theorem belL_up {n m:Nat} (hnm:n≤m) : ∀ xs:List V,V.belL n xs=true→V.belL m xs=true
  | [],_=>rfl
  | x::r,h=>by
    simp only [V.belL,Bool.and_eq_true] at h ⊢
    exact ⟨bel_up hnm x h.1,belL_up hnm r h.2⟩
theorem Blk.bel_up {n m:Nat} (hnm:n≤m) (b:Blk) (h:b.bel n=true) : b.bel m=true:=by
  cases b with
  | cells xs=>exact belL_up hnm xs h
  | vrs k rs =>
    simp only [Blk.bel,List.all_eq_true] at h ⊢
    exact fun r hr=>belL_up hnm r (h r hr)
  | mp es =>
    simp only [Blk.bel,List.all_eq_true,Bool.and_eq_true] at h ⊢
    exact fun p hp=>⟨Aw.bel_up hnm _ (h p hp).1,Aw.bel_up hnm _ (h p hp).2⟩
  | it x seen k=>exact Aw.bel_up hnm x h
  | _=>rfl
theorem renL_fix {r:List Nat} {n:Nat} (hr:∀ i,i<n→r.getD i 0=i) (xs:List V) (h:V.belL n xs=true) : V.renL r xs=xs:=by
  rw [renL_eq]
  conv=>rhs; rw [← List.map_id xs]
  exact List.map_congr_left fun x hx=>ren_fix hr x (belL_mem h hx)
theorem Blk.ren_fix {r:List Nat} {n:Nat} (hr:∀ i,i<n→r.getD i 0=i) (b:Blk) (h:b.bel n=true) : b.ren r=b:=by
  cases b with
  | cells xs=>simp only [Blk.ren]; rw [renL_fix hr xs h]
  | vrs k rs =>
    simp only [Blk.bel,List.all_eq_true] at h
    simp only [Blk.ren]
    congr 1
    conv=>rhs; rw [← List.map_id rs]
    exact List.map_congr_left fun q hq=>renL_fix hr q (h q hq)
  | mp es =>
    simp only [Blk.bel,List.all_eq_true,Bool.and_eq_true] at h
    simp only [Blk.ren]
    congr 1
    conv=>rhs; rw [← List.map_id es]
    exact List.map_congr_left fun p hp=>by rw [Aw.ren_fix hr _ (h p hp).1,Aw.ren_fix hr _ (h p hp).2]; rfl
  | it x seen k=>simp only [Blk.ren]; rw [Aw.ren_fix hr x h]
  | _=>rfl
theorem leafConst_bel (v:Value) : V.bel 0 (leafConst v)=true:=by
  unfold leafConst
  split <;> rfl
theorem kzero_bel {P:Program} {t:TypeId} {zs:List V} (h:kzero P t=some zs) : V.belL 0 zs=true:=by
  obtain ⟨i,z,_,_,rfl⟩:=kzero_spec h
  generalize z.cells.toList=l
  induction l with
  | nil=>rfl
  | cons x r ih=>simp only [List.map_cons,V.belL,leafConst_bel,ih,Bool.and_self]
theorem dOf_bel {x:V} {d:D} (h:dOf x=some d) : V.bel 0 x=true:=by
  cases x <;> simp [dOf] at h <;> rfl
theorem dOfs_bel:∀ {xs:List V} {ds:List D},dOfs xs=some ds→V.belL 0 xs=true
  | [],_,_=>rfl
  | x::r,ds,h=>by
    simp only [dOfs] at h
    split at h
    · rename_i h1 h2
      simp only [V.belL,dOf_bel h1,dOfs_bel h2,Bool.and_self]
    · cases h
theorem dV_bel {x:V} {d:D} (h:dV x=some d) : V.bel 0 x=true:=by
  unfold dV at h
  split at h
  · rfl
  · rfl
  · simp only [Option.map_eq_some_iff] at h
    obtain ⟨ds,h,_⟩:=h
    simpa [V.bel] using dOfs_bel h
  · simp only [Option.map_eq_some_iff] at h
    obtain ⟨ds,h,_⟩:=h
    simpa [V.bel] using dOfs_bel h
  · rfl
  · simp only [Option.map_eq_some_iff] at h
    obtain ⟨ds,h,_⟩:=h
    simpa [V.bel] using dOfs_bel h
  · cases h
theorem dVs_bel:∀ {xs:List V} {ds:List D},dVs xs=some ds→∀ x,x∈xs→V.bel 0 x=true
  | [],_,_,x,hx=>by cases hx
  | y::r,ds,h,x,hx=>by
    simp only [dVs] at h
    split at h
    · rename_i h1 h2
      rcases List.mem_cons.1 hx with rfl | hx
      · exact dV_bel h1
      · exact dVs_bel h2 x hx
    · cases h
theorem strip_bel {n:Nat} {x:V} (h:V.bel n x.strip.2=true) : V.bel n x=true:=by
  cases x <;> first | exact h | (simpa [V.strip,V.bel] using h)
theorem stripAll_mem {s:St} : ∀ {l:List Operand} {y:Operand},y∈l→(s.ev y).strip.2∈(stripAll s l).2
  | x::r,y,h=>by
    rcases List.mem_cons.1 h with rfl | h
    · simp [stripAll]
    · simp only [stripAll]; exact List.mem_cons_of_mem _ (stripAll_mem h)
theorem callOps_bel {s:St} {c:Call} {p:Prop} {f:FuncId} {args:List V} {ds:List D} (hT:callT s c=some (p,f,args)) (hd:dVs args=some ds) : ∀ y,y∈callOps c→V.bel 0 (s.ev y)=true:=by
  intro y hy
  unfold callT at hT
  split at hT
  · rename_i fo hc
    simp only [callOps,hc,List.mem_append,List.mem_singleton] at hy
    split at hT
    · rename_i g caps he
      simp only [Option.some.injEq,Prod.mk.injEq] at hT
      obtain ⟨_,_,rfl⟩:=hT
      rcases hy with hy | rfl
      · exact strip_bel (dVs_bel hd _ (List.mem_append_left _ (stripAll_mem hy)))
      · exact strip_bel (by rw [he]; rfl)
    · rename_i g caps he
      simp only [Option.some.injEq,Prod.mk.injEq] at hT
      obtain ⟨_,_,rfl⟩:=hT
      rcases hy with hy | rfl
      · exact strip_bel (dVs_bel hd _ (List.mem_append_left _ (stripAll_mem hy)))
      · refine strip_bel ?_
        rw [he]
        have:∀ l:List V,(∀ x,x∈l→V.bel 0 x=true)→V.belL 0 l=true:=fun l=>by
          induction l with
          | nil=>intro _; rfl
          | cons x r ih=>intro h; simp only [V.belL,h x (by simp),ih fun z hz=>h z (by simp [hz]),Bool.and_self]
        simpa [V.bel] using this caps fun x hx=>dVs_bel hd x (List.mem_append_right _ hx)
    · cases hT
  · cases hT

theorem stripAll_congrP {s s':St} : ∀ {l:List Operand},(∀ y,y∈l→s'.ev y=s.ev y)→stripAll s' l=stripAll s l
  | [],_=>rfl
  | x::r,h=>by simp only [stripAll]; rw [h x (by simp),stripAll_congrP fun y hy=>h y (by simp [hy])]

def valCall (c:Call) : Bool:=match c.callee with | .value _=>true | _=>false

theorem callT_congrP {s s':St} {c:Call} (h:∀ y,y∈callOps c→s'.ev y=s.ev y) : callT s' c=callT s c:=by
  unfold callT
  split
  · rename_i fo hc
    simp only [callOps,hc,List.mem_append,List.mem_singleton] at h
    rw [h fo (.inr rfl),stripAll_congrP fun y hy=>h y (.inl hy)]
  · rfl
theorem opR_congrP {P:Program} {s s':St} {c:Call} (hv:valCall c=true) (h:∀ y,y∈callOps c→s'.ev y=s.ev y) (h0:opR P s (.call c)=none) : opR P s' (.call c)=none:=by
  unfold valCall at hv
  split at hv
  · rename_i fo hc
    simp only [callOps,hc,List.mem_append,List.mem_singleton] at h
    simp only [opR,hc] at h0 ⊢
    cases fo with
    | func g =>
      simp only at h0 ⊢
      rw [stripAll_congrP fun y hy=>h y (.inl hy)]
      exact h0
    | _=>simp only [opQ,hc] at h0 ⊢
  · cases hv

theorem call_vc {P:Program} {kp:List Nat} {ops:Array Oper} {o:Oper} {c:Call} {s:St} {p:Prop} {f:FuncId} {args:List V} {ds:List D} {x0:V} {K:St→Prop} (hg:o.guard=none) (hc:o.op=.call c) (hv:valCall c=true)
    (hR:opR P s (.call c)=none) (hT:callT s c=some (p,f,args)) (hd:dVs args=some ds) (hp:p) (hb:V.bel 0 x0=true) (h:PC P f ds fun x H=>x=x0∧H=[]) (hK:K (s.put o.dst x0)) : OpVC P kp ops o s K:=by
  have hE:opE P kp s (.call c)=none:=by
    unfold valCall at hv
    split at hv
    · rename_i fo hcc; simp only [opE,hcc]
    · cases hv
  have hs:s.settle (callOps c)=s:=settle_bel s _ (callOps_bel hT hd)
  unfold OpVC St.guardOf
  simp only [hg,hc,hR,hE,hs,hT,hd]
  refine ⟨fun _=>hp,CallD.det h ?_⟩
  rw [sh_bel _ _ hb,show heapSh s.heap.length []=[] from rfl,List.append_nil]
  exact hK
theorem alloc_vc {P:Program} {kp:List Nat} {ops:Array Oper} {o:Oper} {t:TypeId} {s:St} {zs:List V} {K:St→Prop} (hg:o.guard=none) (hc:o.op=.alloc t) (hz:kzero P t=some zs)
    (hK:K ({ s with heap:=s.heap++[Blk.cells zs] }.put o.dst (.ptr s.heap.length 0 0))) : OpVC P kp ops o s K:=by
  unfold OpVC St.guardOf
  simp only [hg,hc,opR,opQ,opE,hz,Option.map_some]
  exact ⟨trivial,hK⟩

structure It where
  i:Nat
  d:Nat
  v:V
  b:Option Blk

def ItOk (P:Program) (ops:Array Oper) (s0:St) (it:It) : Prop:=∃ o,ops[it.i]? = some o∧o.guard=none∧o.dst=some it.d ∧
  match it.b with
  | none=>V.bel 0 it.v=true∧∃ c p f args ds,o.op=.call c∧valCall c=true∧opR P s0 (.call c)=none∧callT s0 c=some (p,f,args)∧p∧dVs args=some ds∧PC P f ds fun x H=>x=it.v∧H=[]
  | some b=>∃ t zs,o.op=.alloc t∧kzero P t=some zs∧b=.cells zs
def applyI (s:St) : List It→St
  | []=>s
  | it::r=>applyI ⟨tput s.tm it.d it.v,s.heap++it.b.toList⟩ r
def SlotsI:Nat→List It→Prop
  | _,[]=>True
  | n,it::r=>(it.b.isSome=true→it.v=.ptr n 0 0)∧SlotsI (n+it.b.toList.length) r
def hpI (pd:Nat→Bool) : List It→List Blk
  | []=>[]
  | it::r=>(it.b.toList.map fun b=>if pd it.i then .gone else b)++hpI pd r

theorem applyI_heap:∀ (its:List It) (s:St),(applyI s its).heap=s.heap++hpI (fun _=>false) its
  | [],s=>by simp [applyI,hpI]
  | it::r,s=>by rw [applyI,applyI_heap r]; simp [hpI]
theorem applyI_other:∀ (its:List It) (s:St) (j:Nat),(∀ it,it∈its→it.d≠j)→tget (applyI s its).tm j=tget s.tm j
  | [],s,j,_=>rfl
  | it::r,s,j,h=>by
    rw [applyI,applyI_other r _ j fun x hx=>h x (by simp [hx])]
    simp only [tget_tput]
    rw [if_neg fun e=>h it (by simp) e.symm]
theorem applyI_get:∀ (its:List It) (s:St),(its.map It.d).Nodup→∀ it,it∈its→tget (applyI s its).tm it.d=some it.v
  | x::r,s,hn,it,h=>by
    simp only [List.map_cons,List.nodup_cons] at hn
    rw [applyI]
    rcases List.mem_cons.1 h with rfl | h
    · rw [applyI_other r _ _ fun y hy e=>hn.1 (by rw [← e]; exact List.mem_map_of_mem hy)]
      simp [tget_tput]
    · exact applyI_get r _ hn.2 it h
theorem slot_at (pd:Nat→Bool) : ∀ (its:List It) (H:List Blk),SlotsI H.length its→∀ it b,it∈its→it.b=some b→∃ g,it.v=.ptr g 0 0∧H.length≤g∧g<H.length+(hpI pd its).length
  | x::r,H,hs,it,b,h,hb=>by
    simp only [SlotsI] at hs
    rcases List.mem_cons.1 h with rfl | h
    · exact ⟨H.length,hs.1 (by simp [hb]),Nat.le_refl _,by simp [hpI,hb]⟩
    · obtain ⟨g,h1,h2,h3⟩:=slot_at pd r (H++x.b.toList) (by simpa using hs.2) it b h hb
      refine ⟨g,h1,by simp at h2; omega,?_⟩
      simp [hpI] at h3 ⊢; omega
theorem slot_set (i:Nat) (pd:Nat→Bool) : ∀ (its:List It) (H:List Blk),(its.map It.i).Nodup→SlotsI H.length its→∀ it b g,it∈its→it.b=some b→it.i=i→it.v=.ptr g 0 0 →
    H++hpI (fun k=>pd k && !(k==i)) its=(H++hpI pd its).set g b
  | x::r,H,hn,hs,it,b,g,h,hb,hi,hv=>by
    simp only [List.map_cons,List.nodup_cons] at hn
    simp only [SlotsI] at hs
    have rest:(∀ y,y∈r→y.i≠i)→hpI (fun k=>pd k && !(k==i)) r=hpI pd r:=by
      intro hr
      clear hn hs h
      induction r with
      | nil=>rfl
      | cons y q ih =>
        have h1:=hr y (by simp)
        simp only [hpI]
        rw [ih fun z hz=>hr z (by simp [hz])]
        simp [h1]
    rcases List.mem_cons.1 h with rfl | h
    · have hg:=hs.1 (by simp [hb])
      rw [hv] at hg
      simp only [V.ptr.injEq,and_true] at hg
      subst hg
      simp only [hpI]
      rw [rest fun y hy e=>hn.1 (by rw [hi,← e]; exact List.mem_map_of_mem hy)]
      simp [hb,hi]
    · have hx:x.i≠i:=fun e=>hn.1 (by rw [e,← hi]; exact List.mem_map_of_mem h)
      have:=slot_set i pd r (H++(x.b.toList.map fun b=>if pd x.i then .gone else b)) hn.2 (by simpa using hs.2) it b g h hb hi hv
      simp only [List.append_assoc] at this
      simp only [hpI]
      rw [← this]
      simp [hx]
theorem slot_inj:∀ (its:List It) (n:Nat),SlotsI n its→(its.map It.i).Nodup→∀ it it' g,it∈its→it'∈its→it.b.isSome=true→it'.b.isSome=true→it.v=.ptr g 0 0→it'.v=.ptr g 0 0→it=it':=by
  have low:∀ (its:List It) (n:Nat),SlotsI n its→∀ it g,it∈its→it.b.isSome=true→it.v=.ptr g 0 0→n≤g:=by
    intro its
    induction its with
    | nil=>intro n _ it g h; cases h
    | cons x r ih =>
      intro n hs it g h hb hv
      simp only [SlotsI] at hs
      rcases List.mem_cons.1 h with rfl | h
      · have:=hs.1 hb
        rw [hv] at this
        simp only [V.ptr.injEq,and_true] at this
        omega
      · have:=ih _ hs.2 it g h hb hv
        omega
  intro its
  induction its with
  | nil=>intro n _ _ it it' g h; cases h
  | cons x r ih =>
    intro n hs hn it it' g h h' hb hb' hv hv'
    simp only [SlotsI] at hs
    simp only [List.map_cons,List.nodup_cons] at hn
    rcases List.mem_cons.1 h with h0 | h1 <;> rcases List.mem_cons.1 h' with h0' | h1'
    · exact h0.trans h0'.symm
    · exfalso
      subst h0
      have e1:=hs.1 hb
      rw [hv] at e1
      simp only [V.ptr.injEq,and_true] at e1
      have:=low r _ hs.2 it' g h1' hb' hv'
      cases hbb:it.b with
      | none=>rw [hbb] at hb; cases hb
      | some b=>rw [hbb] at this; simp at this; omega
    · exfalso
      subst h0'
      have e1:=hs.1 hb'
      rw [hv'] at e1
      simp only [V.ptr.injEq,and_true] at e1
      have:=low r _ hs.2 it g h1 hb hv
      cases hbb:it'.b with
      | none=>rw [hbb] at hb'; cases hb'
      | some b=>rw [hbb] at this; simp at this; omega
    · exact ih _ hs.2 hn.2 it it' g h1 h1' hb hb' hv hv'

theorem tget_filter (q:Nat→Bool) : ∀ (l:List (Nat × V)) (j:Nat),tget (l.filter fun p=>q p.1) j=if q j then tget l j else none
  | [],j=>by simp [tget]
  | (k,x)::r,j=>by
    have ih:=tget_filter q r j
    by_cases hk:q k=true
    · rw [List.filter_cons_of_pos (by simpa using hk)]
      simp only [tget]
      by_cases hj:j=k
      · subst hj; simp [hk]
      · simp only [hj,if_false]; exact ih
    · rw [List.filter_cons_of_neg (by simpa using hk),ih]
      by_cases hj:j=k
      · subst hj; simp [hk]
      · simp only [tget,hj,if_false]

def stgI (pd:Nat→Bool) (its:List It) (s0:St) : St:=⟨(applyI s0 its).tm.filter fun p => !(its.any fun it=>pd it.i&&it.d==p.1),s0.heap++hpI pd its⟩
theorem stgI_get (pd:Nat→Bool) (its:List It) (s0:St) (j:Nat) : tget (stgI pd its s0).tm j=if (its.any fun it=>pd it.i&&it.d==j) then none else tget (applyI s0 its).tm j:=by
  unfold stgI
  have:=tget_filter (fun j => !(its.any fun it=>pd it.i&&it.d==j)) (applyI s0 its).tm j
  rw [this]
  cases its.any fun it=>pd it.i&&it.d==j <;> rfl

end Go.Aw

namespace Go.Aw
set_option linter.unusedSimpArgs false
set_option linter.unusedVariables false
open Go.RowKit

theorem hpI_congr {pd pd':Nat→Bool} : ∀ {its:List It},(∀ x,x∈its→x.b.isSome=true→pd x.i=pd' x.i)→hpI pd its=hpI pd' its
  | [],_=>rfl
  | x::r,h=>by
    simp only [hpI]
    rw [hpI_congr fun y hy=>h y (by simp [hy])]
    cases hb:x.b with
    | none=>rfl
    | some b=>simp [h x (by simp) (by simp [hb])]
theorem hpI_gone:∀ (its:List It) (b:Blk),b∈hpI (fun _=>true) its→b=.gone
  | [],b,h=>by cases h
  | x::r,b,h=>by
    simp only [hpI,List.mem_append] at h
    rcases h with h | h
    · cases hb:x.b with
      | none=>simp [hb] at h
      | some c=>simpa [hb] using h
    · exact hpI_gone r b h
theorem hpI_bel {P:Program} {ops:Array Oper} {s0:St} {pd:Nat→Bool} : ∀ {its:List It},(∀ it,it∈its→ItOk P ops s0 it)→∀ b,b∈hpI pd its→b.bel 0=true
  | [],_,b,h=>by cases h
  | x::r,hok,b,h=>by
    simp only [hpI,List.mem_append] at h
    rcases h with h | h
    · obtain ⟨o,_,_,_,hm⟩:=hok x (by simp)
      cases hb:x.b with
      | none=>simp [hb] at h
      | some c =>
        rw [hb] at hm
        obtain ⟨t,zs,_,hz,rfl⟩:=hm
        simp only [hb,Option.toList_some,List.map_cons,List.map_nil,List.mem_singleton] at h
        subst h
        split
        · rfl
        · exact kzero_bel hz
    · exact hpI_bel (fun it hit=>hok it (by simp [hit])) b h

theorem stg_start {B:Base} {s0:St} {a:Act} {w:World} {E:Env} {F:Nat→Prop} {its:List It} (hs:Sim B s0 a w E F) :
    Sim B (stgI (fun _=>true) its s0) a w (E++List.replicate (hpI (fun _=>true) its).length ⟨none,0,0⟩) F:=by
  have hr:=hs.rel
  have hg:=hpI_gone its
  have hlen:=hr.hr.len
  generalize hR:hpI (fun _=>true) its=R at hg
  have he:∀ id e,E[id]? = some e→(E++List.replicate R.length ⟨none,0,0⟩)[id]? = some e:=fun id e h=>by
    rw [List.getElem?_append_left (List.getElem?_eq_some_iff.1 h).1]; exact h
  have evo:Evo E F w (E++List.replicate R.length ⟨none,0,0⟩) F w (fun _=>True):=⟨fun _ h=>h,fun _ _=>rfl,fun id e _ h=>he id e h,fun _ _ h=>h⟩
  have old:∀ (id:Nat) (e:En) (b:Blk),(E++List.replicate R.length ⟨none,0,0⟩)[id]? = some e→(s0.heap++R)[id]? = some b→(E[id]? = some e∧s0.heap[id]? = some b)∨b=.gone:=by
    intro id e b h1 h2
    rcases Nat.lt_or_ge id s0.heap.length with h | h
    · rw [List.getElem?_append_left h] at h2
      rw [List.getElem?_append_left (by omega)] at h1
      exact .inl ⟨h1,h2⟩
    · rw [List.getElem?_append_right h] at h2
      exact .inr (hg b (List.mem_of_getElem? h2))
  have oldl:∀ (id:Nat) (e:En) (b:Blk),(E++List.replicate R.length ⟨none,0,0⟩)[id]? = some e→(s0.heap++R)[id]? = some b→b.live=true→(E[id]? = some e∧s0.heap[id]? = some b):=by
    intro id e b h1 h2 h3
    rcases old id e b h1 h2 with h | rfl
    · exact h
    · cases h3
  have hh:(stgI (fun _=>true) its s0).heap=s0.heap++R:=by simp only [stgI,hR]
  refine ⟨⟨hr.os,hr.tape,hr.output,hr.size,hr.F0,hr.only,hr.same,hr.lt,⟨by rw [hh]; simp [hlen],?_,?_,?_⟩,?_,?_,hr.sz⟩,hs.defers,?_⟩
  · intro id e b h1 h2
    rw [hh] at h2
    rcases old id e b h1 h2 with ⟨g1,g2⟩ | rfl
    · exact (hr.hr.blk id e b g1 g2).evo evo (fun _ _=>trivial) fun _ _=>rfl
    · trivial
  · intro id b e blk h1 h2 h3 h4
    rw [hh] at h3
    obtain ⟨g1,g2⟩:=oldl id e blk h1 h3 h4
    exact hr.hr.free id b e blk g1 h2 g2 h4
  · intro i j b ei ej bi bj h1 h2 h3 h4 h5 h6 h7 h8
    rw [hh] at h5 h6
    obtain ⟨g1,g2⟩:=oldl i ei bi h1 h5 h7
    obtain ⟨g3,g4⟩:=oldl j ej bj h2 h6 h8
    exact hr.hr.inj i j b ei ej bi bj g1 g3 h3 h4 g2 g4 h7 h8
  · intro id b e blk h1 h2 h3 h4
    rw [hh] at h2
    obtain ⟨g1,g2⟩:=oldl id e blk h1 h2 h3
    exact hr.src id b e blk g1 g2 h3 h4
  · intro i hi
    obtain ⟨e,h1,h2⟩:=hr.keep i hi
    exact ⟨e,he i e h1,h2⟩
  · intro j x hx
    rw [stgI_get] at hx
    split at hx
    · cases hx
    · rename_i hany
      rw [applyI_other its s0 j fun it hit e=>hany (by simp only [List.any_eq_true,Bool.true_and,beq_iff_eq]; exact ⟨it,hit,e⟩)] at hx
      obtain ⟨v,hv,hr⟩:=hs.tm j x hx
      exact ⟨v,hv,hr.evo evo fun _ _=>trivial⟩

theorem Sim.told {B:Base} {s s':St} {a:Act} {w:World} {E:Env} {F:Nat→Prop} (hs:Sim B s a w E F) (hh:s'.heap=s.heap) (ht:∀ j x,tget s'.tm j=some x→tget s.tm j=some x) : Sim B s' a w E F:=by
  obtain ⟨tm',heap'⟩:=s'
  simp only at hh
  subst hh
  exact ⟨⟨hs.rel.os,hs.rel.tape,hs.rel.output,hs.rel.size,hs.rel.F0,hs.rel.only,hs.rel.same,hs.rel.lt,hs.rel.hr,hs.rel.src,hs.rel.keep,hs.rel.sz⟩,hs.defers,fun i x hx=>hs.tm i x (ht i x hx)⟩

theorem stg_end {B:Base} {s0:St} {a:Act} {w:World} {E:Env} {F:Nat→Prop} {its:List It} {pd:Nat→Bool} (hp:∀ it,it∈its→pd it.i=false) (hs:Sim B (stgI pd its s0) a w E F) : Sim B (applyI s0 its) a w E F:=by
  refine hs.told ?_ fun j x hx => ?_
  · rw [applyI_heap]
    simp only [stgI]
    rw [hpI_congr (pd:=pd) (pd':=fun _=>false) fun x hx _=>hp x hx]
  · rw [stgI_get,if_neg]
    · exact hx
    · simp only [List.any_eq_true,Bool.and_eq_true,beq_iff_eq,not_exists,not_and]
      intro it hit h
      rw [hp it hit] at h; cases h

theorem item_eq {its:List It} (hn:(its.map It.i).Nodup) : ∀ {x y:It},x∈its→y∈its→x.i=y.i→x=y:=by
  induction its with
  | nil=>intro x y h; cases h
  | cons z r ih =>
    intro x y hx hy e
    simp only [List.map_cons,List.nodup_cons] at hn
    rcases List.mem_cons.1 hx with h | h <;> rcases List.mem_cons.1 hy with h' | h'
    · exact h.trans h'.symm
    · subst h; exact absurd (by rw [e]; exact List.mem_map_of_mem h') hn.1
    · subst h'; exact absurd (by rw [← e]; exact List.mem_map_of_mem h) hn.1
    · exact ih hn.2 h h' e

theorem stg_tm {s0:St} {its:List It} (hn1:(its.map It.i).Nodup) (hn2:(its.map It.d).Nodup) {pd:Nat→Bool} {it:It} (hit:it∈its) {j:Nat} {x:V} (h:tget (stgI (fun k=>pd k && !(k==it.i)) its s0).tm j=some x) :
    (j=it.d∧x=it.v)∨(j≠it.d∧tget (stgI pd its s0).tm j=some x):=by
  rw [stgI_get] at h
  split at h
  · cases h
  rename_i hany
  by_cases hj:j=it.d
  · subst hj
    rw [applyI_get its s0 hn2 it hit] at h
    exact .inl ⟨rfl,(Option.some.inj h).symm⟩
  · refine .inr ⟨hj,?_⟩
    rw [stgI_get,if_neg]
    · exact h
    · intro hc
      simp only [List.any_eq_true,Bool.and_eq_true,beq_iff_eq] at hc
      obtain ⟨y,hy,h1,h2⟩:=hc
      refine hany (List.any_eq_true.2 ⟨y,hy,?_⟩)
      have:y.i≠it.i:=fun e=>hj (by rw [← h2,item_eq hn1 hy hit e])
      simp [h1,h2,this]

theorem stg_call {B:Base} {s0:St} {a:Act} {w:World} {E:Env} {F:Nat→Prop} {its:List It} (hn1:(its.map It.i).Nodup) (hn2:(its.map It.d).Nodup) {pd:Nat→Bool} {it:It} (hit:it∈its) (hb:it.b=none)
    (hs:Sim B ((stgI pd its s0).put (some it.d) it.v) a w E F) : Sim B (stgI (fun k=>pd k && !(k==it.i)) its s0) a w E F:=by
  refine hs.told ?_ fun j x hx => ?_
  · simp only [stgI,St.put]
    rw [hpI_congr (pd:=fun k=>pd k && !(k==it.i)) (pd':=pd)]
    intro x hx hxb
    have:x.i≠it.i:=fun e=>by rw [item_eq hn1 hx hit e,hb] at hxb; cases hxb
    simp [this]
  · simp only [St.put,tget_tput]
    rcases stg_tm hn1 hn2 hit hx with ⟨rfl,rfl⟩ | ⟨h1,h2⟩
    · simp
    · rw [if_neg h1]; exact h2

theorem renHeap_of {r:List Nat} {H:List Blk} : ∀ {l:List Blk} {q:List Nat},l.length=q.length→(∀ (j:Nat) (b:Blk) (i:Nat),l[j]? = some b→q[j]? = some i→H[i]? = some (Blk.ren r b))→renHeap r l q H
  | [],[],_,_=>trivial
  | b::l,i::q,hl,h=>⟨h 0 b i rfl rfl,renHeap_of (by simpa using hl) fun j c k h1 h2=>h (j+1) c k (by simpa using h1) (by simpa using h2)⟩
  | [],i::q,hl,_=>by simp at hl
  | b::l,[],hl,_=>by simp at hl
theorem belHeap_of {n:Nat} : ∀ {l:List Blk},(∀ b,b∈l→b.bel n=true)→belHeap n l=true
  | [],_=>rfl
  | b::l,h=>by
    simp only [belHeap,Bool.and_eq_true]
    exact ⟨h b List.mem_cons_self,belHeap_of fun c hc=>h c (List.mem_cons_of_mem _ hc)⟩

theorem stg_new {P:Program} {ops:Array Oper} {B:Base} {s0:St} {a:Act} {w:World} {E:Env} {F:Nat→Prop} {its:List It} (hn1:(its.map It.i).Nodup) (hn2:(its.map It.d).Nodup) (hok:∀ it,it∈its→ItOk P ops s0 it) (hsl:SlotsI s0.heap.length its)
    (hb1:belTm s0.heap.length s0.tm=true) (hb2:belHeap s0.heap.length s0.heap=true) (hk:∀ i,i∈B.keep→i<s0.heap.length) {pd:Nat→Bool} {it:It} (hit:it∈its) {b:Blk} (hb:it.b=some b) (hp:pd it.i=true)
    (hs:Sim B ⟨tput (stgI pd its s0).tm it.d (.ptr (stgI pd its s0).heap.length 0 0),(stgI pd its s0).heap++[b]⟩ a w E F) : ∃ E',Sim B (stgI (fun k=>pd k && !(k==it.i)) its s0) a w E' F:=by
  obtain ⟨g,hv,hg1,hg2⟩:=slot_at pd its s0.heap hsl it b hit hb
  have hset:=slot_set it.i pd its s0.heap hn1 hsl it b g hit hb rfl hv
  have hH:(stgI pd its s0).heap=s0.heap++hpI pd its:=rfl
  have huH:(stgI (fun k=>pd k && !(k==it.i)) its s0).heap=(stgI pd its s0).heap.set g b:=hset
  have hN:s0.heap.length+(hpI pd its).length=(stgI pd its s0).heap.length:=by rw [hH]; simp
  rw [hN] at hg2
  have hbb:b.bel 0=true:=by
    obtain ⟨o,_,_,_,hm⟩:=hok it hit
    rw [hb] at hm
    obtain ⟨t,zs,_,hz,rfl⟩:=hm
    exact kzero_bel hz
  have hbel:∀ c,c∈(stgI (fun k=>pd k && !(k==it.i)) its s0).heap→c.bel s0.heap.length=true:=fun c hc=>by
    simp only [stgI,List.mem_append] at hc
    rcases hc with hc | hc
    · obtain ⟨j,hj⟩:=List.getElem?_of_mem hc
      exact belHeap_get hb2 j c hj
    · exact Blk.bel_up (Nat.zero_le _) c (hpI_bel hok c hc)
  have htm:∀ j x,j≠it.d→tget (stgI pd its s0).tm j=some x→V.bel s0.heap.length x=true∨∃ g',x=.ptr g' 0 0∧g'≠g∧g'<(stgI pd its s0).heap.length:=by
    intro j x hj hx
    rw [stgI_get] at hx
    split at hx
    · cases hx
    by_cases hd:∃ y,y∈its∧y.d=j
    · obtain ⟨y,hy,rfl⟩:=hd
      rw [applyI_get its s0 hn2 y hy] at hx
      obtain rfl:=(Option.some.inj hx).symm
      obtain ⟨o,_,_,_,hm⟩:=hok y hy
      cases hyb:y.b with
      | none =>
        rw [hyb] at hm
        exact .inl (bel_up (Nat.zero_le _) _ hm.1)
      | some c =>
        obtain ⟨g',h1,h2,h3⟩:=slot_at pd its s0.heap hsl y c hy hyb
        refine .inr ⟨g',h1,fun e=>hj ?_,by omega⟩
        subst e
        rw [slot_inj its _ hsl hn1 y it g' hy hit (by simp [hyb]) (by simp [hb]) h1 hv]
    · rw [applyI_other its s0 j fun y hy e=>hd ⟨y,hy,e⟩] at hx
      exact .inl (belTm_get hb1 j x hx)
  generalize hu:stgI (fun k=>pd k && !(k==it.i)) its s0=u at *
  generalize ht:stgI pd its s0=t at *
  let r:=(List.range t.heap.length).map fun i=>if i=g then t.heap.length else i
  have rlen:r.length=t.heap.length:=by simp [r]
  have rget:∀ j,j<t.heap.length→r[j]? = some (if j=g then t.heap.length else j):=fun j hj=>by
    simp only [r,List.getElem?_map,List.getElem?_range hj,Option.map_some]
  have rfix:∀ j,j<t.heap.length→j≠g→r.getD j 0=j:=fun j hj hjg=>by
    rw [List.getD_eq_getElem?_getD,rget j hj,if_neg hjg]; rfl
  have rg:r.getD g 0=t.heap.length:=by
    rw [List.getD_eq_getElem?_getD,rget g hg2,if_pos rfl]; rfl
  have rlow:∀ j,j<s0.heap.length→r.getD j 0=j:=fun j hj=>rfix j (by omega) (by omega)
  have hren:Ren B.keep r ⟨[],u.heap⟩ ⟨tput t.tm it.d (.ptr t.heap.length 0 0),t.heap++[b]⟩:=by
    refine ⟨?_,fun i hi => ?_,renHeap_of (by rw [huH]; simp [rlen]) fun j c i h1 h2 => ?_,trivial,rfl,?_⟩
    · show List.Pairwise _ _
      rw [List.pairwise_map]
      refine List.Pairwise.imp_of_mem ?_ (List.nodup_range (n:=t.heap.length))
      intro x y hx hy hne
      have:=List.mem_range.1 hx
      have:=List.mem_range.1 hy
      split <;> split <;> omega
    · have:=hk i hi
      rw [rget i (by omega),if_neg (by omega)]
    · have hcb:=hbel c (List.mem_of_getElem? h1)
      rw [Blk.ren_fix rlow c hcb]
      have hj:j<t.heap.length:=by have:=(List.getElem?_eq_some_iff.1 h2).1; omega
      rw [rget j hj] at h2
      simp only [huH] at h1
      rw [List.getElem?_set] at h1
      by_cases hjg:j=g
      · subst hjg
        simp only [if_true] at h1 h2
        obtain rfl:=Option.some.inj h2
        rw [if_pos hj] at h1
        simpa using h1
      · rw [if_neg hjg] at h2
        rw [if_neg (fun e=>hjg e.symm)] at h1
        obtain rfl:=Option.some.inj h2
        rw [List.getElem?_append_left hj]
        exact h1
    · exact belHeap_of fun c hc=>Blk.bel_up (by omega) c (hbel c hc)
  have h2:=ren_sim hren hs
  have hE:∀ (j i:Nat),r[j]? = some i→(r.map fun i=>E[i]?.getD ⟨none,0,0⟩)[j]? = E[i]?:=fun j i hj=>by
    have hi:i<E.length:=by
      rw [hs.rel.hr.len]
      have hj':j<t.heap.length:=by have:=(List.getElem?_eq_some_iff.1 hj).1; omega
      rw [rget j hj'] at hj
      have:=Option.some.inj hj
      simp only [List.length_append,List.length_cons,List.length_nil]
      split at this <;> omega
    simp [hj,List.getElem?_eq_getElem hi]
  refine ⟨_,⟨⟨h2.rel.os,h2.rel.tape,h2.rel.output,h2.rel.size,h2.rel.F0,h2.rel.only,h2.rel.same,h2.rel.lt,h2.rel.hr,h2.rel.src,h2.rel.keep,h2.rel.sz⟩,h2.defers,fun j x hx => ?_⟩⟩
  have fin:∀ y,tget (tput t.tm it.d (.ptr t.heap.length 0 0)) j=some y→y=V.ren r x→V.bel r.length x=true→∃ v,a.tmps[j]? = some v∧VR (r.map fun i=>E[i]?.getD ⟨none,0,0⟩) F w x v:=fun y h1 h2 h3=>by
    obtain ⟨v,hv,hr⟩:=hs.tm j y h1
    exact ⟨v,hv,ren_VR hE hr x h2 h3⟩
  rw [← hu] at hx
  rcases stg_tm hn1 hn2 hit hx with ⟨rfl,rfl⟩ | ⟨h3,h4⟩
  · rw [hv] at fin ⊢
    refine fin _ (by rw [tget_tput,if_pos rfl]) ?_ ?_
    · simp only [V.ren,rg]
    · simp only [V.bel,rlen,decide_eq_true_eq]; exact hg2
  · rw [ht] at h4
    refine fin x (by rw [tget_tput,if_neg h3]; exact h4) ?_ ?_
    · rcases htm j x h3 h4 with h5 | ⟨g',rfl,h6,h7⟩
      · rw [ren_fix rlow x h5]
      · simp only [V.ren,rfix g' h7 h6]
    · rcases htm j x h3 h4 with h5 | ⟨g',rfl,h6,h7⟩
      · exact bel_up (by omega) x h5
      · simp only [V.bel,rlen,decide_eq_true_eq]; exact h7

def setAll:List Nat→Array Bool→Array Bool
  | [],a=>a
  | i::r,a=>setAll r (a.setIfInBounds i true)
theorem setAll_get:∀ (l:List Nat) (a:Array Bool) (k:Nat),(setAll l a)[k]? = if k∈l then a[k]?.map (fun _=>true) else a[k]?
  | [],a,k=>by simp [setAll]
  | i::r,a,k=>by
    rw [setAll,setAll_get r]
    rw [Array.getElem?_setIfInBounds]
    by_cases hki:i=k
    · subst hki
      simp only [if_true,List.mem_cons,true_or]
      by_cases h:i<a.size
      · simp [h]
      · simp [h]
    · have hki':¬ k=i:=fun e=>hki e.symm
      simp only [hki,if_false,List.mem_cons,hki',false_or]

def goodP (ops:Array Oper) (all:List Nat) (listed:Array Bool) : Bool:=!(Region.ready .any ops listed).isEmpty&&(Region.ready .any ops listed).all fun j=>all.contains j&&listed[j]? == some false
def depsOk (ops:Array Oper) (listed:Array Bool) (i:Nat) : Bool:=match ops[i]? with
  | some o=>o.after.toList.all fun e => !(Region.binds .any e)||listed.getD e.on false
  | none=>false
def consP (ops:Array Oper) (all:List Nat) (listed:Array Bool) : Bool:=all.all fun i => !(listed.getD i false)||depsOk ops listed i
theorem consP_step {ops:Array Oper} {all:List Nat} {listed:Array Bool} {j:Nat} (h:consP ops all listed=true) (hj:j∈Region.ready .any ops listed) : consP ops all (listed.setIfInBounds j true)=true:=by
  unfold consP at *
  rw [List.all_eq_true] at *
  have mono:∀ i,depsOk ops listed i=true→depsOk ops (listed.setIfInBounds j true) i=true:=fun i hi=>by
    unfold depsOk at *
    split at hi
    · rw [List.all_eq_true] at *
      intro e he
      have:=hi e he
      rw [Bool.or_eq_true] at this ⊢
      exact this.imp id fun h=>getD_set_true h
    · cases hi
  intro i hi
  by_cases hij:i=j
  · subst hij
    obtain ⟨_,o,ho,hall⟩:=mem_ready.1 hj
    have:depsOk ops listed i=true:=by
      unfold depsOk
      rw [ho]
      simp only [List.all_eq_true,Array.mem_toList_iff,Bool.or_eq_true,Bool.not_eq_true']
      intro e he
      cases hb:Region.binds .any e with
      | false=>exact .inl rfl
      | true=>exact .inr (hall e he hb)
    rw [mono i this,Bool.or_true]
  · have:=h i hi
    rw [getD_set_ne false (Ne.symm hij)]
    rw [Bool.or_eq_true] at this ⊢
    exact this.imp id (mono i)
def parChk (ops:Array Oper) (all:List Nat) : List Nat→Array Bool→Bool→Bool
  | [],listed,sk => !sk || !(consP ops all listed)||goodP ops all listed
  | i::r,listed,sk=>parChk ops all r (listed.setIfInBounds i true) sk&&parChk ops all r listed true
theorem parChk_spec {ops:Array Oper} {all:List Nat} : ∀ (l:List Nat) (listed:Array Bool) (sk:Bool),parChk ops all l listed sk=true→∀ pd:Nat→Bool,(sk=true∨∃ i,i∈l∧pd i=true)→consP ops all (setAll (l.filter fun i => !(pd i)) listed)=true→goodP ops all (setAll (l.filter fun i => !(pd i)) listed)=true
  | [],listed,sk,h,pd,hp,hc=>by
    rcases hp with rfl | ⟨i,h1,_⟩
    · simp only [List.filter_nil,setAll] at hc ⊢
      simpa [parChk,hc] using h
    · cases h1
  | i::r,listed,sk,h,pd,hp,hc=>by
    simp only [parChk,Bool.and_eq_true] at h
    cases hpi:pd i with
    | true =>
      rw [List.filter_cons_of_neg (by simp [hpi])] at hc ⊢
      exact parChk_spec r listed true h.2 pd (.inl rfl) hc
    | false =>
      rw [List.filter_cons_of_pos (by simp [hpi])] at hc ⊢
      refine parChk_spec r _ sk h.1 pd (hp.imp id ?_) hc
      rintro ⟨k,h1,h2⟩
      rcases List.mem_cons.1 h1 with rfl | h1
      · rw [hpi] at h2; cases h2
      · exact ⟨k,h1,h2⟩

end Go.Aw

namespace Go.Aw
set_option linter.unusedSimpArgs false
set_option linter.unusedVariables false
open Go.RowKit

variable {P:Program} {ops:Array Oper} {Q:Exit→Act→World→Prop}

def DepOk (ops:Array Oper) (its:List It) : Prop:=∀ it,it∈its→∀ o c,ops[it.i]? = some o→o.op=.call c→∀ t,Operand.tmp t∈callOps c→∀ y,y∈its→y.d≠t

theorem stg_ev {s0:St} {its:List It} {pd:Nat→Bool} {l:List Operand} (h:∀ t,Operand.tmp t∈l→∀ y,y∈its→y.d≠t) : ∀ y,y∈l→(stgI pd its s0).ev y=s0.ev y:=by
  intro y hy
  cases y with
  | tmp t =>
    simp only [St.ev,St.get]
    rw [stgI_get,if_neg,applyI_other its s0 t (h t hy)]
    intro hc
    simp only [List.any_eq_true,Bool.and_eq_true,beq_iff_eq] at hc
    obtain ⟨z,hz,_,h2⟩:=hc
    exact h t hy z hz h2
  | _=>rfl

theorem item_vc {kp:List Nat} {s0:St} {its:List It} (hdep:DepOk ops its) (hok:∀ it,it∈its→ItOk P ops s0 it) {pd:Nat→Bool} {it:It} (hit:it∈its) {K:St→Prop}
    (h1:it.b=none→K ((stgI pd its s0).put (some it.d) it.v)) (h2:∀ b,it.b=some b→K ⟨tput (stgI pd its s0).tm it.d (.ptr (stgI pd its s0).heap.length 0 0),(stgI pd its s0).heap++[b]⟩) :
    ∃ o,ops[it.i]? = some o∧OpVC P kp ops o (stgI pd its s0) K:=by
  obtain ⟨o,ho,hg,hd,hm⟩:=hok it hit
  refine ⟨o,ho,?_⟩
  cases hb:it.b with
  | none =>
    rw [hb] at hm
    obtain ⟨hbel,c,p,f,args,ds,hc,hv,hR,hT,hp,hds,hpc⟩:=hm
    have hev:=stg_ev (s0:=s0) (its:=its) (pd:=pd) (l:=callOps c) fun t ht y hy=>hdep it hit o c ho hc t ht y hy
    refine call_vc hg hc hv (opR_congrP hv hev hR) ((callT_congrP hev).trans hT) hds hp hbel hpc ?_
    rw [hd]
    exact h1 hb
  | some b =>
    rw [hb] at hm
    obtain ⟨t,zs,hc,hz,rfl⟩:=hm
    refine alloc_vc hg hc hz ?_
    rw [hd]
    exact h2 _ hb

theorem setAll_step {l:List Nat} {pd:Nat→Bool} {a:Array Bool} {j:Nat} (hj:j∈l) : (setAll (l.filter fun i => !(pd i)) a).setIfInBounds j true=setAll (l.filter fun i => !(pd i && !(i==j))) a:=by
  apply Array.ext_getElem?
  intro k
  rw [Array.getElem?_setIfInBounds,setAll_get]
  have hsz:(setAll (l.filter fun i => !(pd i)) a).size=a.size:=by
    have:∀ (l:List Nat) (a:Array Bool),(setAll l a).size=a.size:=by
      intro l
      induction l with
      | nil=>intro a; rfl
      | cons x r ih=>intro a; rw [setAll,ih]; simp
    exact this _ _
  by_cases hkj:j=k
  · subst hkj
    rw [if_pos rfl,setAll_get,hsz]
    rw [if_pos (show j∈l.filter fun i => !(pd i && !(i==j)) from List.mem_filter.2 ⟨hj,by simp⟩)]
    by_cases h:j<a.size
    · simp [h]
    · simp [h]
  · rw [if_neg hkj,setAll_get]
    have:(k∈l.filter fun i => !(pd i && !(i==j)))↔(k∈l.filter fun i => !(pd i)):=by
      have:(k==j)=false:=by simpa using fun e=>hkj e.symm
      simp [List.mem_filter,this]
    simp only [this]

theorem par_sound {B:Base} {n m:Nat} (hd:dstsOk n ops=true) {s0:St} {its:List It} (hn1:(its.map It.i).Nodup) (hn2:(its.map It.d).Nodup) (hok:∀ it,it∈its→ItOk P ops s0 it) (hsl:SlotsI s0.heap.length its)
    (hb1:belTm s0.heap.length s0.tm=true) (hb2:belHeap s0.heap.length s0.heap=true) (hk:∀ i,i∈B.keep→i<s0.heap.length) (hdep:DepOk ops its) (l0:Array Bool)
    (hchk:parChk ops (its.map It.i) (its.map It.i) l0 false=true)
    (fin:∀ a w E F,Sim B (applyI s0 its) a w E F→a.tmps.size=n→∀ fuel,m≤fuel→wpAnyT P ops Q fuel (setAll (its.map It.i) l0) a w) :
    ∀ (k:Nat) (pd:Nat→Bool),(its.filter fun it=>pd it.i).length=k→consP ops (its.map It.i) (setAll ((its.map It.i).filter fun i => !(pd i)) l0)=true→∀ a w E F,a.tmps.size=n→Sim B (stgI pd its s0) a w E F→∀ fuel,k+m≤fuel→wpAnyT P ops Q fuel (setAll ((its.map It.i).filter fun i => !(pd i)) l0) a w
  | 0,pd,hcnt,hcons,a,w,E,F,hn,hs,fuel,hf=>by
    have hp:∀ it,it∈its→pd it.i=false:=fun it hit=>by
      have:=List.length_eq_zero_iff.1 hcnt
      rw [List.filter_eq_nil_iff] at this
      simpa using this it hit
    rw [List.filter_eq_self.2 fun i hi=>by
      obtain ⟨it,hit,rfl⟩:=List.mem_map.1 hi
      simp [hp it hit]]
    exact fin a w E F (stg_end hp hs) hn fuel (by omega)
  | k+1,pd,hcnt,hcons,a,w,E,F,hn,hs,0,hf=>by omega
  | k+1,pd,hcnt,hcons,a,w,E,F,hn,hs,fuel+1,hf=>by
    obtain ⟨z,hz⟩ : ∃ z,z∈its.filter fun it=>pd it.i:=by
      cases hl:its.filter fun it=>pd it.i with
      | nil=>rw [hl] at hcnt; simp at hcnt
      | cons z r=>exact ⟨z,by simp⟩
    obtain ⟨hz1,hz2⟩:=List.mem_filter.1 hz
    have hgood:=parChk_spec _ _ _ hchk pd (.inr ⟨z.i,List.mem_map_of_mem hz1,hz2⟩) hcons
    simp only [goodP,Bool.and_eq_true,Bool.not_eq_true',List.isEmpty_eq_false_iff,List.all_eq_true,List.contains_iff_mem,beq_iff_eq] at hgood
    refine ⟨fun h0=>absurd h0 hgood.1,fun j hj => ?_⟩
    obtain ⟨hjl,hjf⟩:=hgood.2 j hj
    obtain ⟨it,hit,rfl⟩:=List.mem_map.1 hjl
    have hpit:pd it.i=true:=by
      rw [setAll_get] at hjf
      by_cases h:it.i∈(its.map It.i).filter fun i => !(pd i)
      · rw [if_pos h] at hjf
        simp only [Option.map_eq_some_iff] at hjf
        obtain ⟨_,_,h2⟩:=hjf
        cases h2
      · cases hpp:pd it.i with
        | true=>rfl
        | false=>exact absurd (List.mem_filter.2 ⟨List.mem_map_of_mem hit,by simp [hpp]⟩) h
    have hcnt2:(its.filter fun x=>pd x.i && !(x.i==it.i)).length=k:=by
      have key:∀ l:List It,(l.map It.i).Nodup→it∈l→(l.filter fun x=>pd x.i).length=(l.filter fun x=>pd x.i && !(x.i==it.i)).length+1:=by
        intro l
        induction l with
        | nil=>intro _ h; cases h
        | cons x r ih =>
          intro hnd h
          simp only [List.map_cons,List.nodup_cons] at hnd
          rcases List.mem_cons.1 h with h | h
          · subst h
            rw [List.filter_cons_of_pos (by simpa using hpit),List.filter_cons_of_neg (by simp)]
            simp only [List.length_cons,Nat.add_right_cancel_iff]
            congr 1
            apply List.filter_congr
            intro y hy
            have:y.i≠it.i:=fun e=>hnd.1 (by rw [← e]; exact List.mem_map_of_mem hy)
            simp [this]
          · have hx:x.i≠it.i:=fun e=>hnd.1 (by rw [e]; exact List.mem_map_of_mem h)
            have:=ih hnd.2 h
            cases hpx:pd x.i with
            | true =>
              rw [List.filter_cons_of_pos (by simpa using hpx),List.filter_cons_of_pos (by simp [hpx,hx])]
              simp only [List.length_cons,this]
            | false =>
              rw [List.filter_cons_of_neg (by simp [hpx]),List.filter_cons_of_neg (by simp [hpx])]
              exact this
      have:=key its hn1 hit
      omega
    have ih:=fun a w E F hn hs=>par_sound hd hn1 hn2 hok hsl hb1 hb2 hk hdep l0 hchk fin k (fun i=>pd i && !(i==it.i)) hcnt2 (by rw [← setAll_step (List.mem_map_of_mem hit)]; exact consP_step hcons hj) a w E F hn hs fuel (by omega)
    rw [← setAll_step (List.mem_map_of_mem hit)] at ih
    obtain ⟨o,ho,hvc⟩:=item_vc (kp:=B.keep) (pd:=pd) hdep hok hit (K:=fun t=>∀ a w E F,Sim B t a w E F→∃ E',Sim B (stgI (fun k=>pd k && !(k==it.i)) its s0) a w E' F)
      (fun hb a w E F h=>⟨E,stg_call hn1 hn2 hit hb h⟩) (fun b hb a w E F h=>stg_new hn1 hn2 hok hsl hb1 hb2 hk hit hb hpit h)
    rcases op_sound (Q:=Q) hs (fun d hd'=>by rw [hn]; exact dstsOk_spec hd ho d hd') hvc with ⟨v,s',hK,hs',hw⟩ | ⟨hnq,hw⟩
    · obtain ⟨E',h'⟩:=hK _ _ _ _ hs'
      have ih':=ih _ w E' F (by rw [size_put]; exact hn) h'
      have hy:YieldsK P ops w o v a:=hw
      exact hy.wpOp ho ⟨.inr (Keep.refl w),ih'⟩
    · unfold wpOp
      simp only [ho]
      rcases hw with ⟨hw,hwp⟩ | ⟨hw,s',F',hK,hs'⟩
      · rw [hw,if_pos rfl]
        refine .inl (Oper.wp_mono (fun a' w' ⟨hkt,v,s',E',F',ha,hK,hs'⟩ => ?_) hwp)
        subst ha
        obtain ⟨E2,h'⟩:=hK _ _ _ _ hs'
        exact ⟨by simpa [ho] using hkt,ih _ w' E2 F' (by rw [size_put]; exact hn) h'⟩
      · rw [hw]
        obtain ⟨E2,h'⟩:=hK _ _ _ _ hs'
        exact ⟨.inr (Keep.refl w),ih _ w E2 F' (by rw [size_put]; exact hn) h'⟩

def preOk (ops:Array Oper) : List Nat→Array Bool→Bool
  | [],_=>true
  | i::r,listed =>
    (match ops[i]? with
     | none=>false
     | some o=>if kindQ o.op then (Region.ready .any ops listed).contains i&&freeT ops listed i else Region.ready .any ops listed==[i])&&preOk ops r (listed.setIfInBounds i true)

theorem pre_sound {B:Base} {n m:Nat} (hd:dstsOk n ops=true) (hsel:Region.noSelect ops=true) (hQ:∀ c a w,¬ Q (.panic c) a w) : ∀ (l:List Nat) (listed:Array Bool) (s:St) (a:Act) (w:World) (E:Env) (F:Nat→Prop) (K:St→Prop),a.tmps.size=n→Sim B s a w E F →
    OpsVC P B.keep ops (l.filterMap (ops[·]?)) s K→preOk ops l listed=true →
    (∀ a' w' s' E' F',K s'→Sim B s' a' w' E' F'→a'.tmps.size=n→∀ fuel,m≤fuel→wpAnyT P ops Q fuel (setAll l listed) a' w')→∀ fuel,l.length+m≤fuel→wpAnyT P ops Q fuel listed a w
  | [],listed,s,a,w,E,F,K,hn,hs,h,hok,hq,fuel,hf=>hq a w s E F h hs hn fuel (by simpa using hf)
  | i::l,listed,s,a,w,E,F,K,hn,hs,h,hok,hq,0,hf=>by simp at hf
  | i::l,listed,s,a,w,E,F,K,hn,hs,h,hok,hq,fuel+1,hf=>by
    simp only [preOk,Bool.and_eq_true] at hok
    obtain ⟨hok,hrest⟩:=hok
    split at hok
    · cases hok
    rename_i o ho
    simp only [List.filterMap_cons,ho,OpsVC] at h
    have ih:=fun s a w E F hn hs h=>pre_sound hd hsel hQ l (listed.setIfInBounds i true) s a w E F K hn hs h hrest hq fuel (by simp at hf; omega)
    rcases op_sound (Q:=Q) hs (fun d hd'=>by rw [hn]; exact dstsOk_spec hd ho d hd') h with ⟨v,s',hK,hs',hw⟩ | ⟨hnq,hw⟩
    · have ih':=ih s' _ w E F (by rw [size_put]; exact hn) hs' hK
      have hy:YieldsK P ops w o v a:=hw
      split at hok
      · simp only [Bool.and_eq_true] at hok
        exact free_first ho (noSel hsel) (fun c a w hh=>absurd hh (hQ c _ w)) fuel listed a w hok.2 (by simpa using hok.1) hy ih'
      · have hr:Region.ready .any ops listed=[i]:=by simpa using hok
        refine ⟨(fun h0=>by rw [hr] at h0; cases h0),fun j hj => ?_⟩
        rw [hr] at hj
        simp at hj
        subst hj
        exact hy.wpOp ho ⟨.inr (Keep.refl w),ih'⟩
    · rw [hnq] at hok
      have hr:Region.ready .any ops listed=[i]:=by simpa using hok
      refine ⟨(fun h0=>by rw [hr] at h0; cases h0),fun j hj => ?_⟩
      rw [hr] at hj
      simp at hj
      subst hj
      unfold wpOp
      simp only [ho]
      rcases hw with ⟨hw,hwp⟩ | ⟨hw,s',F',hK,hs'⟩
      · rw [hw,if_pos rfl]
        refine .inl (Oper.wp_mono (fun a' w' ⟨hkt,v,s',E',F',ha,hK,hs'⟩ => ?_) hwp)
        subst ha
        exact ⟨by simpa [ho] using hkt,ih s' _ w' E' F' (by rw [size_put]; exact hn) hs' hK⟩
      · rw [hw]
        exact ⟨.inr (Keep.refl w),ih s' _ w E F' (by rw [size_put]; exact hn) hs' hK⟩

def ParK (P:Program) (f:FuncId) (ds:List D) (dst:Nat) (s:St) (k:St→Prop) : Prop:=∃ x0,V.bel 0 x0=true∧(PC P f ds fun x H=>x=x0∧H=[])∧k ⟨tput s.tm dst x0,s.heap⟩
def P3 (P:Program) (ds:Option (List D)) (p:Prop) (f:FuncId) (dst:Nat) (s:St) (k:St→Prop) : Prop:=match ds with
  | some ds=>p∧ParK P f ds dst s k
  | none=>False
def P2 (P:Program) (q:Option (Prop × V)) (t:Option (Prop × FuncId × List V)) (dst:Nat) (s:St) (k:St→Prop) : Prop:=match q,t with
  | none,some (p,f,args)=>P3 P (dVs args) p f dst s k
  | _,_=>False
def PZ (zs:Option (List V)) (dst:Nat) (s:St) (k:St→Prop) : Prop:=match zs with
  | some zs=>k ⟨tput s.tm dst (.ptr s.heap.length 0 0),s.heap++[.cells zs]⟩
  | none=>False
def P1 (P:Program) (s0:St) (op:Op) (dst:Option Nat) (s:St) (k:St→Prop) : Prop:=match op,dst with
  | .call c,some d=>P2 P (opR P s0 (.call c)) (callT s0 c) d s k
  | .alloc t,some d=>PZ (kzero P t) d s k
  | _,_=>False
def P0 (P:Program) (s0:St) (o:Option Oper) (s:St) (k:St→Prop) : Prop:=match o with
  | some o=>P1 P s0 o.op o.dst s k
  | none=>False
def parRun (P:Program) (kp:List Nat) (ops:Array Oper) (s0:St) : List Nat→DT→St→(St→Prop)→Prop
  | [],d,s,K=>contRun P kp ops (.dt d) s K
  | i::r,d,s,K=>P0 P s0 ops[i]? s fun t=>parRun P kp ops s0 r d t K

def parSyn (ops:Array Oper) (l:List Nat) : Bool :=
  decide l.Nodup&&decide (l.filterMap fun i=>(ops[i]?).bind (·.dst)).Nodup&&l.all fun i=>match ops[i]? with
    | some o=>o.guard.isNone&&(match o.op with | .call c=>valCall c&&(callOps c).all (fun y=>match y with | .tmp t => !((l.filterMap fun i=>(ops[i]?).bind (·.dst)).contains t) | _=>true) | _=>true)
    | none=>false

theorem par_items {kp:List Nat} {s0:St} {d:DT} {K:St→Prop} {l0:List Nat} (hsyn:∀ i,i∈l0→∃ o,ops[i]? = some o∧o.guard=none∧∀ c,o.op=.call c→valCall c=true) : ∀ (l:List Nat) (s:St),(∀ i,i∈l→i∈l0)→parRun P kp ops s0 l d s K →
    ∃ its:List It,its.map It.i=l∧(∀ it,it∈its→ItOk P ops s0 it)∧SlotsI s.heap.length its∧contRun P kp ops (.dt d) (applyI s its) K
  | [],s,_,h=>⟨[],rfl,fun it hit=>(by cases hit),trivial,h⟩
  | i::r,s,hl,h=>by
    obtain ⟨o,ho,hg,hc⟩:=hsyn i (hl i (by simp))
    simp only [parRun,P0,ho] at h
    have ih:=fun s (h:parRun P kp ops s0 r d s K)=>par_items hsyn r s (fun j hj=>hl j (by simp [hj])) h
    unfold P1 at h
    split at h
    · rename_i c dst hop hdst
      unfold P2 at h
      split at h
      · rename_i p f args hR hT
        unfold P3 at h
        split at h
        · rename_i ds hds
          obtain ⟨hp,x0,hb,hpc,h⟩:=h
          obtain ⟨its,h1,h2,h3,h4⟩:=ih _ h
          refine ⟨⟨i,dst,x0,none⟩::its,by simp [h1],fun it hit => ?_,⟨fun hh=>(by cases hh),by simpa using h3⟩,by simpa [applyI] using h4⟩
          rcases List.mem_cons.1 hit with rfl | hit
          · exact ⟨o,ho,hg,hdst,hb,c,p,f,args,ds,hop,hc c hop,hR,hT,hp,hds,hpc⟩
          · exact h2 it hit
        · exact h.elim
      · exact h.elim
    · rename_i t dst hop hdst
      unfold PZ at h
      split at h
      · rename_i zs hz
        obtain ⟨its,h1,h2,h3,h4⟩:=ih _ h
        refine ⟨⟨i,dst,.ptr s.heap.length 0 0,some (.cells zs)⟩::its,by simp [h1],fun it hit => ?_,⟨fun _=>rfl,by simpa using h3⟩,by simpa [applyI] using h4⟩
        rcases List.mem_cons.1 hit with rfl | hit
        · exact ⟨o,ho,hg,hdst,t,zs,hop,hz,rfl⟩
        · exact h2 it hit
      · exact h.elim
    · exact h.elim

def ParAt (P:Program) (kp:List Nat) (ops:Array Oper) (l:List Nat) (d:DT) (K:St→Prop) (s:St) : Prop:=belTm s.heap.length s.tm=true∧belHeap s.heap.length s.heap=true∧parRun P kp ops s l d s K

theorem awpF_drawP {kp:List Nat} {n:Nat} {s:St} {Q:Exit→St→Prop} {id:Nat} (pre l:List Nat) (d:DT) (hm:P.follows .mixedOrders=true)
    (hc:(Region.noSelect ops&&preOk ops pre (Array.replicate ops.size false)&&parSyn ops l&&consP ops l (setAll pre (Array.replicate ops.size false))&&parChk ops l l (setAll pre (Array.replicate ops.size false)) false&&d.ok ops true (setAll l (setAll pre (Array.replicate ops.size false))))=true) (hl:Nat.ble (pre.length+(l.length+d.depth)) ops.size=true)
    (h:∀ K:St→Prop,(∀ t,Q .normal t→K t)→contRun P kp ops (.vc (pre.filterMap (ops[·]?))) s (ParAt P kp ops l d K)) : AWP P kp n (.region id ops true) s Q:=by
  intro hok B a w E F h1 h2 h3
  subst h1
  simp only [Bool.and_eq_true] at hc
  obtain ⟨⟨⟨⟨⟨c1,c2⟩,c3⟩,c6⟩,c4⟩,c5⟩:=hc
  have hQ:∀ c a w,¬ (fun e a' w'=>(∀ ch,e≠.panic ch)∧e≠.outgrown∧∃ s' E' F',Q e s'∧Sim B s' a' w' E' F'∧a'.tmps.size=n) (.panic c) a w:=fun c a w hh=>hh.1 c rfl
  refine wp_region_any hm (wpAny_of_T _ _ _ _ (pre_sound (ops:=ops) (n:=n) (m:=l.length+d.depth) hok c1 hQ pre _ s a _ E F _ h2 h3.drew (h _ fun t ht=>ht) c2 ?_ _ (Nat.le_of_ble_eq_true hl)))
  rintro a1 w1 s1 E1 F1 ⟨hb1,hb2,hpar⟩ hs1 hn1 fuel hf
  simp only [parSyn,Bool.and_eq_true,decide_eq_true_eq,List.all_eq_true] at c3
  obtain ⟨⟨n1,n2⟩,c3⟩:=c3
  have hsyn:∀ i,i∈l→∃ o,ops[i]? = some o∧o.guard=none∧∀ c,o.op=.call c→valCall c=true:=fun i hi=>by
    have:=c3 i hi
    cases ho:ops[i]? with
    | none=>rw [ho] at this; cases this
    | some o =>
      rw [ho] at this
      simp only [Bool.and_eq_true,Option.isNone_iff_eq_none] at this
      refine ⟨o,rfl,this.1,fun c hc => ?_⟩
      have:=this.2
      rw [hc] at this
      simp only [Bool.and_eq_true] at this
      exact this.1
  obtain ⟨its,e1,e2,e3,e4⟩:=par_items hsyn l s1 (fun _ h=>h) hpar
  have ed:its.map It.d=l.filterMap fun i=>(ops[i]?).bind (·.dst):=by
    rw [← e1]
    clear e1 e3 e4 hpar
    induction its with
    | nil=>rfl
    | cons x r ih =>
      obtain ⟨o,ho,_,hd,_⟩:=e2 x (by simp)
      rw [List.map_cons,List.map_cons,List.filterMap_cons]
      simp only [ho,Option.bind_some,hd]
      rw [ih fun y hy=>e2 y (by simp [hy])]
  have hdep:DepOk ops its:=by
    intro it hit o c ho hc t ht y hy
    have:=c3 it.i (by rw [← e1]; exact List.mem_map_of_mem hit)
    rw [ho] at this
    simp only [hc,Bool.and_eq_true,List.all_eq_true] at this
    have:=this.2.2 _ ht
    simp only [Bool.not_eq_true',List.contains_eq_mem,decide_eq_false_iff_not] at this
    intro e
    refine this ?_
    rw [← ed,← e]
    exact List.mem_map_of_mem hy
  have hk:∀ i,i∈B.keep→i<s1.heap.length:=fun i hi=>by
    obtain ⟨e,h1,_⟩:=hs1.rel.keep i hi
    rw [← hs1.rel.hr.len]
    exact (List.getElem?_eq_some_iff.1 h1).1
  have hfl:(its.filter fun it=>(fun _=>true) it.i).length=l.length:=by
    rw [List.filter_eq_self.2 fun _ _=>rfl,← e1,List.length_map]
  have:=par_sound (P:=P) (B:=B) (m:=d.depth) hok (by rw [e1]; exact n1) (by rw [ed]; exact n2) e2 e3 hb1 hb2 hk hdep _ (by rw [e1]; exact c4) (Q:=fun e a' w'=>(∀ ch,e≠.panic ch)∧e≠.outgrown∧∃ s' E' F',Q e s'∧Sim B s' a' w' E' F'∧a'.tmps.size=n)
    (fun a w E F hs hn fuel hf=>draw_soundT (ops:=ops) (n:=n) hok c1 hQ d.depth d (Nat.le_refl _) _ _ a w E F (fun t=>Q .normal t) hn hs e4 (by rw [e1]; exact c5) (fun a' w' s' E' F' hK hs hn=>⟨by simp,by simp,s',E',F',hK,hs,hn⟩) fuel hf)
    l.length (fun _=>true) hfl (by rw [show ((its.map It.i).filter fun i => !((fun _=>true) i))=[] by simp,e1]; exact c6) a1 w1 _ F1 hn1 (stg_start hs1) fuel (by omega)
  rw [show ((its.map It.i).filter fun i => !((fun _=>true) i))=[] by simp] at this
  exact this

section
variable {kp:List Nat} {s0 s:St} {d:DT} {K:St→Prop} {k:St→Prop}
def ParC (P:Program) (kp:List Nat) (ops:Array Oper) (s0:St) (r:List Nat) (d:DT) (K:St→Prop) (t:St) : Prop:=parRun P kp ops s0 r d t K
theorem parAt_eq {l:List Nat} : ParAt P kp ops l d K s=(belTm s.heap.length s.tm=true∧belHeap s.heap.length s.heap=true∧parRun P kp ops s l d s K):=rfl
theorem parRun_nil:parRun P kp ops s0 [] d s K=contRun P kp ops (.dt d) s K:=rfl
theorem parRun_cons {i:Nat} {r:List Nat} : parRun P kp ops s0 (i::r) d s K=P0 P s0 ops[i]? s (ParC P kp ops s0 r d K):=rfl
theorem parC_eq {r:List Nat} : ParC P kp ops s0 r d K s=parRun P kp ops s0 r d s K:=rfl
theorem P0_some {o:Oper} : P0 P s0 (some o) s k=P1 P s0 o.op o.dst s k:=rfl
theorem P1_call {c:Call} {dst:Nat} : P1 P s0 (.call c) (some dst) s k=P2 P (opR P s0 (.call c)) (callT s0 c) dst s k:=rfl
theorem P1_alloc {t:TypeId} {dst:Nat} : P1 P s0 (.alloc t) (some dst) s k=PZ (kzero P t) dst s k:=rfl
theorem P2_some {p:Prop} {f:FuncId} {args:List V} {dst:Nat} : P2 P none (some (p,f,args)) dst s k=P3 P (dVs args) p f dst s k:=rfl
theorem P3_some {ds:List D} {p:Prop} {f:FuncId} {dst:Nat} : P3 P (some ds) p f dst s k=(p∧ParK P f ds dst s k):=rfl
theorem PZ_some {zs:List V} {dst:Nat} : PZ (some zs) dst s k=k ⟨tput s.tm dst (.ptr s.heap.length 0 0),s.heap++[.cells zs]⟩:=rfl
theorem ParK.pd {f:FuncId} {ds:List D} {dst:Nat} {x0:V} (h:PD P f ds x0) (hb:V.bel 0 x0=true) (hk:k ⟨tput s.tm dst x0,s.heap⟩) : ParK P f ds dst s k:=⟨x0,hb,h,hk⟩
end
attribute [push_cast] parAt_eq parRun_nil parRun_cons parC_eq P0_some P1_call P1_alloc P2_some P3_some PZ_some

end Go.Aw

namespace Go.Aw
set_option linter.unusedSimpArgs false
set_option linter.unusedVariables false
open Go.RowKit

variable {F:Fence} {n:Nat} {P:Program}

end Go.Aw

namespace Go.Aw
set_option linter.unusedSimpArgs false
set_option linter.unusedVariables false
open Go.RowKit Go.Sort

theorem Rel.rewritten {B:Base} {s:St} {E:Env} {F:Nat→Prop} {w w':World} (hr:Rel B s E F w) {i b:Nat} {e:En} {blk blk':Blk} {cs cs':Array Value} {t:TypeId}
    (he:E[i]? = some e) (hb:s.heap[i]? = some blk) (hl:blk.live=true) (heb:e.blk=some b) (hw:w.heap[b]? = some (.cells cs t (0,0))) (hw':w'.heap[b]? = some (.cells cs' t (0,0))) (hsz:cs'.size=cs.size)
    (hos:w'.os=w.os) (htp:w'.tape=w.tape) (hlt:Later w w') (hsize:w.heap.size≤w'.heap.size) (hoth:∀ c,c<w.heap.size→c≠b→w'.heap[c]? = w.heap[c]?)
    (hbr:BR E F w' e blk') :
    Evo E F w E F w' (fun _=>True)∧Rel B { s with heap:=s.heap.set i blk' } E F w':=by
  obtain ⟨hbl,hbF⟩:=hr.hr.free i b e blk he heb hb hl
  have hlow:∀ c,c≠b→∀ o,w.heap[c]? = some o→w'.heap[c]? = w.heap[c]?:=fun c hc o ho=>by
    rcases Nat.lt_or_ge c w.heap.size with h | h
    · exact hoth c h hc
    · rw [Array.getElem?_eq_none h] at ho; cases ho
  have hsame:∀ c,F c→w'.heap[c]? = w.heap[c]?:=fun c hc=>hoth c (hr.lt c hc) (fun e=>hbF (e ▸ hc))
  have hszs:∀ c n,Sz w c n→Sz w' c n:=fun c n h=>by
    by_cases hcb:c=b
    · subst hcb
      obtain ⟨c0,u,hc,hn⟩:=h
      rw [hw] at hc
      simp only [Option.some.injEq,Obj.cells.injEq] at hc
      obtain ⟨rfl,rfl,_⟩:=hc
      exact ⟨cs',_,hw',by omega⟩
    · obtain ⟨c0,u,hc,hn⟩:=h
      exact ⟨c0,u,(hlow c hcb _ hc).trans hc,hn⟩
  have evo:Evo E F w E F w' (fun _=>True):=⟨fun _ h=>h,hsame,fun _ _ _ h=>h,hszs⟩
  have hget:∀ (j:Nat) (bj:Blk),(s.heap.set i blk')[j]? = some bj→(j=i∧bj=blk')∨(j≠i∧s.heap[j]? = some bj):=fun j bj hj=>by
    rw [List.getElem?_set] at hj
    split at hj
    · split at hj
      · simp at hj; exact .inl ⟨(by assumption:i=j).symm,hj.symm⟩
      · cases hj
    · exact .inr ⟨Ne.symm (by assumption),hj⟩
  refine ⟨evo,hos.trans hr.os,htp.trans hr.tape,hlt.trans hr.output,Nat.le_trans hr.size hsize,hr.F0,hr.only,
    fun c h1 h2=>(hoth c (Nat.lt_of_lt_of_le h1 hr.size) (fun q=>(hr.src i b e blk he hb hl heb).elim (fun h=>by omega) (fun h=>h2 (q ▸ h)))).trans (hr.same c h1 h2),
    hr.lt.evo evo.up evo.same (fun c hc=>Nat.lt_of_lt_of_le (hr.lt c hc) hsize),⟨by simpa using hr.hr.len,?_,?_,?_⟩,?_,hr.keep,fun c n h=>hszs c n (hr.sz c n h)⟩
  · intro j ej bj hEj hj
    rcases hget j bj hj with ⟨rfl,rfl⟩ | ⟨hji,hj⟩
    · rw [he] at hEj
      simp only [Option.some.injEq] at hEj
      subst hEj
      exact hbr
    · cases hlj:bj.live with
      | false=>cases bj <;> simp_all [Blk.live]; trivial
      | true =>
        refine (hr.hr.blk j ej bj hEj hj).evo evo (fun _ _=>trivial) fun c hc=>hoth c (hr.hr.free j c ej bj hEj hc hj hlj).1 fun e => ?_
        subst e
        exact hji (hr.hr.inj j i c ej _ bj blk hEj he hc heb hj hb hlj hl)
  · intro j c ej bj hEj hc hj hlj
    rcases hget j bj hj with ⟨rfl,rfl⟩ | ⟨hji,hj⟩
    · rw [he] at hEj
      simp only [Option.some.injEq] at hEj
      subst hEj
      have:=hr.hr.free j c _ blk he hc hb hl
      exact ⟨Nat.lt_of_lt_of_le this.1 hsize,this.2⟩
    · have:=hr.hr.free j c ej bj hEj hc hj hlj
      exact ⟨Nat.lt_of_lt_of_le this.1 hsize,this.2⟩
  · intro j l c ej el bj bl hEj hEl hcj hcl hj hl' hlj hll
    have hb':∀ (j:Nat) (bj:Blk),(s.heap.set i blk')[j]? = some bj→bj.live=true→∃ b0,s.heap[j]? = some b0∧b0.live=true:=fun j bj hj hlj=>by
      rcases hget j bj hj with ⟨rfl,rfl⟩ | ⟨hji,hj⟩
      · exact ⟨blk,hb,hl⟩
      · exact ⟨bj,hj,hlj⟩
    obtain ⟨b0,h0,hl0⟩:=hb' j bj hj hlj
    obtain ⟨b1,h1,hl1⟩:=hb' l bl hl' hll
    exact hr.hr.inj j l c ej el b0 b1 hEj hEl hcj hcl h0 h1 hl0 hl1
  · intro j c ej bj hEj hj hlj hc
    rcases hget j bj hj with ⟨rfl,rfl⟩ | ⟨hji,hj⟩
    · exact hr.src j c ej blk hEj hb hl hc
    · exact hr.src j c ej bj hEj hj hlj hc

theorem Rel.start {w:World} {F:Nat→Prop} {E:Env} {H:List Blk} {kp:List Nat} (h1:HR E F w H) (h2:FO F w) (h3:∀ i,i∈kp→i<H.length) : Rel ⟨w,F,own E H,E,kp,[]⟩ ⟨[],H⟩ E F w:=by
  refine ⟨rfl,rfl,.refl _,Nat.le_refl _,fun _ h=>h,fun _ h=>.inl h,fun _ _ _=>rfl,h2,h1,?_,?_,fun _ _ h=>h⟩
  · exact fun id b e blk q1 q2 q3 q4=>.inr ⟨id,e,blk,q1,q2,q3,q4⟩
  · intro i hi
    have:=h3 i hi
    rw [← h1.len] at this
    exact ⟨_,List.getElem?_eq_getElem this,List.getElem?_eq_getElem this⟩

end Go.Aw
