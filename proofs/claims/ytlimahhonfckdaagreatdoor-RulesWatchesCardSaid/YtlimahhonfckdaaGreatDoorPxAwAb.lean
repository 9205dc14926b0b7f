/-
  A contract over one own block is one over own memory in which such a block stands anywhere. Over any program; no condition.
-/
import Derived.Test.YtlimahhonfckdaaGreatDoorPkT
namespace Go.Aw
set_option linter.unusedSimpArgs false
set_option linter.unusedVariables false
open Go.RowKit

theorem AC.atB {P:Program} {f:FuncId} {args:List V} {es:Blk} {R:V→List Blk→Prop} (h:AC P f args [es] [0] R) (k:Nat) (H:List Blk) (kp:List Nat) (hk:H[k]? = some (es)) (hb0:Blk.bel 0 (es)=true) (hlv0:Blk.live (es)=true) (hbel:V.belL 1 args=true)
    (hR:∀ x H',R x H'→V.bel 0 x=true∧∃ es':Blk,H'=[es']∧Blk.bel 0 (es')=true) :
    AC P f (args.map (V.ren [k])) H kp fun x H'=>∃ es':Blk,R x [es']∧H'=H.set k (es'):=by
  refine ⟨h.1,fun w cargs E F h1 h2 h3 h4 => ?_⟩
  have hkl:=(List.getElem?_eq_some_iff.1 hk).1
  obtain ⟨e0,he0⟩ : ∃ e,E[k]? = some e:=⟨_,List.getElem?_eq_getElem (by rw [h1.len]; exact hkl)⟩
  have no:∀ {b:Blk} {i:Nat},Blk.bel 0 b=true→Blk.has i b=true→False:=fun hb hi=>absurd (blk_bel_has hb hi) (Nat.not_lt_zero _)
  have one:∀ (id:Nat) (e:En),[e0][id]? = some e→id=0∧e=e0:=fun id e he=>by
    cases id with
    | zero=>simp at he; exact ⟨rfl,he.symm⟩
    | succ id=>simp at he
  have oneB:∀ (id:Nat) (b:Blk),[es][id]? = some b→b=es:=fun id b hb=>by
    cases id with
    | zero=>simp at hb; exact hb.symm
    | succ id=>simp at hb
  have hr1:HR [e0] F w [es]:=by
    refine ⟨rfl,fun id e b he hb' => ?_,fun id b e blk he hb' hh hlv => ?_,fun i j b ei ej bi bj q1 q2 _ _ _ _ _ _ => ?_⟩
    · obtain ⟨rfl,rfl⟩:=one id e he
      obtain rfl:=oneB _ b hb'
      exact (h1.blk k e _ he0 hk).evo (ok:=fun _=>False) ⟨fun _ h=>h,fun _ _=>rfl,fun _ _ hf _=>hf.elim,fun _ _ h=>h⟩ (fun i hi=>no hb0 hi) fun _ _=>rfl
    · obtain ⟨rfl,rfl⟩:=one id e he
      obtain rfl:=oneB _ blk hh
      exact h1.free k b e _ he0 hb' hk hlv
    · rw [(one i ei q1).1,(one j ej q2).1]
  have hcr:CR [e0] F w args cargs:=by
    refine ⟨by simpa using h4.1,fun j x v hx hv => ?_⟩
    have hx':(args.map (V.ren [k]))[j]? = some (V.ren [k] x):=by rw [List.getElem?_map,hx]; rfl
    refine ren_VR (E:=E) (E':=[e0]) (r:=[k]) (fun j i hj => ?_) (h4.2 j _ v hx' hv) x rfl (belL_mem hbel (List.mem_of_getElem? hx))
    cases j with
    | zero=>simp at hj; subst hj; rw [he0]; rfl
    | succ j=>simp at hj
  refine (h.2 w cargs [e0] F hr1 h2 (fun i hi=>by simp at hi; subst hi; exact Nat.one_pos) hcr).mono ?_
  rintro e w' ⟨v,x,H1',E',F',rfl,hRx,hrel,hx⟩
  obtain ⟨hxb,es',rfl,hb'⟩:=hR x H1' hRx
  have hE':E'[0]? = some e0:=by
    obtain ⟨e,q1,q2⟩:=hrel.keep 0 (by simp)
    dsimp only at q2
    simp at q2
    subst q2
    exact q1
  have ownUp:∀ b,own [e0] [es] b→own E H b:=fun b ⟨id,e,blk,q1,q2,q3,q4⟩=>by
    obtain ⟨rfl,rfl⟩:=one id e q1
    obtain rfl:=oneB _ blk q2
    exact ⟨k,e,_,he0,hk,q3,q4⟩
  have nown:∀ b,F b→¬ own [e0] [es] b:=fun b hf ⟨id,e,blk,q1,q2,q3,q4⟩=>(hr1.free id b e blk q1 q4 q2 q3).2 hf
  have notT:∀ (id:Nat) (e:En) (blk:Blk) (b:Nat),id≠k→E[id]? = some e→H[id]? = some blk→blk.live=true→e.blk=some b→¬ own [e0] [es] b:=fun id e blk b hi q1 q2 q3 q4 ⟨id',e',blk',p1,p2,p3,p4⟩=>by
    obtain ⟨rfl,rfl⟩:=one id' e' p1
    obtain rfl:=oneB _ blk' p2
    exact hi (h1.inj id k b e e' blk _ q1 he0 q4 p4 q2 hk q3 p3)
  have sameT:∀ b,b<w.heap.size→¬ own [e0] [es] b→w'.heap[b]? = w.heap[b]?:=fun b hb hno=>hrel.same b hb hno
  have ev:Evo E F w E F' w' (fun _=>True):=⟨hrel.F0,fun b hb=>sameT b (h2 b hb) (nown b hb),fun i e _ he=>he,hrel.sz⟩
  have nF:∀ b,b<w.heap.size→¬ F b→¬ own [e0] [es] b→¬ F' b:=fun b hb hf hno hf'=>by
    rcases hrel.only b hf' with q | q | q
    · exact hf q
    · exact absurd hb (Nat.not_lt.2 q)
    · exact hno q
  have g1:∀ (blk:Blk),(H.set k (es'))[k]? = some blk→blk=es':=fun blk hb=>by
    rw [List.getElem?_set_self hkl] at hb
    exact (Option.some.inj hb).symm
  have g2:∀ (id:Nat),id≠k→(H.set k (es'))[id]? = H[id]?:=fun id hi=>List.getElem?_set_ne (Ne.symm hi)
  refine ⟨v,x,H.set k (es'),E,F',rfl,⟨es',hRx,rfl⟩,⟨hrel.os,hrel.tape,hrel.output,hrel.size,hrel.F0,fun b hb => ?_,fun b q1 q2=>sameT b q1 fun q=>q2 (ownUp b q),hrel.lt,⟨?_,?_,?_,?_⟩,?_,fun i hi => ?_,hrel.sz⟩,
    hx.evo (ok:=fun _=>False) ⟨fun _ h=>h,fun _ _=>rfl,fun _ _ hf _=>hf.elim,fun _ _ h=>h⟩ fun i hi=>absurd (bel_has 0 x hxb i hi) (Nat.not_lt_zero _)⟩
  · exact (hrel.only b hb).imp id fun q=>q.imp id (ownUp b)
  · show E.length=(H.set k (es')).length
    rw [List.length_set,h1.len]
  · intro id e b he hbb
    by_cases hi:id=k
    · subst hi
      obtain rfl:=g1 b hbb
      rw [he0] at he
      cases he
      exact (hrel.hr.blk 0 e0 _ hE' rfl).evo (ok:=fun _=>False) ⟨fun _ h=>h,fun _ _=>rfl,fun _ _ hf _=>hf.elim,fun _ _ h=>h⟩ (fun i hi=>no hb' hi) fun _ _=>rfl
    · rw [show (H.set k (es'))[id]? = H[id]? from g2 id hi] at hbb
      cases hlv:b.live with
      | false=>cases b <;> first | trivial | cases hlv
      | true=>exact (h1.blk id e b he hbb).evo ev (fun _ _=>trivial) fun c hc=>sameT c (h1.free id c e b he hc hbb hlv).1 (notT id e b c hi he hbb hlv hc)
  · intro id b e blk he hb2 hh hlv
    by_cases hi:id=k
    · subst hi
      obtain rfl:=g1 blk hh
      rw [he0] at he
      cases he
      exact hrel.hr.free 0 b e0 _ hE' hb2 rfl hlv
    · rw [show (H.set k (es'))[id]? = H[id]? from g2 id hi] at hh
      obtain ⟨q1,q2⟩:=h1.free id b e blk he hb2 hh hlv
      exact ⟨Nat.lt_of_lt_of_le q1 hrel.size,nF b q1 q2 (notT id e blk b hi he hh hlv hb2)⟩
  · intro i j b ei ej bi bj q1 q2 q3 q4 q5 q6 q7 q8
    have mix:∀ (j:Nat) (ei ej:En) (bj:Blk),j≠k→E[k]? = some ei→E[j]? = some ej→ei.blk=some b→ej.blk=some b→(H.set k (es'))[j]? = some bj→bj.live=true→False:=by
      intro j ei ej bj hj q1 q2 q3 q4 q6 q8
      rw [g2 j hj] at q6
      rw [he0] at q1
      cases q1
      exact notT j ej bj b hj q2 q6 q8 q4 ⟨0,e0,es,rfl,rfl,hlv0,q3⟩
    by_cases hi:i=k <;> by_cases hj:j=k
    · omega
    · subst hi
      exact (mix j ei ej bj hj q1 q2 q3 q4 q6 q8).elim
    · subst hj
      exact (mix i ej ei bi hi q2 q1 q4 q3 q5 q7).elim
    · rw [show (H.set k (es'))[i]? = H[i]? from g2 i hi] at q5
      rw [show (H.set k (es'))[j]? = H[j]? from g2 j hj] at q6
      exact h1.inj i j b ei ej bi bj q1 q2 q3 q4 q5 q6 q7 q8
  · intro id b e blk he hh hlv hb2
    by_cases hi:id=k
    · subst hi
      obtain rfl:=g1 blk hh
      rw [he0] at he
      cases he
      exact (hrel.src 0 b e0 _ hE' rfl hlv hb2).imp (fun q=>q) (ownUp b)
    · rw [show (H.set k (es'))[id]? = H[id]? from g2 id hi] at hh
      exact .inr ⟨id,e,blk,he,hh,hlv,hb2⟩
  · have hi':=h3 i hi
    obtain ⟨e,he⟩ : ∃ e,E[i]? = some e:=⟨_,List.getElem?_eq_getElem (by rw [h1.len]; exact hi')⟩
    exact ⟨e,he,he⟩
end Go.Aw
