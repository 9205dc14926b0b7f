/-
  Texts of the library,one behind the other. Over any program; no condition.
-/
import Derived.Test.YtlimahhonfckdaaGreatDoorRuB
import Derived.Test.YtlimahhonfckdaaGreatDoorRuA
import Derived.Test.YtlimahhonfckdaaGreatDoorPkT
namespace Go.Aw
set_option linter.unusedSimpArgs false
set_option linter.unusedVariables false

structure Ch where
  owner:Int
  lo:Int
  hi:Int
  mn:Int
  mx:Int
  deriving DecidableEq
def encCh (c:Ch) : List D:=[.int .i64 c.owner,.int .i64 c.lo,.int .i64 c.hi,.int .i64 c.mn,.int .i64 c.mx]
def inC (x:Int) : Prop:=-1048576≤x∧x≤1048576
def inV' (x:Int) : Prop:=-1099511627776≤x∧x≤1099511627776
def okCh (c:Ch) : Prop:=0≤c.owner∧c.owner≤3∧c.lo≤c.hi∧inC c.lo∧inC c.hi∧c.mn≤c.mx∧inV' c.mn∧inV' c.mx
instance (c:Ch) : Decidable (okCh c):=by unfold okCh inC inV'; infer_instance
def numC:List Ch→Int→Int
  | [],n=>n
  | c::p,n=>numC p (min (n*(c.hi - c.lo+1)) 10)
def plE (p:List Ch) : Int:=if p.length=0 then 6 else if 12<p.length then 8 else if ¬ ∀ c,c∈p→okCh c then 2 else if 9<numC p 1 then 8 else 0
theorem numC_bd:∀ (p:List Ch) (n:Int),(∀ c,c∈p→okCh c)→1≤n→1≤numC p n
  | [],n,_,h=>h
  | c::p,n,hc,h=>by
    refine numC_bd p _ (fun d hd=>hc d (by simp [hd])) ?_
    have h1:=(hc c (by simp)).2.2.1
    have:1*1≤n*(c.hi - c.lo+1):=Int.mul_le_mul h (by omega) (by omega) (by omega)
    omega
theorem numC_ten:∀ (p:List Ch),(∀ c,c∈p→okCh c)→numC p 10=10
  | [],_=>rfl
  | c::p,hc=>by
    have h1:=(hc c (by simp)).2.2.1
    have:10*1≤10*(c.hi - c.lo+1):=Int.mul_le_mul (Int.le_refl _) (by omega) (by omega) (by omega)
    rw [numC,show min (10*(c.hi - c.lo+1)) 10=10 by omega]
    exact numC_ten p fun d hd=>hc d (by simp [hd])
def chV (c:Ch) (v d:Int) : Int:=min (max (v+d) c.mn) c.mx
def dsL (lo hi:Int) : List Int:=(List.range (hi+1 - lo).toNat).map fun (k:Nat)=>lo+(k:Int)
theorem dsL_len (lo hi:Int) : (dsL lo hi).length=(hi+1 - lo).toNat:=by simp [dsL]
def folV:List Ch→List Int→List (List Int)
  | c::p,v::row=>(dsL c.lo c.hi).flatMap fun d=>(folV p row).map (chV c v d::·)
  | _,_=>[[]]
theorem folV_nil (row:List Int) : folV [] row=[[]]:=by cases row <;> rfl
def grow (c:Ch) (v:Int) (out:List (List Int)) : List (List Int):=out.flatMap fun o=>(dsL c.lo c.hi).map fun d=>o++[chV c v d]
def growAll:List Ch→List Int→List (List Int)→List (List Int)
  | c::p,v::row,out=>growAll p row (grow c v out)
  | _,_,out=>out
theorem fm_congr {α β:Type} {l:List α} {f g:α→List β} (h:∀ a,a∈l→f a=g a) : l.flatMap f=l.flatMap g:=by
  induction l with
  | nil=>rfl
  | cons a l ih=>rw [List.flatMap_cons,List.flatMap_cons,h a (by simp),ih fun b hb=>h b (by simp [hb])]
theorem growAll_eq:∀ (p:List Ch) (row:List Int) (out:List (List Int)),growAll p row out=out.flatMap fun o=>(folV p row).map (o++·)
  | [],row,out=>by simp [growAll,folV_nil]
  | c::p,[],out=>by simp [growAll,folV]
  | c::p,v::row,out=>by
    rw [growAll,growAll_eq p row,grow,List.flatMap_assoc]
    refine fm_congr fun o _ => ?_
    simp only [folV,List.flatMap_map,List.map_flatMap,List.map_map]
    refine fm_congr fun d _ => ?_
    refine List.map_congr_left fun r _ => ?_
    simp
theorem growAll_one (p:List Ch) (row:List Int) : growAll p row [[]]=folV p row:=by
  rw [growAll_eq]
  simp
theorem grow_len (c:Ch) (v:Int) (out:List (List Int)) : (grow c v out).length=out.length*(c.hi+1 - c.lo).toNat:=by
  unfold grow
  induction out with
  | nil=>simp
  | cons o out ih=>rw [List.flatMap_cons,List.length_append,ih,List.length_map,dsL_len,List.length_cons,Nat.succ_mul,Nat.add_comm]
theorem numC_grow:∀ (p:List Ch) (row:List Int) (n:Nat),(∀ c,c∈p→okCh c)→1≤n→numC p n≤9→p.length≤row.length→∀ out:List (List Int),out.length=n→((growAll p row out).length:Int)=numC p n
  | [],row,n,_,_,_,_,out,ho=>by
    have:growAll [] row out=out:=by cases row <;> rfl
    rw [this,numC,ho]
  | c::p,[],n,_,_,_,hl,out,ho=>by simp at hl
  | c::p,v::row,n,hc,h1,h9,hl,out,ho=>by
    have hcc:=(hc c (by simp)).2.2.1
    have hp:∀ d,d∈p→okCh d:=fun d hd=>hc d (by simp [hd])
    have hlen:=grow_len c v out
    rw [ho] at hlen
    have e:(n:Int)*(c.hi - c.lo+1)=((n*(c.hi+1 - c.lo).toNat:Nat) : Int):=by
      push_cast
      congr 1
      omega
    have hn:1*1≤n*(c.hi+1 - c.lo).toNat:=Nat.mul_le_mul h1 (by omega)
    rw [numC,e] at h9 ⊢
    rw [growAll]
    rcases Nat.lt_or_ge (n*(c.hi+1 - c.lo).toNat) 10 with h | h
    · rw [Int.min_eq_left (by omega)] at h9 ⊢
      exact numC_grow p row _ hp (by omega) h9 (by simpa using hl) _ hlen
    · rw [Int.min_eq_right (by omega),numC_ten p hp] at h9
      omega
theorem folV_len {p:List Ch} {row:List Int} (hp:plE p=0) (hl:p.length≤row.length) : 1≤(folV p row).length∧(folV p row).length≤9:=by
  unfold plE at hp
  split at hp
  · cases hp
  split at hp
  · cases hp
  split at hp
  · cases hp
  split at hp
  · cases hp
  · rename_i h1 h2 h3 h4
    have h3':=Decidable.not_not.1 h3
    have:=numC_grow p row 1 h3' (Nat.le_refl _) (by push_cast; omega) hl [[]] rfl
    rw [growAll_one] at this
    have h5:=numC_bd p 1 h3' (by omega)
    push_cast at this
    omega
theorem pl_ok {p:List Ch} (hp:plE p=0) : 1≤p.length∧p.length≤12∧(∀ c,c∈p→okCh c)∧numC p 1≤9:=by
  unfold plE at hp
  split at hp
  · cases hp
  split at hp
  · cases hp
  split at hp
  · cases hp
  split at hp
  · cases hp
  · rename_i h1 h2 h3 h4
    exact ⟨by omega,by omega,Decidable.not_not.1 h3,by omega⟩
theorem chV_in {c:Ch} (hc:okCh c) (v d:Int) : c.mn≤chV c v d∧chV c v d≤c.mx:=by
  have:=hc.2.2.2.2.2.1
  unfold chV
  omega
theorem folV_row:∀ (p:List Ch) (row:List Int),(∀ c,c∈p→okCh c)→p.length=row.length→∀ r,r∈folV p row→r.length=p.length∧∀ x,x∈r→inV x=true
  | [],row,_,_,r,hr=>by
    rw [folV_nil] at hr
    obtain rfl:=List.mem_singleton.1 hr
    exact ⟨rfl,by simp⟩
  | c::p,[],_,hl,r,hr=>by simp at hl
  | c::p,v::row,hc,hl,r,hr=>by
    simp only [folV,List.mem_flatMap,List.mem_map] at hr
    obtain ⟨d,_,q,hq,rfl⟩:=hr
    obtain ⟨h1,h2⟩:=folV_row p row (fun d hd=>hc d (by simp [hd])) (by simpa using hl) q hq
    refine ⟨by simp [h1],fun x hx => ?_⟩
    rcases List.mem_cons.1 hx with rfl | hx
    · have h3:=chV_in (hc c (by simp)) v d
      have h4:=hc c (by simp)
      unfold okCh inV' at h4
      simp only [inV,decide_eq_true_eq]
      omega
    · exact h2 x hx
end Go.Aw

namespace Go.Aw
set_option linter.unusedSimpArgs false
set_option linter.unusedVariables false
open Go.RowKit Go.Proofs
set_option maxRecDepth 100000

theorem numC_mul {c:Ch} {n:Int} (hc:okCh c) (hn:1≤n∧n≤10) : 1≤n*(c.hi - c.lo+1)∧n*(c.hi - c.lo+1)≤100000000:=by
  obtain ⟨_,_,h1,⟨h2,h3⟩,⟨h4,h5⟩,_⟩:=hc
  have h6:1*1≤n*(c.hi - c.lo+1):=Int.mul_le_mul hn.1 (by omega) (by omega) (by omega)
  have h7:n*(c.hi - c.lo+1)≤10*10000000:=Int.mul_le_mul hn.2 (by omega) (by omega) (by omega)
  omega
theorem numC_drop {p:List Ch} {i:Nat} {c:Ch} (h:p[i]? = some c) (n:Int) : numC (p.drop i) n=numC (p.drop (i+1)) (min (n*(c.hi - c.lo+1)) 10):=by
  have hlt:i<p.length:=(List.getElem?_eq_some_iff.1 h).1
  rw [List.drop_eq_getElem_cons hlt,show p[i]=c from (List.getElem?_eq_some_iff.1 h).2,numC]
theorem p57 (p:List Ch) (hp:∀ c,c∈p→okCh c) (hl:p.length≤1000) : PD Tryz.prog 91 [.sl (p.map encCh)] (.d (.int .i64 (numC p 1))):=by
  have hq:∀ row,row∈p.map encCh→row.length=5:=fun row hr=>by obtain ⟨_,_,rfl⟩:=List.mem_map.1 hr; rfl
  refine pd_of (fn:=Tryz.f91) [.tmp 2] (by kernel_rfl) rfl (by kernel_rfl) (Nat.le_of_ble_eq_true rfl) (by kernel_rfl) rfl rfl ?_
  refine awp_seq ?_
  refine wRg ?_
  refine awp_seq ?_
  refine wRg ?_
  refine awp_seq ?_
  refine awp_seq ?_
  refine wRg ?_
  refine awp_block ?_
  refine awp_loopP (α:=Nat × Int) (st:=fun x=>⟨[(3,.d (.int .i64 x.2)),(6,.d (.sl (p.map encCh))),(7,.d (.int .i64 p.length)),(8,.d (.int .i64 x.1))],[]⟩)
    (inv:=fun x=>x.1≤p.length∧(1≤x.2∧x.2≤10)∧numC p 1=numC (p.drop x.1) x.2) (μ:=fun x=>p.length - x.1) (x0:=(0,1)) (r0:=[]) ⟨Nat.zero_le _,by omega,rfl⟩ ?_ ?_
  · exact wRen
  rintro ⟨i,n⟩ ⟨hi,hn,hinv⟩
  dsimp only at hi hn hinv ⊢
  refine awp_seq ?_
  refine wRg ?_
  refine awp_seq ?_
  refine wCd ?_ ?_
  · intro h1; replace h1:=wHb h1
    have hlt:i<p.length:=by omega
    obtain ⟨c,hc⟩ : ∃ c,p[i]? = some c:=⟨_,List.getElem?_eq_getElem hlt⟩
    have hcc:=hp c (List.mem_of_getElem? hc)
    have hm:=numC_mul hcc hn
    rw [numC_drop hc] at hinv
    obtain ⟨hc1,hc2,hc3,⟨hc4,hc5⟩,⟨hc6,hc7⟩,_⟩:=hcc
    refine awp_skip ?_
    refine awp_seq ?_
    refine awp_block ?_
    refine awp_seq ?_
    refine awpF_region ?_; intro K hK; simp only [push_cast,seval,hc,encCh,Int.toNat_natCast]; refine wKk hK ?_; clear hK K
    obtain ⟨ow,lo,hi',mn,mx⟩:=c
    dsimp only at *
    have e1:IntKind.i64.wrap (hi' - lo)=hi' - lo:=wrapI _ (by omega)
    have e2:IntKind.i64.wrap (hi' - lo+1)=hi' - lo+1:=wrapI _ (by omega)
    have e3:IntKind.i64.wrap (n*(hi' - lo+1))=n*(hi' - lo+1):=wrapI _ (by omega)
    generalize hpr:n*(hi' - lo+1)=pr at *
    refine awpF_region ?_; intro K hK; simp only [push_cast,seval,e1,e2,e3,hpr]; refine wKk hK ?_; clear hK K
    refine inblock_norm ?_
    refine wRg ?_
    refine round_endG (i+1,min pr 10) [] ⟨by show p.length - (i+1)<p.length - i; omega,⟨by show i+1≤p.length; omega,by show 1≤min pr 10∧min pr 10≤10; omega,hinv⟩,?_⟩
    push_cast
    exact wRen
  · intro h1; replace h1:=wHb h1
    obtain rfl:i=p.length:=by omega
    rw [List.drop_length,numC] at hinv
    rw [hinv]
    refine wEx ?_
    refine awp_seq ?_
    refine wRg ?_
    refine wRet ?_
    rfl
theorem p85 (c:Ch) (v d:Int) (h : -2000000000000≤v+d∧v+d≤2000000000000) : PD Tryz.prog 103 [.agg (encCh c),.int .i64 v,.int .i64 d] (.d (.int .i64 (chV c v d))):=by
  obtain ⟨ow,lo,hi',mn,mx⟩:=c
  simp only [encCh]
  refine pd_of (fn:=Tryz.f103) [.tmp 6] (by kernel_rfl) rfl (by kernel_rfl) (Nat.le_of_ble_eq_true rfl) (by kernel_rfl) rfl rfl ?_
  (repeat' (first | refine awp_seq ?_ | refine awp_skip ?_ | refine awp_block ?_ | ((first | (refine awpF_region ?_; intro K hK)); refine wXo ?_) | (refine hK _ ?_; clear hK K) | (refine wCd ?_ ?_) | (with_reducible intro hb; exfalso; revert hb; simp []; done) | (with_reducible intro hb; exfalso; replace hb:=wHb hb; omega; done) | (with_reducible intro hb; replace hb:=wHb hb) | (refine wEx ?_) | (refine wRet ?_) | (refine inblock_norm ?_)))
  rfl
theorem pl_short {p:List Ch} (h:p.length=0) : plE p=6:=by rw [plE,if_pos h]
theorem pl_long {p:List Ch} (h:12<p.length) : plE p=8:=by rw [plE,if_neg (by omega),if_pos h]
theorem pl_bad {p:List Ch} (h0:p.length≠0) (h1:¬ 12<p.length) {c:Ch} (hc:c∈p) (h:¬ okCh c) : plE p=2:=by rw [plE,if_neg h0,if_neg h1,if_pos (fun g=>h (g c hc))]
theorem pl_rest {p:List Ch} (h0:p.length≠0) (h1:¬ 12<p.length) (h:∀ c,c∈p→okCh c) : plE p=if 9<numC p 1 then 8 else 0:=by rw [plE,if_neg h0,if_neg h1,if_neg (fun g=>g h)]
theorem p32 (p:List Ch) (hl:p.length≤1000000) : PD Tryz.prog 73 [.sl (p.map encCh)] (.d (.int .i64 (plE p))):=by
  have hq:∀ row,row∈p.map encCh→row.length=5:=fun row hr=>by obtain ⟨_,_,rfl⟩:=List.mem_map.1 hr; rfl
  by_cases h0:p.length=0
  · rw [pl_short h0]
    have hb1:((p.length:Int)==0)=true:=by rw [h0]; rfl
    refine pd_of (fn:=Tryz.f73) [.tmp 2] (by kernel_rfl) rfl (by kernel_rfl) (Nat.le_of_ble_eq_true rfl) (by kernel_rfl) rfl rfl ?_
    refine awp_seq ?_
    refine wRg ?_
    refine awp_seq ?_
    refine awp_block ?_
    refine awp_seq ?_
    refine awpF_region ?_; intro K hK; simp only [push_cast,seval,hb1]; refine wKk hK ?_; clear hK K
    refine wCd ?_ ?_
    · intro _
      refine awp_seq ?_
      refine wRg ?_
      refine wRet ?_
      rfl
    · intro h
      cases h
  have hb0:((p.length:Int)==0)=false:=beq_eq_false_iff_ne.2 (by omega)
  by_cases h1:12<p.length
  · rw [pl_long h1]
    refine pd_of (fn:=Tryz.f73) [.tmp 2] (by kernel_rfl) rfl (by kernel_rfl) (Nat.le_of_ble_eq_true rfl) (by kernel_rfl) rfl rfl ?_
    refine awp_seq ?_
    refine wRg ?_
    refine awp_seq ?_
    refine awp_block ?_
    refine awp_seq ?_
    refine awpF_region ?_; intro K hK; simp only [push_cast,seval,hb0]; refine wKk hK ?_; clear hK K
    refine wCd ?_ ?_
    · intro h
      cases h
    intro _
    refine awp_seq ?_
    refine wRg ?_
    refine wCd ?_ ?_
    · intro h2; replace h2:=wHb h2
      refine awp_seq ?_
      refine wRg ?_
      refine wRet ?_
      rfl
    · intro h2; replace h2:=wHb h2
      omega
  have hpd:=pl_rest h0 h1
  have hbad:=fun (c:Ch)=>pl_bad (c:=c) h0 h1
  refine pd_of (fn:=Tryz.f73) [.tmp 2] (by kernel_rfl) rfl (by kernel_rfl) (Nat.le_of_ble_eq_true rfl) (by kernel_rfl) rfl rfl ?_
  refine awp_seq ?_
  refine wRg ?_
  refine awp_seq ?_
  refine awp_block ?_
  refine awp_seq ?_
  refine awpF_region ?_; intro K hK; simp only [push_cast,seval,hb0]; refine wKk hK ?_; clear hK K
  refine wCd ?_ ?_
  · intro h
    cases h
  intro _
  refine awp_seq ?_
  refine wRg ?_
  refine wCd ?_ ?_
  · intro h2; replace h2:=wHb h2
    omega
  intro h2; replace h2:=wHb h2
  refine awp_skip ?_
  refine inblock_norm ?_
  refine awp_seq ?_
  refine awp_seq ?_
  refine wRg ?_
  refine awp_block ?_
  refine awp_loopP (α:=Nat) (st:=fun i=>⟨[(0,.d (.sl (p.map encCh))),(13,.d (.sl (p.map encCh))),(14,.d (.int .i64 p.length)),(15,.d (.int .i64 i))],[]⟩)
    (inv:=fun i=>i≤p.length∧∀ c,c∈p.take i→okCh c) (μ:=fun i=>p.length - i) (x0:=0) (r0:=[]) ⟨Nat.zero_le _,by simp⟩ ?_ ?_
  · exact wRen
  rintro i ⟨hi,hall⟩
  refine awp_seq ?_
  refine wRg ?_
  refine awp_seq ?_
  refine wCd ?_ ?_
  · intro h3; replace h3:=wHb h3
    have hlt:i<p.length:=by omega
    obtain ⟨c,hc⟩ : ∃ c,p[i]? = some c:=⟨_,List.getElem?_eq_getElem hlt⟩
    have hmem:=List.mem_of_getElem? hc
    have hbc:=hbad c hmem
    obtain ⟨ow,lo,hi',mn,mx⟩:=c
    have q1:=p49 lo (-1048576) 1048576
    have q2:=p49 hi' (-1048576) 1048576
    have q3:=p49 mn (-1099511627776) 1099511627776
    have q4:=p49 mx (-1099511627776) 1099511627776
    refine awp_skip ?_
    refine awp_seq ?_
    refine awp_block ?_
    refine awp_seq ?_
    refine awpF_region ?_; intro K hK; simp only [push_cast,seval,hc,encCh,Int.toNat_natCast]; refine wKk hK ?_; clear hK K
    refine awp_seq ?_
    refine awpF_region ?_; intro K hK; simp only [push_cast,seval]
    generalize e1:decide (ow<0)=b1
    generalize e2:decide (ow > 3)=b2
    generalize e3:decide (lo > hi')=b3
    generalize f1:decide (-1048576≤lo∧lo≤1048576)=w1 at q1
    generalize f2:decide (-1048576≤hi'∧hi'≤1048576)=w2 at q2
    generalize f3:decide (-1099511627776≤mn∧mn≤1099511627776)=w3 at q3
    generalize f4:decide (-1099511627776≤mx∧mx≤1099511627776)=w4 at q4
    (repeat ((with_reducible refine And.intro ?_ ?_); (focus ((cases b1 <;> cases b2 <;> cases b3 <;> (simp; done)))))); refine CallK.pg (fun _=>q1) ?_; simp only [push_cast,seval]; (try simp (disch:=omega) only [wrapI])
    (repeat ((with_reducible refine And.intro ?_ ?_); (focus ((cases b1 <;> cases b2 <;> cases b3 <;> cases w1 <;> (simp; done)))))); refine CallK.pg (fun _=>q2) ?_; simp only [push_cast,seval]; (try simp (disch:=omega) only [wrapI])
    generalize e4:decide (mn > mx)=b4
    (repeat ((with_reducible refine And.intro ?_ ?_); (focus ((cases b1 <;> cases b2 <;> cases b3 <;> cases w1 <;> cases w2 <;> cases b4 <;> (simp; done)))))); refine CallK.pg (fun _=>q3) ?_; simp only [push_cast,seval]; (try simp (disch:=omega) only [wrapI])
    (repeat ((with_reducible refine And.intro ?_ ?_); (focus ((cases b1 <;> cases b2 <;> cases b3 <;> cases w1 <;> cases w2 <;> cases b4 <;> cases w3 <;> (simp; done)))))); refine CallK.pg (fun _=>q4) ?_; simp only [push_cast,seval]; (try simp (disch:=omega) only [wrapI])
    (repeat ((with_reducible refine And.intro ?_ ?_); (focus ((cases b1 <;> cases b2 <;> cases b3 <;> cases w1 <;> cases w2 <;> cases b4 <;> cases w3 <;> cases w4 <;> (simp; done))))))
    refine hK _ ?_; clear hK K
    have hok:okCh ⟨ow,lo,hi',mn,mx⟩↔b1=false∧b2=false∧b3=false∧w1=true∧w2=true∧b4=false∧w3=true∧w4=true:=by
      rw [← e1,← e2,← e3,← e4,← f1,← f2,← f3,← f4]
      simp only [decide_eq_true_eq,decide_eq_false_iff_not]
      unfold okCh inC inV'
      dsimp only
      omega
    clear e1 e2 e3 e4 f1 f2 f3 f4
    refine wCd ?_ ?_
    · intro h4
      have hno:¬ okCh ⟨ow,lo,hi',mn,mx⟩:=by
        rw [hok]
        rintro ⟨rfl,rfl,rfl,rfl,rfl,rfl,rfl,rfl⟩
        cases h4
      refine awp_seq ?_
      refine wRg ?_
      refine wRet ?_
      rw [hbc hno]
    · intro h4
      have hyes:okCh ⟨ow,lo,hi',mn,mx⟩:=by
        rw [hok]
        simpa [and_assoc] using h4
      refine awp_skip ?_
      refine inblock_norm ?_
      refine wRg ?_
      refine round_endG (i+1) [] ⟨by omega,⟨by omega,fun d hd => ?_⟩,?_⟩
      · rw [List.take_add_one,hc] at hd
        simp only [Option.toList_some,List.mem_append,List.mem_singleton] at hd
        rcases hd with hd | rfl
        · exact hall d hd
        · exact hyes
      · push_cast
        exact wRen
  · intro h3; replace h3:=wHb h3
    obtain rfl:i=p.length:=by omega
    rw [List.take_length] at hall
    have h57:=p57 p hall (by omega)
    rw [hpd hall]
    generalize numC p 1=nc at *
    refine wEx ?_
    refine awp_seq ?_
    refine awp_seq ?_
    refine awpF_region ?_; intro K hK; simp only [push_cast,seval]
    refine CallK.pd (h57) ?_; refine wXo ?_
    refine hK _ ?_; clear hK K
    refine wCd ?_ ?_
    · intro h4; replace h4:=wHb h4
      refine awp_seq ?_
      refine wRg ?_
      refine wRet ?_
      rw [if_pos h4]
    · intro h4; replace h4:=wHb h4
      refine awp_skip ?_
      refine awp_seq ?_
      refine wRg ?_
      refine wRet ?_
      rw [if_neg (by omega)]
end Go.Aw

namespace Go.Aw
set_option linter.unusedSimpArgs false
set_option linter.unusedVariables false
open Go.RowKit Go.Proofs
set_option maxRecDepth 100000

theorem growAll_drop {p:List Ch} {row:List Int} {k:Nat} {c:Ch} {v:Int} (hc:p[k]? = some c) (hv:row[k]? = some v) (out:List (List Int)) : growAll (p.drop k) (row.drop k) out=growAll (p.drop (k+1)) (row.drop (k+1)) (grow c v out):=by
  have h1:k<p.length:=(List.getElem?_eq_some_iff.1 hc).1
  have h2:k<row.length:=(List.getElem?_eq_some_iff.1 hv).1
  rw [List.drop_eq_getElem_cons h1,List.drop_eq_getElem_cons h2,show p[k]=c from (List.getElem?_eq_some_iff.1 hc).2,show row[k]=v from (List.getElem?_eq_some_iff.1 hv).2,growAll]
theorem dsL_take (lo hi:Int) {j:Nat} (h:lo+j≤hi) : (dsL lo hi).take (j+1)=(dsL lo hi).take j++[lo+(j:Int)]:=by
  have:(dsL lo hi)[j]? = some (lo+(j:Int)):=by
    rw [dsL,List.getElem?_map,List.getElem?_range (by omega)]
    rfl
  rw [List.take_add_one,this]
  rfl
structure Cols (p:List Ch) (row:List Int) (k:Nat) (out:List (List Int)) : Prop where
  hk:k≤p.length
  rest:growAll p row [[]]=growAll (p.drop k) (row.drop k) out
  num:∃ n:Nat,out.length=n∧1≤n∧n≤9∧numC (p.drop k) n=numC p 1
  len:∀ r,r∈out→r.length=k
theorem Cols.next {p:List Ch} {row:List Int} {k:Nat} {out:List (List Int)} {c:Ch} {v:Int} (h:Cols p row k out) (hp:∀ c,c∈p→okCh c) (h9:numC p 1≤9) (hc:p[k]? = some c) (hv:row[k]? = some v) : Cols p row (k+1) (grow c v out):=by
  obtain ⟨h1,h2,⟨n,h3,h4,h5,h6⟩,h7⟩:=h
  have hk:k<p.length:=(List.getElem?_eq_some_iff.1 hc).1
  have hcc:=(hp c (List.mem_of_getElem? hc)).2.2.1
  have hlen:=grow_len c v out
  rw [h3] at hlen
  have e:(n:Int)*(c.hi - c.lo+1)=((n*(c.hi+1 - c.lo).toNat:Nat) : Int):=by
    push_cast
    congr 1
    omega
  have hn:1*1≤n*(c.hi+1 - c.lo).toNat:=Nat.mul_le_mul h4 (by omega)
  rw [numC_drop hc,e] at h6
  have hpd:∀ d,d∈p.drop (k+1)→okCh d:=fun d hd=>hp d (List.mem_of_mem_drop hd)
  refine ⟨hk,by rw [h2,growAll_drop hc hv],⟨_,hlen,by omega,?_,?_⟩,fun r hr => ?_⟩
  · rcases Nat.lt_or_ge (n*(c.hi+1 - c.lo).toNat) 10 with h | h
    · omega
    · rw [Int.min_eq_right (by omega),numC_ten _ hpd] at h6
      omega
  · rcases Nat.lt_or_ge (n*(c.hi+1 - c.lo).toNat) 10 with h | h
    · rw [Int.min_eq_left (by omega)] at h6
      exact h6
    · rw [Int.min_eq_right (by omega),numC_ten _ hpd] at h6
      omega
  · obtain ⟨o,ho,hr⟩:=List.mem_flatMap.1 hr
    obtain ⟨d,_,rfl⟩:=List.mem_map.1 hr
    simp [h7 o ho]
theorem Cols.start (p:List Ch) (row:List Int) : Cols p row 0 [[]]:=⟨Nat.zero_le _,by rw [List.drop_zero,List.drop_zero],⟨1,rfl,Nat.le_refl _,by omega,by rw [List.drop_zero]; rfl⟩,by simp⟩
end Go.Aw

namespace Go.Aw
set_option linter.unusedSimpArgs false
set_option linter.unusedVariables false
open Go.RowKit Go.Proofs
set_option maxRecDepth 100000

theorem encI_row {l:List Int} {row:List D} (h:row∈l.map encI) : row.length=1∧row.all D.leaf=true:=by
  obtain ⟨x,_,rfl⟩:=List.mem_map.1 h; exact ⟨rfl,rfl⟩
theorem encNd_row {l:List Nd} {row:List D} (h:row∈l.map encNd) : row.length=6∧row.all D.leaf=true:=by
  obtain ⟨x,_,rfl⟩:=List.mem_map.1 h; exact ⟨rfl,rfl⟩
theorem p72c (l:List Int) (hn:l.length≤1000000) : PC Tryz.prog 82 [.sl (l.map encI)] fun x H=>x=.ref 0 0 l.length∧H=[.data 1 (l.map encI)]:=by
  refine pc_of (fn:=Tryz.f82) [.tmp 2] (by kernel_rfl) rfl (by kernel_rfl) (Nat.le_of_ble_eq_true rfl) (by kernel_rfl) rfl ?_
  refine awp_seq ?_
  refine wRg ?_
  refine awp_seq ?_
  refine awp_seq ?_
  refine awpF_region ?_; intro K hK; simp only [push_cast,seval]
  refine ⟨?_,fun h0 => ?_⟩
  · refine hK _ ?_; clear hK K
    refine wCd ?_ ?_
    · intro h1; replace h1:=wHb h1
      cases h1
    intro h1; replace h1:=wHb h1
    refine awp_skip ?_
    refine awp_seq ?_
    refine awpF_region ?_; intro K hK; simp only [push_cast,seval]
    refine ⟨fun h=>h,by omega,by omega,fun r h=>encI_row h,?_⟩
    refine hK _ ?_; clear hK K
    refine wRet ?_
    exact ⟨rfl,rfl⟩
  · refine hK _ ?_; clear hK K
    obtain rfl:l=[]:=List.eq_nil_of_length_eq_zero h0
    refine wCd ?_ ?_
    · intro h1; replace h1:=wHb h1
      refine awp_seq ?_
      refine wRg ?_
      refine awp_virt 2 1 rfl ?_
      refine wRet ?_
      exact ⟨rfl,rfl⟩
    intro h1; replace h1:=wHb h1
    cases h1
theorem p72 (l:List Int) (hn:l.length≤1000000) : PD Tryz.prog 82 [.sl (l.map encI)] (.d (.sl (l.map encI))) :=
  AC.deepV (R:=fun x H=>x=.ref 0 0 l.length∧H=[.data 1 (l.map encI)]) (p72c l hn) fun x H ⟨h1,h2⟩=>⟨_,by rw [h1,h2]; exact DeepV.row rfl (by simp),rfl,rfl⟩
theorem p69c (l:List Nd) (hn:l.length≤1000000) : PC Tryz.prog 49 [.sl (l.map encNd)] fun x H=>x=.ref 0 0 l.length∧H=[.data 6 (l.map encNd)]:=by
  refine pc_of (fn:=Tryz.f49) [.tmp 2] (by kernel_rfl) rfl (by kernel_rfl) (Nat.le_of_ble_eq_true rfl) (by kernel_rfl) rfl ?_
  refine awp_seq ?_
  refine wRg ?_
  refine awp_seq ?_
  refine awp_seq ?_
  refine awpF_region ?_; intro K hK; simp only [push_cast,seval]
  refine ⟨?_,fun h0 => ?_⟩
  · refine hK _ ?_; clear hK K
    refine wCd ?_ ?_
    · intro h1; replace h1:=wHb h1
      cases h1
    intro h1; replace h1:=wHb h1
    refine awp_skip ?_
    refine awp_seq ?_
    refine awpF_region ?_; intro K hK; simp only [push_cast,seval]
    refine ⟨fun h=>h,by omega,by omega,fun r h=>encNd_row h,?_⟩
    refine hK _ ?_; clear hK K
    refine wRet ?_
    exact ⟨rfl,rfl⟩
  · refine hK _ ?_; clear hK K
    obtain rfl:l=[]:=List.eq_nil_of_length_eq_zero h0
    refine wCd ?_ ?_
    · intro h1; replace h1:=wHb h1
      refine awp_seq ?_
      refine wRg ?_
      refine awp_virt 2 6 rfl ?_
      refine wRet ?_
      exact ⟨rfl,rfl⟩
    intro h1; replace h1:=wHb h1
    cases h1
theorem p69 (l:List Nd) (hn:l.length≤1000000) : PD Tryz.prog 49 [.sl (l.map encNd)] (.d (.sl (l.map encNd))) :=
  AC.deepV (R:=fun x H=>x=.ref 0 0 l.length∧H=[.data 6 (l.map encNd)]) (p69c l hn) fun x H ⟨h1,h2⟩=>⟨_,by rw [h1,h2]; exact DeepV.row rfl (by simp),rfl,rfl⟩
theorem scr_id {n:Nat} {x:V} (h:V.bel n x=true) : scr n x=x:=by
  unfold scr
  rw [if_neg]
  intro hh
  have:=bel_has n x h n hh
  omega
theorem scrL_id {n:Nat} : ∀ {xs:List V},V.belL n xs=true→scrL n xs=xs
  | [],_=>rfl
  | x::xs,h=>by
    simp only [V.belL,Bool.and_eq_true] at h
    rw [scrL,scr_id h.1,scrL_id h.2]
theorem blkScr_id {n:Nat} {b:Blk} (h:b.bel n=true) : b.scr n=b:=by
  cases b with
  | cells xs=>simp only [Blk.scr]; rw [scrL_id (by simpa [Blk.bel] using h)]
  | vrs k rs =>
    simp only [Blk.scr]
    congr 1
    have h':∀ r,r∈rs→V.belL n r=true:=by simpa [Blk.bel] using h
    exact (List.map_congr_left fun r hr=>scrL_id (h' r hr)).trans (List.map_id _)
  | mp es =>
    simp only [Blk.scr]
    congr 1
    have h':∀ a b,(a,b)∈es→V.bel n a=true∧V.bel n b=true:=by simpa [Blk.bel] using h
    exact (List.map_congr_left fun r hr=>by rw [scr_id (h' r.1 r.2 hr).1,scr_id (h' r.1 r.2 hr).2]; rfl).trans (List.map_id _)
  | it x seen m=>simp only [Blk.scr]; rw [scr_id (by simpa [Blk.bel] using h)]
  | _=>rfl
theorem heapScr_id {n:Nat} : ∀ {H:List Blk},belHeap n H=true→heapScr n H=H
  | [],_=>rfl
  | b::H,h=>by
    simp only [belHeap,Bool.and_eq_true] at h
    rw [heapScr,blkScr_id h.1,heapScr_id h.2]
theorem heapScr_app {n k:Nat} {rows:List (List D)} {H:List Blk} (h:belHeap n H=true) : heapScr n (H++[.data k rows])=H++[.data k rows]:=by
  refine heapScr_id ?_
  induction H with
  | nil=>rfl
  | cons b H ih =>
    simp only [belHeap,Bool.and_eq_true] at h
    simp only [List.cons_append,belHeap,Bool.and_eq_true]
    exact ⟨h.1,ih h.2⟩
theorem p72A (l:List Int) (hn:l.length≤1000000) (H:List Blk) (k n:Nat) (rows:List (List D)) (kp:List Nat) (hk:H[k]? = some (.data 1 rows)) (hr:rows.take n=l.map encI) (hl:l.length=n) (hb:belHeap H.length H=true) (hkp:∀ i,i∈kp→i<H.length) :
    AC Tryz.prog 82 [.ref k 0 n] H kp fun x H'=>x=.ref H.length 0 n∧H'=H++[.data 1 (l.map encI)]:=by
  refine ac_ofF (fn:=Tryz.f82) [.tmp 2] (by kernel_rfl) rfl (by kernel_rfl) (Nat.le_of_ble_eq_true rfl) (by kernel_rfl) rfl ?_
  refine awp_seq ?_
  refine wRg ?_
  refine awp_seq ?_
  refine awp_seq ?_
  refine awpF_region ?_; intro K hK; simp only [push_cast,seval,hk]
  have hkl:k<H.length:=(List.getElem?_eq_some_iff.1 hk).1
  have e1:(H++[Blk.data 1 []])[k]? = some (.data 1 rows):=by rw [List.getElem?_append_left hkl,hk]
  have e2:(k==H.length)=false:=beq_eq_false_iff_ne.2 (by omega)
  have e3:∀ (b c:Blk),(H++[b]).set H.length c=H++[c]:=fun b c=>by rw [List.set_append_right _ _ (Nat.le_refl _),Nat.sub_self]; rfl
  have hq:∀ r,r∈rows.take n→r.length=1∧r.all D.leaf=true:=fun r h=>by rw [hr] at h; exact encI_row h
  refine ⟨?_,fun h0 => ?_⟩
  · refine hK _ ?_; clear hK K
    refine wCd ?_ ?_
    · intro h1; replace h1:=wHb h1
      cases h1
    intro h1; replace h1:=wHb h1
    refine awp_skip ?_
    refine awp_seq ?_
    refine awpF_region ?_; intro K hK; simp only [push_cast,seval,hk,e1,e2,e3,List.getElem?_concat_length,heapScr_app hb,hr]
    refine ⟨fun h=>by have:=hkp _ h; omega,by omega,by omega,?_⟩
    refine hK _ ?_; clear hK K
    refine wRet ?_
    rw [hl]
    exact ⟨rfl,rfl⟩
  · refine hK _ ?_; clear hK K
    subst h0
    obtain rfl:l=[]:=List.eq_nil_of_length_eq_zero hl
    refine wCd ?_ ?_
    · intro h1; replace h1:=wHb h1
      refine awp_seq ?_
      refine wRg ?_
      refine awp_virt 2 1 rfl ?_
      refine wRet ?_
      exact ⟨rfl,rfl⟩
    intro h1; replace h1:=wHb h1
    cases h1
end Go.Aw

namespace Go.Aw
set_option linter.unusedSimpArgs false
set_option linter.unusedVariables false
open Go.RowKit Go.Proofs
set_option maxRecDepth 100000

def foH (P R:D) (o:List (List Int)) (n:Nat) (xs:List Int) : List Blk:=[.gone,.cells [.ref 2 0 o.length],.data 1 (o.map encR),.cells [.d P],.cells [.d R],.cells [.fn (.func 75) [.ptr 1 0 0]],.cells [.ref 8 0 n],.cells [.fn (.func 102) [.ptr 3 0 0,.ptr 5 0 0,.ptr 6 0 0,.ptr 4 0 0,.ptr 7 0 0]],.data 1 (xs.map encI)]
theorem p55 (P R:D) (o:List (List Int)) (n m:Nat) (xs r:List Int) (ho:o.length≤1000) (hr:r.length=m) :
    AC Tryz.prog 75 [.ref 9 0 m,.ptr 1 0 0] (foH P R o n xs++[.data 1 (r.map encI)]) [0,1,3,4,5,6,7,8,9] fun x H'=>x=.d (.bool true)∧∃ X,H'=foH P R (o++[r]) n xs++X:=by
  have hto:List.take o.length (o.map encR)=o.map encR:=List.take_of_length_le (by simp)
  have hqo:∀ r,r∈o.map encR→r.length=1:=fun row hr=>by obtain ⟨_,_,rfl⟩:=List.mem_map.1 hr; rfl
  have htr:List.take m (r.map encI)=r.map encI:=List.take_of_length_le (by simp [hr])
  have hqr:∀ x,x∈r.map encI→x.length=1∧x.all D.leaf=true:=fun x h=>encI_row h
  simp only [foH,List.cons_append,List.nil_append]
  refine ac_ofF (fn:=Tryz.f75) [.tmp 3] (by kernel_rfl) rfl (by kernel_rfl) (Nat.le_of_ble_eq_true rfl) (by kernel_rfl) rfl ?_
  refine awp_seq ?_
  refine wRg ?_
  refine awp_seq ?_
  refine awpF_region ?_; intro K hK; simp only [push_cast,seval,hto,htr]; refine wKk hK ?_; clear hK K
  refine awp_seq ?_
  refine wRg ?_
  refine wRet ?_
  simp only [List.map_append,List.map_cons,List.map_nil,List.length_append,List.length_cons,List.length_nil]
  exact ⟨trivial,[_,_],rfl⟩
def ColC (p:List Ch) (row:List Int) (k:Nat) : Prop:=∀ (o:List (List Int)) (so xs:List Int),so.length=k→xs.take k=so→o.length+(folV (p.drop k) (row.drop k)).length≤1000 →
  AC Tryz.prog 102 [.d (.int .i64 k),.ptr 3 0 0,.ptr 5 0 0,.ptr 6 0 0,.ptr 4 0 0,.ptr 7 0 0] (foH (.sl (p.map encCh)) (.sl (row.map encI)) o k xs) [0,1,3,4,5,6,7] fun x H' =>
    x=.d (.bool true)∧∃ xs':List Int,xs'.take k=so∧H'=foH (.sl (p.map encCh)) (.sl (row.map encI)) (o++(folV (p.drop k) (row.drop k)).map (so++·)) k xs'
theorem foH_bel (P R:D) (o:List (List Int)) (n:Nat) (xs:List Int) : belHeap 9 (foH P R o n xs)=true:=rfl
theorem col_cut {p:List Ch} {row:List Int} {k:Nat} {o:List (List Int)} {so xs:List Int} {o2:List (List Int)}
    (h:AC Tryz.prog 102 [.d (.int .i64 k),.ptr 3 0 0,.ptr 5 0 0,.ptr 6 0 0,.ptr 4 0 0,.ptr 7 0 0] (foH (.sl (p.map encCh)) (.sl (row.map encI)) o k xs) [0,1,3,4,5,6,7] fun x H' =>
      x=.d (.bool true)∧∃ (xs':List Int) (X:List Blk),xs'.take k=so∧H'=foH (.sl (p.map encCh)) (.sl (row.map encI)) o2 k xs'++X) :
    AC Tryz.prog 102 [.d (.int .i64 k),.ptr 3 0 0,.ptr 5 0 0,.ptr 6 0 0,.ptr 4 0 0,.ptr 7 0 0] (foH (.sl (p.map encCh)) (.sl (row.map encI)) o k xs) [0,1,3,4,5,6,7] fun x H' =>
      x=.d (.bool true)∧∃ xs':List Int,xs'.take k=so∧H'=foH (.sl (p.map encCh)) (.sl (row.map encI)) o2 k xs':=by
  refine AC.cut h ?_
  rintro x _ ⟨rfl,xs',X,h1,rfl⟩
  exact ⟨_,X,rfl,rfl,foH_bel _ _ _ _ _,by simp [foH],rfl,xs',h1,rfl⟩
theorem p84e (p:List Ch) (row:List Int) (hp:p.length≤12) : ColC p row p.length:=by
  intro o so xs hso hxs hol
  have e:folV (p.drop p.length) (row.drop p.length)=[[]]:=by rw [List.drop_length,folV_nil]
  rw [e] at hol ⊢
  refine col_cut ?_
  have hx:List.take p.length (xs.map encI)=so.map encI:=by rw [← List.map_take,hxs]
  have hc:=p72A so (by omega) (foH (.sl (p.map encCh)) (.sl (row.map encI)) o p.length xs) 8 p.length (xs.map encI) (List.range 9) rfl hx hso rfl (fun i hi=>List.mem_range.1 hi)
  have hw:=p55 (.sl (p.map encCh)) (.sl (row.map encI)) o p.length p.length xs so (by omega) hso
  simp only [foH,List.cons_append,List.nil_append,List.length_cons,List.length_nil] at hc hw ⊢
  refine ac_ofF (fn:=Tryz.f102) [.tmp 7] (by kernel_rfl) rfl (by kernel_rfl) (Nat.le_of_ble_eq_true rfl) (by kernel_rfl) rfl ?_
  refine awp_seq ?_
  refine wRg ?_
  refine awp_seq ?_
  refine awp_seq ?_
  refine awpF_region ?_; intro K hK; simp only [push_cast,seval,beq_self_eq_true]; refine wKk hK ?_; clear hK K
  refine wCd ?_ ?_
  rotate_left
  · intro h
    cases h
  intro _
  have fin:o++([[]] : List (List Int)).map (so++·)=o++[so]:=by simp
  refine awp_seq ?_
  refine awp_drawO 5 (by kernel_rfl) (by kernel_rfl) ?_; intro K hK
  refine ord_2 0 1 (by kernel_rfl) rfl rfl ?_ ?_
  · refine vc_X rfl ?_; refine wXo ?_
    refine ord_1 1 (by kernel_rfl) rfl ?_
    refine vc_X rfl ?_; refine wXo ?_
    refine ord_1 2 (by kernel_rfl) rfl ?_
    refine call_V [] (by simp) (by simp only [push_cast,seval]; rfl) (by first | trivial | simp) (hc) ?_
    rintro _ _ ⟨rfl,rfl⟩
    simp only [push_cast,seval]
    refine ord_1 3 (by kernel_rfl) rfl ?_
    refine call_V [2] (by simp) (by simp only [push_cast,seval]; rfl) (by first | trivial | simp) (hw) ?_
    rintro _ _ ⟨rfl,X,rfl⟩
    simp only [push_cast,seval]
    refine ord_1 4 (by kernel_rfl) rfl ?_
    refine vc_X rfl ?_; refine wXo ?_
    refine ord_end (by kernel_rfl) ?_; refine hK _ ?_; clear hK K
    refine wRet ?_
    exact ⟨rfl,xs,X,hxs,by rw [fin]⟩
  · refine vc_X rfl ?_; refine wXo ?_
    refine ord_2 0 2 (by kernel_rfl) rfl rfl ?_ ?_
    · refine vc_X rfl ?_; refine wXo ?_
      refine ord_1 2 (by kernel_rfl) rfl ?_
      refine call_V [] (by simp) (by simp only [push_cast,seval]; rfl) (by first | trivial | simp) (hc) ?_
      rintro _ _ ⟨rfl,rfl⟩
      simp only [push_cast,seval]
      refine ord_1 3 (by kernel_rfl) rfl ?_
      refine call_V [2] (by simp) (by simp only [push_cast,seval]; rfl) (by first | trivial | simp) (hw) ?_
      rintro _ _ ⟨rfl,X,rfl⟩
      simp only [push_cast,seval]
      refine ord_1 4 (by kernel_rfl) rfl ?_
      refine vc_X rfl ?_; refine wXo ?_
      refine ord_end (by kernel_rfl) ?_; refine hK _ ?_; clear hK K
      refine wRet ?_
      exact ⟨rfl,xs,X,hxs,by rw [fin]⟩
    · refine call_V [] (by simp) (by simp only [push_cast,seval]; rfl) (by first | trivial | simp) (hc) ?_
      rintro _ _ ⟨rfl,rfl⟩
      simp only [push_cast,seval]
      refine ord_1 0 (by kernel_rfl) rfl ?_
      refine vc_X rfl ?_; refine wXo ?_
      refine ord_1 3 (by kernel_rfl) rfl ?_
      refine call_V [2] (by simp) (by simp only [push_cast,seval]; rfl) (by first | trivial | simp) (hw) ?_
      rintro _ _ ⟨rfl,X,rfl⟩
      simp only [push_cast,seval]
      refine ord_1 4 (by kernel_rfl) rfl ?_
      refine vc_X rfl ?_; refine wXo ?_
      refine ord_end (by kernel_rfl) ?_; refine hK _ ?_; clear hK K
      refine wRet ?_
      exact ⟨rfl,xs,X,hxs,by rw [fin]⟩
theorem folV_drop {p:List Ch} {row:List Int} {k:Nat} {c:Ch} {v:Int} (hc:p[k]? = some c) (hv:row[k]? = some v) : folV (p.drop k) (row.drop k)=(dsL c.lo c.hi).flatMap fun d=>(folV (p.drop (k+1)) (row.drop (k+1))).map (chV c v d::·):=by
  have h1:k<p.length:=(List.getElem?_eq_some_iff.1 hc).1
  have h2:k<row.length:=(List.getElem?_eq_some_iff.1 hv).1
  rw [List.drop_eq_getElem_cons h1,List.drop_eq_getElem_cons h2,show p[k]=c from (List.getElem?_eq_some_iff.1 hc).2,show row[k]=v from (List.getElem?_eq_some_iff.1 hv).2,folV]
def colJ (p:List Ch) (row:List Int) (k:Nat) (c:Ch) (v:Int) (so:List Int) (j:Nat) : List (List Int):=((dsL c.lo c.hi).take j).flatMap fun d=>(folV (p.drop (k+1)) (row.drop (k+1))).map (so++[chV c v d]++·)
theorem colJ_all {p:List Ch} {row:List Int} {k:Nat} {c:Ch} {v:Int} (hc:p[k]? = some c) (hv:row[k]? = some v) (so:List Int) {j:Nat} (hj:(dsL c.lo c.hi).length≤j) : colJ p row k c v so j=(folV (p.drop k) (row.drop k)).map (so++·):=by
  rw [folV_drop hc hv,colJ,List.take_of_length_le hj,List.map_flatMap]
  refine fm_congr fun d _ => ?_
  rw [List.map_map]
  refine List.map_congr_left fun r _ => ?_
  simp
theorem colJ_step {p:List Ch} {row:List Int} {k:Nat} {c:Ch} {v:Int} {so:List Int} {j:Nat} (hj:c.lo+(j:Int)≤c.hi) : colJ p row k c v so (j+1)=colJ p row k c v so j++(folV (p.drop (k+1)) (row.drop (k+1))).map (so++[chV c v (c.lo+(j:Int))]++·):=by
  rw [colJ,colJ,dsL_take _ _ hj,List.flatMap_append]
  simp
theorem colJ_len (p:List Ch) (row:List Int) (k:Nat) (c:Ch) (v:Int) (so:List Int) (j:Nat) : (colJ p row k c v so j).length=min j (dsL c.lo c.hi).length*(folV (p.drop (k+1)) (row.drop (k+1))).length:=by
  unfold colJ
  rw [← List.length_take]
  generalize (dsL c.lo c.hi).take j=l
  induction l with
  | nil=>simp
  | cons d l ih=>rw [List.flatMap_cons,List.length_append,ih,List.length_map,List.length_cons,Nat.succ_mul,Nat.add_comm]
set_option maxHeartbeats 2000000 in
theorem p84s (p:List Ch) (row:List Int) (k:Nat) (hp:plE p=0) (hl:row.length=p.length) (hv:∀ x,x∈row→inV x=true) (hk:k<p.length) (ih:ColC p row (k+1)) : ColC p row k:=by
  intro o so xs hso hxs hol
  obtain ⟨hp1,hp2,hpok,hp9⟩:=pl_ok hp
  obtain ⟨c,hc⟩ : ∃ c,p[k]? = some c:=⟨_,List.getElem?_eq_getElem hk⟩
  obtain ⟨v,hvk⟩ : ∃ v,row[k]? = some v:=⟨_,List.getElem?_eq_getElem (by omega)⟩
  have hok:=hpok c (List.mem_of_getElem? hc)
  have hvb:=hv v (List.mem_of_getElem? hvk)
  simp only [inV,decide_eq_true_eq] at hvb
  have hq:∀ row,row∈p.map encCh→row.length=5:=fun row hr=>by obtain ⟨_,_,rfl⟩:=List.mem_map.1 hr; rfl
  have hqr:∀ r,r∈row.map encI→r.length=1:=fun row hr=>by obtain ⟨_,_,rfl⟩:=List.mem_map.1 hr; rfl
  have hlenk:(folV (p.drop k) (row.drop k)).length=(dsL c.lo c.hi).length*(folV (p.drop (k+1)) (row.drop (k+1))).length:=by
    rw [folV_drop hc hvk]
    generalize dsL c.lo c.hi=l
    induction l with
    | nil=>simp
    | cons d l ih=>rw [List.flatMap_cons,List.length_append,ih,List.length_map,List.length_cons,Nat.succ_mul,Nat.add_comm]
  have hne:(((k:Nat) : Int)==p.length)=false:=beq_eq_false_iff_ne.2 (by omega)
  have hall:=fun j=>colJ_all hc hvk so (j:=j)
  have hstep:=fun j=>colJ_step (p:=p) (row:=row) (k:=k) (c:=c) (v:=v) (so:=so) (j:=j)
  have hjl:=fun j=>colJ_len p row k c v so j
  have h85:=fun (d:Int) (h : -2000000000000≤v+d∧v+d≤2000000000000)=>p85 c v d h
  have hdl:=dsL_len c.lo c.hi
  have hok':=hok
  unfold okCh inC inV' at hok'
  refine col_cut ?_
  have e0:colJ p row k c v so 0=[]:=rfl
  simp only [foH,List.cons_append,List.nil_append]
  refine ac_ofF (fn:=Tryz.f102) [.tmp 7] (by kernel_rfl) rfl (by kernel_rfl) (Nat.le_of_ble_eq_true rfl) (by kernel_rfl) rfl ?_
  refine awp_seq ?_
  refine wRg ?_
  refine awp_seq ?_
  refine awp_seq ?_
  refine awpF_region ?_; intro K hK; simp only [push_cast,seval,hne]; refine wKk hK ?_; clear hK K
  refine wCd ?_ ?_
  · intro h
    cases h
  intro _
  refine awp_skip ?_
  refine awp_seq ?_
  refine awp_seq ?_
  refine awpF_region ?_; intro K hK; simp only [push_cast,seval,hc,encCh,Int.toNat_natCast]; refine wKk hK ?_; clear hK K
  refine awp_block ?_
  refine awp_loopP (α:=Nat × List Int) (st:=fun x=>⟨[(0,.d (.int .i64 k)),(1,.ptr 3 0 0),(2,.ptr 5 0 0),(3,.ptr 6 0 0),(4,.ptr 4 0 0),(5,.ptr 7 0 0),(8,.d (.int .i64 (c.lo+(x.1:Int))))],foH (.sl (p.map encCh)) (.sl (row.map encI)) (o++colJ p row k c v so x.1) k x.2⟩)
    (inv:=fun x=>c.lo+(x.1:Int)≤c.hi+1∧x.2.take k=so) (μ:=fun x=>(c.hi+1 - c.lo).toNat - x.1) (x0:=(0,xs)) (r0:=[0,1,2,3,4,5,6,7,8]) ⟨by show c.lo+((0:Nat) : Int)≤c.hi+1; omega,hxs⟩ ?_ ?_
  · simp only [e0,List.append_nil,foH,Int.natCast_zero,Int.add_zero]
    exact wRen
  rintro ⟨j,ys⟩ ⟨hj,hys⟩
  dsimp only at hj hys ⊢
  have hstepj:=hstep j
  have hjlj:=hjl j
  generalize hG:colJ p row k c v so j=G at *
  generalize hF:folV (p.drop (k+1)) (row.drop (k+1))=Fo at *
  simp only [foH]
  refine awp_seq ?_
  refine awp_seq ?_
  refine awpF_region ?_; intro K hK; simp only [push_cast,seval,hc,encCh,Int.toNat_natCast]; refine wKk hK ?_; clear hK K
  refine wCd ?_ ?_
  · intro h1; replace h1:=wHb h1
    have h85d:=h85 (c.lo+(j:Int)) (by omega)
    have hty:List.take k (ys.map encI)=so.map encI:=by rw [← List.map_take,hys]
    have hqs:∀ r,r∈so.map encI→r.length=1∧r.all D.leaf=true:=fun r h=>encI_row h
    refine awp_skip ?_
    refine awp_seq ?_
    refine awp_block ?_
    have hsj:=hstepj h1
    have hlt1:(j+1)*Fo.length≤(dsL c.lo c.hi).length*Fo.length:=Nat.mul_le_mul_right _ (by rw [hdl]; omega)
    have hjle:G.length≤j*Fo.length:=by rw [hjlj]; exact Nat.mul_le_mul_right _ (Nat.min_le_left _ _)
    rw [Nat.succ_mul] at hlt1
    have ihc:=ih (o++G) (so++[chV c v (c.lo+(j:Int))]) (so++[chV c v (c.lo+(j:Int))]) (by simp [hso]) (List.take_of_length_le (by simp [hso])) (by rw [hF,List.length_append]; omega)
    rw [hF] at ihc
    simp only [foH] at ihc
    push_cast at ihc
    simp only [encCh] at h85d
    generalize chV c v (c.lo+(j:Int))=nv at *
    refine awp_mid (fun u=>u=⟨[(0,.d (.int .i64 k)),(1,.ptr 3 0 0),(2,.ptr 5 0 0),(3,.ptr 6 0 0),(4,.ptr 4 0 0),(5,.ptr 7 0 0),(8,.d (.int .i64 (c.lo+(j:Int))))],foH (.sl (p.map encCh)) (.sl (row.map encI)) (o++G) (k+1) (so++[nv])⟩) ?_ ?_
    · refine awpF_draw [0,1,2,3,4,5,6,7,8,9,10,11,12,13] (by kernel_rfl) (by kernel_rfl) rfl ?_; intro K hK; simp only [push_cast,seval,hc,hvk,encCh,encI,Int.toNat_natCast,hty]
      refine wOb ?_
      refine CallK.pd (h85d) ?_; refine wXo ?_
      refine wOb ?_
      refine hK _ ?_
      clear hK
      clear K
      rw [hty]
      refine mid_end [0,1,2,3,4,5,6,7,8] _ rfl ?_
      simp only [foH,List.map_append,List.map_cons,List.map_nil,encI]
      exact wRen
    rintro _ rfl
    simp only [foH]
    refine awp_seq ?_
    refine awp_regionF ?_; intro K hK
    refine from_X 3 rfl rfl ?_; refine wXo ?_
    refine call_V [2,8] (by simp) (by simp only [push_cast,seval]; rfl) (by first | trivial | simp) (ihc) ?_
    rintro _ _ ⟨rfl,zs,hzs,rfl⟩
    have hzk:List.take k zs=so:=by
      have:=congrArg (List.take k) hzs
      rw [List.take_take,Nat.min_eq_left (by omega)] at this
      rw [this]
      exact List.take_left' hso
    have hzl:k+1≤zs.length:=by
      have:=congrArg List.length hzs
      rw [List.length_take,List.length_append] at this
      simp at this
      omega
    simp only [foH]
    simp only [push_cast,seval]
    refine from_end ?_; simp only [push_cast,seval]; refine wKk hK ?_; clear hK K
    refine awp_seq ?_
    refine awpF_region ?_; intro K hK; simp only [push_cast,seval,Int.add_sub_cancel,Int.toNat_natCast,Nat.sub_zero]; refine wKk hK ?_; clear hK K
    refine awp_seq ?_
    refine wRg ?_
    refine wCd ?_ ?_
    · intro h
      cases h
    intro _
    refine awp_skip ?_
    refine inblock_norm ?_
    refine wRg ?_
    refine round_endG (j+1,zs) ([0,1,2,3,4,5,6,7,8]) ⟨by show (c.hi+1 - c.lo).toNat - (j+1)<(c.hi+1 - c.lo).toNat - j; omega,⟨by show c.lo+((j+1:Nat) : Int)≤c.hi+1; omega,hzk⟩,?_⟩
    have e9:c.lo+((j+1:Nat) : Int)=c.lo+(j:Int)+1:=by omega
    dsimp only
    rw [hsj,← List.append_assoc,e9]
    push_cast
    exact wRen
  · intro h1; replace h1:=wHb h1
    have hal:=hall j (by rw [hdl]; omega)
    rw [hG] at hal
    rw [← hal]
    refine wEx ?_
    refine awp_seq ?_
    refine wRg ?_
    refine wRet ?_
    exact ⟨rfl,ys,[],hys,rfl⟩
end Go.Aw
