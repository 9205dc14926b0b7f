/-
  Texts of the library,one behind the other. Over any program; no condition.
-/
import Derived.Test.YtlimahhonfckdaaGreatDoorRuB
import Derived.Test.YtlimahhonfckdaaGreatDoorRuA
import Derived.Test.YtlimahhonfckdaaGreatDoorRuD
namespace Go.Aw
set_option linter.unusedSimpArgs false
set_option linter.unusedVariables false

def leV (v w:Nat) : Prop:=v=2∨v=w
theorem ntV_mono {v w:Nat} (h:leV v w) : leV (ntV v) (ntV w):=by
  rcases h with rfl | rfl
  · exact .inl rfl
  · exact .inr rfl
theorem bothV_mono {v w v' w':Nat} (h:leV v v') (h':leV w w') : leV (bothV v w) (bothV v' w'):=by
  rcases h with rfl | rfl <;> rcases h' with rfl | rfl
  · exact .inl rfl
  · by_cases h0:w=0
    · exact .inr (by simp [bothV,h0])
    · exact .inl (by simp [bothV,h0])
  · by_cases h0:v=0
    · exact .inr (by simp [bothV,h0])
    · exact .inl (by simp [bothV,h0])
  · exact .inr rfl
theorem eithV_mono {v w v' w':Nat} (h:leV v v') (h':leV w w') : leV (eithV v w) (eithV v' w'):=ntV_mono (bothV_mono (ntV_mono h) (ntV_mono h'))
theorem allS_mono {g h:Nat→Nat} (e:∀ j,leV (g j) (h j)) : ∀ k:Nat,leV (allS g k) (allS h k)
  | 0=>.inr rfl
  | k+1=>bothV_mono (allS_mono e k) (e k)
theorem anyS_mono {g h:Nat→Nat} (e:∀ j,leV (g j) (h j)) : ∀ k:Nat,leV (anyS g k) (anyS h k)
  | 0=>.inr rfl
  | k+1=>eithV_mono (anyS_mono e k) (e k)
theorem untS_mono {a b a' b':Nat→Nat} {lo:Nat} (ea:∀ j,leV (a j) (a' j)) (eb:∀ j,leV (b j) (b' j)) : ∀ k:Nat,leV (untS a b lo k).1 (untS a' b' lo k).1∧leV (untS a b lo k).2 (untS a' b' lo k).2
  | 0=>⟨.inr rfl,.inr rfl⟩
  | k+1=>by
    obtain ⟨h1,h2⟩:=untS_mono (lo:=lo) ea eb k
    simp only [untS]
    refine ⟨bothV_mono h1 (ea k),?_⟩
    split
    · exact eithV_mono h2 (bothV_mono h1 (eb k))
    · exact h2
theorem lessV_mono (n:Nd) (T S:List (List Int)) (i:Nat) : leV (lessV n T i) (lessV n (T++S) i):=by
  rcases Nat.lt_or_ge i T.length with h | h
  · refine .inr ?_
    unfold lessV
    rw [List.getElem?_append_left h]
  · refine .inl ?_
    unfold lessV
    rw [List.getElem?_eq_none h]
theorem vd_mono:∀ (t:Fm) (T S:List (List Int)) (i:Nat),leV (vd t T i) (vd t (T++S) i)
  | .z n,T,S,i=>by
    simp only [vd]
    split
    · exact .inr rfl
    · exact lessV_mono n T S i
  | .u n a,T,S,i=>by
    simp only [vd]
    split
    · exact ntV_mono (vd_mono a T S i)
    · split
      · exact allS_mono (fun j=>vd_mono a T S _) _
      · exact anyS_mono (fun j=>vd_mono a T S _) _
  | .b n a b,T,S,i=>by
    simp only [vd]
    split
    · exact bothV_mono (vd_mono a T S i) (vd_mono b T S i)
    · split
      · exact eithV_mono (vd_mono a T S i) (vd_mono b T S i)
      · exact (untS_mono (fun j=>vd_mono a T S _) (fun j=>vd_mono b T S _) _).2
theorem vd_take {t:Fm} {T:List (List Int)} {i n m:Nat} (h:n≤m) (hv:vd t (T.take n) i≠2) : vd t (T.take m) i=vd t (T.take n) i:=by
  have e:T.take m=T.take n++(T.take m).drop n:=by
    have:=List.take_append_drop n (T.take m)
    rw [List.take_take,Nat.min_eq_left h] at this
    exact this.symm
  rcases vd_mono t (T.take n) ((T.take m).drop n) i with h1 | h1
  · exact absurd h1 hv
  · rw [e,← h1]

theorem ntV_ne {v:Nat} (h:v≠2) : ntV v≠2:=by unfold ntV; rw [if_neg h]; omega
theorem bothV_ne {v w:Nat} (h:v≠2) (h':w≠2) : bothV v w≠2:=by
  unfold bothV
  split
  · omega
  · rw [if_neg (by omega)]; omega
theorem eithV_ne {v w:Nat} (h:v≠2) (h':w≠2) : eithV v w≠2:=ntV_ne (bothV_ne (ntV_ne h) (ntV_ne h'))
theorem allS_ne {g:Nat→Nat} : ∀ {k:Nat},(∀ j,j<k→g j≠2)→allS g k≠2
  | 0,_=>by simp [allS]
  | k+1,e=>bothV_ne (allS_ne fun j hj=>e j (by omega)) (e k (by omega))
theorem anyS_ne {g:Nat→Nat} : ∀ {k:Nat},(∀ j,j<k→g j≠2)→anyS g k≠2
  | 0,_=>by simp [anyS]
  | k+1,e=>eithV_ne (anyS_ne fun j hj=>e j (by omega)) (e k (by omega))
theorem untS_ne1 {a b:Nat→Nat} {lo:Nat} : ∀ {k:Nat},(∀ j,j<k→a j≠2)→(untS a b lo k).1≠2
  | 0,_=>by simp [untS]
  | k+1,e=>bothV_ne (untS_ne1 fun j hj=>e j (by omega)) (e k (by omega))
theorem untS_ne2 {a b:Nat→Nat} {lo:Nat} : ∀ {k:Nat},(∀ j,j+1<k→a j≠2)→(∀ j,j<k→b j≠2)→(untS a b lo k).2≠2
  | 0,_,_=>by simp [untS]
  | k+1,ea,eb=>by
    have h2:=untS_ne2 (lo:=lo) (k:=k) (fun j hj=>ea j (by omega)) fun j hj=>eb j (by omega)
    simp only [untS]
    split
    · exact eithV_ne h2 (bothV_ne (untS_ne1 fun j hj=>ea j (by omega)) (eb k (by omega)))
    · exact h2
theorem vd_dec:∀ (t:Fm) (T:List (List Int)) (i:Nat),t.wf→(∀ n,n∈t.flat→okN n)→(i:Int)+t.hz<T.length→vd t T i≠2
  | .z n,T,i,_,_,h=>by
    simp only [Fm.hz] at h
    simp only [vd]
    split
    · omega
    · unfold lessV
      rw [List.getElem?_eq_getElem (by omega)]
      dsimp only
      split <;> split <;> omega
  | .u n a,T,i,hw,ho,h=>by
    have hoa:∀ m,m∈a.flat→okN m:=fun m hm=>ho m (by simp [Fm.flat,hm])
    obtain ⟨h1,h2,h3,h4,h5⟩:=ho n (by simp [Fm.flat])
    have ha:=fun i=>vd_dec a T i hw.2 hoa
    have hb:=(hz_bd a hw.2 hoa).1
    simp only [Fm.hz] at h
    simp only [vd]
    split
    · rename_i e
      have:=h5 (by omega) (by omega) (by omega)
      exact ntV_ne (ha i (by omega))
    · split
      · exact allS_ne fun j hj=>ha _ (by omega)
      · exact anyS_ne fun j hj=>ha _ (by omega)
  | .b n a b,T,i,hw,ho,h=>by
    have hoa:∀ m,m∈a.flat→okN m:=fun m hm=>ho m (by simp [Fm.flat,hm])
    have hob:∀ m,m∈b.flat→okN m:=fun m hm=>ho m (by simp [Fm.flat,hm])
    obtain ⟨h1,h2,h3,h4,h5⟩:=ho n (by simp [Fm.flat])
    have ha:=fun i=>vd_dec a T i hw.2.1 hoa
    have hb:=fun i=>vd_dec b T i hw.2.2 hob
    have hza:=(hz_bd a hw.2.1 hoa).1
    have hzb:=(hz_bd b hw.2.2 hob).1
    have hw1:=hw.1
    simp only [Fm.hz] at h
    simp only [vd]
    split
    · rw [if_neg (by omega)] at h
      exact bothV_ne (ha i (by omega)) (hb i (by omega))
    · split
      · rw [if_neg (by omega)] at h
        exact eithV_ne (ha i (by omega)) (hb i (by omega))
      · rw [if_pos (by omega)] at h
        refine untS_ne2 (fun j hj=>ha _ ?_) fun j hj=>hb _ ?_
        · rw [if_pos (by omega)] at h
          omega
        · split at h <;> omega
end Go.Aw

namespace Go.Aw
set_option linter.unusedSimpArgs false
set_option linter.unusedVariables false

def nx (l:List Int) (k:Nat) : Nat:=min l.length (k+1)
theorem nx_le (l:List Int) (k:Nat) : nx l k≤l.length:=Nat.min_le_left _ _
theorem nextV_bd (l:List Int) (k:Nat) {n:Int} (h:1≤n) : 0≤nextV l k n∧nextV l k n<n:=by
  unfold nextV
  split
  · exact ⟨Int.emod_nonneg _ (by omega),Int.emod_lt_of_pos _ (by omega)⟩
  · omega
def lessT (l:List Int) (w:Int) (k:Nat) : Fm × Nat :=
  (.z ⟨2,nextV l k w,nextV l (nx l k) (w+1) - 1,nextV l (nx l (nx l k)) 9 - 3,0,0⟩,nx l (nx l (nx l k)))
def partT (l:List Int) (w most:Int) : Nat→Nat→Fm × Nat
  | 0,k=>lessT l w (nx l k)
  | d+1,k =>
    if 7<nextV l k 11∨nextV l k 11=2 then lessT l w (nx l k)
    else if nextV l k 11=0∨nextV l k 11=1 then (.z ⟨1,0,0,0,0,0⟩,nx l k)
    else if nextV l k 11=3 then (.u ⟨3,0,0,0,0,0⟩ (partT l w most d (nx l k)).1,(partT l w most d (nx l k)).2)
    else if nextV l k 11=4∨nextV l k 11=5 then
      (.b ⟨nextV l k 11,0,0,0,0,0⟩ (partT l w most d (nx l k)).1 (partT l w most d (partT l w most d (nx l k)).2).1,(partT l w most d (partT l w most d (nx l k)).2).2)
    else if nextV l k 11=7∧nextV l (nx l (nx l (nx l k))) 2=1 then
      (.b ⟨8,0,0,0,nextV l (nx l (nx l k)) (nextV l (nx l k) (most+1)+1),nextV l (nx l k) (most+1)⟩ (partT l w most d (nx l (nx l (nx l (nx l k))))).1 (partT l w most d (partT l w most d (nx l (nx l (nx l (nx l k))))).2).1,
        (partT l w most d (partT l w most d (nx l (nx l (nx l (nx l k))))).2).2)
    else
      (.u ⟨nextV l k 11,0,0,0,nextV l (nx l (nx l k)) (nextV l (nx l k) (most+1)+1),nextV l (nx l k) (most+1)⟩ (partT l w most d (if nextV l k 11=7 then nx l (nx l (nx l (nx l k))) else nx l (nx l (nx l k)))).1,
        (partT l w most d (if nextV l k 11=7 then nx l (nx l (nx l (nx l k))) else nx l (nx l (nx l k)))).2)
structure FmW (w:Int) (most:Int) (d:Nat) (t:Fm) : Prop where
  wf:t.wf
  nodes:∀ n,n∈t.flat→nodeE n w=0
  len:t.flat.length+1≤2 ^ (d+1)
  hz:t.hz≤most*d
theorem two_pos (d:Nat) : 2≤2 ^ (d+1):=by
  rw [Nat.pow_succ]
  have:=Nat.two_pow_pos d
  omega
theorem less_W (l:List Int) {w most:Int} (k d:Nat) (hw:1≤w∧w≤12) (hm:0≤most) : FmW w most d (lessT l w k).1:=by
  have h1:=nextV_bd l k hw.1
  have h2:=nextV_bd l (nx l k) (n:=w+1) (by omega)
  have h3:=nextV_bd l (nx l (nx l k)) (n:=9) (by omega)
  unfold lessT
  generalize nextV l k w=a at *
  generalize nextV l (nx l k) (w+1)=b at *
  generalize nextV l (nx l (nx l k)) 9=c at *
  refine ⟨.inr rfl,?_,two_pos d,Int.mul_nonneg hm (Int.natCast_nonneg d)⟩
  intro n hn
  simp only [Fm.flat,List.mem_singleton] at hn
  subst hn
  simp [nodeE,bare,fairN]
  omega
theorem node_bare {op:Int} {w:Int} (h:op=1∨op=3∨op=4∨op=5) : nodeE ⟨op,0,0,0,0,0⟩ w=0:=by
  rcases h with rfl | rfl | rfl | rfl <;> simp [nodeE,bare,fairN]
theorem node_span {op lo hi:Int} {w:Int} (h:op=6∨op=7∨op=8) (h1:0≤lo∧lo≤hi∧hi≤20) : nodeE ⟨op,0,0,0,lo,hi⟩ w=0:=by
  rcases h with rfl | rfl | rfl <;> simp [nodeE,bare,fairN] <;> omega
theorem FmW.uu {w most:Int} {d:Nat} {n:Nd} {a:Fm} (h:FmW w most d a) (hop:n.op=3∨n.op=6∨n.op=7) (hn:nodeE n w=0) (hh:n.hi≤most) : FmW w most (d+1) (.u n a):=by
  refine ⟨⟨hop,h.wf⟩,fun m hm => ?_,?_,?_⟩
  · rcases List.mem_cons.1 hm with rfl | hm
    · exact hn
    · exact h.nodes m hm
  · have:=h.len
    simp only [Fm.flat,List.length_cons]
    rw [Nat.pow_succ]
    have:=two_pos d
    omega
  · have:=h.hz
    simp only [Fm.hz]
    push_cast
    rw [Int.mul_add]
    omega
theorem FmW.bb {w most:Int} {d:Nat} {n:Nd} {a b:Fm} (ha:FmW w most d a) (hb:FmW w most d b) (hop:n.op=4∨n.op=5∨n.op=8) (hn:nodeE n w=0) (hh:n.hi≤most) (h0:0≤n.hi) : FmW w most (d+1) (.b n a b):=by
  refine ⟨⟨hop,ha.wf,hb.wf⟩,fun m hm => ?_,?_,?_⟩
  · rcases List.mem_cons.1 hm with rfl | hm
    · exact hn
    · rcases List.mem_append.1 hm with hm | hm
      · exact ha.nodes m hm
      · exact hb.nodes m hm
  · have:=ha.len
    have:=hb.len
    simp only [Fm.flat,List.length_cons,List.length_append]
    rw [Nat.pow_succ]
    omega
  · have:=ha.hz
    have:=hb.hz
    simp only [Fm.hz]
    push_cast
    rw [Int.mul_add]
    split
    · split <;> omega
    · omega
theorem part_W (l:List Int) {w most:Int} (hw:1≤w∧w≤12) (hm:0≤most∧most≤20) : ∀ (d k:Nat),FmW w most d (partT l w most d k).1
  | 0,k=>less_W l _ 0 hw hm.1
  | d+1,k=>by
    have ih:=part_W l hw hm d
    have h1:=nextV_bd l k (n:=11) (by omega)
    have h2:=nextV_bd l (nx l k) (n:=most+1) (by omega)
    have h3:=nextV_bd l (nx l (nx l k)) (n:=nextV l (nx l k) (most+1)+1) (by omega)
    rw [partT]
    generalize nextV l k 11=op at *
    generalize nextV l (nx l k) (most+1)=hi at *
    generalize nextV l (nx l (nx l k)) (hi+1)=lo at *
    split
    · exact less_W l _ _ hw hm.1
    · split
      · exact ⟨.inl rfl,fun n hn=>by
          simp only [Fm.flat,List.mem_singleton] at hn
          subst hn
          exact node_bare (.inl rfl),two_pos _,Int.mul_nonneg hm.1 (Int.natCast_nonneg _)⟩
      · split
        · exact (ih _).uu (.inl rfl) (node_bare (.inr (.inl rfl))) hm.1
        · split
          · rename_i e
            exact (ih _).bb (ih _) (by show op=4∨op=5∨op=8; omega) (node_bare (by omega)) hm.1 (Int.le_refl _)
          · split
            · exact (ih _).bb (ih _) (.inr (.inr rfl)) (node_span (.inr (.inr rfl)) (by omega)) (by show hi≤most; omega) (by show 0≤hi; omega)
            · exact (ih _).uu (by show op=3∨op=6∨op=7; omega) (node_span (by omega) (by omega)) (by show hi≤most; omega)
def rowT:Nat→Int→List Int
  | 0,_=>[]
  | w+1,n=>(n % 10 - 3)::rowT w (n / 10)
def traceT (l:List Int) (w most:Nat) : List (List Int):=(l.take most).map fun x=>rowT w (x % 1073741824)
theorem rowT_len:∀ (w:Nat) (n:Int),(rowT w n).length=w
  | 0,_=>rfl
  | w+1,n=>by simp [rowT,rowT_len w]
theorem rowT_in:∀ (w:Nat) (n:Int) (x:Int),x∈rowT w n → -3≤x∧x≤6
  | 0,_,x,h=>by simp [rowT] at h
  | w+1,n,x,h=>by
    rcases List.mem_cons.1 h with rfl | h
    · omega
    · exact rowT_in w _ x h
theorem rowsE_none {w:Int} : ∀ {t:List (List Int)},(∀ r,r∈t→rowE w r=0)→rowsE w t=0
  | [],_=>rfl
  | r::t,h=>by rw [rowsE,if_pos (h r (by simp)),rowsE_none fun m hm=>h m (by simp [hm])]
theorem tr_of {t:List (List Int)} {w:Int} (hw:1≤w∧w≤12) (hl:t.length≤400) (hr:∀ r,r∈t→(r.length:Int)=w∧∀ x,x∈r→inV x=true) : trE t w=0:=by
  unfold trE
  rw [if_neg (by omega),if_neg (by omega)]
  refine rowsE_none fun r h => ?_
  obtain ⟨h1,h2⟩:=hr r h
  unfold rowE
  rw [if_neg (by simpa using h1),if_pos (by simpa [List.all_eq_true] using h2)]
theorem trace_rows {l:List Int} {w most:Nat} : ∀ r,r∈traceT l w most→r.length=w∧∀ x,x∈r→inV x=true:=by
  intro r hr
  obtain ⟨x,_,rfl⟩:=List.mem_map.1 hr
  refine ⟨rowT_len _ _,fun y hy => ?_⟩
  have:=rowT_in _ _ y hy
  simp only [inV,decide_eq_true_eq]
  omega
theorem trace_len (l:List Int) (w most:Nat) : (traceT l w most).length≤most:=by
  simp only [traceT,List.length_map,List.length_take]
  omega
end Go.Aw
