/-
  Texts of the library,one behind the other. Over any program; no condition.
-/
import Derived.Test.YtlimahhonfckdaaGreatDoorRuB
import Derived.Test.YtlimahhonfckdaaGreatDoorRuA
import Derived.Test.YtlimahhonfckdaaGreatDoorRuD
namespace Go.Aw
set_option linter.unusedSimpArgs false
set_option linter.unusedVariables false

theorem ntV_ne {v:Nat} (h:v≠2) : ntV v≠2:=by unfold ntV; rw [if_neg h]; omega
theorem bothV_ne {v w:Nat} (h:v≠2) (h':w≠2) : bothV v w≠2:=by
  unfold bothV
  split
  · omega
  · rw [if_neg (by omega)]; omega
theorem eithV_ne {v w:Nat} (h:v≠2) (h':w≠2) : eithV v w≠2:=ntV_ne (bothV_ne (ntV_ne h) (ntV_ne h'))
theorem allS_ne {g:Nat→Nat} : ∀ {k:Nat},(∀ j,j<k→g j≠2)→allS g k≠2
  | 0,_=>by simp [allS]
  | k+1,e=>bothV_ne (allS_ne fun j hj=>e j (by omega)) (e k (by omega))
theorem anyS_ne {g:Nat→Nat} : ∀ {k:Nat},(∀ j,j<k→g j≠2)→anyS g k≠2
  | 0,_=>by simp [anyS]
  | k+1,e=>eithV_ne (anyS_ne fun j hj=>e j (by omega)) (e k (by omega))
theorem untS_ne1 {a b:Nat→Nat} {lo:Nat} : ∀ {k:Nat},(∀ j,j<k→a j≠2)→(untS a b lo k).1≠2
  | 0,_=>by simp [untS]
  | k+1,e=>bothV_ne (untS_ne1 fun j hj=>e j (by omega)) (e k (by omega))
theorem untS_ne2 {a b:Nat→Nat} {lo:Nat} : ∀ {k:Nat},(∀ j,j+1<k→a j≠2)→(∀ j,j<k→b j≠2)→(untS a b lo k).2≠2
  | 0,_,_=>by simp [untS]
  | k+1,ea,eb=>by
    have h2:=untS_ne2 (lo:=lo) (k:=k) (fun j hj=>ea j (by omega)) fun j hj=>eb j (by omega)
    simp only [untS]
    split
    · exact eithV_ne h2 (bothV_ne (untS_ne1 fun j hj=>ea j (by omega)) (eb k (by omega)))
    · exact h2
theorem vd_dec:∀ (t:Fm) (T:List (List Int)) (i:Nat),t.wf→(∀ n,n∈t.flat→okN n)→(i:Int)+t.hz<T.length→vd t T i≠2
  | .z n,T,i,_,_,h=>by
    simp only [Fm.hz] at h
    simp only [vd]
    split
    · omega
    · unfold lessV
      rw [List.getElem?_eq_getElem (by omega)]
      dsimp only
      split <;> split <;> omega
  | .u n a,T,i,hw,ho,h=>by
    have hoa:∀ m,m∈a.flat→okN m:=fun m hm=>ho m (by simp [Fm.flat,hm])
    obtain ⟨h1,h2,h3,h4,h5⟩:=ho n (by simp [Fm.flat])
    have ha:=fun i=>vd_dec a T i hw.2 hoa
    have hb:=(hz_bd a hw.2 hoa).1
    simp only [Fm.hz] at h
    simp only [vd]
    split
    · rename_i e
      have:=h5 (by omega) (by omega) (by omega)
      exact ntV_ne (ha i (by omega))
    · split
      · exact allS_ne fun j hj=>ha _ (by omega)
      · exact anyS_ne fun j hj=>ha _ (by omega)
  | .b n a b,T,i,hw,ho,h=>by
    have hoa:∀ m,m∈a.flat→okN m:=fun m hm=>ho m (by simp [Fm.flat,hm])
    have hob:∀ m,m∈b.flat→okN m:=fun m hm=>ho m (by simp [Fm.flat,hm])
    obtain ⟨h1,h2,h3,h4,h5⟩:=ho n (by simp [Fm.flat])
    have ha:=fun i=>vd_dec a T i hw.2.1 hoa
    have hb:=fun i=>vd_dec b T i hw.2.2 hob
    have hza:=(hz_bd a hw.2.1 hoa).1
    have hzb:=(hz_bd b hw.2.2 hob).1
    have hw1:=hw.1
    simp only [Fm.hz] at h
    simp only [vd]
    split
    · rw [if_neg (by omega)] at h
      exact bothV_ne (ha i (by omega)) (hb i (by omega))
    · split
      · rw [if_neg (by omega)] at h
        exact eithV_ne (ha i (by omega)) (hb i (by omega))
      · rw [if_pos (by omega)] at h
        refine untS_ne2 (fun j hj=>ha _ ?_) fun j hj=>hb _ ?_
        · rw [if_pos (by omega)] at h
          omega
        · split at h <;> omega
end Go.Aw

namespace Go.Aw
set_option linter.unusedSimpArgs false
set_option linter.unusedVariables false

def nx (l:List Int) (k:Nat) : Nat:=min l.length (k+1)
structure FmW (w:Int) (most:Int) (d:Nat) (t:Fm) : Prop where
  wf:t.wf
  nodes:∀ n,n∈t.flat→nodeE n w=0
  len:t.flat.length+1≤2 ^ (d+1)
  hz:t.hz≤most*d
theorem two_pos (d:Nat) : 2≤2 ^ (d+1):=by
  rw [Nat.pow_succ]
  have:=Nat.two_pow_pos d
  omega
theorem FmW.uu {w most:Int} {d:Nat} {n:Nd} {a:Fm} (h:FmW w most d a) (hop:n.op=3∨n.op=6∨n.op=7) (hn:nodeE n w=0) (hh:n.hi≤most) : FmW w most (d+1) (.u n a):=by
  refine ⟨⟨hop,h.wf⟩,fun m hm => ?_,?_,?_⟩
  · rcases List.mem_cons.1 hm with rfl | hm
    · exact hn
    · exact h.nodes m hm
  · have:=h.len
    simp only [Fm.flat,List.length_cons]
    rw [Nat.pow_succ]
    have:=two_pos d
    omega
  · have:=h.hz
    simp only [Fm.hz]
    push_cast
    rw [Int.mul_add]
    omega
theorem FmW.bb {w most:Int} {d:Nat} {n:Nd} {a b:Fm} (ha:FmW w most d a) (hb:FmW w most d b) (hop:n.op=4∨n.op=5∨n.op=8) (hn:nodeE n w=0) (hh:n.hi≤most) (h0:0≤n.hi) : FmW w most (d+1) (.b n a b):=by
  refine ⟨⟨hop,ha.wf,hb.wf⟩,fun m hm => ?_,?_,?_⟩
  · rcases List.mem_cons.1 hm with rfl | hm
    · exact hn
    · rcases List.mem_append.1 hm with hm | hm
      · exact ha.nodes m hm
      · exact hb.nodes m hm
  · have:=ha.len
    have:=hb.len
    simp only [Fm.flat,List.length_cons,List.length_append]
    rw [Nat.pow_succ]
    omega
  · have:=ha.hz
    have:=hb.hz
    simp only [Fm.hz]
    push_cast
    rw [Int.mul_add]
    split
    · split <;> omega
    · omega
theorem rowsE_none {w:Int} : ∀ {t:List (List Int)},(∀ r,r∈t→rowE w r=0)→rowsE w t=0
  | [],_=>rfl
  | r::t,h=>by rw [rowsE,if_pos (h r (by simp)),rowsE_none fun m hm=>h m (by simp [hm])]
theorem tr_of {t:List (List Int)} {w:Int} (hw:1≤w∧w≤12) (hl:t.length≤400) (hr:∀ r,r∈t→(r.length:Int)=w∧∀ x,x∈r→inV x=true) : trE t w=0:=by
  unfold trE
  rw [if_neg (by omega),if_neg (by omega)]
  refine rowsE_none fun r h => ?_
  obtain ⟨h1,h2⟩:=hr r h
  unfold rowE
  rw [if_neg (by simpa using h1),if_pos (by simpa [List.all_eq_true] using h2)]
end Go.Aw
