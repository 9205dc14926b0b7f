/-
  Texts of the library,one behind the other. Over any program; no condition.
-/
import Derived.Test.YtlimahhonfckdaaGreatDoorRuI
import Derived.Test.YtlimahhonfckdaaGreatDoorRuA
import Derived.Test.YtlimahhonfckdaaGreatDoorRuB
namespace Go.Aw
set_option linter.unusedSimpArgs false
set_option linter.unusedVariables false

def opN (t:Fm) (T:List (List Int)) : List Nat:=(List.range T.length).filter fun i=>decide (vd t T i=2)
def openL (t:Fm) (T:List (List Int)) (fr:Int) : List Int:=(opN t T).map fun (i:Nat)=>fr+(i:Int)
theorem opN_lt {t:Fm} {T:List (List Int)} {i:Nat} (h:i∈opN t T) : i<T.length∧vd t T i=2:=by
  simpa [opN] using h
theorem openL_len (t:Fm) (T:List (List Int)) (fr:Int) : (openL t T fr).length≤T.length:=by
  rw [openL,List.length_map,opN]
  exact Nat.le_trans (List.length_filter_le _ _) (by simp)
structure Wt where
  nodes:List Nd
  width:Int
  fr:Int
  rows:List (List Int)
  opn:List Int
def cwE (w:Wt) (t:Fm) : Int:=if chkE w.nodes w.width t≠0 then chkE w.nodes w.width t else if trE w.rows w.width≠0 then trE w.rows w.width else
  if w.fr<0∨1099511627776<w.fr then 2 else if openL t w.rows w.fr≠w.opn∨(w.rows≠[]∧w.opn.head? ≠ some w.fr) then 10 else 0
def askL (w:Wt) : List Int:=w.opn++[w.fr+(w.rows.length:Int)]
def stillL (t:Fm) (w:Wt) (row:List Int) : List Int:=(askL w).filter fun x=>decide (vd t (w.rows++[row]) (x - w.fr).toNat=2)
def saidL (t:Fm) (w:Wt) (row:List Int) : List (Int × Bool):=((askL w).filter fun x=>decide (vd t (w.rows++[row]) (x - w.fr).toNat≠2)).map fun x=>(x,decide (vd t (w.rows++[row]) (x - w.fr).toNat=1))
def pushW (t:Fm) (w:Wt) (row:List Int) : Wt:=match stillL t w row with
  | []=>⟨w.nodes,w.width,w.fr+(w.rows.length:Int)+1,[],[]⟩
  | x::l=>⟨w.nodes,w.width,x,(w.rows++[row]).drop (x - w.fr).toNat,x::l⟩
def pushE (t:Fm) (w:Wt) (row:List Int) : Int:=if cwE w t≠0 then cwE w t else if trE [row] w.width≠0 then trE [row] w.width else if 1099511627776≤w.fr+(w.rows.length:Int) then 8 else 0

end Go.Aw

namespace Go.Aw
set_option linter.unusedSimpArgs false
set_option linter.unusedVariables false

structure Lw where
  rank:Int
  nodes:List Nd
  tree:Fm
def encLw (l:Lw) : List D:=[.int .i64 l.rank,.sl (l.nodes.map encNd)]
def lwE (l:Lw) (w:Int) : Int:=if l.rank<0∨9<l.rank then 2 else chkE l.nodes w l.tree
def lwsE (w:Int) : List Lw→Int
  | []=>0
  | l::b=>if lwE l w=0 then lwsE w b else lwE l w
def bkE (b:List Lw) (w:Int) : Int:=if 8<b.length then 8 else if lwsE w b≠0 then lwsE w b else if w<1∨12<w then 2 else 0
theorem lwsE_drop {w:Int} : ∀ {b:List Lw} {i:Nat},(∀ l,l∈b.take i→lwE l w=0)→lwsE w b=lwsE w (b.drop i)
  | f,0,_=>by rw [List.drop_zero]
  | [],i+1,_=>by rw [List.drop_nil]
  | n::l,i+1,h=>by
    rw [List.drop_succ_cons,← lwsE_drop (b:=l) (i:=i) fun m hm=>h m (by simp [hm]),lwsE,if_pos (h n (by simp))]
theorem lwsE_all {w:Int} : ∀ {b:List Lw},lwsE w b=0→∀ l,l∈b→lwE l w=0
  | [],_,l,hl=>by cases hl
  | m::b,h,l,hl=>by
    rw [lwsE] at h
    split at h
    · rename_i h1
      rcases List.mem_cons.1 hl with rfl | hl
      · exact h1
      · exact lwsE_all h l hl
    · rename_i h1
      exact absurd h h1
theorem lwsE_none {w:Int} : ∀ {b:List Lw},(∀ l,l∈b→lwE l w=0)→lwsE w b=0
  | [],_=>rfl
  | l::b,h=>by rw [lwsE,if_pos (h l (by simp)),lwsE_none fun m hm=>h m (by simp [hm])]
def cntV (t:Fm) (T:List (List Int)) (k:Nat) : Nat:=((List.range k).filter fun i=>decide (vd t T i=0)).length
theorem cntV_zero (t:Fm) (T:List (List Int)) : cntV t T 0=0:=rfl
theorem cntV_le (t:Fm) (T:List (List Int)) (k:Nat) : cntV t T k≤k:=Nat.le_trans (List.length_filter_le _ _) (by simp)
theorem cntV_step (t:Fm) (T:List (List Int)) (k:Nat) : cntV t T (k+1)=cntV t T k+if vd t T k=0 then 1 else 0:=by
  rw [cntV,List.range_succ,List.filter_append,List.length_append]
  congr 1
  by_cases h:vd t T k=0 <;> simp [h]
def addC (c:List Int) (r:Nat) (k:Nat) : List Int:=c.set r (c.getD r 0+(k:Int))
def costL (T:List (List Int)) : List Lw→List Int→List Int
  | [],c=>c
  | l::b,c=>costL T b (addC c l.rank.toNat (cntV l.tree T T.length))
def costV (b:List Lw) (T:List (List Int)) : List Int:=costL T b (List.replicate 10 0)
theorem costL_take (T:List (List Int)) : ∀ (b:List Lw) (i:Nat) (l:Lw) (c:List Int),b[i]? = some l→costL T (b.take (i+1)) c=addC (costL T (b.take i) c) l.rank.toNat (cntV l.tree T T.length)
  | [],i,l,c,h=>by simp at h
  | m::b,0,l,c,h=>by
    simp only [List.getElem?_cons_zero,Option.some.injEq] at h
    subst h
    rfl
  | m::b,i+1,l,c,h=>by
    rw [List.take_succ_cons,List.take_succ_cons,costL,costL,costL_take T b i l _ (by simpa using h)]
theorem addC_len (c:List Int) (r k:Nat) : (addC c r k).length=c.length:=by simp [addC]
theorem costL_len (T:List (List Int)) : ∀ (b:List Lw) (c:List Int),(costL T b c).length=c.length
  | [],c=>rfl
  | l::b,c=>by rw [costL,costL_len T b,addC_len]
theorem costV_len (b:List Lw) (T:List (List Int)) : (costV b T).length=10:=by rw [costV,costL_len]; rfl
theorem addC_bd {c:List Int} {r k:Nat} {M N:Int} (hc:∀ x,x∈c→0≤x∧x≤M) (hk:(k:Int)≤N) (hM:0≤M) (hN:0≤N) : ∀ x,x∈addC c r k→0≤x∧x≤M+N:=by
  intro x hx
  rcases List.mem_or_eq_of_mem_set hx with hx | rfl
  · have:=hc x hx
    omega
  · rw [List.getD_eq_getElem?_getD]
    cases h:c[r]? with
    | none=>simp; omega
    | some y =>
      have:=hc y (List.mem_of_getElem? h)
      simp
      omega
theorem costL_bd {T:List (List Int)} {N:Int} (hT:(T.length:Int)≤N) : ∀ (b:List Lw) (c:List Int) (M:Int),0≤M→(∀ x,x∈c→0≤x∧x≤M)→∀ x,x∈costL T b c→0≤x∧x≤M+N*b.length
  | [],c,M,_,h,x,hx=>by
    have:=h x hx
    simp
    exact this
  | l::b,c,M,hM,h,x,hx=>by
    have hN:0≤N:=by omega
    have h2:=cntV_le l.tree T T.length
    have:=costL_bd hT b _ (M+N) (by omega) (addC_bd h (by omega) hM hN) x hx
    rw [List.length_cons]
    push_cast
    rw [Int.mul_add]
    omega
def cmpL:List Int→List Int→Int
  | x::l,y::m=>if x<y then -1 else if y<x then 1 else cmpL l m
  | _,_=>0
theorem cmpL_zero:∀ {a b:List Int},a.length=b.length→(cmpL a b=0↔a=b)
  | [],[],_=>by simp [cmpL]
  | [],_::_,h=>by simp at h
  | _::_,[],h=>by simp at h
  | x::l,y::m,h=>by
    have:=cmpL_zero (a:=l) (b:=m) (by simpa using h)
    simp only [cmpL,List.cons.injEq]
    split
    · constructor
      · intro h1; omega
      · rintro ⟨h1,_⟩; omega
    · split
      · constructor
        · intro h1; omega
        · rintro ⟨h1,_⟩; omega
      · rw [this]
        constructor
        · intro h1; exact ⟨by omega,h1⟩
        · exact fun h1=>h1.2
theorem cmpL_drop:∀ {a b:List Int} {i:Nat},(∀ j,j<i→a[j]? = b[j]?)→cmpL a b=cmpL (a.drop i) (b.drop i)
  | a,b,0,_=>by rw [List.drop_zero,List.drop_zero]
  | [],b,i+1,_=>by simp [cmpL]
  | x::l,[],i+1,_=>by simp [cmpL]
  | x::l,y::m,i+1,h=>by
    have h0:=h 0 (by omega)
    simp at h0
    subst h0
    rw [List.drop_succ_cons,List.drop_succ_cons,← cmpL_drop (a:=l) (b:=m) (i:=i) fun j hj=>by simpa using h (j+1) (by omega),cmpL,if_neg (by omega),if_neg (by omega)]
end Go.Aw
