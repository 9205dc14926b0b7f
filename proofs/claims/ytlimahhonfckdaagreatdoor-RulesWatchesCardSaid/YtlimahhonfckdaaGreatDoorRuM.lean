/-
  Texts of the library,one behind the other. Over any program; no condition.
-/
import Derived.Test.YtlimahhonfckdaaGreatDoorRuI
import Derived.Test.YtlimahhonfckdaaGreatDoorRuA
import Derived.Test.YtlimahhonfckdaaGreatDoorRuB
namespace Go.Aw
set_option linter.unusedSimpArgs false
set_option linter.unusedVariables false

theorem vd_drop:∀ (t:Fm) (T:List (List Int)) (k i:Nat),vd t (T.drop k) i=vd t T (k+i)
  | .z n,T,k,i=>by simp only [vd,lessV,List.getElem?_drop]
  | .u n a,T,k,i=>by
    have e:∀ j,vd a (T.drop k) (i+n.lo.toNat+j)=vd a T (k+i+n.lo.toNat+j):=fun j=>by
      rw [vd_drop a T k]
      congr 1
      omega
    simp only [vd,vd_drop a T k i,e]
  | .b n a b,T,k,i=>by
    have e1:∀ j,vd a (T.drop k) (i+j)=vd a T (k+i+j):=fun j=>by rw [vd_drop a T k,Nat.add_assoc]
    have e2:∀ j,vd b (T.drop k) (i+j)=vd b T (k+i+j):=fun j=>by rw [vd_drop b T k,Nat.add_assoc]
    simp only [vd,vd_drop a T k i,vd_drop b T k i,e1,e2]
def opN (t:Fm) (T:List (List Int)) : List Nat:=(List.range T.length).filter fun i=>decide (vd t T i=2)
def openL (t:Fm) (T:List (List Int)) (fr:Int) : List Int:=(opN t T).map fun (i:Nat)=>fr+(i:Int)
theorem opN_lt {t:Fm} {T:List (List Int)} {i:Nat} (h:i∈opN t T) : i<T.length∧vd t T i=2:=by
  simpa [opN] using h
theorem openL_len (t:Fm) (T:List (List Int)) (fr:Int) : (openL t T fr).length≤T.length:=by
  rw [openL,List.length_map,opN]
  exact Nat.le_trans (List.length_filter_le _ _) (by simp)
structure Wt where
  nodes:List Nd
  width:Int
  fr:Int
  rows:List (List Int)
  opn:List Int
def cwE (w:Wt) (t:Fm) : Int:=if chkE w.nodes w.width t≠0 then chkE w.nodes w.width t else if trE w.rows w.width≠0 then trE w.rows w.width else
  if w.fr<0∨1099511627776<w.fr then 2 else if openL t w.rows w.fr≠w.opn∨(w.rows≠[]∧w.opn.head? ≠ some w.fr) then 10 else 0
def askL (w:Wt) : List Int:=w.opn++[w.fr+(w.rows.length:Int)]
def stillL (t:Fm) (w:Wt) (row:List Int) : List Int:=(askL w).filter fun x=>decide (vd t (w.rows++[row]) (x - w.fr).toNat=2)
def saidL (t:Fm) (w:Wt) (row:List Int) : List (Int × Bool):=((askL w).filter fun x=>decide (vd t (w.rows++[row]) (x - w.fr).toNat≠2)).map fun x=>(x,decide (vd t (w.rows++[row]) (x - w.fr).toNat=1))
def pushW (t:Fm) (w:Wt) (row:List Int) : Wt:=match stillL t w row with
  | []=>⟨w.nodes,w.width,w.fr+(w.rows.length:Int)+1,[],[]⟩
  | x::l=>⟨w.nodes,w.width,x,(w.rows++[row]).drop (x - w.fr).toNat,x::l⟩
def pushE (t:Fm) (w:Wt) (row:List Int) : Int:=if cwE w t≠0 then cwE w t else if trE [row] w.width≠0 then trE [row] w.width else if 1099511627776≤w.fr+(w.rows.length:Int) then 8 else 0

def opA (t:Fm) (T:List (List Int)) (n:Nat) : List Nat:=(List.range n).filter fun i=>decide (vd t (T.take n) i=2)
def frA (t:Fm) (T:List (List Int)) (n:Nat) : Nat:=(opA t T n).head?.getD n
def watchA (t:Fm) (w:Int) (T:List (List Int)) (n:Nat) : Wt:=⟨t.flat,w,frA t T n,(T.take n).drop (frA t T n),(opA t T n).map fun (i:Nat)=>(i:Int)⟩
theorem opA_mem {t:Fm} {T:List (List Int)} {n i:Nat} : i∈opA t T n↔i<n∧vd t (T.take n) i=2:=by simp [opA]
theorem opA_sorted (t:Fm) (T:List (List Int)) (n:Nat) : (opA t T n).Pairwise (·<·):=List.Pairwise.filter _ List.pairwise_lt_range
theorem frA_le {t:Fm} {T:List (List Int)} {n i:Nat} (h:i∈opA t T n) : frA t T n≤i:=by
  have hs:=opA_sorted t T n
  unfold frA
  cases hl:opA t T n with
  | nil=>rw [hl] at h; cases h
  | cons x l =>
    rw [hl] at h hs
    simp only [List.head?_cons,Option.getD_some]
    rcases List.mem_cons.1 h with rfl | h
    · exact Nat.le_refl _
    · exact Nat.le_of_lt ((List.pairwise_cons.1 hs).1 i h)
theorem frA_n (t:Fm) (T:List (List Int)) (n:Nat) : frA t T n≤n:=by
  cases hl:opA t T n with
  | nil=>simp [frA,hl]
  | cons x l =>
    have hx:x∈opA t T n:=by rw [hl]; simp
    have:=frA_le hx
    have:=(opA_mem.1 hx).1
    omega
theorem openL_A (t:Fm) (T:List (List Int)) {n:Nat} (hn:n≤T.length) : openL t ((T.take n).drop (frA t T n)) (frA t T n)=(opA t T n).map fun (i:Nat)=>(i:Int):=by
  have hf:=frA_n t T n
  have hfl:=fun i=>frA_le (t:=t) (T:=T) (n:=n) (i:=i)
  have hlen:((T.take n).drop (frA t T n)).length=n - frA t T n:=by rw [List.length_drop,List.length_take]; omega
  rw [openL,opN,hlen]
  simp only [vd_drop]
  generalize hF:frA t T n=F at *
  have hr:List.range n=List.range F++(List.range (n - F)).map (F+·):=by
    rw [← List.range_add,show F+(n - F)=n by omega]
  have h0:(List.range F).filter (fun i=>decide (vd t (T.take n) i=2))=[]:=by
    rw [List.filter_eq_nil_iff]
    intro i hi hv
    have hi':i<F:=List.mem_range.1 hi
    have:=hfl i (opA_mem.2 ⟨by omega,by simpa using hv⟩)
    omega
  rw [opA,hr,List.filter_append,h0,List.nil_append,List.filter_map,List.map_map]
  refine List.map_congr_left ?_
  intro i _
  simp
theorem watch_ok {t:Fm} {w:Int} {T:List (List Int)} {n:Nat} (hc:chkE t.flat w t=0) (ht:∀ k m,trE ((T.take m).drop k) w=0) (hn:n≤T.length) (hl:T.length≤400) : cwE (watchA t w T n) t=0:=by
  have hf:=frA_n t T n
  have e:cwE (watchA t w T n) t=(if chkE t.flat w t≠0 then chkE t.flat w t else if trE ((T.take n).drop (frA t T n)) w≠0 then trE ((T.take n).drop (frA t T n)) w else
    if ((frA t T n:Nat) : Int)<0∨1099511627776<((frA t T n:Nat) : Int) then 2 else
      if openL t ((T.take n).drop (frA t T n)) (frA t T n:Nat)≠((opA t T n).map fun (i:Nat)=>(i:Int))∨((T.take n).drop (frA t T n)≠[]∧((opA t T n).map fun (i:Nat)=>(i:Int)).head? ≠ some ((frA t T n:Nat) : Int)) then 10 else 0):=rfl
  rw [e,if_neg (by simp [hc]),if_neg (by simp [ht]),if_neg (by omega),if_neg]
  rw [openL_A t T hn]
  simp only [ne_eq,not_true_eq_false,false_or,not_and,Decidable.not_not]
  intro hne
  cases ho:opA t T n with
  | nil =>
    exfalso
    apply hne
    have:frA t T n=n:=by simp [frA,ho]
    rw [this,List.drop_of_length_le]
    rw [List.length_take]
    omega
  | cons x l=>simp [frA,ho]
theorem opA_step {t:Fm} {T:List (List Int)} {n:Nat} (hn:n<T.length) : (opA t T n++[n]).filter (fun i=>decide (vd t (T.take (n+1)) i=2))=opA t T (n+1):=by
  rw [opA,opA,List.range_succ,List.filter_append,List.filter_append,List.filter_filter]
  congr 1
  refine List.filter_congr fun i hi => ?_
  by_cases h:vd t (T.take (n+1)) i=2
  · have:vd t (T.take n) i=2:=by
      by_cases h2:vd t (T.take n) i=2
      · exact h2
      · rw [vd_take (Nat.le_succ n) h2] at h
        exact absurd h h2
    simp [h,this]
  · simp [h]
theorem rows_A {t:Fm} {T:List (List Int)} {n:Nat} {row:List Int} (hr:T[n]? = some row) : (T.take n).drop (frA t T n)++[row]=(T.take (n+1)).drop (frA t T n):=by
  have hf:=frA_n t T n
  have hlt:n<T.length:=(List.getElem?_eq_some_iff.1 hr).1
  rw [List.take_add_one,hr,List.drop_append_of_le_length (by rw [List.length_take]; omega)]
  rfl
theorem ask_A {t:Fm} {w:Int} {T:List (List Int)} {n:Nat} (hn:n≤T.length) : askL (watchA t w T n)=(opA t T n++[n]).map fun (i:Nat)=>(i:Int):=by
  have hf:=frA_n t T n
  simp only [askL,watchA,List.map_append,List.map_cons,List.map_nil]
  congr 2
  rw [List.length_drop,List.length_take]
  omega
theorem vd_A {t:Fm} {w:Int} {T:List (List Int)} {n i:Nat} {row:List Int} (hr:T[n]? = some row) (hi:i∈opA t T n++[n]) : vd t ((watchA t w T n).rows++[row]) ((i:Int) - (watchA t w T n).fr).toNat=vd t (T.take (n+1)) i:=by
  have hf:=frA_n t T n
  have hfi:frA t T n≤i:=by
    rcases List.mem_append.1 hi with hi | hi
    · exact frA_le hi
    · obtain rfl:=List.mem_singleton.1 hi
      exact hf
  simp only [watchA]
  rw [rows_A hr,vd_drop]
  congr 1
  omega
theorem still_A {t:Fm} {w:Int} {T:List (List Int)} {n:Nat} {row:List Int} (hr:T[n]? = some row) : stillL t (watchA t w T n) row=(opA t T (n+1)).map fun (i:Nat)=>(i:Int):=by
  have hlt:n<T.length:=(List.getElem?_eq_some_iff.1 hr).1
  rw [stillL,ask_A (Nat.le_of_lt hlt),List.filter_map,← opA_step hlt]
  congr 1
  refine List.filter_congr fun i hi => ?_
  simp only [Function.comp]
  rw [vd_A hr hi]
theorem push_A {t:Fm} {w:Int} {T:List (List Int)} {n:Nat} {row:List Int} (hr:T[n]? = some row) : pushW t (watchA t w T n) row=watchA t w T (n+1):=by
  have hlt:n<T.length:=(List.getElem?_eq_some_iff.1 hr).1
  have hf:=frA_n t T n
  have hm:∀ i,i∈opA t T (n+1)→frA t T n≤i:=fun i hi=>by
    rw [← opA_step hlt] at hi
    rcases List.mem_append.1 (List.mem_filter.1 hi).1 with h | h
    · exact frA_le h
    · obtain rfl:=List.mem_singleton.1 h
      exact hf
  unfold pushW
  rw [still_A hr]
  cases ho:opA t T (n+1) with
  | nil =>
    have e:frA t T (n+1)=n+1:=by simp [frA,ho]
    have e2:(T.take (n+1)).drop (n+1)=[]:=List.drop_of_length_le (by rw [List.length_take]; omega)
    simp only [List.map_nil,watchA,e,ho,e2]
    congr 1
    rw [List.length_drop,List.length_take]
    omega
  | cons x l =>
    have e:frA t T (n+1)=x:=by simp [frA,ho]
    have hx:=hm x (by rw [ho]; simp)
    simp only [List.map_cons,watchA,e,ho]
    congr 1
    rw [rows_A hr,List.drop_drop]
    congr 1
    omega
end Go.Aw
