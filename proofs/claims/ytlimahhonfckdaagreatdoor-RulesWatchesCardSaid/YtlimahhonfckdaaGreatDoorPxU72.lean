/-
  Push of the program. Conditions: lengths that fit.
-/
import Derived.Test.YtlimahhonfckdaaGreatDoorPxU71
import Derived.Test.YtlimahhonfckdaaGreatDoorPkT
import Derived.Test.YtlimahhonfckdaaGreatDoorPkD
namespace Go.Aw
set_option linter.unusedSimpArgs false
set_option linter.unusedVariables false
open Go.RowKit Go.Proofs
set_option maxRecDepth 100000

def wtV (w:Wt) : List V:=(wtD w).map .d
def wt0:Wt:=⟨[],0,0,[],[]⟩
def encSd (x:Int × Bool) : List D:=[.int .i64 x.1,.bool x.2]
def puW (t:Fm) (w:Wt) (row:List Int) : Wt:=if pushE t w row=0 then pushW t w row else wt0
def puS (t:Fm) (w:Wt) (row:List Int) : List (Int × Bool):=if pushE t w row=0 then saidL t w row else []
theorem deep_wt0 {H:List Blk} (e:D) : DeepV H (.tup [.agg [.nil,.d (.int .i64 0),.d (.int .i64 0),.nil,.nil],.nil,.d e]) (.tup [.agg (wtV wt0),.d (.sl []),.d e]) :=
  DeepV.tups (DeepV.cons (DeepV.aggs (DeepV.cons .nil (DeepV.cons (.dd _) (DeepV.cons (.dd _) (DeepV.cons .nil (DeepV.cons .nil DeepV.nils)))))) (DeepV.cons .nil (DeepV.cons (.dd e) DeepV.nils)))
theorem rowsE_app {w:Int} {a b:List (List Int)} (ha:rowsE w a=0) (hb:rowsE w b=0) : rowsE w (a++b)=0:=by
  induction a with
  | nil=>exact hb
  | cons r a ih =>
    rw [rowsE] at ha
    split at ha
    · rename_i h
      rw [List.cons_append,rowsE,if_pos h]
      exact ih ha
    · rename_i h
      exact absurd ha h
theorem trE_rows {w:Int} {a:List (List Int)} (h:trE a w=0) : rowsE w a=0:=by
  unfold trE at h
  split at h
  · cases h
  split at h
  · cases h
  exact h
theorem trE_app {w:Int} {a b:List (List Int)} (ha:trE a w=0) (hb:trE b w=0) (hl:(a++b).length≤400) : trE (a++b) w=0:=by
  obtain ⟨w1,w2,_,_⟩:=tr_facts ha
  rw [trE,if_neg (by omega),if_neg (by omega)]
  exact rowsE_app (trE_rows ha) (trE_rows hb)
theorem chk_hz {f:List Nd} {w:Int} {t:Fm} (h:chkE f w t=0) : t.hz≤60:=by
  unfold chkE at h
  split at h
  · cases h
  · rename_i h1
    have:¬ 60<t.hz:=fun h2=>h1 ⟨h,h2⟩
    omega
theorem watch_facts {w:Wt} {t:Fm} (h:cwE w t=0) : chkE w.nodes w.width t=0∧trE w.rows w.width=0∧0≤w.fr∧w.fr≤1099511627776∧openL t w.rows w.fr=w.opn∧(w.rows≠[]→w.opn.head? = some w.fr):=by
  unfold cwE at h
  split at h
  · rename_i h1; exact absurd h h1
  rename_i h1
  split at h
  · rename_i h2; exact absurd h h2
  rename_i h2
  split at h
  · cases h
  rename_i h3
  split at h
  · cases h
  rename_i h4
  refine ⟨by simpa using h1,by simpa using h2,by omega,by omega,?_,fun hr => ?_⟩
  · exact Decidable.byContradiction fun e=>h4 (.inl e)
  · exact Decidable.byContradiction fun e=>h4 (.inr ⟨hr,e⟩)
theorem watch_rows {w:Wt} {t:Fm} (h:cwE w t=0) (hw:t.wf) (ho:∀ n,n∈t.flat→okN n) : w.rows.length≤60:=by
  obtain ⟨h1,h2,h3,h4,h5,h6⟩:=watch_facts h
  have hz:=chk_hz h1
  rcases Nat.lt_or_ge 60 w.rows.length with hl | hl
  · exfalso
    have h7:=h6 (by intro e; rw [e] at hl; simp at hl)
    rw [← h5,openL] at h7
    cases ho':opN t w.rows with
    | nil=>rw [ho'] at h7; cases h7
    | cons i l =>
      rw [ho'] at h7
      simp only [List.map_cons,List.head?_cons,Option.some.injEq] at h7
      have hi:=opN_lt (show i∈opN t w.rows by rw [ho']; simp)
      exact vd_dec t w.rows i hw ho (by omega) hi.2
  · exact hl
def stA (t:Fm) (T:List (List Int)) (fr:Int) (A:List Int) (i:Nat) : List Int:=(A.take i).filter fun x=>decide (vd t T (x - fr).toNat=2)
def sdA (t:Fm) (T:List (List Int)) (fr:Int) (A:List Int) (i:Nat) : List (Int × Bool):=((A.take i).filter fun x=>decide (vd t T (x - fr).toNat≠2)).map fun x=>(x,decide (vd t T (x - fr).toNat=1))
def pwM (f:List Nd) (wd fr n:Int) (T:List (List Int)) (S:List Int) : Wt:=match S with
  | []=>⟨f,wd,n,[],[]⟩
  | x::l=>⟨f,wd,x,T.drop (x - fr).toNat,x::l⟩
theorem stA_mem {t:Fm} {T:List (List Int)} {fr:Int} {A:List Int} {i:Nat} {x:Int} (h:x∈stA t T fr A i) : x∈A:=List.mem_of_mem_take (List.mem_filter.1 h).1
theorem stA_zero (t:Fm) (T:List (List Int)) (fr:Int) (A:List Int) : stA t T fr A 0=[]:=rfl
theorem sdA_zero (t:Fm) (T:List (List Int)) (fr:Int) (A:List Int) : sdA t T fr A 0=[]:=rfl
theorem stA_step {t:Fm} {T:List (List Int)} {fr:Int} {A:List Int} {i:Nat} {x:Int} (h:A[i]? = some x) : stA t T fr A (i+1)=stA t T fr A i++if vd t T (x - fr).toNat=2 then [x] else []:=by
  rw [stA,stA,List.take_add_one,h,List.filter_append]
  congr 1
  by_cases h2:vd t T (x - fr).toNat=2 <;> simp [h2]
theorem sdA_step {t:Fm} {T:List (List Int)} {fr:Int} {A:List Int} {i:Nat} {x:Int} (h:A[i]? = some x) : sdA t T fr A (i+1)=sdA t T fr A i++if vd t T (x - fr).toNat=2 then [] else [(x,decide (vd t T (x - fr).toNat=1))]:=by
  rw [sdA,sdA,List.take_add_one,h,List.filter_append,List.map_append]
  congr 1
  by_cases h2:vd t T (x - fr).toNat=2 <;> simp [h2]
theorem stA_len (t:Fm) (T:List (List Int)) (fr:Int) (A:List Int) (i:Nat) : (stA t T fr A i).length≤i:=by
  refine Nat.le_trans (List.length_filter_le _ _) ?_
  rw [List.length_take]
  omega
theorem sdA_len (t:Fm) (T:List (List Int)) (fr:Int) (A:List Int) (i:Nat) : (sdA t T fr A i).length≤i:=by
  rw [sdA,List.length_map]
  refine Nat.le_trans (List.length_filter_le _ _) ?_
  rw [List.length_take]
  omega
theorem awp_virtJ {P:Program} {kp:List Nat} {n:Nat} {s:St} {Q:Exit→St→Prop} {c:Code} (id j k:Nat) (xs:List V) (hi:s.heap[id]? = some (.cells xs)) (hj:xs[j]? = some .nil)
    (h:AWP P kp n c { s with heap:=(s.heap++[Blk.data k []]).set id (.cells (xs.set j (.ref s.heap.length 0 0))) } Q) : AWP P kp n c s Q:=by
  intro hok B a w E F h1 h2 h3
  subst h1
  obtain ⟨e1,e2⟩:=virt_rel h3.rel k
  have hlt:=(List.getElem?_eq_some_iff.1 hi).1
  have h4:Sim B ⟨s.tm,s.heap++[Blk.data k []]⟩ a w (E++[⟨none,k,0⟩]) F:=⟨⟨e2.os,e2.tape,e2.output,e2.size,e2.F0,e2.only,e2.same,e2.lt,e2.hr,e2.src,e2.keep,e2.sz⟩,h3.defers,fun j x hx=>by
    obtain ⟨v,hv,hr⟩:=h3.tm j x hx
    exact ⟨v,hv,hr.evo e1 (fun _ _=>trivial)⟩⟩
  refine h hok B a w _ F rfl h2 (cells_sim h4 id xs (xs.set j (.ref s.heap.length 0 0)) (by rw [List.getElem?_append_left hlt]; exact hi) (by simp) ?_)
  intro i x y hx hy v hv
  rw [List.getElem?_set] at hy
  split at hy
  · rename_i e
    subst e
    rw [hj] at hx
    cases hx
    split at hy
    · cases hy
      cases hv with
      | nil a=>exact .refv _ k 0 a (by rw [← h3.rel.hr.len,List.getElem?_append_right (Nat.le_refl _)]; simp)
    · cases hy
  · rw [hx] at hy
    cases hy
    exact hv
end Go.Aw
