/-
  Texts of the library,one behind the other. Over any program; no condition.
-/
import Derived.Test.YtlimahhonfckdaaGreatDoorRows
import Derived.MakeChecks
import Derived.LaidLaws
import Derived.LaidMore
import Derived.OpenShut
import Derived.Test.YtlimahhonfckdaaGreatDoorPkD
import Derived.Test.YtlimahhonfckdaaGreatDoorRuB
namespace Go.Aw
set_option linter.unusedSimpArgs false
set_option linter.unusedVariables false
open Go.RowKit Go.Proofs Go.ChangeShapes
set_option maxRecDepth 100000

def laid5 : List (String × DataW Unit) := [("math/bits.deBruijn32tab", YtlimahhonfckdaaGreatDoor.Rows.laid_math_bits_deBruijn32tab), ("math/bits.deBruijn64tab", YtlimahhonfckdaaGreatDoor.Rows.laid_math_bits_deBruijn64tab), ("internal/strconv.uint64pow10", YtlimahhonfckdaaGreatDoor.Rows.laid_internal_strconv_uint64pow10), ("strconv.ErrRange", YtlimahhonfckdaaGreatDoor.Rows.laid_strconv_ErrRange), ("strconv.ErrSyntax", YtlimahhonfckdaaGreatDoor.Rows.laid_strconv_ErrSyntax)]
theorem var_heap {P:Program} {w:World} {n:String} {g:Nat} {cs:Array Value} (hg:P.globalNamed n=some g) (h:w.var? P n=some cs) : ∃ t fr,w.heap[g]? = some (.cells cs t fr):=by
  simp only [World.var?,hg,Option.bind_some] at h
  split at h
  · rename_i a b c he
    obtain rfl:=Option.some.inj h
    exact ⟨_,_,he⟩
  · cases h
theorem row_mem (g n:Nat) (h:0<n) : MemPlace.cell g 0∈MemPlace.row ⟨g,0,none⟩ n:=by
  simp [MemPlace.row]
  omega
theorem err_laid {W:World} {g t:Nat} {cs:Array Value} {fuel:Nat} {text:List UInt8} {p:List MemPlace} {n:String} {ps:List MemPlace}
    (hg:Tryz.prog.globalNamed n=some g) (ht:(Tryz.prog.globals[g]?).map (·.type)=some t) (ht0:(Tryz.prog.globals[g]?).map (·.type)=some 153) (hv:W.var? Tryz.prog n=some cs)
    (hd : DataW.trod (fun _ => ()) Tryz.prog W 0 (fun _ => true) false fuel t cs.toList = some (.iface "*errors.errorString" (.ptr (.agg [.lit (.string text)])), p))
    (hm:∀ k,k∈MemPlace.row ⟨g,0,none⟩ cs.size→k∈ps)
    (hok:∀ b off,MemPlace.cell b off∈ps→(∃ c t,W.heap[b]? = some (.cells c t (0,0)))∧∀ u v,W.cell? ⟨b,off,none⟩=some (.iface u v)→Value.okWide Tryz.prog W .any 0 u v) :
    RD (fun b=>b<W.heap.size) W (.cp [.iface 196 (.cp [.str ⟨text.toArray⟩] 0)] 0) (.pointer (some ⟨g,0,none⟩))∧∃ t fr,W.heap[g]? = some (.cells cs t fr)∧cs.size=1:=by
  obtain rfl:=Option.some.inj (ht.symm.trans ht0)
  obtain ⟨ty,fr,hh⟩:=var_heap hg hv
  have hcs1:cs.toList.length=1:=by
    obtain ⟨f1,u,v,e,_⟩:=iface_of_trod Tryz.underlying153 hd
    rw [e]; rfl
  have hs1:cs.size=1:=by simpa using hcs1
  obtain ⟨a, s, e1, e2, e3, e4, e5⟩ := errorString_of_trod (tp := 196) (te := 198) (ts := 9) (nm := "*errors.errorString") Tryz.underlying153 (typeName_ptr_named (nm := "errors.errorString") (by kernel_rfl) (by kernel_rfl) (by decide)) Tryz.underlying196 Tryz.underlying198 rfl rfl Tryz.underlying9 (by kernel_rfl) (by kernel_rfl) hd (fun u v e => (hok g 0 (hm _ (row_mem g cs.size (by omega)))).2 u v (by
    have:=World.var?_cell hg hv 0
    rw [this,← Array.getElem?_toList,e]
    rfl))
  have hgl:g<W.heap.size:=by
    rcases Nat.lt_or_ge g W.heap.size with h | h
    · exact h
    · rw [Array.getElem?_eq_none h] at hh; cases hh
  obtain ⟨blk,off,spot⟩:=a
  have hsp:spot=none:=by
    simp only [World.cell?] at e2
    split at e2
    · cases spot with
      | none=>rfl
      | some x=>simp at e2
    · cases e2
  subst hsp
  have hbl:blk<W.heap.size:=by
    simp only [World.cell?] at e2
    split at e2
    · rename_i c t' f' he
      rcases Nat.lt_or_ge blk W.heap.size with h | h
      · exact h
      · rw [Array.getElem?_eq_none h] at he; cases he
    · cases e2
  have hst:s=⟨text.toArray⟩:=by rw [← e3]
  refine ⟨.cp g 0 0 _ (fun _=>.iface 196 (.pointer (some ⟨blk,off,none⟩))) hgl (fun j hj => ?_) (fun j x hx => ?_),ty,fr,hh,hs1⟩
  · obtain rfl:j=0:=by simpa using hj
    have:=World.var?_cell hg hv 0
    rw [Nat.add_zero,this,← Array.getElem?_toList,e1]
    rfl
  · match j,hx with
    | 0,hx =>
      obtain rfl:=Option.some.inj hx
      refine .iface _ _ _ (.cp blk off 0 _ (fun _=>.string s) hbl (fun i hi => ?_) (fun i y hy => ?_))
      · obtain rfl:i=0:=by simpa using hi
        exact e2
      · match i,hy with
        | 0,hy =>
          obtain rfl:=Option.some.inj hy
          rw [← hst]
          exact .str s
theorem fo_laid {W:World} (h:laidMetH Tryz.prog laid5 W) : FO (fun b=>b<W.heap.size) W:=by
  rw [MakeChecks.laidMetH_plain _ _ _ (by kernel_rfl)] at h
  obtain ⟨ps,⟨g0,t0,cs0,f0,p0,q0,hg0,ht0,hv0,hd0,⟨g1,t1,cs1,f1,p1,q1,hg1,ht1,hv1,hd1,⟨g2,t2,cs2,f2,p2,q2,hg2,ht2,hv2,hd2,⟨g3,t3,cs3,f3,p3,q3,hg3,ht3,hv3,hd3,⟨g4,t4,cs4,f4,p4,q4,hg4,ht4,hv4,hd4,_,m4⟩,m3⟩,m2⟩,m1⟩,m0⟩,hnd,hok⟩:=h
  obtain rfl := Option.some.inj ((show Tryz.prog.globalNamed "internal/strconv.uint64pow10" = some 3 by kernel_rfl).symm.trans hg2)
  obtain rfl := Option.some.inj ((show Tryz.prog.globalNamed "strconv.ErrRange" = some 2 by kernel_rfl).symm.trans hg3)
  obtain rfl := Option.some.inj ((show Tryz.prog.globalNamed "strconv.ErrSyntax" = some 1 by kernel_rfl).symm.trans hg4)
  obtain ⟨r3,ty3,fr3,h3,s3⟩:=err_laid hg3 ht3 (by kernel_rfl) hv3 hd3 (ps:=ps) (fun k hk=>by rw [m0,m1,m2,m3]; simp [hk]) hok
  obtain ⟨r2,ty2,fr2,h2,s2⟩:=err_laid hg4 ht4 (by kernel_rfl) hv4 hd4 (ps:=ps) (fun k hk=>by rw [m0,m1,m2,m3,m4]; simp [hk]) hok
  obtain ⟨ty0,fr0,h0⟩:=var_heap hg2 hv2
  have hg0l:3<W.heap.size:=by
    rcases Nat.lt_or_ge 3 W.heap.size with h | h
    · exact h
    · rw [Array.getElem?_eq_none h] at h0; cases h0
  obtain rfl:=Option.some.inj ((show (Tryz.prog.globals[3]?).map (·.type)=some 192 by kernel_rfl).symm.trans ht2)
  have hpow:cs2.toList=powG.map (fun | .int k n=>Value.int k n | _=>.nilFunc):=by
    obtain ⟨xs,m,rfl,hx,hlen,hn,hel⟩:=DataW.trod_array Tryz.underlying192 hd2
    have cq:Tryz.prog.cellsOf 168=1:=by kernel_rfl
    have cr:Tryz.prog.cellsOf 192=20:=by kernel_rfl
    rw [cr] at hlen
    simp only [Prod.mk.injEq] at hx
    have hx1:=hx.1
    simp only [YtlimahhonfckdaaGreatDoor.Rows.laid_internal_strconv_uint64pow10,DataW.agg.injEq] at hx1
    apply List.ext_getElem?
    intro i
    by_cases hi:i<20
    · have he:=hel i hi
      rw [cq] at he
      obtain ⟨y,hy⟩ : ∃ y,xs[i]? = some y:=⟨_,List.getElem?_eq_getElem (by omega)⟩
      rw [hy] at he
      obtain ⟨k,e1,e2,_⟩:=DataW.trod_int Tryz.underlying168 he
      have hxi:=congrArg (fun l=>l[i]?) hx1
      simp only [List.getElem?_map,hy,Option.map_some,e2] at hxi
      have hc:cs2.toList[i]? = some (.int .u64 k):=by
        have:=congrArg (fun l=>l[0]?) e1
        simpa [List.getElem?_take,List.getElem?_drop] using this
      rw [hc]
      rcases show i=0∨i=1∨i=2∨i=3∨i=4∨i=5∨i=6∨i=7∨i=8∨i=9∨i=10∨i=11∨i=12∨i=13∨i=14∨i=15∨i=16∨i=17∨i=18∨i=19 by omega with rfl | rfl | rfl | rfl | rfl | rfl | rfl | rfl | rfl | rfl | rfl | rfl | rfl | rfl | rfl | rfl | rfl | rfl | rfl | rfl
      all_goals (simp at hxi; subst hxi; rfl)
    · rw [List.getElem?_eq_none (by omega),List.getElem?_eq_none (by simp [powG]; omega)]
  have hs0:cs2.size=powG.length:=by
    have:=congrArg List.length hpow
    simpa using this
  refine ⟨fun b hb=>hb,fun g cells hg => ?_,fun g cells hg => ?_⟩
  · unfold globT at hg
    split at hg
    · subst_vars
      obtain rfl:=Option.some.inj hg
      exact r2
    · split at hg
      · subst_vars
        obtain rfl:=Option.some.inj hg
        exact r3
      · split at hg
        · subst_vars
          obtain rfl:=Option.some.inj hg
          refine .cp 3 0 0 _ (fun j=>cs2[j]?.getD .nilFunc) hg0l (fun j hj => ?_) (fun j x hx => ?_)
          · have:=World.var?_cell hg2 hv2 j
            rw [Nat.zero_add,this]
            rw [Array.getElem?_eq_getElem (by omega)]
            rfl
          · rw [← Array.getElem?_toList,hpow,List.getElem?_map,hx]
            simp only [Option.map_some,Option.getD_some]
            have hmem:=List.mem_of_getElem? hx
            obtain ⟨n,_,rfl⟩:=List.mem_map.1 hmem
            exact .int _ _
        · cases hg
  · unfold globT at hg
    split at hg
    · subst_vars
      obtain rfl:=Option.some.inj hg
      exact ⟨_,_,_,h2,s2⟩
    · split at hg
      · subst_vars
        obtain rfl:=Option.some.inj hg
        exact ⟨_,_,_,h3,s3⟩
      · split at hg
        · subst_vars
          obtain rfl:=Option.some.inj hg
          exact ⟨_,_,_,h0,hs0⟩
        · cases hg
end Go.Aw

namespace Go.Aw
set_option linter.unusedSimpArgs false
set_option linter.unusedVariables false
open Go.RowKit

def i64 (x:Int) : Prop:=-9223372036854775808≤x∧x≤9223372036854775807
end Go.Aw
