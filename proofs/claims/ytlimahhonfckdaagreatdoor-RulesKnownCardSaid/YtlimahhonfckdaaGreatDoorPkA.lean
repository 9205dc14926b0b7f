/-
  Texts of the library,one behind the other. Over any program; no condition.
-/
import Derived.WalkKit
import Derived.OrdersHeld
import Derived.Below
import Derived.Laws.Rows
import Derived.Deep.MidRow
import Derived.Laws.Slices
import Derived.Laws.StructEq
import Derived.WalkLawsBesides
import Derived.Laws.CopyRow
import Derived.Laws.MakeOwn
import Derived.Laws.Append
namespace Go.Aw
set_option linter.unusedSimpArgs false
set_option linter.unusedVariables false
open Go.RowKit

inductive D where
  | int (k:IntKind) (n:Int)
  | bool (b:Bool)
  | str (s:ByteArray)
  | sl (rows:List (List D))
  | agg (cells:List D)
  | tup (cells:List D)
  | cp (cells:List D) (off:Nat)
  | fn (f:Fn) (caps:List D)
  | nilfn
  | nilptr
  | nilmap
  | niliface
  | iface (t:TypeId) (x:D)
  deriving Inhabited

inductive V where
  | d (x:D)
  | agg (xs:List V)
  | tup (xs:List V)
  | ptr (id row off:Nat)
  | ref (id off len:Nat)
  | nil
  | fn (f:Fn) (caps:List V)
  | map (id:Nat)
  | iface (t:TypeId) (x:V)
  | opt (g:Bool) (x:V)
  | junk
  deriving Inhabited

inductive RD (F:Nat→Prop) (w:World) : D→Value→Prop where
  | int (k:IntKind) (n:Int) : RD F w (.int k n) (.int k n)
  | bool (b:Bool) : RD F w (.bool b) (.bool b)
  | str (s:ByteArray) : RD F w (.str s) (.string s)
  | nilfn:RD F w .nilfn .nilFunc
  | nilptr:RD F w .nilptr (.pointer none)
  | nilmap:RD F w .nilmap (.map none)
  | niliface:RD F w .niliface .nilIface
  | iface (t:TypeId) (x:D) (v:Value) (h:RD F w x v) : RD F w (.iface t x) (.iface t v)
  | sl0 (a:Option Addr) (cap:Nat) : RD F w (.sl []) (.slice a 0 cap)
  | sl (b off cap k:Nat) (rows:List (List D)) (c:Nat→Nat→Value) (hn:rows.length≤cap) (hF:F b)
      (hk:∀ (i:Nat) (row:List D),rows[i]? = some row→row.length=k)
      (hc:∀ i j:Nat,i<rows.length→j<k→w.cell? ⟨b,off+(i*k+j),none⟩=some (c i j))
      (hr:∀ (i:Nat) (row:List D) (j:Nat) (x:D),rows[i]? = some row→row[j]? = some x→RD F w x (c i j)) : RD F w (.sl rows) (.slice (some ⟨b,off,none⟩) rows.length cap)
  | agg (xs:List D) (cs:Array Value) (hs:cs.size=xs.length) (hr:∀ (j:Nat) (x:D) (v:Value),xs[j]? = some x→cs[j]? = some v→RD F w x v) : RD F w (.agg xs) (.agg cs)
  | tup (xs:List D) (cs:Array Value) (hs:cs.size=xs.length) (hr:∀ (j:Nat) (x:D) (v:Value),xs[j]? = some x→cs[j]? = some v→RD F w x v) : RD F w (.tup xs) (.tuple cs)
  | cp (b o off:Nat) (xs:List D) (c:Nat→Value) (hF:F b)
      (hc:∀ j:Nat,j<xs.length→w.cell? ⟨b,o+j,none⟩=some (c j))
      (hr:∀ (j:Nat) (x:D),xs[j]? = some x→RD F w x (c j)) : RD F w (.cp xs off) (.pointer (some ⟨b,o+off,none⟩))
  | fn (f:Fn) (xs:List D) (cs:Array Value) (hs:cs.size=xs.length) (hr:∀ (j:Nat) (x:D) (v:Value),xs[j]? = some x→cs[j]? = some v→RD F w x v) : RD F w (.fn f xs) (.func f #[] cs)

theorem RD.evo {F F':Nat→Prop} {w w':World} (hF:∀ b,F b→F' b) (hw:∀ b,F b→w'.heap[b]? = w.heap[b]?) {x:D} {v:Value} (h:RD F w x v) : RD F' w' x v:=by
  induction h with
  | int k n=>exact .int k n
  | bool b=>exact .bool b
  | str s=>exact .str s
  | nilfn=>exact .nilfn
  | nilptr=>exact .nilptr
  | nilmap=>exact .nilmap
  | niliface=>exact .niliface
  | iface t x v h ih=>exact .iface t x v ih
  | sl0 a cap=>exact .sl0 a cap
  | sl b off cap k rows c hn hb hk hc hr ih =>
    exact .sl b off cap k rows c hn (hF b hb) hk (fun i j hi hj=>(World.cell?_of_block (w:=w) (hw b hb)).trans (hc i j hi hj)) ih
  | agg xs cs hs hr ih=>exact .agg xs cs hs ih
  | tup xs cs hs hr ih=>exact .tup xs cs hs ih
  | cp b o off xs c hb hc hr ih =>
    exact .cp b o off xs c (hF b hb) (fun j hj=>(World.cell?_of_block (w:=w) (hw b hb)).trans (hc j hj)) ih
  | fn f xs cs hs hr ih=>exact .fn f xs cs hs ih

def ErrSyntaxG:List D:=[.iface 196 (.cp [.str ⟨#[105,110,118,97,108,105,100,32,115,121,110,116,97,120]⟩] 0)]
def ErrRangeG:List D:=[.iface 196 (.cp [.str ⟨#[118,97,108,117,101,32,111,117,116,32,111,102,32,114,97,110,103,101]⟩] 0)]
def powG:List D:=[1,10,100,1000,10000,100000,1000000,10000000,100000000,1000000000,10000000000,100000000000,1000000000000,10000000000000,100000000000000,1000000000000000,10000000000000000,100000000000000000,1000000000000000000,10000000000000000000].map (D.int .u64)
def globT (g:Nat) : Option (List D):=if g=1 then some ErrSyntaxG else if g=2 then some ErrRangeG else if g=3 then some powG else none
structure FO (F:Nat→Prop) (w:World) : Prop where
  lt:∀ b,F b→b<w.heap.size
  gl:∀ (g:Nat) (cells:List D),globT g=some cells→RD F w (.cp cells 0) (.pointer (some ⟨g,0,none⟩))
  fl:∀ (g:Nat) (cells:List D),globT g=some cells→∃ cs t fr,w.heap[g]? = some (.cells cs t fr)∧cs.size=cells.length
instance {F:Nat→Prop} {w:World} : CoeFun (FO F w) fun _=>∀ b,F b→b<w.heap.size:=⟨FO.lt⟩
theorem FO.evo {F F':Nat→Prop} {w w':World} (h:FO F w) (hF:∀ b,F b→F' b) (hw:∀ b,F b→w'.heap[b]? = w.heap[b]?) (hl:∀ b,F' b→b<w'.heap.size) : FO F' w' :=
  ⟨hl,fun g cells hg=>(h.gl g cells hg).evo hF hw,fun g cells hg=>by
    obtain ⟨cs,t,fr,h1,h2⟩:=h.fl g cells hg
    have hb:F g:=by
      cases h.gl g cells hg
      assumption
    exact ⟨cs,t,fr,(hw g hb).trans h1,h2⟩⟩

structure En where
  blk:Option Nat
  k:Nat
  n:Nat

abbrev Env:=List En

def Sz (w:World) (b n:Nat) : Prop:=∃ cs t,w.heap[b]? = some (.cells cs t (0,0))∧cs.size=n

inductive VR (E:Env) (F:Nat→Prop) (w:World) : V→Value→Prop where
  | d (x:D) (v:Value) (h:RD F w x v) : VR E F w (.d x) v
  | agg (xs:List V) (cs:Array Value) (hs:cs.size=xs.length) (hr:∀ (j:Nat) (x:V) (v:Value),xs[j]? = some x→cs[j]? = some v→VR E F w x v) : VR E F w (.agg xs) (.agg cs)
  | tup (xs:List V) (cs:Array Value) (hs:cs.size=xs.length) (hr:∀ (j:Nat) (x:V) (v:Value),xs[j]? = some x→cs[j]? = some v→VR E F w x v) : VR E F w (.tup xs) (.tuple cs)
  | ptr (id row off b k m:Nat) (hE:E[id]? = some ⟨some b,k,m⟩) (hm:row<m) : VR E F w (.ptr id row off) (.pointer (some ⟨b,row*k+off,none⟩))
  | ref (id off len b k m:Nat) (a:Option Addr) (cap n:Nat) (hE:E[id]? = some ⟨some b,k,m⟩) (hm:off+len≤m) (ha:0<len∨off=0→a=some ⟨b,off*k,none⟩)
      (hl:len≤cap) (hb:Sz w b n) (hc:(off+cap)*k≤n) : VR E F w (.ref id off len) (.slice a len cap)
  | refv (id k m:Nat) (a:Option Addr) (hE:E[id]? = some ⟨none,k,m⟩) : VR E F w (.ref id 0 0) (.slice a 0 0)
  | nil (a:Option Addr) : VR E F w .nil (.slice a 0 0)
  | fn (f:Fn) (xs:List V) (cs:Array Value) (hs:cs.size=xs.length) (hr:∀ (j:Nat) (x:V) (v:Value),xs[j]? = some x→cs[j]? = some v→VR E F w x v) : VR E F w (.fn f xs) (.func f #[] cs)
  | map (id b k m:Nat) (hE:E[id]? = some ⟨some b,k,m⟩) : VR E F w (.map id) (.map (some b))
  | iface (t:TypeId) (x:V) (v:Value) (h:VR E F w x v) : VR E F w (.iface t x) (.iface t v)
  | opt (g:Bool) (x:V) (v:Value) (h:g=true→VR E F w x v) (hu:g=false→v=undef) : VR E F w (.opt g x) v
  | junk (v:Value) : VR E F w .junk v

mutual
def V.has (i:Nat) : V→Bool
  | .d _=>false
  | .agg xs=>V.hasL i xs
  | .tup xs=>V.hasL i xs
  | .ptr id _ _=>id==i
  | .ref id _ _=>id==i
  | .nil=>false
  | .fn _ xs=>V.hasL i xs
  | .map id=>id==i
  | .iface _ x=>V.has i x
  | .opt _ x=>V.has i x
  | .junk=>false
def V.hasL (i:Nat) : List V→Bool
  | []=>false
  | x::r=>V.has i x||V.hasL i r
end

theorem hasL_of {i:Nat} : ∀ {xs:List V} {j:Nat} {x:V},xs[j]? = some x→V.has i x=true→V.hasL i xs=true
  | [],j,x,h,_=>by simp at h
  | y::r,0,x,h,hx=>by simp at h; subst h; simp [V.hasL,hx]
  | y::r,j+1,x,h,hx=>by
    have:=hasL_of (xs:=r) (j:=j) (by simpa using h) hx
    simp [V.hasL,this]

structure Evo (E:Env) (F:Nat→Prop) (w:World) (E':Env) (F':Nat→Prop) (w':World) (ok:Nat→Prop) : Prop where
  up:∀ b,F b→F' b
  same:∀ b,F b→w'.heap[b]? = w.heap[b]?
  env:∀ (id:Nat) (e:En),ok id→E[id]? = some e→E'[id]? = some e
  sz:∀ b n,Sz w b n→Sz w' b n

theorem VR.evo {E E':Env} {F F':Nat→Prop} {w w':World} {ok:Nat→Prop} (h:Evo E F w E' F' w' ok) {x:V} {v:Value} (hx:VR E F w x v)
    (hk:∀ i,V.has i x=true→ok i) : VR E' F' w' x v:=by
  induction hx with
  | d x v hd=>exact .d x v (hd.evo h.up h.same)
  | agg xs cs hs hr ih=>exact .agg xs cs hs fun j x v hx hv=>ih j x v hx hv fun i hi=>hk i (by simpa [V.has] using hasL_of hx hi)
  | tup xs cs hs hr ih=>exact .tup xs cs hs fun j x v hx hv=>ih j x v hx hv fun i hi=>hk i (by simpa [V.has] using hasL_of hx hi)
  | ptr id row off b k m hE hm=>exact .ptr id row off b k m (h.env _ _ (hk id (by simp [V.has])) hE) hm
  | ref id off len b k m a cap n hE hm ha hl hb hc=>exact .ref id off len b k m a cap n (h.env _ _ (hk id (by simp [V.has])) hE) hm ha hl (h.sz _ _ hb) hc
  | refv id k m a hE=>exact .refv id k m a (h.env _ _ (hk id (by simp [V.has])) hE)
  | nil a=>exact .nil a
  | fn f xs cs hs hr ih=>exact .fn f xs cs hs fun j x v hx hv=>ih j x v hx hv fun i hi=>hk i (by simpa [V.has] using hasL_of hx hi)
  | map id b k m hE=>exact .map id b k m (h.env _ _ (hk id (by simp [V.has])) hE)
  | iface t x v hx ih=>exact .iface t x v (ih fun i hi=>hk i (by simpa [V.has] using hi))
  | opt g x v hx hu ih=>exact .opt g x v (fun hg=>ih hg fun i hi=>hk i (by simpa [V.has] using hi)) hu
  | junk v=>exact .junk v

def D.leaf:D→Bool
  | .agg _=>false
  | .tup _=>false
  | _=>true

inductive Blk where
  | gone
  | data (k:Nat) (rows:List (List D))
  | cells (xs:List V)
  | vrs (k:Nat) (rs:List (List V))
  | mp (es:List (V × V))
  | it (x:V) (seen:List Nat) (n:Nat)
  deriving Inhabited

def BR (E:Env) (F:Nat→Prop) (w:World) (e:En) : Blk→Prop
  | .gone=>True
  | .data k rows=>e.k=k∧e.n=rows.length∧(∀ (i:Nat) (row:List D),rows[i]? = some row→row.length=k∧row.all D.leaf=true) ∧
    ((e.blk=none∧rows=[])∨∃ b cs t,e.blk=some b∧w.heap[b]? = some (.cells cs t (0,0))∧rows.length*k≤cs.size ∧
      ∀ (i:Nat) (row:List D) (j:Nat) (x:D),rows[i]? = some row→row[j]? = some x→∃ v,cs[i*k+j]? = some v∧RD F w x v)
  | .cells xs=>e.k=xs.length∧e.n=1∧∃ b cs t,e.blk=some b∧w.heap[b]? = some (.cells cs t (0,0))∧cs.size=xs.length ∧
      ∀ (j:Nat) (x:V),xs[j]? = some x→∃ v,cs[j]? = some v∧VR E F w x v
  | .vrs k rs=>e.k=k∧e.n=rs.length∧(∀ (i:Nat) (row:List V),rs[i]? = some row→row.length=k) ∧
    ((e.blk=none∧rs=[])∨∃ b cs t,e.blk=some b∧w.heap[b]? = some (.cells cs t (0,0))∧rs.length*k≤cs.size ∧
      ∀ (i:Nat) (row:List V) (j:Nat) (x:V),rs[i]? = some row→row[j]? = some x→∃ v,cs[i*k+j]? = some v∧v.oneCell'=true∧VR E F w x v)
  | .mp es=>∃ b mes,e.blk=some b∧w.heap[b]? = some (.map mes mes.size)∧mes.size=es.length ∧
      ∀ (i:Nat) (p:V × V) (m:MapEntry),es[i]? = some p→mes[i]? = some m→VR E F w p.1 m.key∧VR E F w p.2 m.val∧m.born=i
  | .it x seen n=>∃ b m,e.blk=some b∧w.heap[b]? = some (.mapIter (some m) n seen.toArray n)∧VR E F w x (.map (some m))

def V.hasLL (i:Nat) : List (List V)→Bool
  | []=>false
  | r::l=>V.hasL i r||V.hasLL i l
def V.hasM (i:Nat) : List (V × V)→Bool
  | []=>false
  | p::l=>V.has i p.1||V.has i p.2||V.hasM i l
def Blk.has (i:Nat) : Blk→Bool
  | .cells xs=>V.hasL i xs
  | .vrs _ rs=>V.hasLL i rs
  | .mp es=>V.hasM i es
  | .it x _ _=>V.has i x
  | _=>false

def Blk.holds (x:V) : Blk→Prop
  | .cells xs=>x∈xs
  | .vrs _ rs=>∃ row,row∈rs∧x∈row
  | .mp es=>∃ p,p∈es∧(x=p.1∨x=p.2)
  | .it y _ _=>x=y
  | _=>False
def Blk.map1 (f:V→V) : Blk→Blk
  | .cells xs=>.cells (xs.map f)
  | .vrs k rs=>.vrs k (rs.map fun r=>r.map f)
  | .mp es=>.mp (es.map fun p=>(f p.1,f p.2))
  | .it x seen n=>.it (f x) seen n
  | b=>b

theorem hasL_mem {i:Nat} {x:V} {xs:List V} (h:x∈xs) (hx:V.has i x=true) : V.hasL i xs=true:=by
  obtain ⟨j,hj⟩:=List.getElem?_of_mem h
  exact hasL_of hj hx
theorem hasLL_mem {i:Nat} {r:List V} : ∀ {l:List (List V)},r∈l→V.hasL i r=true→V.hasLL i l=true
  | [],h,_=>by cases h
  | s::l,h,hr=>by
    rcases List.mem_cons.1 h with rfl | h
    · simp [V.hasLL,hr]
    · simp [V.hasLL,hasLL_mem h hr]
theorem hasM_mem {i:Nat} {p:V × V} : ∀ {l:List (V × V)},p∈l→(V.has i p.1=true∨V.has i p.2=true)→V.hasM i l=true
  | [],h,_=>by cases h
  | s::l,h,hr=>by
    rcases List.mem_cons.1 h with rfl | h
    · rcases hr with hr | hr <;> simp [V.hasM,hr]
    · simp [V.hasM,hasM_mem h hr]
theorem Blk.has_of {i:Nat} {x:V} {b:Blk} (h:b.holds x) (hx:V.has i x=true) : b.has i=true:=by
  cases b with
  | gone=>exact h.elim
  | data k rows=>exact h.elim
  | cells xs=>exact hasL_mem h hx
  | vrs k rs=>obtain ⟨r,h1,h2⟩:=h; exact hasLL_mem h1 (hasL_mem h2 hx)
  | mp es =>
    obtain ⟨p,h1,h2⟩:=h
    refine hasM_mem h1 ?_
    rcases h2 with rfl | rfl
    · exact .inl hx
    · exact .inr hx
  | it y seen n=>subst h; exact hx

theorem Blk.map1_id (b:Blk) : b.map1 (fun x=>x)=b:=by
  cases b <;> simp [Blk.map1]

theorem BR.to {E E':Env} {F F':Nat→Prop} {w w':World} {f:V→V} {e:En} {b:Blk} (hb:BR E F w e b) (hd:∀ x v,RD F w x v→RD F' w' x v)
    (hx:∀ x v,b.holds x→VR E F w x v→VR E' F' w' (f x) v) (hsame:∀ c,e.blk=some c→w'.heap[c]? = w.heap[c]?) : BR E' F' w' e (b.map1 f):=by
  cases b with
  | gone=>trivial
  | data k rows =>
    obtain ⟨h1,hn,h2,h3⟩:=hb
    refine ⟨h1,hn,h2,h3.imp id ?_⟩
    rintro ⟨b,cs,t,he,hw,hs,hr⟩
    exact ⟨b,cs,t,he,(hsame b he).trans hw,hs,fun i row j x hi hj=>let ⟨v,hv,hq⟩:=hr i row j x hi hj; ⟨v,hv,hd x v hq⟩⟩
  | cells xs =>
    obtain ⟨h1,hn,b,cs,t,he,hw,hs,hr⟩:=hb
    refine ⟨by simpa using h1,hn,b,cs,t,he,(hsame b he).trans hw,by simpa using hs,fun j x hj => ?_⟩
    simp only [List.getElem?_map,Option.map_eq_some_iff] at hj
    obtain ⟨y,hy,rfl⟩:=hj
    obtain ⟨v,hv,hq⟩:=hr j y hy
    exact ⟨v,hv,hx y v (List.mem_of_getElem? hy) hq⟩
  | vrs k rs =>
    obtain ⟨h1,hn,h2,h3⟩:=hb
    refine ⟨h1,by simpa using hn,fun i row hi => ?_,?_⟩
    · simp only [List.getElem?_map,Option.map_eq_some_iff] at hi
      obtain ⟨y,hy,rfl⟩:=hi
      simpa using h2 i y hy
    · rcases h3 with ⟨h3,rfl⟩ | ⟨b,cs,t,he,hw,hs,hr⟩
      · exact .inl ⟨h3,rfl⟩
      · refine .inr ⟨b,cs,t,he,(hsame b he).trans hw,by simpa using hs,fun i row j x hi hj => ?_⟩
        simp only [List.getElem?_map,Option.map_eq_some_iff] at hi
        obtain ⟨r0,hr0,rfl⟩:=hi
        simp only [List.getElem?_map,Option.map_eq_some_iff] at hj
        obtain ⟨y,hy,rfl⟩:=hj
        obtain ⟨v,hv,ho,hq⟩:=hr i r0 j y hr0 hy
        exact ⟨v,hv,ho,hx y v ⟨r0,List.mem_of_getElem? hr0,List.mem_of_getElem? hy⟩ hq⟩
  | mp es =>
    obtain ⟨b,mes,he,hw,hs,hr⟩:=hb
    refine ⟨b,mes,he,(hsame b he).trans hw,by simpa using hs,fun i p m hi hm => ?_⟩
    simp only [List.getElem?_map,Option.map_eq_some_iff] at hi
    obtain ⟨y,hy,rfl⟩:=hi
    obtain ⟨q1,q2,q3⟩:=hr i y m hy hm
    exact ⟨hx y.1 _ ⟨y,List.mem_of_getElem? hy,.inl rfl⟩ q1,hx y.2 _ ⟨y,List.mem_of_getElem? hy,.inr rfl⟩ q2,q3⟩
  | it x seen n =>
    obtain ⟨b,m,he,hw,hm⟩:=hb
    exact ⟨b,m,he,(hsame b he).trans hw,hx x _ rfl hm⟩

def Blk.live:Blk→Bool
  | .gone=>false
  | _=>true

structure HR (E:Env) (F:Nat→Prop) (w:World) (H:List Blk) : Prop where
  len:E.length=H.length
  blk:∀ (id:Nat) (e:En) (b:Blk),E[id]? = some e→H[id]? = some b→BR E F w e b
  free:∀ (id b:Nat) (e:En) (blk:Blk),E[id]? = some e→e.blk=some b→H[id]? = some blk→blk.live=true→b<w.heap.size∧¬ F b
  inj:∀ (i j b:Nat) (ei ej:En) (bi bj:Blk),E[i]? = some ei→E[j]? = some ej→ei.blk=some b→ej.blk=some b→H[i]? = some bi→H[j]? = some bj→bi.live=true→bj.live=true→i=j

structure St where
  tm:List (Nat × V)
  heap:List Blk

def tget:List (Nat × V)→Nat→Option V
  | [],_=>none
  | (j,x)::r,i=>if i=j then some x else tget r i

def tput:List (Nat × V)→Nat→V→List (Nat × V)
  | [],i,x=>[(i,x)]
  | (j,y)::r,i,x=>if i=j then (i,x)::r else if i<j then (i,x)::(j,y)::r else (j,y)::tput r i x

theorem tget_tput (l:List (Nat × V)) (i:Nat) (x:V) (j:Nat) : tget (tput l i x) j=if j=i then some x else tget l j:=by
  induction l with
  | nil=>simp [tput,tget]
  | cons p r ih =>
    obtain ⟨k,y⟩:=p
    simp only [tput]
    by_cases h1:i=k
    · subst h1
      simp only [if_true,tget]
      by_cases h2:j=i <;> simp [h2]
    · simp only [h1,if_false]
      by_cases h2:i<k
      · simp only [h2,if_true,tget]
      · simp only [h2,if_false,tget,ih]
        by_cases h3:j=i
        · subst h3; simp [h1]
        · simp [h3]

def St.get (s:St) (i:Nat) : V:=(tget s.tm i).getD .junk
def St.put (s:St) (dst:Option Nat) (x:V) : St:=match dst with | some d=>{ s with tm:=tput s.tm d x } | none=>s

structure Base where
  w0:World
  F0:Nat→Prop
  own:Nat→Prop
  E0:Env
  keep:List Nat
  ds:List Deferred

structure Later (w w':World) : Prop where
  output:w'.output=w.output
theorem Later.refl (w:World) : Later w w:=⟨rfl⟩
theorem Later.trans {a b c:World} (h:Later b c) (h':Later a b) : Later a c:=⟨h.output.trans h'.output⟩

structure Rel (B:Base) (s:St) (E:Env) (F:Nat→Prop) (w:World) : Prop where
  os:w.os=B.w0.os
  tape:w.tape=B.w0.tape
  output:Later B.w0 w
  size:B.w0.heap.size≤w.heap.size
  F0:∀ b,B.F0 b→F b
  only:∀ b,F b→B.F0 b∨B.w0.heap.size≤b∨B.own b
  same:∀ b,b<B.w0.heap.size→¬ B.own b→w.heap[b]? = B.w0.heap[b]?
  lt:FO F w
  hr:HR E F w s.heap
  src:∀ (id b:Nat) (e:En) (blk:Blk),E[id]? = some e→s.heap[id]? = some blk→blk.live=true→e.blk=some b→B.w0.heap.size≤b∨B.own b
  keep:∀ i,i∈B.keep→∃ e,E[i]? = some e∧B.E0[i]? = some e
  sz:∀ b n,Sz B.w0 b n→Sz w b n

structure Sim (B:Base) (s:St) (a:Act) (w:World) (E:Env) (F:Nat→Prop) : Prop where
  rel:Rel B s E F w
  defers:a.defers=B.ds
  tm:∀ i x,tget s.tm i=some x→∃ v,a.tmps[i]? = some v∧VR E F w x v

theorem Sz.lt {w:World} {b n:Nat} (h:Sz w b n) : b<w.heap.size:=by
  obtain ⟨cs,t,h,_⟩:=h
  rcases Nat.lt_or_ge b w.heap.size with h' | h'
  · exact h'
  · rw [Array.getElem?_eq_none h'] at h; cases h

theorem BR.evo {E E':Env} {F F':Nat→Prop} {w w':World} {ok:Nat→Prop} (h:Evo E F w E' F' w' ok) {e:En} {b:Blk} (hb:BR E F w e b)
    (hk:∀ i,b.has i=true→ok i) (hsame:∀ c,e.blk=some c→w'.heap[c]? = w.heap[c]?) : BR E' F' w' e b:=by
  have:=BR.to (f:=fun x=>x) (E':=E') (F':=F') (w':=w') hb (fun x v hx=>hx.evo h.up h.same) (fun x v hx hv=>hv.evo h fun i hi=>hk i (Blk.has_of hx hi)) hsame
  rwa [Blk.map1_id] at this

end Go.Aw

namespace Go.Aw
set_option linter.unusedSimpArgs false
set_option linter.unusedVariables false
open Go.RowKit

def ksz (P:Program) (t:TypeId) : Option (Bool × Nat) :=
  match P.underlying t with
  | some d=>(P.info? t).map fun i=>(d.isRow,i.size)
  | none=>none
def kfld (P:Program) (t:TypeId) (i:Nat) : Option (Nat × TypeId) :=
  match P.underlying t with
  | some (.struct fs)=>(fs[i]?).bind fun f=>match P.info? f.type with
    | some j=>if j.size=0 then none else some (f.offset,f.type)
    | none=>none
  | _=>none
def kel (P:Program) (t:TypeId) : Option (Option Nat × Nat × TypeId) :=
  match P.underlying t with
  | some (.slice e)=>(P.info? e).map fun i=>(none,i.size,e)
  | some (.array n e)=>(P.info? e).map fun i=>(some n,i.size,e)
  | _=>none
def kint (P:Program) (t:TypeId) : Option IntKind :=
  match P.underlying t with
  | some (.int k)=>some k
  | _=>none
def kstr (P:Program) (t:TypeId) : Bool :=
  match P.underlying t with
  | some .string=>true
  | _=>false

def leafConst:Value→V
  | .int k n=>.d (.int k n)
  | .bool b=>.d (.bool b)
  | .string s=>.d (.str s)
  | .pointer none=>.d .nilptr
  | .slice _ 0 0=>.nil
  | .map none=>.d .nilmap
  | .nilFunc=>.d .nilfn
  | .nilIface=>.d .niliface
  | _=>.junk
def ofConst:Value→V
  | .agg cs=>.agg (cs.toList.map leafConst)
  | v=>leafConst v
def St.ev (s:St) : Operand→V
  | .tmp t=>s.get t
  | .const v=>ofConst v
  | .func f=>.d (.fn (.func f) [])
  | .global g=>match globT g with
    | some cells=>.d (.cp cells 0)
    | none=>.junk

def V.strip:V→Prop × V
  | .opt g x=>(g=true,x)
  | v=>(True,v)

def arith (op:BinOp) (x y:D) : Option (Prop × D) :=
  match op,x,y with
  | .add,.int k a,.int k' b=>some (k=k',.int k (k.wrap (a+b)))
  | .sub,.int k a,.int k' b=>some (k=k',.int k (k.wrap (a - b)))
  | .mul,.int k a,.int k' b=>some (k=k',.int k (k.wrap (a*b)))
  | .quo,.int k a,.int k' b=>some (k=k'∧b≠0,.int k (k.wrap (a.tdiv b)))
  | .rem,.int k a,.int k' b=>some (k=k'∧b≠0,.int k (a.tmod b))
  | .shr,.int k a,.int _ b=>some (0≤b∧b≤k.bits,.int k (a / 2 ^ b.toNat))
  | .shl,.int k a,.int _ b=>some (0≤b∧b≤k.bits,.int k (k.wrap (a*2 ^ b.toNat)))
  | .and,.int k a,.int k' b=>some (k=k',.int k (bits .and k a b))
  | .or,.int k a,.int k' b=>some (k=k',.int k (bits .or k a b))
  | .xor,.int k a,.int k' b=>some (k=k',.int k (bits .xor k a b))
  | .eql,.int k a,.int k' b=>some (k=k',.bool (a==b))
  | .neq,.int k a,.int k' b=>some (k=k',.bool (a != b))
  | .lss,.int k a,.int k' b=>some (k=k',.bool (a<b))
  | .leq,.int k a,.int k' b=>some (k=k',.bool (a≤b))
  | .gtr,.int k a,.int k' b=>some (k=k',.bool (a > b))
  | .geq,.int k a,.int k' b=>some (k=k',.bool (a ≥ b))
  | .eql,.str a,.str b=>some (True,.bool (a==b))
  | .neq,.str a,.str b=>some (True,.bool (a != b))
  | .add,.str a,.str b=>some (a.size+b.size≤9223372036854775807,.str (a++b))
  | .lss,.str a,.str b=>some (True,.bool (Op.bytesLess a.toList b.toList))
  | .leq,.str a,.str b=>some (True,.bool (Op.bytesLess a.toList b.toList||a==b))
  | .gtr,.str a,.str b=>some (True,.bool (!(Op.bytesLess a.toList b.toList||a==b)))
  | .geq,.str a,.str b=>some (True,.bool (!Op.bytesLess a.toList b.toList))
  | .andNot,.int k a,.int k' b=>some (k=k',.int k (bits .andNot k a b))
  | _,_,_=>none

def klf (P:Program) (t:TypeId) : Nat :=
  match P.underlying t with
  | some (.int _)=>1
  | some .bool=>2
  | some .string=>3
  | _=>0
def kst (P:Program) (t:TypeId) : Option (List (TypeId × Nat)) :=
  match P.underlying t with
  | some (.struct fs) => if !P.stoodInHeld t && !P.eqGuardType P.depth t && fs.toList.all (fun f => f.name != "_") then some (fs.toList.map fun f => (f.type, f.offset)) else none
  | _=>none
def cutQ (P:Program) (u:TypeId) (o:Nat) (xs:List V) : Option (Prop × V) :=
  match ksz P u with
  | some (true,n)=>some (o+n≤xs.length,.agg ((xs.drop o).take n))
  | some (false,_)=>some (o<xs.length,xs.getD o .junk)
  | none=>none
def eqFs (P:Program) (f:TypeId→V→V→Option (Prop × Bool)) : List (TypeId × Nat)→List V→List V→Option (Prop × Bool)
  | [],_,_=>some (True,true)
  | (u,o)::fs,xs,ys =>
    match cutQ P u o xs,cutQ P u o ys with
    | some (p,x),some (q,y) =>
      match f u x y,eqFs P f fs xs ys with
      | some (r,b),some (r',b')=>some (p∧q∧r∧r',b&&b')
      | _,_=>none
    | _,_=>none
def eqQ (P:Program) : Nat→TypeId→V→V→Option (Prop × Bool)
  | 0,_,_,_=>none
  | d+1,t,x,y =>
    match x,y with
    | .d (.int k a),.d (.int k' b)=>if klf P t=1 then some (k=k',a==b) else none
    | .d (.bool a),.d (.bool b)=>if klf P t=2 then some (True,a==b) else none
    | .d (.str a),.d (.str b)=>if klf P t=3 then some (True,a==b) else none
    | .agg xs,.agg ys =>
      match kst P t with
      | some fs=>eqFs P (eqQ P d) fs xs ys
      | none=>none
    | _,_=>none
def binQ (P:Program) (op:BinOp) (t:TypeId) (x y:V) : Option (Prop × V) :=
  match x,y with
  | .d a,.d b =>
    match arith op a b with
    | some r=>some (r.1,.d r.2)
    | none =>
      match op,a,b with
      | .eql,.bool a,.bool b=>if klf P t=2 then some (True,.d (.bool (a==b))) else none
      | .neq,.bool a,.bool b=>if klf P t=2 then some (True,.d (.bool (a != b))) else none
      | _,_,_=>none
  | .agg xs,.agg ys =>
    match op with
    | .eql=>(eqQ P 4 t (.agg xs) (.agg ys)).map fun r=>(r.1,.d (.bool r.2))
    | .neq=>(eqQ P 4 t (.agg xs) (.agg ys)).map fun r=>(r.1,.d (.bool (!r.2)))
    | _=>none
  | _,_=>none

def boolOf:V→Option (Prop × Bool)
  | .d (.bool b)=>some (True,b)
  | .opt g (.d (.bool b))=>some (g=true,b)
  | .opt false _=>some (False,false)
  | _=>none

def ksl (P:Program) (t:TypeId) : Bool :=
  match P.underlying t with
  | some (.slice _)=>true
  | _=>false
def lenQ (P:Program) (t:TypeId) : V→Option Nat
  | .ref _ _ n=>if ksl P t then some n else none
  | .d (.sl rows)=>if ksl P t then some rows.length else none
  | .d (.str s)=>if kstr P t then some s.size else none
  | .nil=>if ksl P t then some 0 else none
  | _=>none

def loadQ (P:Program) (H:List Blk) (t:TypeId) : V→Option (Prop × V)
  | .ptr id row off =>
    match ksz P t,H[id]? with
    | some (true,n),some (.data k rows)=>some (off+n≤k,.agg ((((rows[row]?.getD []).drop off).take n).map .d))
    | some (false,1),some (.data k rows)=>some (off<k,.d ((rows[row]?.getD []).getD off .nilptr))
    | some (true,n),some (.cells xs)=>some (off+n≤xs.length,.agg ((xs.drop off).take n))
    | some (false,1),some (.cells xs)=>some (off<xs.length,xs.getD off .junk)
    | some (true,n),some (.vrs k rs)=>some (off+n≤k,.agg (((rs[row]?.getD []).drop off).take n))
    | some (false,1),some (.vrs k rs)=>some (off<k,(rs[row]?.getD []).getD off .junk)
    | _,_=>none
  | .d (.cp cells off) =>
    match ksz P t with
    | some (true,n)=>some (off+n≤cells.length,.agg (((cells.drop off).take n).map .d))
    | some (false,1)=>some (off<cells.length,.d (cells.getD off .nilptr))
    | _=>none
  | _=>none

def fieldAddrQ (P:Program) (t:TypeId) (i:Nat) : V→Option (Prop × V)
  | .ptr id row off=>(kfld P t i).map fun f=>(True,.ptr id row (off+f.1))
  | .d (.cp cells off)=>(kfld P t i).map fun f=>(True,.d (.cp cells (off+f.1)))
  | _=>none

def indexAddrQ (P:Program) (H:List Blk) (t:TypeId) (x:V) (i:Int) : Option (Prop × V) :=
  match x with
  | .ref id off len =>
    match kel P t,H[id]? with
    | some (none,n,_),some (.data k _)=>some (n=k∧0≤i∧i<len,.ptr id (off+i.toNat) 0)
    | some (none,n,_),some (.vrs k _)=>some (n=k∧0≤i∧i<len,.ptr id (off+i.toNat) 0)
    | _,_=>none
  | .d (.sl rows) =>
    match kel P t with
    | some (none,n,_)=>some (0≤i∧i<rows.length∧(∀ row∈rows,row.length=n),.d (.cp (rows[i.toNat]?.getD []) 0))
    | _=>none
  | .ptr id row off =>
    match kel P t with
    | some (some m,n,_)=>some (0≤i∧i<m,.ptr id row (off+i.toNat*n))
    | _=>none
  | .d (.cp cells off) =>
    match kel P t with
    | some (some m,n,_)=>some (0≤i∧i<m,.d (.cp cells (off+i.toNat*n)))
    | _=>none
  | _=>none

def fieldQ (P:Program) (t:TypeId) (i:Nat) : V→Option (Prop × V)
  | .agg xs =>
    match kfld P t i with
    | some (o,u)=>match ksz P u with
      | some (true,n)=>some (o+n≤xs.length,.agg ((xs.drop o).take n))
      | some (false,1)=>some (o<xs.length,xs.getD o .junk)
      | _=>none
    | none=>none
  | _=>none

def indexQ (P:Program) (t:TypeId) (x:V) (i:Int) : Option (Prop × V) :=
  match x with
  | .agg xs =>
    match kel P t with
    | some (some m,n,u)=>match ksz P u with
      | some (true,_)=>some (0≤i∧i<m∧m*n≤xs.length,.agg ((xs.drop (i.toNat*n)).take n))
      | some (false,1)=>some (n=1∧0≤i∧i<m∧m≤xs.length,xs.getD i.toNat .junk)
      | _=>none
    | _=>none
  | .d (.str s)=>if kstr P t then some (0≤i∧i<s.size,.d (.int .u8 ((s.data.getD i.toNat 0).toNat:Int))) else none
  | _=>none

def bnd (s:St) (dflt:Int) : Option Operand→Option Int
  | none=>some dflt
  | some x=>match s.ev x with
    | .d (.int _ n)=>some n
    | _=>none

def sliceQ (P:Program) (H:List Blk) (t:TypeId) (x:V) (lo:Int) (hi:Option Int) (mx:Option Int) : Option (Prop × V) :=
  match x,hi,mx with
  | .ref id off len,h,none =>
    match kel P t,H[id]? with
    | some (none,n,_),some (.data k _)=>some (n=k∧0≤lo∧lo≤h.getD len∧h.getD len≤len,.ref id (off+lo.toNat) ((h.getD len).toNat - lo.toNat))
    | some (none,n,_),some (.vrs k _)=>some (n=k∧0≤lo∧lo≤h.getD len∧h.getD len≤len,.ref id (off+lo.toNat) ((h.getD len).toNat - lo.toNat))
    | _,_=>none
  | .d (.sl rows),h,none =>
    match kel P t with
    | some (none,n,_)=>some (0≤lo∧lo≤h.getD rows.length∧h.getD rows.length≤rows.length∧(∀ row∈rows,row.length=n),.d (.sl ((rows.drop lo.toNat).take ((h.getD rows.length).toNat - lo.toNat))))
    | _=>none
  | .d (.sl _),some h,some m =>
    match kel P t with
    | some (none,_,_)=>some (lo=0∧h=0∧m=0,.nil)
    | _=>none
  | .nil,h,none =>
    match kel P t with
    | some (none,_,_)=>some (lo=0∧h.getD 0=0,.nil)
    | _=>none
  | .d (.cp cells off),none,none =>
    match kel P t with
    | some (some m,n,_)=>some (lo=0∧off=0∧n=1∧cells.length=m,.d (.sl (cells.map fun c=>[c])))
    | _=>none
  | .d (.str b),h,none=>if kstr P t then some (0≤lo∧lo≤h.getD b.size∧h.getD b.size≤b.size,.d (.str (b.extract lo.toNat (h.getD b.size).toNat))) else none
  | _,_,_=>none

def builtQ (P:Program) (s:St) (b:Builtin) (args:List Operand) (ts:List TypeId) : Option (Prop × V) :=
  match b,args,ts with
  | .len,[x],[t] =>
    match lenQ P t (s.ev x).strip.2 with
    | some n=>some ((s.ev x).strip.1,.d (.int .i64 n))
    | none=>none
  | .max,[x,y],_ =>
    match (s.ev x).strip.2,(s.ev y).strip.2 with
    | .d (.int k a),.d (.int _ b)=>some ((s.ev x).strip.1∧(s.ev y).strip.1,.d (.int k (max a b)))
    | _,_=>none
  | .min,[x,y],_ =>
    match (s.ev x).strip.2,(s.ev y).strip.2 with
    | .d (.int k a),.d (.int _ b)=>some ((s.ev x).strip.1∧(s.ev y).strip.1,.d (.int k (min a b)))
    | _,_=>none
  | .max,[x,y,z,u],_ =>
    match (s.ev x).strip.2,(s.ev y).strip.2,(s.ev z).strip.2,(s.ev u).strip.2 with
    | .d (.int k a),.d (.int _ b),.d (.int _ c),.d (.int _ e)=>some ((s.ev x).strip.1∧(s.ev y).strip.1∧(s.ev z).strip.1∧(s.ev u).strip.1,.d (.int k (max (max (max a b) c) e)))
    | _,_,_,_=>none
  | _,_,_=>none

def opQ (P:Program) (s:St) : Op→Option (Prop × V)
  | .move x=>some (True,s.ev x)
  | .assign x=>some (True,s.ev x)
  | .pick c a b =>
    match boolOf (s.ev c),boolOf (s.ev a),boolOf (s.ev b) with
    | some (r,c),some (p,x),some (q,y)=>some (r∧(c=true→p)∧(c=false→q),.d (.bool (bif c then x else y)))
    | _,_,_=>none
  | .load t x=>(loadQ P s.heap t (s.ev x).strip.2).map fun r=>((s.ev x).strip.1∧r.1,r.2)
  | .fieldAddr t x i=>(fieldAddrQ P t i (s.ev x).strip.2).map fun r=>((s.ev x).strip.1∧r.1,r.2)
  | .indexAddr t x i =>
    match (s.ev i).strip.2 with
    | .d (.int _ n)=>(indexAddrQ P s.heap t (s.ev x).strip.2 n).map fun r=>((s.ev x).strip.1∧(s.ev i).strip.1∧r.1,r.2)
    | _=>none
  | .field t x i=>(fieldQ P t i (s.ev x).strip.2).map fun r=>((s.ev x).strip.1∧r.1,r.2)
  | .index t x i =>
    match (s.ev i).strip.2 with
    | .d (.int _ n)=>(indexQ P t (s.ev x).strip.2 n).map fun r=>((s.ev x).strip.1∧(s.ev i).strip.1∧r.1,r.2)
    | _=>none
  | .binOp op t x y _=>(binQ P op t (s.ev x).strip.2 (s.ev y).strip.2).map fun r=>((s.ev x).strip.1∧(s.ev y).strip.1∧r.1,r.2)
  | .unOp .not _ x =>
    match (s.ev x).strip.2 with
    | .d (.bool b)=>some ((s.ev x).strip.1,.d (.bool (!b)))
    | _=>none
  | .unOp .neg _ x =>
    match (s.ev x).strip.2 with
    | .d (.int k n)=>some ((s.ev x).strip.1,.d (.int k (k.wrap (0 - n))))
    | _=>none
  | .unOp .xor _ x =>
    match (s.ev x).strip.2 with
    | .d (.int k n)=>some ((s.ev x).strip.1,.d (.int k (bits .xor k (if k.signed then -1 else k.max) n)))
    | _=>none
  | .convert src dst x =>
    match (s.ev x).strip.2,kint P src,kint P dst with
    | .d (.int _ n),some _,some k=>some ((s.ev x).strip.1,.d (.int k (k.wrap n)))
    | _,_,_=>none
  | .extract x i =>
    match (s.ev x).strip.2 with
    | .tup xs=>some ((s.ev x).strip.1∧i<xs.length,xs.getD i .junk)
    | _=>none
  | .slice t x lo hi mx =>
    match bnd s 0 lo,hi.map (fun h=>bnd s 0 (some h)),mx.map (fun h=>bnd s 0 (some h)) with
    | some l,none,none=>(sliceQ P s.heap t (s.ev x).strip.2 l none none).map fun r=>((s.ev x).strip.1∧r.1,r.2)
    | some l,some (some h),none=>(sliceQ P s.heap t (s.ev x).strip.2 l (some h) none).map fun r=>((s.ev x).strip.1∧r.1,r.2)
    | some l,some (some h),some (some m)=>(sliceQ P s.heap t (s.ev x).strip.2 l (some h) (some m)).map fun r=>((s.ev x).strip.1∧r.1,r.2)
    | _,_,_=>none
  | .makeFunc f first caps=>if first.size=0 then some (True,.fn f (caps.toList.map s.ev)) else none
  | .nilCheck x =>
    match (s.ev x).strip.2 with
    | .ptr id row off=>some ((s.ev x).strip.1,.ptr id row off)
    | .d (.cp cells off)=>some ((s.ev x).strip.1,.d (.cp cells off))
    | .fn (.func f) caps=>some ((s.ev x).strip.1,.fn (.func f) caps)
    | .d (.fn (.func f) caps)=>some ((s.ev x).strip.1,.d (.fn (.func f) caps))
    | .iface t y=>some ((s.ev x).strip.1,.iface t y)
    | _=>none
  | .call c =>
    match c.callee with
    | .builtin b=>builtQ P s b c.args.toList c.argTypes.toList
    | _=>none
  | _=>none

end Go.Aw

namespace Go.Aw
set_option linter.unusedSimpArgs false
set_option linter.unusedVariables false
open Go.RowKit

def Keep (w w':World) : Prop:=∀ b,b<w.heap.size→w'.heap[b]? = w.heap[b]?

theorem Keep.refl (w:World) : Keep w w:=fun _ _=>rfl

theorem V.strip_sound {E:Env} {F:Nat→Prop} {w:World} {x:V} {v:Value} (h:VR E F w x v) (hp:x.strip.1) : VR E F w x.strip.2 v:=by
  cases h with
  | opt g x v h hu=>exact h hp
  | refv id k m a hE=>exact .refv id k m a hE
  | _=>constructor <;> assumption

theorem leafConst_sound {E:Env} {F:Nat→Prop} {w:World} (v:Value) : VR E F w (leafConst v) v:=by
  unfold leafConst
  split
  · exact .d _ _ (.int _ _)
  · exact .d _ _ (.bool _)
  · exact .d _ _ (.str _)
  · exact .d _ _ .nilptr
  · exact .nil _
  · exact .d _ _ .nilmap
  · exact .d _ _ .nilfn
  · exact .d _ _ .niliface
  · exact .junk _

theorem ofConst_sound {E:Env} {F:Nat→Prop} {w:World} (v:Value) : VR E F w (ofConst v) v:=by
  unfold ofConst
  split
  · rename_i cs
    refine .agg _ cs (by simp) fun j x v hx hv => ?_
    simp only [List.getElem?_map,Array.getElem?_toList] at hx
    rw [hv] at hx
    simp at hx
    subst hx
    exact leafConst_sound v
  · exact leafConst_sound v

theorem ev_sound {B:Base} {s:St} {a:Act} {w:World} {E:Env} {F:Nat→Prop} (hs:Sim B s a w E F) (x:Operand) : VR E F w (s.ev x) (a.eval x):=by
  cases x with
  | tmp t =>
    simp only [St.ev,St.get,Act.eval]
    cases h:tget s.tm t with
    | none=>exact .junk _
    | some x =>
      obtain ⟨v,hv,hr⟩:=hs.tm t x h
      simp only [Option.getD_some,Array.getD_eq_getD_getElem?,hv]
      exact hr
  | const v=>exact ofConst_sound v
  | global g =>
    simp only [St.ev,Act.eval]
    cases h:globT g with
    | none=>exact .junk _
    | some cells=>exact .d _ _ (hs.rel.lt.gl g cells h)
  | func f=>exact .d _ _ (.fn _ [] #[] rfl (fun j x v hx _=>by simp at hx))

theorem cell_keep {w w':World} (hk:Keep w w') {b:Nat} {cs:Array Value} {t:TypeId} {fr:Nat × Nat} (h:w.heap[b]? = some (.cells cs t fr)) (j:Nat) :
    w'.cell? ⟨b,j,none⟩=cs[j]?:=by
  have hb:b<w.heap.size:=by
    rcases Nat.lt_or_ge b w.heap.size with h' | h'
    · exact h'
    · rw [Array.getElem?_eq_none h'] at h; cases h
  exact cell_of_row w' b j cs t fr ((hk b hb).trans h)

theorem run_loadAt_leaf {P:Program} (w:World) (t:TypeId) (ad:Addr) (v:Value) (h:ksz P t=some (false,1)) (hc:w.cell? ad=some v) :
    (Instr.loadAt t (.pointer (some ad))).run P w=.ok v w:=by
  unfold ksz at h
  cases hu:P.underlying t with
  | none=>simp [hu] at h
  | some d =>
    simp only [hu] at h
    cases hi:P.info? t with
    | none=>simp [hi] at h
    | some i =>
      simp [hi] at h
      have hagg:(isAgg t).run P w=.ok false w:=by
        unfold isAgg
        rw [Sem.run_bind,run_underlying hu w]
        cases d <;> simp_all [TypeDesc.isRow]
      simp [Instr.loadAt,Instr.sureAddr,loadVar,hagg,hc]

theorem run_loadAt_row {P:Program} (w:World) (t:TypeId) (b o n:Nat) (cs:List Value) (h:ksz P t=some (true,n)) (hn:cs.length=n)
    (hc:w.rangeAt b o cs) : (Instr.loadAt t (.pointer (some ⟨b,o,none⟩))).run P w=.ok (.agg cs.toArray) w:=by
  unfold ksz at h
  cases hu:P.underlying t with
  | none=>simp [hu] at h
  | some d =>
    simp only [hu] at h
    cases hi:P.info? t with
    | none=>simp [hi] at h
    | some i =>
      simp [hi] at h
      exact run_loadAt_mid w b o t cs d hc hu h.1 (by simp [hi,h.2,hn])

theorem lt_mul_of {row n k off m:Nat} (h:row<n) (ho:off+m≤k) : row*k+off+m≤n*k:=by
  have:(row+1)*k≤n*k:=Nat.mul_le_mul_right k h
  rw [Nat.add_mul,Nat.one_mul] at this
  omega

theorem slice_get {cs:Array Value} {o n j:Nat} (hj:j<n) : ((cs.toList.drop o).take n)[j]? = cs[o+j]?:=by
  rw [List.getElem?_take_of_lt hj,List.getElem?_drop,Array.getElem?_toList]

theorem loadQ_sound {P:Program} {E:Env} {F:Nat→Prop} {w:World} {H:List Blk} {t:TypeId} {x y:V} {ob:Prop} {v:Value} (h:loadQ P H t x=some (ob,y)) (hob:ob)
    (hr:HR E F w H) (hlt:∀ b,F b→b<w.heap.size) (hx:VR E F w x v) : ∃ u,VR E F w y u∧∀ w',Keep w w'→(Instr.loadAt t v).run P w'=.ok u w':=by
  cases hx with
  | ptr id row off b k m hE hrow =>
    simp only [loadQ] at h
    split at h
    · rename_i n k' rows hk hH
      simp only [Option.some.injEq,Prod.mk.injEq] at h
      obtain ⟨rfl,rfl⟩:=h
      have hoff:=hob
      obtain ⟨h1,hm,h2,h3⟩:=hr.blk _ _ _ hE hH
      dsimp only at h1 hm
      subst h1 hm
      rcases h3 with ⟨h3,_⟩ | ⟨b',cs,t',h3,hw,hsz,hcell⟩
      · cases h3
      simp only [Option.some.injEq] at h3
      subst h3
      have hrl:=(h2 row rows[row] (List.getElem?_eq_getElem hrow)).1
      have hb:=lt_mul_of (n:=rows.length) (m:=n) hrow hoff
      refine ⟨.agg ((cs.toList.drop (row*k+off)).take n).toArray,.agg _ _ ?_ ?_,fun w' hk' => ?_⟩
      · simp [List.getElem?_eq_getElem hrow,hrl]; omega
      · intro j x v hx hv
        simp only [List.getElem?_eq_getElem hrow,Option.getD_some,List.getElem?_map] at hx
        rcases Nat.lt_or_ge j n with hj | hj
        · rw [List.getElem?_take_of_lt hj,List.getElem?_drop] at hx
          cases hd:rows[row][off+j]? with
          | none=>simp [hd] at hx
          | some d =>
            simp [hd] at hx
            subst hx
            obtain ⟨u,hu,hrd⟩:=hcell row rows[row] (off+j) d (List.getElem?_eq_getElem hrow) hd
            simp only [List.getElem?_toArray,slice_get hj,Nat.add_assoc] at hv
            rw [hu] at hv
            cases hv
            exact .d _ _ hrd
        · rw [List.getElem?_take_eq_none hj] at hx
          simp at hx
      · refine run_loadAt_row w' t b _ n _ hk (by simp; omega) fun j v hv => ?_
        rcases Nat.lt_or_ge j n with hj | hj
        · rw [slice_get hj] at hv
          rw [cell_keep hk' hw]
          exact hv
        · rw [List.getElem?_take_eq_none hj] at hv; cases hv
    · rename_i k' rows hk hH
      simp only [Option.some.injEq,Prod.mk.injEq] at h
      obtain ⟨rfl,rfl⟩:=h
      have hoff:=hob
      obtain ⟨h1,hm,h2,h3⟩:=hr.blk _ _ _ hE hH
      dsimp only at h1 hm
      subst h1 hm
      rcases h3 with ⟨h3,_⟩ | ⟨b',cs,t',h3,hw,hsz,hcell⟩
      · cases h3
      simp only [Option.some.injEq] at h3
      subst h3
      have hrl:=(h2 row rows[row] (List.getElem?_eq_getElem hrow)).1
      have hd:rows[row][off]? = some (rows[row][off]'(by omega)):=List.getElem?_eq_getElem _
      obtain ⟨u,hu,hrd⟩:=hcell row rows[row] off _ (List.getElem?_eq_getElem hrow) hd
      refine ⟨u,?_,fun w' hk'=>run_loadAt_leaf w' t _ u hk ((cell_keep hk' hw _).trans hu)⟩
      simp only [List.getElem?_eq_getElem hrow,Option.getD_some,List.getD_eq_getElem?_getD,hd]
      exact .d _ _ hrd
    · rename_i n xs hk hH
      simp only [Option.some.injEq,Prod.mk.injEq] at h
      obtain ⟨rfl,rfl⟩:=h
      have hoff:=hob
      obtain ⟨h1,hm,b',cs,t',h3,hw,hsz,hcell⟩:=hr.blk _ _ _ hE hH
      dsimp only at hm
      subst hm
      obtain rfl:row=0:=by omega
      simp only [Option.some.injEq] at h3
      subst h3
      refine ⟨.agg ((cs.toList.drop off).take n).toArray,.agg _ _ (by simp; omega) ?_,fun w' hk' => ?_⟩
      · intro j x v hx hv
        rcases Nat.lt_or_ge j n with hj | hj
        · rw [List.getElem?_take_of_lt hj,List.getElem?_drop] at hx
          obtain ⟨u,hu,hrd⟩:=hcell _ x hx
          simp only [List.getElem?_toArray,slice_get hj] at hv
          rw [hu] at hv
          cases hv
          exact hrd
        · rw [List.getElem?_take_eq_none hj] at hx; cases hx
      · simp only [Nat.zero_mul,Nat.zero_add]
        refine run_loadAt_row w' t b _ n _ hk (by simp; omega) fun j v hv => ?_
        rcases Nat.lt_or_ge j n with hj | hj
        · rw [slice_get hj] at hv
          rw [cell_keep hk' hw]
          exact hv
        · rw [List.getElem?_take_eq_none hj] at hv; cases hv
    · rename_i xs hk hH
      simp only [Option.some.injEq,Prod.mk.injEq] at h
      obtain ⟨rfl,rfl⟩:=h
      have hoff:=hob
      obtain ⟨h1,hm,b',cs,t',h3,hw,hsz,hcell⟩:=hr.blk _ _ _ hE hH
      dsimp only at hm
      subst hm
      obtain rfl:row=0:=by omega
      simp only [Option.some.injEq] at h3
      subst h3
      obtain ⟨u,hu,hrd⟩:=hcell off _ (List.getElem?_eq_getElem hoff)
      refine ⟨u,?_,fun w' hk'=>run_loadAt_leaf w' t _ u hk ?_⟩
      · simp only [List.getD_eq_getElem?_getD,List.getElem?_eq_getElem hoff,Option.getD_some]
        exact hrd
      · simp only [Nat.zero_mul,Nat.zero_add]
        exact (cell_keep hk' hw _).trans hu
    · rename_i n k' rows hk hH
      simp only [Option.some.injEq,Prod.mk.injEq] at h
      obtain ⟨rfl,rfl⟩:=h
      have hoff:=hob
      obtain ⟨h1,hm,h2,h3⟩:=hr.blk _ _ _ hE hH
      dsimp only at h1 hm
      subst h1 hm
      rcases h3 with ⟨h3,_⟩ | ⟨b',cs,t',h3,hw,hsz,hcell⟩
      · cases h3
      simp only [Option.some.injEq] at h3
      subst h3
      have hrl:=h2 row rows[row] (List.getElem?_eq_getElem hrow)
      have hb:=lt_mul_of (n:=rows.length) (m:=n) hrow hoff
      refine ⟨.agg ((cs.toList.drop (row*k+off)).take n).toArray,.agg _ _ ?_ ?_,fun w' hk' => ?_⟩
      · simp [List.getElem?_eq_getElem hrow,hrl]; omega
      · intro j x v hx hv
        simp only [List.getElem?_eq_getElem hrow,Option.getD_some] at hx
        rcases Nat.lt_or_ge j n with hj | hj
        · rw [List.getElem?_take_of_lt hj,List.getElem?_drop] at hx
          obtain ⟨u,hu,_,hrd⟩:=hcell row rows[row] (off+j) x (List.getElem?_eq_getElem hrow) hx
          simp only [List.getElem?_toArray,slice_get hj,Nat.add_assoc] at hv
          rw [hu] at hv
          cases hv
          exact hrd
        · rw [List.getElem?_take_eq_none hj] at hx
          simp at hx
      · refine run_loadAt_row w' t b _ n _ hk (by simp; omega) fun j v hv => ?_
        rcases Nat.lt_or_ge j n with hj | hj
        · rw [slice_get hj] at hv
          rw [cell_keep hk' hw]
          exact hv
        · rw [List.getElem?_take_eq_none hj] at hv; cases hv
    · rename_i k' rows hk hH
      simp only [Option.some.injEq,Prod.mk.injEq] at h
      obtain ⟨rfl,rfl⟩:=h
      have hoff:=hob
      obtain ⟨h1,hm,h2,h3⟩:=hr.blk _ _ _ hE hH
      dsimp only at h1 hm
      subst h1 hm
      rcases h3 with ⟨h3,_⟩ | ⟨b',cs,t',h3,hw,hsz,hcell⟩
      · cases h3
      simp only [Option.some.injEq] at h3
      subst h3
      have hrl:=h2 row rows[row] (List.getElem?_eq_getElem hrow)
      have hd:rows[row][off]? = some (rows[row][off]'(by omega)):=List.getElem?_eq_getElem _
      obtain ⟨u,hu,_,hrd⟩:=hcell row rows[row] off _ (List.getElem?_eq_getElem hrow) hd
      refine ⟨u,?_,fun w' hk'=>run_loadAt_leaf w' t _ u hk ((cell_keep hk' hw _).trans hu)⟩
      simp only [List.getElem?_eq_getElem hrow,Option.getD_some,List.getD_eq_getElem?_getD,hd]
      exact hrd
    · cases h
  | d x v hd =>
    cases hd with
    | cp b o off xs c hF hc hrd =>
      simp only [loadQ] at h
      have hkc:∀ w',Keep w w'→∀ j,j<xs.length→w'.cell? ⟨b,o+j,none⟩=some (c j):=fun w' hk' j hj =>
        (World.cell?_of_block (w:=w) (hk' b (hlt b hF))).trans (hc j hj)
      split at h
      · rename_i n hk
        simp only [Option.some.injEq,Prod.mk.injEq] at h
        obtain ⟨rfl,rfl⟩:=h
        refine ⟨.agg ((List.range n).map fun j=>c (off+j)).toArray,.agg _ _ (by simp; omega) ?_,fun w' hk' => ?_⟩
        · intro j x v hx hv
          simp only [List.getElem?_map] at hx
          rcases Nat.lt_or_ge j n with hj | hj
          · rw [List.getElem?_take_of_lt hj,List.getElem?_drop] at hx
            cases hd:xs[off+j]? with
            | none=>simp [hd] at hx
            | some d =>
              simp [hd] at hx
              subst hx
              simp [hj] at hv
              subst hv
              exact .d _ _ (hrd _ _ hd)
          · rw [List.getElem?_take_eq_none hj] at hx
            simp at hx
        · refine run_loadAt_row w' t b _ n _ hk (by simp) fun j v hv => ?_
          rcases Nat.lt_or_ge j n with hj | hj
          · simp [hj] at hv
            subst hv
            rw [Nat.add_assoc]
            exact hkc w' hk' (off+j) (by omega)
          · rw [List.getElem?_eq_none (by simp; omega)] at hv; cases hv
      · rename_i hk
        simp only [Option.some.injEq,Prod.mk.injEq] at h
        obtain ⟨rfl,rfl⟩:=h
        refine ⟨c off,?_,fun w' hk'=>run_loadAt_leaf w' t _ _ hk (hkc w' hk' off hob)⟩
        simp only [List.getD_eq_getElem?_getD,List.getElem?_eq_getElem hob,Option.getD_some]
        exact .d _ _ (hrd _ _ (List.getElem?_eq_getElem hob))
      · cases h
    | _=>simp [loadQ] at h
  | _=>simp [loadQ] at h

end Go.Aw

namespace Go.Aw
set_option linter.unusedSimpArgs false
set_option linter.unusedVariables false
open Go.RowKit

theorem kfld_spec {P:Program} {t i o:Nat} {u:TypeId} (h:kfld P t i=some (o,u)) :
    ∃ fs f j,P.underlying t=some (.struct fs)∧fs[i]? = some f∧P.info? f.type=some j∧j.size≠0∧f.offset=o∧f.type=u:=by
  unfold kfld at h
  split at h
  · rename_i fs hu
    cases hf:fs[i]? with
    | none=>simp [hf] at h
    | some f =>
      simp only [hf,Option.bind_some] at h
      split at h
      · rename_i j hj
        by_cases h0:j.size=0
        · simp [h0] at h
        · simp [h0] at h
          exact ⟨fs,f,j,hu,hf,hj,h0,h.1,h.2⟩
      · cases h
  · cases h

theorem run_fieldAt_of {P:Program} (w:World) {t i o:Nat} {u:TypeId} (h:kfld P t i=some (o,u)) (b x:Nat) :
    (Instr.fieldAt t (.pointer (some ⟨b,x,none⟩)) i).run P w=.ok (.pointer (some ⟨b,x+o,none⟩)) w:=by
  obtain ⟨fs,f,j,hu,hf,hj,h0,rfl,rfl⟩:=kfld_spec h
  simp [Instr.fieldAt,run_underlying hu,hf,Instr.sureAddr,fieldPlace,sizeOf,typeInfo,hj,h0,Addr.add_mid]

theorem fieldAddrQ_sound {P:Program} {E:Env} {F:Nat→Prop} {w:World} {t i:Nat} {x y:V} {ob:Prop} {v:Value} (h:fieldAddrQ P t i x=some (ob,y))
    (hx:VR E F w x v) : ∃ u,VR E F w y u∧∀ w',(Instr.fieldAt t v i).run P w'=.ok u w':=by
  cases hx with
  | ptr id row off b k m hE hm =>
    simp only [fieldAddrQ] at h
    cases hk:kfld P t i with
    | none=>simp [hk] at h
    | some f =>
      simp only [hk,Option.map_some,Option.some.injEq,Prod.mk.injEq] at h
      obtain ⟨_,rfl⟩:=h
      exact ⟨_,.ptr id row (off+f.1) b k m hE hm,fun w'=>by rw [run_fieldAt_of w' hk,Nat.add_assoc]⟩
  | d x v hd =>
    cases hd with
    | cp b o off xs c hF hc hr =>
      simp only [fieldAddrQ] at h
      cases hk:kfld P t i with
      | none=>simp [hk] at h
      | some f =>
        simp only [hk,Option.map_some,Option.some.injEq,Prod.mk.injEq] at h
        obtain ⟨_,rfl⟩:=h
        exact ⟨_,.d _ _ (.cp b o (off+f.1) xs c hF hc hr),fun w'=>by rw [run_fieldAt_of w' hk,Nat.add_assoc]⟩
    | _=>simp [fieldAddrQ] at h
  | _=>simp [fieldAddrQ] at h

theorem kel_slice {P:Program} {t n:Nat} {u:TypeId} (h:kel P t=some (none,n,u)) : ∃ i,P.underlying t=some (.slice u)∧P.info? u=some i∧i.size=n:=by
  unfold kel at h
  split at h
  · rename_i e hu
    cases hi:P.info? e with
    | none=>simp [hi] at h
    | some i=>simp [hi] at h; obtain ⟨h1,rfl⟩:=h; exact ⟨i,hu,hi,h1⟩
  · rename_i n e hu
    cases hi:P.info? e with
    | none=>simp [hi] at h
    | some i=>simp [hi] at h
  · cases h

theorem kel_array {P:Program} {t m n:Nat} {u:TypeId} (h:kel P t=some (some m,n,u)) : ∃ i,P.underlying t=some (.array m u)∧P.info? u=some i∧i.size=n:=by
  unfold kel at h
  split at h
  · rename_i e hu
    cases hi:P.info? e with
    | none=>simp [hi] at h
    | some i=>simp [hi] at h
  · rename_i m' e hu
    cases hi:P.info? e with
    | none=>simp [hi] at h
    | some i=>simp [hi] at h; obtain ⟨h0,h1,rfl⟩:=h; subst h0; exact ⟨i,hu,hi,h1⟩
  · cases h

theorem run_indexAt_sl {P:Program} (w:World) {t n:Nat} {u:TypeId} (h:kel P t=some (none,n,u)) (b o len cap:Nat) (k:IntKind) (i:Int) (h0:0≤i) (h1:i<len) :
    (Instr.indexAt t (.slice (some ⟨b,o,none⟩) len cap) (.int k i)).run P w=.ok (.pointer (some ⟨b,o+i.toNat*n,none⟩)) w:=by
  obtain ⟨j,hu,hj,rfl⟩:=kel_slice h
  simp [Instr.indexAt,asIntOf,run_underlying hu,h0,h1,sizeOf,typeInfo,hj,Addr.add_mid]

theorem run_indexAt_arr {P:Program} (w:World) {t m n:Nat} {u:TypeId} (h:kel P t=some (some m,n,u)) (b o:Nat) (k:IntKind) (i:Int) (h0:0≤i) (h1:i<m) :
    (Instr.indexAt t (.pointer (some ⟨b,o,none⟩)) (.int k i)).run P w=.ok (.pointer (some ⟨b,o+i.toNat*n,none⟩)) w:=by
  obtain ⟨j,hu,hj,rfl⟩:=kel_array h
  simp [Instr.indexAt,asIntOf,Instr.sureAddr,run_underlying hu,h0,h1,sizeOf,typeInfo,hj,Addr.add_mid]

theorem indexAddrQ_sound {P:Program} {E:Env} {F:Nat→Prop} {w:World} {H:List Blk} {t:TypeId} {x y:V} {ob:Prop} {v:Value} {i:Int} (k:IntKind)
    (h:indexAddrQ P H t x i=some (ob,y)) (hob:ob) (hr:HR E F w H) (hx:VR E F w x v) :
    ∃ u,VR E F w y u∧∀ w',(Instr.indexAt t v (.int k i)).run P w'=.ok u w':=by
  cases hx with
  | ref id off len b k' m a cap n hE hm ha hl hb hc =>
    simp only [indexAddrQ] at h
    split at h
    · rename_i n' u k2 rows hk hH
      simp only [Option.some.injEq,Prod.mk.injEq] at h
      obtain ⟨rfl,rfl⟩:=h
      obtain ⟨rfl,h0,h1⟩:=hob
      obtain ⟨e1,_⟩:=hr.blk _ _ _ hE hH
      dsimp only at e1
      subst e1
      rw [ha (.inl (by omega))]
      exact ⟨_,.ptr id (off+i.toNat) 0 b k' m hE (by omega),fun w'=>by rw [run_indexAt_sl w' hk b _ len cap k i h0 h1,Nat.add_zero,Nat.add_mul]⟩
    · rename_i n' u k2 rows hk hH
      simp only [Option.some.injEq,Prod.mk.injEq] at h
      obtain ⟨rfl,rfl⟩:=h
      obtain ⟨rfl,h0,h1⟩:=hob
      obtain ⟨e1,_⟩:=hr.blk _ _ _ hE hH
      dsimp only at e1
      subst e1
      rw [ha (.inl (by omega))]
      exact ⟨_,.ptr id (off+i.toNat) 0 b k' m hE (by omega),fun w'=>by rw [run_indexAt_sl w' hk b _ len cap k i h0 h1,Nat.add_zero,Nat.add_mul]⟩
    · cases h
  | refv id k' m a hE =>
    simp only [indexAddrQ] at h
    split at h
    · simp only [Option.some.injEq,Prod.mk.injEq] at h
      obtain ⟨rfl,rfl⟩:=h
      obtain ⟨_,h0,h1⟩:=hob
      exact absurd h1 (by simp; omega)
    · simp only [Option.some.injEq,Prod.mk.injEq] at h
      obtain ⟨rfl,rfl⟩:=h
      obtain ⟨_,h0,h1⟩:=hob
      exact absurd h1 (by simp; omega)
    · cases h
  | ptr id row off b k' m' hE hm =>
    simp only [indexAddrQ] at h
    split at h
    · rename_i m n u hk
      simp only [Option.some.injEq,Prod.mk.injEq] at h
      obtain ⟨rfl,rfl⟩:=h
      exact ⟨_,.ptr id row (off+i.toNat*n) b k' m' hE hm,fun w'=>by rw [run_indexAt_arr w' hk b _ k i hob.1 hob.2,Nat.add_assoc]⟩
    · cases h
  | d x v hd =>
    cases hd with
    | sl0 a cap =>
      simp only [indexAddrQ] at h
      split at h
      · simp only [Option.some.injEq,Prod.mk.injEq] at h
        obtain ⟨rfl,rfl⟩:=h
        obtain ⟨h0,h1,_⟩:=hob
        exact absurd h1 (by simp; omega)
      · cases h
    | sl b off cap k' rows c hn hF hkk hc hrr =>
      simp only [indexAddrQ] at h
      split at h
      · rename_i n u hk
        simp only [Option.some.injEq,Prod.mk.injEq] at h
        obtain ⟨rfl,rfl⟩:=h
        obtain ⟨h0,h1,h2⟩:=hob
        have hlt:i.toNat<rows.length:=by omega
        have hrow:rows[i.toNat]? = some rows[i.toNat]:=List.getElem?_eq_getElem hlt
        have hlen:=hkk _ _ hrow
        simp only [hrow,Option.getD_some]
        have hnk:k'=n:=by have:=h2 _ (List.getElem_mem hlt); omega
        subst hnk
        refine ⟨.pointer (some ⟨b,off+i.toNat*k'+0,none⟩),.d _ _ (.cp b (off+i.toNat*k') 0 _ (fun j=>c i.toNat j) hF (fun j hj => ?_) fun j x hj=>hrr _ _ _ _ hrow hj),fun w' => ?_⟩
        · have:=hc i.toNat j hlt (by omega)
          rwa [← Nat.add_assoc] at this
        · exact run_indexAt_sl w' hk b off rows.length cap k i h0 h1
      · cases h
    | cp b o off xs c hF hc hrr =>
      simp only [indexAddrQ] at h
      split at h
      · rename_i m n u hk
        simp only [Option.some.injEq,Prod.mk.injEq] at h
        obtain ⟨rfl,rfl⟩:=h
        exact ⟨_,.d _ _ (.cp b o (off+i.toNat*n) xs c hF hc hrr),fun w'=>by rw [run_indexAt_arr w' hk b _ k i hob.1 hob.2,Nat.add_assoc]⟩
      · cases h
    | _=>simp [indexAddrQ] at h
  | _=>simp [indexAddrQ] at h

theorem ksz_row {P:Program} {t n:Nat} (h:ksz P t=some (true,n)) (w:World) : (isAgg t).run P w=.ok true w∧(sizeOf t).run P w=.ok n w:=by
  unfold ksz at h
  cases hu:P.underlying t with
  | none=>simp [hu] at h
  | some d =>
    simp only [hu] at h
    cases hi:P.info? t with
    | none=>simp [hi] at h
    | some i =>
      simp [hi] at h
      refine ⟨?_,by simp [sizeOf,typeInfo,hi,h.2]⟩
      unfold isAgg
      rw [Sem.run_bind,run_underlying hu w]
      cases d <;> simp_all [TypeDesc.isRow]

theorem ksz_leaf {P:Program} {t n:Nat} (h:ksz P t=some (false,n)) (w:World) : (isAgg t).run P w=.ok false w∧(sizeOf t).run P w=.ok n w:=by
  unfold ksz at h
  cases hu:P.underlying t with
  | none=>simp [hu] at h
  | some d =>
    simp only [hu] at h
    cases hi:P.info? t with
    | none=>simp [hi] at h
    | some i =>
      simp [hi] at h
      refine ⟨?_,by simp [sizeOf,typeInfo,hi,h.2]⟩
      unfold isAgg
      rw [Sem.run_bind,run_underlying hu w]
      cases d <;> simp_all [TypeDesc.isRow]

theorem part_row {P:Program} {E:Env} {F:Nat→Prop} {w:World} {t n o:Nat} {xs:List V} {cs:Array Value} (h:ksz P t=some (true,n)) (hs:cs.size=xs.length)
    (hr:∀ (j:Nat) (x:V) (v:Value),xs[j]? = some x→cs[j]? = some v→VR E F w x v) (hb:o+n≤xs.length) :
    VR E F w (.agg ((xs.drop o).take n)) (.agg (cs.extract o (o+n)))∧∀ w',(part t cs o).run P w'=.ok (.agg (cs.extract o (o+n))) w':=by
  refine ⟨.agg _ _ (by simp; omega) fun j x v hx hv => ?_,fun w'=>by simp [part,(ksz_row h w').1,(ksz_row h w').2]⟩
  rcases Nat.lt_or_ge j n with hj | hj
  · rw [List.getElem?_take_of_lt hj,List.getElem?_drop] at hx
    rw [Array.getElem?_extract] at hv
    split at hv
    · exact hr _ _ _ hx hv
    · cases hv
  · rw [List.getElem?_take_eq_none hj] at hx; cases hx

theorem part_leaf {P:Program} {E:Env} {F:Nat→Prop} {w:World} {t n o:Nat} {xs:List V} {cs:Array Value} (h:ksz P t=some (false,n)) (hs:cs.size=xs.length)
    (hr:∀ (j:Nat) (x:V) (v:Value),xs[j]? = some x→cs[j]? = some v→VR E F w x v) (hb:o<xs.length) :
    ∃ u,VR E F w (xs.getD o .junk) u∧∀ w',(part t cs o).run P w'=.ok u w':=by
  have hc:cs[o]? = some (cs[o]'(by omega)):=Array.getElem?_eq_getElem _
  refine ⟨cs[o]'(by omega),?_,fun w'=>by simp [part,(ksz_leaf h w').1,hc]⟩
  rw [List.getD_eq_getElem?_getD,List.getElem?_eq_getElem hb]
  exact hr o _ _ (List.getElem?_eq_getElem hb) hc

theorem fieldQ_sound {P:Program} {E:Env} {F:Nat→Prop} {w:World} {t i:Nat} {x y:V} {ob:Prop} {v:Value} (h:fieldQ P t i x=some (ob,y)) (hob:ob)
    (hx:VR E F w x v) : ∃ u,VR E F w y u∧∀ w',(Instr.field t v i).run P w'=.ok u w':=by
  cases hx with
  | agg xs cs hs hr =>
    simp only [fieldQ] at h
    cases hk:kfld P t i with
    | none=>simp [hk] at h
    | some f =>
      obtain ⟨o,u⟩:=f
      simp only [hk] at h
      obtain ⟨fs,f,j,hu,hf,hj,h0,rfl,rfl⟩:=kfld_spec hk
      split at h
      · rename_i n hz
        simp only [Option.some.injEq,Prod.mk.injEq] at h
        obtain ⟨rfl,rfl⟩:=h
        obtain ⟨h1,h2⟩:=part_row hz hs hr hob
        exact ⟨_,h1,fun w'=>by simp [Instr.field,run_underlying hu,hf,asAgg,h2]⟩
      · rename_i hz
        simp only [Option.some.injEq,Prod.mk.injEq] at h
        obtain ⟨rfl,rfl⟩:=h
        obtain ⟨u,h1,h2⟩:=part_leaf hz hs hr hob
        exact ⟨u,h1,fun w'=>by simp [Instr.field,run_underlying hu,hf,asAgg,h2]⟩
      · cases h
  | _=>simp [fieldQ] at h

theorem indexQ_sound {P:Program} {E:Env} {F:Nat→Prop} {w:World} {t:Nat} {x y:V} {ob:Prop} {v:Value} {i:Int} (k:IntKind) (h:indexQ P t x i=some (ob,y)) (hob:ob)
    (hx:VR E F w x v) : ∃ u,VR E F w y u∧∀ w',(Instr.index t v (.int k i)).run P w'=.ok u w':=by
  cases hx with
  | agg xs cs hs hr =>
    simp only [indexQ] at h
    split at h
    · rename_i m n u hk
      obtain ⟨j,hu,hj,rfl⟩:=kel_array hk
      split at h
      · rename_i n' hz
        simp only [Option.some.injEq,Prod.mk.injEq] at h
        obtain ⟨rfl,rfl⟩:=h
        obtain ⟨h0,h1,h2⟩:=hob
        have hn:n'=j.size:=by
          have:=(ksz_row hz w).2
          simpa [sizeOf,typeInfo,hj] using this.symm
        subst hn
        obtain ⟨h3,h4⟩:=part_row (o:=i.toNat*j.size) hz hs hr (by
          have:(i.toNat+1)*j.size≤m*j.size:=Nat.mul_le_mul_right _ (by omega)
          rw [Nat.add_mul,Nat.one_mul] at this
          omega)
        exact ⟨_,h3,fun w'=>by simp [Instr.index,asIntOf,run_underlying hu,h0,h1,sizeOf,typeInfo,hj,h4]⟩
      · rename_i hz
        simp only [Option.some.injEq,Prod.mk.injEq] at h
        obtain ⟨rfl,rfl⟩:=h
        obtain ⟨hn,h0,h1,h2⟩:=hob
        obtain ⟨u,h3,h4⟩:=part_leaf (o:=i.toNat) hz hs hr (by omega)
        exact ⟨u,h3,fun w'=>by simp [Instr.index,asIntOf,run_underlying hu,h0,h1,sizeOf,typeInfo,hj,hn,h4]⟩
      · cases h
    · cases h
  | d x v hd =>
    cases hd with
    | str s =>
      simp only [indexQ] at h
      split at h
      · rename_i hk
        simp only [Option.some.injEq,Prod.mk.injEq] at h
        obtain ⟨rfl,rfl⟩:=h
        obtain ⟨h0,h1⟩:=hob
        have hu:P.underlying t=some .string:=by
          unfold kstr at hk
          split at hk
          · assumption
          · cases hk
        have hlt:i.toNat<s.size:=by omega
        have hlt':i.toNat<s.data.size:=hlt
        refine ⟨_,.d _ _ (.int _ _),fun w' => ?_⟩
        have hb:s[i.toNat]? = some (s[i.toNat]'hlt):=getElem?_pos s _ hlt
        simp only [Instr.index,asIntOf,Sem.run_bind,Sem.run_pure,Result.andThen_ok,run_underlying hu,if_pos h0,hb]
        simp only [Sem.run_pure,Array.getD,dif_pos hlt']
        rfl
      · cases h
    | _=>simp [indexQ] at h
  | _=>simp [indexQ] at h

end Go.Aw

namespace Go.Aw
set_option linter.unusedSimpArgs false
set_option linter.unusedVariables false
open Go.RowKit

def Bd (x:Option Value) (dflt l:Int) : Prop:=(x=none∧l=dflt)∨∃ k,x=some (.int k l)

theorem run_sliceAt_sl {P:Program} (w:World) {t n:Nat} {u:TypeId} (hk:kel P t=some (none,n,u)) (a:Option Addr) (len cap:Nat) (lo hi:Option Value) (l h:Int)
    (hl:Bd lo 0 l) (hh:Bd hi len h) (h0:0≤l) (h1:l≤h) (h2:h≤cap) :
    (Instr.sliceAt t (.slice a len cap) lo hi none).run P w=.ok (.slice (if cap=l.toNat then a else a.map (·.add (l.toNat*n))) (h.toNat - l.toNat) (cap - l.toNat)) w:=by
  obtain ⟨j,hu,hj,rfl⟩:=kel_slice hk
  have e0:0≤h:=by omega
  have e1:l≤(h.toNat:Int):=by omega
  rcases hl with ⟨rfl,rfl⟩ | ⟨k1,rfl⟩ <;> rcases hh with ⟨rfl,rfl⟩ | ⟨k2,rfl⟩ <;>
    simp [Instr.sliceAt,Instr.slice,Instr.sliceBounds,Instr.sliceBound,asIntOf,run_underlying hu,sizeOf,typeInfo,hj,h0,h2,e0,e1]
  all_goals (intro hlt; exfalso; omega)

theorem run_sliceAt_000 {P:Program} (w:World) {t n:Nat} {u:TypeId} (hk:kel P t=some (none,n,u)) (a:Option Addr) (len cap:Nat) (lo:Option Value) (k1 k2:IntKind) (hl:Bd lo 0 0) :
    (Instr.sliceAt t (.slice a len cap) lo (some (.int k1 0)) (some (.int k2 0))).run P w=.ok (.slice a 0 0) w:=by
  obtain ⟨j,hu,hj,rfl⟩:=kel_slice hk
  rcases hl with ⟨rfl,_⟩ | ⟨k1,rfl⟩ <;>
    simp [Instr.sliceAt,Instr.slice,Instr.sliceBounds,Instr.sliceBound,asIntOf,run_underlying hu,sizeOf,typeInfo,hj]

theorem kstr_spec {P:Program} {t:TypeId} (hk:kstr P t=true) : P.underlying t=some .string:=by
  unfold kstr at hk
  split at hk
  · assumption
  · cases hk

theorem run_sliceAt_str {P:Program} (w:World) {t:Nat} (hk:kstr P t=true) (s:ByteArray) (lo hi:Option Value) (l h:Int)
    (hl:Bd lo 0 l) (hh:Bd hi s.size h) (h0:0≤l) (h1:l≤h) (h2:h≤s.size) :
    (Instr.sliceAt t (.string s) lo hi none).run P w=.ok (.string (s.extract l.toNat h.toNat)) w:=by
  have hu:=kstr_spec hk
  have e0:0≤h:=by omega
  have e1:l≤(h.toNat:Int):=by omega
  rcases hl with ⟨rfl,rfl⟩ | ⟨k1,rfl⟩ <;> rcases hh with ⟨rfl,rfl⟩ | ⟨k2,rfl⟩ <;>
    simp [Instr.sliceAt,Instr.slice,Instr.sliceBounds,Instr.sliceBound,asIntOf,run_underlying hu,h0,h2,e0,e1]
  all_goals (intro hlt; exfalso; omega)

theorem run_sliceAt_arr {P:Program} (w:World) {t m:Nat} {u:TypeId} (hk:kel P t=some (some m,1,u)) (b o:Nat) (lo:Option Value) (hl:Bd lo 0 0) :
    (Instr.sliceAt t (.pointer (some ⟨b,o,none⟩)) lo none none).run P w=.ok (.slice (some ⟨b,o,none⟩) m m) w:=by
  obtain ⟨j,hu,hj,hsz⟩:=kel_array hk
  rcases hl with ⟨rfl,_⟩ | ⟨k1,rfl⟩ <;>
    simp [Instr.sliceAt,Instr.sureAddr,Instr.sliceBounds,Instr.sliceBound,asIntOf,run_underlying hu,sizeOf,typeInfo,hj,Addr.add]
theorem sliceQ_sound {P:Program} {E:Env} {F:Nat→Prop} {w:World} {H:List Blk} {t:TypeId} {x y:V} {ob:Prop} {v:Value} {l:Int} {h m:Option Int}
    (hq:sliceQ P H t x l h m=some (ob,y)) (hob:ob) (hr:HR E F w H) (hx:VR E F w x v) (lo hi mx:Option Value) (hlo:Bd lo 0 l)
    (hhi:(hi=none∧h=none)∨∃ k n,hi=some (.int k n)∧h=some n) (hmx:(mx=none∧m=none)∨∃ k n,mx=some (.int k n)∧m=some n) :
    ∃ u,VR E F w y u∧∀ w',(Instr.sliceAt t v lo hi mx).run P w'=.ok u w':=by
  have hb:∀ d:Int,Bd hi d (h.getD d):=fun d=>by
    rcases hhi with ⟨rfl,rfl⟩ | ⟨k,n,rfl,rfl⟩
    · exact .inl ⟨rfl,rfl⟩
    · exact .inr ⟨k,rfl⟩
  have hmn:m=none→mx=none:=fun e=>by
    rcases hmx with ⟨rfl,_⟩ | ⟨k,n,rfl,rfl⟩
    · rfl
    · cases e
  cases hx with
  | ref id off len b k m' a cap n hE hm' ha hl hsz hc =>
    cases m with
    | some m=>cases h <;> simp [sliceQ] at hq
    | none =>
      obtain rfl:=hmn rfl
      simp only [sliceQ] at hq
      split at hq
      · rename_i n' u k2 rows hk hH
        simp only [Option.some.injEq,Prod.mk.injEq] at hq
        obtain ⟨rfl,rfl⟩:=hq
        obtain ⟨hn,h0,h1,h2⟩:=hob
        obtain ⟨ek,_⟩:=hr.blk _ _ _ hE hH
        dsimp only at ek
        subst ek
        have hbb:=hb (len:Int)
        generalize h.getD (len:Int)=hh at *
        refine ⟨_,?_,fun w'=>run_sliceAt_sl w' hk a len cap lo hi l hh hlo hbb h0 h1 (by omega)⟩
        refine .ref id _ _ b k m' _ _ n hE (by omega) (fun hor => ?_) (by omega) hsz ?_
        · by_cases e:l=0
          · subst e
            have hlen:0<len∨off=0:=by omega
            simp only [Int.toNat_zero,Nat.zero_mul,Nat.add_zero]
            rw [ha hlen]
            split
            · rfl
            · rfl
          · rw [if_neg (by omega),ha (by omega)]
            simp [Addr.add_mid,Nat.add_mul,hn]
        · have:(off+l.toNat+(cap - l.toNat))=off+cap:=by omega
          rw [this]; exact hc
      · rename_i n' u k2 rows hk hH
        simp only [Option.some.injEq,Prod.mk.injEq] at hq
        obtain ⟨rfl,rfl⟩:=hq
        obtain ⟨hn,h0,h1,h2⟩:=hob
        obtain ⟨ek,_⟩:=hr.blk _ _ _ hE hH
        dsimp only at ek
        subst ek
        have hbb:=hb (len:Int)
        generalize h.getD (len:Int)=hh at *
        refine ⟨_,?_,fun w'=>run_sliceAt_sl w' hk a len cap lo hi l hh hlo hbb h0 h1 (by omega)⟩
        refine .ref id _ _ b k m' _ _ n hE (by omega) (fun hor => ?_) (by omega) hsz ?_
        · by_cases e:l=0
          · subst e
            have hlen:0<len∨off=0:=by omega
            simp only [Int.toNat_zero,Nat.zero_mul,Nat.add_zero]
            rw [ha hlen]
            split
            · rfl
            · rfl
          · rw [if_neg (by omega),ha (by omega)]
            simp [Addr.add_mid,Nat.add_mul,hn]
        · have:(off+l.toNat+(cap - l.toNat))=off+cap:=by omega
          rw [this]; exact hc
      · cases hq
  | refv id k m' a hE =>
    cases m with
    | some m=>cases h <;> simp [sliceQ] at hq
    | none =>
      obtain rfl:=hmn rfl
      simp only [sliceQ] at hq
      split at hq
      · rename_i n' u k2 rows hk hH
        simp only [Option.some.injEq,Prod.mk.injEq] at hq
        obtain ⟨rfl,rfl⟩:=hq
        obtain ⟨hn,h0,h1,h2⟩:=hob
        have hbb:=hb ((0:Nat) : Int)
        generalize h.getD ((0:Nat) : Int)=hh at *
        have e1:l=0:=by omega
        have e2:hh=0:=by omega
        subst e1 e2
        exact ⟨_,.refv id k m' _ hE,fun w'=>by simpa using run_sliceAt_sl w' hk a 0 0 lo hi 0 0 hlo hbb (by omega) (by omega) (by omega)⟩
      · rename_i n' u k2 rows hk hH
        simp only [Option.some.injEq,Prod.mk.injEq] at hq
        obtain ⟨rfl,rfl⟩:=hq
        obtain ⟨hn,h0,h1,h2⟩:=hob
        have hbb:=hb ((0:Nat) : Int)
        generalize h.getD ((0:Nat) : Int)=hh at *
        have e1:l=0:=by omega
        have e2:hh=0:=by omega
        subst e1 e2
        exact ⟨_,.refv id k m' _ hE,fun w'=>by simpa using run_sliceAt_sl w' hk a 0 0 lo hi 0 0 hlo hbb (by omega) (by omega) (by omega)⟩
      · cases hq
  | nil a =>
    cases m with
    | some m=>cases h <;> simp [sliceQ] at hq
    | none =>
      obtain rfl:=hmn rfl
      simp only [sliceQ] at hq
      split at hq
      · rename_i n' u hk
        simp only [Option.some.injEq,Prod.mk.injEq] at hq
        obtain ⟨rfl,rfl⟩:=hq
        obtain ⟨rfl,h1⟩:=hob
        have hbb:=hb 0
        rw [h1] at hbb
        exact ⟨_,.nil _,fun w'=>by simpa using run_sliceAt_sl w' hk a 0 0 lo hi 0 0 hlo hbb (by omega) (by omega) (by omega)⟩
      · cases hq
  | d x v hd =>
    cases hd with
    | sl0 a cap =>
      cases m with
      | some m =>
        cases h with
        | none=>simp [sliceQ] at hq
        | some h =>
          simp only [sliceQ] at hq
          split at hq
          · rename_i n' u hk
            simp only [Option.some.injEq,Prod.mk.injEq] at hq
            obtain ⟨rfl,rfl⟩:=hq
            obtain ⟨rfl,rfl,rfl⟩:=hob
            rcases hhi with ⟨_,hx⟩ | ⟨k1,n1,rfl,hx⟩
            · cases hx
            rcases hmx with ⟨_,hy⟩ | ⟨k2,n2,rfl,hy⟩
            · cases hy
            cases hx; cases hy
            exact ⟨_,.nil _,fun w'=>run_sliceAt_000 w' hk a 0 cap lo k1 k2 hlo⟩
          · cases hq
      | none =>
        obtain rfl:=hmn rfl
        simp only [sliceQ] at hq
        split at hq
        · rename_i n' u hk
          simp only [Option.some.injEq,Prod.mk.injEq] at hq
          obtain ⟨rfl,rfl⟩:=hq
          obtain ⟨h0,h1,h2,_⟩:=hob
          have hbb:=hb (([] : List (List D)).length:Int)
          generalize h.getD (([] : List (List D)).length:Int)=hh at *
          simp only [List.length_nil] at h2
          have e1:l=0:=by omega
          have e2:hh=0:=by omega
          subst e1 e2
          simp only [List.drop_nil,List.take_nil]
          exact ⟨_,.d _ _ (.sl0 _ _),fun w'=>by simpa using run_sliceAt_sl w' hk a 0 cap lo hi 0 0 hlo hbb (by omega) (by omega) (by omega)⟩
        · cases hq
    | sl b off cap k rows c hn hF hkk hc hrr =>
      cases m with
      | some m =>
        cases h with
        | none=>simp [sliceQ] at hq
        | some h =>
          simp only [sliceQ] at hq
          split at hq
          · rename_i n' u hk
            simp only [Option.some.injEq,Prod.mk.injEq] at hq
            obtain ⟨rfl,rfl⟩:=hq
            obtain ⟨rfl,rfl,rfl⟩:=hob
            rcases hhi with ⟨_,hx⟩ | ⟨k1,n1,rfl,hx⟩
            · cases hx
            rcases hmx with ⟨_,hy⟩ | ⟨k2,n2,rfl,hy⟩
            · cases hy
            cases hx; cases hy
            exact ⟨_,.nil _,fun w'=>run_sliceAt_000 w' hk _ rows.length cap lo k1 k2 hlo⟩
          · cases hq
      | none =>
        obtain rfl:=hmn rfl
        simp only [sliceQ] at hq
        split at hq
        · rename_i n' u hk
          simp only [Option.some.injEq,Prod.mk.injEq] at hq
          obtain ⟨rfl,rfl⟩:=hq
          obtain ⟨h0,h1,h2,hn'⟩:=hob
          have hbb:=hb (rows.length:Int)
          generalize h.getD (rows.length:Int)=hh at *
          refine ⟨_,.d _ _ ?_,fun w'=>run_sliceAt_sl w' hk _ rows.length cap lo hi l hh hlo hbb h0 h1 (by omega)⟩
          have hlen:((rows.drop l.toNat).take (hh.toNat - l.toNat)).length=hh.toNat - l.toNat:=by
            rw [List.length_take,List.length_drop]; omega
          by_cases hz:hh.toNat - l.toNat=0
          · rw [hz,List.take_zero]
            exact .sl0 _ _
          · have hll:l.toNat<rows.length:=by omega
            have hkn:k=n':=by
              have h5:=hkk _ _ (List.getElem?_eq_getElem hll)
              have h6:=hn' _ (List.getElem_mem hll)
              omega
            subst hkn
            rw [if_neg (by omega)]
            have:=RD.sl (F:=F) (w:=w) b (off+l.toNat*k) (cap - l.toNat) k ((rows.drop l.toNat).take (hh.toNat - l.toNat)) (fun i j=>c (l.toNat+i) j) (by omega) hF
              (fun i row hi=>hkk (l.toNat+i) row (by
                rw [List.getElem?_take] at hi
                split at hi
                · rwa [List.getElem?_drop] at hi
                · cases hi))
              (fun i j hi hj=>by
                have h7:=hc (l.toNat+i) j (by omega) hj
                rw [Nat.add_mul] at h7
                have e:off+(l.toNat*k+i*k+j)=off+l.toNat*k+(i*k+j):=by omega
                rwa [e] at h7)
              (fun i row j x hi hj=>hrr (l.toNat+i) row j x (by
                rw [List.getElem?_take] at hi
                split at hi
                · rwa [List.getElem?_drop] at hi
                · cases hi) hj)
            rw [hlen] at this
            simpa [Addr.add_mid] using this
        · cases hq
    | str s =>
      cases m with
      | some m=>cases h <;> simp [sliceQ] at hq
      | none =>
        obtain rfl:=hmn rfl
        simp only [sliceQ] at hq
        split at hq
        · rename_i hk
          simp only [Option.some.injEq,Prod.mk.injEq] at hq
          obtain ⟨rfl,rfl⟩:=hq
          obtain ⟨h0,h1,h2⟩:=hob
          exact ⟨_,.d _ _ (.str _),fun w'=>run_sliceAt_str w' hk s lo hi l _ hlo (hb _) h0 h1 h2⟩
        · cases hq
    | cp b o off xs c hF hc hrr =>
      cases m with
      | some m=>cases h <;> simp [sliceQ] at hq
      | none =>
      cases h with
      | some h=>simp [sliceQ] at hq
      | none =>
        obtain rfl:=hmn rfl
        obtain rfl:hi=none:=by
          rcases hhi with ⟨h,_⟩ | ⟨k,n,_,h⟩
          · exact h
          · cases h
        simp only [sliceQ] at hq
        split at hq
        · rename_i m n' u hk
          simp only [Option.some.injEq,Prod.mk.injEq] at hq
          obtain ⟨rfl,rfl⟩:=hq
          obtain ⟨rfl,rfl,rfl,rfl⟩:=hob
          refine ⟨_,.d _ _ ?_,fun w'=>run_sliceAt_arr w' hk b (o+0) lo hlo⟩
          have:=RD.sl (F:=F) (w:=w) b (o+0) xs.length 1 (xs.map fun c=>[c]) (fun i _=>c i) (by simp) hF
            (fun i row hi=>by
              simp only [List.getElem?_map,Option.map_eq_some_iff] at hi
              obtain ⟨x,_,rfl⟩:=hi
              rfl)
            (fun i j hi hj=>by
              have hi:i<xs.length:=by simpa using hi
              have:=hc i hi
              rw [show o+0+(i*1+j)=o+i by omega]
              exact this)
            (fun i row j x hi hj=>by
              simp only [List.getElem?_map,Option.map_eq_some_iff] at hi
              obtain ⟨y,hy,rfl⟩:=hi
              cases j with
              | zero=>simp at hj; subst hj; exact hrr i y hy
              | succ j=>simp at hj)
          simpa using this
        · cases hq
    | _=>cases m <;> cases h <;> simp [sliceQ] at hq
  | _=>cases m <;> cases h <;> simp [sliceQ] at hq

end Go.Aw

namespace Go.Aw
set_option linter.unusedSimpArgs false
set_option linter.unusedVariables false
open Go.RowKit

theorem arith_sound {P:Program} {F:Nat→Prop} {w:World} {op:BinOp} {x y z:D} {ob:Prop} {v u:Value} (h:arith op x y=some (ob,z)) (hob:ob)
    (hx:RD F w x v) (hy:RD F w y u) : ∃ r,RD F w z r∧∀ (t:TypeId) (xo yo:Operand) (w':World),((do eqGuard op t xo yo v u; binOp op t v u) : Sem Value).run P w'=.ok r w':=by
  unfold arith at h
  split at h <;> simp only [Option.some.injEq,Prod.mk.injEq,reduceCtorEq] at h <;> obtain ⟨rfl,rfl⟩:=h <;> cases hx <;> cases hy
  case h_4=>exact ⟨_,.int _ _,fun t xo yo w'=>by obtain ⟨rfl,h⟩:=hob; simp [eqGuard_at_int,binOp,Op.intDiv,h]⟩
  case h_5=>exact ⟨_,.int _ _,fun t xo yo w'=>by obtain ⟨rfl,h⟩:=hob; simp [eqGuard_at_int,binOp,Op.intDiv,h]⟩
  case h_6=>exact ⟨_,.int _ _,fun t xo yo w'=>by obtain ⟨h0,h1⟩:=hob; simp [eqGuard_at_int,binOp_shr,shift_shr _ _ _ _ h0 h1]⟩
  case h_7=>exact ⟨_,.int _ _,fun t xo yo w'=>by obtain ⟨h0,h1⟩:=hob; simp [eqGuard_at_int,binOp_shl,shift_shl _ _ _ _ h0 h1]⟩
  case h_8=>exact ⟨_,.int _ _,fun t xo yo w'=>by subst hob; simp [eqGuard_at_int,binOp_and,intBits_and]⟩
  case h_9=>exact ⟨_,.int _ _,fun t xo yo w'=>by subst hob; simp [eqGuard_at_int,binOp_or,intBits_or]⟩
  case h_10=>exact ⟨_,.int _ _,fun t xo yo w'=>by subst hob; simp [eqGuard_at_int,binOp_xor,intBits_xor]⟩
  case h_17=>exact ⟨_,.bool _,fun t xo yo w'=>by simp [eqGuard_at_string,binOp,Op.stringOp,beq_toListBytes]⟩
  case h_18=>exact ⟨_,.bool _,fun t xo yo w'=>by simp [eqGuard_at_string,binOp,Op.stringOp,bne,beq_toListBytes]⟩
  case h_19=>exact ⟨_,.str _,fun t xo yo w'=>by simp [eqGuard_at_string,binOp,Op.stringOp]; omega⟩
  case h_20=>exact ⟨_,.bool _,fun t xo yo w'=>by simp [eqGuard_at_string,binOp,Op.stringOp]⟩
  case h_21=>exact ⟨_,.bool _,fun t xo yo w'=>by simp [eqGuard_at_string,binOp,Op.stringOp,beq_toListBytes]⟩
  case h_22=>exact ⟨_,.bool _,fun t xo yo w'=>by simp [eqGuard_at_string,binOp,Op.stringOp,beq_toListBytes]⟩
  case h_23=>exact ⟨_,.bool _,fun t xo yo w'=>by simp [eqGuard_at_string,binOp,Op.stringOp]⟩
  case h_24=>exact ⟨_,.int _ _,fun t xo yo w'=>by subst hob; simp [eqGuard_at_int,binOp,intBits_andNot]⟩
  all_goals (subst hob; first | exact ⟨_,.int _ _,fun t xo yo w'=>by simp [eqGuard_at_int,binOp,Op.intArith]⟩ | exact ⟨_,.bool _,fun t xo yo w'=>by simp [eqGuard_at_int,binOp,Op.intCmp]⟩)

theorem klf_int {P:Program} {t:TypeId} (h:klf P t=1) : ∃ k,P.underlying t=some (.int k):=by
  unfold klf at h; split at h <;> first | exact ⟨_,by assumption⟩ | cases h
theorem klf_bool {P:Program} {t:TypeId} (h:klf P t=2) : P.underlying t=some .bool:=by
  unfold klf at h; split at h <;> first | assumption | cases h
theorem klf_str {P:Program} {t:TypeId} (h:klf P t=3) : P.underlying t=some .string:=by
  unfold klf at h; split at h <;> first | assumption | cases h
theorem kst_spec {P:Program} {t:TypeId} {l:List (TypeId × Nat)} (h:kst P t=some l) :
    P.underlying t = some (.struct (P.fieldsOf t)) ∧ P.stoodInHeld t = false ∧ P.eqGuardType P.depth t = false ∧ (∀ f ∈ (P.fieldsOf t).toList, f.name ≠ "_") ∧ l = (P.fieldsOf t).toList.map fun f => (f.type, f.offset) := by
  unfold kst at h
  split at h
  · rename_i fs hu
    split at h
    · rename_i hc
      simp only [Bool.and_eq_true,Bool.not_eq_true',List.all_eq_true,bne_iff_ne] at hc
      have e:P.fieldsOf t=fs:=by simp [Program.fieldsOf,hu]
      simp only [Option.some.injEq] at h
      rw [e]
      exact ⟨hu,hc.1.1,hc.1.2,hc.2,h.symm⟩
    · cases h
  · cases h
theorem cut_sound {P:Program} {E:Env} {F:Nat→Prop} {w:World} {u o:Nat} {xs:List V} {cs:Array Value} {p:Prop} {x:V} (h:cutQ P u o xs=some (p,x)) (hp:p) (hs:cs.size=xs.length)
    (hr:∀ (j:Nat) (x:V) (v:Value),xs[j]? = some x→cs[j]? = some v→VR E F w x v) : ∃ v,VR E F w x v∧∀ w',(part u cs o).run P w'=.ok v w':=by
  unfold cutQ at h
  split at h
  · rename_i n hz
    simp only [Option.some.injEq,Prod.mk.injEq] at h
    obtain ⟨rfl,rfl⟩:=h
    obtain ⟨h1,h2⟩:=part_row hz hs hr hp
    exact ⟨_,h1,h2⟩
  · rename_i n hz
    simp only [Option.some.injEq,Prod.mk.injEq] at h
    obtain ⟨rfl,rfl⟩:=h
    exact part_leaf hz hs hr hp
  · cases h

theorem eqFs_sound {P:Program} {E:Env} {F:Nat→Prop} {w:World} {d:Nat} {f:TypeId→V→V→Option (Prop × Bool)}
    (ih:∀ (t:TypeId) (x y:V) (p:Prop) (b:Bool) (v u:Value),f t x y=some (p,b)→p→VR E F w x v→VR E F w y u→∀ w',(Op.equalIn d t v u).run P w'=.ok b w') {xs ys:List V} {cs es:Array Value}
    (hs:cs.size=xs.length) (hr:∀ (j:Nat) (x:V) (v:Value),xs[j]? = some x→cs[j]? = some v→VR E F w x v)
    (hs':es.size=ys.length) (hr':∀ (j:Nat) (x:V) (v:Value),ys[j]? = some x→es[j]? = some v→VR E F w x v) :
    ∀ (fs : List Field), (∀ f ∈ fs, f.name ≠ "_") → ∀ (p : Prop) (b : Bool), eqFs P f (fs.map fun f => (f.type, f.offset)) xs ys = some (p, b) → p → ∀ w', (Op.eqFields d cs es fs).run P w' = .ok b w'
  | [],_,p,b,h,_,w'=>by
    simp [eqFs] at h
    simp [Op.eqFields,h.2]
  | g::fs,hn,p,b,h,hp,w'=>by
    simp only [List.map_cons,eqFs] at h
    split at h
    · rename_i p1 x p2 y h1 h2
      split at h
      · rename_i r b1 r' b2 h3 h4
        simp only [Option.some.injEq,Prod.mk.injEq] at h
        obtain ⟨rfl,rfl⟩:=h
        obtain ⟨q1,q2,q3,q4⟩:=hp
        obtain ⟨v,g1,g2⟩:=cut_sound h1 q1 hs hr
        obtain ⟨u,g3,g4⟩:=cut_sound h2 q2 hs' hr'
        have e1:=ih _ _ _ _ _ v u h3 q3 g1 g3
        have e2:=eqFs_sound ih hs hr hs' hr' fs (fun f hf=>hn f (List.mem_cons_of_mem _ hf)) _ _ h4 q4
        have hnm:=hn g (List.mem_cons_self ..)
        simp only [Op.eqFields,hnm,ne_eq,not_false_eq_true,if_true,Sem.run_bind,g2,g4,e1,Result.andThen_ok]
        cases b1
        · simp
        · simp [e2]
      · cases h
    · cases h

theorem eqQ_sound {P:Program} {E:Env} {F:Nat→Prop} {w:World} : ∀ (d D:Nat),d≤D→∀ (t:TypeId) (x y:V) (p:Prop) (b:Bool) (v u:Value),eqQ P d t x y=some (p,b)→p→VR E F w x v→VR E F w y u →
    ∀ w',(Op.equalIn D t v u).run P w'=.ok b w'
  | 0,_,_,t,x,y,p,b,v,u,h,_,_,_,_=>by simp [eqQ] at h
  | d+1,D,hd,t,x,y,p,b,v,u,h,hp,hx,hy,w'=>by
    obtain ⟨D,rfl⟩ : ∃ D',D=D'+1:=⟨D - 1,by omega⟩
    simp only [eqQ] at h
    split at h
    · split at h
      · rename_i hk
        simp only [Option.some.injEq,Prod.mk.injEq] at h
        obtain ⟨rfl,rfl⟩:=h
        subst hp
        obtain ⟨k',hk'⟩:=klf_int hk
        cases hx with | d _ _ hx=>cases hx; cases hy with | d _ _ hy=>cases hy; exact run_equalIn_int w' _ t _ k' _ _ hk'
      · cases h
    · split at h
      · rename_i hk
        simp only [Option.some.injEq,Prod.mk.injEq] at h
        obtain ⟨rfl,rfl⟩:=h
        cases hx with | d _ _ hx=>cases hx; cases hy with | d _ _ hy=>cases hy; exact run_equalIn_bool w' _ t _ _ (klf_bool hk)
      · cases h
    · split at h
      · rename_i hk
        simp only [Option.some.injEq,Prod.mk.injEq] at h
        obtain ⟨rfl,rfl⟩:=h
        cases hx with | d _ _ hx=>cases hx; cases hy with | d _ _ hy=>cases hy; rw [run_equalIn_string w' _ t _ _ (klf_str hk),← beq_toListBytes]
      · cases h
    · split at h
      · rename_i fs hk
        obtain ⟨h1,h2,h3,h4,rfl⟩:=kst_spec hk
        cases hx with
        | agg _ cs hs hr=>cases hy with
          | agg _ es hs' hr' =>
            rw [run_equalIn_struct w' D t cs es h1 h2]
            exact eqFs_sound (eqQ_sound d D (by omega)) hs hr hs' hr' _ h4 _ _ h hp w'
      · cases h
    · cases h

theorem binQ_sound {P:Program} {E:Env} {F:Nat→Prop} {w:World} {op:BinOp} {t:TypeId} {x y z:V} {ob:Prop} {v u:Value} (h:binQ P op t x y=some (ob,z)) (hob:ob)
    (hx:VR E F w x v) (hy:VR E F w y u) : ∃ r,VR E F w z r∧∀ (xo yo:Operand) (w':World),((do eqGuard op t xo yo v u; binOp op t v u) : Sem Value).run P w'=.ok r w':=by
  unfold binQ at h
  split at h
  · cases hx with
    | d _ _ hx=>cases hy with
      | d _ _ hy =>
        split at h
        · rename_i r hq
          simp only [Option.some.injEq,Prod.mk.injEq] at h
          obtain ⟨rfl,rfl⟩:=h
          obtain ⟨r,h1,h2⟩:=arith_sound (P:=P) (x:=_) (y:=_) (z:=_) (ob:=_) hq hob hx hy
          exact ⟨r,.d _ _ h1,h2 t⟩
        · split at h
          · split at h
            · rename_i hk
              simp only [Option.some.injEq,Prod.mk.injEq] at h
              obtain ⟨rfl,rfl⟩:=h
              cases hx; cases hy
              exact ⟨_,.d _ _ (.bool _),fun xo yo w'=>by simp [eqGuard,run_eql_bool w' t _ _ (klf_bool hk)]⟩
            · cases h
          · split at h
            · rename_i hk
              simp only [Option.some.injEq,Prod.mk.injEq] at h
              obtain ⟨rfl,rfl⟩:=h
              cases hx; cases hy
              exact ⟨_,.d _ _ (.bool _),fun xo yo w'=>by simp [eqGuard,binOp,run_equal_bool w' t _ _ (klf_bool hk),bne]⟩
            · cases h
          · cases h
  · rename_i xs ys
    have both:∀ (p:Prop) (b:Bool),eqQ P 4 t (.agg xs) (.agg ys)=some (p,b)→p→(∀ w',(Op.equalIn 10000 t v u).run P w'=.ok b w')∧∀ (op:BinOp) (xo yo:Operand) (w':World),(eqGuard op t xo yo v u).run P w'=.ok () w':=by
      intro p b hq hp
      refine ⟨eqQ_sound 4 10000 (by omega) _ _ _ _ _ _ _ hq hp hx hy,?_⟩
      simp only [eqQ] at hq
      split at hq
      · rename_i fs hk
        cases hx; cases hy
        exact fun op xo yo w'=>run_eqGuard_agg w' op t xo yo _ _ (kst_spec hk).2.2.1
      · cases hq
    cases hx with
    | agg _ cs hs hr=>cases hy with
      | agg _ es hs' hr' =>
        split at h
        · simp only [Option.map_eq_some_iff,Prod.exists,Prod.mk.injEq] at h
          obtain ⟨p,b,hq,rfl,rfl⟩:=h
          obtain ⟨h1,h2⟩:=both _ _ hq hob
          exact ⟨_,.d _ _ (.bool _),fun xo yo w'=>by simp [h2,run_eql_struct,h1]⟩
        · simp only [Option.map_eq_some_iff,Prod.exists,Prod.mk.injEq] at h
          obtain ⟨p,b,hq,rfl,rfl⟩:=h
          obtain ⟨h1,h2⟩:=both _ _ hq hob
          exact ⟨_,.d _ _ (.bool _),fun xo yo w'=>by simp [h2,run_neq_struct,h1]⟩
        · cases h
  · cases h

theorem int_of {E:Env} {F:Nat→Prop} {w:World} {k:IntKind} {n:Int} {v:Value} (h:VR E F w (.d (.int k n)) v) : v=.int k n:=by
  cases h with | d _ _ h=>cases h; rfl
theorem bool_of {E:Env} {F:Nat→Prop} {w:World} {b:Bool} {v:Value} (h:VR E F w (.d (.bool b)) v) : v=.bool b:=by
  cases h with | d _ _ h=>cases h; rfl

theorem boolOf_sound {E:Env} {F:Nat→Prop} {w:World} {x:V} {p:Prop} {b:Bool} {v:Value} (h:boolOf x=some (p,b)) (hp:p) (hx:VR E F w x v) : v=.bool b:=by
  unfold boolOf at h
  split at h
  · simp only [Option.some.injEq,Prod.mk.injEq] at h
    obtain ⟨rfl,rfl⟩:=h
    exact bool_of hx
  · simp only [Option.some.injEq,Prod.mk.injEq] at h
    obtain ⟨rfl,rfl⟩:=h
    cases hx with | opt g x v h hu=>exact bool_of (h hp)
  · simp only [Option.some.injEq,Prod.mk.injEq] at h
    obtain ⟨rfl,rfl⟩:=h
    exact hp.elim
  · cases h

theorem bnd_sound {B:Base} {s:St} {a:Act} {w:World} {E:Env} {F:Nat→Prop} (hs:Sim B s a w E F) {d l:Int} {x:Option Operand} (h:bnd s d x=some l) :
    Bd (x.map a.eval) d l:=by
  unfold bnd at h
  split at h
  · simp at h; subst h; exact .inl ⟨rfl,rfl⟩
  · rename_i x
    split at h
    · rename_i k n hx
      simp at h
      subst h
      have:=ev_sound hs x
      rw [hx] at this
      exact .inr ⟨k,by simp [int_of this]⟩
    · cases h

theorem ksl_spec {P:Program} {t:TypeId} (h:ksl P t=true) : ∃ e,P.underlying t=some (.slice e):=by
  unfold ksl at h
  split at h
  · rename_i e hu; exact ⟨e,hu⟩
  · cases h

theorem run_len_sl {P:Program} {t:TypeId} (h:ksl P t=true) (ty:TypeId) (a:Option Addr) (n c:Nat) (w:World) :
    (Builtin.len_ #[t] ty #[.slice a n c]).run P w=.ok (.int .i64 n) w:=by
  obtain ⟨e,hu⟩:=ksl_spec h
  simp [Builtin.len_,run_underlying hu,goInt]

theorem lenQ_sound {P:Program} {E:Env} {F:Nat→Prop} {w:World} {x:V} {v:Value} {n:Nat} {t:TypeId} (h:lenQ P t x=some n) (hx:VR E F w x v) (ty:TypeId) (w':World) :
    (Builtin.len_ #[t] ty #[v]).run P w'=.ok (.int .i64 n) w':=by
  unfold lenQ at h
  split at h <;> first | (cases h; done) | skip
  all_goals (split at h <;> first | (cases h; done) | skip)
  all_goals (rename_i hk; simp only [Option.some.injEq] at h; subst h)
  · cases hx <;> exact run_len_sl hk ty _ _ _ w'
  · cases hx with | d _ _ hd=>cases hd <;> exact run_len_sl hk ty _ _ _ w'
  · cases hx with
    | d _ _ hd =>
      cases hd
      simp [Builtin.len_,run_underlying (kstr_spec hk),goInt]
  · cases hx; exact run_len_sl hk ty _ _ _ w'

theorem kint_spec {P:Program} {t:TypeId} {k:IntKind} (h:kint P t=some k) : P.underlying t=some (.int k):=by
  unfold kint at h
  split at h
  · rename_i k' hu; simp at h; subst h; exact hu
  · cases h

theorem getD_list {xs:List V} {i:Nat} (h:i<xs.length) : xs.getD i .junk=xs[i]:=by
  rw [List.getD_eq_getElem?_getD,List.getElem?_eq_getElem h]; rfl

theorem builtQ_sound {P:Program} {B:Base} {s:St} {a:Act} {w:World} {E:Env} {F:Nat→Prop} {b:Builtin} {ob:Prop} {x:V} {ts:Array TypeId} {args:Array Operand}
    (h:builtQ P s b args.toList ts.toList=some (ob,x)) (hob:ob)
    (hs:Sim B s a w E F) (o:Oper) (ho:o.op=.call { callee:=.builtin b,args:=args,argTypes:=ts }) :
    ∃ v,VR E F w x v∧∀ w',Keep w w'→(execOp a.eval o).run P w'=.ok (.value v) w':=by
  have ev:=ev_sound hs
  obtain ⟨args⟩:=args
  obtain ⟨ts⟩:=ts
  simp only at h
  unfold builtQ at h
  split at h
  · rename_i x t
    split at h
    · rename_i n hl
      simp only [Option.some.injEq,Prod.mk.injEq] at h
      obtain ⟨rfl,rfl⟩:=h
      have e1:=V.strip_sound (ev x) hob
      exact ⟨_,.d _ _ (.int _ _),fun w' _=>by simp [execOp,ho,resolve,invoke,builtin,lenQ_sound hl e1]⟩
    · cases h
  · rename_i x y
    split at h
    · rename_i k n k' m hx hy
      simp only [Option.some.injEq,Prod.mk.injEq] at h
      obtain ⟨rfl,rfl⟩:=h
      have e1:=V.strip_sound (ev x) hob.1
      have e2:=V.strip_sound (ev y) hob.2
      rw [hx] at e1
      rw [hy] at e2
      refine ⟨.int k (if m > n then m else n),?_,fun w' _=>by simp [execOp,ho,resolve,invoke,builtin,int_of e1,int_of e2,run_max_int2]⟩
      have:max n m=if m > n then m else n:=by split <;> omega
      rw [this]
      exact .d _ _ (.int _ _)
    · cases h
  · rename_i x y
    split at h
    · rename_i k n k' m hx hy
      simp only [Option.some.injEq,Prod.mk.injEq] at h
      obtain ⟨rfl,rfl⟩:=h
      have e1:=V.strip_sound (ev x) hob.1
      have e2:=V.strip_sound (ev y) hob.2
      rw [hx] at e1
      rw [hy] at e2
      refine ⟨.int k (if m<n then m else n),?_,fun w' _=>by simp [execOp,ho,resolve,invoke,builtin,int_of e1,int_of e2,run_min_int2]⟩
      have:min n m=if m<n then m else n:=by split <;> omega
      rw [this]
      exact .d _ _ (.int _ _)
    · cases h
  · rename_i x y z u
    split at h
    · rename_i k n k' m k2 n2 k3 n3 hx hy hz hu
      simp only [Option.some.injEq,Prod.mk.injEq] at h
      obtain ⟨rfl,rfl⟩:=h
      obtain ⟨h1,h2,h3,h4⟩:=hob
      have e1:=V.strip_sound (ev x) h1
      have e2:=V.strip_sound (ev y) h2
      have e3:=V.strip_sound (ev z) h3
      have e4:=V.strip_sound (ev u) h4
      rw [hx] at e1
      rw [hy] at e2
      rw [hz] at e3
      rw [hu] at e4
      refine ⟨_,.d _ _ (.int _ _),fun w' _ => ?_⟩
      have hm:∀ i j:Int,(if j > i then j else i)=max i j:=fun i j=>by split <;> omega
      have q1:=int_of e1
      have q2:=int_of e2
      have q3:=int_of e3
      have q4:=int_of e4
      simp [execOp,ho,resolve,invoke,builtin,Builtin.max_,Builtin.max2,q1,q2,q3,q4,hm,Int.max_assoc]
    · cases h
  · cases h

theorem opQ_sound {P:Program} {B:Base} {s:St} {a:Act} {w:World} {E:Env} {F:Nat→Prop} {op:Op} {ob:Prop} {x:V} (h:opQ P s op=some (ob,x)) (hob:ob)
    (hs:Sim B s a w E F) (o:Oper) (ho:o.op=op) : ∃ v,VR E F w x v∧∀ w',Keep w w'→(execOp a.eval o).run P w'=.ok (.value v) w':=by
  have ev:=ev_sound hs
  unfold opQ at h
  split at h
  · rename_i x
    simp only [Option.some.injEq,Prod.mk.injEq] at h
    obtain ⟨_,rfl⟩:=h
    exact ⟨_,ev x,fun w' _=>by simp [execOp,ho]⟩
  · rename_i x
    simp only [Option.some.injEq,Prod.mk.injEq] at h
    obtain ⟨_,rfl⟩:=h
    exact ⟨_,ev x,fun w' _=>by simp [execOp,ho]⟩
  · rename_i c y z
    split at h
    · rename_i r0 b p q p' q' hc hy hz
      simp only [Option.some.injEq,Prod.mk.injEq] at h
      obtain ⟨rfl,rfl⟩:=h
      have e1:=boolOf_sound hc hob.1 (ev c)
      refine ⟨_,.d _ _ (.bool _),fun w' _ => ?_⟩
      cases b
      · have:=boolOf_sound hz (hob.2.2 rfl) (ev z)
        simp [execOp,ho,e1,asBool,this]
      · have:=boolOf_sound hy (hob.2.1 rfl) (ev y)
        simp [execOp,ho,e1,asBool,this]
    · cases h
  · rename_i t x
    simp only [Option.map_eq_some_iff,Prod.exists,Prod.mk.injEq] at h
    obtain ⟨p,y,hq,rfl,rfl⟩:=h
    obtain ⟨u,h1,h2⟩:=loadQ_sound hq hob.2 hs.rel.hr hs.rel.lt (V.strip_sound (ev x) hob.1)
    exact ⟨u,h1,fun w' hk=>by simp [execOp,ho,h2 w' hk]⟩
  · rename_i t x i
    simp only [Option.map_eq_some_iff,Prod.exists,Prod.mk.injEq] at h
    obtain ⟨p,y,hq,rfl,rfl⟩:=h
    obtain ⟨u,h1,h2⟩:=fieldAddrQ_sound hq (V.strip_sound (ev x) hob.1)
    exact ⟨u,h1,fun w' hk=>by simp [execOp,ho,h2 w']⟩
  · rename_i t x i
    split at h
    · rename_i k n hi
      simp only [Option.map_eq_some_iff,Prod.exists,Prod.mk.injEq] at h
      obtain ⟨p,y,hq,rfl,rfl⟩:=h
      obtain ⟨hx,hi',hp⟩:=hob
      have e1:=V.strip_sound (ev i) hi'
      rw [hi] at e1
      obtain ⟨u,h1,h2⟩:=indexAddrQ_sound k hq hp hs.rel.hr (V.strip_sound (ev x) hx)
      exact ⟨u,h1,fun w' hk=>by simp [execOp,ho,int_of e1,h2 w']⟩
    · cases h
  · rename_i t x i
    simp only [Option.map_eq_some_iff,Prod.exists,Prod.mk.injEq] at h
    obtain ⟨p,y,hq,rfl,rfl⟩:=h
    obtain ⟨u,h1,h2⟩:=fieldQ_sound hq hob.2 (V.strip_sound (ev x) hob.1)
    exact ⟨u,h1,fun w' hk=>by simp [execOp,ho,h2 w']⟩
  · rename_i t x i
    split at h
    · rename_i k n hi
      simp only [Option.map_eq_some_iff,Prod.exists,Prod.mk.injEq] at h
      obtain ⟨p,y,hq,rfl,rfl⟩:=h
      obtain ⟨hx,hi',hp⟩:=hob
      have e1:=V.strip_sound (ev i) hi'
      rw [hi] at e1
      obtain ⟨u,h1,h2⟩:=indexQ_sound k hq hp (V.strip_sound (ev x) hx)
      exact ⟨u,h1,fun w' hk=>by simp [execOp,ho,int_of e1,h2 w']⟩
    · cases h
  · rename_i op t x y yt
    simp only [Option.map_eq_some_iff,Prod.exists,Prod.mk.injEq] at h
    obtain ⟨p,z,hq,rfl,rfl⟩:=h
    obtain ⟨h1,h2,hp⟩:=hob
    obtain ⟨r,h3,h4⟩:=binQ_sound hq hp (V.strip_sound (ev x) h1) (V.strip_sound (ev y) h2)
    refine ⟨r,h3,fun w' _ => ?_⟩
    have:=h4 x y w'
    simp only [Sem.run_bind] at this
    simp only [execOp,ho,Sem.run_bind,this]
    simp
  · rename_i t x
    split at h
    · rename_i b hx
      simp only [Option.some.injEq,Prod.mk.injEq] at h
      obtain ⟨rfl,rfl⟩:=h
      have e1:=V.strip_sound (ev x) hob
      rw [hx] at e1
      exact ⟨_,.d _ _ (.bool _),fun w' _=>by simp [execOp,ho,bool_of e1,Op.unary]⟩
    · cases h
  · rename_i t x
    split at h
    · rename_i k n hx
      simp only [Option.some.injEq,Prod.mk.injEq] at h
      obtain ⟨rfl,rfl⟩:=h
      have e1:=V.strip_sound (ev x) hob
      rw [hx] at e1
      exact ⟨_,.d _ _ (.int _ _),fun w' _=>by simp [execOp,ho,int_of e1,Op.unary,Op.intArith]⟩
    · cases h
  · rename_i t x
    split at h
    · rename_i k n hx
      simp only [Option.some.injEq,Prod.mk.injEq] at h
      obtain ⟨rfl,rfl⟩:=h
      have e1:=V.strip_sound (ev x) hob
      rw [hx] at e1
      exact ⟨_,.d _ _ (.int _ _),fun w' _=>by simp [execOp,ho,int_of e1,Op.unary,intBits_xor]⟩
    · cases h
  · rename_i src dst x
    split at h
    · rename_i k0 n k1 k hx hsrc hdst
      simp only [Option.some.injEq,Prod.mk.injEq] at h
      obtain ⟨rfl,rfl⟩:=h
      have e1:=V.strip_sound (ev x) hob
      rw [hx] at e1
      exact ⟨_,.d _ _ (.int _ _),fun w' _=>by simp [execOp,ho,int_of e1,convert,run_underlying (kint_spec hsrc),run_underlying (kint_spec hdst),Conv.intToInt]⟩
    · cases h
  · rename_i x i
    split at h
    · rename_i xs hx
      simp only [Option.some.injEq,Prod.mk.injEq] at h
      obtain ⟨rfl,rfl⟩:=h
      have e1:=V.strip_sound (ev x) hob.1
      rw [hx] at e1
      generalize hv:a.eval x=v at e1
      cases e1 with
      | tup xs cs hsz hr =>
        have hc:cs[i]? = some (cs[i]'(by have:=hob.2; omega)):=Array.getElem?_eq_getElem _
        refine ⟨cs[i]'(by have:=hob.2; omega),?_,fun w' _=>by simp [execOp,ho,hv,Instr.extract,hc]⟩
        rw [getD_list hob.2]
        exact hr i _ _ (List.getElem?_eq_getElem hob.2) hc
    · cases h
  · rename_i t x lo hi mx
    split at h
    · rename_i l hl hh hm
      have hh':hi=none:=by cases hi <;> simp_all
      have hm':mx=none:=by cases mx <;> simp_all
      subst hh' hm'
      simp only [Option.map_eq_some_iff,Prod.exists,Prod.mk.injEq] at h
      obtain ⟨p,y,hq,rfl,rfl⟩:=h
      obtain ⟨u,h1,h2⟩:=sliceQ_sound hq hob.2 hs.rel.hr (V.strip_sound (ev x) hob.1) (lo.map a.eval) none none (bnd_sound hs hl) (.inl ⟨rfl,rfl⟩) (.inl ⟨rfl,rfl⟩)
      exact ⟨u,h1,fun w' _=>by simp [execOp,ho,h2 w']⟩
    · rename_i l h' hl hh hm
      have hm':mx=none:=by cases mx <;> simp_all
      subst hm'
      cases hi with
      | none=>simp at hh
      | some hi =>
        simp only [Option.map_some,Option.some.injEq] at hh
        simp only [Option.map_eq_some_iff,Prod.exists,Prod.mk.injEq] at h
        obtain ⟨p,y,hq,rfl,rfl⟩:=h
        have hb:=bnd_sound hs hh
        rcases hb with ⟨hb,_⟩ | ⟨k,hb⟩
        · simp at hb
        · obtain ⟨u,h1,h2⟩:=sliceQ_sound hq hob.2 hs.rel.hr (V.strip_sound (ev x) hob.1) (lo.map a.eval) _ none (bnd_sound hs hl) (.inr ⟨k,h',hb,rfl⟩) (.inl ⟨rfl,rfl⟩)
          exact ⟨u,h1,fun w' _=>by simp only [execOp,ho]; simp only [Option.map_none,Sem.run_bind,h2 w']; simp⟩
    · rename_i l h' m hl hh hm
      cases hi with
      | none=>simp at hh
      | some hi =>
        cases mx with
        | none=>simp at hm
        | some mx =>
          simp only [Option.map_some,Option.some.injEq] at hh hm
          simp only [Option.map_eq_some_iff,Prod.exists,Prod.mk.injEq] at h
          obtain ⟨p,y,hq,rfl,rfl⟩:=h
          have hb:=bnd_sound hs hh
          have hb':=bnd_sound hs hm
          rcases hb with ⟨hb,_⟩ | ⟨k,hb⟩
          · simp at hb
          rcases hb' with ⟨hb',_⟩ | ⟨k',hb'⟩
          · simp at hb'
          obtain ⟨u,h1,h2⟩:=sliceQ_sound hq hob.2 hs.rel.hr (V.strip_sound (ev x) hob.1) (lo.map a.eval) _ _ (bnd_sound hs hl) (.inr ⟨k,h',hb,rfl⟩) (.inr ⟨k',m,hb',rfl⟩)
          exact ⟨u,h1,fun w' _=>by simp only [execOp,ho]; simp only [Sem.run_bind,h2 w']; simp⟩
    · cases h
  · rename_i f first caps
    split at h
    · rename_i hf
      simp only [Option.some.injEq,Prod.mk.injEq] at h
      obtain ⟨_,rfl⟩:=h
      obtain rfl:first = #[]:=Array.eq_empty_of_size_eq_zero hf
      refine ⟨.func f #[] (caps.map a.eval),.fn _ _ _ (by simp) fun j x v hx hv => ?_,fun w' _=>by simp [execOp,ho,Instr.makeFunc]⟩
      simp only [List.getElem?_map,Array.getElem?_toList] at hx
      simp only [Array.getElem?_map] at hv
      cases hc:caps[j]? with
      | none=>simp [hc] at hx
      | some y =>
        simp [hc] at hx hv
        subst hx hv
        exact ev y
    · cases h
  · rename_i x
    split at h <;> simp only [Option.some.injEq,Prod.mk.injEq,reduceCtorEq] at h <;> obtain ⟨rfl,rfl⟩:=h <;> rename_i hx <;>
      have e1:=V.strip_sound (ev x) hob <;> rw [hx] at e1 <;> refine ⟨_,e1,fun w' _ => ?_⟩ <;> generalize hv:a.eval x=v at e1 <;> cases e1
    · simp [execOp,ho,hv]
    · rename_i hd; cases hd; simp [execOp,ho,hv]
    · simp [execOp,ho,hv]
    · rename_i hd; cases hd; simp [execOp,ho,hv]
    · simp [execOp,ho,hv]
  · rename_i c
    split at h
    · rename_i b hb
      exact builtQ_sound h hob hs o (by rw [ho]; cases c; simp_all)
    · cases h
  · cases h

end Go.Aw

namespace Go.Aw
set_option linter.unusedSimpArgs false
set_option linter.unusedVariables false
open Go.RowKit

def dOf:V→Option D
  | .d x=>some x
  | .nil=>some (.sl [])
  | _=>none

def dOfs:List V→Option (List D)
  | []=>some []
  | x::r=>match dOf x,dOfs r with
    | some d,some ds=>some (d::ds)
    | _,_=>none

theorem dOf_sound {E:Env} {F:Nat→Prop} {w:World} {x:V} {d:D} {v:Value} (h:dOf x=some d) (hx:VR E F w x v) : RD F w d v:=by
  unfold dOf at h
  split at h
  · simp at h; subst h; cases hx; assumption
  · simp at h; subst h; cases hx; exact .sl0 _ _
  · cases h

theorem dOfs_get:∀ {xs:List V} {ds:List D},dOfs xs=some ds→ds.length=xs.length∧∀ (j:Nat) (d:D),ds[j]? = some d→∃ x,xs[j]? = some x∧dOf x=some d
  | [],ds,h=>by simp [dOfs] at h; subst h; simp
  | x::r,ds,h=>by
    simp only [dOfs] at h
    split at h
    · rename_i d ds' hd hds
      simp at h
      subst h
      obtain ⟨h1,h2⟩:=dOfs_get hds
      refine ⟨by simp [h1],fun j e he => ?_⟩
      cases j with
      | zero=>simp at he; subst he; exact ⟨x,rfl,hd⟩
      | succ j=>simpa using h2 j e (by simpa using he)
    · cases h

def dOfss:List (List V)→Option (List (List D))
  | []=>some []
  | r::l=>match dOfs r,dOfss l with
    | some d,some ds=>some (d::ds)
    | _,_=>none

theorem dOfss_get:∀ {l:List (List V)} {ds:List (List D)},dOfss l=some ds→ds.length=l.length∧∀ (j:Nat) (d:List D),ds[j]? = some d→∃ r,l[j]? = some r∧dOfs r=some d
  | [],ds,h=>by simp [dOfss] at h; subst h; simp
  | r::l,ds,h=>by
    simp only [dOfss] at h
    split at h
    · rename_i d ds' h1 h2
      simp at h
      subst h
      obtain ⟨q1,q2⟩:=dOfss_get h2
      refine ⟨by simp [q1],fun j d' hj => ?_⟩
      cases j with
      | zero=>simp at hj; subst hj; exact ⟨r,rfl,h1⟩
      | succ j=>obtain ⟨r',h3,h4⟩:=q2 j d' (by simpa using hj); exact ⟨r',by simpa using h3,h4⟩
    · cases h

def Blk.rowsD:Blk→Option (List (List D))
  | .data _ rows=>some rows
  | .cells xs=>(dOfs xs).map fun ds=>[ds]
  | .vrs _ rs=>dOfss rs
  | _=>none

mutual
def V.frz (i:Nat) (rows:List (List D)) : V→V
  | .agg xs=>.agg (V.frzL i rows xs)
  | .tup xs=>.tup (V.frzL i rows xs)
  | .ptr id row off=>if id=i then .d (.cp (rows[row]?.getD []) off) else .ptr id row off
  | .ref id off len=>if id=i then .d (.sl ((rows.drop off).take len)) else .ref id off len
  | .fn f xs=>.fn f (V.frzL i rows xs)
  | .iface t x=>.iface t (V.frz i rows x)
  | .opt g x=>.opt g (V.frz i rows x)
  | x=>x
def V.frzL (i:Nat) (rows:List (List D)) : List V→List V
  | []=>[]
  | x::r=>V.frz i rows x::V.frzL i rows r
end

theorem frzL_eq (i:Nat) (rows:List (List D)) : ∀ xs:List V,V.frzL i rows xs=xs.map (V.frz i rows)
  | []=>rfl
  | x::r=>by simp [V.frzL,frzL_eq i rows r]

def Blk.frz (i:Nat) (rows:List (List D)) : Blk→Blk
  | .cells xs=>.cells (V.frzL i rows xs)
  | .vrs k rs=>.vrs k (rs.map fun r=>V.frzL i rows r)
  | .mp es=>.mp (es.map fun p=>(V.frz i rows p.1,V.frz i rows p.2))
  | .it x seen n=>.it (V.frz i rows x) seen n
  | b=>b

theorem Blk.frz_map1 (i:Nat) (rows:List (List D)) (b:Blk) : b.frz i rows=b.map1 (V.frz i rows):=by
  cases b <;> simp [Blk.frz,Blk.map1,frzL_eq]

def tmFrz (i:Nat) (rows:List (List D)) : List (Nat × V)→List (Nat × V)
  | []=>[]
  | (j,x)::r=>(j,V.frz i rows x)::tmFrz i rows r

theorem tget_frz (i:Nat) (rows:List (List D)) (j:Nat) : ∀ l:List (Nat × V),tget (tmFrz i rows l) j=(tget l j).map (V.frz i rows)
  | []=>rfl
  | (k,x)::r=>by
    simp only [tmFrz,tget]
    split
    · rfl
    · exact tget_frz i rows j r

def heapFrz (i:Nat) (rows:List (List D)) : List Blk→List Blk
  | []=>[]
  | b::r=>b.frz i rows::heapFrz i rows r

theorem heapFrz_eq (i:Nat) (rows:List (List D)) : ∀ l,heapFrz i rows l=l.map (Blk.frz i rows)
  | []=>rfl
  | b::r=>by simp [heapFrz,heapFrz_eq i rows r]

def St.frz (s:St) (i:Nat) : St :=
  match (s.heap[i]?.getD .gone).rowsD with
  | some rows=>{ tm:=tmFrz i rows s.tm,heap:=(heapFrz i rows s.heap).set i .gone }
  | none=>s

theorem rowsD_sound {B:Base} {s:St} {E:Env} {F:Nat→Prop} {w:World} (hr:Rel B s E F w) {i:Nat} {e:En} {blk:Blk} {rows:List (List D)}
    (he:E[i]? = some e) (hb:s.heap[i]? = some blk) (hrows:blk.rowsD=some rows) :
    e.n=rows.length∧(∀ (j:Nat) (row:List D),rows[j]? = some row→row.length=e.k)∧blk.live=true ∧
    ((e.blk=none∧rows=[])∨∃ b cs t,e.blk=some b∧w.heap[b]? = some (.cells cs t (0,0))∧rows.length*e.k≤cs.size ∧
      ∀ (j:Nat) (row:List D) (l:Nat) (x:D),rows[j]? = some row→row[l]? = some x→∃ v,cs[j*e.k+l]? = some v∧RD F w x v):=by
  have hbr:=hr.hr.blk _ _ _ he hb
  cases blk with
  | gone=>simp [Blk.rowsD] at hrows
  | mp es=>simp [Blk.rowsD] at hrows
  | it x seen n=>simp [Blk.rowsD] at hrows
  | vrs k rs =>
    simp only [Blk.rowsD] at hrows
    obtain ⟨hl,hg⟩:=dOfss_get hrows
    obtain ⟨rfl,h2,h3,h4⟩:=hbr
    refine ⟨by omega,fun j row hj => ?_,rfl,?_⟩
    · obtain ⟨r,g1,g2⟩:=hg j row hj
      have:=h3 j r g1
      have:=(dOfs_get g2).1
      omega
    · rcases h4 with ⟨h4,rfl⟩ | ⟨b,cs,t,h4,h5,h6,h7⟩
      · exact .inl ⟨h4,by simpa using hl⟩
      · refine .inr ⟨b,cs,t,h4,h5,by rw [hl]; exact h6,fun j row l x hj hx => ?_⟩
        obtain ⟨r,g1,g2⟩:=hg j row hj
        obtain ⟨y,hy,hd⟩:=(dOfs_get g2).2 l x hx
        obtain ⟨v,hv,_,hvr⟩:=h7 j r l y g1 hy
        exact ⟨v,hv,dOf_sound hd hvr⟩
  | data k rows' =>
    simp [Blk.rowsD] at hrows
    subst hrows
    obtain ⟨rfl,h2,h3,h4⟩:=hbr
    exact ⟨h2,fun j row hj=>(h3 j row hj).1,rfl,h4⟩
  | cells xs =>
    simp only [Blk.rowsD,Option.map_eq_some_iff] at hrows
    obtain ⟨ds,hds,rfl⟩:=hrows
    obtain ⟨h1,h2,b,cs,t,h3,h4,h5,h6⟩:=hbr
    obtain ⟨hl,hg⟩:=dOfs_get hds
    refine ⟨h2,fun j row hj => ?_,rfl,.inr ⟨b,cs,t,h3,h4,by simp; omega,fun j row l x hj hx => ?_⟩⟩
    · cases j with
      | zero=>simp at hj; subst hj; omega
      | succ j=>simp at hj
    · cases j with
      | zero =>
        simp at hj
        subst hj
        obtain ⟨y,hy,hd⟩:=hg l x hx
        obtain ⟨v,hv,hvr⟩:=h6 l y hy
        exact ⟨v,by simpa using hv,dOf_sound hd hvr⟩
      | succ j=>simp at hj

theorem frz_VR {B:Base} {s:St} {E:Env} {F:Nat→Prop} {w:World} (hr:Rel B s E F w) {i:Nat} {e:En} {blk:Blk} {rows:List (List D)}
    (he:E[i]? = some e) (hb:s.heap[i]? = some blk) (hrows:blk.rowsD=some rows) {x:V} {v:Value} (hx:VR E F w x v) :
    VR E (fun b=>F b∨e.blk=some b) w (x.frz i rows) v:=by
  obtain ⟨hn,hk,_,hc⟩:=rowsD_sound hr he hb hrows
  have up:∀ b,F b→(F b∨e.blk=some b):=fun b h=>.inl h
  have upR:∀ {x:D} {v:Value},RD F w x v→RD (fun b=>F b∨e.blk=some b) w x v:=fun h=>h.evo up (fun _ _=>rfl)
  induction hx with
  | d x v hd=>exact .d x v (upR hd)
  | agg xs cs hs hrr ih =>
    simp only [V.frz,frzL_eq]
    refine .agg _ cs (by simpa using hs) fun j x v hx hv => ?_
    simp only [List.getElem?_map,Option.map_eq_some_iff] at hx
    obtain ⟨y,hy,rfl⟩:=hx
    exact ih j y v hy hv
  | tup xs cs hs hrr ih =>
    simp only [V.frz,frzL_eq]
    refine .tup _ cs (by simpa using hs) fun j x v hx hv => ?_
    simp only [List.getElem?_map,Option.map_eq_some_iff] at hx
    obtain ⟨y,hy,rfl⟩:=hx
    exact ih j y v hy hv
  | fn f xs cs hs hrr ih =>
    simp only [V.frz,frzL_eq]
    refine .fn f _ cs (by simpa using hs) fun j x v hx hv => ?_
    simp only [List.getElem?_map,Option.map_eq_some_iff] at hx
    obtain ⟨y,hy,rfl⟩:=hx
    exact ih j y v hy hv
  | iface t x v hx ih=>exact .iface t _ v ih
  | opt g x v hx hu ih=>exact .opt g _ v ih hu
  | junk v=>exact .junk v
  | nil a=>exact .nil a
  | map id b k m hE=>exact .map id b k m hE
  | ptr id row off b k m hE hm =>
    simp only [V.frz]
    split
    · rename_i hid
      subst hid
      rw [he] at hE
      simp only [Option.some.injEq] at hE
      subst hE
      dsimp only at hn hk hc
      rcases hc with ⟨h1,_⟩ | ⟨b',cs,t,h1,hw,hsz,hcell⟩
      · cases h1
      simp only [Option.some.injEq] at h1
      subst h1
      have hrow:row<rows.length:=by omega
      have hg:rows[row]? = some rows[row]:=List.getElem?_eq_getElem hrow
      have hlen:=hk _ _ hg
      have hb:=lt_mul_of (n:=rows.length) (m:=k) (k:=k) (off:=0) hrow (by omega)
      simp only [hg,Option.getD_some]
      refine .d _ _ (.cp b (row*k) off rows[row] (fun j=>cs[row*k+j]?.getD undef) (.inr rfl) (fun j hj => ?_) fun j x hx => ?_)
      · rw [cell_of_row w b _ cs t (0,0) hw,Array.getElem?_eq_getElem (by omega)]
        rfl
      · obtain ⟨u,hu,hrd⟩:=hcell row rows[row] j x hg hx
        rw [hu]
        exact upR hrd
    · exact .ptr id row off b k m hE hm
  | ref id off len b k m a cap n hE hm ha hl hbz hcp =>
    simp only [V.frz]
    split
    · rename_i hid
      subst hid
      rw [he] at hE
      simp only [Option.some.injEq] at hE
      subst hE
      dsimp only at hn hk hc
      rcases hc with ⟨h1,_⟩ | ⟨b',cs,t,h1,hw,hsz,hcell⟩
      · cases h1
      simp only [Option.some.injEq] at h1
      subst h1
      have hlen:((rows.drop off).take len).length=len:=by rw [List.length_take,List.length_drop]; omega
      by_cases h0:len=0
      · subst h0
        rw [List.take_zero]
        exact .d _ _ (.sl0 _ _)
      · rw [ha (.inl (by omega))]
        have hget:∀ (j:Nat) (row:List D),((rows.drop off).take len)[j]? = some row→j<len∧rows[off+j]? = some row:=fun j row hj=>by
          rw [List.getElem?_take] at hj
          split at hj
          · rw [List.getElem?_drop] at hj; exact ⟨by assumption,hj⟩
          · cases hj
        have:=RD.sl (F:=fun b'=>F b'∨(some b:Option Nat)=some b') (w:=w) b (off*k) cap k ((rows.drop off).take len) (fun i j=>cs[(off+i)*k+j]?.getD undef) (by omega) (.inr rfl)
          (fun i row hi=>hk _ _ (hget i row hi).2)
          (fun i j hi hj=>by
            have hb:=lt_mul_of (n:=rows.length) (m:=1) (k:=k) (off:=j) (row:=off+i) (by omega) (by omega)
            have e:off*k+(i*k+j)=(off+i)*k+j:=by rw [Nat.add_mul]; omega
            rw [e,cell_of_row w b _ cs t (0,0) hw,Array.getElem?_eq_getElem (by omega)]
            rfl)
          (fun i row j x hi hx=>by
            obtain ⟨u,hu,hrd⟩:=hcell (off+i) row j x (hget i row hi).2 hx
            rw [hu]
            exact upR hrd)
        rw [hlen] at this
        exact .d _ _ this
    · exact .ref id off len b k m a cap n hE hm ha hl hbz hcp
  | refv id k m a hE =>
    simp only [V.frz]
    split
    · rw [List.take_zero]; exact .d _ _ (.sl0 _ _)
    · exact .refv id k m a hE

theorem frz_sim {B:Base} {s:St} {a:Act} {w:World} {E:Env} {F:Nat→Prop} (hs:Sim B s a w E F) (i:Nat) : ∃ F',Sim B (s.frz i) a w E F':=by
  unfold St.frz
  split
  rotate_left
  · exact ⟨F,hs⟩
  rename_i rows hrows
  cases hb:s.heap[i]? with
  | none=>simp [hb,Blk.rowsD] at hrows
  | some blk =>
    simp only [hb,Option.getD_some] at hrows
    have hil:i<s.heap.length:=by
      rcases Nat.lt_or_ge i s.heap.length with h | h
      · exact h
      · rw [List.getElem?_eq_none h] at hb; cases hb
    have hE:E[i]? = some (E[i]'(by rw [hs.rel.hr.len]; exact hil)):=List.getElem?_eq_getElem _
    generalize E[i]'(by rw [hs.rel.hr.len]; exact hil)=e at hE
    obtain ⟨hn,hk,hlive,hc⟩:=rowsD_sound hs.rel hE hb hrows
    have hheap:∀ (j:Nat) (b:Blk),((heapFrz i rows s.heap).set i .gone)[j]? = some b→b.live=true→j≠i∧∃ b0,s.heap[j]? = some b0∧b=b0.frz i rows∧b0.live=true:=by
      intro j b hj hbl
      rw [List.getElem?_set] at hj
      split at hj
      · split at hj
        · simp at hj; subst hj; cases hbl
        · cases hj
      · rename_i hne
        simp only [heapFrz_eq,List.getElem?_map,Option.map_eq_some_iff] at hj
        obtain ⟨b0,h0,rfl⟩:=hj
        refine ⟨Ne.symm hne,b0,h0,rfl,?_⟩
        cases b0 <;> simp_all [Blk.frz,Blk.live]
    refine ⟨fun b=>F b∨e.blk=some b,⟨hs.rel.os,hs.rel.tape,hs.rel.output,hs.rel.size,fun b hb=>.inl (hs.rel.F0 b hb),?_,hs.rel.same,?_,?_,?_,hs.rel.keep,hs.rel.sz⟩,hs.defers,?_⟩
    · rintro b (hF | he)
      · exact hs.rel.only b hF
      · exact .inr (hs.rel.src i b e blk hE hb hlive he)
    · refine hs.rel.lt.evo (fun _ h=>.inl h) (fun _ _=>rfl) ?_
      rintro b (hF | he)
      · exact hs.rel.lt b hF
      · exact (hs.rel.hr.free i b e blk hE he hb hlive).1
    · refine ⟨?_,?_,?_,?_⟩
      · simp [heapFrz_eq,hs.rel.hr.len]
      · intro j ej b hEj hj
        cases hbl:b.live with
        | false =>
          cases b <;> simp_all [Blk.live]
          trivial
        | true =>
          obtain ⟨hji,b0,h0,rfl,hl0⟩:=hheap j b hj hbl
          have hbr:=hs.rel.hr.blk j ej b0 hEj h0
          have:=BR.to (f:=V.frz i rows) (E':=E) (F':=fun b=>F b∨e.blk=some b) (w':=w) hbr (fun x v hx=>hx.evo (fun _ h=>.inl h) (fun _ _=>rfl)) (fun x v _ hx=>frz_VR hs.rel hE hb hrows hx) (fun _ _=>rfl)
          rwa [← Blk.frz_map1] at this
      · intro j b ej blk' hEj hbj hj hbl
        obtain ⟨hji,b0,h0,rfl,hl0⟩:=hheap j blk' hj hbl
        obtain ⟨h1,h2⟩:=hs.rel.hr.free j b ej b0 hEj hbj h0 hl0
        refine ⟨h1,?_⟩
        rintro (hF | he)
        · exact h2 hF
        · exact hji (hs.rel.hr.inj j i b ej e b0 blk hEj hE hbj he h0 hb hl0 hlive)
      · intro j l b ej el bj bl hEj hEl hbj hbl hj hl hlj hll
        obtain ⟨_,b0,h0,_,hl0⟩:=hheap j bj hj hlj
        obtain ⟨_,b1,h1,_,hl1⟩:=hheap l bl hl hll
        exact hs.rel.hr.inj j l b ej el b0 b1 hEj hEl hbj hbl h0 h1 hl0 hl1
    · intro j b ej bj hEj hj hlj hbj
      obtain ⟨_,b0,h0,_,hl0⟩:=hheap j bj hj hlj
      exact hs.rel.src j b ej b0 hEj h0 hl0 hbj
    · intro j x hx
      rw [tget_frz] at hx
      simp only [Option.map_eq_some_iff] at hx
      obtain ⟨y,hy,rfl⟩:=hx
      obtain ⟨v,hv,hvr⟩:=hs.tm j y hy
      exact ⟨v,hv,frz_VR hs.rel hE hb hrows hvr⟩

def St.fz:Nat→St→V→St
  | 0,s,_=>s
  | n+1,s,.ref id _ _=>(match s.heap[id]?.getD .gone with | .vrs _ rs=>rs.foldl (fun (s:St) (r:List V)=>r.foldl (St.fz n) s) s | _=>s).frz id
  | n+1,s,.ptr id _ _=>(match s.heap[id]?.getD .gone with | .cells xs=>xs.foldl (St.fz n) s | _=>s).frz id
  | n+1,s,.fn _ xs=>xs.foldl (St.fz n) s
  | n+1,s,.agg xs=>xs.foldl (St.fz n) s
  | n+1,s,.iface _ x=>St.fz n s x
  | n+1,s,.opt _ x=>St.fz n s x
  | _+1,s,_=>s

theorem fz_sim {B:Base} {a:Act} {w:World} {E:Env} : ∀ (n:Nat) (s:St) (x:V) (F:Nat→Prop),Sim B s a w E F→∃ F',Sim B (s.fz n x) a w E F'
  | 0,s,_,F,h=>⟨F,h⟩
  | n+1,s,x,F,h=>by
    have hf:∀ (xs:List V) (s:St) (F:Nat→Prop),Sim B s a w E F→∃ F',Sim B (xs.foldl (St.fz n) s) a w E F':=by
      intro xs
      induction xs with
      | nil=>exact fun s F h=>⟨F,h⟩
      | cons y r ih =>
        intro s F h
        obtain ⟨F1,h1⟩:=fz_sim n s y F h
        exact ih _ F1 h1
    cases x with
    | ref id off len =>
      simp only [St.fz]
      split
      · rename_i k rs _
        have hg:∀ (rs:List (List V)) (s:St) (F:Nat→Prop),Sim B s a w E F→∃ F',Sim B (rs.foldl (fun (s:St) (r:List V)=>r.foldl (St.fz n) s) s) a w E F':=by
          intro rs
          induction rs with
          | nil=>exact fun s F h=>⟨F,h⟩
          | cons y r ih =>
            intro s F h
            obtain ⟨F1,h1⟩:=hf y s F h
            exact ih _ F1 h1
        obtain ⟨F1,h1⟩:=hg rs s F h
        exact frz_sim h1 id
      · exact frz_sim h id
    | ptr id row off =>
      simp only [St.fz]
      split
      · obtain ⟨F1,h1⟩:=hf _ s F h
        exact frz_sim h1 id
      · exact frz_sim h id
    | fn f xs=>exact hf xs s F h
    | agg xs=>exact hf xs s F h
    | iface t y=>exact fz_sim n s y F h
    | opt g y=>exact fz_sim n s y F h
    | _=>exact ⟨F,h⟩

def St.settle (s:St) : List Operand→St
  | []=>s
  | x::r=>(s.fz 3 (s.ev x)).settle r

theorem settle_sim {B:Base} {a:Act} {w:World} {E:Env} : ∀ (l:List Operand) (s:St) (F:Nat→Prop),Sim B s a w E F→∃ F',Sim B (s.settle l) a w E F'
  | [],s,F,h=>⟨F,h⟩
  | x::r,s,F,h=>by
    obtain ⟨F1,h1⟩:=fz_sim 3 s (s.ev x) F h
    exact settle_sim r _ F1 h1

end Go.Aw

namespace Go.Aw
set_option linter.unusedSimpArgs false
set_option linter.unusedVariables false
open Go.RowKit

def V.leaf:V→Bool
  | .d x=>x.leaf
  | .agg _=>false
  | .tup _=>false
  | .opt _ _=>false
  | .junk=>false
  | _=>true
def V.cellsV:V→List V
  | .agg xs=>xs
  | x=>[x]
def V.flat:V→Bool
  | .agg xs=>xs.all V.leaf
  | x=>x.leaf

theorem RD.one {F:Nat→Prop} {w:World} {x:D} {v:Value} (h:RD F w x v) (hl:x.leaf=true) : v.oneCell'=true:=by
  cases h <;> first | rfl | cases hl

theorem VR.one {E:Env} {F:Nat→Prop} {w:World} {x:V} {v:Value} (h:VR E F w x v) (hl:x.leaf=true) : v.oneCell'=true:=by
  cases h with
  | d x v h=>exact h.one hl
  | _=>first | rfl | cases hl

theorem cells_one {v:Value} (h:v.oneCell'=true) : v.cells = #[v]:=by
  cases v <;> first | rfl | cases h

theorem cellsV_sound {E:Env} {F:Nat→Prop} {w:World} {x:V} {v:Value} (h:VR E F w x v) (hf:x.flat=true) :
    v.cells.size=x.cellsV.length∧(∀ (j:Nat) (y:V),x.cellsV[j]? = some y→∃ u,v.cells[j]? = some u∧VR E F w y u)∧∀ u∈v.cells.toList,u.oneCell'=true:=by
  have leafy:x.leaf=true→x.cellsV=[x]→v.cells.size=x.cellsV.length∧(∀ (j:Nat) (y:V),x.cellsV[j]? = some y→∃ u,v.cells[j]? = some u∧VR E F w y u)∧∀ u∈v.cells.toList,u.oneCell'=true:=by
    intro hl hc
    have h1:=h.one hl
    rw [cells_one h1,hc]
    refine ⟨rfl,fun j y hj => ?_,fun u hu => ?_⟩
    · cases j with
      | zero=>simp at hj; subst hj; exact ⟨v,rfl,h⟩
      | succ j=>simp at hj
    · simp at hu; subst hu; exact h1
  cases h with
  | agg xs cs hs hr =>
    refine ⟨hs,fun j y hj => ?_,fun u hu => ?_⟩
    · have hj':j<cs.size:=by
        have:=(List.getElem?_eq_some_iff.1 hj).1
        simp only [V.cellsV] at this
        omega
      exact ⟨cs[j],Array.getElem?_eq_getElem hj',hr j y _ hj (Array.getElem?_eq_getElem hj')⟩
    · simp only [Value.cells] at hu
      obtain ⟨j,hj,rfl⟩:=List.getElem_of_mem hu
      simp at hj
      have hx:xs[j]? = some (xs[j]'(by omega)):=List.getElem?_eq_getElem _
      have hl:=List.all_eq_true.1 hf _ (List.mem_of_getElem? hx)
      exact (hr j _ _ hx (by simp [hj])).one hl
  | d x v h=>exact leafy hf rfl
  | ptr=>exact leafy rfl rfl
  | ref=>exact leafy rfl rfl
  | refv=>exact leafy rfl rfl
  | nil=>exact leafy rfl rfl
  | fn=>exact leafy rfl rfl
  | map=>exact leafy rfl rfl
  | iface=>exact leafy rfl rfl
  | tup=>cases hf
  | opt=>cases hf
  | junk=>cases hf

theorem heap_setRow_other (w:World) (g k:Nat) (cs:Array Value) (h:k≠g) : (w.setRow g cs).heap[k]? = w.heap[k]?:=by
  simp only [World.setRow,Array.getElem?_modify]
  rw [if_neg (Ne.symm h)]

theorem Sz.setRow {w:World} {g b n:Nat} {cs cs':Array Value} {t:TypeId} {fr:Nat × Nat} (hw:w.heap[g]? = some (.cells cs t fr)) (hsz:cs'.size=cs.size) (h:Sz w b n) : Sz (w.setRow g cs') b n:=by
  obtain ⟨c,u,hc,hn⟩:=h
  by_cases hb:b=g
  · subst hb
    rw [hw] at hc
    simp only [Option.some.injEq,Obj.cells.injEq] at hc
    obtain ⟨rfl,rfl,rfl⟩:=hc
    exact ⟨cs',t,setRow_heap w b cs cs' t _ hw,by omega⟩
  · exact ⟨c,u,(heap_setRow_other w g b cs' hb).trans hc,hn⟩

theorem upd_rel {B:Base} {s:St} {E:Env} {F:Nat→Prop} {w:World} (hr:Rel B s E F w) {i b:Nat} {e:En} {blk blk':Blk} {cs cs':Array Value} {t:TypeId}
    (he:E[i]? = some e) (hb:s.heap[i]? = some blk) (hl:blk.live=true) (heb:e.blk=some b) (hw:w.heap[b]? = some (.cells cs t (0,0))) (hsz:cs'.size=cs.size)
    (hbr:BR E F (w.setRow b cs') e blk') :
    Evo E F w E F (w.setRow b cs') (fun _=>True)∧Rel B { s with heap:=s.heap.set i blk' } E F (w.setRow b cs'):=by
  obtain ⟨hbl,hbF⟩:=hr.hr.free i b e blk he heb hb hl
  have hsame:∀ c,F c→(w.setRow b cs').heap[c]? = w.heap[c]?:=fun c hc=>heap_setRow_other w b c cs' (fun e=>hbF (e ▸ hc))
  have evo:Evo E F w E F (w.setRow b cs') (fun _=>True):=⟨fun _ h=>h,hsame,fun _ _ _ h=>h,fun c n h=>h.setRow hw hsz⟩
  have hget:∀ (j:Nat) (bj:Blk),(s.heap.set i blk')[j]? = some bj→(j=i∧bj=blk')∨(j≠i∧s.heap[j]? = some bj):=fun j bj hj=>by
    rw [List.getElem?_set] at hj
    split at hj
    · split at hj
      · simp at hj; exact .inl ⟨(by assumption:i=j).symm,hj.symm⟩
      · cases hj
    · exact .inr ⟨Ne.symm (by assumption),hj⟩
  refine ⟨evo,hr.os,hr.tape,⟨hr.output.output⟩,by simpa using hr.size,hr.F0,hr.only,fun c h1 h2=>(heap_setRow_other w b c cs' (fun q=>(hr.src i b e blk he hb hl heb).elim (fun h=>by omega) (fun h=>h2 (q ▸ h)))).trans (hr.same c h1 h2),hr.lt.evo evo.up evo.same (by simpa using hr.lt.lt),⟨by simpa using hr.hr.len,?_,?_,?_⟩,?_,hr.keep,fun c n h=>(hr.sz c n h).setRow hw hsz⟩
  · intro j ej bj hEj hj
    rcases hget j bj hj with ⟨rfl,rfl⟩ | ⟨hji,hj⟩
    · rw [he] at hEj
      simp only [Option.some.injEq] at hEj
      subst hEj
      exact hbr
    · cases hlj:bj.live with
      | false=>cases bj <;> simp_all [Blk.live]; trivial
      | true =>
        refine (hr.hr.blk j ej bj hEj hj).evo evo (fun _ _=>trivial) fun c hc=>heap_setRow_other w b c cs' fun e => ?_
        subst e
        exact hji (hr.hr.inj j i c ej _ bj blk hEj he hc heb hj hb hlj hl)
  · intro j c ej bj hEj hc hj hlj
    rw [size_setRow]
    rcases hget j bj hj with ⟨rfl,rfl⟩ | ⟨hji,hj⟩
    · rw [he] at hEj
      simp only [Option.some.injEq] at hEj
      subst hEj
      exact hr.hr.free j c _ blk he hc hb hl
    · exact hr.hr.free j c ej bj hEj hc hj hlj
  · intro j l c ej el bj bl hEj hEl hcj hcl hj hl' hlj hll
    have hb':∀ (j:Nat) (bj:Blk),(s.heap.set i blk')[j]? = some bj→bj.live=true→∃ b0,s.heap[j]? = some b0∧b0.live=true:=fun j bj hj hlj=>by
      rcases hget j bj hj with ⟨rfl,rfl⟩ | ⟨hji,hj⟩
      · exact ⟨blk,hb,hl⟩
      · exact ⟨bj,hj,hlj⟩
    obtain ⟨b0,h0,hl0⟩:=hb' j bj hj hlj
    obtain ⟨b1,h1,hl1⟩:=hb' l bl hl' hll
    exact hr.hr.inj j l c ej el b0 b1 hEj hEl hcj hcl h0 h1 hl0 hl1
  · intro j c ej bj hEj hj hlj hc
    rcases hget j bj hj with ⟨rfl,rfl⟩ | ⟨hji,hj⟩
    · exact hr.src j c ej blk hEj hb hl hc
    · exact hr.src j c ej bj hEj hj hlj hc

theorem Sz.alloc {w:World} {b n:Nat} (o:Obj) (h:Sz w b n) : Sz (w.alloc o) b n:=by
  have hb:=h.lt
  obtain ⟨c,u,hc,hn⟩:=h
  exact ⟨c,u,(Below.heap_alloc w o b hb).trans hc,hn⟩

theorem alloc_rel {B:Base} {s:St} {E:Env} {F:Nat→Prop} {w:World} (hr:Rel B s E F w) (o:Obj) {e:En} {blk:Blk} (heb:e.blk=some w.heap.size)
    (hbr:Evo E F w (E++[e]) F (w.alloc o) (fun _=>True)→BR (E++[e]) F (w.alloc o) e blk) :
    Evo E F w (E++[e]) F (w.alloc o) (fun _=>True)∧Rel B { s with heap:=s.heap++[blk] } (E++[e]) F (w.alloc o):=by
  have hold:∀ c,c<w.heap.size→(w.alloc o).heap[c]? = w.heap[c]?:=fun c hc=>Below.heap_alloc w o c hc
  have hE:∀ (j:Nat) (ej:En),E[j]? = some ej→(E++[e])[j]? = some ej:=fun j ej h=>by
    rw [List.getElem?_append_left (List.getElem?_eq_some_iff.1 h).1]; exact h
  have evo:Evo E F w (E++[e]) F (w.alloc o) (fun _=>True):=⟨fun _ h=>h,fun c hc=>hold c (hr.lt c hc),fun j ej _ h=>hE j ej h,fun c n h=>h.alloc o⟩
  have hget:∀ (j:Nat) (ej:En) (bj:Blk),(E++[e])[j]? = some ej→(s.heap++[blk])[j]? = some bj→(j=E.length∧ej=e∧bj=blk)∨(E[j]? = some ej∧s.heap[j]? = some bj):=fun j ej bj h1 h2=>by
    rcases Nat.lt_trichotomy j E.length with h | h | h
    · rw [List.getElem?_append_left h] at h1
      rw [List.getElem?_append_left (by rw [← hr.hr.len]; exact h)] at h2
      exact .inr ⟨h1,h2⟩
    · subst h
      rw [List.getElem?_append_right (Nat.le_refl _)] at h1
      rw [hr.hr.len,List.getElem?_append_right (Nat.le_refl _)] at h2
      simp at h1 h2
      exact .inl ⟨rfl,h1.symm,h2.symm⟩
    · rw [List.getElem?_eq_none (by simp; omega)] at h1; cases h1
  refine ⟨evo,hr.os,hr.tape,⟨hr.output.output⟩,by have:=hr.size; simp; omega,hr.F0,hr.only,fun c h1 h2=>(hold c (Nat.lt_of_lt_of_le h1 hr.size)).trans (hr.same c h1 h2),hr.lt.evo evo.up evo.same (fun c hc=>by have:=hr.lt c hc; simp; omega),⟨by simp [hr.hr.len],?_,?_,?_⟩,?_,fun i hi => ?_,fun c n h=>(hr.sz c n h).alloc o⟩
  · intro j ej bj h1 h2
    rcases hget j ej bj h1 h2 with ⟨rfl,rfl,rfl⟩ | ⟨h1,h2⟩
    · exact hbr evo
    · cases hlj:bj.live with
      | false=>cases bj <;> simp_all [Blk.live]; trivial
      | true=>exact (hr.hr.blk j ej bj h1 h2).evo evo (fun _ _=>trivial) fun c hc=>hold c (hr.hr.free j c ej bj h1 hc h2 hlj).1
  · intro j c ej bj h1 hc h2 hlj
    rw [World.size_alloc]
    rcases hget j ej bj h1 h2 with ⟨rfl,rfl,rfl⟩ | ⟨h1,h2⟩
    · rw [heb] at hc
      simp only [Option.some.injEq] at hc
      subst hc
      exact ⟨by omega,fun h=>by have:=hr.lt _ h; omega⟩
    · obtain ⟨h3,h4⟩:=hr.hr.free j c ej bj h1 hc h2 hlj
      exact ⟨by omega,h4⟩
  · intro j l c ej el bj bl h1 h2 h3 h4 h5 h6 h7 h8
    rcases hget j ej bj h1 h5 with ⟨rfl,rfl,rfl⟩ | ⟨g1,g5⟩ <;> rcases hget l el bl h2 h6 with ⟨rfl,rfl,rfl⟩ | ⟨g2,g6⟩
    · rfl
    · rw [heb] at h3
      simp only [Option.some.injEq] at h3
      subst h3
      have:=(hr.hr.free l _ el bl g2 h4 g6 h8).1
      omega
    · rw [heb] at h4
      simp only [Option.some.injEq] at h4
      subst h4
      have:=(hr.hr.free j _ ej bj g1 h3 g5 h7).1
      omega
    · exact hr.hr.inj j l c ej el bj bl g1 g2 h3 h4 g5 g6 h7 h8
  · intro j c ej bj h1 h2 hlj hc
    rcases hget j ej bj h1 h2 with ⟨rfl,rfl,rfl⟩ | ⟨h1,h2⟩
    · rw [heb] at hc
      simp only [Option.some.injEq] at hc
      subst hc
      exact .inl hr.size
    · exact hr.src j c ej bj h1 h2 hlj hc
  · obtain ⟨e',h1,h2⟩:=hr.keep i hi
    exact ⟨e',hE i e' h1,h2⟩

theorem virt_rel {B:Base} {s:St} {E:Env} {F:Nat→Prop} {w:World} (hr:Rel B s E F w) (k:Nat) :
    Evo E F w (E++[⟨none,k,0⟩]) F w (fun _=>True)∧Rel B { s with heap:=s.heap++[.data k []] } (E++[⟨none,k,0⟩]) F w:=by
  have hE:∀ (j:Nat) (ej:En),E[j]? = some ej→(E++[⟨none,k,0⟩])[j]? = some ej:=fun j ej h=>by
    rw [List.getElem?_append_left (List.getElem?_eq_some_iff.1 h).1]; exact h
  have evo:Evo E F w (E++[⟨none,k,0⟩]) F w (fun _=>True):=⟨fun _ h=>h,fun _ _=>rfl,fun j ej _ h=>hE j ej h,fun _ _ h=>h⟩
  have hget:∀ (j:Nat) (ej:En) (bj:Blk),(E++[⟨none,k,0⟩])[j]? = some ej→(s.heap++[.data k []])[j]? = some bj→(ej=⟨none,k,0⟩∧bj=.data k [])∨(E[j]? = some ej∧s.heap[j]? = some bj):=fun j ej bj h1 h2=>by
    rcases Nat.lt_trichotomy j E.length with h | h | h
    · rw [List.getElem?_append_left h] at h1
      rw [List.getElem?_append_left (by rw [← hr.hr.len]; exact h)] at h2
      exact .inr ⟨h1,h2⟩
    · subst h
      rw [List.getElem?_append_right (Nat.le_refl _)] at h1
      rw [hr.hr.len,List.getElem?_append_right (Nat.le_refl _)] at h2
      simp at h1 h2
      exact .inl ⟨h1.symm,h2.symm⟩
    · rw [List.getElem?_eq_none (by simp; omega)] at h1; cases h1
  refine ⟨evo,hr.os,hr.tape,hr.output,hr.size,hr.F0,hr.only,hr.same,hr.lt,⟨by simp [hr.hr.len],?_,?_,?_⟩,?_,fun i hi => ?_,hr.sz⟩
  · intro j ej bj h1 h2
    rcases hget j ej bj h1 h2 with ⟨rfl,rfl⟩ | ⟨h1,h2⟩
    · exact ⟨rfl,rfl,by simp,.inl ⟨rfl,rfl⟩⟩
    · exact (hr.hr.blk j ej bj h1 h2).evo evo (fun _ _=>trivial) fun c hc=>rfl
  · intro j c ej bj h1 hc h2 hlj
    rcases hget j ej bj h1 h2 with ⟨rfl,rfl⟩ | ⟨h1,h2⟩
    · cases hc
    · exact hr.hr.free j c ej bj h1 hc h2 hlj
  · intro j l c ej el bj bl h1 h2 h3 h4 h5 h6 h7 h8
    rcases hget j ej bj h1 h5 with ⟨rfl,rfl⟩ | ⟨h1,h5⟩
    · cases h3
    · rcases hget l el bl h2 h6 with ⟨rfl,rfl⟩ | ⟨h2,h6⟩
      · cases h4
      · exact hr.hr.inj j l c ej el bj bl h1 h2 h3 h4 h5 h6 h7 h8
  · intro j c ej bj h1 h2 hlj hc
    rcases hget j ej bj h1 h2 with ⟨rfl,rfl⟩ | ⟨h1,h2⟩
    · cases hc
    · exact hr.src j c ej bj h1 h2 hlj hc
  · obtain ⟨e',h1,h2⟩:=hr.keep i hi
    exact ⟨e',hE i e' h1,h2⟩

theorem Sim.evo {B:Base} {s s':St} {a:Act} {w w':World} {E E':Env} {F F':Nat→Prop} (hs:Sim B s a w E F) (he:Evo E F w E' F' w' (fun _=>True)) (hr:Rel B s' E' F' w') (ht:s'.tm=s.tm) :
    Sim B s' a w' E' F' :=
  ⟨hr,hs.defers,fun i x hx=>by rw [ht] at hx; obtain ⟨v,hv,h⟩:=hs.tm i x hx; exact ⟨v,hv,h.evo he (fun _ _=>trivial)⟩⟩

end Go.Aw

namespace Go.Aw
set_option linter.unusedSimpArgs false
set_option linter.unusedVariables false
open Go.RowKit

def setL {α:Type} (l:List α) (o:Nat) (xs:List α) : List α:=l.take o++(xs++l.drop (o+xs.length))

theorem setL_len {α:Type} (l:List α) (o:Nat) (xs:List α) (h:o+xs.length≤l.length) : (setL l o xs).length=l.length:=by
  simp [setL]; omega

theorem setL_get {α:Type} (l:List α) (o:Nat) (xs:List α) (h:o+xs.length≤l.length) (j:Nat) :
    (setL l o xs)[j]? = if o≤j∧j<o+xs.length then xs[j - o]? else l[j]?:=by
  have hm:min o l.length=o:=by omega
  by_cases h1:j<o
  · have h3:¬ (o≤j∧j<o+xs.length):=by omega
    simp only [setL,List.getElem?_append,List.length_take,List.getElem?_take,hm,h1,h3,if_true,if_false]
  · by_cases h2:j<o+xs.length
    · have h3:o≤j∧j<o+xs.length:=by omega
      have h4:j - o<xs.length:=by omega
      simp only [setL,List.getElem?_append,List.length_take,hm,h1,h3,h4,if_true,if_false]
      simp
    · have h3:¬ (o≤j∧j<o+xs.length):=by omega
      have h4:¬ j - o<xs.length:=by omega
      have h5:o+xs.length+(j - o - xs.length)=j:=by omega
      simp only [setL,List.getElem?_append,List.length_take,List.getElem?_drop,hm,h1,h3,h4,h5,if_false]

def kzero (P:Program) (t:TypeId) : Option (List V):=((P.info? t).bind (·.zero)).map fun z=>z.cells.toList.map leafConst

theorem kzero_spec {P:Program} {t:TypeId} {zs:List V} (h:kzero P t=some zs) : ∃ i z,P.info? t=some i∧i.zero=some z∧zs=z.cells.toList.map leafConst:=by
  unfold kzero at h
  cases hi:P.info? t with
  | none=>simp [hi] at h
  | some i =>
    cases hz:i.zero with
    | none=>simp [hi,hz] at h
    | some z=>simp [hi,hz] at h; exact ⟨i,z,rfl,hz,h.symm⟩

theorem zero_get {E:Env} {F:Nat→Prop} {w:World} (z:Value) (j:Nat) (x:V) (h:(z.cells.toList.map leafConst)[j]? = some x) : ∃ v,z.cells[j]? = some v∧VR E F w x v:=by
  simp only [List.getElem?_map,Option.map_eq_some_iff,Array.getElem?_toList] at h
  obtain ⟨v,hv,rfl⟩:=h
  exact ⟨v,hv,leafConst_sound v⟩

def storeQ (P:Program) (H:List Blk) (t:TypeId) (p x:V) : Option (Prop × List Blk) :=
  match p with
  | .ptr id row off =>
    match ksz P t,H[id]? with
    | some (_,n),some (.data k rows) =>
      match dOfs x.cellsV with
      | some ds=>some (x.flat=true∧ds.all D.leaf=true∧ds.length=n∧off+n≤k,H.set id (.data k (rows.set row (if off=0∧n=k then ds else setL (rows[row]?.getD []) off ds))))
      | none=>none
    | some (_,n),some (.cells xs)=>some (x.flat=true∧x.cellsV.length=n∧off+n≤xs.length,H.set id (.cells (if off=0∧n=xs.length then x.cellsV else setL xs off x.cellsV)))
    | some (_,n),some (.vrs k rs)=>some (x.flat=true∧x.cellsV.length=n∧off+n≤k,H.set id (.vrs k (rs.set row (if off=0∧n=k then x.cellsV else setL (rs[row]?.getD []) off x.cellsV))))
    | _,_=>none
  | _=>none

theorem ksz_size {P:Program} {t n:Nat} {b:Bool} (h:ksz P t=some (b,n)) (w:World) : (sizeOf t).run P w=.ok n w:=by
  cases b
  · exact (ksz_leaf h w).2
  · exact (ksz_row h w).2

theorem run_storeAt_of {P:Program} {w:World} {t n:Nat} {b:Bool} (h:ksz P t=some (b,n)) (g o:Nat) (v:Value) (cs:Array Value) (tt:TypeId) (hw:w.heap[g]? = some (.cells cs tt (0,0)))
    (hn:v.cells.size=n) (ho:o+n≤cs.size) (h1:∀ u∈v.cells.toList,u.oneCell'=true) :
    (Instr.storeAt t (.pointer (some ⟨g,o,none⟩)) v).run P w=.ok () (w.setRow g (setL cs.toList o v.cells.toList).toArray):=by
  have:=run_storeCells_at (P:=P) g o tt v.cells.toList 0 cs w hw (by simp; omega) h1
  simp only [Nat.add_zero,List.append_assoc] at this
  simp [Instr.storeAt,Instr.sureAddr,storeVar,ksz_size h w,hn,this,setL]

theorem storeQ_sound {P:Program} {B:Base} {s:St} {E:Env} {F:Nat→Prop} {w:World} {t:TypeId} {p x:V} {ob:Prop} {H':List Blk} {u v:Value}
    (h:storeQ P s.heap t p x=some (ob,H')) (hob:ob) (hr:Rel B s E F w) (hp:VR E F w p u) (hx:VR E F w x v) :
    ∃ w',(Instr.storeAt t u v).run P w=.ok () w'∧Evo E F w E F w' (fun _=>True)∧Rel B { s with heap:=H' } E F w':=by
  cases hp with
  | ptr id row off b k m hE hm =>
    simp only [storeQ] at h
    split at h
    · rename_i bb n k' rows hk hH
      split at h
      · rename_i ds hds
        simp only [Option.some.injEq,Prod.mk.injEq] at h
        obtain ⟨rfl,rfl⟩:=h
        obtain ⟨hf,hleaf,hdn,hoff⟩:=hob
        obtain ⟨h1,h2,h3,h4⟩:=hr.hr.blk _ _ _ hE hH
        dsimp only at h1 h2
        subst h1 h2
        rcases h4 with ⟨h4,_⟩ | ⟨b',cs,tt,h4,hw,hsz,hcell⟩
        · cases h4
        simp only [Option.some.injEq] at h4
        subst h4
        obtain ⟨hc1,hc2,hc3⟩:=cellsV_sound hx hf
        obtain ⟨hd1,hd2⟩:=dOfs_get hds
        have hb:=lt_mul_of (n:=rows.length) (m:=n) hm hoff
        have hvn:v.cells.size=n:=by omega
        have hlen:off+row*k+v.cells.toList.length≤cs.toList.length:=by simp; omega
        have hrun:=run_storeAt_of (w:=w) hk b (row*k+off) v cs tt hw hvn (by omega) hc3
        have hrow:rows[row]? = some rows[row]:=List.getElem?_eq_getElem hm
        have hrl:=h3 row _ hrow
        refine ⟨_,hrun,?_⟩
        refine upd_rel hr hE hH rfl rfl hw (by rw [List.size_toArray,setL_len _ _ _ (by simp; omega),Array.length_toList]) ?_
        have hget:∀ j,(setL cs.toList (row*k+off) v.cells.toList)[j]? = if row*k+off≤j∧j<row*k+off+n then v.cells[j - (row*k+off)]? else cs[j]?:=fun j=>by
          rw [setL_get _ _ _ (by simp; omega)]
          simp [hvn]
        -- the element that is written
        have hnew:∀ (j:Nat) (y:D),(if off=0∧n=k then ds else setL (rows[row]?.getD []) off ds)[j]? = some y→y.leaf=true∧j<k ∧
            ((off≤j∧j<off+n∧ds[j - off]? = some y)∨(¬ (off≤j∧j<off+n)∧rows[row][j]? = some y)):=by
          intro j y hj
          split at hj
          · rename_i hc
            have hjl:=(List.getElem?_eq_some_iff.1 hj).1
            obtain ⟨rfl,rfl⟩:=hc
            exact ⟨List.all_eq_true.1 hleaf _ (List.mem_of_getElem? hj),by omega,.inl ⟨by omega,by omega,by simpa using hj⟩⟩
          · rw [hrow,Option.getD_some,setL_get _ _ _ (by omega)] at hj
            split at hj
            · rename_i hc
              exact ⟨List.all_eq_true.1 hleaf _ (List.mem_of_getElem? hj),by omega,.inl ⟨hc.1,by omega,hj⟩⟩
            · rename_i hc
              have hjl:=(List.getElem?_eq_some_iff.1 hj).1
              exact ⟨List.all_eq_true.1 hrl.2 _ (List.mem_of_getElem? hj),by omega,.inr ⟨by omega,hj⟩⟩
        have hnl:(if off=0∧n=k then ds else setL (rows[row]?.getD []) off ds).length=k:=by
          split
          · omega
          · rw [setL_len _ _ _ (by rw [hrow,Option.getD_some]; omega),hrow,Option.getD_some]; exact hrl.1
        generalize (if off=0∧n=k then ds else setL (rows[row]?.getD []) off ds)=nr at hnew hnl
        obtain ⟨hbl,hbF⟩:=hr.hr.free id b _ _ hE rfl hH rfl
        have upR:∀ {x:D} {v:Value},RD F w x v→RD F (w.setRow b (setL cs.toList (row*k+off) v.cells.toList).toArray) x v:=fun h =>
          h.evo (fun _ h=>h) (fun c hc=>heap_setRow_other w b c _ (fun e=>hbF (e ▸ hc)))
        refine ⟨rfl,by simp,fun i r hi => ?_,.inr ⟨b,_,tt,rfl,setRow_heap w b cs _ tt _ hw,?_,fun i r j y hi hj => ?_⟩⟩
        · rw [List.getElem?_set] at hi
          split at hi
          · first | split at hi | skip
            · simp at hi; subst hi; exact ⟨hnl,List.all_eq_true.2 fun y hy=>by obtain ⟨j,hj,rfl⟩:=List.getElem_of_mem hy; exact (hnew j _ (List.getElem?_eq_getElem hj)).1⟩
            all_goals (cases hi)
          · exact h3 i r hi
        · rw [List.length_set,List.size_toArray,setL_len _ _ _ (by simp; omega),Array.length_toList]; exact hsz
        · have fin:∀ (z:Value),(RD F w y z)→RD F (w.setRow b (setL cs.toList (row*k+off) v.cells.toList).toArray) y z:=fun z hz =>
            hz.evo (fun _ h=>h) (fun c hc=>heap_setRow_other w b c _ (fun e=>hbF (e ▸ hc)))
          simp only [List.getElem?_toArray,hget]
          rw [List.getElem?_set] at hi
          split at hi
          · rename_i hri
            subst hri
            first | rw [if_pos hm] at hi | skip
            simp only [Option.some.injEq] at hi
            subst hi
            obtain ⟨_,hjk,⟨h5,h6,h7⟩ | ⟨h5,h6⟩⟩:=hnew j y hj
            · rw [if_pos (by omega)]
              obtain ⟨z,hz1,hz2⟩:=hd2 _ _ h7
              obtain ⟨uu,hu1,hu2⟩:=hc2 _ _ hz1
              have e:row*k+j - (row*k+off)=j - off:=by omega
              rw [e]
              exact ⟨uu,hu1,fin _ (dOf_sound hz2 hu2)⟩
            · rw [if_neg (by omega)]
              obtain ⟨uu,hu1,hu2⟩:=hcell row _ j y hrow h6
              exact ⟨uu,hu1,fin _ hu2⟩
          · rename_i hri
            have hil:=(List.getElem?_eq_some_iff.1 hi).1
            have hj':j<k:=by
              have:=(List.getElem?_eq_some_iff.1 hj).1
              have:=(h3 i r hi).1
              omega
            obtain ⟨uu,hu1,hu2⟩:=hcell i r j y hi hj
            have hne:¬ (row*k+off≤i*k+j∧i*k+j<row*k+off+n):=by
              rintro ⟨h5,h6⟩
              rcases Nat.lt_or_ge i row with hlt | hge
              · have:=Nat.mul_le_mul_right k (show i+1≤row from hlt)
                rw [Nat.add_mul,Nat.one_mul] at this
                omega
              · have:=Nat.mul_le_mul_right k (show row+1≤i by omega)
                rw [Nat.add_mul,Nat.one_mul] at this
                omega
            rw [if_neg hne]
            exact ⟨uu,hu1,fin _ hu2⟩
      · cases h
    · rename_i bb n xs hk hH
      simp only [Option.some.injEq,Prod.mk.injEq] at h
      obtain ⟨rfl,rfl⟩:=h
      obtain ⟨hf,hxn,hoff⟩:=hob
      obtain ⟨h1,h2,b',cs,tt,h4,hw,hsz,hcell⟩:=hr.hr.blk _ _ _ hE hH
      dsimp only at h1 h2
      subst h2
      obtain rfl:row=0:=by omega
      simp only [Option.some.injEq] at h4
      subst h4
      obtain ⟨hc1,hc2,hc3⟩:=cellsV_sound hx hf
      have hvn:v.cells.size=n:=by omega
      have hrun:=run_storeAt_of (w:=w) hk b (0*k+off) v cs tt hw hvn (by omega) hc3
      refine ⟨_,hrun,?_⟩
      simp only [Nat.zero_mul,Nat.zero_add] at hrun ⊢
      obtain ⟨hbl,hbF⟩:=hr.hr.free id b _ _ hE rfl hH rfl
      have hevo:Evo E F w E F (w.setRow b (setL cs.toList off v.cells.toList).toArray) (fun _=>True) :=
        ⟨fun _ h=>h,fun c hc=>heap_setRow_other w b c _ (fun e=>hbF (e ▸ hc)),fun _ _ _ h=>h,fun c n h=>h.setRow hw (by rw [List.size_toArray,setL_len _ _ _ (by simp; omega),Array.length_toList])⟩
      refine upd_rel hr hE hH rfl rfl hw (by rw [List.size_toArray,setL_len _ _ _ (by simp; omega),Array.length_toList]) ?_
      have hget:∀ j,(setL cs.toList off v.cells.toList)[j]? = if off≤j∧j<off+n then v.cells[j - off]? else cs[j]?:=fun j=>by
        rw [setL_get _ _ _ (by simp; omega)]
        simp [hvn]
      have hnl:(if off=0∧n=xs.length then x.cellsV else setL xs off x.cellsV).length=xs.length:=by
        split
        · omega
        · exact setL_len _ _ _ (by omega)
      have hnew:∀ (j:Nat) (y:V),(if off=0∧n=xs.length then x.cellsV else setL xs off x.cellsV)[j]? = some y →
          ((off≤j∧j<off+n∧x.cellsV[j - off]? = some y)∨(¬ (off≤j∧j<off+n)∧xs[j]? = some y)):=by
        intro j y hj
        split at hj
        · rename_i hc
          have hjl:=(List.getElem?_eq_some_iff.1 hj).1
          exact .inl ⟨by omega,by omega,by rw [hc.1]; simpa using hj⟩
        · rw [setL_get _ _ _ (by omega),hxn] at hj
          split at hj
          · rename_i hc; exact .inl ⟨hc.1,hc.2,hj⟩
          · rename_i hc; exact .inr ⟨hc,hj⟩
      generalize (if off=0∧n=xs.length then x.cellsV else setL xs off x.cellsV)=nx at hnl hnew
      refine ⟨(show k=nx.length by omega),rfl,b,_,tt,rfl,setRow_heap w b cs _ tt _ hw,by rw [List.size_toArray,setL_len _ _ _ (by simp; omega),Array.length_toList]; omega,fun j y hj => ?_⟩
      simp only [List.getElem?_toArray,hget]
      rcases hnew j y hj with ⟨h5,h6,h7⟩ | ⟨h5,h7⟩
      · rw [if_pos ⟨h5,h6⟩]
        obtain ⟨uu,hu1,hu2⟩:=hc2 _ _ h7
        exact ⟨uu,hu1,hu2.evo hevo (fun _ _=>trivial)⟩
      · rw [if_neg h5]
        obtain ⟨uu,hu1,hu2⟩:=hcell _ _ h7
        exact ⟨uu,hu1,hu2.evo hevo (fun _ _=>trivial)⟩
    · rename_i bb n k' rows hk hH
      simp only [Option.some.injEq,Prod.mk.injEq] at h
      obtain ⟨rfl,rfl⟩:=h
      obtain ⟨hf,hxn,hoff⟩:=hob
      obtain ⟨h1,h2,h3,h4⟩:=hr.hr.blk _ _ _ hE hH
      dsimp only at h1 h2
      subst h1 h2
      rcases h4 with ⟨h4,_⟩ | ⟨b',cs,tt,h4,hw,hsz,hcell⟩
      · cases h4
      simp only [Option.some.injEq] at h4
      subst h4
      obtain ⟨hc1,hc2,hc3⟩:=cellsV_sound hx hf
      have hb:=lt_mul_of (n:=rows.length) (m:=n) hm hoff
      have hvn:v.cells.size=n:=by omega
      have hlen:off+row*k+v.cells.toList.length≤cs.toList.length:=by simp; omega
      have hrun:=run_storeAt_of (w:=w) hk b (row*k+off) v cs tt hw hvn (by omega) hc3
      have hrow:rows[row]? = some rows[row]:=List.getElem?_eq_getElem hm
      have hrl:=h3 row _ hrow
      refine ⟨_,hrun,?_⟩
      refine upd_rel hr hE hH rfl rfl hw (by rw [List.size_toArray,setL_len _ _ _ (by simp; omega),Array.length_toList]) ?_
      have hget:∀ j,(setL cs.toList (row*k+off) v.cells.toList)[j]? = if row*k+off≤j∧j<row*k+off+n then v.cells[j - (row*k+off)]? else cs[j]?:=fun j=>by
        rw [setL_get _ _ _ (by simp; omega)]
        simp [hvn]
      -- the element that is written
      have hnew:∀ (j:Nat) (y:V),(if off=0∧n=k then x.cellsV else setL (rows[row]?.getD []) off x.cellsV)[j]? = some y→j<k ∧
          ((off≤j∧j<off+n∧x.cellsV[j - off]? = some y)∨(¬ (off≤j∧j<off+n)∧rows[row][j]? = some y)):=by
        intro j y hj
        split at hj
        · rename_i hc
          have hjl:=(List.getElem?_eq_some_iff.1 hj).1
          obtain ⟨rfl,rfl⟩:=hc
          exact ⟨by omega,.inl ⟨by omega,by omega,by simpa using hj⟩⟩
        · rw [hrow,Option.getD_some,setL_get _ _ _ (by omega)] at hj
          split at hj
          · rename_i hc
            exact ⟨by omega,.inl ⟨hc.1,by omega,hj⟩⟩
          · rename_i hc
            have hjl:=(List.getElem?_eq_some_iff.1 hj).1
            exact ⟨by omega,.inr ⟨by omega,hj⟩⟩
      have hnl:(if off=0∧n=k then x.cellsV else setL (rows[row]?.getD []) off x.cellsV).length=k:=by
        split
        · omega
        · rw [setL_len _ _ _ (by rw [hrow,Option.getD_some]; omega),hrow,Option.getD_some]; exact hrl
      generalize (if off=0∧n=k then x.cellsV else setL (rows[row]?.getD []) off x.cellsV)=nr at hnew hnl
      obtain ⟨hbl,hbF⟩:=hr.hr.free id b _ _ hE rfl hH rfl
      have hevo:Evo E F w E F (w.setRow b (setL cs.toList (row*k+off) v.cells.toList).toArray) (fun _=>True) :=
        ⟨fun _ h=>h,fun c hc=>heap_setRow_other w b c _ (fun e=>hbF (e ▸ hc)),fun _ _ _ h=>h,fun c n h=>h.setRow hw (by rw [List.size_toArray,setL_len _ _ _ (by simp; omega),Array.length_toList])⟩
      refine ⟨rfl,by simp,fun i r hi => ?_,.inr ⟨b,_,tt,rfl,setRow_heap w b cs _ tt _ hw,?_,fun i r j y hi hj => ?_⟩⟩
      · rw [List.getElem?_set] at hi
        split at hi
        · first | split at hi | skip
          · simp at hi; subst hi; exact hnl
          all_goals (cases hi)
        · exact h3 i r hi
      · rw [List.length_set,List.size_toArray,setL_len _ _ _ (by simp; omega),Array.length_toList]; exact hsz
      · simp only [List.getElem?_toArray,hget]
        rw [List.getElem?_set] at hi
        split at hi
        · rename_i hri
          subst hri
          first | rw [if_pos hm] at hi | skip
          simp only [Option.some.injEq] at hi
          subst hi
          obtain ⟨hjk,⟨h5,h6,h7⟩ | ⟨h5,h6⟩⟩:=hnew j y hj
          · rw [if_pos (by omega)]
            obtain ⟨uu,hu1,hu2⟩:=hc2 _ _ h7
            have e:row*k+j - (row*k+off)=j - off:=by omega
            rw [e]
            exact ⟨uu,hu1,hc3 _ (Array.mem_toList_iff.2 (Array.mem_of_getElem? hu1)),hu2.evo hevo (fun _ _=>trivial)⟩
          · rw [if_neg (by omega)]
            obtain ⟨uu,hu1,ho,hu2⟩:=hcell row _ j y hrow h6
            exact ⟨uu,hu1,ho,hu2.evo hevo (fun _ _=>trivial)⟩
        · rename_i hri
          have hil:=(List.getElem?_eq_some_iff.1 hi).1
          have hj':j<k:=by
            have:=(List.getElem?_eq_some_iff.1 hj).1
            have:=h3 i r hi
            omega
          obtain ⟨uu,hu1,ho,hu2⟩:=hcell i r j y hi hj
          have hne:¬ (row*k+off≤i*k+j∧i*k+j<row*k+off+n):=by
            rintro ⟨h5,h6⟩
            rcases Nat.lt_or_ge i row with hlt | hge
            · have:=Nat.mul_le_mul_right k (show i+1≤row from hlt)
              rw [Nat.add_mul,Nat.one_mul] at this
              omega
            · have:=Nat.mul_le_mul_right k (show row+1≤i by omega)
              rw [Nat.add_mul,Nat.one_mul] at this
              omega
          rw [if_neg hne]
          exact ⟨uu,hu1,ho,hu2.evo hevo (fun _ _=>trivial)⟩
    · cases h
  | _=>simp [storeQ] at h

theorem var_rel {B:Base} {s:St} {E:Env} {F:Nat→Prop} {w:World} (hr:Rel B s E F w) (t:TypeId) (cs:Array Value) (xs:List V) (hs:cs.size=xs.length)
    (hc:∀ (j:Nat) (y:V),xs[j]? = some y→∃ u,cs[j]? = some u∧VR E F w y u) :
    Evo E F w (E++[⟨some w.heap.size,xs.length,1⟩]) F (w.alloc (.cells cs t)) (fun _=>True)∧Rel B { s with heap:=s.heap++[.cells xs] } (E++[⟨some w.heap.size,xs.length,1⟩]) F (w.alloc (.cells cs t)) ∧
      VR (E++[⟨some w.heap.size,xs.length,1⟩]) F (w.alloc (.cells cs t)) (.ptr s.heap.length 0 0) (.pointer (some ⟨w.heap.size,0,none⟩)):=by
  obtain ⟨h1,h2⟩:=alloc_rel hr (.cells cs t) (e:=⟨some w.heap.size,xs.length,1⟩) (blk:=.cells xs) rfl fun evo =>
    ⟨rfl,rfl,w.heap.size,cs,t,rfl,heap_alloc_new w _,hs,fun j y hj=>let ⟨u,hu,hv⟩:=hc j y hj; ⟨u,hu,hv.evo evo (fun _ _=>trivial)⟩⟩
  refine ⟨h1,h2,?_⟩
  have:=VR.ptr (E:=E++[⟨some w.heap.size,xs.length,1⟩]) (F:=F) (w:=w.alloc (.cells cs t)) s.heap.length 0 0 w.heap.size xs.length 1 (by
    rw [← hr.hr.len,List.getElem?_append_right (Nat.le_refl _)]; simp) (by omega)
  simpa using this

theorem run_alloc_of {P:Program} {t:TypeId} {zs:List V} (h:kzero P t=some zs) (w:World) : ∃ z:Value,zs=z.cells.toList.map leafConst ∧
    (Instr.alloc t true (.tuple #[])).run P w=.ok (.pointer (some ⟨w.heap.size,0,none⟩)) (w.alloc (.cells z.cells t)):=by
  obtain ⟨i,z,hi,hz,rfl⟩:=kzero_spec h
  exact ⟨z,rfl,by simp [Instr.alloc,zeroValue,typeInfo,hi,hz,newVar,newRow]⟩

theorem run_box_of {P:Program} (t:TypeId) (v:Value) (w:World) : (Instr.box t v).run P w=.ok (.pointer (some ⟨w.heap.size,0,none⟩)) (w.alloc (.cells v.cells t)):=by
  simp [Instr.box,newVar,newRow]

end Go.Aw

namespace Go.Aw
set_option linter.unusedSimpArgs false
set_option linter.unusedVariables false
open Go.RowKit

def kplace (P:Program) (t i:Nat) : Option (Nat × Nat) :=
  match P.underlying t with
  | some (.struct fs)=>(fs[i]?).bind fun f=>(P.info? f.type).map fun j=>(f.offset,j.size)
  | some (.array _ e)=>(P.info? e).map fun j=>(i*j.size,j.size)
  | _=>none
def kplaces (P:Program) (t:Nat) : Bool :=
  match P.underlying t with
  | some (.struct fs)=>fs.toList.all fun f=>(P.info? f.type).isSome
  | some (.array _ e)=>(P.info? e).isSome
  | _=>false

def fillV (place:Nat→Option (Nat × Nat)) : List (Nat × V)→List V→Option (Prop × List V)
  | [],zs=>some (True,zs)
  | (i,x)::r,zs =>
    match place i with
    | some (o,n) =>
      match fillV place r (setL zs o x.cellsV) with
      | some (p,ys)=>some ((x.flat=true∧x.cellsV.length=n∧o+n≤zs.length)∧p,ys)
      | none=>none
    | none=>none

def CR (E:Env) (F:Nat→Prop) (w:World) (xs:List V) (cs:Array Value) : Prop :=
  cs.size=xs.length∧∀ (j:Nat) (x:V) (v:Value),xs[j]? = some x→cs[j]? = some v→VR E F w x v

theorem foldl_set (off:Nat) : ∀ (l:List Value) (m:Nat) (cs:Array Value),off+m+l.length≤cs.size →
    ((l.zipIdx m).foldl (fun cs (p:Value × Nat)=>cs.setIfInBounds (off+p.2) p.1) cs).toList=setL cs.toList (off+m) l
  | [],m,cs,h=>by simp [setL]
  | v::r,m,cs,h=>by
    simp only [List.length_cons] at h
    have ih:=foldl_set off r (m+1) (cs.setIfInBounds (off+m) v) (by simp; omega)
    simp only [List.zipIdx_cons,List.foldl_cons]
    rw [ih]
    apply List.ext_getElem?
    intro k
    rw [setL_get _ _ _ (by simp; omega),setL_get _ _ _ (by simp; omega)]
    simp only [List.length_cons,Array.toList_setIfInBounds,List.getElem?_set,Array.length_toList]
    by_cases h1:k=off+m
    · subst h1
      rw [if_neg (by omega),if_pos rfl,if_pos (by omega),if_pos (by omega)]
      simp
    · by_cases h2:off+(m+1)≤k∧k<off+(m+1)+r.length
      · rw [if_pos h2,if_pos (by omega),show k - (off+m)=(k - (off+(m+1)))+1 by omega]
        simp
      · rw [if_neg h2,if_neg (by omega),if_neg (by omega)]

theorem fillV_sound {E:Env} {F:Nat→Prop} {w:World} {place:Nat→Option (Nat × Nat)} : ∀ (parts:List (Nat × V)) (vs:List (Nat × Value)) (zs ys:List V) (cs:Array Value) (p:Prop),
    fillV place parts zs=some (p,ys)→p→parts.length=vs.length→(∀ (j:Nat) (x:Nat × V) (v:Nat × Value),parts[j]? = some x→vs[j]? = some v→x.1=v.1∧VR E F w x.2 v.2) →
    CR E F w zs cs→∃ cs',Instr.fill place cs vs=some cs'∧CR E F w ys cs'
  | [],[],zs,ys,cs,p,h,_,_,_,hc=>by
    simp [fillV] at h
    obtain ⟨_,rfl⟩:=h
    exact ⟨cs,rfl,hc⟩
  | (i,x)::r,[],zs,ys,cs,p,h,_,hl,_,hc=>by simp at hl
  | [],v::vs,zs,ys,cs,p,h,_,hl,_,hc=>by simp at hl
  | (i,x)::r,(i',v)::vs,zs,ys,cs,p,h,hp,hl,hr,hc=>by
    obtain ⟨hi,hx⟩:=hr 0 (i,x) (i',v) rfl rfl
    dsimp only at hi hx
    subst hi
    simp only [fillV] at h
    split at h
    · rename_i o n hpl
      split at h
      · rename_i q ys' hf
        simp only [Option.some.injEq,Prod.mk.injEq] at h
        obtain ⟨rfl,rfl⟩:=h
        obtain ⟨⟨h1,h2,h3⟩,hq⟩:=hp
        obtain ⟨c1,c2,c3⟩:=cellsV_sound hx h1
        obtain ⟨d1,d2⟩:=hc
        have hset:=foldl_set o v.cells.toList 0 cs (by simp; omega)
        have hz:v.cells.zipIdx.foldl (fun cs (p:Value × Nat)=>cs.setIfInBounds (o+p.2) p.1) cs=(setL cs.toList o v.cells.toList).toArray:=by
          apply Array.ext'
          rw [← Array.foldl_toList]
          simpa [Array.toList_zipIdx] using hset
        obtain ⟨cs',e1,e2⟩:=fillV_sound r vs _ ys' (setL cs.toList o v.cells.toList).toArray q hf hq (by simpa using hl) (fun j x v hj hv=>hr (j+1) x v (by simpa using hj) (by simpa using hv)) (by
          refine ⟨by rw [List.size_toArray,setL_len _ _ _ (by simp; omega),setL_len _ _ _ (by omega)]; simpa using d1,fun j y u hy hu => ?_⟩
          rw [setL_get _ _ _ (by omega)] at hy
          rw [List.getElem?_toArray,setL_get _ _ _ (by simp; omega),Array.length_toList,c1] at hu
          split at hy
          · rename_i hc
            rw [if_pos hc] at hu
            obtain ⟨uu,hu1,hu2⟩:=c2 _ _ hy
            simp only [Array.getElem?_toList] at hu
            rw [hu1] at hu
            cases hu
            exact hu2
          · rename_i hc
            rw [if_neg hc] at hu
            exact d2 j y u hy (by simpa using hu))
        refine ⟨cs',?_,e2⟩
        simp only [Instr.fill,hpl]
        rw [if_neg (by simp; omega),hz]
        exact e1
      · cases h
    · cases h

def stripsOk (s:St) : List (Nat × Operand)→Prop
  | []=>True
  | p::r=>(s.ev p.2).strip.1∧stripsOk s r
theorem stripsOk_at {s:St} : ∀ {l:List (Nat × Operand)} {q:Nat × Operand},stripsOk s l→q∈l→(s.ev q.2).strip.1
  | p::r,q,h,hq=>by
    rcases List.mem_cons.1 hq with rfl | hq
    · exact h.1
    · exact stripsOk_at h.2 hq

def buildQ (P:Program) (s:St) (t:TypeId) (parts:Array (Nat × Operand)) : Option (Prop × V) :=
  if kplaces P t then
    match kzero P t with
    | some zs=>(fillV (kplace P t) (parts.toList.map fun p=>(p.1,(s.ev p.2).strip.2)) zs).map fun r=>(stripsOk s parts.toList∧r.1,.agg r.2)
    | none=>none
  else none

theorem fill_congr {p q:Nat→Option (Nat × Nat)} : ∀ (vs:List (Nat × Value)) (cs:Array Value),(∀ i,p i=q i)→Instr.fill p cs vs=Instr.fill q cs vs:=by
  intro vs cs h
  have:p=q:=funext h
  rw [this]

theorem mapM_places {P:Program} : ∀ (fs:List Field),(fs.all fun f=>(P.info? f.type).isSome)=true →
    ∃ pl,fs.mapM (fun f=>(P.info? f.type).map fun i=>(f.offset,i.size))=some pl∧∀ i:Nat,pl[i]? = (fs[i]?).bind fun (f:Field)=>(P.info? f.type).map fun j=>(f.offset,j.size)
  | [],_=>⟨[],by simp,by simp⟩
  | f::fs,h=>by
    simp only [List.all_cons,Bool.and_eq_true] at h
    obtain ⟨pl,h1,h2⟩:=mapM_places fs h.2
    obtain ⟨i,hi⟩:=Option.isSome_iff_exists.1 h.1
    refine ⟨(f.offset,i.size)::pl,by simp [List.mapM_cons,hi,h1],fun j => ?_⟩
    cases j with
    | zero=>simp [hi]
    | succ j=>simpa using h2 j

theorem built_of {P:Program} {t:TypeId} {z:Value} {i:TypeInfo} (hk:kplaces P t=true) (hi:P.info? t=some i) (hz:i.zero=some z) (vs:List (Nat × Value)) :
    P.built t vs=Instr.fill (kplace P t) z.cells vs:=by
  unfold kplaces at hk
  split at hk
  · rename_i fs hu
    obtain ⟨pl,h1,h2⟩:=mapM_places fs.toList hk
    simp only [Program.built,hi,hu,hz,h1]
    refine fill_congr vs _ fun j => ?_
    simp only [kplace,hu,List.getElem?_toArray,h2,Array.getElem?_toList]
  · rename_i n e hu
    obtain ⟨j,hj⟩:=Option.isSome_iff_exists.1 hk
    simp only [Program.built,hi,hu,hz,hj]
    exact fill_congr vs _ fun l=>by simp [kplace,hu,hj]
  · cases hk

theorem buildQ_sound {P:Program} {B:Base} {s:St} {a:Act} {w:World} {E:Env} {F:Nat→Prop} {t:TypeId} {parts:Array (Nat × Operand)} {ob:Prop} {x:V}
    (h:buildQ P s t parts=some (ob,x)) (hob:ob) (hs:Sim B s a w E F) :
    ∃ v,VR E F w x v∧∀ w',(Instr.build t (parts.map fun (p:Nat × Operand)=>(p.1,a.eval p.2))).run P w'=.ok v w':=by
  unfold buildQ at h
  split at h
  · rename_i hk
    split at h
    · rename_i zs hz
      simp only [Option.map_eq_some_iff,Prod.exists,Prod.mk.injEq] at h
      obtain ⟨p,ys,hf,rfl,rfl⟩:=h
      obtain ⟨i,z,hi,hz',rfl⟩:=kzero_spec hz
      obtain ⟨cs',e1,e2⟩:=fillV_sound (E:=E) (F:=F) (w:=w) _ (parts.toList.map fun p=>(p.1,a.eval p.2)) _ ys z.cells p hf hob.2 (by simp) (fun j x v hx hv=>by
        simp only [List.getElem?_map,Option.map_eq_some_iff] at hx hv
        obtain ⟨q,hq,rfl⟩:=hx
        obtain ⟨q',hq',rfl⟩:=hv
        rw [hq] at hq'
        cases hq'
        exact ⟨rfl,V.strip_sound (ev_sound hs _) (stripsOk_at hob.1 (List.mem_of_getElem? hq))⟩) ⟨by simp,fun j x v hx hv=>by
          obtain ⟨u,hu,hr⟩:=zero_get (E:=E) (F:=F) (w:=w) z j x hx
          rw [hu] at hv
          cases hv
          exact hr⟩
      refine ⟨.agg cs',.agg _ _ e2.1 e2.2,fun w'=>run_build w' t _ cs' ?_⟩
      rw [built_of hk hi hz']
      simpa using e1
    · cases h
  · cases h

def partRows:List (Nat × V)→Nat→Option (List (List D))
  | [],_=>some []
  | (i,x)::r,m=>if i=m then match dOfs x.cellsV,partRows r (m+1) with
      | some ds,some rs=>some (ds::rs)
      | _,_=>none
    else none

def partsOk (n:Nat) : List (Nat × V)→Prop
  | []=>True
  | (_,x)::r=>(x.flat=true∧x.cellsV.length=n∧((dOfs x.cellsV).getD []).all D.leaf=true)∧partsOk n r

def sliceLitQ (P:Program) (s:St) (t:TypeId) (n:Nat) (parts:Array (Nat × Operand)) : Option (Prop × Nat × List (List D)) :=
  match kel P t with
  | some (none,k,u) =>
    match kzero P u,partRows (parts.toList.map fun p=>(p.1,(s.ev p.2).strip.2)) 0 with
    | some zs,some rows=>if rows.length=n then some (zs.length=k∧n*k≤16777216∧stripsOk s parts.toList∧partsOk k (parts.toList.map fun p=>(p.1,(s.ev p.2).strip.2)),k,rows) else none
    | _,_=>none
  | _=>none

theorem lit_fill {E:Env} {F:Nat→Prop} {w:World} (k N:Nat) : ∀ (parts:List (Nat × V)) (vs:List (Nat × Value)) (m:Nat) (rows:List (List D)) (cs:Array Value),
    partRows parts m=some rows→partsOk k parts→parts.length=vs.length→(∀ (j:Nat) (x:Nat × V) (v:Nat × Value),parts[j]? = some x→vs[j]? = some v→x.1=v.1∧VR E F w x.2 v.2) →
    (m+rows.length)*k≤cs.size→∃ cs',Instr.fill (fun i=>some (i*k,k)) cs vs=some cs'∧cs'.size=cs.size∧(∀ j,j<m*k→cs'[j]? = cs[j]?) ∧
      (∀ (i:Nat) (row:List D),rows[i]? = some row→row.length=k∧row.all D.leaf=true) ∧
      ∀ (i:Nat) (row:List D) (j:Nat) (x:D),rows[i]? = some row→row[j]? = some x→∃ v,cs'[(m+i)*k+j]? = some v∧RD F w x v
  | [],[],m,rows,cs,h,_,_,_,_=>by
    simp [partRows] at h
    subst h
    exact ⟨cs,rfl,rfl,fun _ _=>rfl,by simp,by simp⟩
  | (i,x)::r,[],m,rows,cs,h,_,hl,_,_=>by simp at hl
  | [],v::vs,m,rows,cs,h,_,hl,_,_=>by simp at hl
  | (i,x)::r,(i',v)::vs,m,rows,cs,h,hp,hl,hr,hsz=>by
    obtain ⟨hi,hx⟩:=hr 0 (i,x) (i',v) rfl rfl
    dsimp only at hi hx
    subst hi
    simp only [partRows] at h
    split at h
    · rename_i him
      subst him
      split at h
      · rename_i ds rs hds hrs
        simp only [Option.some.injEq] at h
        subst h
        obtain ⟨⟨h1,h2,h3⟩,hp'⟩:=hp
        rw [hds,Option.getD_some] at h3
        obtain ⟨c1,c2,c3⟩:=cellsV_sound hx h1
        obtain ⟨q1,q2⟩:=dOfs_get hds
        simp only [List.length_cons] at hsz
        have hb:i*k+k≤cs.size:=by
          have:(i+1)*k≤(i+(rs.length+1))*k:=Nat.mul_le_mul_right _ (by omega)
          rw [Nat.add_mul,Nat.one_mul] at this
          omega
        have hset:=foldl_set (i*k) v.cells.toList 0 cs (by simp; omega)
        have hz:v.cells.zipIdx.foldl (fun cs (p:Value × Nat)=>cs.setIfInBounds (i*k+p.2) p.1) cs=(setL cs.toList (i*k) v.cells.toList).toArray:=by
          apply Array.ext'
          rw [← Array.foldl_toList]
          simpa [Array.toList_zipIdx] using hset
        have hss:(setL cs.toList (i*k) v.cells.toList).toArray.size=cs.size:=by
          rw [List.size_toArray,setL_len _ _ _ (by simp; omega),Array.length_toList]
        obtain ⟨cs',e1,e2,e3,e4,e5⟩:=lit_fill k N r vs (i+1) rs (setL cs.toList (i*k) v.cells.toList).toArray hrs hp' (by simpa using hl) (fun j x v hj hv=>hr (j+1) x v (by simpa using hj) (by simpa using hv)) (by
          rw [hss]
          rwa [show i+1+rs.length=i+(rs.length+1) by omega])
        rw [hss] at e2
        refine ⟨cs',?_,e2,fun j hj => ?_,fun l row hl => ?_,fun l row j y hl hy => ?_⟩
        · simp only [Instr.fill]
          rw [if_neg (by simp; omega),hz]
          exact e1
        · rw [e3 j (by rw [Nat.add_mul]; omega),List.getElem?_toArray,setL_get _ _ _ (by simp; omega),if_neg (by omega)]
          simp
        · cases l with
          | zero=>simp at hl; subst hl; exact ⟨by omega,h3⟩
          | succ l=>exact e4 l row (by simpa using hl)
        · cases l with
          | zero =>
            simp at hl
            subst hl
            have hjk:=(List.getElem?_eq_some_iff.1 hy).1
            obtain ⟨yy,hy1,hy2⟩:=q2 j y hy
            obtain ⟨u,hu1,hu2⟩:=c2 j yy hy1
            refine ⟨u,?_,dOf_sound hy2 hu2⟩
            rw [Nat.add_zero,e3 _ (by rw [Nat.add_mul]; omega),List.getElem?_toArray,setL_get _ _ _ (by simp; omega),if_pos (by simp; omega)]
            simpa using hu1
          | succ l =>
            obtain ⟨u,hu,hrd⟩:=e5 l row j y (by simpa using hl) hy
            exact ⟨u,by rwa [show i+(l+1)=i+1+l by omega],hrd⟩
      · cases h
    · cases h

theorem row_rel {B:Base} {s:St} {E:Env} {F:Nat→Prop} {w:World} (hr:Rel B s E F w) (t:TypeId) (cs:Array Value) (k cap:Nat) (rows:List (List D))
    (hk:∀ (i:Nat) (row:List D),rows[i]? = some row→row.length=k∧row.all D.leaf=true) (hcap:rows.length≤cap) (hs:cap*k≤cs.size)
    (hc:∀ (i:Nat) (row:List D) (j:Nat) (x:D),rows[i]? = some row→row[j]? = some x→∃ v,cs[i*k+j]? = some v∧RD F w x v) :
    Evo E F w (E++[⟨some w.heap.size,k,rows.length⟩]) F (w.alloc (.cells cs t)) (fun _=>True) ∧
    Rel B { s with heap:=s.heap++[.data k rows] } (E++[⟨some w.heap.size,k,rows.length⟩]) F (w.alloc (.cells cs t)) ∧
      VR (E++[⟨some w.heap.size,k,rows.length⟩]) F (w.alloc (.cells cs t)) (.ref s.heap.length 0 rows.length) (.slice (some ⟨w.heap.size,0,none⟩) rows.length cap):=by
  have hkl:rows.length*k≤cs.size:=Nat.le_trans (Nat.mul_le_mul_right _ hcap) hs
  obtain ⟨h1,h2⟩:=alloc_rel hr (.cells cs t) (e:=⟨some w.heap.size,k,rows.length⟩) (blk:=.data k rows) rfl fun evo =>
    ⟨rfl,rfl,hk,.inr ⟨w.heap.size,cs,t,rfl,heap_alloc_new w _,hkl,fun i row j x hi hj=>let ⟨v,hv,hd⟩:=hc i row j x hi hj; ⟨v,hv,hd.evo evo.up evo.same⟩⟩⟩
  refine ⟨h1,h2,?_⟩
  exact VR.ref (E:=E++[⟨some w.heap.size,k,rows.length⟩]) (F:=F) (w:=w.alloc (.cells cs t)) s.heap.length 0 rows.length w.heap.size k rows.length (some ⟨w.heap.size,0,none⟩) cap cs.size (by
    rw [← hr.hr.len,List.getElem?_append_right (Nat.le_refl _)]; simp) (by omega) (fun _=>by simp) hcap ⟨cs,t,heap_alloc_new w _,rfl⟩ (by simpa using hs)

theorem sliceLit_sound {P:Program} {B:Base} {s:St} {a:Act} {w:World} {E:Env} {F:Nat→Prop} {t:TypeId} {n k:Nat} {parts:Array (Nat × Operand)} {ob:Prop} {rows:List (List D)}
    (h:sliceLitQ P s t n parts=some (ob,k,rows)) (hob:ob) (hs:Sim B s a w E F) :
    ∃ v w',(Instr.buildSlice t n (parts.map fun (p:Nat × Operand)=>(p.1,a.eval p.2))).run P w=.ok v w'∧Keep w w' ∧
      ∃ E',Evo E F w E' F w' (fun _=>True)∧Rel B { s with heap:=s.heap++[.data k rows] } E' F w'∧VR E' F w' (.ref s.heap.length 0 n) v:=by
  unfold sliceLitQ at h
  split at h
  · rename_i k' u hk
    split at h
    · rename_i zs rows' hz hrows
      split at h
      · rename_i hn
        simp only [Option.some.injEq,Prod.mk.injEq] at h
        obtain ⟨rfl,rfl,rfl⟩:=h
        obtain ⟨hzl,hmax,hst,hok⟩:=hob
        obtain ⟨j,hu,hj,rfl⟩:=kel_slice hk
        obtain ⟨i,z,hi,hz',rfl⟩:=kzero_spec hz
        rw [hj] at hi
        cases hi
        have hzs:z.cells.size=j.size:=by simpa using hzl
        obtain ⟨cs',e1,e2,_,e4,e5⟩:=lit_fill (E:=E) (F:=F) (w:=w) j.size n _ (parts.toList.map fun p=>(p.1,a.eval p.2)) 0 rows'
          ((Array.range (n*j.size)).map (z.cells[· % z.cells.size]!)) hrows hok (by simp) (fun j x v hx hv=>by
          simp only [List.getElem?_map,Option.map_eq_some_iff] at hx hv
          obtain ⟨q,hq,rfl⟩:=hx
          obtain ⟨q',hq',rfl⟩:=hv
          rw [hq] at hq'
          cases hq'
          exact ⟨rfl,V.strip_sound (ev_sound hs _) (stripsOk_at hst (List.mem_of_getElem? hq))⟩) (by simp [hn])
        have hcs:cs'.size=n*j.size:=by simpa using e2
        obtain ⟨h1,h2,h3⟩:=row_rel hs.rel u cs' j.size n rows' e4 (by omega) (by omega) (by simpa using e5)
        rw [hn] at h1 h2 h3
        refine ⟨_,_,?_,fun b hb=>Below.heap_alloc w _ b hb,_,h1,h2,h3⟩
        by_cases h0:n*j.size=0
        · have hcs0:cs' = #[]:=Array.eq_empty_of_size_eq_zero (by omega)
          simp only [h0,Array.range_zero',Array.map_empty] at e1
          simp [Instr.buildSlice,run_underlying hu,sizeOf,typeInfo,hj,zeroValue,hz',h0,show Array.range 0 = #[] from rfl,e1,newRow]
        · have hmx:¬ (2 ^ 24<n*j.size):=by omega
          simp only [Instr.buildSlice,Sem.run_bind,run_underlying hu,Result.andThen_ok,sizeOf,typeInfo,run_program,hj,Sem.run_pure,gt_iff_lt,if_neg hmx,if_neg h0,zeroValue,hz']
          simp only [Array.toList_map,e1]
          simp [newRow]
      · cases h
    · cases h
  · cases h

def kbytes (P:Program) (t:TypeId) : Option Nat:=(P.info? t).map (·.bytes)

def makeQ (P:Program) (t:TypeId) (n c:Int) : Option (Prop × Nat × List D) :=
  match kel P t with
  | some (none,k,u) =>
    match kzero P u,kbytes P u with
    | some zs,some by_ =>
      match dOfs zs with
      | some ds=>some (0≤n∧n≤c∧ds.length=k∧ds.all D.leaf=true∧by_≤1048576∧c≤268435456,k,ds)
      | none=>none
    | _,_=>none
  | _=>none

theorem make_sound {P:Program} {B:Base} {s:St} {a:Act} {w:World} {E:Env} {F:Nat→Prop} {t:TypeId} {n c:Int} {k:Nat} {ob:Prop} {ds:List D} (k1 k2:IntKind)
    (h:makeQ P t n c=some (ob,k,ds)) (hob:ob) (hs:Sim B s a w E F) :
    ∃ v w',(Instr.makeSlice t (.int k1 n) (.int k2 c)).run P w=.ok v w'∧Keep w w' ∧
      ∃ E',Evo E F w E' F w' (fun _=>True)∧Rel B { s with heap:=s.heap++[.data k (List.replicate n.toNat ds)] } E' F w'∧VR E' F w' (.ref s.heap.length 0 n.toNat) v:=by
  unfold makeQ at h
  split at h
  · rename_i k' u hk
    split at h
    · rename_i zs by_ hz hby
      split at h
      · rename_i ds' hds
        simp only [Option.some.injEq,Prod.mk.injEq] at h
        obtain ⟨rfl,rfl,rfl⟩:=h
        obtain ⟨h0,hnc,hl,hleaf,hb,hc⟩:=hob
        obtain ⟨j,hu,hj,rfl⟩:=kel_slice hk
        obtain ⟨i,z,hi,hz',rfl⟩:=kzero_spec hz
        rw [hj] at hi
        cases hi
        simp [kbytes,hj] at hby
        subst hby
        have hbc:(j.bytes:Int)*c≤281474976710656:=by
          have h1:(j.bytes:Int)*c≤1048576*268435456:=Int.mul_le_mul (by omega) hc (by omega) (by omega)
          omega
        have hrun:=run_make (P:=P) w t u j z hu hj hz' k1 k2 n c h0 hnc hbc (by omega)
        obtain ⟨q1,q2⟩:=dOfs_get hds
        have hzc:z.cells.size=j.size:=by simp at q1; omega
        obtain ⟨h1,h2,h3⟩:=row_rel hs.rel u (madeCells z.cells (c.toNat*j.size)) j.size c.toNat (List.replicate n.toNat ds')
          (fun i row hi=>by
            rw [List.getElem?_replicate] at hi
            split at hi
            · simp at hi; subst hi; exact ⟨hl,hleaf⟩
            · cases hi) (by simp; omega) (by simp [size_madeCells]) (fun i row jj x hi hx=>by
            rw [List.getElem?_replicate] at hi
            split at hi
            · rename_i hin
              simp at hi
              subst hi
              have hjj:=(List.getElem?_eq_some_iff.1 hx).1
              obtain ⟨y,hy1,hy2⟩:=q2 jj x hx
              obtain ⟨v,hv,hvr⟩:=zero_get (E:=E) (F:=F) (w:=w) z jj y hy1
              refine ⟨v,?_,dOf_sound hy2 hvr⟩
              have hb:=lt_mul_of (n:=c.toNat) (m:=1) (k:=j.size) (off:=jj) (row:=i) (by omega) (by omega)
              have hm:(i*j.size+jj) % z.cells.size=jj:=by rw [hzc,Nat.mul_comm,Nat.mul_add_mod]; exact Nat.mod_eq_of_lt (by omega)
              simp only [madeCells,Array.getElem?_map,Array.getElem?_range]
              rw [if_pos (by omega)]
              have hlt:jj<z.cells.size:=by omega
              simp only [Option.map_some,hm]
              rw [getElem!_pos z.cells jj hlt]
              rw [Array.getElem?_eq_getElem hlt] at hv
              exact hv
            · cases hi)
        simp only [List.length_replicate] at h1 h2 h3
        exact ⟨_,_,hrun,fun b hb=>Below.heap_alloc w _ b hb,_,h1,h2,h3⟩
      · cases h
    · cases h
  · cases h

end Go.Aw

namespace Go.Aw
set_option linter.unusedSimpArgs false
set_option linter.unusedVariables false
open Go.RowKit

def jk (i:Nat) : V→V
  | .tup xs=>.tup (xs.map fun y=>if y.has i then .junk else y)
  | _=>.junk
@[simp] theorem jk_d (i:Nat) (x:D) : jk i (.d x)=.junk:=rfl
@[simp] theorem jk_agg (i:Nat) (xs:List V) : jk i (.agg xs)=.junk:=rfl
@[simp] theorem jk_ptr (i:Nat) (a b c:Nat) : jk i (.ptr a b c)=.junk:=rfl
@[simp] theorem jk_ref (i:Nat) (a b c:Nat) : jk i (.ref a b c)=.junk:=rfl
@[simp] theorem jk_nil (i:Nat)  : jk i V.nil=.junk:=rfl
@[simp] theorem jk_fn (i:Nat) (f:Fn) (xs:List V) : jk i (.fn f xs)=.junk:=rfl
@[simp] theorem jk_map (i:Nat) (a:Nat) : jk i (.map a)=.junk:=rfl
@[simp] theorem jk_iface (i:Nat) (t:TypeId) (x:V) : jk i (.iface t x)=.junk:=rfl
@[simp] theorem jk_opt (i:Nat) (g:Bool) (x:V) : jk i (.opt g x)=.junk:=rfl
@[simp] theorem jk_junk (i:Nat)  : jk i V.junk=.junk:=rfl
@[simp] theorem jk_tup (i:Nat) (xs:List V) : jk i (.tup xs)=.tup (xs.map fun y=>if y.has i then .junk else y):=rfl
def scr (i:Nat) (x:V) : V:=if x.has i then jk i x else x
def tmScr (i:Nat) : List (Nat × V)→List (Nat × V)
  | []=>[]
  | (j,x)::r=>(j,scr i x)::tmScr i r
def scrL (i:Nat) : List V→List V
  | []=>[]
  | x::r=>scr i x::scrL i r
def Blk.scr (i:Nat) : Blk→Blk
  | .cells xs=>.cells (scrL i xs)
  | .vrs k rs=>.vrs k (rs.map fun r=>scrL i r)
  | .mp es=>.mp (es.map fun p=>(Aw.scr i p.1,Aw.scr i p.2))
  | .it x seen n=>.it (Aw.scr i x) seen n
  | b=>b
def heapScr (i:Nat) : List Blk→List Blk
  | []=>[]
  | b::r=>b.scr i::heapScr i r

theorem tget_scr (i j:Nat) : ∀ l:List (Nat × V),tget (tmScr i l) j=(tget l j).map (scr i)
  | []=>rfl
  | (k,x)::r=>by
    simp only [tmScr,tget]
    split
    · rfl
    · exact tget_scr i j r
theorem scrL_eq (i:Nat) : ∀ xs:List V,scrL i xs=xs.map (scr i)
  | []=>rfl
  | x::r=>by simp [scrL,scrL_eq i r]
theorem heapScr_eq (i:Nat) : ∀ l,heapScr i l=l.map (Blk.scr i)
  | []=>rfl
  | b::r=>by simp [heapScr,heapScr_eq i r]
theorem Blk.scr_map1 (i:Nat) (b:Blk) : b.scr i=b.map1 (Go.Aw.scr i):=by
  cases b <;> simp [Blk.scr,Blk.map1,scrL_eq]
theorem Blk.live_scr (i:Nat) (b:Blk) : (b.scr i).live=b.live:=by cases b <;> rfl

theorem scr_VR {E E':Env} {F F':Nat→Prop} {w w':World} {i:Nat} (he:Evo E F w E' F' w' (fun j=>j≠i)) {x:V} {v:Value} (hx:VR E F w x v) : VR E' F' w' (scr i x) v:=by
  unfold scr
  split
  · cases hx with
    | tup xs cs hs hr =>
      show VR E' F' w' (.tup (xs.map fun y=>if y.has i then .junk else y)) _
      refine .tup _ cs (by simpa using hs) fun j y u hy hu => ?_
      simp only [List.getElem?_map,Option.map_eq_some_iff] at hy
      obtain ⟨z,hz,rfl⟩:=hy
      split
      · exact .junk u
      · rename_i h
        exact (hr j z u hz hu).evo he (fun q hq e=>h (e ▸ hq))
    | _=>exact .junk _
  · rename_i h
    exact hx.evo he (fun j hj e=>h (e ▸ hj))

theorem rebind {B:Base} {s:St} {a:Act} {w w':World} {E:Env} {F:Nat→Prop} (hs:Sim B s a w E F) {i:Nat} {e e':En} {blk blk':Blk}
    (hi:E[i]? = some e) (hb:s.heap[i]? = some blk) (hlv:blk.live=true) (hk:i ∉ B.keep)
    (hos:w'.os=w.os) (htp:w'.tape=w.tape) (hout:Later w w') (hsz:w.heap.size≤w'.heap.size) (hF:∀ b,F b→w'.heap[b]? = w.heap[b]?)
    (hG:∀ b,b<B.w0.heap.size→¬ B.own b→w'.heap[b]? = w.heap[b]?) (hsr:∀ c,e'.blk=some c→B.w0.heap.size≤c∨B.own c)
    (hoth:∀ (j:Nat) (ej:En) (bj:Blk) (c:Nat),j≠i→E[j]? = some ej→s.heap[j]? = some bj→bj.live=true→ej.blk=some c→w'.heap[c]? = w.heap[c]? ∧ e'.blk≠some c)
    (hszs:∀ b n,Sz w b n→Sz w' b n) (hnew:∀ c,e'.blk=some c→c<w'.heap.size∧¬ F c) (hbr:BR (E.set i e') F w' e' blk') :
    Sim B { tm:=tmScr i s.tm,heap:=(heapScr i s.heap).set i blk' } a w' (E.set i e') F:=by
  have hil:i<E.length:=(List.getElem?_eq_some_iff.1 hi).1
  have evo:Evo E F w (E.set i e') F w' (fun j=>j≠i):=⟨fun _ h=>h,hF,fun j ej hj h=>by rw [List.getElem?_set_ne (Ne.symm hj)]; exact h,hszs⟩
  have hr:=hs.rel
  have hget:∀ (j:Nat) (ej:En) (bj:Blk),(E.set i e')[j]? = some ej→((heapScr i s.heap).set i blk')[j]? = some bj →
      (j=i∧ej=e'∧bj=blk')∨(j≠i∧E[j]? = some ej∧∃ b0,s.heap[j]? = some b0∧bj=b0.scr i):=fun j ej bj h1 h2=>by
    by_cases hj:j=i
    · subst hj
      rw [List.getElem?_set_self hil] at h1
      rw [List.getElem?_set_self (by rw [heapScr_eq,List.length_map,← hr.hr.len]; exact hil)] at h2
      simp at h1 h2
      exact .inl ⟨rfl,h1.symm,h2.symm⟩
    · rw [List.getElem?_set_ne (Ne.symm hj)] at h1 h2
      simp only [heapScr_eq,List.getElem?_map,Option.map_eq_some_iff] at h2
      obtain ⟨b0,h0,rfl⟩:=h2
      exact .inr ⟨hj,h1,b0,h0,rfl⟩
  refine ⟨⟨hos.trans hr.os,htp.trans hr.tape,hout.trans hr.output,Nat.le_trans hr.size hsz,hr.F0,hr.only,fun b h1 h2=>(hG b h1 h2).trans (hr.same b h1 h2),hr.lt.evo evo.up evo.same (fun b hb=>Nat.lt_of_lt_of_le (hr.lt b hb) hsz),⟨by simp [heapScr_eq,hr.hr.len],?_,?_,?_⟩,?_,?_,fun b n h=>hszs b n (hr.sz b n h)⟩,hs.defers,?_⟩
  · intro j ej bj h1 h2
    rcases hget j ej bj h1 h2 with ⟨rfl,rfl,rfl⟩ | ⟨hj,h1,b0,h0,rfl⟩
    · exact hbr
    · have h3:=hr.hr.blk j ej b0 h1 h0
      cases hlb:b0.live with
      | false=>cases b0 <;> simp_all [Blk.live]; trivial
      | true =>
        have:=BR.to (f:=scr i) (E':=E.set i e') (F':=F) (w':=w') h3 (fun x v hx=>hx.evo (fun _ h=>h) hF) (fun x v _ hx=>scr_VR evo hx) fun c hc=>(hoth j ej _ c hj h1 h0 hlb hc).1
        rwa [← Blk.scr_map1] at this
  · intro j c ej bj h1 hc h2 hlj
    rcases hget j ej bj h1 h2 with ⟨rfl,rfl,rfl⟩ | ⟨hj,h1,b0,h0,rfl⟩
    · exact hnew c hc
    · rw [Blk.live_scr] at hlj
      obtain ⟨q1,q2⟩:=hr.hr.free j c ej b0 h1 hc h0 hlj
      exact ⟨Nat.lt_of_lt_of_le q1 hsz,q2⟩
  · intro j l c ej el bj bl h1 h2 h3 h4 h5 h6 h7 h8
    rcases hget j ej bj h1 h5 with ⟨g1,g2,g3⟩ | ⟨g1,g2,b0,g3,g4⟩ <;> rcases hget l el bl h2 h6 with ⟨f1,f2,f3⟩ | ⟨f1,f2,b1,f3,f4⟩
    · rw [g1,f1]
    · rw [f4,Blk.live_scr] at h8
      rw [g2] at h3
      exact absurd h3 (hoth l el b1 c f1 f2 f3 h8 h4).2
    · rw [g4,Blk.live_scr] at h7
      rw [f2] at h4
      exact absurd h4 (hoth j ej b0 c g1 g2 g3 h7 h3).2
    · rw [g4,Blk.live_scr] at h7
      rw [f4,Blk.live_scr] at h8
      exact hr.hr.inj j l c ej el b0 b1 g2 f2 h3 h4 g3 f3 h7 h8
  · intro j c ej bj h1 h2 hlj hc
    rcases hget j ej bj h1 h2 with ⟨rfl,rfl,rfl⟩ | ⟨hj,h1,b0,h0,rfl⟩
    · exact hsr c hc
    · rw [Blk.live_scr] at hlj
      exact hr.src j c ej b0 h1 h0 hlj hc
  · intro j hj
    obtain ⟨ej,h1,h2⟩:=hr.keep j hj
    exact ⟨ej,by rw [List.getElem?_set_ne (fun (q:i=j)=>hk (q ▸ hj))]; exact h1,h2⟩
  · intro j x hx
    rw [tget_scr] at hx
    simp only [Option.map_eq_some_iff] at hx
    obtain ⟨y,hy,rfl⟩:=hx
    obtain ⟨v,hv,hvr⟩:=hs.tm j y hy
    exact ⟨v,hv,scr_VR evo hvr⟩

theorem Rel.drew {B:Base} {s:St} {E:Env} {F:Nat→Prop} {w:World} (h:Rel B s E F w) : Rel B s E F w.drew:=by
  have evo:Evo E F w E F w.drew (fun _=>True):=⟨fun _ h=>h,fun _ _=>rfl,fun _ _ _ h=>h,fun _ _ h=>h⟩
  exact ⟨h.os,h.tape,⟨h.output.output⟩,h.size,h.F0,h.only,h.same,h.lt.evo evo.up evo.same h.lt.lt,⟨h.hr.len,fun j e b h1 h2=>(h.hr.blk j e b h1 h2).evo evo (fun _ _=>trivial) (fun _ _=>rfl),h.hr.free,h.hr.inj⟩,h.src,h.keep,h.sz⟩

theorem Sim.drew {B:Base} {s:St} {a:Act} {E:Env} {F:Nat→Prop} {w:World} (h:Sim B s a w E F) : Sim B s a w.drew E F :=
  h.evo ⟨fun _ h=>h,fun _ _=>rfl,fun _ _ _ h=>h,fun _ _ h=>h⟩ h.rel.drew rfl

def srcQ (H:List Blk) (k:Nat) : V→Option (Prop × List (List D))
  | .ref id off len =>
    match H[id]? with
    | some (.data k' rows)=>some (k'=k,(rows.drop off).take len)
    | _=>none
  | .d (.sl rows)=>some (∀ row∈rows,row.length=k∧row.all D.leaf=true,rows)
  | .nil=>some (True,[])
  | .d (.str b)=>some (k=1,b.data.toList.map fun c=>[.int .u8 (c.toNat:Int)])
  | _=>none

structure Src (P:Program) (F:Nat→Prop) (w:World) (k:Nat) (ys:List (List D)) (v:Value) (cs:List Value) : Prop where
  size:cs.length=ys.length*k
  len:∀ w',(Builtin.lenOf v).run P w'=.ok ys.length w'
  row:∀ (i:Nat) (row:List D),ys[i]? = some row→row.length=k∧row.all D.leaf=true
  cell:∀ (i:Nat) (row:List D) (j:Nat) (x:D),ys[i]? = some row→row[j]? = some x→∃ u,cs[i*k+j]? = some u∧RD F w x u
  run:∀ w',Keep w w'→(Builtin.firstCells k ys.length v).run P w'=.ok cs.toArray w'

theorem Src.one {P:Program} {F:Nat→Prop} {w:World} {k:Nat} {ys:List (List D)} {v:Value} {cs:List Value} (h:Src P F w k ys v cs) : ∀ u∈cs,u.oneCell'=true:=by
  intro u hu
  obtain ⟨j,hj,rfl⟩:=List.getElem_of_mem hu
  have hs:=h.size
  by_cases hk:k=0
  · subst hk; simp at hs; subst hs; simp at hj
  have hd:j / k<ys.length:=(Nat.div_lt_iff_lt_mul (by omega)).2 (by omega)
  have hm:j % k<k:=Nat.mod_lt _ (by omega)
  have hrow:ys[j / k]? = some ys[j / k]:=List.getElem?_eq_getElem hd
  obtain ⟨hl,hlf⟩:=h.row _ _ hrow
  have hx:ys[j / k][j % k]? = some (ys[j / k][j % k]'(by omega)):=List.getElem?_eq_getElem _
  obtain ⟨u,hu',hr⟩:=h.cell _ _ _ _ hrow hx
  have e:j / k*k+j % k=j:=by rw [Nat.mul_comm]; exact Nat.div_add_mod j k
  rw [e,List.getElem?_eq_getElem hj] at hu'
  cases hu'
  exact hr.one (List.all_eq_true.1 hlf _ (List.mem_of_getElem? hx))

theorem run_load0 {P:Program} (a:Addr) (w:World) : (loadCells a 0).run P w=.ok #[] w:=rfl

theorem src_nil {P:Program} {F:Nat→Prop} {w:World} (k:Nat) (a:Option Addr) (c:Nat) : Src P F w k [] (.slice a 0 c) [] :=
  ⟨by simp,fun w'=>by simp [Builtin.lenOf],by simp,by simp,fun w' _=>by cases a <;> simp [Builtin.firstCells,run_load0]⟩

theorem srcQ_sound {P:Program} {E:Env} {F:Nat→Prop} {w:World} {H:List Blk} {k:Nat} {x:V} {ob:Prop} {ys:List (List D)} {v:Value} (h:srcQ H k x=some (ob,ys)) (hob:ob)
    (hr:HR E F w H) (hlt:∀ b,F b→b<w.heap.size) (hx:VR E F w x v) : ∃ cs,Src P F w k ys v cs:=by
  cases hx with
  | ref id off len b k' m a cap n hE hm ha hl hb hc =>
    simp only [srcQ] at h
    split at h
    · rename_i k2 rows hH
      simp only [Option.some.injEq,Prod.mk.injEq] at h
      obtain ⟨rfl,rfl⟩:=h
      subst hob
      obtain ⟨h1,h2,h3,h4⟩:=hr.blk _ _ _ hE hH
      dsimp only at h1 h2
      subst h1 h2
      rcases h4 with ⟨h4,_⟩ | ⟨b',cs,t,h4,hw,hsz,hcell⟩
      · cases h4
      simp only [Option.some.injEq] at h4
      subst h4
      have hlen:((rows.drop off).take len).length=len:=by rw [List.length_take,List.length_drop]; omega
      by_cases h0:len=0
      · subst h0
        rw [List.take_zero]
        exact ⟨[],src_nil _ _ _⟩
      have haa:=ha (.inl (by omega))
      subst haa
      have hoff:(off+len)*k'≤cs.size:=Nat.le_trans (Nat.mul_le_mul_right _ hm) hsz
      have hget:∀ (j:Nat) (row:List D),((rows.drop off).take len)[j]? = some row→j<len∧rows[off+j]? = some row:=fun j row hj=>by
        rw [List.getElem?_take] at hj
        split at hj
        · rw [List.getElem?_drop] at hj; exact ⟨by assumption,hj⟩
        · cases hj
      have hcl:((cs.toList.drop (off*k')).take (len*k')).length=len*k':=by
        rw [Nat.add_mul] at hoff
        simp; omega
      refine ⟨(cs.toList.drop (off*k')).take (len*k'),by rw [hcl,hlen],fun w'=>by simp [Builtin.lenOf,hlen],fun i row hi=>h3 _ _ (hget i row hi).2,fun i row j x hi hj => ?_,fun w' hk' => ?_⟩
      · obtain ⟨hil,hi'⟩:=hget i row hi
        obtain ⟨u,hu,hrd⟩:=hcell _ _ j x hi' hj
        have hjk:=(List.getElem?_eq_some_iff.1 hj).1
        have:=(h3 _ _ hi').1
        have hlm:=lt_mul_of (n:=len) (m:=1) (k:=k') (off:=j) (row:=i) hil (by omega)
        refine ⟨u,?_,hrd⟩
        rw [slice_get (by omega),show off*k'+(i*k'+j)=(off+i)*k'+j by rw [Nat.add_mul]; omega]
        exact hu
      · rw [hlen]
        have:=run_loadCells_list (P:=P) w' ⟨b,off*k',none⟩ ((cs.toList.drop (off*k')).take (len*k')) (fun j u hj=>by
          rcases Nat.lt_or_ge j (len*k') with hjl | hjl
          · rw [slice_get hjl] at hj
            rw [Addr.add_mid,cell_keep hk' hw]
            exact hj
          · rw [List.getElem?_take_eq_none hjl] at hj; cases hj)
        rw [hcl] at this
        simp [Builtin.firstCells,this]
    · cases h
  | refv id k' m a hE =>
    simp only [srcQ] at h
    split at h
    · simp only [Option.some.injEq,Prod.mk.injEq] at h
      obtain ⟨rfl,rfl⟩:=h
      rw [List.take_zero]
      exact ⟨[],src_nil _ _ _⟩
    · cases h
  | nil a =>
    simp only [srcQ,Option.some.injEq,Prod.mk.injEq] at h
    obtain ⟨_,rfl⟩:=h
    exact ⟨[],src_nil _ _ _⟩
  | d x v hd =>
    cases hd with
    | sl0 a cap =>
      simp only [srcQ,Option.some.injEq,Prod.mk.injEq] at h
      obtain ⟨_,rfl⟩:=h
      exact ⟨[],src_nil _ _ _⟩
    | sl b off cap k' rows c hn hF hkk hc hrr =>
      simp only [srcQ,Option.some.injEq,Prod.mk.injEq] at h
      obtain ⟨rfl,rfl⟩:=h
      by_cases h0:rows=[]
      · subst h0; exact ⟨[],src_nil _ _ _⟩
      obtain ⟨r0,hr0⟩:=List.exists_mem_of_ne_nil _ h0
      have hkk':k'=k:=by
        obtain ⟨j,hj,e⟩:=List.getElem_of_mem hr0
        have h5:=hkk j _ (List.getElem?_eq_getElem hj)
        have h6:=(hob _ hr0).1
        rw [e] at h5
        omega
      subst hkk'
      refine ⟨(List.range (rows.length*k')).map fun m=>c (m / k') (m % k'),by simp,fun w'=>by simp [Builtin.lenOf],fun i row hi=>hob _ (List.mem_of_getElem? hi),fun i row j x hi hj => ?_,fun w' hk'' => ?_⟩
      · have hil:=(List.getElem?_eq_some_iff.1 hi).1
        have hjk:=(List.getElem?_eq_some_iff.1 hj).1
        have hrl:=hkk _ _ hi
        have hlm:=lt_mul_of (n:=rows.length) (m:=1) (k:=k') (off:=j) (row:=i) hil (by omega)
        refine ⟨c i j,?_,hrr i row j x hi hj⟩
        rw [List.getElem?_map,List.getElem?_range (by omega)]
        have e1:(i*k'+j) / k'=i:=by rw [Nat.mul_comm,Nat.mul_add_div (by omega),Nat.div_eq_of_lt (by omega)]; rfl
        have e2:(i*k'+j) % k'=j:=by rw [Nat.mul_comm,Nat.mul_add_mod]; exact Nat.mod_eq_of_lt (by omega)
        simp [e1,e2]
      · have:=run_loadCells_list (P:=P) w' ⟨b,off,none⟩ ((List.range (rows.length*k')).map fun m=>c (m / k') (m % k')) (fun j u hj=>by
          rw [List.getElem?_map] at hj
          rcases Nat.lt_or_ge j (rows.length*k') with hjl | hjl
          · rw [List.getElem?_range hjl] at hj
            simp at hj
            subst hj
            have hk0:0<k':=by
              rcases Nat.eq_zero_or_pos k' with h | h
              · subst h; simp at hjl
              · exact h
            have h5:=hc (j / k') (j % k') ((Nat.div_lt_iff_lt_mul hk0).2 hjl) (Nat.mod_lt _ hk0)
            have e:j / k'*k'+j % k'=j:=by rw [Nat.mul_comm]; exact Nat.div_add_mod j k'
            rw [e] at h5
            rw [Addr.add_mid,World.cell?_of_block (w:=w) (hk'' b (hlt b hF))]
            exact h5
          · rw [List.getElem?_eq_none (by simpa using hjl)] at hj; cases hj)
        simp only [List.length_map,List.length_range] at this
        simp [Builtin.firstCells,this]
    | str s =>
      simp only [srcQ,Option.some.injEq,Prod.mk.injEq] at h
      obtain ⟨rfl,rfl⟩:=h
      subst hob
      refine ⟨s.data.toList.map fun c=>.int .u8 (c.toNat:Int),by simp,fun w'=>by simp [Builtin.lenOf],fun i row hi => ?_,fun i row j x hi hj => ?_,fun w' _ => ?_⟩
      · simp only [List.getElem?_map,Option.map_eq_some_iff] at hi
        obtain ⟨c,_,rfl⟩:=hi
        exact ⟨rfl,rfl⟩
      · simp only [List.getElem?_map,Option.map_eq_some_iff] at hi
        obtain ⟨c,hc,rfl⟩:=hi
        cases j with
        | zero =>
          simp at hj
          subst hj
          exact ⟨_,by simp only [Nat.mul_one,Nat.add_zero,List.getElem?_map,hc]; rfl,.int _ _⟩
        | succ j=>simp at hj
      · simp only [Builtin.firstCells,List.length_map,Array.length_toList,Sem.run_pure]
        congr 1
        have e:s.extract 0 s.data.size=s:=by
          exact ByteArray.extract_zero_size (b:=s)
        rw [e]
        apply Array.ext'
        simp
    | _=>simp [srcQ] at h
  | _=>simp [srcQ] at h

end Go.Aw
