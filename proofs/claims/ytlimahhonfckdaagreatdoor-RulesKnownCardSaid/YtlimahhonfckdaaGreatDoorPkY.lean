/-
  Texts of the library,one behind the other. Over any program; no condition.
-/
import Derived.Test.YtlimahhonfckdaaGreatDoorPkC
namespace Go.Aw
set_option linter.unusedSimpArgs false
set_option linter.unusedVariables false
open Go.RowKit

inductive Cont where
  | vc (r:List Oper)
  | hc (fl:List Nat) (r:List (Oper × Nat))
  | oa (fl ro bd:List Nat) (r:List (Oper × Nat))
  | oah (H:List Blk) (fl ro bd:List Nat) (r:List (Oper × Nat))
  | dt (t:DT)

def roB (ro:List Nat) (s:St) : Op→Bool
  | .load _ x=>match (s.ev x).strip.2 with
    | .ptr id _ _=>ro.contains id
    | _=>true
  | _=>true

def RunA (P:Program) (kp:List Nat) (ops:Array Oper) (fl ro bd:List Nat) : List (Oper × Nat)→St→(St→Prop)→Prop
  | [],s,K=>K s
  | (o,i)::r,s,K =>
    if (simpleQ o.op&&o.guard.isNone && !fl.contains i)=true then
      match opR P s o.op with
      | some (ob,x)=>ob∧(roB ro s o.op||bd.contains i)=true∧srt (s.put o.dst x).tm=true∧RunA P kp ops fl ro bd r (s.put o.dst x) K
      | none=>False
    else if i∈fl then HeapVC P o s fun t=>RoS ro s.heap t.heap∧srt t.tm=true∧RunA P kp ops fl ro bd r t K
    else OpVC P kp ops o s fun t=>srt t.tm=true∧RunA P kp ops fl ro bd r t K

def contRun (P:Program) (kp:List Nat) (ops:Array Oper) : Cont→St→(St→Prop)→Prop
  | .vc r,s,K=>OpsVC P kp ops r s K
  | .hc fl r,s,K=>OpsHC P kp ops fl r s K
  | .oa fl ro bd r,s,K=>srt s.tm=true∧RunA P kp ops fl ro bd r s K
  | .oah H fl ro bd r,s,K=>RoS ro H s.heap∧srt s.tm=true∧RunA P kp ops fl ro bd r s K
  | .dt t,s,K=>t.vc P kp ops s K

def CallK (P:Program) (kp:List Nat) (ops:Array Oper) (g guarded:Bool) (f:FuncId) (ds:List D) (s':St) (dst:Option Tmp) (c:Cont) (K:St→Prop) : Prop :=
  CallD P g guarded f ds fun x H=>contRun P kp ops c ({ s' with heap:=s'.heap++heapSh s'.heap.length H }.put dst (x.sh s'.heap.length)) K

def XF (P:Program) (kp:List Nat) (ops:Array Oper) (g:Bool) (o:Oper) (s:St) (c:Cont) (K:St→Prop) : Prop :=
  match g with
  | false=>contRun P kp ops c (s.put o.dst (.opt false (dfl P o.type))) K
  | true=>False
def X5 (P:Program) (kp:List Nat) (ops:Array Oper) (ds:Option (List D)) (p:Prop) (f:FuncId) (g:Bool) (o:Oper) (s s':St) (c:Cont) (K:St→Prop) : Prop :=
  match ds with
  | some ds=>(g=true→p)∧CallK P kp ops g o.guard.isSome f ds s' o.dst c K
  | none=>XF P kp ops g o s c K
def X4 (P:Program) (kp:List Nat) (ops:Array Oper) (t:Option (Prop × FuncId × List V)) (g:Bool) (o:Oper) (s s':St) (c:Cont) (K:St→Prop) : Prop :=
  match t with
  | some (p,f,args)=>X5 P kp ops (dVs args) p f g o s s' c K
  | none=>XF P kp ops g o s c K
def NextK (P:Program) (kp:List Nat) (ops:Array Oper) (id:Nat) (mv:V) (seen:List Nat) (n:Nat) (es:List (V × V)) (s:St) (dst:Option Tmp) (c:Cont) (K:St→Prop) : Prop :=
  ((∀ j,j<es.length→j∈seen)→contRun P kp ops c (s.put dst (.tup [.d (.bool false)])) K) ∧
  ∀ j p,es[j]? = some p→j ∉ seen→contRun P kp ops c ({ s with heap:=s.heap.set id (.it mv (seen++[j]) n) }.put dst (.tup [.d (.bool true),p.1,p.2])) K
def XN (P:Program) (kp:List Nat) (ops:Array Oper) (q:Option (Nat × V × List Nat × Nat × List (V × V))) (g:Bool) (p:Prop) (o:Oper) (s:St) (c:Cont) (K:St→Prop) : Prop :=
  match q with
  | some (id,mv,seen,n,es)=>g=true∧p∧n=es.length∧NextK P kp ops id mv seen n es s o.dst c K
  | none=>XF P kp ops g o s c K
def XB (P:Program) (kp:List Nat) (ops:Array Oper) (q:Option (Bool × Nat)) (p:Prop) (g:Bool) (o:Oper) (s:St) (c:Cont) (K:St→Prop) : Prop :=
  match q,g with
  | some (b,n),true=>p∧contRun P kp ops c (s.put o.dst (.d (.bool (!b)))) K∧(n=0→contRun P kp ops c (s.put o.dst (.d (.bool b))) K)
  | _,_=>XF P kp ops g o s c K
def X3 (P:Program) (kp:List Nat) (ops:Array Oper) (op:Op) (g:Bool) (o:Oper) (s:St) (c:Cont) (K:St→Prop) : Prop :=
  match op with
  | .call k=>X4 P kp ops (callT (s.settle (callOps k)) k) g o s (s.settle (callOps k)) c K
  | .next x false=>XN P kp ops (nextQ s.heap (s.ev x).strip.2) g (s.ev x).strip.1 o s c K
  | .binOp op t x y _=>XB P kp ops (nilQ P t (nilCmp op y) (s.ev x).strip.2) (s.ev x).strip.1 g o s c K
  | _=>XF P kp ops g o s c K
def X2 (P:Program) (kp:List Nat) (ops:Array Oper) (e:Option (Prop × V × St)) (g:Bool) (o:Oper) (s:St) (c:Cont) (K:St→Prop) : Prop :=
  match e with
  | some (ob,x,s')=>match g with
    | true=>ob∧contRun P kp ops c (s'.put o.dst x) K
    | false=>contRun P kp ops c (s.put o.dst (.opt false x.off)) K
  | none=>X3 P kp ops o.op g o s c K
def X1 (P:Program) (kp:List Nat) (ops:Array Oper) (q:Option (Prop × V)) (g:Bool) (o:Oper) (s:St) (c:Cont) (K:St→Prop) : Prop :=
  match q with
  | some (ob,x)=>(g=true→ob∧(o.guard.isSome=true→x.strip.1))∧contRun P kp ops c (s.put o.dst (if o.guard.isSome then .opt g x.strip.2 else x)) K
  | none=>X2 P kp ops (opE P kp s o.op) g o s c K
def X0 (P:Program) (kp:List Nat) (ops:Array Oper) (g:Option Bool) (o:Oper) (s:St) (c:Cont) (K:St→Prop) : Prop :=
  match g with
  | none=>False
  | some g=>X1 P kp ops (opR P s o.op) g o s c K

section
variable {P:Program} {kp:List Nat} {ops:Array Oper} {o:Oper} {s:St} {c:Cont} {K:St→Prop} {g:Bool}

theorem X0_eq:X0 P kp ops (s.guardOf ops o) o s c K=OpVC P kp ops o s fun t=>contRun P kp ops c t K:=by
  unfold X0 OpVC
  cases s.guardOf ops o with
  | none=>rfl
  | some g =>
    dsimp only
    unfold X1
    cases opR P s o.op with
    | some q=>rfl
    | none =>
      dsimp only
      unfold X2
      cases opE P kp s o.op with
      | some e=>rfl
      | none =>
        dsimp only
        unfold X3
        cases o.op with
        | call k =>
          dsimp only
          unfold X4
          cases callT (s.settle (callOps k)) k with
          | none=>rfl
          | some t =>
            obtain ⟨p,f,args⟩:=t
            dsimp only
            unfold X5
            cases dVs args with
            | none=>rfl
            | some ds=>rfl
        | next x b =>
          cases b with
          | true=>rfl
          | false =>
            dsimp only
            unfold XN
            cases nextQ s.heap (s.ev x).strip.2 with
            | none=>rfl
            | some q=>rfl
        | binOp op t x y t2 =>
          dsimp only
          cases nilQ P t (nilCmp op y) (s.ev x).strip.2 with
          | none=>rfl
          | some q=>obtain ⟨b,n⟩:=q; cases g <;> rfl
        | _=>rfl

theorem X0_some:X0 P kp ops (some g) o s c K=X1 P kp ops (opR P s o.op) g o s c K:=rfl
theorem X1_some {ob:Prop} {x:V} : X1 P kp ops (some (ob,x)) g o s c K=((g=true→ob∧(o.guard.isSome=true→x.strip.1))∧contRun P kp ops c (s.put o.dst (if o.guard.isSome then .opt g x.strip.2 else x)) K):=rfl
theorem X1_none:X1 P kp ops none g o s c K=X2 P kp ops (opE P kp s o.op) g o s c K:=rfl
theorem X2_some {ob:Prop} {x:V} {s':St} : X2 P kp ops (some (ob,x,s')) true o s c K=(ob∧contRun P kp ops c (s'.put o.dst x) K):=rfl
theorem X2_off {ob:Prop} {x:V} {s':St} : X2 P kp ops (some (ob,x,s')) false o s c K=contRun P kp ops c (s.put o.dst (.opt false x.off)) K:=rfl
theorem X2_none:X2 P kp ops none g o s c K=X3 P kp ops o.op g o s c K:=rfl
theorem X3_call {k:Call} : X3 P kp ops (.call k) g o s c K=X4 P kp ops (callT (s.settle (callOps k)) k) g o s (s.settle (callOps k)) c K:=rfl
theorem XF_false:XF P kp ops false o s c K=contRun P kp ops c (s.put o.dst (.opt false (dfl P o.type))) K:=rfl
theorem X3_binOp {op:BinOp} {t t2:TypeId} {x y:Operand} : X3 P kp ops (.binOp op t x y t2) g o s c K=XB P kp ops (nilQ P t (nilCmp op y) (s.ev x).strip.2) (s.ev x).strip.1 g o s c K:=rfl
theorem XB_none {p:Prop} : XB P kp ops none p g o s c K=XF P kp ops g o s c K:=rfl
theorem XB_off {q:Option (Bool × Nat)} {p:Prop} : XB P kp ops q p false o s c K=XF P kp ops false o s c K:=by cases q <;> rfl
theorem XB_some {b:Bool} {n:Nat} {p:Prop} : XB P kp ops (some (b,n)) p true o s c K=(p∧contRun P kp ops c (s.put o.dst (.d (.bool (!b)))) K∧(n=0→contRun P kp ops c (s.put o.dst (.d (.bool b))) K)):=rfl
theorem X3_unOp {op:UnOp} {t:TypeId} {x:Operand} : X3 P kp ops (.unOp op t x) g o s c K=XF P kp ops g o s c K:=rfl
theorem X3_load {t:TypeId} {x:Operand} : X3 P kp ops (.load t x) g o s c K=XF P kp ops g o s c K:=rfl
theorem X3_fieldAddr {t i:Nat} {x:Operand} : X3 P kp ops (.fieldAddr t x i) g o s c K=XF P kp ops g o s c K:=rfl
theorem X3_indexAddr {t:TypeId} {x i:Operand} : X3 P kp ops (.indexAddr t x i) g o s c K=XF P kp ops g o s c K:=rfl
theorem X3_field {t i:Nat} {x:Operand} : X3 P kp ops (.field t x i) g o s c K=XF P kp ops g o s c K:=rfl
theorem X3_index {t:TypeId} {x i:Operand} : X3 P kp ops (.index t x i) g o s c K=XF P kp ops g o s c K:=rfl
theorem X3_slice {t:TypeId} {x:Operand} {a b d:Option Operand} : X3 P kp ops (.slice t x a b d) g o s c K=XF P kp ops g o s c K:=rfl
theorem X3_convert {t u:TypeId} {x:Operand} : X3 P kp ops (.convert t u x) g o s c K=XF P kp ops g o s c K:=rfl
theorem X3_extract {i:Nat} {x:Operand} : X3 P kp ops (.extract x i) g o s c K=XF P kp ops g o s c K:=rfl
theorem X3_pick {x y z:Operand} : X3 P kp ops (.pick x y z) g o s c K=XF P kp ops g o s c K:=rfl
theorem XN_none {p:Prop} : XN P kp ops none g p o s c K=XF P kp ops g o s c K:=rfl
theorem X4_none {s':St} : X4 P kp ops none g o s s' c K=XF P kp ops g o s c K:=rfl
theorem X5_none {s':St} {p:Prop} {f:FuncId} : X5 P kp ops none p f g o s s' c K=XF P kp ops g o s c K:=rfl
theorem X3_next {x:Operand} : X3 P kp ops (.next x false) g o s c K=XN P kp ops (nextQ s.heap (s.ev x).strip.2) g (s.ev x).strip.1 o s c K:=rfl
theorem XN_some {id:Nat} {mv:V} {seen:List Nat} {n:Nat} {es:List (V × V)} {p:Prop} : XN P kp ops (some (id,mv,seen,n,es)) g p o s c K=(g=true∧p∧n=es.length∧NextK P kp ops id mv seen n es s o.dst c K):=rfl
theorem X4_some {s':St} {p:Prop} {f:FuncId} {args:List V} : X4 P kp ops (some (p,f,args)) g o s s' c K=X5 P kp ops (dVs args) p f g o s s' c K:=rfl
theorem X5_some {s':St} {ds:List D} {p:Prop} {f:FuncId} : X5 P kp ops (some ds) p f g o s s' c K=((g=true→p)∧CallK P kp ops g o.guard.isSome f ds s' o.dst c K):=rfl
end

section
variable {P:Program} {kp:List Nat} {ops:Array Oper} {s:St} {K:St→Prop}
def HeapK (P:Program) (kp:List Nat) (ops:Array Oper) (f:FuncId) (args:List V) (s:St) (dst:Option Tmp) (c:Cont) (K:St→Prop) : Prop :=
  ∃ R:V→List Blk→Prop,AC P f args s.heap (List.range s.heap.length) R∧∀ x H',R x H'→contRun P kp ops c ((⟨s.tm,H'⟩ : St).put dst x) K
def H2 (P:Program) (kp:List Nat) (ops:Array Oper) (t:Option (Prop × FuncId × List V)) (s:St) (dst:Option Tmp) (c:Cont) (K:St→Prop) : Prop :=
  match t with
  | some (p,f,args)=>p∧HeapK P kp ops f args s dst c K
  | none=>False
def H1 (P:Program) (kp:List Nat) (ops:Array Oper) (op:Op) (g:Option (Nat × Bool)) (s:St) (dst:Option Tmp) (c:Cont) (K:St→Prop) : Prop :=
  match op,g with
  | .call k,none=>H2 P kp ops (callT s k) s dst c K
  | _,_=>False
theorem H1_eq {o:Oper} {c:Cont} : H1 P kp ops o.op o.guard s o.dst c K=HeapVC P o s fun t=>contRun P kp ops c t K:=by
  unfold H1 HeapVC
  split
  · rename_i k h1 h2
    rw [h1,h2]
    dsimp only
    unfold H2
    cases callT s k with
    | none=>rfl
    | some t=>rfl
  · rename_i h
    split
    · rename_i k h1 h2; exact absurd h2 (by simpa [h1] using h k)
    · rfl
theorem H1_call {k:Call} {dst:Option Tmp} {c:Cont} : H1 P kp ops (.call k) none s dst c K=H2 P kp ops (callT s k) s dst c K:=rfl
theorem H2_some {p:Prop} {f:FuncId} {args:List V} {dst:Option Tmp} {c:Cont} : H2 P kp ops (some (p,f,args)) s dst c K=(p∧HeapK P kp ops f args s dst c K):=rfl

theorem contRun_vc_nil:contRun P kp ops (.vc []) s K=K s:=rfl
theorem contRun_vc {o:Oper} {r:List Oper} : contRun P kp ops (.vc (o::r)) s K=X0 P kp ops (s.guardOf ops o) o s (.vc r) K:=by rw [X0_eq]; rfl
def DX (P:Program) (kp:List Nat) (ops:Array Oper) (o:Option Oper) (r:DT) (s:St) (K:St→Prop) : Prop :=
  match o with
  | some o=>X0 P kp ops (s.guardOf ops o) o s (.dt r) K
  | none=>False
theorem DX_some {o:Oper} {r:DT} : DX P kp ops (some o) r s K=X0 P kp ops (s.guardOf ops o) o s (.dt r) K:=rfl
theorem contRun_dt_nil:contRun P kp ops (.dt .nil) s K=K s:=rfl
theorem contRun_dt_op {i:Nat} {r:DT} : contRun P kp ops (.dt (.op i r)) s K=DX P kp ops ops[i]? r s K:=by
  show DT.vc P kp ops (.op i r) s K=_
  unfold DX DT.vc
  cases ops[i]? with
  | none=>rfl
  | some o=>dsimp only; rw [X0_eq]; rfl
theorem contRun_dt_or {x y:DT} : contRun P kp ops (.dt (.or x y)) s K=(contRun P kp ops (.dt x) s K∧contRun P kp ops (.dt y) s K):=rfl
theorem contRun_hc_nil {fl:List Nat} : contRun P kp ops (.hc fl []) s K=K s:=rfl
def HX (P:Program) (kp:List Nat) (ops:Array Oper) (b:Bool) (o:Oper) (s:St) (c:Cont) (K:St→Prop) : Prop :=
  match b with
  | true=>H1 P kp ops o.op o.guard s o.dst c K
  | false=>X0 P kp ops (s.guardOf ops o) o s c K
theorem HX_true {o:Oper} {c:Cont} : HX P kp ops true o s c K=H1 P kp ops o.op o.guard s o.dst c K:=rfl
theorem HX_false {o:Oper} {c:Cont} : HX P kp ops false o s c K=X0 P kp ops (s.guardOf ops o) o s c K:=rfl
theorem contRun_hc {fl:List Nat} {o:Oper} {i:Nat} {r:List (Oper × Nat)} : contRun P kp ops (.hc fl ((o,i)::r)) s K=HX P kp ops (decide (i∈fl)) o s (.hc fl r) K:=by
  show OpsHC P kp ops fl ((o,i)::r) s K=_
  unfold OpsHC
  by_cases h:i∈fl
  · simp only [h,if_true,decide_true,HX_true,H1_eq]
    rfl
  · simp only [h,if_false,decide_false,HX_false,X0_eq]
    rfl

theorem roB_sound {ro:List Nat} {op:Op} (hs:simpleQ op=true) (h:roB ro s op=true) : roOk P ro s op:=by
  intro H' hH
  have hev:∀ x,(⟨s.tm,H'⟩ : St).ev x=s.ev x:=fun x=>by cases x <;> rfl
  have hl:∀ (t:TypeId) (x:Operand),(match (s.ev x).strip.2 with | .ptr id _ _=>ro.contains id | _=>true)=true→loadQ P H' t (s.ev x).strip.2=loadQ P s.heap t (s.ev x).strip.2:=by
    intro t x h
    cases hv:(s.ev x).strip.2 with
    | ptr id row off =>
      rw [hv] at h
      simp only [loadQ,hH.1 id (by simpa using h)]
    | d y=>cases y <;> rfl
    | _=>rfl
  have hi:∀ (t:TypeId) (x:Operand) (n:Int),indexAddrQ P H' t (s.ev x).strip.2 n=indexAddrQ P s.heap t (s.ev x).strip.2 n:=by
    intro t x n
    cases hv:(s.ev x).strip.2 with
    | ref id off len =>
      have h:=hH.2 id
      simp only [indexAddrQ]
      cases hk:kel P t with
      | none=>rfl
      | some q =>
        obtain ⟨m,n',u⟩:=q
        cases m with
        | some m=>rfl
        | none =>
          cases h1:H'[id]? with
          | none=>cases h2:s.heap[id]? with
            | none=>rfl
            | some b=>cases b <;> simp [shp,h1,h2] at h ⊢
          | some b'=>cases h2:s.heap[id]? with
            | none=>cases b' <;> simp [shp,h1,h2] at h ⊢
            | some b =>
              cases b' <;> cases b <;> simp [shp,h1,h2] at h ⊢ <;> first | omega | (subst h; simp) | skip
    | d y=>cases y <;> rfl
    | _=>rfl
  cases op <;> simp only [simpleQ,Bool.false_eq_true] at hs
  case load t x=>simp only [opR,opQ,hev,hl t x h]
  case indexAddr t x i=>simp only [opR,opQ,hev,fun n=>hi t x n]
  all_goals simp only [opR,opQ,hev]

def A1 (P:Program) (kp:List Nat) (ops:Array Oper) (q:Option (Prop × V)) (b:Bool) (o:Oper) (s:St) (c:Cont) (K:St→Prop) : Prop :=
  match q with
  | some (ob,x)=>ob∧b=true∧contRun P kp ops c (s.put o.dst x) K
  | none=>False
def AX (P:Program) (kp:List Nat) (ops:Array Oper) (b1 b2 b3:Bool) (fl ro bd:List Nat) (o:Oper) (s:St) (r:List (Oper × Nat)) (K:St→Prop) : Prop :=
  match b1,b2 with
  | true,_=>A1 P kp ops (opR P s o.op) (roB ro s o.op||b3) o s (.oa fl ro bd r) K
  | false,true=>H1 P kp ops o.op o.guard s o.dst (.oah s.heap fl ro bd r) K
  | false,false=>X0 P kp ops (s.guardOf ops o) o s (.oa fl ro bd r) K
theorem A1_some {ob:Prop} {x:V} {b:Bool} {o:Oper} {c:Cont} : A1 P kp ops (some (ob,x)) b o s c K=(ob∧b=true∧contRun P kp ops c (s.put o.dst x) K):=rfl
theorem AX_q {b2 b3:Bool} {fl ro bd:List Nat} {o:Oper} {r:List (Oper × Nat)} : AX P kp ops true b2 b3 fl ro bd o s r K=A1 P kp ops (opR P s o.op) (roB ro s o.op||b3) o s (.oa fl ro bd r) K:=rfl
theorem AX_h {b3:Bool} {fl ro bd:List Nat} {o:Oper} {r:List (Oper × Nat)} : AX P kp ops false true b3 fl ro bd o s r K=H1 P kp ops o.op o.guard s o.dst (.oah s.heap fl ro bd r) K:=rfl
theorem AX_x {b3:Bool} {fl ro bd:List Nat} {o:Oper} {r:List (Oper × Nat)} : AX P kp ops false false b3 fl ro bd o s r K=X0 P kp ops (s.guardOf ops o) o s (.oa fl ro bd r) K:=rfl
theorem RunA_nil {fl ro bd:List Nat} : RunA P kp ops fl ro bd [] s K=K s:=rfl
theorem RunA_cons {fl ro bd:List Nat} {o:Oper} {i:Nat} {r:List (Oper × Nat)} : RunA P kp ops fl ro bd ((o,i)::r) s K=AX P kp ops (simpleQ o.op&&o.guard.isNone && !fl.contains i) (decide (i∈fl)) (bd.contains i) fl ro bd o s r K:=by
  unfold RunA
  by_cases h1:(simpleQ o.op&&o.guard.isNone && !fl.contains i)=true
  · rw [if_pos h1,h1,AX_q]
    unfold A1
    cases opR P s o.op with
    | none=>rfl
    | some q=>rfl
  · rw [if_neg h1]
    rw [Bool.not_eq_true] at h1
    rw [h1]
    by_cases h2:i∈fl
    · rw [if_pos h2,decide_eq_true h2,AX_h,H1_eq]
      rfl
    · rw [if_neg h2,decide_eq_false h2,AX_x,X0_eq]
      rfl

theorem runA_ops {fl ro bd:List Nat} : ∀ {l:List (Oper × Nat)} {s:St},RunA P kp ops fl ro bd l s K→OpsA P kp ops fl ro bd l s K
  | [],s,h=>h
  | (o,i)::r,s,h=>by
    unfold RunA at h
    unfold OpsA
    split at h
    · rename_i h1
      rw [if_pos h1]
      split at h
      · rename_i ob x hq
        rw [hq]
        simp only [Bool.and_eq_true] at h1
        refine ⟨h.1,?_,runA_ops h.2.2.2⟩
        have h3:=h.2.1
        rw [Bool.or_eq_true] at h3
        exact h3.imp (fun h3=>roB_sound h1.1.1 h3) (fun h3=>by simpa using h3)
      · exact h.elim
    · rename_i h1
      rw [if_neg h1]
      split at h
      · rename_i h2
        rw [if_pos h2]
        exact h.imp fun t ht=>⟨ht.1,ht.2.1,runA_ops ht.2.2⟩
      · rename_i h2
        rw [if_neg h2]
        exact h.imp fun t ht=>⟨ht.1,runA_ops ht.2⟩

theorem contRun_oa {fl ro bd:List Nat} {r:List (Oper × Nat)} : contRun P kp ops (.oa fl ro bd r) s K=(srt s.tm=true∧RunA P kp ops fl ro bd r s K):=rfl
theorem contRun_oah {H:List Blk} {fl ro bd:List Nat} {r:List (Oper × Nat)} : contRun P kp ops (.oah H fl ro bd r) s K=(RoS ro H s.heap∧srt s.tm=true∧RunA P kp ops fl ro bd r s K):=rfl
end

variable {P:Program} {kp:List Nat} {ops:Array Oper} {s:St} {K:St→Prop}

theorem awpF_region {n:Nat} {Q:Exit→St→Prop} {id:Nat} (h:∀ K:St→Prop,(∀ t,Q .normal t→K t)→contRun P kp ops (.vc ops.toList) s K) : AWP P kp n (.region id ops false) s Q:=awp_region h
theorem awpF_draw {n:Nat} {Q:Exit→St→Prop} {id:Nat} (l:List Nat) (hm:P.follows .mixedOrders=true) (hc:(Region.noSelect ops&&drawOk ops l (Array.replicate ops.size false))=true) (hl:l.length=ops.size)
    (h:∀ K:St→Prop,(∀ t,Q .normal t→K t)→contRun P kp ops (.vc (l.filterMap (ops[·]?))) s K) : AWP P kp n (.region id ops true) s Q:=awp_draw l hm hc hl h
theorem awpF_drawT {n:Nat} {Q:Exit→St→Prop} {id:Nat} (d:DT) (hm:P.follows .mixedOrders=true) (hc:(Region.noSelect ops&&d.ok ops true (Array.replicate ops.size false))=true) (hl:Nat.ble d.depth ops.size=true)
    (h:∀ K:St→Prop,(∀ t,Q .normal t→K t)→contRun P kp ops (.dt d) s K) : AWP P kp n (.region id ops true) s Q:=awp_drawT d hm hc hl h
theorem dt_close {K:St→Prop} {Φ:Prop} (S:St) (fin:K S) (h:K S→Φ) : Φ:=h fin
theorem awpF_regionH {n:Nat} {Q:Exit→St→Prop} {id:Nat} (fl:List Nat) (h:∀ K:St→Prop,(∀ t,Q .normal t→K t)→contRun P kp ops (.hc fl ops.toList.zipIdx) s K) : AWP P kp n (.region id ops false) s Q:=awp_regionH fl h

theorem awpF_drawH {n:Nat} {Q:Exit→St→Prop} {id:Nat} (fl ro bd:List Nat) (order:List Nat) (hbd:bd.all (bndB ops fl)=true) (hm:P.follows .mixedOrders=true) (hs:srt s.tm=true)
    (hc:drawOkA ops fl ((order.filterMap fun i=>(ops[i]?).map fun o=>(o,i)).map (·.2)) (Array.replicate ops.size false)=true) (hn:Nat.ble (order.filterMap fun i=>(ops[i]?).map fun o=>(o,i)).length ops.size=true)
    (h:∀ K:St→Prop,(∀ t,Q .normal t→K t)→RunA P kp ops fl ro bd (order.filterMap fun i=>(ops[i]?).map fun o=>(o,i)) s K) : AWP P kp n (.region id ops true) s Q :=
  awp_drawH fl ro bd hbd _ hm hs (fun p hp=>by
    obtain ⟨i,_,hi⟩:=List.mem_filterMap.1 hp
    simp only [Option.map_eq_some_iff] at hi
    obtain ⟨o,ho,rfl⟩:=hi
    exact ho) hc (Nat.le_of_ble_eq_true hn) fun K hK=>runA_ops (h K hK)

theorem CallK.pd {gd:Bool} {f:FuncId} {ds:List D} {x0:V} {s':St} {dst:Option Tmp} {c:Cont} (h:PC P f ds fun x H=>x=x0∧H=[]) (hk:contRun P kp ops c (s'.put dst (x0.sh s'.heap.length)) K) : CallK P kp ops true gd f ds s' dst c K:=by
  refine CallD.det h ?_
  simpa [heapSh] using hk
theorem CallK.pg {g:Bool} {f:FuncId} {ds:List D} {x0:V} {s':St} {dst:Option Tmp} {c:Cont} (h:g=true→PC P f ds fun x H=>x=x0∧H=[]) (hk:contRun P kp ops c (s'.put dst ((V.opt g x0).sh s'.heap.length)) K) : CallK P kp ops g true f ds s' dst c K:=by
  refine CallD.grd h ?_
  simpa [heapSh] using hk
theorem CallK.rel {gd:Bool} {f:FuncId} {ds:List D} {R:V→List Blk→Prop} {s':St} {dst:Option Tmp} {c:Cont} (h:PC P f ds R) (hk:∀ x H,R x H→contRun P kp ops c ({ s' with heap:=s'.heap++heapSh s'.heap.length H }.put dst (x.sh s'.heap.length)) K) : CallK P kp ops true gd f ds s' dst c K :=
  CallD.rel h hk
theorem HeapK.mk {f:FuncId} {args:List V} {dst:Option Tmp} {c:Cont} (R:V→List Blk→Prop) (h:AC P f args s.heap (List.range s.heap.length) R) (hk:∀ x H',R x H'→contRun P kp ops c ((⟨s.tm,H'⟩ : St).put dst x) K) : HeapK P kp ops f args s dst c K:=⟨R,h,hk⟩

attribute [push_cast] X0_some X1_some X1_none X2_some X2_off V.off X2_none X3_call XF_false XB_none XB_off XB_some nilQ nilCmp nilLen X3_binOp X3_unOp X3_load X3_fieldAddr X3_indexAddr X3_field X3_index X3_slice X3_convert X3_extract X3_pick XN_none X4_none X5_none dfl X3_next XN_some nextQ entryOf rangeQ X4_some X5_some H1_call H2_some contRun_vc_nil contRun_vc DX_some contRun_dt_nil contRun_dt_op contRun_dt_or contRun_hc_nil HX_true HX_false contRun_hc A1_some AX_q AX_h AX_x RunA_nil RunA_cons roB contRun_oa contRun_oah List.foldl_cons List.foldl_nil

end Go.Aw

namespace Go.Aw
set_option linter.unusedSimpArgs false
set_option linter.unusedVariables false
open Go.RowKit

attribute [push_cast] nifQ binQ eqQ eqFs cutQ opR opQ opE St.guardOf St.ev St.get St.put tget tput argTm ofD V.strip V.flat V.leaf List.all_cons List.all_nil Bool.and_true Bool.and_self Bool.true_and V.cellsV ofConst leafConst arith boolOf lenQ loadQ fieldAddrQ indexAddrQ fieldQ indexQ bnd sliceQ builtQ
  buildQ fillV sliceLitQ makeQ appQ storeQ srcQ setL St.settle St.fz callOps callT stripAll dVs dV dOf dOfs resQ resQs retQ D.leaf
  appV srcV litVQ rowsV flatsV hasNil dOfss Blk.rowsD Blk.frz V.frz V.frzL tmFrz heapFrz St.frz
  mkifQ asrtQ strQ extR u64ok stripsOk lookQ mputQ entryQ estoreQ simpleQ V.ren V.renL Blk.ren renTm renHeap subTm V.bel V.belL Blk.bel belTm belHeap srt
  partRows partsOk V.sh V.shL Blk.sh heapSh scr jk_d jk_agg jk_ptr jk_ref jk_nil jk_fn jk_map jk_iface jk_opt jk_junk jk_tup tmScr scrL Blk.scr heapScr V.has V.hasL
attribute [push_cast] List.map_cons List.map_nil List.foldr_cons List.foldr_nil Option.getD_some Option.getD_none Option.map_some Option.map_none Option.bind_some Option.bind_none List.getElem?_cons_zero List.getElem?_cons_succ
  List.length_cons List.length_nil List.nil_append List.cons_append List.append_nil if_true if_false ite_true ite_false true_and and_true true_implies implies_true Bool.false_eq_true List.set_cons_zero List.set_cons_succ
  List.drop_zero List.drop_succ_cons List.take_zero List.take_succ_cons List.getD_cons_zero List.getD_cons_succ decide_eq_true_eq Option.isSome_none Option.isSome_some Bool.true_eq_false eq_self List.getElem?_toArray beq_true beq_false Bool.not_true Bool.not_false List.getD_nil false_implies decide_false decide_true cond_true cond_false

end Go.Aw

namespace Go.Aw
set_option linter.unusedSimpArgs false
set_option linter.unusedVariables false
open Go.RowKit

attribute [push_cast] globT Then InBlock and_assoc heapSh List.size_toArray Array.size_empty Option.isNone_none Option.isNone_some List.contains_cons List.contains_nil List.mem_cons List.not_mem_nil or_false false_or decide_true decide_false Nat.zero_add Nat.add_zero List.filterMap_cons List.filterMap_nil List.any_cons List.any_nil Bool.or_false Bool.false_or Bool.or_self Bool.true_or Bool.or_true Bool.and_false Bool.false_and imp_self and_self forall_const List.getElem?_map Int.toNat_natCast List.length_map

theorem AC.drop {P:Program} {f:FuncId} {args:List V} {H:List Blk} {R R':V→List Blk→Prop} (h:AC P f args H [] R) (hR:∀ x H',R x H'→V.bel 0 x=true∧R' x []) : AC P f args H [] R':=by
  refine ⟨h.1,fun w cargs E F h1 h2 h3 h4=>(h.2 w cargs E F h1 h2 h3 h4).mono ?_⟩
  rintro e w' ⟨v,x,H',E',F',q1,q2,q3,q4⟩
  obtain ⟨r1,r2⟩:=hR x H' q2
  have hs:Sim ⟨w,F,own E H,E,[],[]⟩ ⟨[],H'⟩ { tmps:=#[],defers:=[] } w' E' F':=⟨q3,rfl,fun i x hx=>by simp [tget] at hx⟩
  have hle:Le [] ⟨[],[]⟩ ⟨[],H'⟩:=⟨trivial,⟨H',rfl⟩,rfl,rfl,fun i hi=>by cases hi⟩
  have hs':=le_sim (B:=⟨w,F,own E H,E,[],[]⟩) hle hs
  refine ⟨v,x,[],E'.take 0,F',q1,r2,hs'.rel,?_⟩
  exact q4.evo (ok:=fun i=>i<0) ⟨fun _ h=>h,fun _ _=>rfl,fun i e hi _=>absurd hi (Nat.not_lt_zero i),fun _ _ h=>h⟩ (bel_has 0 x r1)

def PD (P:Program) (f:FuncId) (args:List D) (x0:V) : Prop:=PC P f args fun x H=>x=x0∧H=[]

theorem CallD.pd {P:Program} {f:FuncId} {args:List D} {x0:V} {K:V→List Blk→Prop} (h:PD P f args x0) (hk:K x0 []) : CallD P true false f args K:=CallD.det h hk
theorem CallD.pg {P:Program} {g:Bool} {f:FuncId} {args:List D} {x0:V} {K:V→List Blk→Prop} (h:g=true→PD P f args x0) (hk:K (.opt g x0) []) : CallD P g true f args K:=CallD.grd h hk

theorem pd_of {P:Program} {f:FuncId} {fn:Func} {c:Code} {args:List D} {x0:V} (rs:List ResultVar) (hf:P.funcs[f]? = some fn) (hb:fn.body=some c)
    (hnm : (fn.name == "runtime.NumGoroutine") = false) (hn : (args.map ofD).length ≤ fn.ntmps) (hok : codeOk fn.ntmps c = true) (hrs : fn.results.toList = rs) (hx : V.bel 0 x0 = true)
    (h:AWP P [] fn.ntmps c ⟨argTm 0 (args.map ofD),[]⟩ (Fin P rs fun x _=>x=x0)) : PD P f args x0:=by
  subst hrs
  exact AC.drop (R:=fun x _=>x=x0) (ac_of hf hb hnm hn hok h) fun x H' hh=>⟨hh ▸ hx,hh,rfl⟩

theorem ac_ofF {P:Program} {kp:List Nat} {f:FuncId} {fn:Func} {c:Code} {args:List V} {H:List Blk} {R:V→List Blk→Prop} (rs:List ResultVar) (hf:P.funcs[f]? = some fn) (hb:fn.body=some c)
    (hnm : (fn.name == "runtime.NumGoroutine") = false) (hn : args.length ≤ fn.ntmps) (hok : codeOk fn.ntmps c = true) (hrs : fn.results.toList = rs)
    (h:AWP P kp fn.ntmps c ⟨argTm 0 args,H⟩ (Fin P rs R)) : AC P f args H kp R:=by
  subst hrs
  exact ac_of hf hb hnm hn hok h

theorem pc_of {P:Program} {f:FuncId} {fn:Func} {c:Code} {args:List D} {R:V→List Blk→Prop} (rs:List ResultVar) (hf:P.funcs[f]? = some fn) (hb:fn.body=some c)
    (hnm : (fn.name == "runtime.NumGoroutine") = false) (hn : (args.map ofD).length ≤ fn.ntmps) (hok : codeOk fn.ntmps c = true) (hrs : fn.results.toList = rs)
    (h:AWP P [] fn.ntmps c ⟨argTm 0 (args.map ofD),[]⟩ (Fin P rs R)) : PC P f args R:=by
  subst hrs
  exact ac_of hf hb hnm hn hok h

theorem fin_of {P:Program} {rs:List ResultVar} {R:V→List Blk→Prop} {s:St} {p:Prop} {x:V} (h:retQ P s rs=some (p,x)) (hp:p) (hR:R x s.heap) : Fin P rs R .ret s:=⟨.inr rfl,p,x,h,hp,hR⟩
theorem wrapI (n:Int) (h : -9223372036854775808≤n∧n≤9223372036854775807) : IntKind.i64.wrap n=n:=by rw [IntKind.wrap_i64]; omega
theorem then_ret {next:St→Prop} {Q:Exit→St→Prop} {s:St} (h:Q .ret s) : Then next Q .ret s:=h
theorem then_exit {next:St→Prop} {Q:Exit→St→Prop} {s:St} {id:Nat} (h:Q (.exit id) s) : Then next Q (.exit id) s:=h
theorem inblock_ret {id:Nat} {Q:Exit→St→Prop} {s:St} (h:Q .ret s) : InBlock id Q .ret s:=h
theorem inblock_same {id:Nat} {Q:Exit→St→Prop} {s:St} (h:Q .normal s) : InBlock id Q (.exit id) s:=by simpa [InBlock] using h
theorem inblock_other {id id':Nat} {Q:Exit→St→Prop} {s:St} (hne:(id'==id)=false) (h:Q (.exit id') s) : InBlock id Q (.exit id') s:=by
  have:¬ id'=id:=by simpa using hne
  simpa [InBlock,this] using h

theorem round_end {kp:List Nat} {Q:Exit→St→Prop} {α:Type} {st:α→St} {inv:α→Prop} {μ:α→Nat} {x:α} {u:St} (y:α) (r:List Nat) (h1:μ y<μ x) (h2:inv y) (h3:Ren kp r (st y) u) :
    Then (fun u=>∃ y r,μ y<μ x∧inv y∧Ren kp r (st y) u) Q .normal u:=⟨y,r,h1,h2,h3⟩

theorem awp_loopP {P:Program} {kp:List Nat} {n:Nat} {s:St} {Q:Exit→St→Prop} {c:Code} {α:Type} (st:α→St) (inv:α→Prop) (μ:α→Nat) (x0:α) (r0:List Nat) (hI:inv x0) (h0:Ren kp r0 (st x0) s)
    (round:∀ x,inv x→AWP P kp n c (st x) (Then (fun u=>∃ y r,μ y<μ x∧inv y∧Ren kp r (st y) u) Q)) : AWP P kp n (.loop c) s Q:=by
  refine awp_loop_ren (fun m t=>∃ x,m=μ x∧inv x∧t=st x) (μ x0) r0 (st x0) h0 ⟨x0,rfl,hI,rfl⟩ ?_
  rintro m t ⟨x,rfl,hx,rfl⟩
  refine awp_mono (round x hx) ?_
  intro e t h
  cases e with
  | normal=>obtain ⟨y,r,h1,h2,h3⟩:=h; exact ⟨μ y,r,st y,h1,⟨y,rfl,h2,rfl⟩,h3⟩
  | _=>exact h

theorem ob1 {p:Prop} (h:p:=by first | omega | trivial | assumption | (intro _ hrow; obtain ⟨_,_,rfl⟩:=List.mem_map.1 hrow; rfl) | ((intros; repeat' apply And.intro) <;> first | omega | trivial | assumption | (intro _ hrow; obtain ⟨_,_,rfl⟩:=List.mem_map.1 hrow; rfl) | (simp_all; done) | (simp_all; omega))) : p:=h

structure Hold (q:Prop) : Prop where
  out:q
theorem wOb {p q:Prop} (hq:q) (h:Hold q→p:=by
  intro h
  (repeat ((with_reducible refine And.intro ?_ ?_); (focus (exact ob1))))
  exact h.out) : p:=h ⟨hq⟩
theorem wObW {p q:Prop} (hq:q) (h:Hold q→p:=by
  intro h
  (try simp (disch:=omega) only [wrapI])
  (repeat ((with_reducible refine And.intro ?_ ?_); (focus (exact ob1))))
  exact h.out) : p:=h ⟨hq⟩
theorem wXo {p q:Prop} (hq:q) (h:Hold q→p:=by
  intro h
  simp only [push_cast,seval]
  (try simp (disch:=omega) only [wrapI])
  (repeat ((with_reducible refine And.intro ?_ ?_); (focus (exact ob1))))
  exact h.out) : p:=h ⟨hq⟩
theorem wKk {A K:St→Prop} {p q:Prop} (hK:∀ t,A t→K t) (hq:q) (h:(∀ t,A t→K t)→Hold q→p:=by
  intro hK h
  (try simp (disch:=omega) only [wrapI])
  (repeat ((with_reducible refine And.intro ?_ ?_); (focus (exact ob1))))
  refine hK _ ?_
  exact h.out) : p:=h hK ⟨hq⟩
theorem wRg {p q:Prop} (hq:q) (h:Hold q→p:=by
  intro h
  refine awpF_region ?_
  intro K hK
  simp only [push_cast,seval]
  (try simp (disch:=omega) only [wrapI])
  (repeat ((with_reducible refine And.intro ?_ ?_); (focus (exact ob1))))
  refine hK _ ?_
  exact h.out) : p:=h ⟨hq⟩
theorem wRen {p:Prop} (h:p:=by exact ⟨by simp,by simp,by simp [push_cast,seval],by simp [push_cast,seval],by simp [push_cast,seval],by simp [push_cast,seval]⟩) : p:=h
theorem wRp {p q:Prop} (hq:q) (h:Hold q→p:=by
  intro h
  refine awp_ret ?_
  (repeat (first | refine then_ret ?_ | refine inblock_ret ?_ | refine nogoto_ret ?_))
  exact h.out) : p:=h ⟨hq⟩
theorem wRet {p q:Prop} (hq:q) (h:Hold q→p:=by
  intro h
  refine awp_ret ?_
  (repeat (first | refine then_ret ?_ | refine inblock_ret ?_ | refine nogoto_ret ?_))
  refine fin_of (by simp only [push_cast,seval]; first | done | rfl) ob1 ?_
  exact h.out) : p:=h ⟨hq⟩
theorem wEx {p q:Prop} (hq:q) (h:Hold q→p:=by
  intro h
  refine awp_exit ?_
  (repeat (first | refine then_exit ?_ | refine inblock_other (by decide) ?_))
  refine inblock_same ?_
  exact h.out) : p:=h ⟨hq⟩
theorem wCd {p q r:Prop} (hq:q) (hr:r) (h:Hold q→Hold r→p:=by
  intro h1 h2
  apply awp_cond
  (focus (simp only [push_cast,seval]; rfl))
  exact h1.out
  exact h2.out) : p:=h ⟨hq⟩ ⟨hr⟩
theorem wHb {p q:Prop} (h:p) (e:p→q:=by
  intro h
  (try simp only [decide_eq_true_eq,decide_eq_false_iff_not,Bool.not_eq_true',Bool.not_eq_false',Bool.and_eq_true,Bool.or_eq_true,Bool.not_eq_true] at h)
  exact h) : q:=e h

end Go.Aw
