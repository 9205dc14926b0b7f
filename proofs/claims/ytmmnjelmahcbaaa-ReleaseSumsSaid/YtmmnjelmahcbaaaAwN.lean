/-
  One operation of a walk over abstract states, and that the model does just that. Over any program; no condition.
-/
import Derived.Test.YtmmnjelmahcbaaaAwNa
import Derived.Test.YtmmnjelmahcbaaaAwW
import Derived.WalkSpells
namespace Go.Aw
set_option linter.unusedSimpArgs false
set_option linter.unusedVariables false
open Go.RowKit

/-- Operands' values, and what is asked of them. -/
def stripAll (s : St) : List Operand → Prop × List V
  | [] => (True, [])
  | x :: r => ((s.ev x).strip.1 ∧ (stripAll s r).1, (s.ev x).strip.2 :: (stripAll s r).2)

theorem stripAll_sound {B : Base} {s : St} {a : Act} {w : World} {E : Env} {F : Nat → Prop} (hs : Sim B s a w E F) : ∀ (l : List Operand), (stripAll s l).1 →
    (stripAll s l).2.length = l.length ∧ ∀ (j : Nat) (x : V) (v : Value), (stripAll s l).2[j]? = some x → (l.map a.eval)[j]? = some v → VR E F w x v
  | [], _ => ⟨rfl, by simp [stripAll]⟩
  | y :: r, h => by
    obtain ⟨h1, h2⟩ := h
    obtain ⟨q1, q2⟩ := stripAll_sound hs r h2
    refine ⟨by simp [stripAll, q1], fun j x v hx hv => ?_⟩
    cases j with
    | zero =>
      simp [stripAll] at hx hv
      subst hx hv
      exact V.strip_sound (ev_sound hs y) h1
    | succ j => exact q2 j x v (by simpa [stripAll] using hx) (by simpa using hv)

/-- Operations that only compute or read, struct literals among them. -/
def opR (P : Program) (s : St) : Op → Option (Prop × V)
  | .build t parts => buildQ P s t parts
  | .lookup t x i ok => (lookQ P s.heap t (s.ev x).strip.2 (s.ev i).strip.2 ok).map fun r => ((s.ev x).strip.1 ∧ (s.ev i).strip.1 ∧ r.1, r.2)
  | .entry x => (entryOf s.heap (s.ev x).strip.2).map fun r => ((s.ev x).strip.1 ∧ r.1, r.2)
  | .convert src dst x =>
    match strQ P s.heap src dst (s.ev x).strip.2 with
    | some r => some ((s.ev x).strip.1 ∧ r.1, r.2)
    | none => opQ P s (.convert src dst x)
  | .call c =>
    match c.callee with
    | .value (.func g) => (extR (extN P g) (stripAll s c.args.toList).2).map fun r => ((stripAll s c.args.toList).1 ∧ r.1, r.2)
    | _ => opQ P s (.call c)
  | op => opQ P s op

theorem opR_sound {P : Program} {B : Base} {s : St} {a : Act} {w : World} {E : Env} {F : Nat → Prop} {op : Op} {ob : Prop} {x : V} (h : opR P s op = some (ob, x)) (hob : ob)
    (hs : Sim B s a w E F) (o : Oper) (ho : o.op = op) : ∃ v, VR E F w x v ∧ ∀ w', Keep w w' → (execOp a.eval o).run P w' = .ok (.value v) w' := by
  unfold opR at h
  split at h
  · rename_i t parts
    obtain ⟨v, h1, h2⟩ := buildQ_sound h hob hs
    exact ⟨v, h1, fun w' _ => by simp [execOp, ho, h2 w']⟩
  · rename_i t x i ok
    simp only [Option.map_eq_some_iff, Prod.exists, Prod.mk.injEq] at h
    obtain ⟨p, y, hq, rfl, rfl⟩ := h
    obtain ⟨r, h1, h2⟩ := lookQ_sound hq hob.2.2 hs.rel (V.strip_sound (ev_sound hs x) hob.1) (V.strip_sound (ev_sound hs i) hob.2.1)
    exact ⟨r, h1, fun w' hk => by simp [execOp, ho, h2 w' hk]⟩
  · rename_i x
    simp only [Option.map_eq_some_iff, Prod.exists, Prod.mk.injEq] at h
    obtain ⟨p, y, hq, rfl, rfl⟩ := h
    obtain ⟨r, h1, h2⟩ := entryOf_sound (P := P) hq hob.2 hs.rel (V.strip_sound (ev_sound hs x) hob.1)
    exact ⟨r, h1, fun w' hk => by simp [execOp, ho, h2 w' hk]⟩
  · rename_i src dst x
    split at h
    · rename_i r hq
      simp only [Option.some.injEq, Prod.mk.injEq] at h
      obtain ⟨rfl, rfl⟩ := h
      obtain ⟨u, h1, h2⟩ := strQ_sound (P := P) hq hob.2 hs.rel.hr hs.rel.lt (V.strip_sound (ev_sound hs x) hob.1)
      exact ⟨u, h1, fun w' hk => by simp [execOp, ho, h2 w' hk]⟩
    · exact opQ_sound h hob hs o ho
  · rename_i c
    split at h
    · rename_i g hcal
      simp only [Option.map_eq_some_iff, Prod.exists, Prod.mk.injEq] at h
      obtain ⟨p, y, hq, rfl, rfl⟩ := h
      obtain ⟨q1, q2⟩ := stripAll_sound hs c.args.toList hob.1
      obtain ⟨v, h1, h2⟩ := extR_sound (cargs := (c.args.map a.eval)) hq hob.2 ⟨by simp [q1], fun j x v hx hv => q2 j x v hx (by simpa using hv)⟩
      refine ⟨v, h1, fun w' _ => ?_⟩
      have hf : a.eval (.func g) = .func (.func g) #[] #[] := rfl
      simp [execOp, ho, resolve, hcal, hf, Deferred.ofValue, invoke, h2]
    · exact opQ_sound h hob hs o ho
  · exact opQ_sound h hob hs o ho

/-- Operations that make or write memory, but calls. -/
def opE (P : Program) (kp : List Nat) (s : St) : Op → Option (Prop × V × St)
  | .alloc t => (kzero P t).map fun zs => (True, .ptr s.heap.length 0 0, { s with heap := s.heap ++ [.cells zs] })
  | .box _ x => some ((s.ev x).flat = true, .ptr s.heap.length 0 0, { s with heap := s.heap ++ [.cells (s.ev x).cellsV] })
  | .buildSlice t n parts =>
    let s' := s.settle (parts.toList.map (·.2))
    if hasNil (parts.toList.map fun p => (p.1, (s'.ev p.2).strip.2)) then (litVQ P s' t n parts).map fun r => (r.1, .ref s'.heap.length 0 n, { s' with heap := s'.heap ++ [.vrs r.2.1 r.2.2] })
    else (sliceLitQ P s' t n parts).map fun r => (r.1, .ref s'.heap.length 0 n, { s' with heap := s'.heap ++ [.data r.2.1 r.2.2] })
  | .makeSlice t l c =>
    match s.ev l, s.ev c with
    | .d (.int _ l), .d (.int _ c) => (makeQ P t l c).map fun r => (r.1, .ref s.heap.length 0 l.toNat, { s with heap := s.heap ++ [.data r.2.1 (List.replicate l.toNat r.2.2)] })
    | _, _ => none
  | .store t p x =>
    let s' := match s.ev p with
      | .ptr id _ _ => match s.heap[id]?.getD .gone with
        | .data _ _ => s.settle [x]
        | _ => s
      | _ => s
    (storeQ P s'.heap t (s'.ev p) (s'.ev x)).map fun r => (r.1, .junk, { s' with heap := r.2 })
  | .call c =>
    match c.callee, c.args.toList, c.argTypes.toList with
    | .builtin .append, [x, y], [t, t2] =>
      match appQ P kp s t t2 (s.ev x) (s.ev y) with
      | some r => some r
      | none => appV P kp s t t2 (s.ev x) (s.ev y)
    | _, _, _ => none
  | .makeMap _ none => some (True, .map s.heap.length, { s with heap := s.heap ++ [.mp []] })
  | .makeMap t (some r) =>
    match s.ev r, kmap P t with
    | .d (.int _ _), some _ => some (True, .map s.heap.length, { s with heap := s.heap ++ [.mp []] })
    | _, _ => none
  | .mapUpdate t m k x => (mputQ P s.heap t (s.ev m) (s.ev k) (s.ev x)).map fun r => (r.1, .junk, { s with heap := r.2 })
  | .insert t m k x => (mputQ P s.heap t (s.ev m) (s.ev k) (s.ev x)).map fun r => (r.1, .junk, { s with heap := r.2 })
  | .mapEntry t m k => (entryQ P s.heap t (s.ev m) (s.ev k)).map fun r => (r.1, r.2.1, { s with heap := r.2.2 })
  | .range t x => rangeQ P s t (s.ev x)
  | .entryStore _ m st x =>
    match s.ev st with
    | .d (.int _ n) => (estoreQ s.heap (s.ev m) n (s.ev x)).map fun r => (r.1, .junk, { s with heap := r.2 })
    | _ => none
  | _ => none

/-- Operations that may write what was there. -/
def kindT : Op → Bool
  | .store .. => true
  | .mapUpdate .. => true
  | .insert .. => true
  | .mapEntry .. => true
  | .entryStore .. => true
  | .next .. => true
  | .call c => match c.callee with
    | .builtin .append => true
    | _ => false
  | _ => false

theorem opE_sound {P : Program} {B : Base} {s s' : St} {a : Act} {w : World} {E : Env} {F : Nat → Prop} {op : Op} {ob : Prop} {x : V} (h : opE P B.keep s op = some (ob, x, s')) (hob : ob)
    (hs : Sim B s a w E F) (o : Oper) (ho : o.op = op) : ∃ r w' E' F', (kindT op = true ∨ Keep w w') ∧ ((execOp a.eval o).run P w = .ok (.value r) w' ∨ ((execOp a.eval o).run P w = .ok .skip w' ∧ r = undef)) ∧ Sim B s' a w' E' F' ∧ VR E' F' w' x r := by
  have ev := ev_sound hs
  unfold opE at h
  split at h
  · rename_i t
    simp only [Option.map_eq_some_iff, Prod.mk.injEq] at h
    obtain ⟨zs, hz, rfl, rfl, rfl⟩ := h
    obtain ⟨z, rfl, hrun⟩ := run_alloc_of hz w
    obtain ⟨h1, h2, h3⟩ := var_rel hs.rel t z.cells (z.cells.toList.map leafConst) (by simp) (zero_get z)
    exact ⟨_, _, _, F, .inr fun b hb => Below.heap_alloc w _ b hb, .inl (by simp [execOp, ho, hrun]), hs.evo h1 h2 rfl, h3⟩
  · rename_i t x
    simp only [Option.some.injEq, Prod.mk.injEq] at h
    obtain ⟨rfl, rfl, rfl⟩ := h
    obtain ⟨c1, c2, c3⟩ := cellsV_sound (ev x) hob
    obtain ⟨h1, h2, h3⟩ := var_rel hs.rel t (a.eval x).cells (s.ev x).cellsV c1 c2
    exact ⟨_, _, _, F, .inr fun b hb => Below.heap_alloc w _ b hb, .inl (by simp [execOp, ho, run_box_of]), hs.evo h1 h2 rfl, h3⟩
  · rename_i t n parts
    obtain ⟨F1, hs1⟩ := settle_sim (parts.toList.map (·.2)) s F hs
    dsimp only at h
    split at h
    · simp only [Option.map_eq_some_iff, Prod.exists, Prod.mk.injEq] at h
      obtain ⟨p, k, rows, hq, rfl, rfl, rfl⟩ := h
      obtain ⟨v, w', hrun, hkw, E', h1, h2, h3⟩ := litV_sound hq hob hs1
      exact ⟨v, w', E', F1, .inr hkw, .inl (by simp [execOp, ho, hrun]), hs1.evo h1 h2 rfl, h3⟩
    · simp only [Option.map_eq_some_iff, Prod.exists, Prod.mk.injEq] at h
      obtain ⟨p, k, rows, hq, rfl, rfl, rfl⟩ := h
      obtain ⟨v, w', hrun, hkw, E', h1, h2, h3⟩ := sliceLit_sound hq hob hs1
      exact ⟨v, w', E', F1, .inr hkw, .inl (by simp [execOp, ho, hrun]), hs1.evo h1 h2 rfl, h3⟩
  · rename_i t l c
    split at h
    · rename_i k1 l' k2 c' hl hc
      simp only [Option.map_eq_some_iff, Prod.exists, Prod.mk.injEq] at h
      obtain ⟨p, k, ds, hq, rfl, rfl, rfl⟩ := h
      have e1 := ev l
      have e2 := ev c
      rw [hl] at e1
      rw [hc] at e2
      obtain ⟨v, w', hrun, hkw, E', h1, h2, h3⟩ := make_sound k1 k2 hq hob hs
      exact ⟨v, w', E', F, .inr hkw, .inl (by simp [execOp, ho, int_of e1, int_of e2, hrun]), hs.evo h1 h2 rfl, h3⟩
    · cases h
  · rename_i t p x
    have key : ∀ s1 F1, Sim B s1 a w E F1 → (storeQ P s1.heap t (s1.ev p) (s1.ev x)).map (fun r => (r.1, V.junk, { s1 with heap := r.2 })) = some (ob, ‹V›, s') →
        ∃ r w' E' F', (kindT (.store t p x) = true ∨ Keep w w') ∧ ((execOp a.eval o).run P w = .ok (.value r) w' ∨ ((execOp a.eval o).run P w = .ok .skip w' ∧ r = undef)) ∧ Sim B s' a w' E' F' ∧ VR E' F' w' ‹V› r := by
      intro s1 F1 hs1 h
      simp only [Option.map_eq_some_iff, Prod.exists, Prod.mk.injEq] at h
      obtain ⟨p', H', hq, rfl, rfl, rfl⟩ := h
      obtain ⟨w', hrun, h1, h2⟩ := storeQ_sound hq hob hs1.rel (ev_sound hs1 p) (ev_sound hs1 x)
      exact ⟨undef, w', E, F1, .inl rfl, .inr ⟨by simp [execOp, ho, hrun], rfl⟩, hs1.evo h1 h2 rfl, .junk _⟩
    dsimp only at h
    split at h
    · split at h
      · obtain ⟨F1, hs1⟩ := settle_sim [x] s F hs
        exact key _ F1 hs1 h
      · exact key _ F hs h
    · exact key _ F hs h
  · rename_i c
    split at h
    · rename_i x y t t2 hc ha ht
      obtain ⟨r, w', E', hrun, h1, h2⟩ : ∃ r w' E', (Builtin.append_ #[t, t2] o.type #[a.eval x, a.eval y]).run P w = .ok r w' ∧ Sim B s' a w' E' F ∧ VR E' F w' ‹V› r := by
        split at h
        · rename_i r hq
          cases h
          exact appQ_sound (ty := o.type) hq hob hs (ev x) (ev y)
        · exact appV_sound (ty := o.type) h hob hs (ev x) (ev y)
      refine ⟨r, w', E', F, .inl (by simp [kindT, hc]), .inl ?_, h1, h2⟩
      obtain ⟨callee, args, ts⟩ := c
      obtain ⟨args⟩ := args
      obtain ⟨ts⟩ := ts
      simp only at hc ha ht
      subst hc ha ht
      simp [execOp, ho, resolve, invoke, builtin, hrun]
    · cases h
  · rename_i t
    simp only [Option.some.injEq, Prod.mk.injEq] at h
    obtain ⟨rfl, rfl, rfl⟩ := h
    obtain ⟨h1, h2, h3⟩ := map_rel hs.rel
    exact ⟨_, _, _, F, .inr fun b hb => Below.heap_alloc w _ b hb, .inl (by simp [execOp, ho, run_makeMap]), hs.evo h1 h2 rfl, h3⟩
  · rename_i t r
    split at h
    · rename_i k n kt hr hm
      simp only [Option.some.injEq, Prod.mk.injEq] at h
      obtain ⟨rfl, rfl, rfl⟩ := h
      obtain ⟨h1, h2, h3⟩ := map_rel hs.rel
      have e1 := ev r
      rw [hr] at e1
      have hrun : (Instr.makeMap t (some (.int k n))).run P w = .ok (.map (some w.heap.size)) (w.alloc (.map #[] 0)) := by
        obtain ⟨k1, k2⟩ := kt
        simp [Instr.makeMap, run_underlying (kmap_spec hm), Result.andThen, asInt, asIntOf]
      exact ⟨_, _, _, F, .inr fun b hb => Below.heap_alloc w _ b hb, .inl (by simp [execOp, ho, int_of e1, hrun]), hs.evo h1 h2 rfl, h3⟩
    · cases h
  · rename_i t m k x
    simp only [Option.map_eq_some_iff, Prod.exists, Prod.mk.injEq] at h
    obtain ⟨p', H', hq, rfl, rfl, rfl⟩ := h
    obtain ⟨w', hrun, h1, h2⟩ := mputQ_sound hq hob hs.rel (ev m) (ev k) (ev x)
    exact ⟨undef, w', E, F, .inl rfl, .inr ⟨by simp [execOp, ho, hrun], rfl⟩, hs.evo h1 h2 rfl, .junk _⟩
  · rename_i t m k x
    simp only [Option.map_eq_some_iff, Prod.exists, Prod.mk.injEq] at h
    obtain ⟨p', H', hq, rfl, rfl, rfl⟩ := h
    obtain ⟨w', hrun, h1, h2⟩ := mputQ_sound hq hob hs.rel (ev m) (ev k) (ev x)
    exact ⟨undef, w', E, F, .inl rfl, .inr ⟨by simp [execOp, ho, hrun], rfl⟩, hs.evo h1 h2 rfl, .junk _⟩
  · rename_i t m k
    simp only [Option.map_eq_some_iff, Prod.exists, Prod.mk.injEq] at h
    obtain ⟨p', y, H', hq, rfl, rfl, rfl⟩ := h
    obtain ⟨r, w', hrun, h1, h2, h3⟩ := entryQ_sound hq hob hs.rel (ev m) (ev k)
    exact ⟨r, w', E, F, .inl rfl, .inl (by simp [execOp, ho, hrun]), hs.evo h1 h2 rfl, h3⟩
  · rename_i t x
    obtain ⟨r, w', E', hrun, hk, h1, h2, h3, h4⟩ := rangeQ_sound h hs.rel (ev x)
    exact ⟨r, w', E', F, .inr hk, .inl (by simp [execOp, ho, hrun]), hs.evo h1 h2 h4, h3⟩
  · rename_i t m st x
    split at h
    · rename_i kd n hst
      simp only [Option.map_eq_some_iff, Prod.exists, Prod.mk.injEq] at h
      obtain ⟨p', H', hq, rfl, rfl, rfl⟩ := h
      have e1 := ev st
      rw [hst] at e1
      obtain ⟨w', hrun, h1, h2⟩ := estoreQ_sound (P := P) (t := t) kd hq hob hs.rel (ev m) (ev x)
      exact ⟨undef, w', E, F, .inl rfl, .inr ⟨by simp [execOp, ho, int_of e1, hrun], rfl⟩, hs.evo h1 h2 rfl, .junk _⟩
    · cases h
  · cases h

/-- Is the operation's guard met? -/
def St.guardOf (s : St) (ops : Array Oper) (o : Oper) : Option Bool :=
  match o.guard with
  | none => some true
  | some (j, want) =>
    match (ops[j]?).bind (·.dst) with
    | some d => match tget s.tm d with
      | some (.d (.bool b)) => some (b == want)
      | some (.opt g (.d (.bool b))) => some (g && (b == want))
      | _ => none
    | none => none

theorem guardOf_sound {B : Base} {s : St} {a : Act} {w : World} {E : Env} {F : Nat → Prop} {ops : Array Oper} {o : Oper} {g : Bool} (hs : Sim B s a w E F) (h : s.guardOf ops o = some g) :
    Region.wanted o (yielded ops a.tmps) = g := by
  unfold St.guardOf at h
  unfold Region.wanted
  split at h
  · rename_i hg
    simp at h
    subst h
    rw [hg]
  · rename_i j want hg
    rw [hg]
    dsimp only
    split at h
    · rename_i d hd
      unfold yielded
      rw [hd]
      split at h
      · rename_i b hb
        simp at h
        obtain ⟨v, hv, hr⟩ := hs.tm d _ hb
        have hv' : a.tmps[d]? = some (.bool b) := by rw [hv, bool_of hr]
        simp only [Option.bind_some, hv']
        rw [← h]
        cases b <;> cases want <;> rfl
      · rename_i g' b hb
        simp at h
        obtain ⟨v, hv, hr⟩ := hs.tm d _ hb
        cases hr with
        | opt _ _ _ h1 h2 =>
          cases g' with
          | true =>
            have hv' : a.tmps[d]? = some (.bool b) := by rw [hv, bool_of (h1 rfl)]
            simp only [Option.bind_some, hv']
            rw [← h]
            cases b <;> cases want <;> rfl
          | false =>
            have hv' : a.tmps[d]? = some undef := by rw [hv, h2 rfl]
            simp only [Option.bind_some, hv', undef]
            rw [← h]
            cases want <;> rfl
      · cases h
    · cases h

/-- The target of a call and its arguments, as operands' values. -/
def callT (s : St) (c : Call) : Option (Prop × FuncId × List V) :=
  match c.callee with
  | .value f =>
    match (s.ev f).strip.2 with
    | .d (.fn (.func g) caps) => some ((s.ev f).strip.1 ∧ (stripAll s c.args.toList).1, g, (stripAll s c.args.toList).2 ++ caps.map .d)
    | .fn (.func g) caps => some ((s.ev f).strip.1 ∧ (stripAll s c.args.toList).1, g, (stripAll s c.args.toList).2 ++ caps)
    | _ => none
  | _ => none

def callOps (c : Call) : List Operand :=
  match c.callee with
  | .value f => c.args.toList ++ [f]
  | _ => []

/-- A call over data: what is asked of the callee, and what goes on. -/
def CallD (P : Program) (g : Bool) (guarded : Bool) (f : FuncId) (args : List D) (K : V → List Blk → Prop) : Prop :=
  (g = true ∧ ∃ R : V → List Blk → Prop, PC P f args R ∧ ∀ x H, R x H → K x H) ∨
  (guarded = true ∧ ∃ x0 : V, (g = true → PC P f args fun x H => x = x0 ∧ H = []) ∧ K (.opt g x0) [])

theorem CallD.det {P : Program} {gd : Bool} {f : FuncId} {args : List D} {x0 : V} {H0 : List Blk} {K : V → List Blk → Prop} (h : PC P f args fun x H => x = x0 ∧ H = H0) (hk : K x0 H0) : CallD P true gd f args K :=
  .inl ⟨rfl, _, h, fun x H ⟨h1, h2⟩ => by subst h1 h2; exact hk⟩
theorem CallD.rel {P : Program} {gd : Bool} {f : FuncId} {args : List D} {R : V → List Blk → Prop} {K : V → List Blk → Prop} (h : PC P f args R) (hk : ∀ x H, R x H → K x H) : CallD P true gd f args K :=
  .inl ⟨rfl, R, h, hk⟩
theorem CallD.grd {P : Program} {g : Bool} {f : FuncId} {args : List D} {x0 : V} {K : V → List Blk → Prop} (h : g = true → PC P f args fun x H => x = x0 ∧ H = []) (hk : K (.opt g x0) []) : CallD P g true f args K :=
  .inr ⟨rfl, x0, h, hk⟩

/-- What stands for the yield of an operation that is not carried out. -/
def V.off : V → V
  | .ref _ _ _ => .d (.sl [])
  | .ptr _ _ _ => .d .nilptr
  | x => x

/-- What stands for the yield of an operation that is not carried out, by its type. -/
def dfl (P : Program) (t : TypeId) : V := (kzeroV P t).getD .junk
/-- An operation that nothing is known of: it is not carried out. -/
def offVC (P : Program) (o : Oper) (g : Bool) (s : St) (K : St → Prop) : Prop :=
  match g with
  | false => K (s.put o.dst (.opt false (dfl P o.type)))
  | true => False

theorem offVC.imp {P : Program} {o : Oper} {g : Bool} {s : St} {K K' : St → Prop} (h : offVC P o g s K) (hk : ∀ t, K t → K' t) : offVC P o g s K' := by
  cases g with
  | false => exact hk _ h
  | true => exact h.elim

/-- A slice against nil: what the answer is where it is nil. -/
def nilCmp : BinOp → Operand → Option Bool
  | .eql, .const (.slice none 0 0) => some true
  | .neq, .const (.slice none 0 0) => some false
  | _, _ => none
def nilLen (P : Program) (t : TypeId) : V → Option Nat
  | .d (.sl rows) => if ksl P t then some rows.length else none
  | .ref _ _ n => if ksl P t then some n else none
  | .nil => if ksl P t then some 0 else none
  | _ => none
def nilQ (P : Program) (t : TypeId) (q : Option Bool) (x : V) : Option (Bool × Nat) :=
  match q with
  | some b => (nilLen P t x).map fun n => (b, n)
  | none => none
/-- A slice is not nil; one without elements may be. -/
def nilVC (P : Program) (o : Oper) (q : Option (Bool × Nat)) (p : Prop) (g : Bool) (s : St) (K : St → Prop) : Prop :=
  match q, g with
  | some (b, n), true => p ∧ K (s.put o.dst (.d (.bool (!b)))) ∧ (n = 0 → K (s.put o.dst (.d (.bool b))))
  | _, _ => offVC P o g s K

theorem nilVC.imp {P : Program} {o : Oper} {q : Option (Bool × Nat)} {p : Prop} {g : Bool} {s : St} {K K' : St → Prop} (h : nilVC P o q p g s K) (hk : ∀ t, K t → K' t) : nilVC P o q p g s K' := by
  cases q with
  | none => exact offVC.imp h hk
  | some q => obtain ⟨b, n⟩ := q; cases g with
    | false => exact offVC.imp (show offVC P o false s K from h) hk
    | true => exact ⟨h.1, hk _ h.2.1, fun h0 => hk _ (h.2.2 h0)⟩

theorem nilQ_sound {P : Program} {E : Env} {F : Nat → Prop} {w : World} {op : BinOp} {t : TypeId} {x : V} {y : Operand} {b : Bool} {n : Nat} {v : Value} (h : nilQ P t (nilCmp op y) x = some (b, n)) (hx : VR E F w x v) :
    ∃ r, (r = !b ∨ (n = 0 ∧ r = b)) ∧ ∀ (a : Act) (xo : Operand) (w' : World), (eqGuard op t xo y v (a.eval y)).run P w' = .ok () w' ∧ (binOp op t v (a.eval y)).run P w' = .ok (.bool r) w' := by
  unfold nilQ at h
  split at h
  · rename_i b' hb
    simp only [Option.map_eq_some_iff, Prod.mk.injEq] at h
    obtain ⟨m, hm, rfl, rfl⟩ := h
    have key : ∃ (ad : Option Addr) (l c : Nat), v = .slice ad l c ∧ ksl P t = true ∧ (ad = none → m = 0) := by
      unfold nilLen at hm
      split at hm
      · split at hm
        · rename_i hk
          cases hm
          cases hx with
          | d _ _ hd => cases hd with
            | sl0 a c => exact ⟨a, 0, c, rfl, hk, fun _ => rfl⟩
            | sl b off cap k rows c _ _ _ _ _ => exact ⟨_, _, _, rfl, hk, fun h => by cases h⟩
        · cases hm
      · rename_i id off len
        split at hm
        · rename_i hk
          cases hm
          cases hx with
          | ref _ _ _ b k m' a cap n hE hm' ha hl hb hc =>
            refine ⟨a, _, _, rfl, hk, fun h => ?_⟩
            refine Nat.eq_zero_of_not_pos fun h0 => ?_
            rw [ha (.inl h0)] at h; cases h
          | refv id k m a hE => exact ⟨a, _, _, rfl, hk, fun _ => rfl⟩
        · cases hm
      · split at hm
        · rename_i hk
          cases hm
          cases hx with
          | nil a => exact ⟨a, _, _, rfl, hk, fun _ => rfl⟩
        · cases hm
      · cases hm
    obtain ⟨ad, l, c, rfl, hk, hn⟩ := key
    obtain ⟨e, hu⟩ := ksl_spec hk
    unfold nilCmp at hb
    split at hb
    · cases hb
      refine ⟨ad.isNone, ?_, fun a xo w' => ?_⟩
      · cases ad with
        | none => exact .inr ⟨hn rfl, rfl⟩
        | some _ => exact .inl rfl
      · have := Lib.run_eql_slice_nil w' t e ad l c 0 0 hu
        exact ⟨by simp [eqGuard, Act.eval], this⟩
    · cases hb
      refine ⟨!ad.isNone, ?_, fun a xo w' => ?_⟩
      · cases ad with
        | none => exact .inr ⟨hn rfl, rfl⟩
        | some _ => exact .inl rfl
      · have := Go.run_neq_slice_nil_any w' t e ad l c 0 0 hu
        exact ⟨by simp [eqGuard, Act.eval], this⟩
    · cases hb
  · cases h

/-- **One operation.** -/
def OpVC (P : Program) (kp : List Nat) (ops : Array Oper) (o : Oper) (s : St) (K : St → Prop) : Prop :=
  match s.guardOf ops o with
  | none => False
  | some g =>
    match opR P s o.op with
    | some (ob, x) => (g = true → ob ∧ (o.guard.isSome = true → x.strip.1)) ∧ K (s.put o.dst (if o.guard.isSome then .opt g x.strip.2 else x))
    | none =>
      match opE P kp s o.op with
      | some (ob, x, s') => match g with
        | true => ob ∧ K (s'.put o.dst x)
        | false => K (s.put o.dst (.opt false x.off))
      | none =>
        match o.op with
        | .call c =>
          let s' := s.settle (callOps c)
          match callT s' c with
          | some (p, f, args) =>
            match dVs args with
            | some ds => (g = true → p) ∧ CallD P g o.guard.isSome f ds fun x H => K ({ s' with heap := s'.heap ++ heapSh s'.heap.length H }.put o.dst (x.sh s'.heap.length))
            | none => offVC P o g s K
          | none => offVC P o g s K
        | .next x false =>
          match nextQ s.heap (s.ev x).strip.2 with
          | some (id, mv, seen, n, es) => g = true ∧ (s.ev x).strip.1 ∧ n = es.length ∧ ((∀ j, j < es.length → j ∈ seen) → K (s.put o.dst (.tup [.d (.bool false)]))) ∧
              ∀ j p, es[j]? = some p → j ∉ seen → K ({ s with heap := s.heap.set id (.it mv (seen ++ [j]) n) }.put o.dst (.tup [.d (.bool true), p.1, p.2]))
          | none => offVC P o g s K
        | .binOp op t x y _ => nilVC P o (nilQ P t (nilCmp op y) (s.ev x).strip.2) (s.ev x).strip.1 g s K
        | _ => offVC P o g s K

theorem Sim.put {B : Base} {s : St} {a : Act} {w : World} {E : Env} {F : Nat → Prop} (hs : Sim B s a w E F) {dst : Option Tmp} {x : V} {v : Value} (hx : VR E F w x v)
    (hd : ∀ d, dst = some d → d < a.tmps.size) : Sim B (s.put dst x) (a.put dst v) w E F := by
  cases dst with
  | none => exact hs
  | some d =>
    have hh : (s.put (some d) x).heap = s.heap := rfl
    refine ⟨⟨hs.rel.os, hs.rel.tape, hs.rel.output, hs.rel.size, hs.rel.F0, hs.rel.only, hs.rel.same, hs.rel.lt, hs.rel.hr, hs.rel.src, hs.rel.keep, hs.rel.sz⟩, hs.defers, fun i y hy => ?_⟩
    simp only [St.put, tget_tput] at hy
    have hlt := hd d rfl
    simp only [Act.put]
    by_cases hi : i = d
    · subst hi
      simp at hy
      subst hy
      exact ⟨v, by simp [hlt], hx⟩
    · rw [if_neg hi] at hy
      obtain ⟨u, hu, hr⟩ := hs.tm i y hy
      exact ⟨u, by rw [Array.getElem?_setIfInBounds_ne (Ne.symm hi)]; exact hu, hr⟩

/-- Operations that only compute or read. -/
def kindQ : Op → Bool
  | .alloc _ => false
  | .makeMap .. => false
  | .mapUpdate .. => false
  | .insert .. => false
  | .mapEntry .. => false
  | .entryStore .. => false
  | .range .. => false
  | .next .. => false
  | .box .. => false
  | .buildSlice .. => false
  | .makeSlice .. => false
  | .store .. => false
  | .call c => match c.callee with
    | .builtin .len => true
    | .builtin .max => true
    | .builtin .min => true
    | _ => false
  | _ => true

theorem opE_kind {P : Program} {kp : List Nat} {s : St} {op : Op} {r : Prop × V × St} (h : opE P kp s op = some r) : kindQ op = false := by
  unfold opE at h
  split at h <;> first | rfl | skip
  · split at h
    · rename_i hc _ _; simp [kindQ, hc]
    · cases h
  · cases h

/-- What the operation does in the model. 'quiet': it only computes or reads, or is not carried out. -/
theorem op_sound {P : Program} {B : Base} {s : St} {a : Act} {w : World} {E : Env} {F : Nat → Prop} {ops : Array Oper} {o : Oper} {K : St → Prop} {Q : Exit → Act → World → Prop}
    (hs : Sim B s a w E F) (hd : ∀ d, o.dst = some d → d < a.tmps.size) (h : OpVC P B.keep ops o s K) :
    (∃ v s', K s' ∧ Sim B s' (a.put o.dst v) w E F ∧ ((Region.wanted o (yielded ops a.tmps) = true ∧ ∀ w', Keep w w' → (execOp a.eval o).run P w' = .ok (.value v) w') ∨ (Region.wanted o (yielded ops a.tmps) = false ∧ v = undef))) ∨
    (kindQ o.op = false ∧
      ((Region.wanted o (yielded ops a.tmps) = true ∧ o.wp P a w (fun a' w' => (kindT o.op = true ∨ Keep w w') ∧ ∃ v s' E' F', a' = a.put o.dst v ∧ K s' ∧ Sim B s' a' w' E' F') Q) ∨
       (Region.wanted o (yielded ops a.tmps) = false ∧ ∃ s' F', K s' ∧ Sim B s' (a.put o.dst undef) w E F'))) := by
  unfold OpVC at h
  split at h
  · exact h.elim
  rename_i g hg
  have hw := guardOf_sound hs hg
  split at h
  · rename_i ob x hq
    obtain ⟨h1, h2⟩ := h
    refine .inl ?_
    cases g with
    | true =>
      obtain ⟨v, hv, hrun⟩ := opR_sound hq (h1 rfl).1 hs o rfl
      refine ⟨v, _, h2, Sim.put hs ?_ hd, .inl ⟨hw, hrun⟩⟩
      split
      · exact .opt _ _ _ (fun _ => V.strip_sound hv ((h1 rfl).2 (by assumption))) (by simp)
      · exact hv
    | false =>
      refine ⟨undef, _, h2, Sim.put hs ?_ hd, .inr ⟨hw, rfl⟩⟩
      split
      · exact .opt _ _ _ (by simp) (fun _ => rfl)
      · rename_i hn
        unfold St.guardOf at hg
        cases hgd : o.guard with
        | none => rw [hgd] at hg; simp at hg
        | some p => rw [hgd] at hn; simp at hn
  · rename_i hq
    split at h
    · rename_i ob x s' he
      refine .inr ⟨opE_kind he, ?_⟩
      cases g with
      | false => exact .inr ⟨hw, _, F, h, Sim.put hs (.opt _ _ _ (by simp) (fun _ => rfl)) hd⟩
      | true =>
      obtain ⟨h1, h2⟩ := h
      refine .inl ⟨hw, ?_⟩
      obtain ⟨r, w', E', F', hkk, hrun, hs', hx⟩ := opE_sound he h1 hs o rfl
      unfold Oper.wp
      rcases hrun with hrun | ⟨hrun, rfl⟩
      · rw [hrun]
        exact ⟨hkk, r, _, E', F', rfl, h2, Sim.put hs' hx hd⟩
      · rw [hrun]
        exact ⟨hkk, undef, _, E', F', rfl, h2, Sim.put hs' hx hd⟩
    · rename_i he
      have off : offVC P o g s K → (∃ v s', K s' ∧ Sim B s' (a.put o.dst v) w E F ∧ ((Region.wanted o (yielded ops a.tmps) = true ∧ ∀ w', Keep w w' → (execOp a.eval o).run P w' = .ok (.value v) w') ∨ (Region.wanted o (yielded ops a.tmps) = false ∧ v = undef))) ∨
          (kindQ o.op = false ∧
            ((Region.wanted o (yielded ops a.tmps) = true ∧ o.wp P a w (fun a' w' => (kindT o.op = true ∨ Keep w w') ∧ ∃ v s' E' F', a' = a.put o.dst v ∧ K s' ∧ Sim B s' a' w' E' F') Q) ∨
             (Region.wanted o (yielded ops a.tmps) = false ∧ ∃ s' F', K s' ∧ Sim B s' (a.put o.dst undef) w E F'))) := fun h => by
        cases g with
        | true => exact h.elim
        | false => exact .inl ⟨undef, _, h, Sim.put hs (.opt _ _ _ (by simp) (fun _ => rfl)) hd, .inr ⟨hw, rfl⟩⟩
      split at h
      · rename_i c hc
        dsimp only at h
        obtain ⟨F1, hs1⟩ := settle_sim (callOps c) s F hs
        generalize s.settle (callOps c) = s1 at h hs1
        split at h
        · rename_i p f args hT
          split at h
          · rename_i ds hds
            refine .inr ⟨by rw [hc]; unfold callT at hT; cases hcc : c.callee <;> simp_all [kindQ], ?_⟩
            obtain ⟨hp, h⟩ := h
            -- the model's target
            have hrun : ∀ R, PC P f ds R → p → ∃ cargs, (execOp a.eval o).run P w = .ok (.enter f cargs) w ∧ CR [] F1 w (ds.map ofD) cargs := by
              intro R hpc hp
              obtain ⟨fn, hfn, hnm, hbd⟩ := hpc.1
              have hcf : ∀ cargs, (callFunc f cargs).run P w = .ok (.enter f cargs) w := fun cargs => by
                simp only [callFunc, Sem.run_bind, run_program, Result.andThen_ok, hfn, hnm, hbd, Bool.false_eq_true, if_false]
                rfl
              unfold callT at hT
              split at hT
              · rename_i fo hcal
                have fin : ∀ (caps : List V) (cv : Array Value), a.eval fo = .func (.func f) #[] cv → cv.size = caps.length →
                    (∀ (j : Nat) (x : V) (v : Value), caps[j]? = some x → cv[j]? = some v → VR E F1 w x v) → (stripAll s1 c.args.toList).1 → args = (stripAll s1 c.args.toList).2 ++ caps →
                    ∃ cargs, (execOp a.eval o).run P w = .ok (.enter f cargs) w ∧ CR [] F1 w (ds.map ofD) cargs := by
                  intro caps cv hf hcs hcr hst hargs
                  subst hargs
                  obtain ⟨q1, q2⟩ := stripAll_sound hs1 c.args.toList hst
                  refine ⟨(c.args.map a.eval) ++ cv, ?_, ?_⟩
                  · simp [execOp, hc, resolve, hcal, hf, Deferred.ofValue, invoke, hcf]
                  · have := dVs_sound (E := E) (E' := []) (F := F1) (w := w) (vs := c.args.toList.map a.eval ++ cv.toList) hds (by simp [q1, hcs]) (fun j x v hx hv => by
                      rw [List.getElem?_append] at hx hv
                      rw [q1] at hx
                      simp only [List.length_map] at hv
                      split at hx
                      · rename_i hj
                        rw [if_pos hj] at hv
                        exact q2 j x v hx hv
                      · rename_i hj
                        rw [if_neg hj] at hv
                        exact hcr _ x v hx (by simpa using hv))
                    have e : (c.args.toList.map a.eval ++ cv.toList).toArray = c.args.map a.eval ++ cv := by
                      apply Array.ext'; simp
                    rwa [e] at this
                have e0 := ev_sound hs1 fo
                split at hT
                · rename_i f' caps hfo
                  simp only [Option.some.injEq, Prod.mk.injEq] at hT
                  obtain ⟨rfl, rfl, rfl⟩ := hT
                  have e1 := V.strip_sound e0 hp.1
                  rw [hfo] at e1
                  generalize hv : a.eval fo = v at e1
                  cases e1 with
                  | d _ _ hd' =>
                    cases hd' with
                    | fn _ _ cs hss hrr =>
                      refine fin (caps.map .d) cs hv (by simpa using hss) (fun j x v hx hv => ?_) hp.2 rfl
                      simp only [List.getElem?_map, Option.map_eq_some_iff] at hx
                      obtain ⟨y, hy, rfl⟩ := hx
                      exact .d _ _ (hrr j y v hy hv)
                · rename_i f' caps hfo
                  simp only [Option.some.injEq, Prod.mk.injEq] at hT
                  obtain ⟨rfl, rfl, rfl⟩ := hT
                  have e1 := V.strip_sound e0 hp.1
                  rw [hfo] at e1
                  generalize hv : a.eval fo = v at e1
                  cases e1 with
                  | fn _ _ cs hss hrr => exact fin caps cs hv hss hrr hp.2 rfl
                · cases hT
              · cases hT
            have go : ∀ R, PC P f ds R → p → ∀ (x1 : V → V), (∀ x H, R x H → K ({ s1 with heap := s1.heap ++ heapSh s1.heap.length H }.put o.dst ((x1 x).sh s1.heap.length))) →
                (∀ x E F w v, VR E F w x v → VR E F w (x1 x) v) → Region.wanted o (yielded ops a.tmps) = true →
                o.wp P a w (fun a' w' => (kindT o.op = true ∨ Keep w w') ∧ ∃ v s' E' F', a' = a.put o.dst v ∧ K s' ∧ Sim B s' a' w' E' F') Q := by
              intro R hpc hp x1 hK hx1 hwt
              obtain ⟨cargs, hrun, hcr⟩ := hrun R hpc hp
              have hcalls := hpc.2 w cargs [] F1 ⟨rfl, by simp, by simp, by simp⟩ hs1.rel.lt (by simp) hcr
              unfold Oper.wp
              rw [hrun]
              refine hcalls.mono ?_
              rintro e w' ⟨v, x, H', E', F', rfl, hR, hrel, hx⟩
              obtain ⟨m1, m2, m3⟩ := merge hs1 hrel hx
              refine ⟨.inr m3, v, _, E ++ E', F', rfl, hK x H' hR, Sim.put m1 ?_ hd⟩
              have := hx1 x E' F' w' v hx
              obtain ⟨_, m4, _⟩ := merge hs1 hrel this
              exact m4
            rcases h with ⟨rfl, R, hpc, hK⟩ | ⟨hgd, x0, hpc, hK⟩
            · exact .inl ⟨hw, go R hpc (hp rfl) id hK (fun _ _ _ _ _ h => h) hw⟩
            · cases g with
              | true =>
                refine .inl ⟨hw, go _ (hpc rfl) (hp rfl) (.opt true) ?_ (fun x E F w v h => .opt _ _ _ (fun _ => h) (by simp)) hw⟩
                rintro x H ⟨rfl, rfl⟩
                exact hK
              | false =>
                refine .inr ⟨hw, _, F1, hK, ?_⟩
                refine Sim.put (s := { s1 with heap := s1.heap ++ heapSh s1.heap.length [] }) ?_ (.opt _ _ _ (by simp) (fun _ => rfl)) hd
                simpa [heapSh] using hs1
          · exact off h
        · exact off h
      · rename_i x hc
        split at h
        · rename_i id mv seen n es hnx
          refine .inr ⟨by rw [hc]; rfl, .inl ?_⟩
          obtain ⟨rfl, hp, hn, hend, hmore⟩ := h
          refine ⟨hw, ?_⟩
          have hx := V.strip_sound (ev_sound hs x) hp
          unfold Oper.wp
          rcases nextQ_sound (P := P) o.type hnx hn hs.rel hx with ⟨g1, g2⟩ | ⟨j, p, hj, hns, r, w', hrun, h1, h2, h3⟩
          · have hrun : (execOp a.eval o).run P w = .ok (.value (.tuple #[.bool false])) w := by simp [execOp, hc, g2]
            rw [hrun]
            refine ⟨.inr (Keep.refl w), _, _, E, F, rfl, hend g1, Sim.put hs ?_ hd⟩
            refine .tup _ _ rfl fun j u v hu hv => ?_
            match j with
            | 0 => simp at hu hv; subst hu hv; exact .d _ _ (.bool false)
            | j + 1 => simp at hu
          · have hrun : (execOp a.eval o).run P w = .ok (.value r) w' := by simp [execOp, hc, hrun]
            rw [hrun]
            exact ⟨.inl (by rw [hc]; rfl), _, _, E, F, rfl, hmore j p hj hns, Sim.put (hs.evo h1 h2 rfl) h3 hd⟩
        · exact off h
      · rename_i op t x y t2 hc
        cases hq : nilQ P t (nilCmp op y) (s.ev x).strip.2 with
        | none => rw [hq] at h; exact off h
        | some q =>
          rw [hq] at h
          obtain ⟨b, n⟩ := q
          cases g with
          | false => exact off h
          | true =>
            obtain ⟨hp, h1, h2⟩ := h
            obtain ⟨r, hr, hrun⟩ := nilQ_sound hq (V.strip_sound (ev_sound hs x) hp)
            refine .inl ⟨.bool r, s.put o.dst (.d (.bool r)), ?_, Sim.put hs (.d _ _ (.bool r)) hd, .inl ⟨hw, fun w' _ => by simp [execOp, hc, (hrun a x w').1, (hrun a x w').2]⟩⟩
            rcases hr with rfl | ⟨h0, rfl⟩
            · exact h1
            · exact h2 h0
      · exact off h

end Go.Aw
