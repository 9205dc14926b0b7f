/-
  The operations that only compute or read yield what 'opQ' says: arithmetic; and all of them together. Over any program; no condition.
-/
import Derived.Test.YtmmnjelmahcbaaaAwE
namespace Go.Aw
set_option linter.unusedSimpArgs false
set_option linter.unusedVariables false
open Go.RowKit

theorem arith_sound {P : Program} {F : Nat → Prop} {w : World} {op : BinOp} {x y z : D} {ob : Prop} {v u : Value} (h : arith op x y = some (ob, z)) (hob : ob)
    (hx : RD F w x v) (hy : RD F w y u) : ∃ r, RD F w z r ∧ ∀ (t : TypeId) (xo yo : Operand) (w' : World), ((do eqGuard op t xo yo v u; binOp op t v u) : Sem Value).run P w' = .ok r w' := by
  unfold arith at h
  split at h <;> simp only [Option.some.injEq, Prod.mk.injEq, reduceCtorEq] at h <;> obtain ⟨rfl, rfl⟩ := h <;> cases hx <;> cases hy
  case h_4 => exact ⟨_, .int _ _, fun t xo yo w' => by obtain ⟨rfl, h⟩ := hob; simp [eqGuard_at_int, binOp, Op.intDiv, h]⟩
  case h_5 => exact ⟨_, .int _ _, fun t xo yo w' => by obtain ⟨rfl, h⟩ := hob; simp [eqGuard_at_int, binOp, Op.intDiv, h]⟩
  case h_6 => exact ⟨_, .int _ _, fun t xo yo w' => by obtain ⟨h0, h1⟩ := hob; simp [eqGuard_at_int, binOp_shr, shift_shr _ _ _ _ h0 h1]⟩
  case h_7 => exact ⟨_, .int _ _, fun t xo yo w' => by obtain ⟨h0, h1⟩ := hob; simp [eqGuard_at_int, binOp_shl, shift_shl _ _ _ _ h0 h1]⟩
  case h_8 => exact ⟨_, .int _ _, fun t xo yo w' => by subst hob; simp [eqGuard_at_int, binOp_and, intBits_and]⟩
  case h_9 => exact ⟨_, .int _ _, fun t xo yo w' => by subst hob; simp [eqGuard_at_int, binOp_or, intBits_or]⟩
  case h_10 => exact ⟨_, .int _ _, fun t xo yo w' => by subst hob; simp [eqGuard_at_int, binOp_xor, intBits_xor]⟩
  case h_17 => exact ⟨_, .bool _, fun t xo yo w' => by simp [eqGuard_at_string, binOp, Op.stringOp, beq_toListBytes]⟩
  case h_18 => exact ⟨_, .bool _, fun t xo yo w' => by simp [eqGuard_at_string, binOp, Op.stringOp, bne, beq_toListBytes]⟩
  case h_19 => exact ⟨_, .str _, fun t xo yo w' => by simp [eqGuard_at_string, binOp, Op.stringOp]; omega⟩
  case h_20 => exact ⟨_, .bool _, fun t xo yo w' => by simp [eqGuard_at_string, binOp, Op.stringOp]⟩
  case h_21 => exact ⟨_, .bool _, fun t xo yo w' => by simp [eqGuard_at_string, binOp, Op.stringOp, beq_toListBytes]⟩
  case h_22 => exact ⟨_, .bool _, fun t xo yo w' => by simp [eqGuard_at_string, binOp, Op.stringOp, beq_toListBytes]⟩
  case h_23 => exact ⟨_, .bool _, fun t xo yo w' => by simp [eqGuard_at_string, binOp, Op.stringOp]⟩
  case h_24 => exact ⟨_, .int _ _, fun t xo yo w' => by subst hob; simp [eqGuard_at_int, binOp, intBits_andNot]⟩
  all_goals (subst hob; first | exact ⟨_, .int _ _, fun t xo yo w' => by simp [eqGuard_at_int, binOp, Op.intArith]⟩ | exact ⟨_, .bool _, fun t xo yo w' => by simp [eqGuard_at_int, binOp, Op.intCmp]⟩)

theorem klf_int {P : Program} {t : TypeId} (h : klf P t = 1) : ∃ k, P.underlying t = some (.int k) := by
  unfold klf at h; split at h <;> first | exact ⟨_, by assumption⟩ | cases h
theorem klf_bool {P : Program} {t : TypeId} (h : klf P t = 2) : P.underlying t = some .bool := by
  unfold klf at h; split at h <;> first | assumption | cases h
theorem klf_str {P : Program} {t : TypeId} (h : klf P t = 3) : P.underlying t = some .string := by
  unfold klf at h; split at h <;> first | assumption | cases h
theorem kst_spec {P : Program} {t : TypeId} {l : List (TypeId × Nat)} (h : kst P t = some l) :
    P.underlying t = some (.struct (P.fieldsOf t)) ∧ P.stoodInHeld t = false ∧ P.eqGuardType P.depth t = false ∧ (∀ f ∈ (P.fieldsOf t).toList, f.name ≠ "_") ∧ l = (P.fieldsOf t).toList.map fun f => (f.type, f.offset) := by
  unfold kst at h
  split at h
  · rename_i fs hu
    split at h
    · rename_i hc
      simp only [Bool.and_eq_true, Bool.not_eq_true', List.all_eq_true, bne_iff_ne] at hc
      have e : P.fieldsOf t = fs := by simp [Program.fieldsOf, hu]
      simp only [Option.some.injEq] at h
      rw [e]
      exact ⟨hu, hc.1.1, hc.1.2, hc.2, h.symm⟩
    · cases h
  · cases h
theorem ksz_leaf_any {P : Program} {t : TypeId} {b : Bool} {n : Nat} (h : ksz P t = some (b, n)) : b = true ∨ b = false := by cases b <;> simp

theorem cut_sound {P : Program} {E : Env} {F : Nat → Prop} {w : World} {u o : Nat} {xs : List V} {cs : Array Value} {p : Prop} {x : V} (h : cutQ P u o xs = some (p, x)) (hp : p) (hs : cs.size = xs.length)
    (hr : ∀ (j : Nat) (x : V) (v : Value), xs[j]? = some x → cs[j]? = some v → VR E F w x v) : ∃ v, VR E F w x v ∧ ∀ w', (part u cs o).run P w' = .ok v w' := by
  unfold cutQ at h
  split at h
  · rename_i n hz
    simp only [Option.some.injEq, Prod.mk.injEq] at h
    obtain ⟨rfl, rfl⟩ := h
    obtain ⟨h1, h2⟩ := part_row hz hs hr hp
    exact ⟨_, h1, h2⟩
  · rename_i n hz
    simp only [Option.some.injEq, Prod.mk.injEq] at h
    obtain ⟨rfl, rfl⟩ := h
    exact part_leaf hz hs hr hp
  · cases h

theorem eqFs_sound {P : Program} {E : Env} {F : Nat → Prop} {w : World} {d : Nat} {f : TypeId → V → V → Option (Prop × Bool)}
    (ih : ∀ (t : TypeId) (x y : V) (p : Prop) (b : Bool) (v u : Value), f t x y = some (p, b) → p → VR E F w x v → VR E F w y u → ∀ w', (Op.equalIn d t v u).run P w' = .ok b w') {xs ys : List V} {cs es : Array Value}
    (hs : cs.size = xs.length) (hr : ∀ (j : Nat) (x : V) (v : Value), xs[j]? = some x → cs[j]? = some v → VR E F w x v)
    (hs' : es.size = ys.length) (hr' : ∀ (j : Nat) (x : V) (v : Value), ys[j]? = some x → es[j]? = some v → VR E F w x v) :
    ∀ (fs : List Field), (∀ f ∈ fs, f.name ≠ "_") → ∀ (p : Prop) (b : Bool), eqFs P f (fs.map fun f => (f.type, f.offset)) xs ys = some (p, b) → p → ∀ w', (Op.eqFields d cs es fs).run P w' = .ok b w'
  | [], _, p, b, h, _, w' => by
    simp [eqFs] at h
    simp [Op.eqFields, h.2]
  | g :: fs, hn, p, b, h, hp, w' => by
    simp only [List.map_cons, eqFs] at h
    split at h
    · rename_i p1 x p2 y h1 h2
      split at h
      · rename_i r b1 r' b2 h3 h4
        simp only [Option.some.injEq, Prod.mk.injEq] at h
        obtain ⟨rfl, rfl⟩ := h
        obtain ⟨q1, q2, q3, q4⟩ := hp
        obtain ⟨v, g1, g2⟩ := cut_sound h1 q1 hs hr
        obtain ⟨u, g3, g4⟩ := cut_sound h2 q2 hs' hr'
        have e1 := ih _ _ _ _ _ v u h3 q3 g1 g3
        have e2 := eqFs_sound ih hs hr hs' hr' fs (fun f hf => hn f (List.mem_cons_of_mem _ hf)) _ _ h4 q4
        have hnm := hn g (List.mem_cons_self ..)
        simp only [Op.eqFields, hnm, ne_eq, not_false_eq_true, if_true, Sem.run_bind, g2, g4, e1, Result.andThen_ok]
        cases b1
        · simp
        · simp [e2]
      · cases h
    · cases h

theorem eqQ_sound {P : Program} {E : Env} {F : Nat → Prop} {w : World} : ∀ (d D : Nat), d ≤ D → ∀ (t : TypeId) (x y : V) (p : Prop) (b : Bool) (v u : Value), eqQ P d t x y = some (p, b) → p → VR E F w x v → VR E F w y u →
    ∀ w', (Op.equalIn D t v u).run P w' = .ok b w'
  | 0, _, _, t, x, y, p, b, v, u, h, _, _, _, _ => by simp [eqQ] at h
  | d + 1, D, hd, t, x, y, p, b, v, u, h, hp, hx, hy, w' => by
    obtain ⟨D, rfl⟩ : ∃ D', D = D' + 1 := ⟨D - 1, by omega⟩
    simp only [eqQ] at h
    split at h
    · split at h
      · rename_i hk
        simp only [Option.some.injEq, Prod.mk.injEq] at h
        obtain ⟨rfl, rfl⟩ := h
        subst hp
        obtain ⟨k', hk'⟩ := klf_int hk
        cases hx with | d _ _ hx => cases hx; cases hy with | d _ _ hy => cases hy; exact run_equalIn_int w' _ t _ k' _ _ hk'
      · cases h
    · split at h
      · rename_i hk
        simp only [Option.some.injEq, Prod.mk.injEq] at h
        obtain ⟨rfl, rfl⟩ := h
        cases hx with | d _ _ hx => cases hx; cases hy with | d _ _ hy => cases hy; exact run_equalIn_bool w' _ t _ _ (klf_bool hk)
      · cases h
    · split at h
      · rename_i hk
        simp only [Option.some.injEq, Prod.mk.injEq] at h
        obtain ⟨rfl, rfl⟩ := h
        cases hx with | d _ _ hx => cases hx; cases hy with | d _ _ hy => cases hy; rw [run_equalIn_string w' _ t _ _ (klf_str hk), ← beq_toListBytes]
      · cases h
    · split at h
      · rename_i fs hk
        obtain ⟨h1, h2, h3, h4, rfl⟩ := kst_spec hk
        cases hx with
        | agg _ cs hs hr => cases hy with
          | agg _ es hs' hr' =>
            rw [run_equalIn_struct w' D t cs es h1 h2]
            exact eqFs_sound (eqQ_sound d D (by omega)) hs hr hs' hr' _ h4 _ _ h hp w'
      · cases h
    · cases h

theorem binQ_sound {P : Program} {E : Env} {F : Nat → Prop} {w : World} {op : BinOp} {t : TypeId} {x y z : V} {ob : Prop} {v u : Value} (h : binQ P op t x y = some (ob, z)) (hob : ob)
    (hx : VR E F w x v) (hy : VR E F w y u) : ∃ r, VR E F w z r ∧ ∀ (xo yo : Operand) (w' : World), ((do eqGuard op t xo yo v u; binOp op t v u) : Sem Value).run P w' = .ok r w' := by
  unfold binQ at h
  split at h
  · cases hx with
    | d _ _ hx => cases hy with
      | d _ _ hy =>
        split at h
        · rename_i r hq
          simp only [Option.some.injEq, Prod.mk.injEq] at h
          obtain ⟨rfl, rfl⟩ := h
          obtain ⟨r, h1, h2⟩ := arith_sound (P := P) (x := _) (y := _) (z := _) (ob := _) hq hob hx hy
          exact ⟨r, .d _ _ h1, h2 t⟩
        · split at h
          · split at h
            · rename_i hk
              simp only [Option.some.injEq, Prod.mk.injEq] at h
              obtain ⟨rfl, rfl⟩ := h
              cases hx; cases hy
              exact ⟨_, .d _ _ (.bool _), fun xo yo w' => by simp [eqGuard, run_eql_bool w' t _ _ (klf_bool hk)]⟩
            · cases h
          · split at h
            · rename_i hk
              simp only [Option.some.injEq, Prod.mk.injEq] at h
              obtain ⟨rfl, rfl⟩ := h
              cases hx; cases hy
              exact ⟨_, .d _ _ (.bool _), fun xo yo w' => by simp [eqGuard, binOp, run_equal_bool w' t _ _ (klf_bool hk), bne]⟩
            · cases h
          · cases h
  · rename_i xs ys
    have both : ∀ (p : Prop) (b : Bool), eqQ P 4 t (.agg xs) (.agg ys) = some (p, b) → p → (∀ w', (Op.equalIn 10000 t v u).run P w' = .ok b w') ∧ ∀ (op : BinOp) (xo yo : Operand) (w' : World), (eqGuard op t xo yo v u).run P w' = .ok () w' := by
      intro p b hq hp
      refine ⟨eqQ_sound 4 10000 (by omega) _ _ _ _ _ _ _ hq hp hx hy, ?_⟩
      simp only [eqQ] at hq
      split at hq
      · rename_i fs hk
        cases hx; cases hy
        exact fun op xo yo w' => run_eqGuard_agg w' op t xo yo _ _ (kst_spec hk).2.2.1
      · cases hq
    cases hx with
    | agg _ cs hs hr => cases hy with
      | agg _ es hs' hr' =>
        split at h
        · simp only [Option.map_eq_some_iff, Prod.exists, Prod.mk.injEq] at h
          obtain ⟨p, b, hq, rfl, rfl⟩ := h
          obtain ⟨h1, h2⟩ := both _ _ hq hob
          exact ⟨_, .d _ _ (.bool _), fun xo yo w' => by simp [h2, run_eql_struct, h1]⟩
        · simp only [Option.map_eq_some_iff, Prod.exists, Prod.mk.injEq] at h
          obtain ⟨p, b, hq, rfl, rfl⟩ := h
          obtain ⟨h1, h2⟩ := both _ _ hq hob
          exact ⟨_, .d _ _ (.bool _), fun xo yo w' => by simp [h2, run_neq_struct, h1]⟩
        · cases h
  · cases h

theorem int_of {E : Env} {F : Nat → Prop} {w : World} {k : IntKind} {n : Int} {v : Value} (h : VR E F w (.d (.int k n)) v) : v = .int k n := by
  cases h with | d _ _ h => cases h; rfl
theorem bool_of {E : Env} {F : Nat → Prop} {w : World} {b : Bool} {v : Value} (h : VR E F w (.d (.bool b)) v) : v = .bool b := by
  cases h with | d _ _ h => cases h; rfl

theorem boolOf_sound {E : Env} {F : Nat → Prop} {w : World} {x : V} {p : Prop} {b : Bool} {v : Value} (h : boolOf x = some (p, b)) (hp : p) (hx : VR E F w x v) : v = .bool b := by
  unfold boolOf at h
  split at h
  · simp only [Option.some.injEq, Prod.mk.injEq] at h
    obtain ⟨rfl, rfl⟩ := h
    exact bool_of hx
  · simp only [Option.some.injEq, Prod.mk.injEq] at h
    obtain ⟨rfl, rfl⟩ := h
    cases hx with | opt g x v h hu => exact bool_of (h hp)
  · cases h

theorem bnd_sound {B : Base} {s : St} {a : Act} {w : World} {E : Env} {F : Nat → Prop} (hs : Sim B s a w E F) {d l : Int} {x : Option Operand} (h : bnd s d x = some l) :
    Bd (x.map a.eval) d l := by
  unfold bnd at h
  split at h
  · simp at h; subst h; exact .inl ⟨rfl, rfl⟩
  · rename_i x
    split at h
    · rename_i k n hx
      simp at h
      subst h
      have := ev_sound hs x
      rw [hx] at this
      exact .inr ⟨k, by simp [int_of this]⟩
    · cases h

theorem ksl_spec {P : Program} {t : TypeId} (h : ksl P t = true) : ∃ e, P.underlying t = some (.slice e) := by
  unfold ksl at h
  split at h
  · rename_i e hu; exact ⟨e, hu⟩
  · cases h

theorem run_len_sl {P : Program} {t : TypeId} (h : ksl P t = true) (ty : TypeId) (a : Option Addr) (n c : Nat) (w : World) :
    (Builtin.len_ #[t] ty #[.slice a n c]).run P w = .ok (.int .i64 n) w := by
  obtain ⟨e, hu⟩ := ksl_spec h
  simp [Builtin.len_, run_underlying hu, goInt]

theorem lenQ_sound {P : Program} {E : Env} {F : Nat → Prop} {w : World} {x : V} {v : Value} {n : Nat} {t : TypeId} (h : lenQ P t x = some n) (hx : VR E F w x v) (ty : TypeId) (w' : World) :
    (Builtin.len_ #[t] ty #[v]).run P w' = .ok (.int .i64 n) w' := by
  unfold lenQ at h
  split at h <;> first | (cases h; done) | skip
  all_goals (split at h <;> first | (cases h; done) | skip)
  all_goals (rename_i hk; simp only [Option.some.injEq] at h; subst h)
  · cases hx <;> exact run_len_sl hk ty _ _ _ w'
  · cases hx with | d _ _ hd => cases hd <;> exact run_len_sl hk ty _ _ _ w'
  · cases hx with
    | d _ _ hd =>
      cases hd
      simp [Builtin.len_, run_underlying (kstr_spec hk), goInt]
  · cases hx; exact run_len_sl hk ty _ _ _ w'

theorem kint_spec {P : Program} {t : TypeId} {k : IntKind} (h : kint P t = some k) : P.underlying t = some (.int k) := by
  unfold kint at h
  split at h
  · rename_i k' hu; simp at h; subst h; exact hu
  · cases h

theorem getD_list {xs : List V} {i : Nat} (h : i < xs.length) : xs.getD i .junk = xs[i] := by
  rw [List.getD_eq_getElem?_getD, List.getElem?_eq_getElem h]; rfl

theorem builtQ_sound {P : Program} {B : Base} {s : St} {a : Act} {w : World} {E : Env} {F : Nat → Prop} {b : Builtin} {ob : Prop} {x : V} {ts : Array TypeId} {args : Array Operand}
    (h : builtQ P s b args.toList ts.toList = some (ob, x)) (hob : ob)
    (hs : Sim B s a w E F) (o : Oper) (ho : o.op = .call { callee := .builtin b, args := args, argTypes := ts }) :
    ∃ v, VR E F w x v ∧ ∀ w', Keep w w' → (execOp a.eval o).run P w' = .ok (.value v) w' := by
  have ev := ev_sound hs
  obtain ⟨args⟩ := args
  obtain ⟨ts⟩ := ts
  simp only at h
  unfold builtQ at h
  split at h
  · rename_i x t
    split at h
    · rename_i n hl
      simp only [Option.some.injEq, Prod.mk.injEq] at h
      obtain ⟨rfl, rfl⟩ := h
      have e1 := V.strip_sound (ev x) hob
      exact ⟨_, .d _ _ (.int _ _), fun w' _ => by simp [execOp, ho, resolve, invoke, builtin, lenQ_sound hl e1]⟩
    · cases h
  · rename_i x y
    split at h
    · rename_i k n k' m hx hy
      simp only [Option.some.injEq, Prod.mk.injEq] at h
      obtain ⟨rfl, rfl⟩ := h
      have e1 := V.strip_sound (ev x) hob.1
      have e2 := V.strip_sound (ev y) hob.2
      rw [hx] at e1
      rw [hy] at e2
      refine ⟨.int k (if m > n then m else n), ?_, fun w' _ => by simp [execOp, ho, resolve, invoke, builtin, int_of e1, int_of e2, run_max_int2]⟩
      have : max n m = if m > n then m else n := by split <;> omega
      rw [this]
      exact .d _ _ (.int _ _)
    · cases h
  · rename_i x y
    split at h
    · rename_i k n k' m hx hy
      simp only [Option.some.injEq, Prod.mk.injEq] at h
      obtain ⟨rfl, rfl⟩ := h
      have e1 := V.strip_sound (ev x) hob.1
      have e2 := V.strip_sound (ev y) hob.2
      rw [hx] at e1
      rw [hy] at e2
      refine ⟨.int k (if m < n then m else n), ?_, fun w' _ => by simp [execOp, ho, resolve, invoke, builtin, int_of e1, int_of e2, run_min_int2]⟩
      have : min n m = if m < n then m else n := by split <;> omega
      rw [this]
      exact .d _ _ (.int _ _)
    · cases h
  · rename_i x y z u
    split at h
    · rename_i k n k' m k2 n2 k3 n3 hx hy hz hu
      simp only [Option.some.injEq, Prod.mk.injEq] at h
      obtain ⟨rfl, rfl⟩ := h
      obtain ⟨h1, h2, h3, h4⟩ := hob
      have e1 := V.strip_sound (ev x) h1
      have e2 := V.strip_sound (ev y) h2
      have e3 := V.strip_sound (ev z) h3
      have e4 := V.strip_sound (ev u) h4
      rw [hx] at e1
      rw [hy] at e2
      rw [hz] at e3
      rw [hu] at e4
      refine ⟨_, .d _ _ (.int _ _), fun w' _ => ?_⟩
      have hm : ∀ i j : Int, (if j > i then j else i) = max i j := fun i j => by split <;> omega
      have q1 := int_of e1
      have q2 := int_of e2
      have q3 := int_of e3
      have q4 := int_of e4
      simp [execOp, ho, resolve, invoke, builtin, Builtin.max_, Builtin.max2, q1, q2, q3, q4, hm, Int.max_assoc]
    · cases h
  · cases h

/-- **An operation that only computes or reads yields what 'opQ' says.** -/
theorem opQ_sound {P : Program} {B : Base} {s : St} {a : Act} {w : World} {E : Env} {F : Nat → Prop} {op : Op} {ob : Prop} {x : V} (h : opQ P s op = some (ob, x)) (hob : ob)
    (hs : Sim B s a w E F) (o : Oper) (ho : o.op = op) : ∃ v, VR E F w x v ∧ ∀ w', Keep w w' → (execOp a.eval o).run P w' = .ok (.value v) w' := by
  have ev := ev_sound hs
  unfold opQ at h
  split at h
  · rename_i x
    simp only [Option.some.injEq, Prod.mk.injEq] at h
    obtain ⟨_, rfl⟩ := h
    exact ⟨_, ev x, fun w' _ => by simp [execOp, ho]⟩
  · rename_i x
    simp only [Option.some.injEq, Prod.mk.injEq] at h
    obtain ⟨_, rfl⟩ := h
    exact ⟨_, ev x, fun w' _ => by simp [execOp, ho]⟩
  · rename_i c y z
    split at h
    · rename_i r0 b p q p' q' hc hy hz
      simp only [Option.some.injEq, Prod.mk.injEq] at h
      obtain ⟨rfl, rfl⟩ := h
      have e1 := boolOf_sound hc hob.1 (ev c)
      refine ⟨_, .d _ _ (.bool _), fun w' _ => ?_⟩
      cases b
      · have := boolOf_sound hz (hob.2.2 rfl) (ev z)
        simp [execOp, ho, e1, asBool, this]
      · have := boolOf_sound hy (hob.2.1 rfl) (ev y)
        simp [execOp, ho, e1, asBool, this]
    · cases h
  · rename_i t x
    simp only [Option.map_eq_some_iff, Prod.exists, Prod.mk.injEq] at h
    obtain ⟨p, y, hq, rfl, rfl⟩ := h
    obtain ⟨u, h1, h2⟩ := loadQ_sound hq hob.2 hs.rel.hr hs.rel.lt (V.strip_sound (ev x) hob.1)
    exact ⟨u, h1, fun w' hk => by simp [execOp, ho, h2 w' hk]⟩
  · rename_i t x i
    simp only [Option.map_eq_some_iff, Prod.exists, Prod.mk.injEq] at h
    obtain ⟨p, y, hq, rfl, rfl⟩ := h
    obtain ⟨u, h1, h2⟩ := fieldAddrQ_sound hq (V.strip_sound (ev x) hob.1)
    exact ⟨u, h1, fun w' hk => by simp [execOp, ho, h2 w']⟩
  · rename_i t x i
    split at h
    · rename_i k n hi
      simp only [Option.map_eq_some_iff, Prod.exists, Prod.mk.injEq] at h
      obtain ⟨p, y, hq, rfl, rfl⟩ := h
      obtain ⟨hx, hi', hp⟩ := hob
      have e1 := V.strip_sound (ev i) hi'
      rw [hi] at e1
      obtain ⟨u, h1, h2⟩ := indexAddrQ_sound k hq hp hs.rel.hr (V.strip_sound (ev x) hx)
      exact ⟨u, h1, fun w' hk => by simp [execOp, ho, int_of e1, h2 w']⟩
    · cases h
  · rename_i t x i
    simp only [Option.map_eq_some_iff, Prod.exists, Prod.mk.injEq] at h
    obtain ⟨p, y, hq, rfl, rfl⟩ := h
    obtain ⟨u, h1, h2⟩ := fieldQ_sound hq hob.2 (V.strip_sound (ev x) hob.1)
    exact ⟨u, h1, fun w' hk => by simp [execOp, ho, h2 w']⟩
  · rename_i t x i
    split at h
    · rename_i k n hi
      simp only [Option.map_eq_some_iff, Prod.exists, Prod.mk.injEq] at h
      obtain ⟨p, y, hq, rfl, rfl⟩ := h
      obtain ⟨hx, hi', hp⟩ := hob
      have e1 := V.strip_sound (ev i) hi'
      rw [hi] at e1
      obtain ⟨u, h1, h2⟩ := indexQ_sound k hq hp (V.strip_sound (ev x) hx)
      exact ⟨u, h1, fun w' hk => by simp [execOp, ho, int_of e1, h2 w']⟩
    · cases h
  · rename_i op t x y yt
    simp only [Option.map_eq_some_iff, Prod.exists, Prod.mk.injEq] at h
    obtain ⟨p, z, hq, rfl, rfl⟩ := h
    obtain ⟨h1, h2, hp⟩ := hob
    obtain ⟨r, h3, h4⟩ := binQ_sound hq hp (V.strip_sound (ev x) h1) (V.strip_sound (ev y) h2)
    refine ⟨r, h3, fun w' _ => ?_⟩
    have := h4 x y w'
    simp only [Sem.run_bind] at this
    simp only [execOp, ho, Sem.run_bind, this]
    simp
  · rename_i t x
    split at h
    · rename_i b hx
      simp only [Option.some.injEq, Prod.mk.injEq] at h
      obtain ⟨rfl, rfl⟩ := h
      have e1 := V.strip_sound (ev x) hob
      rw [hx] at e1
      exact ⟨_, .d _ _ (.bool _), fun w' _ => by simp [execOp, ho, bool_of e1, Op.unary]⟩
    · cases h
  · rename_i t x
    split at h
    · rename_i k n hx
      simp only [Option.some.injEq, Prod.mk.injEq] at h
      obtain ⟨rfl, rfl⟩ := h
      have e1 := V.strip_sound (ev x) hob
      rw [hx] at e1
      exact ⟨_, .d _ _ (.int _ _), fun w' _ => by simp [execOp, ho, int_of e1, Op.unary, Op.intArith]⟩
    · cases h
  · rename_i t x
    split at h
    · rename_i k n hx
      simp only [Option.some.injEq, Prod.mk.injEq] at h
      obtain ⟨rfl, rfl⟩ := h
      have e1 := V.strip_sound (ev x) hob
      rw [hx] at e1
      exact ⟨_, .d _ _ (.int _ _), fun w' _ => by simp [execOp, ho, int_of e1, Op.unary, intBits_xor]⟩
    · cases h
  · rename_i src dst x
    split at h
    · rename_i k0 n k1 k hx hsrc hdst
      simp only [Option.some.injEq, Prod.mk.injEq] at h
      obtain ⟨rfl, rfl⟩ := h
      have e1 := V.strip_sound (ev x) hob
      rw [hx] at e1
      exact ⟨_, .d _ _ (.int _ _), fun w' _ => by simp [execOp, ho, int_of e1, convert, run_underlying (kint_spec hsrc), run_underlying (kint_spec hdst), Conv.intToInt]⟩
    · cases h
  · rename_i x i
    split at h
    · rename_i xs hx
      simp only [Option.some.injEq, Prod.mk.injEq] at h
      obtain ⟨rfl, rfl⟩ := h
      have e1 := V.strip_sound (ev x) hob.1
      rw [hx] at e1
      generalize hv : a.eval x = v at e1
      cases e1 with
      | tup xs cs hsz hr =>
        have hc : cs[i]? = some (cs[i]'(by have := hob.2; omega)) := Array.getElem?_eq_getElem _
        refine ⟨cs[i]'(by have := hob.2; omega), ?_, fun w' _ => by simp [execOp, ho, hv, Instr.extract, hc]⟩
        rw [getD_list hob.2]
        exact hr i _ _ (List.getElem?_eq_getElem hob.2) hc
    · cases h
  · rename_i t x lo hi mx
    split at h
    · rename_i l hl hh hm
      have hh' : hi = none := by cases hi <;> simp_all
      have hm' : mx = none := by cases mx <;> simp_all
      subst hh' hm'
      simp only [Option.map_eq_some_iff, Prod.exists, Prod.mk.injEq] at h
      obtain ⟨p, y, hq, rfl, rfl⟩ := h
      obtain ⟨u, h1, h2⟩ := sliceQ_sound hq hob.2 hs.rel.hr (V.strip_sound (ev x) hob.1) (lo.map a.eval) none none (bnd_sound hs hl) (.inl ⟨rfl, rfl⟩) (.inl ⟨rfl, rfl⟩)
      exact ⟨u, h1, fun w' _ => by simp [execOp, ho, h2 w']⟩
    · rename_i l h' hl hh hm
      have hm' : mx = none := by cases mx <;> simp_all
      subst hm'
      cases hi with
      | none => simp at hh
      | some hi =>
        simp only [Option.map_some, Option.some.injEq] at hh
        simp only [Option.map_eq_some_iff, Prod.exists, Prod.mk.injEq] at h
        obtain ⟨p, y, hq, rfl, rfl⟩ := h
        have hb := bnd_sound hs hh
        rcases hb with ⟨hb, _⟩ | ⟨k, hb⟩
        · simp at hb
        · obtain ⟨u, h1, h2⟩ := sliceQ_sound hq hob.2 hs.rel.hr (V.strip_sound (ev x) hob.1) (lo.map a.eval) _ none (bnd_sound hs hl) (.inr ⟨k, h', hb, rfl⟩) (.inl ⟨rfl, rfl⟩)
          exact ⟨u, h1, fun w' _ => by simp only [execOp, ho]; simp only [Option.map_none, Sem.run_bind, h2 w']; simp⟩
    · rename_i l h' m hl hh hm
      cases hi with
      | none => simp at hh
      | some hi =>
        cases mx with
        | none => simp at hm
        | some mx =>
          simp only [Option.map_some, Option.some.injEq] at hh hm
          simp only [Option.map_eq_some_iff, Prod.exists, Prod.mk.injEq] at h
          obtain ⟨p, y, hq, rfl, rfl⟩ := h
          have hb := bnd_sound hs hh
          have hb' := bnd_sound hs hm
          rcases hb with ⟨hb, _⟩ | ⟨k, hb⟩
          · simp at hb
          rcases hb' with ⟨hb', _⟩ | ⟨k', hb'⟩
          · simp at hb'
          obtain ⟨u, h1, h2⟩ := sliceQ_sound hq hob.2 hs.rel.hr (V.strip_sound (ev x) hob.1) (lo.map a.eval) _ _ (bnd_sound hs hl) (.inr ⟨k, h', hb, rfl⟩) (.inr ⟨k', m, hb', rfl⟩)
          exact ⟨u, h1, fun w' _ => by simp only [execOp, ho]; simp only [Sem.run_bind, h2 w']; simp⟩
    · cases h
  · rename_i f first caps
    split at h
    · rename_i hf
      simp only [Option.some.injEq, Prod.mk.injEq] at h
      obtain ⟨_, rfl⟩ := h
      obtain rfl : first = #[] := Array.eq_empty_of_size_eq_zero hf
      refine ⟨.func f #[] (caps.map a.eval), .fn _ _ _ (by simp) fun j x v hx hv => ?_, fun w' _ => by simp [execOp, ho, Instr.makeFunc]⟩
      simp only [List.getElem?_map, Array.getElem?_toList] at hx
      simp only [Array.getElem?_map] at hv
      cases hc : caps[j]? with
      | none => simp [hc] at hx
      | some y =>
        simp [hc] at hx hv
        subst hx hv
        exact ev y
    · cases h
  · rename_i x
    split at h <;> simp only [Option.some.injEq, Prod.mk.injEq, reduceCtorEq] at h <;> obtain ⟨rfl, rfl⟩ := h <;> rename_i hx <;>
      have e1 := V.strip_sound (ev x) hob <;> rw [hx] at e1 <;> refine ⟨_, e1, fun w' _ => ?_⟩ <;> generalize hv : a.eval x = v at e1 <;> cases e1
    · simp [execOp, ho, hv]
    · rename_i hd; cases hd; simp [execOp, ho, hv]
    · simp [execOp, ho, hv]
    · rename_i hd; cases hd; simp [execOp, ho, hv]
    · simp [execOp, ho, hv]
  · rename_i c
    split at h
    · rename_i b hb
      exact builtQ_sound h hob hs o (by rw [ho]; cases c; simp_all)
    · cases h
  · cases h

end Go.Aw
