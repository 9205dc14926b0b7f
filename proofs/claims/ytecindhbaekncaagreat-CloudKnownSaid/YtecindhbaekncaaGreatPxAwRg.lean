/-
  A range over a function whose iterator has its own memory and reads it between the rounds; regions within a round; regions with an operation that is shown by hand. Over any program; no condition.
-/
import Derived.RangeFuncLeaves
import Derived.RangeFuncCalls
import Derived.Test.YtecindhbaekncaaGreatPkD
import Derived.Test.YtecindhbaekncaaGreatPkY
namespace Go.Aw
set_option linter.unusedSimpArgs false
set_option linter.unusedVariables false
open Go.RowKit

variable {P : Program}

def OpX (P : Program) (kp : List Nat) (o : Oper) (s : St) (K : St → Prop) : Prop :=
  ∀ (B : Base) (a : Act) (w : World) (E : Env) (F : Nat → Prop) (ops : Array Oper) (Q : Exit → Act → World → Prop), B.keep = kp → Sim B s a w E F → (∀ d, o.dst = some d → d < a.tmps.size) →
    Region.wanted o (yielded ops a.tmps) = true ∧ o.wp P a w (fun a' w' => ∃ v s' E' F', a' = a.put o.dst v ∧ K s' ∧ Sim B s' a' w' E' F') Q
theorem opsC_sound {ops : Array Oper} {Q : Exit → Act → World → Prop} {B : Base} {n : Nat} (hd : dstsOk n ops = true) (rest : List Nat) : ∀ (l : List (Oper × Nat)) (s : St) (a : Act) (w : World) (E : Env) (F : Nat → Prop) (K : St → Prop), a.tmps.size = n → Sim B s a w E F →
    OpsVC P B.keep ops (l.map (·.1)) s K → (∀ p, p ∈ l → ops[p.2]? = some p.1) →
    (∀ a' w' s' E' F', K s' → Sim B s' a' w' E' F' → a'.tmps.size = n → wpOps P ops Q rest a' w') → wpOps P ops Q (l.map (·.2) ++ rest) a w
  | [], s, a, w, E, F, K, hn, hs, h, _, hq => hq a w s E F h hs hn
  | (o, i) :: l, s, a, w, E, F, K, hn, hs, h, hl, hq => by
    have ho : ops[i]? = some o := hl (o, i) (by simp)
    have ih := fun s a w E F hn hs h => opsC_sound (Q := Q) hd rest l s a w E F K hn hs h (fun p hp => hl p (by simp [hp])) hq
    have hdd : ∀ d, o.dst = some d → d < a.tmps.size := fun d hd' => by rw [hn]; exact dstsOk_spec hd ho d hd'
    simp only [List.map_cons, List.cons_append, wpOps, ho]
    simp only [List.map_cons, OpsVC] at h
    rcases op_sound (Q := Q) hs hdd h with ⟨v, s', hK, hs', hw⟩ | ⟨_, hw⟩
    · have ih' := ih s' _ w E F (by rw [size_put]; exact hn) hs' hK
      rcases hw with ⟨hw, hrun⟩ | ⟨hw, rfl⟩
      · rw [hw, if_pos rfl]
        refine .inl ?_
        unfold Oper.wp
        rw [hrun w (Keep.refl w)]
        exact ih'
      · rw [hw]
        exact ih'
    · rcases hw with ⟨hw, hwp⟩ | ⟨hw, s', F', hK, hs'⟩
      · rw [hw, if_pos rfl]
        exact .inl (Oper.wp_mono (fun a' w' ⟨_, v, s', E', F', ha, hK, hs'⟩ => by subst ha; exact ih s' _ w' E' F' (by rw [size_put]; exact hn) hs' hK) hwp)
      · rw [hw]
        exact ih s' _ w E F' (by rw [size_put]; exact hn) hs' hK
theorem awp_region4X {kp : List Nat} {n : Nat} {s : St} {Q : Exit → St → Prop} {id : Nat} {o0 o1 o2 o3 : Oper}
    (h : ∀ K : St → Prop, (∀ t, Q .normal t → K t) → contRun P kp #[o0, o1, o2, o3] (.vc [o0, o1, o2]) s fun t => OpX P kp o3 t K) : AWP P kp n (.region id #[o0, o1, o2, o3] false) s Q := by
  intro hok B a w E F h1 h2 h3
  subst h1
  refine wp_region ?_
  show wpOps P _ _ [0, 1, 2, 3] a w
  refine opsC_sound (n := n) hok [3] [(o0, 0), (o1, 1), (o2, 2)] s a w E F _ h2 h3 (h _ fun t ht => ht) (by simp) ?_
  intro a' w' s' E' F' hK hs hn
  have hdd : ∀ d, o3.dst = some d → d < a'.tmps.size := fun d hd' => by rw [hn]; exact dstsOk_spec (ops := #[o0, o1, o2, o3]) (i := 3) hok rfl d hd'
  obtain ⟨hw, hwp⟩ := hK B a' w' E' F' #[o0, o1, o2, o3] (fun e a' w' => (∀ ch, e ≠ .panic ch) ∧ e ≠ .outgrown ∧ ∃ s' E' F', Q e s' ∧ Sim B s' a' w' E' F' ∧ a'.tmps.size = n) rfl hs hdd
  simp only [wpOps, show (#[o0, o1, o2, o3] : Array Oper)[3]? = some o3 from rfl]
  rw [hw, if_pos rfl]
  refine .inl (Oper.wp_mono (fun a2 w2 ⟨v, s2, E2, F2, ha, hK2, hs2⟩ => ?_) hwp)
  subst ha
  exact ⟨by simp, by simp, s2, E2, F2, hK2, hs2, by rw [size_put]; exact hn⟩

theorem rowsIn_round {r : Nat} {m : Nat} {row : String} {args : Array Value} {w : World} {R : Value → World → Prop} (h : Rows P row args w R) : RowsIn (Fence.wide.inRound r) m P row args w R :=
  fun c cs _ => let ⟨v, w', q, s⟩ := h c cs; ⟨v, w', q, by rw [fenced_inRound]; exact stepsIn_wide.2 s⟩
theorem ops_in {r m : Nat} {ops : Array Oper} {Q : Exit → Act → World → Prop} (hQ : ¬ LetsOut Q) (hd : ∀ (i : Nat) (o : Oper), ops[i]? = some o → ∀ c, o.op ≠ .defer c) : ∀ (l : List Nat) (a : Act) (w : World), wpOps P ops Q l a w → wpOpsIn (Fence.wide.inRound r) m P ops Q l a w
  | [], a, w, h => h
  | i :: l, a, w, h => by
    have ih := ops_in (r := r) (m := m) hQ hd l
    simp only [wpOps] at h
    simp only [wpOpsIn]
    cases ho : ops[i]? with
    | none => rw [ho] at h; exact ih a w h
    | some o =>
      rw [ho] at h
      dsimp only at h ⊢
      split
      · rename_i hw
        rw [if_pos hw] at h
        rcases h with h | h
        · refine ⟨fun _ _ => trivial, ?_⟩
          rw [Oper.semAt_eq _ _ _ (hd i o ho)]
          unfold Oper.wp at h
          generalize (execOp a.eval o).run P w = res at h
          unfold Oper.upon at h
          unfold Oper.uponIn
          split at h
          · exact ih _ _ h
          · exact ih _ _ h
          · exact ih _ _ h
          · refine ⟨(fun hx => by cases hx), CallsIn.inRound r (callsIn_wide.2 (h.mono ?_))⟩
            intro e w2 he
            cases e with
            | returned v => exact ih _ _ he
            | panicked c => exact he
            | outgrown => exact he
          · exact ⟨(fun hx => by cases hx), rowsIn_round (h.mono fun v w2 hh => ih _ _ hh)⟩
          · exact h
          · exact h.elim
        · exact absurd h.2 hQ
      · rename_i hw
        rw [if_neg hw] at h
        exact ⟨fun _ _ => trivial, ih _ _ h⟩
def noDefer (ops : Array Oper) : Bool := ops.all fun o => match o.op with | .defer _ => false | _ => true
theorem noDefer_spec {ops : Array Oper} (h : noDefer ops = true) (i : Nat) (o : Oper) (ho : ops[i]? = some o) (c : Call) : o.op ≠ .defer c := fun e => by
  obtain ⟨hi, rfl⟩ := Array.getElem?_eq_some_iff.1 ho
  have := Array.all_eq_true.1 h i hi
  rw [e] at this
  cases this
theorem region_in {kp : List Nat} {n : Nat} {s : St} {Q0 : St → Prop} {id : Nat} {ops : Array Oper} (hok : dstsOk n ops = true) (hnd : noDefer ops = true) (h : contRun P kp ops (.vc ops.toList) s Q0)
    (r m : Nat) {B : Base} {a : Act} {w : World} {E : Env} {F : Nat → Prop} (h1 : B.keep = kp) (h2 : a.tmps.size = n) (h3 : Sim B s a w E F) :
    (Code.region id ops false).wpIn (Fence.wide.inRound r) m P (fun e a' w' => e = .normal ∧ ∃ s' E' F', Q0 s' ∧ Sim B s' a' w' E' F' ∧ a'.tmps.size = n) a w := by
  subst h1
  refine wpIn_region (ops_in (fun ⟨_, _, h⟩ => by cases h.1) (noDefer_spec hnd) _ a w ?_)
  refine ops_sound (ops := ops) (n := n) hok (List.range ops.size) s a w E F Q0 h2 h3 ?_ (by simp) fun a' w' s' E' F' hK hs hn => ⟨rfl, s', E', F', hK, hs, hn⟩
  have e : (List.range ops.size).filterMap (ops[·]?) = ops.toList := by
    apply List.ext_getElem?
    intro i
    have : ∀ (l : List Oper), (List.range l.length).filterMap (l[·]?) = l := fun l => by
      induction l with
      | nil => rfl
      | cons x r ih =>
        rw [List.length_cons, List.range_succ_eq_map, List.filterMap_cons]
        simp only [List.getElem?_cons_zero, List.filterMap_map, Function.comp_def, List.getElem?_cons_succ]
        rw [ih]
    have h2 := this ops.toList
    simp only [Array.length_toList, Array.getElem?_toList] at h2
    rw [h2]
  rw [e]
  exact h

theorem Rel.trans {B : Base} {s1 s2 : St} {w1 w2 : World} {E1 E2 : Env} {F1 F2 : Nat → Prop} {kp : List Nat} {ds : List Deferred} (h1 : Rel B s1 E1 F1 w1) (h2 : Rel ⟨w1, F1, own E1 s1.heap, E1, kp, ds⟩ s2 E2 F2 w2) (hk : ∀ i, i ∈ B.keep → i ∈ kp) :
    Rel B s2 E2 F2 w2 := by
  have hown : ∀ b, own E1 s1.heap b → B.w0.heap.size ≤ b ∨ B.own b := fun b ⟨id, e, blk, q1, q2, q3, q4⟩ => h1.src id b e blk q1 q2 q3 q4
  refine ⟨h2.os.trans h1.os, h2.tape.trans h1.tape, h2.output.trans h1.output, Nat.le_trans h1.size h2.size, fun b hb => h2.F0 b (h1.F0 b hb), fun b hb => ?_, fun b q1 q2 => ?_, h2.lt, h2.hr, fun id b e blk q1 q2 q3 q4 => ?_, fun i hi => ?_, fun b n h => h2.sz b n (h1.sz b n h)⟩
  · rcases h2.only b hb with h | h | h
    · exact h1.only b h
    · exact .inr (.inl (Nat.le_trans h1.size h))
    · exact .inr (hown b h)
  · refine (h2.same b (Nat.lt_of_lt_of_le q1 h1.size) fun h => ?_).trans (h1.same b q1 q2)
    rcases hown b h with h | h
    · omega
    · exact q2 h
  · rcases h2.src id b e blk q1 q2 q3 q4 with h | h
    · exact .inl (Nat.le_trans h1.size h)
    · exact hown b h
  · obtain ⟨e, q1, q2⟩ := h1.keep i hi
    obtain ⟨e', q3, q4⟩ := h2.keep i (hk i hi)
    dsimp only at q4
    rw [q1] at q4
    cases q4
    exact ⟨e, q3, q2⟩
structure Grow (X : Nat → Prop) (W W' : World) : Prop where
  os : W'.os = W.os
  tape : W'.tape = W.tape
  later : Later W W'
  size : W.heap.size ≤ W'.heap.size
  same : ∀ b, b < W.heap.size → ¬ X b → W'.heap[b]? = W.heap[b]?
  sz : ∀ b n, Sz W b n → Sz W' b n
theorem Grow.refl (X : Nat → Prop) (W : World) : Grow X W W := ⟨rfl, rfl, .refl _, Nat.le_refl _, fun _ _ _ => rfl, fun _ _ h => h⟩
theorem Grow.trans {X : Nat → Prop} {A B C : World} (h1 : Grow X A B) (h2 : Grow X B C) : Grow X A C :=
  ⟨h2.os.trans h1.os, h2.tape.trans h1.tape, h2.later.trans h1.later, Nat.le_trans h1.size h2.size, fun b hb hX => (h2.same b (Nat.lt_of_lt_of_le hb h1.size) hX).trans (h1.same b hb hX), fun b n h => h2.sz b n (h1.sz b n h)⟩
theorem Grow.mono {X Y : Nat → Prop} {A B : World} (h : Grow X A B) (hXY : ∀ b, X b → Y b) : Grow Y A B := ⟨h.os, h.tape, h.later, h.size, fun b hb hY => h.same b hb fun hX => hY (hXY b hX), h.sz⟩
theorem Grow.alloc (X : Nat → Prop) (W : World) (o : Obj) : Grow X W (W.alloc o) :=
  ⟨rfl, rfl, ⟨rfl, Nat.le_refl _⟩, by simp, fun b hb _ => Below.heap_alloc W o b hb, fun b n ⟨cs, t, h1, h2⟩ => ⟨cs, t, (Below.heap_alloc W o b (Array.getElem?_eq_some_iff.1 h1).1).trans h1, h2⟩⟩
theorem Grow.putObj {X : Nat → Prop} {W : World} {l : Nat} {o : Obj} (o' : Obj) (hX : X l) (ho : W.heap[l]? = some o) (hc : o.isCells = false) : Grow X W (W.putObj l o') :=
  ⟨rfl, rfl, ⟨rfl, Nat.le_refl _⟩, by simp, fun b _ hb => World.putObj_heap_other (fun e => hb (e ▸ hX)), fun b n ⟨cs, t, h1, h2⟩ => by
    have hne : b ≠ l := fun e => by subst e; rw [ho] at h1; cases h1; cases hc
    exact ⟨cs, t, (World.putObj_heap_other hne).trans h1, h2⟩⟩
theorem Rel.grow {B : Base} {s : St} {E : Env} {F : Nat → Prop} {w : World} (h : Rel B s E F w) : Grow B.own B.w0 w := ⟨h.os, h.tape, h.output, h.size, h.same, h.sz⟩
theorem Sim.grown {B : Base} {s : St} {a : Act} {w w' : World} {E : Env} {F X : Nat → Prop} (h : Sim B s a w E F) (hg : Grow X w w') (hX : ∀ b, X b → ¬ F b ∧ ¬ own E s.heap b) : Sim ⟨w', F, own E s.heap, E, [], B.ds⟩ s a w' E F := by
  have hr := h.rel
  have hF : ∀ b, F b → w'.heap[b]? = w.heap[b]? := fun b hb => hg.same b (hr.lt b hb) fun hx => (hX b hx).1 hb
  have evo : Evo E F w E F w' (fun _ => True) := ⟨fun _ h => h, hF, fun _ _ _ h => h, hg.sz⟩
  refine ⟨⟨rfl, rfl, .refl _, Nat.le_refl _, fun _ h => h, fun _ h => .inl h, fun _ _ _ => rfl, fun b hb => Nat.lt_of_lt_of_le (hr.lt b hb) hg.size, ⟨hr.hr.len, ?_, ?_, hr.hr.inj⟩, ?_, (fun i hi => by cases hi), fun _ _ h => h⟩, h.defers, fun i x hx => ?_⟩
  · intro id e b h1 h2
    cases hl : b.live with
    | false => cases b <;> simp [Blk.live] at hl; trivial
    | true =>
      exact (hr.hr.blk id e b h1 h2).evo evo (fun _ _ => trivial) fun c hc => by
        obtain ⟨q1, q2⟩ := hr.hr.free id c e b h1 hc h2 hl
        exact hg.same c q1 fun hx => (hX c hx).2 ⟨id, e, b, h1, h2, hl, hc⟩
  · intro id b e blk h1 h2 h3 h4
    obtain ⟨q1, q2⟩ := hr.hr.free id b e blk h1 h2 h3 h4
    exact ⟨Nat.lt_of_lt_of_le q1 hg.size, q2⟩
  · exact fun id b e blk q1 q2 q3 q4 => .inr ⟨id, e, blk, q1, q2, q3, q4⟩
  · obtain ⟨v, hv, hx'⟩ := h.tm i x hx
    exact ⟨v, hv, hx'.evo evo (fun _ _ => trivial)⟩
end Go.Aw
