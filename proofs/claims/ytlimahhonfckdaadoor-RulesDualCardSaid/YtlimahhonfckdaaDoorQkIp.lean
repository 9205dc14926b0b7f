/-
  Texts of the proof, one behind the other. The conditions stand with each of them.
-/
import Derived.RangeFuncLeaves
import Derived.RangeFuncCalls
import Derived.Test.YtlimahhonfckdaaDoorQkEp
import Derived.Test.YtlimahhonfckdaaDoorQkDp
import Derived.Test.YtlimahhonfckdaaDoorQkYp
namespace Go.Aw
set_option linter.unusedSimpArgs false
set_option linter.unusedVariables false
open Go.RowKit

variable {P : Program}

/-! ### Regions with an operation that is shown by hand -/
def OpX (P : Program) (kp : List Nat) (o : Oper) (s : St) (K : St → Prop) : Prop :=
  ∀ (B : Base) (a : Act) (w : World) (E : Env) (F : Nat → Prop) (ops : Array Oper) (Q : Exit → Act → World → Prop), B.keep = kp → Sim B s a w E F → (∀ d, o.dst = some d → d < a.tmps.size) →
    Region.wanted o (yielded ops a.tmps) = true ∧ o.wp P a w (fun a' w' => ∃ v s' E' F', a' = a.put o.dst v ∧ K s' ∧ Sim B s' a' w' E' F') Q
theorem opsC_sound {ops : Array Oper} {Q : Exit → Act → World → Prop} {B : Base} {n : Nat} (hd : dstsOk n ops = true) (rest : List Nat) : ∀ (l : List (Oper × Nat)) (s : St) (a : Act) (w : World) (E : Env) (F : Nat → Prop) (K : St → Prop), a.tmps.size = n → Sim B s a w E F →
    OpsVC P B.keep ops (l.map (·.1)) s K → (∀ p, p ∈ l → ops[p.2]? = some p.1) →
    (∀ a' w' s' E' F', K s' → Sim B s' a' w' E' F' → a'.tmps.size = n → wpOps P ops Q rest a' w') → wpOps P ops Q (l.map (·.2) ++ rest) a w
  | [], s, a, w, E, F, K, hn, hs, h, _, hq => hq a w s E F h hs hn
  | (o, i) :: l, s, a, w, E, F, K, hn, hs, h, hl, hq => by
    have ho : ops[i]? = some o := hl (o, i) (by simp)
    have ih := fun s a w E F hn hs h => opsC_sound (Q := Q) hd rest l s a w E F K hn hs h (fun p hp => hl p (by simp [hp])) hq
    have hdd : ∀ d, o.dst = some d → d < a.tmps.size := fun d hd' => by rw [hn]; exact dstsOk_spec hd ho d hd'
    simp only [List.map_cons, List.cons_append, wpOps, ho]
    simp only [List.map_cons, OpsVC] at h
    rcases op_sound (Q := Q) hs hdd h with ⟨v, s', hK, hs', hw⟩ | ⟨_, hw⟩
    · have ih' := ih s' _ w E F (by rw [size_put]; exact hn) hs' hK
      rcases hw with ⟨hw, hrun⟩ | ⟨hw, rfl⟩
      · rw [hw, if_pos rfl]
        refine .inl ?_
        unfold Oper.wp
        rw [hrun w (Keep.refl w)]
        exact ih'
      · rw [hw]
        exact ih'
    · rcases hw with ⟨hw, hwp⟩ | ⟨hw, s', F', hK, hs'⟩
      · rw [hw, if_pos rfl]
        exact .inl (Oper.wp_mono (fun a' w' ⟨_, v, s', E', F', ha, hK, hs'⟩ => by subst ha; exact ih s' _ w' E' F' (by rw [size_put]; exact hn) hs' hK) hwp)
      · rw [hw]
        exact ih s' _ w E F' (by rw [size_put]; exact hn) hs' hK
theorem awp_region4X {kp : List Nat} {n : Nat} {s : St} {Q : Exit → St → Prop} {id : Nat} {o0 o1 o2 o3 : Oper}
    (h : ∀ K : St → Prop, (∀ t, Q .normal t → K t) → contRun P kp #[o0, o1, o2, o3] (.vc [o0, o1, o2]) s fun t => OpX P kp o3 t K) : AWP P kp n (.region id #[o0, o1, o2, o3] false) s Q := by
  intro hok B a w E F h1 h2 h3
  subst h1
  refine wp_region ?_
  show wpOps P _ _ [0, 1, 2, 3] a w
  refine opsC_sound (n := n) hok [3] [(o0, 0), (o1, 1), (o2, 2)] s a w E F _ h2 h3 (h _ fun t ht => ht) (by simp) ?_
  intro a' w' s' E' F' hK hs hn
  have hdd : ∀ d, o3.dst = some d → d < a'.tmps.size := fun d hd' => by rw [hn]; exact dstsOk_spec (ops := #[o0, o1, o2, o3]) (i := 3) hok rfl d hd'
  obtain ⟨hw, hwp⟩ := hK B a' w' E' F' #[o0, o1, o2, o3] (fun e a' w' => (∀ ch, e ≠ .panic ch) ∧ e ≠ .outgrown ∧ ∃ s' E' F', Q e s' ∧ Sim B s' a' w' E' F' ∧ a'.tmps.size = n) rfl hs hdd
  simp only [wpOps, show (#[o0, o1, o2, o3] : Array Oper)[3]? = some o3 from rfl]
  rw [hw, if_pos rfl]
  refine .inl (Oper.wp_mono (fun a2 w2 ⟨v, s2, E2, F2, ha, hK2, hs2⟩ => ?_) hwp)
  subst ha
  exact ⟨by simp, by simp, s2, E2, F2, hK2, hs2, by rw [size_put]; exact hn⟩

/-! ### Regions within a round -/
theorem rowsIn_round {r : Nat} {m : Nat} {row : String} {args : Array Value} {w : World} {R : Value → World → Prop} (h : Rows P row args w R) : RowsIn (Fence.wide.inRound r) m P row args w R :=
  fun c cs _ => let ⟨v, w', q, s⟩ := h c cs; ⟨v, w', q, by rw [fenced_inRound]; exact stepsIn_wide.2 s⟩
theorem ops_in {r m : Nat} {ops : Array Oper} {Q : Exit → Act → World → Prop} (hQ : ¬ LetsOut Q) (hd : ∀ (i : Nat) (o : Oper), ops[i]? = some o → ∀ c, o.op ≠ .defer c) : ∀ (l : List Nat) (a : Act) (w : World), wpOps P ops Q l a w → wpOpsIn (Fence.wide.inRound r) m P ops Q l a w
  | [], a, w, h => h
  | i :: l, a, w, h => by
    have ih := ops_in (r := r) (m := m) hQ hd l
    simp only [wpOps] at h
    simp only [wpOpsIn]
    cases ho : ops[i]? with
    | none => rw [ho] at h; exact ih a w h
    | some o =>
      rw [ho] at h
      dsimp only at h ⊢
      split
      · rename_i hw
        rw [if_pos hw] at h
        rcases h with h | h
        · refine ⟨fun _ _ => trivial, ?_⟩
          rw [Oper.semAt_eq _ _ _ (hd i o ho)]
          unfold Oper.wp at h
          generalize (execOp a.eval o).run P w = res at h
          unfold Oper.upon at h
          unfold Oper.uponIn
          split at h
          · exact ih _ _ h
          · exact ih _ _ h
          · exact ih _ _ h
          · refine ⟨(fun hx => by cases hx), CallsIn.inRound r (callsIn_wide.2 (h.mono ?_))⟩
            intro e w2 he
            cases e with
            | returned v => exact ih _ _ he
            | panicked c => exact he
            | outgrown => exact he
          · exact ⟨(fun hx => by cases hx), rowsIn_round (h.mono fun v w2 hh => ih _ _ hh)⟩
          · exact h
          · exact h.elim
        · exact absurd h.2 hQ
      · rename_i hw
        rw [if_neg hw] at h
        exact ⟨fun _ _ => trivial, ih _ _ h⟩
def noDefer (ops : Array Oper) : Bool := ops.all fun o => match o.op with | .defer _ => false | _ => true
theorem noDefer_spec {ops : Array Oper} (h : noDefer ops = true) (i : Nat) (o : Oper) (ho : ops[i]? = some o) (c : Call) : o.op ≠ .defer c := fun e => by
  obtain ⟨hi, rfl⟩ := Array.getElem?_eq_some_iff.1 ho
  have := Array.all_eq_true.1 h i hi
  rw [e] at this
  cases this
theorem region_in {kp : List Nat} {n : Nat} {s : St} {Q0 : St → Prop} {id : Nat} {ops : Array Oper} (hok : dstsOk n ops = true) (hnd : noDefer ops = true) (h : contRun P kp ops (.vc ops.toList) s Q0)
    (r m : Nat) {B : Base} {a : Act} {w : World} {E : Env} {F : Nat → Prop} (h1 : B.keep = kp) (h2 : a.tmps.size = n) (h3 : Sim B s a w E F) :
    (Code.region id ops false).wpIn (Fence.wide.inRound r) m P (fun e a' w' => e = .normal ∧ ∃ s' E' F', Q0 s' ∧ Sim B s' a' w' E' F' ∧ a'.tmps.size = n) a w := by
  subst h1
  refine wpIn_region (ops_in (fun ⟨_, _, h⟩ => by cases h.1) (noDefer_spec hnd) _ a w ?_)
  refine ops_sound (ops := ops) (n := n) hok (List.range ops.size) s a w E F Q0 h2 h3 ?_ (by simp) fun a' w' s' E' F' hK hs hn => ⟨rfl, s', E', F', hK, hs, hn⟩
  have e : (List.range ops.size).filterMap (ops[·]?) = ops.toList := by
    apply List.ext_getElem?
    intro i
    have : ∀ (l : List Oper), (List.range l.length).filterMap (l[·]?) = l := fun l => by
      induction l with
      | nil => rfl
      | cons x r ih =>
        rw [List.length_cons, List.range_succ_eq_map, List.filterMap_cons]
        simp only [List.getElem?_cons_zero, List.filterMap_map, Function.comp_def, List.getElem?_cons_succ]
        rw [ih]
    have h2 := this ops.toList
    simp only [Array.length_toList, Array.getElem?_toList] at h2
    rw [h2]
  rw [e]
  exact h

/-! ### A walk goes on from the world where it stands -/
theorem Sim.rebase {B : Base} {s : St} {a : Act} {w : World} {E : Env} {F : Nat → Prop} (h : Sim B s a w E F) (kp : List Nat) (hk : ∀ i, i ∈ kp → i < s.heap.length) : Sim ⟨w, F, own E s.heap, E, kp, B.ds⟩ s a w E F :=
  ⟨⟨rfl, rfl, .refl _, Nat.le_refl _, fun _ h => h, fun _ h => .inl h, fun _ _ _ => rfl, h.rel.lt, h.rel.hr, fun id b e blk q1 q2 q3 q4 => .inr ⟨id, e, blk, q1, q2, q3, q4⟩,
    fun i hi => by
      have h1 := hk i hi
      rw [← h.rel.hr.len] at h1
      exact ⟨_, List.getElem?_eq_getElem h1, List.getElem?_eq_getElem h1⟩, fun _ _ h => h⟩, h.defers, h.tm⟩
theorem Rel.trans {B : Base} {s1 s2 : St} {w1 w2 : World} {E1 E2 : Env} {F1 F2 : Nat → Prop} {kp : List Nat} {ds : List Deferred} (h1 : Rel B s1 E1 F1 w1) (h2 : Rel ⟨w1, F1, own E1 s1.heap, E1, kp, ds⟩ s2 E2 F2 w2) (hk : ∀ i, i ∈ B.keep → i ∈ kp) :
    Rel B s2 E2 F2 w2 := by
  have hown : ∀ b, own E1 s1.heap b → B.w0.heap.size ≤ b ∨ B.own b := fun b ⟨id, e, blk, q1, q2, q3, q4⟩ => h1.src id b e blk q1 q2 q3 q4
  refine ⟨h2.os.trans h1.os, h2.tape.trans h1.tape, h2.output.trans h1.output, Nat.le_trans h1.size h2.size, fun b hb => h2.F0 b (h1.F0 b hb), fun b hb => ?_, fun b q1 q2 => ?_, h2.lt, h2.hr, fun id b e blk q1 q2 q3 q4 => ?_, fun i hi => ?_, fun b n h => h2.sz b n (h1.sz b n h)⟩
  · rcases h2.only b hb with h | h | h
    · exact h1.only b h
    · exact .inr (.inl (Nat.le_trans h1.size h))
    · exact .inr (hown b h)
  · refine (h2.same b (Nat.lt_of_lt_of_le q1 h1.size) fun h => ?_).trans (h1.same b q1 q2)
    rcases hown b h with h | h
    · omega
    · exact q2 h
  · rcases h2.src id b e blk q1 q2 q3 q4 with h | h
    · exact .inl (Nat.le_trans h1.size h)
    · exact hown b h
  · obtain ⟨e, q1, q2⟩ := h1.keep i hi
    obtain ⟨e', q3, q4⟩ := h2.keep i (hk i hi)
    dsimp only at q4
    rw [q1] at q4
    cases q4
    exact ⟨e, q3, q2⟩
structure Grow (X : Nat → Prop) (W W' : World) : Prop where
  os : W'.os = W.os
  tape : W'.tape = W.tape
  later : Later W W'
  size : W.heap.size ≤ W'.heap.size
  same : ∀ b, b < W.heap.size → ¬ X b → W'.heap[b]? = W.heap[b]?
  sz : ∀ b n, Sz W b n → Sz W' b n
theorem Grow.refl (X : Nat → Prop) (W : World) : Grow X W W := ⟨rfl, rfl, .refl _, Nat.le_refl _, fun _ _ _ => rfl, fun _ _ h => h⟩
theorem Grow.trans {X : Nat → Prop} {A B C : World} (h1 : Grow X A B) (h2 : Grow X B C) : Grow X A C :=
  ⟨h2.os.trans h1.os, h2.tape.trans h1.tape, h2.later.trans h1.later, Nat.le_trans h1.size h2.size, fun b hb hX => (h2.same b (Nat.lt_of_lt_of_le hb h1.size) hX).trans (h1.same b hb hX), fun b n h => h2.sz b n (h1.sz b n h)⟩
theorem Grow.mono {X Y : Nat → Prop} {A B : World} (h : Grow X A B) (hXY : ∀ b, X b → Y b) : Grow Y A B := ⟨h.os, h.tape, h.later, h.size, fun b hb hY => h.same b hb fun hX => hY (hXY b hX), h.sz⟩
theorem Grow.alloc (X : Nat → Prop) (W : World) (o : Obj) : Grow X W (W.alloc o) :=
  ⟨rfl, rfl, ⟨rfl⟩, by simp, fun b hb _ => Below.heap_alloc W o b hb, fun b n ⟨cs, t, h1, h2⟩ => ⟨cs, t, (Below.heap_alloc W o b (Array.getElem?_eq_some_iff.1 h1).1).trans h1, h2⟩⟩
theorem Grow.putObj {X : Nat → Prop} {W : World} {l : Nat} {o : Obj} (o' : Obj) (hX : X l) (ho : W.heap[l]? = some o) (hc : o.isCells = false) : Grow X W (W.putObj l o') :=
  ⟨rfl, rfl, ⟨rfl⟩, by simp, fun b _ hb => World.putObj_heap_other (fun e => hb (e ▸ hX)), fun b n ⟨cs, t, h1, h2⟩ => by
    have hne : b ≠ l := fun e => by subst e; rw [ho] at h1; cases h1; cases hc
    exact ⟨cs, t, (World.putObj_heap_other hne).trans h1, h2⟩⟩
theorem Rel.grow {B : Base} {s : St} {E : Env} {F : Nat → Prop} {w : World} (h : Rel B s E F w) : Grow B.own B.w0 w := ⟨h.os, h.tape, h.output, h.size, h.same, h.sz⟩
theorem Sim.grown {B : Base} {s : St} {a : Act} {w w' : World} {E : Env} {F X : Nat → Prop} (h : Sim B s a w E F) (hg : Grow X w w') (hX : ∀ b, X b → ¬ F b ∧ ¬ own E s.heap b) : Sim ⟨w', F, own E s.heap, E, [], B.ds⟩ s a w' E F := by
  have hr := h.rel
  have hF : ∀ b, F b → w'.heap[b]? = w.heap[b]? := fun b hb => hg.same b (hr.lt b hb) fun hx => (hX b hx).1 hb
  have evo : Evo E F w E F w' (fun _ => True) := ⟨fun _ h => h, hF, fun _ _ _ h => h, hg.sz⟩
  refine ⟨⟨rfl, rfl, .refl _, Nat.le_refl _, fun _ h => h, fun _ h => .inl h, fun _ _ _ => rfl, hr.lt.evo (fun _ h => h) hF (fun b hb => Nat.lt_of_lt_of_le (hr.lt b hb) hg.size), ⟨hr.hr.len, ?_, ?_, hr.hr.inj⟩, ?_, (fun i hi => by cases hi), fun _ _ h => h⟩, h.defers, fun i x hx => ?_⟩
  · intro id e b h1 h2
    cases hl : b.live with
    | false => cases b <;> simp [Blk.live] at hl; trivial
    | true =>
      exact (hr.hr.blk id e b h1 h2).evo evo (fun _ _ => trivial) fun c hc => by
        obtain ⟨q1, q2⟩ := hr.hr.free id c e b h1 hc h2 hl
        exact hg.same c q1 fun hx => (hX c hx).2 ⟨id, e, b, h1, h2, hl, hc⟩
  · intro id b e blk h1 h2 h3 h4
    obtain ⟨q1, q2⟩ := hr.hr.free id b e blk h1 h2 h3 h4
    exact ⟨Nat.lt_of_lt_of_le q1 hg.size, q2⟩
  · exact fun id b e blk q1 q2 q3 q4 => .inr ⟨id, e, blk, q1, q2, q3, q4⟩
  · obtain ⟨v, hv, hx'⟩ := h.tm i x hx
    exact ⟨v, hv, hx'.evo evo (fun _ _ => trivial)⟩
end Go.Aw

namespace Go.Aw
set_option linter.unusedSimpArgs false
set_option linter.unusedVariables false
open Go.RowKit

variable {P : Program}

def OpX2 (P : Program) (kp : List Nat) (ops : Array Oper) (o : Oper) (s : St) (K : St → Prop) : Prop :=
  ∀ (B : Base) (a : Act) (w : World) (E : Env) (F : Nat → Prop) (Q : Exit → Act → World → Prop), B.keep = kp → Sim B s a w E F → (∀ d, o.dst = some d → d < a.tmps.size) →
    (Region.wanted o (yielded ops a.tmps) = true ∧ o.wp P a w (fun a' w' => ∃ v s' E' F', a' = a.put o.dst v ∧ K s' ∧ Sim B s' a' w' E' F') Q) ∨
    (Region.wanted o (yielded ops a.tmps) = false ∧ ∃ s', K s' ∧ Sim B s' (a.put o.dst undef) w E F)
theorem awp_regionX {kp : List Nat} {n : Nat} {s : St} {Q : Exit → St → Prop} {id : Nat} {ops : Array Oper} (i : Nat) {o : Oper} (ho : ops.toList[i]? = some o)
    (h : ∀ K : St → Prop, (∀ t, Q .normal t → K t) → contRun P kp ops (.vc (ops.toList.take i)) s fun t => OpX2 P kp ops o t fun u => contRun P kp ops (.vc (ops.toList.drop (i + 1))) u K) : AWP P kp n (.region id ops false) s Q := by
  intro hok B a w E F h1 h2 h3
  subst h1
  refine wp_region ?_
  have hi : i < ops.size := by have := (List.getElem?_eq_some_iff.1 ho).1; simpa using this
  have hoi : ops[i]? = some o := by simpa using ho
  have hl1 : ((ops.toList.take i).zipIdx).map (·.2) = List.range i := by
    rw [List.zipIdx_map_snd, List.range_eq_range', List.length_take]
    simp; omega
  have hl2 : ((ops.toList.drop (i + 1)).zipIdx (i + 1)).map (·.2) = List.range' (i + 1) (ops.size - (i + 1)) := by
    rw [List.zipIdx_map_snd, List.length_drop, Array.length_toList]
  have hrange : List.range ops.size = List.range i ++ i :: List.range' (i + 1) (ops.size - (i + 1)) := by
    rw [List.range_eq_range', List.range_eq_range']
    have e1 := List.range'_append_1 (s := 0) (m := i) (n := ops.size - i)
    rw [Nat.zero_add, show i + (ops.size - i) = ops.size by omega] at e1
    rw [← e1]
    congr 1
    obtain ⟨m, hm⟩ : ∃ m, ops.size - i = m + 1 := ⟨ops.size - i - 1, by omega⟩
    rw [hm, List.range'_succ, show ops.size - (i + 1) = m by omega]
  have hm1 : ∀ p : Oper × Nat, p ∈ (ops.toList.take i).zipIdx → ops[p.2]? = some p.1 := fun ⟨x, j⟩ hp => by
    obtain ⟨q1, q2⟩ := List.mk_mem_zipIdx_iff_le_and_getElem?_sub.1 hp
    rw [Nat.sub_zero, List.getElem?_take] at q2
    split at q2
    · simpa using q2
    · cases q2
  have hm2 : ∀ p : Oper × Nat, p ∈ (ops.toList.drop (i + 1)).zipIdx (i + 1) → ops[p.2]? = some p.1 := fun ⟨x, j⟩ hp => by
    obtain ⟨q1, q2⟩ := List.mk_mem_zipIdx_iff_le_and_getElem?_sub.1 hp
    rw [List.getElem?_drop, show i + 1 + (j - (i + 1)) = j by omega] at q2
    simpa using q2
  have fin : ∀ (K : St → Prop), (∀ t, Q .normal t → K t) → True := fun _ _ => trivial
  rw [hrange, ← hl1, show i :: List.range' (i + 1) (ops.size - (i + 1)) = i :: ((ops.toList.drop (i + 1)).zipIdx (i + 1)).map (·.2) by rw [hl2]]
  have hh := h (fun t => Q .normal t) fun t ht => ht
  refine opsC_sound (n := n) hok _ _ s a w E F (fun t => OpX2 P B.keep ops o t fun u => contRun P B.keep ops (.vc (ops.toList.drop (i + 1))) u fun t => Q .normal t) h2 h3 (by rw [List.zipIdx_map_fst]; exact hh) hm1 ?_
  intro a1 w1 s1 E1 F1 hK hs hn
  have hdd : ∀ d, o.dst = some d → d < a1.tmps.size := fun d hd' => by rw [hn]; exact dstsOk_spec hok hoi d hd'
  have rest : ∀ (a2 : Act) (w2 : World) (s2 : St) (E2 : Env) (F2 : Nat → Prop), contRun P B.keep ops (.vc (ops.toList.drop (i + 1))) s2 (fun t => Q .normal t) → Sim B s2 a2 w2 E2 F2 → a2.tmps.size = n →
      wpOps P ops (fun e a' w' => (∀ ch, e ≠ .panic ch) ∧ e ≠ .outgrown ∧ ∃ s' E' F', Q e s' ∧ Sim B s' a' w' E' F' ∧ a'.tmps.size = n) (((ops.toList.drop (i + 1)).zipIdx (i + 1)).map (·.2)) a2 w2 := by
    intro a2 w2 s2 E2 F2 hc hs2 hn2
    have := opsC_sound (P := P) (Q := fun e a' w' => (∀ ch, e ≠ .panic ch) ∧ e ≠ .outgrown ∧ ∃ s' E' F', Q e s' ∧ Sim B s' a' w' E' F' ∧ a'.tmps.size = n) (n := n) hok [] ((ops.toList.drop (i + 1)).zipIdx (i + 1)) s2 a2 w2 E2 F2 (fun t => Q .normal t) hn2 hs2 (by rw [List.zipIdx_map_fst]; exact hc) hm2 ?_
    · simpa using this
    · intro a3 w3 s3 E3 F3 hq hs3 hn3
      exact ⟨by simp, by simp, s3, E3, F3, hq, hs3, hn3⟩
  simp only [wpOps, hoi]
  rcases hK B a1 w1 E1 F1 _ rfl hs hdd with ⟨hw, hwp⟩ | ⟨hw, s', hK', hs'⟩
  · rw [hw, if_pos rfl]
    exact .inl (Oper.wp_mono (fun a2 w2 ⟨v, s2, E2, F2, ha, hK2, hs2⟩ => by subst ha; exact rest _ w2 s2 E2 F2 hK2 hs2 (by rw [size_put]; exact hn)) hwp)
  · rw [hw]
    exact rest _ w1 s' E1 F1 hK' hs' (by rw [size_put]; exact hn)

def methodAt (P : Program) (t : TypeId) (name : String) : Option (FuncId × Bool) :=
  match (P.info? t).bind fun i => i.methods.find? (·.name == name) with
  | some m => if m.path.isEmpty then m.func else none
  | none => none
theorem opX2_off {kp : List Nat} {ops : Array Oper} {o : Oper} {s : St} {K : St → Prop} {x : V} (hg : s.guardOf ops o = some false) (hK : K (s.put o.dst (.opt false x))) : OpX2 P kp ops o s K := by
  intro B a w E F Q h1 h2 h3
  refine .inr ⟨guardOf_sound h2 hg, _, hK, Sim.put h2 (.opt false _ _ (fun h => by cases h) fun _ => rfl) h3⟩
theorem run_wrapnil (t : TypeId) (ad : Addr) (a b : String) (w : World) : (Builtin.ssaWrapNilChk_ #[t] t #[.pointer (some ad), strVal a, strVal b]).run P w = .ok (.pointer (some ad)) w := rfl
theorem run_method {t elem : TypeId} {name : String} {f : FuncId} {pr : Bool} (hm : methodAt P t name = some (f, pr)) (hu : P.underlying t = some (.pointer elem)) (fuel : Nat) (ad : Addr) (w : World) (u : Value)
    (hl : pr = false → (Instr.loadAt elem (.pointer (some ad))).run P w = .ok u w) :
    (method (fuel + 1) t (.pointer (some ad)) name).run P w = .ok (f, if pr then .pointer (some ad) else u) w := by
  unfold methodAt at hm
  split at hm
  · rename_i m hq
    split at hm
    · rename_i hp
      simp only [Option.bind_eq_some_iff] at hq
      obtain ⟨i, hi, hfi⟩ := hq
      have hpath : m.path.toList = [] := by simpa using hp
      have hpe : m.path = #[] := by simpa using hp
      cases pr with
      | true =>
        simp [method, Sem.run_bind, typeInfo, hi, hfi, hpath, follow, hm, receiverAt, run_underlying hu w, Place.get]
      | false =>
        have hl' := hl rfl
        simp only [Instr.loadAt, Instr.sureAddr, Sem.run_bind, Sem.run_pure, Result.andThen_ok] at hl'
        simp [method, Sem.run_bind, typeInfo, hi, hfi, follow, hm, receiverAt, run_underlying hu w, Place.get, hpe, run_wrapnil, asAddr, hl']
    · cases hm
  · cases hm

def kpM (H : List Blk) (mv : Nat) : List Nat := (List.range H.length).filter fun i => i != mv
theorem heap_mergeM {B : Base} {s : St} {a : Act} {w w' : World} {E E' : Env} {F F' : Nat → Prop} {H' : List Blk} {mv : Nat} (hs : Sim B s a w E F) (hmv : mv ∉ B.keep)
    (hr : Rel ⟨w, F, own E s.heap, E, kpM s.heap mv, []⟩ ⟨[], H'⟩ E' F' w') : Sim B ⟨tmScr mv s.tm, H'⟩ a w' E' F' := by
  have hs' := hs.rel
  have hown : ∀ b, own E s.heap b → B.w0.heap.size ≤ b ∨ B.own b := fun b ⟨id, e, blk, h1, h2, h3, h4⟩ => hs'.src id b e blk h1 h2 h3 h4
  have hkeep : ∀ (j : Nat) (e : En), j ≠ mv → E[j]? = some e → E'[j]? = some e := fun j e hne h => by
    have hj : j < s.heap.length := by rw [← hs'.hr.len]; exact (List.getElem?_eq_some_iff.1 h).1
    obtain ⟨e', h1, h2⟩ := hr.keep j (List.mem_filter.2 ⟨List.mem_range.2 hj, by simpa using hne⟩)
    dsimp only at h2
    rw [h] at h2
    cases h2
    exact h1
  have evo : Evo E F w E' F' w' (fun j => j ≠ mv) := ⟨hr.F0, fun b hb => hr.same b (hs'.lt b hb) (fun ⟨id, e, blk, h1, h2, h3, h4⟩ => (hs'.hr.free id b e blk h1 h4 h2 h3).2 hb), fun j e hj h => hkeep j e hj h, hr.sz⟩
  refine ⟨⟨hr.os.trans hs'.os, hr.tape.trans hs'.tape, hr.output.trans hs'.output, Nat.le_trans hs'.size hr.size, fun b hb => hr.F0 b (hs'.F0 b hb), fun b hb => ?_, fun b h1 h2 => ?_, hr.lt, hr.hr, fun id b e blk h1 h2 h3 h4 => ?_, fun i hi => ?_, fun b n h => hr.sz b n (hs'.sz b n h)⟩, hs.defers, fun i x hx => ?_⟩
  · rcases hr.only b hb with h | h | h
    · exact hs'.only b h
    · exact .inr (.inl (Nat.le_trans hs'.size h))
    · exact .inr (hown b h)
  · refine (hr.same b (Nat.lt_of_lt_of_le h1 hs'.size) fun h => ?_).trans (hs'.same b h1 h2)
    rcases hown b h with h | h
    · omega
    · exact h2 h
  · rcases hr.src id b e blk h1 h2 h3 h4 with h | h
    · exact .inl (Nat.le_trans hs'.size h)
    · exact hown b h
  · obtain ⟨e, h1, h2⟩ := hs'.keep i hi
    exact ⟨e, hkeep i e (fun e => hmv (e ▸ hi)) h1, h2⟩
  · dsimp only at hx
    rw [tget_scr, Option.map_eq_some_iff] at hx
    obtain ⟨y, hy, rfl⟩ := hx
    obtain ⟨v, hv, h⟩ := hs.tm i y hy
    exact ⟨v, hv, scr_VR evo h⟩
theorem enter_X {B : Base} {s : St} {a : Act} {w : World} {E : Env} {F : Nat → Prop} {o : Oper} {f : FuncId} {args : List V} {cargs : Array Value} {K : St → Prop} {R : V → List Blk → Prop} {Q : Exit → Act → World → Prop}
    (hs : Sim B s a w E F) (hd : ∀ d, o.dst = some d → d < a.tmps.size) (hrun : (execOp a.eval o).run P w = .ok (.enter f cargs) w) (hcr : CR E F w args cargs)
    (hac : AC P f args s.heap (List.range s.heap.length) R) (hK : ∀ x H', R x H' → K ((⟨s.tm, H'⟩ : St).put o.dst x)) :
    o.wp P a w (fun a' w' => ∃ v s' E' F', a' = a.put o.dst v ∧ K s' ∧ Sim B s' a' w' E' F') Q := by
  have hcalls := hac.2 w _ E F hs.rel.hr hs.rel.lt (fun i hi => List.mem_range.1 hi) hcr
  unfold Oper.wp
  rw [hrun]
  refine hcalls.mono ?_
  rintro e w' ⟨v, x, H', E', F', rfl, hR, hrel, hx⟩
  exact ⟨v, _, E', F', rfl, hK x H' hR, Sim.put (heap_merge hs hrel) hx hd⟩
theorem enter_M {B : Base} {s : St} {a : Act} {w : World} {E : Env} {F : Nat → Prop} {o : Oper} {f : FuncId} {args : List V} {cargs : Array Value} {K : St → Prop} {R : V → List Blk → Prop} {Q : Exit → Act → World → Prop} {mv : Nat}
    (hs : Sim B s a w E F) (hd : ∀ d, o.dst = some d → d < a.tmps.size) (hmv : mv ∉ B.keep) (hrun : (execOp a.eval o).run P w = .ok (.enter f cargs) w) (hcr : CR E F w args cargs)
    (hac : AC P f args s.heap (kpM s.heap mv) R) (hK : ∀ x H', R x H' → K ((⟨tmScr mv s.tm, H'⟩ : St).put o.dst x)) :
    o.wp P a w (fun a' w' => ∃ v s' E' F', a' = a.put o.dst v ∧ K s' ∧ Sim B s' a' w' E' F') Q := by
  have hcalls := hac.2 w _ E F hs.rel.hr hs.rel.lt (fun i hi => List.mem_range.1 (List.mem_filter.1 hi).1) hcr
  unfold Oper.wp
  rw [hrun]
  refine hcalls.mono ?_
  rintro e w' ⟨v, x, H', E', F', rfl, hR, hrel, hx⟩
  exact ⟨v, _, E', F', rfl, hK x H' hR, Sim.put (heap_mergeM hs hmv hrel) hx hd⟩
theorem invoke_run {B : Base} {s : St} {a : Act} {w : World} {E : Env} {F : Nat → Prop} {recv : Operand} {name : String} {args : Array Operand} {ats : Array TypeId} {d : Option Tmp} {ty : TypeId} {ps : String} {af : Array Edge} {g : Option (Nat × Bool)}
    {t elem : TypeId} {f : FuncId} {pr : Bool} {id row off : Nat} {y : V} {p ob : Prop} (hcl : callable P f)
    (hr : (s.ev recv).strip = (p, .iface t (.ptr id row off))) (hp : p) (hm : methodAt P t name = some (f, pr)) (hu : P.underlying t = some (.pointer elem))
    (hl : pr = false → loadQ P s.heap elem (.ptr id row off) = some (ob, y) ∧ ob) (hst : (stripAll s args.toList).1) (hs : Sim B s a w E F) :
    ∃ cargs, (execOp a.eval { dst := d, op := .call { callee := .invoke recv name, args := args, argTypes := ats }, type := ty, pos := ps, after := af, guard := g }).run P w = .ok (.enter f cargs) w ∧
      CR E F w ((if pr then .ptr id row off else y) :: (stripAll s args.toList).2) cargs := by
  obtain ⟨fn, hfn, hnm, hbd⟩ := hcl
  have hcf : ∀ cargs, (callFunc f cargs).run P w = .ok (.enter f cargs) w := fun cargs => by
    simp only [callFunc, Sem.run_bind, run_program, Result.andThen_ok, hfn, hnm, hbd, Bool.false_eq_true, if_false]
    rfl
  have e1 := V.strip_sound (ev_sound hs recv) (by rw [hr]; exact hp)
  rw [hr] at e1
  obtain ⟨q1, q2⟩ := stripAll_sound hs args.toList hst
  obtain ⟨rv, hrun, hrv⟩ : ∃ rv, (execOp a.eval { dst := d, op := .call { callee := .invoke recv name, args := args, argTypes := ats }, type := ty, pos := ps, after := af, guard := g }).run P w = .ok (.enter f (#[rv] ++ args.map a.eval)) w ∧ VR E F w (if pr then .ptr id row off else y) rv := by
    generalize hv : a.eval recv = v at e1
    cases e1 with
    | iface _ _ v hx =>
      have key : ∀ (ad : Addr), v = .pointer (some ad) → ∀ u, (pr = false → (Instr.loadAt elem (.pointer (some ad))).run P w = .ok u w) →
          (execOp a.eval { dst := d, op := .call { callee := .invoke recv name, args := args, argTypes := ats }, type := ty, pos := ps, after := af, guard := g }).run P w = .ok (.enter f (#[if pr then .pointer (some ad) else u] ++ args.map a.eval)) w := by
        rintro ad rfl u hul
        have hmt := run_method (P := P) (t := t) (name := name) hm hu (P.types.size + Made.depth - 1) ad w u hul
        have hfuel : P.types.size + Made.depth - 1 + 1 = P.types.size + Made.depth := by
          have : 0 < Made.depth := by decide
          omega
        rw [hfuel] at hmt
        have h0 : (#[Value.iface t (.pointer (some ad))] ++ Array.map a.eval args)[0]? = some (Value.iface t (.pointer (some ad))) := by
          rw [Array.getElem?_append_left (by simp)]
          rfl
        have h1 : (Array.map a.eval args).extract 0 args.size = Array.map a.eval args := by
          have := Array.extract_size (xs := Array.map a.eval args)
          rwa [Array.size_map] at this
        simp [execOp, resolve, hv, invoke, callMethod, Sem.run_bind, run_program, h0, h1, hmt, hcf]
      cases hx with
      | ptr _ _ _ b k m hE hrow =>
        cases pr with
        | true => exact ⟨_, key _ rfl undef (fun h => by cases h), .ptr id row off b k m hE hrow⟩
        | false =>
          obtain ⟨hq, hob⟩ := hl rfl
          obtain ⟨u, hu1, hu2⟩ := loadQ_sound (P := P) hq hob hs.rel.hr hs.rel.lt (VR.ptr id row off b k m hE hrow)
          exact ⟨u, key _ rfl u (fun _ => hu2 w (Keep.refl w)), hu1⟩
  refine ⟨_, hrun, by simp [q1]; omega, fun j x v hx hv => ?_⟩
  cases j with
  | zero =>
    rw [Array.getElem?_append_left (by simp)] at hv
    simp at hx hv
    subst hx hv
    exact hrv
  | succ j =>
    rw [Array.getElem?_append_right (by simp)] at hv
    simp only [List.getElem?_cons_succ] at hx
    exact q2 j x v hx (by simpa using hv)
theorem invoke_X {kp : List Nat} {ops : Array Oper} {s : St} {K : St → Prop} {recv : Operand} {name : String} {args : Array Operand} {ats : Array TypeId} {d : Option Tmp} {ty : TypeId} {ps : String} {af : Array Edge} {g : Option (Nat × Bool)}
    {t elem : TypeId} {f : FuncId} {pr : Bool} {id row off : Nat} {y : V} {p ob : Prop} {R : V → List Blk → Prop}
    (hg : s.guardOf ops { dst := d, op := .call { callee := .invoke recv name, args := args, argTypes := ats }, type := ty, pos := ps, after := af, guard := g } = some true)
    (hr : (s.ev recv).strip = (p, .iface t (.ptr id row off))) (hp : p) (hm : methodAt P t name = some (f, pr)) (hu : P.underlying t = some (.pointer elem))
    (hl : pr = false → loadQ P s.heap elem (.ptr id row off) = some (ob, y) ∧ ob) (hst : (stripAll s args.toList).1)
    (hac : AC P f ((if pr then .ptr id row off else y) :: (stripAll s args.toList).2) s.heap (List.range s.heap.length) R)
    (hK : ∀ x H', R x H' → K ((⟨s.tm, H'⟩ : St).put d x)) :
    OpX2 P kp ops { dst := d, op := .call { callee := .invoke recv name, args := args, argTypes := ats }, type := ty, pos := ps, after := af, guard := g } s K := by
  intro B a w E F Q h1 hs hd
  obtain ⟨cargs, hrun, hcr⟩ := invoke_run (d := d) (ats := ats) (ty := ty) (ps := ps) (af := af) (g := g) hac.1 hr hp hm hu hl hst hs
  exact .inl ⟨guardOf_sound hs hg, enter_X hs hd hrun hcr hac hK⟩
theorem invoke_M {kp : List Nat} {ops : Array Oper} {s : St} {K : St → Prop} {recv : Operand} {name : String} {args : Array Operand} {ats : Array TypeId} {d : Option Tmp} {ty : TypeId} {ps : String} {af : Array Edge} {g : Option (Nat × Bool)}
    {t elem : TypeId} {f : FuncId} {pr : Bool} {id row off : Nat} {y : V} {p ob : Prop} {R : V → List Blk → Prop} (mv : Nat) (hmv : mv ∉ kp)
    (hg : s.guardOf ops { dst := d, op := .call { callee := .invoke recv name, args := args, argTypes := ats }, type := ty, pos := ps, after := af, guard := g } = some true)
    (hr : (s.ev recv).strip = (p, .iface t (.ptr id row off))) (hp : p) (hm : methodAt P t name = some (f, pr)) (hu : P.underlying t = some (.pointer elem))
    (hl : pr = false → loadQ P s.heap elem (.ptr id row off) = some (ob, y) ∧ ob) (hst : (stripAll s args.toList).1)
    (hac : AC P f ((if pr then .ptr id row off else y) :: (stripAll s args.toList).2) s.heap (kpM s.heap mv) R)
    (hK : ∀ x H', R x H' → K ((⟨tmScr mv s.tm, H'⟩ : St).put d x)) :
    OpX2 P kp ops { dst := d, op := .call { callee := .invoke recv name, args := args, argTypes := ats }, type := ty, pos := ps, after := af, guard := g } s K := by
  intro B a w E F Q h1 hs hd
  obtain ⟨cargs, hrun, hcr⟩ := invoke_run (d := d) (ats := ats) (ty := ty) (ps := ps) (af := af) (g := g) hac.1 hr hp hm hu hl hst hs
  exact .inl ⟨guardOf_sound hs hg, enter_M hs hd (by rw [h1]; exact hmv) hrun hcr hac hK⟩
theorem call_M {kp : List Nat} {ops : Array Oper} {s : St} {K : St → Prop} {args : Array Operand} {ats : Array TypeId} {d : Option Tmp} {ty : TypeId} {ps : String} {af : Array Edge} {f : FuncId} {R : V → List Blk → Prop} (mv : Nat) (hmv : mv ∉ kp)
    (hst : (stripAll s args.toList).1) (hac : AC P f (stripAll s args.toList).2 s.heap (kpM s.heap mv) R) (hK : ∀ x H', R x H' → K ((⟨tmScr mv s.tm, H'⟩ : St).put d x)) :
    OpX2 P kp ops { dst := d, op := .call { callee := .value (.func f), args := args, argTypes := ats }, type := ty, pos := ps, after := af, guard := none } s K := by
  intro B a w E F Q h1 hs hd
  refine .inl ⟨rfl, ?_⟩
  obtain ⟨fn, hfn, hnm, hbd⟩ := hac.1
  have hcf : ∀ cargs, (callFunc f cargs).run P w = .ok (.enter f cargs) w := fun cargs => by
    simp only [callFunc, Sem.run_bind, run_program, Result.andThen_ok, hfn, hnm, hbd, Bool.false_eq_true, if_false]
    rfl
  obtain ⟨q1, q2⟩ := stripAll_sound hs args.toList hst
  have hf : a.eval (.func f) = .func (.func f) #[] #[] := rfl
  refine enter_M hs hd (by rw [h1]; exact hmv) (cargs := args.map a.eval) ?_ ⟨by simp [q1], fun j x v hx hv => q2 j x v hx (by simpa using hv)⟩ hac hK
  simp [execOp, resolve, hf, Deferred.ofValue, invoke, hcf]

theorem heap_mergeP {B : Base} {s : St} {a : Act} {w w' : World} {E E' : Env} {F F' : Nat → Prop} {H1 T H' : List Blk} {mv : Nat} (hs : Sim B s a w E F) (hH : s.heap = H1 ++ T) (hl : H'.length = H1.length) (hmv : mv ∉ B.keep)
    (hT : ∀ b, b ∈ T → ∀ i, Blk.has i b = false) (hr : Rel ⟨w, F, own (E.take H1.length) H1, E.take H1.length, kpM H1 mv, []⟩ ⟨[], H'⟩ E' F' w') : Sim B ⟨tmScr mv s.tm, H' ++ T⟩ a w' (E' ++ E.drop H1.length) F' := by
  have hs' := hs.rel
  have hlen : E.length = H1.length + T.length := by rw [hs'.hr.len, hH, List.length_append]
  have hlen' : E'.length = H1.length := by rw [hr.hr.len]; exact hl
  have hE1 : ∀ j, j < H1.length → (E.take H1.length)[j]? = E[j]? := fun j hj => List.getElem?_take_of_lt hj
  have hH1 : ∀ j, j < H1.length → s.heap[j]? = H1[j]? := fun j hj => by rw [hH, List.getElem?_append_left hj]
  have hHT : ∀ j, H1.length ≤ j → s.heap[j]? = T[j - H1.length]? := fun j hj => by rw [hH, List.getElem?_append_right hj]
  have hup : ∀ b, own (E.take H1.length) H1 b → own E s.heap b := fun b ⟨id, e, blk, q1, q2, q3, q4⟩ => by
    have hj := (List.getElem?_eq_some_iff.1 q2).1
    exact ⟨id, e, blk, by rw [← hE1 id hj]; exact q1, by rw [hH1 id hj]; exact q2, q3, q4⟩
  have hown : ∀ b, own E s.heap b → B.w0.heap.size ≤ b ∨ B.own b := fun b ⟨id, e, blk, h1, h2, h3, h4⟩ => hs'.src id b e blk h1 h2 h3 h4
  have hEget : ∀ j, j < H1.length → (E' ++ E.drop H1.length)[j]? = E'[j]? := fun j hj => List.getElem?_append_left (by omega)
  have hEget2 : ∀ j, H1.length ≤ j → (E' ++ E.drop H1.length)[j]? = E[j]? := fun j hj => by
    rw [List.getElem?_append_right (by omega), List.getElem?_drop]
    congr 1
    omega
  have hHget : ∀ j, j < H1.length → (H' ++ T)[j]? = H'[j]? := fun j hj => List.getElem?_append_left (by omega)
  have hHget2 : ∀ j, H1.length ≤ j → (H' ++ T)[j]? = s.heap[j]? := fun j hj => by
    rw [List.getElem?_append_right (by omega), hHT j hj, hl]
  have hFo : ∀ b, F b → ¬ own (E.take H1.length) H1 b := fun b hb ho => by
    obtain ⟨id, e, blk, q1, q2, q3, q4⟩ := hup b ho
    exact (hs'.hr.free id b e blk q1 q4 q2 q3).2 hb
  have hno : ∀ (id c : Nat) (e : En) (blk : Blk), H1.length ≤ id → E[id]? = some e → s.heap[id]? = some blk → blk.live = true → e.blk = some c → ¬ own (E.take H1.length) H1 c := fun id c e blk hid h1 h2 h3 h4 ⟨id', e', blk', q1, q2, q3, q4⟩ => by
    have hj := (List.getElem?_eq_some_iff.1 q2).1
    have := hs'.hr.inj id' id c e' e blk' blk (by rw [← hE1 id' hj]; exact q1) h1 q4 h4 (by rw [hH1 id' hj]; exact q2) h2 q3 h3
    omega
  have hkeep : ∀ (j : Nat) (e : En), j ≠ mv → E[j]? = some e → (E' ++ E.drop H1.length)[j]? = some e := fun j e hne h => by
    rcases Nat.lt_or_ge j H1.length with hj | hj
    · obtain ⟨e', h1, h2⟩ := hr.keep j (List.mem_filter.2 ⟨List.mem_range.2 hj, by simpa using hne⟩)
      dsimp only at h2
      rw [hE1 j hj, h] at h2
      cases h2
      rw [hEget j hj]
      exact h1
    · rw [hEget2 j hj]
      exact h
  have evo : Evo E F w (E' ++ E.drop H1.length) F' w' (fun j => j ≠ mv) := ⟨hr.F0, fun b hb => hr.same b (hs'.lt b hb) (hFo b hb), fun j e hj h => hkeep j e hj h, hr.sz⟩
  have evo0 : Evo E F w (E' ++ E.drop H1.length) F' w' (fun _ => False) := ⟨hr.F0, fun b hb => hr.same b (hs'.lt b hb) (hFo b hb), fun j e hj h => hj.elim, hr.sz⟩
  have evo1 : Evo E' F' w' (E' ++ E.drop H1.length) F' w' (fun _ => True) := ⟨fun _ h => h, fun _ _ => rfl, fun j e _ h => by
    have hj := (List.getElem?_eq_some_iff.1 h).1
    rw [hEget j (by omega)]
    exact h, fun _ _ h => h⟩
  refine ⟨⟨hr.os.trans hs'.os, hr.tape.trans hs'.tape, hr.output.trans hs'.output, Nat.le_trans hs'.size hr.size, fun b hb => hr.F0 b (hs'.F0 b hb), fun b hb => ?_, fun b h1 h2 => ?_, hr.lt, ⟨?_, ?_, ?_, ?_⟩, fun id b e blk h1 h2 h3 h4 => ?_, fun i hi => ?_, fun b n h => hr.sz b n (hs'.sz b n h)⟩, hs.defers, fun i x hx => ?_⟩
  · rcases hr.only b hb with h | h | h
    · exact hs'.only b h
    · exact .inr (.inl (Nat.le_trans hs'.size h))
    · exact .inr (hown b (hup b h))
  · refine (hr.same b (Nat.lt_of_lt_of_le h1 hs'.size) fun h => ?_).trans (hs'.same b h1 h2)
    rcases hown b (hup b h) with h | h
    · omega
    · exact h2 h
  · simp only [List.length_append, List.length_drop]
    omega
  · intro id e b h1 h2
    rcases Nat.lt_or_ge id H1.length with hj | hj
    · rw [hEget id hj] at h1
      dsimp only at h2
      rw [hHget id hj] at h2
      exact (hr.hr.blk id e b h1 h2).evo evo1 (fun _ _ => trivial) fun _ _ => rfl
    · rw [hEget2 id hj] at h1
      dsimp only at h2
      rw [hHget2 id hj] at h2
      cases hlv : b.live with
      | false => cases b <;> simp [Blk.live] at hlv; trivial
      | true =>
        have hb : b ∈ T := by rw [hHT id hj] at h2; exact List.mem_of_getElem? h2
        refine (hs'.hr.blk id e b h1 h2).evo evo0 (fun i hi => by rw [hT b hb i] at hi; cases hi) fun c hc => ?_
        exact hr.same c (hs'.hr.free id c e b h1 hc h2 hlv).1 (hno id c e b hj h1 h2 hlv hc)
  · intro id c e b h1 hc h2 hlv
    rcases Nat.lt_or_ge id H1.length with hj | hj
    · rw [hEget id hj] at h1
      dsimp only at h2
      rw [hHget id hj] at h2
      exact hr.hr.free id c e b h1 hc h2 hlv
    · rw [hEget2 id hj] at h1
      dsimp only at h2
      rw [hHget2 id hj] at h2
      obtain ⟨q1, q2⟩ := hs'.hr.free id c e b h1 hc h2 hlv
      refine ⟨Nat.lt_of_lt_of_le q1 hr.size, fun hF => ?_⟩
      rcases hr.only c hF with h | h | h
      · exact q2 h
      · have h : w.heap.size ≤ c := h; omega
      · exact hno id c e b hj h1 h2 hlv hc h
  · have mixed : ∀ (i j c : Nat) (ei ej : En) (bi bj : Blk), i < H1.length → H1.length ≤ j → E'[i]? = some ei → H'[i]? = some bi → bi.live = true → ei.blk = some c → E[j]? = some ej → s.heap[j]? = some bj → bj.live = true → ej.blk = some c → False := fun i j c ei ej bi bj hi hj h1 h2 h3 h4 h5 h6 h7 h8 => by
      rcases hr.src i c ei bi h1 h2 h3 h4 with h | h
      · have := (hs'.hr.free j c ej bj h5 h8 h6 h7).1
        have h : w.heap.size ≤ c := h
        omega
      · exact hno j c ej bj hj h5 h6 h7 h8 h
    intro i j c ei ej bi bj h1 h2 h3 h4 h5 h6 h7 h8
    dsimp only at h5 h6
    rcases Nat.lt_or_ge i H1.length with hi | hi <;> rcases Nat.lt_or_ge j H1.length with hj | hj
    · rw [hEget i hi] at h1; rw [hEget j hj] at h2; rw [hHget i hi] at h5; rw [hHget j hj] at h6
      exact hr.hr.inj i j c ei ej bi bj h1 h2 h3 h4 h5 h6 h7 h8
    · rw [hEget i hi] at h1; rw [hEget2 j hj] at h2; rw [hHget i hi] at h5; rw [hHget2 j hj] at h6
      exact (mixed i j c ei ej bi bj hi hj h1 h5 h7 h3 h2 h6 h8 h4).elim
    · rw [hEget2 i hi] at h1; rw [hEget j hj] at h2; rw [hHget2 i hi] at h5; rw [hHget j hj] at h6
      exact (mixed j i c ej ei bj bi hj hi h2 h6 h8 h4 h1 h5 h7 h3).elim
    · rw [hEget2 i hi] at h1; rw [hEget2 j hj] at h2; rw [hHget2 i hi] at h5; rw [hHget2 j hj] at h6
      exact hs'.hr.inj i j c ei ej bi bj h1 h2 h3 h4 h5 h6 h7 h8
  · dsimp only at h2
    rcases Nat.lt_or_ge id H1.length with hj | hj
    · rw [hEget id hj] at h1
      rw [hHget id hj] at h2
      rcases hr.src id b e blk h1 h2 h3 h4 with h | h
      · exact .inl (Nat.le_trans hs'.size h)
      · exact hown b (hup b h)
    · rw [hEget2 id hj] at h1
      rw [hHget2 id hj] at h2
      exact hs'.src id b e blk h1 h2 h3 h4
  · obtain ⟨e, h1, h2⟩ := hs'.keep i hi
    exact ⟨e, hkeep i e (fun e => hmv (e ▸ hi)) h1, h2⟩
  · dsimp only at hx
    rw [tget_scr, Option.map_eq_some_iff] at hx
    obtain ⟨y, hy, rfl⟩ := hx
    obtain ⟨v, hv, h⟩ := hs.tm i y hy
    exact ⟨v, hv, scr_VR evo h⟩
theorem call_P {kp : List Nat} {ops : Array Oper} {s : St} {K : St → Prop} {args : Array Operand} {ats : Array TypeId} {d : Option Tmp} {ty : TypeId} {ps : String} {af : Array Edge} {f : FuncId} {R : V → List Blk → Prop} {H1 T : List Blk} (mv : Nat) (hmv : mv ∉ kp)
    (hH : s.heap = H1 ++ T) (hT : ∀ b, b ∈ T → ∀ i, Blk.has i b = false) (hb1 : ∀ b, b ∈ H1 → ∀ i, Blk.has i b = true → i < H1.length) (hb : ∀ {x}, x ∈ (stripAll s args.toList).2 → ∀ i, V.has i x = true → i < H1.length)
    (hst : (stripAll s args.toList).1) (hac : AC P f (stripAll s args.toList).2 H1 (kpM H1 mv) R) (hK : ∀ x H', R x H' → H'.length = H1.length ∧ K ((⟨tmScr mv s.tm, H' ++ T⟩ : St).put d x)) :
    OpX2 P kp ops { dst := d, op := .call { callee := .value (.func f), args := args, argTypes := ats }, type := ty, pos := ps, after := af, guard := none } s K := by
  intro B a w E F Q h1 hs hd
  refine .inl ⟨rfl, ?_⟩
  obtain ⟨fn, hfn, hnm, hbd⟩ := hac.1
  have hcf : ∀ cargs, (callFunc f cargs).run P w = .ok (.enter f cargs) w := fun cargs => by
    simp only [callFunc, Sem.run_bind, run_program, Result.andThen_ok, hfn, hnm, hbd, Bool.false_eq_true, if_false]
    rfl
  obtain ⟨q1, q2⟩ := stripAll_sound hs args.toList hst
  have hf : a.eval (.func f) = .func (.func f) #[] #[] := rfl
  have hrun : (execOp a.eval { dst := d, op := .call { callee := .value (.func f), args := args, argTypes := ats }, type := ty, pos := ps, after := af, guard := none }).run P w = .ok (.enter f (args.map a.eval)) w := by
    simp [execOp, resolve, hf, Deferred.ofValue, invoke, hcf]
  have hle : H1.length ≤ E.length := by rw [hs.rel.hr.len, hH, List.length_append]; omega
  have evoT : Evo E F w (E.take H1.length) F w (fun i => i < H1.length) := ⟨fun _ h => h, fun _ _ => rfl, fun i e hi h => by rw [List.getElem?_take_of_lt hi]; exact h, fun _ _ h => h⟩
  have hE1 : ∀ (j : Nat) (e : En), (E.take H1.length)[j]? = some e → E[j]? = some e := fun j e h => by
    have hj : j < H1.length := by have := (List.getElem?_eq_some_iff.1 h).1; simp at this; omega
    rw [List.getElem?_take_of_lt hj] at h
    exact h
  have hH1 : ∀ (j : Nat) (b : Blk), H1[j]? = some b → s.heap[j]? = some b := fun j b h => by
    rw [hH, List.getElem?_append_left (List.getElem?_eq_some_iff.1 h).1]
    exact h
  have hr1 : HR (E.take H1.length) F w H1 := by
    refine ⟨by rw [List.length_take]; omega, fun id e b h1 h2 => ?_, fun id c e b h1 hc h2 hl => hs.rel.hr.free id c e b (hE1 id e h1) hc (hH1 id b h2) hl, fun i j c ei ej bi bj h1 h2 h3 h4 h5 h6 h7 h8 => hs.rel.hr.inj i j c ei ej bi bj (hE1 _ _ h1) (hE1 _ _ h2) h3 h4 (hH1 _ _ h5) (hH1 _ _ h6) h7 h8⟩
    exact (hs.rel.hr.blk id e b (hE1 id e h1) (hH1 id b h2)).evo evoT (fun i hi => hb1 b (List.mem_of_getElem? h2) i hi) fun _ _ => rfl
  have hcr : CR (E.take H1.length) F w (stripAll s args.toList).2 (args.map a.eval) :=
    ⟨by simp [q1], fun j x v hx hv => (q2 j x v hx (by simpa using hv)).evo evoT fun i hi => hb (List.mem_of_getElem? hx) i hi⟩
  have hcalls := hac.2 w _ (E.take H1.length) F hr1 hs.rel.lt (fun i hi => List.mem_range.1 (List.mem_filter.1 hi).1) hcr
  unfold Oper.wp
  rw [hrun]
  refine hcalls.mono ?_
  rintro e w' ⟨v, x, H', E', F', rfl, hR, hrel, hx⟩
  obtain ⟨k1, k2⟩ := hK x H' hR
  have hx' : VR (E' ++ E.drop H1.length) F' w' x v := hx.evo (ok := fun _ => True) ⟨fun _ h => h, fun _ _ => rfl, fun j e _ h => by rw [List.getElem?_append_left (List.getElem?_eq_some_iff.1 h).1]; exact h, fun _ _ h => h⟩ fun _ _ => trivial
  exact ⟨v, _, _, F', rfl, k2, Sim.put (heap_mergeP hs hH k1 (by rw [h1]; exact hmv) hT hrel) hx' hd⟩

/-! ### A drawn region whose last operation is shown by hand -/
section
variable {ops : Array Oper} {Q : Exit → Act → World → Prop} {T : Nat → Bool}
def wpAnyU (P : Program) (T : Nat → Bool) (ops : Array Oper) (Q : Exit → Act → World → Prop) : Nat → Array Bool → Act → World → Prop
  | 0, listed, a, w => Region.ready .any ops listed = [] ∧ Q .normal a w
  | fuel + 1, listed, a, w =>
    (Region.ready .any ops listed = [] → Q .normal a w) ∧
    ∀ i ∈ Region.ready .any ops listed, wpOp P ops Q i (fun a' w' => (T i = true ∨ Keep w w') ∧ wpAnyU P T ops Q fuel (listed.setIfInBounds i true) a' w') a w
theorem wpAny_of_U : ∀ (fuel : Nat) (listed : Array Bool) (a : Act) (w : World), wpAnyU P T ops Q fuel listed a w → wpAny P .any ops Q fuel listed a w
  | 0, _, _, _, h => h
  | fuel + 1, _, _, _, h => ⟨h.1, fun i hi => wpOp_mono (fun a' w' h' => wpAny_of_U fuel _ a' w' h'.2) (h.2 i hi)⟩
theorem wpAnyU_first {i : Nat} {oi : Oper} {v : Value} (hi : ops[i]? = some oi) (hsel : ∀ (j : Nat) (o : Oper) cs b, ops[j]? = some o → o.op ≠ .select cs b)
    (hQ : ∀ c a w, Q (.panic c) (a.put oi.dst v) w → Q (.panic c) a w) :
    ∀ (fuel : Nat) (listed : Array Bool) (a : Act) (w : World),
      (∀ j oj, ops[j]? = some oj → j ≠ i → listed.getD j true = false → (∀ e ∈ oj.after, Region.binds .any e = true → e.on ≠ i) → oi.apart ops oj = true ∧ T j = false) →
      i ∈ Region.ready .any ops listed → YieldsK P ops w oi v a →
      wpAnyU P T ops Q fuel (listed.setIfInBounds i true) (a.put oi.dst v) w → wpAnyU P T ops Q (fuel + 1) listed a w := by
  intro fuel
  induction fuel with
  | zero =>
    intro listed a w _ hr hy H
    refine ⟨fun h => (by rw [h] at hr; cases hr), fun j hj => ?_⟩
    by_cases hji : j = i
    · subst hji; exact hy.wpOp hi ⟨.inr (Keep.refl w), H⟩
    · have := ready_mono hj hji
      rw [H.1] at this
      cases this
  | succ fuel ih =>
    intro listed a w hfree hr hy H
    refine ⟨fun h => (by rw [h] at hr; cases hr), fun j hj => ?_⟩
    by_cases hji : j = i
    · subst hji; exact hy.wpOp hi ⟨.inr (Keep.refl w), H⟩
    · have h1 := H.2 j (ready_mono hj hji)
      obtain ⟨hjun, oj, hoj, hall⟩ := mem_ready.1 hj
      have hnot : ∀ e ∈ oj.after, Region.binds .any e = true → e.on ≠ i := fun e he hb heq => by
        have h1 := hall e he hb
        have h0 := (mem_ready.1 hr).1
        rw [heq] at h1
        rcases Nat.lt_or_ge i listed.size with h' | h'
        · simp [h'] at h0 h1; rw [h0] at h1; cases h1
        · simp [Array.getElem?_eq_none h'] at h1
      obtain ⟨hap, hnt⟩ := hfree j oj hoj hji hjun hnot
      have h2 := wpOp_putK hoj hap (fun cs b => hsel i oi cs b hi) (fun cs b => hsel j oj cs b hoj) hQ hy h1
      have hfree' : ∀ k ok, ops[k]? = some ok → k ≠ i → (listed.setIfInBounds j true).getD k true = false →
          (∀ e ∈ ok.after, Region.binds .any e = true → e.on ≠ i) → oi.apart ops ok = true ∧ T k = false := fun k ok hk hki hun hno => by
        refine hfree k ok hk hki ?_ hno
        by_cases hjk : j = k
        · subst hjk; exact hjun
        · rw [getD_set_ne true hjk] at hun; exact hun
      refine wpOp_mono (fun a' w' h3 => ?_) h2
      obtain ⟨g1, g2, g3⟩ := h3
      have hkw : Keep w w' := by
        rcases g2 with g2 | g2
        · rw [hnt] at g2; cases g2
        · exact g2
      refine ⟨.inr hkw, ih (listed.setIfInBounds j true) a' w' hfree' (ready_mono hr (Ne.symm hji)) (g1.later hkw) ?_⟩
      rw [Array.setIfInBounds_comm _ _ hji]
      exact g3

theorem wpAnyU_firstS {i : Nat} {oi : Oper} {v : Value} (S : List Nat) (hi : ops[i]? = some oi) (hsel : ∀ (j : Nat) (o : Oper) cs b, ops[j]? = some o → o.op ≠ .select cs b)
    (hQ : ∀ c a w, Q (.panic c) (a.put oi.dst v) w → Q (.panic c) a w) :
    ∀ (fuel : Nat) (listed : Array Bool) (a : Act) (w : World),
      (∀ j oj, ops[j]? = some oj → j ≠ i → listed.getD j true = false → j ∉ S → oi.apart ops oj = true ∧ T j = false) →
      (∀ j, j ∈ S → listed.getD j true = false ∧ ∃ oj e, ops[j]? = some oj ∧ e ∈ oj.after ∧ Region.binds .any e = true ∧ (e.on = i ∨ e.on ∈ S)) →
      i ∈ Region.ready .any ops listed → YieldsK P ops w oi v a →
      wpAnyU P T ops Q fuel (listed.setIfInBounds i true) (a.put oi.dst v) w → wpAnyU P T ops Q (fuel + 1) listed a w := by
  intro fuel
  induction fuel with
  | zero =>
    intro listed a w _ _ hr hy H
    refine ⟨fun h => (by rw [h] at hr; cases hr), fun j hj => ?_⟩
    by_cases hji : j = i
    · subst hji; exact hy.wpOp hi ⟨.inr (Keep.refl w), H⟩
    · have := ready_mono hj hji
      rw [H.1] at this
      cases this
  | succ fuel ih =>
    intro listed a w hfree hS hr hy H
    refine ⟨fun h => (by rw [h] at hr; cases hr), fun j hj => ?_⟩
    by_cases hji : j = i
    · subst hji; exact hy.wpOp hi ⟨.inr (Keep.refl w), H⟩
    · have h1 := H.2 j (ready_mono hj hji)
      obtain ⟨hjun, oj, hoj, hall⟩ := mem_ready.1 hj
      have notOn : ∀ k, listed.getD k true = false → ∀ e ∈ oj.after, Region.binds .any e = true → e.on ≠ k := fun k h0 e he hb heq => by
        have h1 := hall e he hb
        rw [heq] at h1
        rcases Nat.lt_or_ge k listed.size with h' | h'
        · simp [h'] at h0 h1; rw [h0] at h1; cases h1
        · simp [Array.getElem?_eq_none h'] at h1
      have hjS : j ∉ S := fun hjS => by
        obtain ⟨_, ok, e, hok, he, hb, hon⟩ := hS j hjS
        rw [hoj] at hok
        cases hok
        rcases hon with hon | hon
        · exact notOn i (mem_ready.1 hr).1 e he hb hon
        · exact notOn e.on (hS _ hon).1 e he hb rfl
      obtain ⟨hap, hnt⟩ := hfree j oj hoj hji hjun hjS
      have h2 := wpOp_putK hoj hap (fun cs b => hsel i oi cs b hi) (fun cs b => hsel j oj cs b hoj) hQ hy h1
      have hfree' : ∀ k ok, ops[k]? = some ok → k ≠ i → (listed.setIfInBounds j true).getD k true = false → k ∉ S → oi.apart ops ok = true ∧ T k = false := fun k ok hk hki hun hno => by
        refine hfree k ok hk hki ?_ hno
        by_cases hjk : j = k
        · subst hjk; exact hjun
        · rw [getD_set_ne true hjk] at hun; exact hun
      have hS' : ∀ k, k ∈ S → (listed.setIfInBounds j true).getD k true = false ∧ ∃ oj e, ops[k]? = some oj ∧ e ∈ oj.after ∧ Region.binds .any e = true ∧ (e.on = i ∨ e.on ∈ S) := fun k hk => by
        obtain ⟨q1, q2⟩ := hS k hk
        have hjk : j ≠ k := fun e => hjS (e ▸ hk)
        exact ⟨by rw [getD_set_ne true hjk]; exact q1, q2⟩
      refine wpOp_mono (fun a' w' h3 => ?_) h2
      obtain ⟨g1, g2, g3⟩ := h3
      have hkw : Keep w w' := by
        rcases g2 with g2 | g2
        · rw [hnt] at g2; cases g2
        · exact g2
      refine ⟨.inr hkw, ih (listed.setIfInBounds j true) a' w' hfree' hS' (ready_mono hr (Ne.symm hji)) (g1.later hkw) ?_⟩
      rw [Array.setIfInBounds_comm _ _ hji]
      exact g3

def freeU1 (T : Nat → Bool) (ops : Array Oper) (listed : Array Bool) (i : Nat) : Bool :=
  match ops[i]? with
  | none => false
  | some oi => (List.range ops.size).all fun j => match ops[j]? with
    | none => true
    | some oj => j == i || listed.getD j true || (oj.after.any fun e => Region.binds .any e && e.on == i) || (oi.apart ops oj && !T j)

theorem freeU1_spec {listed : Array Bool} {i : Nat} {oi : Oper} (hi : ops[i]? = some oi) (h : freeU1 T ops listed i = true) :
    ∀ j oj, ops[j]? = some oj → j ≠ i → listed.getD j true = false → (∀ e ∈ oj.after, Region.binds .any e = true → e.on ≠ i) → oi.apart ops oj = true ∧ T j = false := by
  intro j oj hj hji hun hno
  unfold freeU1 at h
  rw [hi] at h
  dsimp only at h
  have hlt : j < ops.size := (Array.getElem?_eq_some_iff.1 hj).1
  have := List.all_eq_true.1 h j (List.mem_range.2 hlt)
  rw [hj] at this
  simp only [Bool.or_eq_true, beq_iff_eq, Bool.and_eq_true, Bool.not_eq_true'] at this
  rcases this with ((h1 | h1) | h1) | h1
  · exact absurd h1 hji
  · rw [hun] at h1; cases h1
  · exfalso
    obtain ⟨l, hl, he⟩ := Array.any_eq_true.1 h1
    simp only [Bool.and_eq_true, beq_iff_eq] at he
    exact hno _ (Array.getElem_mem hl) he.1 he.2
  · exact h1

def freeU2 (T : Nat → Bool) (ops : Array Oper) (listed : Array Bool) (i : Nat) (S : List Nat) : Bool :=
  match ops[i]? with
  | none => false
  | some oi => (List.range ops.size).all fun j => match ops[j]? with
    | none => true
    | some oj => j == i || listed.getD j true || S.contains j || (oi.apart ops oj && !T j)
def freeU (T : Nat → Bool) (ops : Array Oper) (listed : Array Bool) (i : Nat) : Bool := freeU1 T ops listed i || freeU2 T ops listed i (blkd ops listed i (List.range ops.size) [])

theorem freeU_first {i : Nat} {oi : Oper} {v : Value} (hi : ops[i]? = some oi) (hsel : ∀ (j : Nat) (o : Oper) cs b, ops[j]? = some o → o.op ≠ .select cs b)
    (hQ : ∀ c a w, Q (.panic c) (a.put oi.dst v) w → Q (.panic c) a w) (fuel : Nat) (listed : Array Bool) (a : Act) (w : World) (h : freeU T ops listed i = true) (hr : i ∈ Region.ready .any ops listed) (hy : YieldsK P ops w oi v a)
    (H : wpAnyU P T ops Q fuel (listed.setIfInBounds i true) (a.put oi.dst v) w) : wpAnyU P T ops Q (fuel + 1) listed a w := by
  unfold freeU at h
  rw [Bool.or_eq_true] at h
  rcases h with h | h
  · exact wpAnyU_first hi hsel hQ fuel listed a w (freeU1_spec hi h) hr hy H
  · generalize hS : blkd ops listed i (List.range ops.size) [] = S at h
    have hb := blkd_spec (ops := ops) (listed := listed) (i := i) (List.range ops.size) [] (fun k hk => by cases hk)
    rw [hS] at hb
    refine wpAnyU_firstS S hi hsel hQ fuel listed a w (fun j oj hj hji hun hno => ?_) hb hr hy H
    unfold freeU2 at h
    rw [hi] at h
    dsimp only at h
    have hlt : j < ops.size := (Array.getElem?_eq_some_iff.1 hj).1
    have := List.all_eq_true.1 h j (List.mem_range.2 hlt)
    rw [hj] at this
    simp only [Bool.or_eq_true, beq_iff_eq, Bool.and_eq_true, Bool.not_eq_true', List.contains_iff_mem] at this
    rcases this with ((h1 | h1) | h1) | h1
    · exact absurd h1 hji
    · rw [hun] at h1; cases h1
    · exact absurd h1 hno
    · exact h1


def tX (ops : Array Oper) (m i : Nat) : Bool := i == m || ((ops[i]?).map fun o => kindT o.op).getD false
def drawOkX (ops : Array Oper) (m : Nat) : List Nat → Array Bool → Bool
  | [], listed => Region.ready .any ops listed == [m] && (Region.ready .any ops (listed.setIfInBounds m true)).isEmpty
  | i :: r, listed =>
    (match ops[i]? with
     | none => false
     | some o => if kindQ o.op then (Region.ready .any ops listed).contains i && freeU (tX ops m) ops listed i else Region.ready .any ops listed == [i]) && drawOkX ops m r (listed.setIfInBounds i true)
theorem drawX_sound {B : Base} {n m : Nat} {om : Oper} (hom : ops[m]? = some om) (hd : dstsOk n ops = true) (hsel : Region.noSelect ops = true) (hQ : ∀ c a w, ¬ Q (.panic c) a w) : ∀ (l : List Nat) (listed : Array Bool) (s : St) (a : Act) (w : World) (E : Env) (F : Nat → Prop) (K : St → Prop), a.tmps.size = n → Sim B s a w E F →
    OpsVC P B.keep ops (l.filterMap (ops[·]?)) s (fun t => OpX2 P B.keep ops om t K) → drawOkX ops m l listed = true →
    (∀ a' w' s' E' F', K s' → Sim B s' a' w' E' F' → a'.tmps.size = n → Q .normal a' w') → ∀ fuel, l.length + 1 ≤ fuel → wpAnyU P (tX ops m) ops Q fuel listed a w
  | [], listed, s, a, w, E, F, K, hn, hs, h, hok, hq, 0, hf => by simp at hf
  | [], listed, s, a, w, E, F, K, hn, hs, h, hok, hq, fuel + 1, hf => by
    simp only [drawOkX, Bool.and_eq_true, beq_iff_eq] at hok
    obtain ⟨hr, hr2⟩ := hok
    have hr2 : Region.ready .any ops (listed.setIfInBounds m true) = [] := by simpa using hr2
    refine ⟨(fun h0 => by rw [hr] at h0; cases h0), fun j hj => ?_⟩
    rw [hr] at hj
    simp at hj
    subst hj
    have htx : tX ops j j = true := by simp [tX]
    have fin : ∀ (a2 : Act) (w2 : World) (s2 : St) (E2 : Env) (F2 : Nat → Prop), K s2 → Sim B s2 a2 w2 E2 F2 → a2.tmps.size = n → wpAnyU P (tX ops j) ops Q fuel (listed.setIfInBounds j true) a2 w2 := fun a2 w2 s2 E2 F2 hK hs2 hn2 => by
      have := hq a2 w2 s2 E2 F2 hK hs2 hn2
      cases fuel with
      | zero => exact ⟨hr2, this⟩
      | succ fuel => exact ⟨fun _ => this, by rw [hr2]; simp⟩
    unfold wpOp
    simp only [hom]
    rcases h B a w E F Q rfl hs (fun d hd' => by rw [hn]; exact dstsOk_spec hd hom d hd') with ⟨hw, hwp⟩ | ⟨hw, s', hK, hs'⟩
    · rw [hw, if_pos rfl]
      exact .inl (Oper.wp_mono (fun a2 w2 ⟨v, s2, E2, F2, ha, hK2, hs2⟩ => by subst ha; exact ⟨.inl htx, fin _ w2 s2 E2 F2 hK2 hs2 (by rw [size_put]; exact hn)⟩) hwp)
    · rw [hw]
      exact ⟨.inl htx, fin _ w s' E F hK hs' (by rw [size_put]; exact hn)⟩
  | i :: l, listed, s, a, w, E, F, K, hn, hs, h, hok, hq, 0, hf => by simp at hf
  | i :: l, listed, s, a, w, E, F, K, hn, hs, h, hok, hq, fuel + 1, hf => by
    simp only [drawOkX, Bool.and_eq_true] at hok
    obtain ⟨hok, hrest⟩ := hok
    split at hok
    · cases hok
    rename_i o ho
    simp only [List.filterMap_cons, ho, OpsVC] at h
    have ih := fun s a w E F hn hs h => drawX_sound hom hd hsel hQ l (listed.setIfInBounds i true) s a w E F K hn hs h hrest hq fuel (by simpa using hf)
    rcases op_sound (Q := Q) hs (fun d hd' => by rw [hn]; exact dstsOk_spec hd ho d hd') h with ⟨v, s', hK, hs', hw⟩ | ⟨hnq, hw⟩
    · have ih' := ih s' _ w E F (by rw [size_put]; exact hn) hs' hK
      have hy : YieldsK P ops w o v a := hw
      split at hok
      · simp only [Bool.and_eq_true] at hok
        exact freeU_first ho (noSel hsel) (fun c a w hh => absurd hh (hQ c _ w)) fuel listed a w hok.2 (by simpa using hok.1) hy ih'
      · have hr : Region.ready .any ops listed = [i] := by simpa using hok
        refine ⟨(fun h0 => by rw [hr] at h0; cases h0), fun j hj => ?_⟩
        rw [hr] at hj
        simp at hj
        subst hj
        exact hy.wpOp ho ⟨.inr (Keep.refl w), ih'⟩
    · rw [hnq] at hok
      have hr : Region.ready .any ops listed = [i] := by simpa using hok
      refine ⟨(fun h0 => by rw [hr] at h0; cases h0), fun j hj => ?_⟩
      rw [hr] at hj
      simp at hj
      subst hj
      unfold wpOp
      simp only [ho]
      rcases hw with ⟨hw, hwp⟩ | ⟨hw, s', F', hK, hs'⟩
      · rw [hw, if_pos rfl]
        refine .inl (Oper.wp_mono (fun a' w' ⟨hkt, v, s', E', F', ha, hK, hs'⟩ => ?_) hwp)
        subst ha
        exact ⟨hkt.imp (fun hk => by simp [tX, ho, hk]) id, ih s' _ w' E' F' (by rw [size_put]; exact hn) hs' hK⟩
      · rw [hw]
        exact ⟨.inr (Keep.refl w), ih s' _ w E F' (by rw [size_put]; exact hn) hs' hK⟩
theorem awp_drawX {kp : List Nat} {n : Nat} {s : St} {Qs : Exit → St → Prop} {id m : Nat} {om : Oper} (l : List Nat) (hom : ops.toList[m]? = some om) (hm : P.follows .mixedOrders = true) (hc : (Region.noSelect ops && drawOkX ops m l (Array.replicate ops.size false)) = true) (hl : l.length + 1 = ops.size)
    (h : ∀ K : St → Prop, (∀ t, Qs .normal t → K t) → contRun P kp ops (.vc (l.filterMap (ops[·]?))) s fun t => OpX2 P kp ops om t K) : AWP P kp n (.region id ops true) s Qs := by
  intro hok B a w E F h1 h2 h3
  subst h1
  simp only [Bool.and_eq_true] at hc
  refine wp_region_any hm (wpAny_of_U _ _ _ _ (drawX_sound (ops := ops) (n := n) (m := m) (om := om) (by simpa using hom) hok hc.1 ?_ l _ s a _ E F (fun t => Qs .normal t) h2 h3.drew (h _ fun t ht => ht) hc.2 ?_ _ (by omega)))
  · intro c a w hh
    exact hh.1 c rfl
  · intro a' w' s' E' F' hK hs hn
    exact ⟨by simp, by simp, s', E', F', hK, hs, hn⟩
end
end Go.Aw

namespace Go.Aw
set_option linter.unusedSimpArgs false
set_option linter.unusedVariables false
open Go.RowKit

variable {P : Program}

def From (P : Program) (kp : List Nat) (ops : Array Oper) (k : Nat) (s : St) (K : St → Prop) : Prop :=
  ∀ (n : Nat), dstsOk n ops = true → ∀ (B : Base) (a : Act) (w : World) (E : Env) (F : Nat → Prop) (Q : Exit → Act → World → Prop), B.keep = kp → a.tmps.size = n → Sim B s a w E F →
    (∀ a' w' s' E' F', K s' → Sim B s' a' w' E' F' → a'.tmps.size = n → Q .normal a' w') → wpOps P ops Q (List.range' k (ops.size - k)) a w

theorem from_end {kp : List Nat} {ops : Array Oper} {k : Nat} {s : St} {K : St → Prop} (h : contRun P kp ops (.vc (ops.toList.drop k)) s K) : From P kp ops k s K := by
  intro n hok B a w E F Q h1 hn hs hq
  subst h1
  have hl : ((ops.toList.drop k).zipIdx k).map (·.2) = List.range' k (ops.size - k) := by
    rw [List.zipIdx_map_snd, List.length_drop, Array.length_toList]
  have hm : ∀ p : Oper × Nat, p ∈ (ops.toList.drop k).zipIdx k → ops[p.2]? = some p.1 := fun ⟨x, j⟩ hp => by
    obtain ⟨q1, q2⟩ := List.mk_mem_zipIdx_iff_le_and_getElem?_sub.1 hp
    rw [List.getElem?_drop, show k + (j - k) = j by omega] at q2
    simpa using q2
  rw [← hl]
  have := opsC_sound (P := P) (Q := Q) (n := n) hok [] ((ops.toList.drop k).zipIdx k) s a w E F K hn hs (by rw [List.zipIdx_map_fst]; exact h) hm fun a' w' s' E' F' q1 q2 q3 => hq a' w' s' E' F' q1 q2 q3
  simpa using this
theorem from_X {kp : List Nat} {ops : Array Oper} {k : Nat} {s : St} {K : St → Prop} (i : Nat) {o : Oper} (ho : ops.toList[i]? = some o) (hki : Nat.ble k i = true)
    (h : contRun P kp ops (.vc ((ops.toList.take i).drop k)) s fun t => OpX2 P kp ops o t fun u => From P kp ops (i + 1) u K) : From P kp ops k s K := by
  intro n hok B a w E F Q h1 hn hs hq
  subst h1
  have hki := Nat.le_of_ble_eq_true hki
  have hi : i < ops.size := by have := (List.getElem?_eq_some_iff.1 ho).1; simpa using this
  have hoi : ops[i]? = some o := by simpa using ho
  have hl : (((ops.toList.take i).drop k).zipIdx k).map (·.2) = List.range' k (i - k) := by
    rw [List.zipIdx_map_snd, List.length_drop, List.length_take, Array.length_toList]
    congr 1
    omega
  have hm : ∀ p : Oper × Nat, p ∈ ((ops.toList.take i).drop k).zipIdx k → ops[p.2]? = some p.1 := fun ⟨x, j⟩ hp => by
    obtain ⟨q1, q2⟩ := List.mk_mem_zipIdx_iff_le_and_getElem?_sub.1 hp
    rw [List.getElem?_drop, show k + (j - k) = j by omega, List.getElem?_take] at q2
    split at q2
    · simpa using q2
    · cases q2
  have hr : List.range' k (ops.size - k) = List.range' k (i - k) ++ i :: List.range' (i + 1) (ops.size - (i + 1)) := by
    have e1 := List.range'_append_1 (s := k) (m := i - k) (n := ops.size - i)
    rw [show k + (i - k) = i by omega, show i - k + (ops.size - i) = ops.size - k by omega] at e1
    rw [← e1]
    congr 1
    obtain ⟨m, hm⟩ : ∃ m, ops.size - i = m + 1 := ⟨ops.size - i - 1, by omega⟩
    rw [hm, List.range'_succ, show ops.size - (i + 1) = m by omega]
  rw [hr, ← hl]
  refine opsC_sound (n := n) hok _ _ s a w E F (fun t => OpX2 P B.keep ops o t fun u => From P B.keep ops (i + 1) u K) hn hs (by rw [List.zipIdx_map_fst]; exact h) hm ?_
  intro a1 w1 s1 E1 F1 hK hs1 hn1
  have hdd : ∀ d, o.dst = some d → d < a1.tmps.size := fun d hd' => by rw [hn1]; exact dstsOk_spec hok hoi d hd'
  simp only [wpOps, hoi]
  rcases hK B a1 w1 E1 F1 _ rfl hs1 hdd with ⟨hw, hwp⟩ | ⟨hw, s', hK', hs'⟩
  · rw [hw, if_pos rfl]
    exact .inl (Oper.wp_mono (fun a2 w2 ⟨v, s2, E2, F2, ha, hK2, hs2⟩ => by subst ha; exact hK2 n hok B _ w2 E2 F2 Q rfl (by rw [size_put]; exact hn1) hs2 hq) hwp)
  · rw [hw]
    exact hK' n hok B _ w1 E1 F1 Q rfl (by rw [size_put]; exact hn1) hs' hq
theorem awp_regionF {kp : List Nat} {n : Nat} {s : St} {Q : Exit → St → Prop} {id : Nat} {ops : Array Oper} (h : ∀ K : St → Prop, (∀ t, Q .normal t → K t) → From P kp ops 0 s K) : AWP P kp n (.region id ops false) s Q := by
  intro hok B a w E F h1 h2 h3
  refine wp_region ?_
  have := h (fun t => Q .normal t) (fun t ht => ht) n hok B a w E F (fun e a' w' => (∀ ch, e ≠ .panic ch) ∧ e ≠ .outgrown ∧ ∃ s' E' F', Q e s' ∧ Sim B s' a' w' E' F' ∧ a'.tmps.size = n) h1 h2 h3
    fun a' w' s' E' F' q1 q2 q3 => ⟨by simp, by simp, s', E', F', q1, q2, q3⟩
  rwa [List.range_eq_range']
theorem call_X {kp : List Nat} {ops : Array Oper} {s : St} {K : St → Prop} {args : Array Operand} {ats : Array TypeId} {d : Option Tmp} {ty : TypeId} {ps : String} {af : Array Edge} {f : FuncId} {R : V → List Blk → Prop}
    (hst : (stripAll s args.toList).1) (hac : AC P f (stripAll s args.toList).2 s.heap (List.range s.heap.length) R) (hK : ∀ x H', R x H' → K ((⟨s.tm, H'⟩ : St).put d x)) :
    OpX2 P kp ops { dst := d, op := .call { callee := .value (.func f), args := args, argTypes := ats }, type := ty, pos := ps, after := af, guard := none } s K := by
  intro B a w E F Q h1 hs hd
  refine .inl ⟨rfl, ?_⟩
  obtain ⟨fn, hfn, hnm, hbd⟩ := hac.1
  have hcf : ∀ cargs, (callFunc f cargs).run P w = .ok (.enter f cargs) w := fun cargs => by
    simp only [callFunc, Sem.run_bind, run_program, Result.andThen_ok, hfn, hnm, hbd, Bool.false_eq_true, if_false]
    rfl
  obtain ⟨q1, q2⟩ := stripAll_sound hs args.toList hst
  have hf : a.eval (.func f) = .func (.func f) #[] #[] := rfl
  refine enter_X hs hd (cargs := args.map a.eval) ?_ ⟨by simp [q1], fun j x v hx hv => q2 j x v hx (by simpa using hv)⟩ hac hK
  simp [execOp, resolve, hf, Deferred.ofValue, invoke, hcf]
theorem hasL_mem2 {i : Nat} : ∀ {l : List V}, V.hasL i l = true → ∃ x, x ∈ l ∧ V.has i x = true
  | [], h => by simp [V.hasL] at h
  | y :: l, h => by
    simp only [V.hasL, Bool.or_eq_true] at h
    rcases h with h | h
    · exact ⟨y, by simp, h⟩
    · obtain ⟨x, h1, h2⟩ := hasL_mem2 h
      exact ⟨x, by simp [h1], h2⟩
theorem belL_has {n i : Nat} {l : List V} (hb : V.belL n l = true) (h : V.hasL i l = true) : i < n := by
  obtain ⟨x, h1, h2⟩ := hasL_mem2 h
  exact bel_has n x (belL_mem hb h1) i h2
theorem hasLL_mem2 {i : Nat} : ∀ {l : List (List V)}, V.hasLL i l = true → ∃ x, x ∈ l ∧ V.hasL i x = true
  | [], h => by simp [V.hasLL] at h
  | y :: l, h => by
    simp only [V.hasLL, Bool.or_eq_true] at h
    rcases h with h | h
    · exact ⟨y, by simp, h⟩
    · obtain ⟨x, h1, h2⟩ := hasLL_mem2 h
      exact ⟨x, by simp [h1], h2⟩
theorem hasM_mem2 {i : Nat} : ∀ {l : List (V × V)}, V.hasM i l = true → ∃ p, p ∈ l ∧ (V.has i p.1 = true ∨ V.has i p.2 = true)
  | [], h => by simp [V.hasM] at h
  | y :: l, h => by
    simp only [V.hasM, Bool.or_eq_true] at h
    rcases h with h | h
    · exact ⟨y, by simp, h⟩
    · obtain ⟨x, h1, h2⟩ := hasM_mem2 h
      exact ⟨x, by simp [h1], h2⟩
theorem blk_bel_has {n i : Nat} {b : Blk} (hb : b.bel n = true) (h : Blk.has i b = true) : i < n := by
  cases b with
  | gone => simp [Blk.has] at h
  | data k rows => simp [Blk.has] at h
  | cells xs => exact belL_has hb h
  | vrs k rs =>
    obtain ⟨r, h1, h2⟩ := hasLL_mem2 h
    exact belL_has (List.all_eq_true.1 hb r h1) h2
  | mp es =>
    obtain ⟨p, h1, h2⟩ := hasM_mem2 h
    have := List.all_eq_true.1 hb p h1
    simp only [Bool.and_eq_true] at this
    rcases h2 with h2 | h2
    · exact bel_has n _ this.1 i h2
    · exact bel_has n _ this.2 i h2
  | it y seen m => exact bel_has n _ hb i h
theorem call_Q {kp : List Nat} {ops : Array Oper} {s : St} {K : St → Prop} {args : Array Operand} {ats : Array TypeId} {d : Option Tmp} {ty : TypeId} {ps : String} {af : Array Edge} {f : FuncId} {R : V → List Blk → Prop} {H1 T : List Blk} (mv : Nat) (hmv : mv ∉ kp)
    (hH : s.heap = H1 ++ T) (hT : belHeap 0 T = true) (hb1 : belHeap H1.length H1 = true) (hb : V.belL H1.length (stripAll s args.toList).2 = true)
    (hst : (stripAll s args.toList).1) (hac : AC P f (stripAll s args.toList).2 H1 (kpM H1 mv) R) (hK : ∀ x H', R x H' → H'.length = H1.length ∧ K ((⟨tmScr mv s.tm, H' ++ T⟩ : St).put d x)) :
    OpX2 P kp ops { dst := d, op := .call { callee := .value (.func f), args := args, argTypes := ats }, type := ty, pos := ps, after := af, guard := none } s K := by
  refine call_P mv hmv hH (fun b hb i => ?_) (fun b hb i hi => ?_) (fun {x} hx i hi => bel_has _ x (belL_mem hb hx) i hi) hst hac hK
  · cases h : Blk.has i b with
    | false => rfl
    | true =>
      obtain ⟨j, hj⟩ := List.getElem?_of_mem hb
      exact absurd (blk_bel_has (belHeap_get hT j b hj) h) (Nat.not_lt_zero _)
  · obtain ⟨j, hj⟩ := List.getElem?_of_mem hb
    exact blk_bel_has (belHeap_get hb1 j b hj) hi
end Go.Aw

namespace Go.Aw
set_option linter.unusedSimpArgs false
set_option linter.unusedVariables false
open Go.RowKit
variable {P : Program}

theorem OpX2.grd {kp : List Nat} {ops : Array Oper} {o : Oper} {s : St} {K : St → Prop} (hg : s.guardOf ops o = some true) (h : OpX2 P kp ops { o with guard := none } s K) : OpX2 P kp ops o s K := by
  intro B a w E F Q h1 hs hd
  rcases h B a w E F Q h1 hs hd with ⟨_, h2⟩ | ⟨h2, _⟩
  · exact .inl ⟨guardOf_sound hs hg, h2⟩
  · exact absurd h2 (by simp [Region.wanted])
theorem OpX2.off {kp : List Nat} {ops : Array Oper} {o : Oper} {s : St} {K : St → Prop} (x : V) (hg : s.guardOf ops o = some false) (hK : K (s.put o.dst (.opt false x))) : OpX2 P kp ops o s K := by
  intro B a w E F Q h1 hs hd
  exact .inr ⟨guardOf_sound hs hg, _, hK, hs.put (.opt false x undef (fun h => by cases h) fun _ => rfl) hd⟩

theorem AC.virt {f : FuncId} {xs ys : List V} {H : List Blk} {kp : List Nat} {R : V → List Blk → Prop} (k : Nat)
    (h : AC P f (xs ++ .ref H.length 0 0 :: ys) (H ++ [.data k []]) kp R) (hx : V.belL H.length (xs ++ ys) = true) (hb : belHeap H.length H = true) (hk : ∀ i, i ∈ kp → i < H.length) : AC P f (xs ++ .nil :: ys) H kp R := by
  refine ⟨h.1, fun w cargs E F h1 h2 h3 h4 => ?_⟩
  have hEl : E.length = H.length := h1.len
  have hEE : ∀ (i : Nat) (e : En), E[i]? = some e → (E ++ [⟨none, k, 0⟩])[i]? = some e := fun i e he => by
    rw [List.getElem?_append_left (List.getElem?_eq_some_iff.1 he).1]
    exact he
  have evo : Evo E F w (E ++ [⟨none, k, 0⟩]) F w (fun _ => True) := ⟨fun _ h => h, fun _ _ => rfl, fun i e _ h => hEE i e h, fun _ _ h => h⟩
  have hget : ∀ (i : Nat) (e : En) (b : Blk), (E ++ [(⟨none, k, 0⟩ : En)])[i]? = some e → (H ++ [Blk.data k []])[i]? = some b → (E[i]? = some e ∧ H[i]? = some b) ∨ (i = H.length ∧ e = ⟨none, k, 0⟩ ∧ b = .data k []) := fun i e b he hb => by
    rcases Nat.lt_or_ge i H.length with hi | hi
    · rw [List.getElem?_append_left (by omega)] at he hb
      exact .inl ⟨he, hb⟩
    · rcases Nat.eq_or_lt_of_le hi with hi | hi
      · subst hi
        rw [List.getElem?_append_right (Nat.le_refl _)] at hb
        rw [← hEl, List.getElem?_append_right (Nat.le_refl _)] at he
        simp at he hb
        exact .inr ⟨rfl, he.symm, hb.symm⟩
      · rw [List.getElem?_eq_none (by simp; omega)] at hb
        cases hb
  have hr : HR (E ++ [⟨none, k, 0⟩]) F w (H ++ [.data k []]) := by
    refine ⟨by simp [hEl], fun id e b he hb' => ?_, fun id c e b he hc hb' hl => ?_, fun i j c ei ej bi bj h1' h2' h3' h4' h5' h6' h7' h8' => ?_⟩
    · rcases hget id e b he hb' with ⟨q1, q2⟩ | ⟨_, rfl, rfl⟩
      · exact (h1.blk id e b q1 q2).evo evo (fun _ _ => trivial) fun _ _ => rfl
      · exact ⟨rfl, rfl, by simp, .inl ⟨rfl, rfl⟩⟩
    · rcases hget id e b he hb' with ⟨q1, q2⟩ | ⟨_, rfl, rfl⟩
      · exact h1.free id c e b q1 hc q2 hl
      · cases hc
    · rcases hget i ei bi h1' h5' with ⟨q1, q2⟩ | ⟨_, rfl, rfl⟩
      · rcases hget j ej bj h2' h6' with ⟨q3, q4⟩ | ⟨_, rfl, rfl⟩
        · exact h1.inj i j c ei ej bi bj q1 q3 h3' h4' q2 q4 h7' h8'
        · cases h4'
      · cases h3'
  have hown : ∀ b, own (E ++ [⟨none, k, 0⟩]) (H ++ [.data k []]) b → own E H b := by
    rintro b ⟨id, e, blk, q1, q2, q3, q4⟩
    rcases hget id e blk q1 q2 with ⟨r1, r2⟩ | ⟨_, rfl, rfl⟩
    · exact ⟨id, e, blk, r1, r2, q3, q4⟩
    · cases q4
  have hcr : CR (E ++ [⟨none, k, 0⟩]) F w (xs ++ .ref H.length 0 0 :: ys) cargs := by
    refine ⟨by rw [h4.1]; simp, fun j x v hx' hv => ?_⟩
    have hall : ∀ y, y ∈ xs ++ .nil :: ys → ∀ u, VR E F w y u → VR (E ++ [⟨none, k, 0⟩]) F w y u := fun y _ u hu => hu.evo evo fun _ _ => trivial
    by_cases hj : j = xs.length
    · subst hj
      rw [List.getElem?_append_right (Nat.le_refl _)] at hx'
      simp at hx'
      subst hx'
      have hn := h4.2 xs.length .nil v (by rw [List.getElem?_append_right (Nat.le_refl _)]; simp) hv
      cases hn
      exact .refv _ k 0 _ (by rw [← hEl, List.getElem?_append_right (Nat.le_refl _)]; simp)
    · have e : (xs ++ .nil :: ys)[j]? = some x := by
        rw [List.getElem?_append] at hx' ⊢
        split
        · rename_i hlt
          rw [if_pos hlt] at hx'
          exact hx'
        · rename_i hlt
          rw [if_neg hlt] at hx'
          obtain ⟨m, hm⟩ : ∃ m, j - xs.length = m + 1 := ⟨j - xs.length - 1, by omega⟩
          rw [hm] at hx' ⊢
          simpa using hx'
      exact hall x (List.mem_of_getElem? e) v (h4.2 j x v e hv)
  refine (h.2 w cargs _ F hr h2 (fun i hi => by have := hk i hi; simp; omega) hcr).mono ?_
  rintro e w' ⟨v, x, H', E', F', q1, q2, q3, q4⟩
  refine ⟨v, x, H', E', F', q1, q2, ⟨q3.os, q3.tape, q3.output, q3.size, q3.F0, fun b hb => ?_, fun b hb hn => q3.same b hb fun ho => hn (hown b ho), q3.lt, q3.hr, fun id b en blk g1 g2 g3 g4 => ?_, fun i hi => ?_, q3.sz⟩, q4⟩
  · rcases q3.only b hb with g | g | g
    · exact .inl g
    · exact .inr (.inl g)
    · exact .inr (.inr (hown b g))
  · rcases q3.src id b en blk g1 g2 g3 g4 with g | g
    · exact .inl g
    · exact .inr (hown b g)
  · obtain ⟨en, g1, g2⟩ := q3.keep i hi
    refine ⟨en, g1, ?_⟩
    have := hk i hi
    rw [List.getElem?_append_left (by rw [hEl]; exact this)] at g2
    exact g2
theorem AC.cut {f : FuncId} {args : List V} {H : List Blk} {kp : List Nat} {R R' : V → List Blk → Prop} (h : AC P f args H kp R)
    (hR : ∀ x H', R x H' → ∃ H1 G, H' = H1 ++ G ∧ V.bel H1.length x = true ∧ belHeap H1.length H1 = true ∧ (∀ i, i ∈ kp → i < H1.length) ∧ R' x H1) : AC P f args H kp R' := by
  refine ⟨h.1, fun w cargs E F h1 h2 h3 h4 => (h.2 w cargs E F h1 h2 h3 h4).mono ?_⟩
  rintro e w' ⟨v, x, H', E', F', q1, q2, q3, q4⟩
  obtain ⟨H1, G, rfl, hx, hb, hk, hr'⟩ := hR x H' q2
  have hEl : E'.length = H1.length + G.length := by rw [q3.hr.len, List.length_append]
  have evoT : Evo E' F' w' (E'.take H1.length) F' w' (fun i => i < H1.length) := ⟨fun _ h => h, fun _ _ => rfl, fun i e hi h => by rw [List.getElem?_take_of_lt hi]; exact h, fun _ _ h => h⟩
  have hE1 : ∀ (j : Nat) (e : En), (E'.take H1.length)[j]? = some e → j < H1.length ∧ E'[j]? = some e := fun j e h => by
    have hj : j < H1.length := by have := (List.getElem?_eq_some_iff.1 h).1; simp at this; omega
    rw [List.getElem?_take_of_lt hj] at h
    exact ⟨hj, h⟩
  have hH1 : ∀ (j : Nat) (b : Blk), H1[j]? = some b → (H1 ++ G)[j]? = some b := fun j b h => by
    rw [List.getElem?_append_left (List.getElem?_eq_some_iff.1 h).1]
    exact h
  refine ⟨v, x, H1, E'.take H1.length, F', q1, hr', ⟨q3.os, q3.tape, q3.output, q3.size, q3.F0, q3.only, q3.same, q3.lt, ⟨by show (E'.take H1.length).length = H1.length; rw [List.length_take]; omega, fun id e b g1 g2 => ?_, fun id c e b g1 g2 g3 g4 => q3.hr.free id c e b (hE1 id e g1).2 g2 (hH1 id b g3) g4, fun i j c ei ej bi bj g1 g2 g3 g4 g5 g6 g7 g8 => q3.hr.inj i j c ei ej bi bj (hE1 _ _ g1).2 (hE1 _ _ g2).2 g3 g4 (hH1 _ _ g5) (hH1 _ _ g6) g7 g8⟩,
    fun id b en blk g1 g2 g3 g4 => q3.src id b en blk (hE1 id en g1).2 (hH1 id blk g2) g3 g4, fun i hi => ?_, q3.sz⟩, q4.evo evoT fun i hi => bel_has _ x hx i hi⟩
  · refine (q3.hr.blk id e b (hE1 id e g1).2 (hH1 id b g2)).evo evoT (fun i hi => ?_) fun _ _ => rfl
    obtain ⟨j, hj⟩ : ∃ j, H1[j]? = some b := ⟨id, g2⟩
    exact blk_bel_has (belHeap_get hb j b hj) hi
  · obtain ⟨en, g1, g2⟩ := q3.keep i hi
    exact ⟨en, by rw [List.getElem?_take_of_lt (hk i hi)]; exact g1, g2⟩
end Go.Aw
