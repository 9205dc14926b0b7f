/-
  Walks of functions that hold ranges over functions: states with marks among the deferred calls; a range whose iterator reads and makes memory; from a walk to a contract. Over any program; no condition.
-/
import Derived.Test.YtecindhbaekncaaGreatPxAwRj
namespace Go.Aw
set_option linter.unusedSimpArgs false
set_option linter.unusedVariables false
open Go.RowKit

variable {P : Program}

def Marks (n0 : Nat) (E : Env) (F : Nat → Prop) (H : List Blk) (w : World) (ds : List Deferred) : Prop :=
  ∀ d, d ∈ ds → ∃ D, d = { target := .collected D, args := #[] } ∧ w.heap[D]? = some (.deferred (some [])) ∧ n0 ≤ D ∧ ¬ own E H D ∧ ¬ F D
structure SimM (B : Base) (s : St) (a : Act) (w : World) (E : Env) (F : Nat → Prop) : Prop where
  rel : Rel B s E F w
  tm : ∀ i x, tget s.tm i = some x → ∃ v, a.tmps[i]? = some v ∧ VR E F w x v
  mks : Marks B.w0.heap.size E F s.heap w a.defers
  nd : a.defers.Pairwise (· ≠ ·)
theorem SimM.sim {B : Base} {s : St} {a : Act} {w : World} {E : Env} {F : Nat → Prop} (h : SimM B s a w E F) : Sim ⟨w, F, own E s.heap, E, [], a.defers⟩ s a w E F :=
  ⟨⟨rfl, rfl, .refl _, Nat.le_refl _, fun _ h => h, fun _ h => .inl h, fun _ _ _ => rfl, h.rel.lt, h.rel.hr, fun id b e blk q1 q2 q3 q4 => .inr ⟨id, e, blk, q1, q2, q3, q4⟩, (fun i hi => by cases hi), fun _ _ h => h⟩, rfl, h.tm⟩
theorem own_lt {E : Env} {F : Nat → Prop} {w : World} {H : List Blk} (h : HR E F w H) {b : Nat} (hb : own E H b) : b < w.heap.size ∧ ¬ F b := by
  obtain ⟨id, e, blk, q1, q2, q3, q4⟩ := hb
  exact h.free id b e blk q1 q4 q2 q3
theorem SimM.after {B : Base} {s s' : St} {a a' : Act} {w w' : World} {E E' : Env} {F F' : Nat → Prop} (hk : B.keep = []) (h : SimM B s a w E F) (h' : Sim ⟨w, F, own E s.heap, E, [], a.defers⟩ s' a' w' E' F') : SimM B s' a' w' E' F' := by
  refine ⟨h.rel.trans h'.rel (by rw [hk]; intro i hi; cases hi), h'.tm, ?_, by rw [h'.defers]; exact h.nd⟩
  rw [h'.defers]
  intro d hd
  obtain ⟨D, q1, q2, q3, q4, q5⟩ := h.mks d hd
  have hlt : D < w.heap.size := (Array.getElem?_eq_some_iff.1 q2).1
  refine ⟨D, q1, (h'.rel.same D hlt q4).trans q2, q3, ?_, ?_⟩
  · rintro ⟨id, e, blk, r1, r2, r3, r4⟩
    rcases h'.rel.src id D e blk r1 r2 r3 r4 with h | h
    · exact absurd hlt (Nat.not_lt_of_le h)
    · exact q4 h
  · intro hF
    rcases h'.rel.only D hF with h | h | h
    · exact q5 h
    · exact absurd hlt (Nat.not_lt_of_le h)
    · exact q4 h

def AWR (P : Program) (n : Nat) (c : Code) (s : St) (Q : Exit → St → Prop) : Prop :=
  ∀ (B : Base) (a : Act) (w : World) (E : Env) (F : Nat → Prop), B.keep = [] → a.tmps.size = n → SimM B s a w E F →
    c.wp P (fun e a' w' => (∀ ch, e ≠ .panic ch) ∧ e ≠ .outgrown ∧ ∃ s' E' F', Q e s' ∧ SimM B s' a' w' E' F' ∧ a'.tmps.size = n) a w
section
variable {n : Nat} {s : St} {Q : Exit → St → Prop}
theorem awr_of {c : Code} (hok : codeOk n c = true) (h : AWP P [] n c s Q) : AWR P n c s Q := by
  intro B a w E F h1 h2 h3
  refine wp_mono (h hok _ a w E F rfl h2 h3.sim) ?_
  rintro e a' w' ⟨g1, g2, s', E', F', g3, g4, g5⟩
  exact ⟨g1, g2, s', E', F', g3, h3.after h1 g4, g5⟩
theorem awr_seq {x y : Code} (h : AWR P n x s (Then (fun t => AWR P n y t Q) Q)) : AWR P n (.seq x y) s Q := by
  intro B a w E F h1 h2 h3
  refine wp_seq (wp_mono (h B a w E F h1 h2 h3) ?_)
  rintro e a' w' ⟨g1, g2, s', E', F', g3, g4, g5⟩
  cases e with
  | normal => exact g3 B a' w' E' F' h1 g5 g4
  | exit id => exact ⟨g1, g2, s', E', F', g3, g4, g5⟩
  | goto l => exact ⟨g1, g2, s', E', F', g3, g4, g5⟩
  | ret => exact ⟨g1, g2, s', E', F', g3, g4, g5⟩
  | panic ch => exact absurd rfl (g1 ch)
  | outgrown => exact absurd rfl g2
theorem awr_cond {c : Operand} {x y : Code} {b : Bool} (hc : s.ev c = .d (.bool b)) (ht : b = true → AWR P n x s Q) (hf : b = false → AWR P n y s Q) : AWR P n (.cond c x y) s Q := by
  intro B a w E F h1 h2 h3
  have := ev_sound h3.sim c
  rw [hc] at this
  have hb := bool_of this
  cases b with
  | true => exact wp_cond_true hb (ht rfl B a w E F h1 h2 h3)
  | false => exact wp_cond_false hb (hf rfl B a w E F h1 h2 h3)
theorem awr_block {id : Nat} {c : Code} (h : AWR P n c s (InBlock id Q)) : AWR P n (.block id c) s Q := by
  intro B a w E F h1 h2 h3
  refine wp_block (wp_mono (h B a w E F h1 h2 h3) ?_)
  rintro e a' w' ⟨g1, g2, s', E', F', g3, g4, g5⟩
  cases e with
  | exit id' =>
    simp only [Exit.inBlock, InBlock] at g3 ⊢
    split at g3
    · rename_i h; rw [if_pos h]; exact ⟨by simp, by simp, s', E', F', g3, g4, g5⟩
    · rename_i h; rw [if_neg h]; exact ⟨by simp, by simp, s', E', F', g3, g4, g5⟩
  | normal => exact ⟨g1, g2, s', E', F', g3, g4, g5⟩
  | goto l => exact ⟨g1, g2, s', E', F', g3, g4, g5⟩
  | ret => exact ⟨g1, g2, s', E', F', g3, g4, g5⟩
  | panic ch => exact absurd rfl (g1 ch)
  | outgrown => exact absurd rfl g2
theorem awr_virtC {c : Code} (j k : Nat) (hj : s.heap[j]? = some (.cells [.nil])) (h : AWR P n c { s with heap := s.heap.set j (.cells [.ref s.heap.length 0 0]) ++ [.data k []] } Q) : AWR P n c s Q := by
  intro B a w E F h1 h2 h3
  obtain ⟨e1, e2⟩ := virt_rel h3.rel k
  have hjl : j < s.heap.length := (List.getElem?_eq_some_iff.1 hj).1
  have hlen := h3.rel.hr.len
  have hset : ∀ (i : Nat) (b : Blk), (s.heap.set j (.cells [.ref s.heap.length 0 0]) ++ [.data k []])[i]? = some b → ∃ b0, (s.heap ++ [.data k []])[i]? = some b0 ∧ b0.live = b.live ∧ (b0 = b ∨ (i = j ∧ b = .cells [.ref s.heap.length 0 0])) := by
    intro i b hi
    rcases Nat.lt_or_ge i s.heap.length with hil | hil
    · rw [List.getElem?_append_left (by simpa using hil), List.getElem?_set] at hi
      rw [List.getElem?_append_left hil]
      split at hi
      · rename_i hij
        subst hij
        simp only [Option.some.injEq] at hi
        subst hi
        exact ⟨_, hj, rfl, .inr ⟨rfl, rfl⟩⟩
      · exact ⟨b, hi, rfl, .inl rfl⟩
    · rw [List.getElem?_append_right (by simpa using hil)] at hi
      rw [List.getElem?_append_right hil]
      simp only [List.length_set] at hi
      exact ⟨b, hi, rfl, .inl rfl⟩
  have hown : ∀ b, own (E ++ [⟨none, k, 0⟩]) (s.heap.set j (.cells [.ref s.heap.length 0 0]) ++ [.data k []]) b → own E s.heap b := by
    rintro b ⟨id, e, blk, q1, q2, q3, q4⟩
    obtain ⟨b0, r1, r2, _⟩ := hset id blk q2
    rcases Nat.lt_or_ge id E.length with hil | hil
    · rw [List.getElem?_append_left hil] at q1
      rw [List.getElem?_append_left (by omega)] at r1
      exact ⟨id, e, b0, q1, r1, by rw [r2]; exact q3, q4⟩
    · rw [List.getElem?_append_right hil] at q1
      have : id - E.length = 0 := by
        rcases Nat.eq_zero_or_pos (id - E.length) with h | h
        · exact h
        · rw [List.getElem?_eq_none (by simp only [List.length_cons, List.length_nil]; omega)] at q1; cases q1
      rw [this] at q1
      simp at q1
      subst q1
      cases q4
  refine h B a w (E ++ [⟨none, k, 0⟩]) F h1 h2 ⟨⟨e2.os, e2.tape, e2.output, e2.size, e2.F0, e2.only, e2.same, e2.lt, ⟨?_, ?_, ?_, ?_⟩, ?_, e2.keep, e2.sz⟩, ?_, ?_, h3.nd⟩
  · simp [hlen]
  · intro id e b q1 q2
    obtain ⟨b0, r1, _, r3⟩ := hset id b q2
    have hb0 := e2.hr.blk id e b0 q1 r1
    rcases r3 with rfl | ⟨rfl, rfl⟩
    · exact hb0
    · rw [List.getElem?_append_left hjl, hj] at r1
      cases r1
      obtain ⟨p1, p2, b, cs, t, p3, p4, p5, p6⟩ := hb0
      refine ⟨p1, p2, b, cs, t, p3, p4, p5, fun i x hx => ?_⟩
      match i, hx with
      | 0, hx =>
        simp at hx
        subst hx
        obtain ⟨v, hv, hvr⟩ := p6 0 .nil rfl
        refine ⟨v, hv, ?_⟩
        cases hvr with
        | nil a => exact .refv _ k 0 a (by rw [← hlen, List.getElem?_append_right (Nat.le_refl _)]; simp)
      | i + 1, hx => simp at hx
  · intro id b e blk q1 q2 q3 q4
    obtain ⟨b0, r1, r2, _⟩ := hset id blk q3
    exact e2.hr.free id b e b0 q1 q2 r1 (by rw [r2]; exact q4)
  · intro i i' b ei ei' bi bi' q1 q2 q3 q4 q5 q6 q7 q8
    obtain ⟨b0, r1, r2, _⟩ := hset i bi q5
    obtain ⟨b1, r3, r4, _⟩ := hset i' bi' q6
    exact e2.hr.inj i i' b ei ei' b0 b1 q1 q2 q3 q4 r1 r3 (by rw [r2]; exact q7) (by rw [r4]; exact q8)
  · intro id b e blk q1 q2 q3 q4
    obtain ⟨b0, r1, r2, _⟩ := hset id blk q2
    exact e2.src id b e b0 q1 r1 (by rw [r2]; exact q3) q4
  · intro i x hx
    obtain ⟨v, hv, hr⟩ := h3.tm i x hx
    exact ⟨v, hv, hr.evo e1 (fun _ _ => trivial)⟩
  · intro d hd
    obtain ⟨D, q1, q2, q3, q4, q5⟩ := h3.mks d hd
    exact ⟨D, q1, q2, q3, (fun h => q4 (hown D h)), q5⟩
end

theorem relM_putObj {B : Base} {s : St} {a : Act} {w : World} {E : Env} {F : Nat → Prop} (h : Rel B s E F w) (ht : ∀ i x, tget s.tm i = some x → ∃ v, a.tmps[i]? = some v ∧ VR E F w x v) {D : Nat} (hD : w.heap[D]? = some (.deferred (some []))) (h0 : B.w0.heap.size ≤ D) (hn : ¬ own E s.heap D) (hF : ¬ F D) (o : Obj) :
    Rel B s E F (w.putObj D o) ∧ ∀ i x, tget s.tm i = some x → ∃ v, a.tmps[i]? = some v ∧ VR E F (w.putObj D o) x v := by
  have hg : Grow (fun b => b = D) w (w.putObj D o) := Grow.putObj o rfl hD rfl
  have hsame : ∀ b, b ≠ D → (w.putObj D o).heap[b]? = w.heap[b]? := fun b hb => World.putObj_heap_other hb
  have evo : Evo E F w E F (w.putObj D o) (fun _ => True) := ⟨fun _ h => h, fun b hb => hsame b fun e => hF (e ▸ hb), fun _ _ _ h => h, hg.sz⟩
  refine ⟨⟨hg.os.trans h.os, hg.tape.trans h.tape, hg.later.trans h.output, Nat.le_trans h.size hg.size, h.F0, h.only, fun b q1 q2 => (hsame b (by omega)).trans (h.same b q1 q2), fun b hb => Nat.lt_of_lt_of_le (h.lt b hb) hg.size, ⟨h.hr.len, ?_, ?_, h.hr.inj⟩, h.src, h.keep, fun b n hb => hg.sz b n (h.sz b n hb)⟩, ?_⟩
  · intro id e b h1 h2
    cases hl : b.live with
    | false => cases b <;> simp [Blk.live] at hl; trivial
    | true => exact (h.hr.blk id e b h1 h2).evo evo (fun _ _ => trivial) fun c hc => hsame c fun e' => hn (e' ▸ ⟨id, e, b, h1, h2, hl, hc⟩)
  · intro id b e blk h1 h2 h3 h4
    obtain ⟨q1, q2⟩ := h.hr.free id b e blk h1 h2 h3 h4
    exact ⟨Nat.lt_of_lt_of_le q1 hg.size, q2⟩
  · intro i x hx
    obtain ⟨v, hv, hr⟩ := ht i x hx
    exact ⟨v, hv, hr.evo evo (fun _ _ => trivial)⟩
theorem leaves_marks {fn : Func} {tmps : Array Value} {B : Base} {s : St} {E : Env} {F : Nat → Prop} {R : Ending → World → Prop} (ht : ∀ w, Rel B s E F w → (∀ i x, tget s.tm i = some x → ∃ v, tmps[i]? = some v ∧ VR E F w x v) → ∃ v, (results fn tmps).run P w = .ok v w ∧ R (.returned v) w) :
    ∀ (ds : List Deferred) (w : World), ds.Pairwise (· ≠ ·) → Marks B.w0.heap.size E F s.heap w ds → Rel B s E F w → (∀ i x, tget s.tm i = some x → ∃ v, tmps[i]? = some v ∧ VR E F w x v) → LeavesInM Fence.wide 0 P fn tmps R ds .returning w
  | [], w, _, _, hr, hx => ht w hr hx
  | d :: ds, w, hp, hm, hr, hx => by
    obtain ⟨D, rfl, q2, q3, q4, q5⟩ := hm d (by simp)
    obtain ⟨p1, p2⟩ := List.pairwise_cons.1 hp
    obtain ⟨r1, r2⟩ := relM_putObj (a := { tmps := tmps, defers := [] }) hr hx q2 q3 q4 q5 (.deferred none)
    refine ⟨by simp, .inl ⟨D, _, rfl, run_takeDeferred q2, leaves_marks ht ds _ p2 ?_ r1 r2⟩⟩
    intro d' hd'
    obtain ⟨D', rfl, s2, s3, s4, s5⟩ := hm d' (List.mem_cons_of_mem _ hd')
    have hne : D' ≠ D := fun e => by subst e; exact p1 _ hd' rfl
    exact ⟨D', rfl, (World.putObj_heap_other hne).trans s2, s3, s4, s5⟩
theorem ac_ofR {f : FuncId} {fn : Func} {c : Code} {args : List V} {H : List Blk} {R : V → List Blk → Prop} (hf : P.funcs[f]? = some fn) (hb : fn.body = some c)
    (hnm : (fn.name == "runtime.NumGoroutine") = false) (hn : args.length ≤ fn.ntmps)
    (h : AWR P fn.ntmps c ⟨argTm 0 args, H⟩ fun e t => (e = .normal ∨ e = .ret) ∧ ∃ p x, retQ P t fn.results.toList = some (p, x) ∧ p ∧ R x t.heap) : AC P f args H [] R := by
  refine ⟨⟨fn, hf, hnm, by rw [hb]; rfl⟩, fun w cargs E F h1 h2 h3 h4 => callsIn_wide.1 (callsIn_of_wp_marks (n := 0) hf hb trivial (wpIn_wide.2 ?_) rfl)⟩
  have hsz : (cargs ++ Array.replicate (fn.ntmps - cargs.size) undef).size = fn.ntmps := by
    have := h4.1
    simp; omega
  refine wp_mono (h ⟨w, F, own E H, E, [], []⟩ _ w E F rfl hsz ⟨⟨rfl, rfl, .refl _, Nat.le_refl _, fun _ h => h, fun _ h => .inl h, fun _ _ _ => rfl, h2, h1, ?_, ?_, fun _ _ h => h⟩, ?_, (fun d hd => by cases hd), List.Pairwise.nil⟩) ?_
  · exact fun id b e blk q1 q2 q3 q4 => .inr ⟨id, e, blk, q1, q2, q3, q4⟩
  · intro i hi; cases hi
  · intro i x hx
    obtain ⟨_, q⟩ := argTm_get args 0 i x hx
    rw [Nat.sub_zero] at q
    have hi : i < cargs.size := by rw [h4.1]; exact (List.getElem?_eq_some_iff.1 q).1
    refine ⟨cargs[i], ?_, h4.2 i x _ q (Array.getElem?_eq_getElem hi)⟩
    rw [Array.getElem?_append_left hi, Array.getElem?_eq_getElem hi]
  · rintro e a' w' ⟨g1, g2, s', E', F', ⟨g3, p, x, g4, hp, g5⟩, g6, g7⟩
    have fin := leaves_marks (P := P) (fn := fn) (tmps := a'.tmps) (B := ⟨w, F, own E H, E, [], []⟩) (s := s') (E := E') (F := F')
      (R := fun e w' => ∃ v x H' E' F', e = .returned v ∧ R x H' ∧ Rel ⟨w, F, own E H, E, [], []⟩ ⟨[], H'⟩ E' F' w' ∧ VR E' F' w' x v) ?_ a'.defers w' g6.nd g6.mks g6.rel g6.tm
    · rcases g3 with rfl | rfl
      · exact fin
      · exact fin
    · intro W hr ht
      obtain ⟨v, hv, hx⟩ := ret_sound (P := P) (a := { tmps := a'.tmps, defers := [] }) (B := ⟨w, F, own E H, E, [], []⟩) ⟨hr, rfl, ht⟩ g4 hp
      exact ⟨v, hv, v, x, s'.heap, E', F', rfl, g5, ⟨hr.os, hr.tape, hr.output, hr.size, hr.F0, hr.only, hr.same, hr.lt, hr.hr, hr.src, hr.keep, hr.sz⟩, hx⟩
end Go.Aw
