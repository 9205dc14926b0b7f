/-
  An iterator's side of a range over a function: walks over abstract states with calls of 'yield' among them. Over any program; no condition.
-/
import Derived.Test.YtecindhbaekncaaGreatPxAwRh
namespace Go.Aw
set_option linter.unusedSimpArgs false
set_option linter.unusedVariables false
open Go.RowKit

variable {P : Program}

def wideF (ro : Option Nat) : Fence := { Fence.wide with round := ro }
theorem op_in {ro : Option Nat} {m : Nat} {o : Oper} {a : Act} {w : World} {next : Act → World → Prop} {Q : Exit → Act → World → Prop} (hd : ∀ c, o.op ≠ .defer c) (h : o.wp P a w next Q) : o.wpIn (wideF ro) m P a w next Q := by
  refine ⟨fun _ _ => trivial, ?_⟩
  rw [Oper.semAt_eq _ _ _ hd]
  unfold Oper.wp at h
  generalize (execOp a.eval o).run P w = res at h
  unfold Oper.upon at h
  unfold Oper.uponIn
  split at h
  · exact h
  · exact h
  · exact h
  · refine ⟨(fun hx => by cases hx), (show CallsIn Fence.wide _ _ _ _ _ _ from callsIn_wide.2 (h.mono ?_))⟩
    intro e w2 he
    cases e with
    | returned v => exact he
    | panicked c => exact he
    | outgrown => exact he
  · refine ⟨(fun hx => by cases hx), fun c cs _ => ?_⟩
    obtain ⟨v, w', q, s⟩ := h c cs
    exact ⟨v, w', q, show StepsIn (Machine.fenced P Fence.wide) P _ _ from stepsIn_wide.2 s⟩
  · exact h
  · exact h.elim
theorem opsCI_sound {ro : Option Nat} {m : Nat} {ops : Array Oper} {Q : Exit → Act → World → Prop} {B : Base} {n : Nat} (hd : dstsOk n ops = true) (hnd : ∀ (i : Nat) (o : Oper), ops[i]? = some o → ∀ c, o.op ≠ .defer c) (rest : List Nat) : ∀ (l : List (Oper × Nat)) (s : St) (a : Act) (w : World) (E : Env) (F : Nat → Prop) (K : St → Prop), a.tmps.size = n → Sim B s a w E F →
    OpsVC P B.keep ops (l.map (·.1)) s K → (∀ p, p ∈ l → ops[p.2]? = some p.1) →
    (∀ a' w' s' E' F', K s' → Sim B s' a' w' E' F' → a'.tmps.size = n → wpOpsIn (wideF ro) m P ops Q rest a' w') → wpOpsIn (wideF ro) m P ops Q (l.map (·.2) ++ rest) a w
  | [], s, a, w, E, F, K, hn, hs, h, _, hq => hq a w s E F h hs hn
  | (o, i) :: l, s, a, w, E, F, K, hn, hs, h, hl, hq => by
    have ho : ops[i]? = some o := hl (o, i) (by simp)
    have ih := fun s a w E F hn hs h => opsCI_sound (ro := ro) (m := m) (Q := Q) hd hnd rest l s a w E F K hn hs h (fun p hp => hl p (by simp [hp])) hq
    have hdd : ∀ d, o.dst = some d → d < a.tmps.size := fun d hd' => by rw [hn]; exact dstsOk_spec hd ho d hd'
    simp only [List.map_cons, List.cons_append, wpOpsIn, ho]
    simp only [List.map_cons, OpsVC] at h
    rcases op_sound (Q := Q) hs hdd h with ⟨v, s', hK, hs', hw⟩ | ⟨_, hw⟩
    · have ih' := ih s' _ w E F (by rw [size_put]; exact hn) hs' hK
      rcases hw with ⟨hw, hrun⟩ | ⟨hw, rfl⟩
      · rw [hw, if_pos rfl]
        refine op_in (hnd i o ho) ?_
        unfold Oper.wp
        rw [hrun w (Keep.refl w)]
        exact ih'
      · rw [hw]
        exact ⟨fun _ _ => trivial, ih'⟩
    · rcases hw with ⟨hw, hwp⟩ | ⟨hw, s', F', hK, hs'⟩
      · rw [hw, if_pos rfl]
        exact op_in (hnd i o ho) (Oper.wp_mono (fun a' w' ⟨_, v, s', E', F', ha, hK, hs'⟩ => by subst ha; exact ih s' _ w' E' F' (by rw [size_put]; exact hn) hs' hK) hwp)
      · rw [hw]
        exact ⟨fun _ _ => trivial, ih s' _ w E F' (by rw [size_put]; exact hn) hs' hK⟩

def okJ (J : (Nat → Prop) → Nat → World → Prop) (B : Base) (k : Nat) : Prop := B.keep = [] ∧ B.ds = [] ∧ ∃ X, J X k B.w0 ∧ ∀ b, B.own b ∨ B.F0 b → X b
def AWY (P : Program) (n : Nat) (J : (Nat → Prop) → Nat → World → Prop) (c : Code) (s : St) (k : Nat) (Q : Exit → St → Nat → Prop) : Prop :=
  codeOk n c = true → ∀ (B : Base) (a : Act) (w : World) (E : Env) (F : Nat → Prop), okJ J B k → a.tmps.size = n → Sim B s a w E F →
    c.wp P (fun e a' w' => (∀ ch, e ≠ .panic ch) ∧ e ≠ .outgrown ∧ ∃ B' s' k' E' F', okJ J B' k' ∧ Q e s' k' ∧ Sim B' s' a' w' E' F' ∧ a'.tmps.size = n) a w

section
variable {n : Nat} {J : (Nat → Prop) → Nat → World → Prop} {s : St} {k : Nat} {Q : Exit → St → Nat → Prop}
theorem awy_of {c : Code} (h : AWP P [] n c s fun e t => Q e t k) : AWY P n J c s k Q := fun hok B a w E F h1 h2 h3 =>
  wp_mono (h hok B a w E F h1.1 h2 h3) fun e a' w' ⟨g1, g2, s', E', F', g3, g4, g5⟩ => ⟨g1, g2, B, s', k, E', F', h1, g3, g4, g5⟩
def ThenY (next : St → Nat → Prop) (Q : Exit → St → Nat → Prop) : Exit → St → Nat → Prop
  | .normal, s, k => next s k
  | e, s, k => Q e s k
theorem awy_seq {x y : Code} (h : AWY P n J x s k (ThenY (fun t k' => AWY P n J y t k' Q) Q)) : AWY P n J (.seq x y) s k Q := by
  intro hok B a w E F h1 h2 h3
  simp only [codeOk, Bool.and_eq_true] at hok
  refine wp_seq (wp_mono (h hok.1 B a w E F h1 h2 h3) ?_)
  rintro e a' w' ⟨g1, g2, B', s', k', E', F', g0, g3, g4, g5⟩
  cases e with
  | normal => exact g3 hok.2 B' a' w' E' F' g0 g5 g4
  | exit id => exact ⟨g1, g2, B', s', k', E', F', g0, g3, g4, g5⟩
  | goto l => exact ⟨g1, g2, B', s', k', E', F', g0, g3, g4, g5⟩
  | ret => exact ⟨g1, g2, B', s', k', E', F', g0, g3, g4, g5⟩
  | panic ch => exact absurd rfl (g1 ch)
  | outgrown => exact absurd rfl g2
theorem awy_cond {c : Operand} {x y : Code} {b : Bool} (hc : s.ev c = .d (.bool b)) (ht : b = true → AWY P n J x s k Q) (hf : b = false → AWY P n J y s k Q) : AWY P n J (.cond c x y) s k Q := by
  intro hok B a w E F h1 h2 h3
  simp only [codeOk, Bool.and_eq_true] at hok
  have := ev_sound h3 c
  rw [hc] at this
  have hb := bool_of this
  cases b with
  | true => exact wp_cond_true hb (ht rfl hok.1 B a w E F h1 h2 h3)
  | false => exact wp_cond_false hb (hf rfl hok.2 B a w E F h1 h2 h3)
def InBlockY (id : Nat) (Q : Exit → St → Nat → Prop) : Exit → St → Nat → Prop
  | .exit id', s, k => if id' = id then Q .normal s k else Q (.exit id') s k
  | e, s, k => Q e s k
theorem awy_block {id : Nat} {c : Code} (h : AWY P n J c s k (InBlockY id Q)) : AWY P n J (.block id c) s k Q := by
  intro hok B a w E F h1 h2 h3
  refine wp_block (wp_mono (h hok B a w E F h1 h2 h3) ?_)
  rintro e a' w' ⟨g1, g2, B', s', k', E', F', g0, g3, g4, g5⟩
  cases e with
  | exit id' =>
    simp only [Exit.inBlock, InBlockY] at g3 ⊢
    split at g3
    · rename_i h; rw [if_pos h]; exact ⟨by simp, by simp, B', s', k', E', F', g0, g3, g4, g5⟩
    · rename_i h; rw [if_neg h]; exact ⟨by simp, by simp, B', s', k', E', F', g0, g3, g4, g5⟩
  | normal => exact ⟨g1, g2, B', s', k', E', F', g0, g3, g4, g5⟩
  | goto l => exact ⟨g1, g2, B', s', k', E', F', g0, g3, g4, g5⟩
  | ret => exact ⟨g1, g2, B', s', k', E', F', g0, g3, g4, g5⟩
  | panic ch => exact absurd rfl (g1 ch)
  | outgrown => exact absurd rfl g2
theorem awy_ren {c : Code} (r : List Nat) (s' : St) (hl : Ren [] r s' s) (h : AWY P n J c s' k Q) : AWY P n J c s k Q := by
  intro hok B a w E F h1 h2 h3
  have h4 := ren_sim (B := B) (r := r) (by rw [h1.1]; exact hl) h3
  exact h hok B a w _ F h1 h2 h4
theorem awy_loop {c : Code} (I : Nat → St → Nat → Prop) (m : Nat) (r0 : List Nat) (s0 : St) (h0 : Ren [] r0 s0 s) (hI : I m s0 k)
    (round : ∀ m t k, I m t k → AWY P n J c t k (ThenY (fun u k' => ∃ m' r u', m' < m ∧ I m' u' k' ∧ Ren [] r u' u) Q)) : AWY P n J (.loop c) s k Q := by
  refine awy_ren r0 s0 h0 ?_
  intro hok B a w E F h1 h2 h3
  have hok' : codeOk n c = true := hok
  intro b kk cs
  have key : ∀ (m : Nat) (t : St) (k : Nat) (B : Base) (a : Act) (w : World) (E : Env) (F : Nat → Prop), I m t k → okJ J B k → a.tmps.size = n → Sim B t a w E F →
      ∃ e a' w', ((∀ ch, e ≠ .panic ch) ∧ e ≠ .outgrown ∧ ∃ B' s' k' E' F', okJ J B' k' ∧ Q e s' k' ∧ Sim B' s' a' w' E' F' ∧ a'.tmps.size = n) ∧ Arrives P (lone (b.at a (.code c :: .inLoop c :: kk)) cs w) b kk cs e a' w' := by
    intro m
    induction m using Nat.strongRecOn with
    | _ m ih =>
      intro t k B a w E F hI hj hn hs
      obtain ⟨e, a₁, w₁, ⟨g1, g2, B', s', k', E', F', g0, g3, g4, g5⟩, harr⟩ := round m t k hI hok' B a w E F hj hn hs b (.inLoop c :: kk) cs
      cases e with
      | normal =>
        obtain ⟨m', r, u', hlt, hI', hren⟩ := g3
        have g4' : Sim B' u' a₁ w₁ _ F' := ren_sim (r := r) (by rw [g0.1]; exact hren) g4
        obtain ⟨e₂, a₂, w₂, hq₂, harr₂⟩ := ih m' hlt u' k' B' a₁ w₁ _ F' hI' g0 g5 g4'
        exact ⟨e₂, a₂, w₂, hq₂, .of_steps (Steps.trans harr (.one step_inLoop)) harr₂⟩
      | exit id => exact ⟨_, a₁, w₁, ⟨g1, g2, B', s', k', E', F', g0, g3, g4, g5⟩, .pass (x := .inLoop c) rfl (fun _ _ => .inl (by simp)) harr⟩
      | goto l => exact ⟨_, a₁, w₁, ⟨g1, g2, B', s', k', E', F', g0, g3, g4, g5⟩, .pass (x := .inLoop c) rfl (fun _ _ => .inl (by simp)) harr⟩
      | ret => exact ⟨_, a₁, w₁, ⟨g1, g2, B', s', k', E', F', g0, g3, g4, g5⟩, .pass (x := .inLoop c) rfl (fun _ _ => .inl (by simp)) harr⟩
      | panic ch => exact absurd rfl (g1 ch)
      | outgrown => exact absurd rfl g2
  obtain ⟨e, a', w', hq, harr⟩ := key m s0 k B a w E F hI h1 h2 h3
  exact ⟨e, a', w', hq, .of_steps (.one step_loop) harr⟩
theorem awy_yield {m l : Nat} {encs : Nat → Array Value} {N : Nat} (hJ : Iter P m l encs N J) {id : Nat} {o0 o1 o3 : Oper} {g : Operand} {xs : List Operand} {ats : Array TypeId} {d : Option Tmp} {ty : TypeId} {ps : String} {af : Array Edge} (hk : k < N)
    (hnd : noDefer #[o0, o1, o3] = true) (vs : List V)
    (h : ∀ K : St → Prop, (∀ u, Q .normal u (k + 1) → K u) → contRun P [] #[o0, o1, { dst := d, op := .call { callee := .value g, args := xs.toArray, argTypes := ats }, type := ty, pos := ps, after := af, guard := none }, o3] (.vc [o0, o1]) s fun t =>
      t.ev g = .fn (.yield l) [] ∧ xs.map t.ev = vs ∧
      contRun P [] #[o0, o1, { dst := d, op := .call { callee := .value g, args := xs.toArray, argTypes := ats }, type := ty, pos := ps, after := af, guard := none }, o3] (.vc [o3]) (t.put d (.d (.bool true))) K)
    (hvs : ∀ (E : Env) (F : Nat → Prop) (w : World) (cs : Array Value), cs.size = vs.length → (∀ (j : Nat) (x : V) (v : Value), vs[j]? = some x → cs[j]? = some v → VR E F w x v) → cs = encs k) :
    AWY P n J (.region id #[o0, o1, { dst := d, op := .call { callee := .value g, args := xs.toArray, argTypes := ats }, type := ty, pos := ps, after := af, guard := none }, o3] false) s k Q := by
  intro hok B a w E F h1 h2 h3
  obtain ⟨hkp, hds, X, hjx, hX⟩ := h1
  refine wpIn_wide (n := m + 1).1 ?_
  refine wpIn_region (F := wideF none) ?_
  show wpOpsIn (wideF none) (m + 1) P _ _ ([(o0, 0), (o1, 1)].map (·.2) ++ [2, 3]) a w
  have hnd' : ∀ (i : Nat) (o : Oper), (#[o0, o1, { dst := d, op := .call { callee := .value g, args := xs.toArray, argTypes := ats }, type := ty, pos := ps, after := af, guard := none }, o3] : Array Oper)[i]? = some o → ∀ c, o.op ≠ .defer c := fun i o ho c => by
    match i, ho with
    | 0, ho => exact noDefer_spec hnd 0 o ho c
    | 1, ho => exact noDefer_spec hnd 1 o ho c
    | 2, ho => cases ho; intro e; cases e
    | 3, ho => exact noDefer_spec hnd 2 o ho c
    | i + 4, ho => simp at ho
  refine opsCI_sound (n := n) hok hnd' [2, 3] [(o0, 0), (o1, 1)] s a w E F _ h2 h3 (by rw [hkp]; exact h _ fun u hu => hu) (by simp) ?_
  rintro a1 w1 s1 E1 F1 ⟨hev, hxs, hrest⟩ hs1 hn1
  have hval : a1.eval g = .func (.yield l) #[] #[] := by
    have := ev_sound hs1 g
    rw [hev] at this
    generalize a1.eval g = v at this
    cases this with
    | fn f xs cs hsz _ =>
      obtain rfl : cs = #[] := Array.size_eq_zero_iff.1 hsz
      rfl
  have hargs : (xs.toArray.map a1.eval) = encs k := by
    refine hvs E1 F1 w1 _ (by simp [← hxs]) fun j x v hx hv => ?_
    rw [← hxs, List.getElem?_map, Option.map_eq_some_iff] at hx
    obtain ⟨y, hy, rfl⟩ := hx
    have : v = a1.eval y := by simpa [hy] using hv.symm
    subst this
    exact ev_sound hs1 y
  have hg1 : Grow B.own B.w0 w1 := hs1.rel.grow
  have hX1 : ∀ b, F1 b ∨ own E1 s1.heap b → b < w1.heap.size ∧ (X b ∨ B.w0.heap.size ≤ b) := fun b hb => by
    rcases hb with hb | ⟨id, e, blk, q1, q2, q3, q4⟩
    · refine ⟨hs1.rel.lt b hb, ?_⟩
      rcases hs1.rel.only b hb with h | h | h
      · exact .inl (hX b (.inr h))
      · exact .inr h
      · exact .inl (hX b (.inl h))
    · refine ⟨(hs1.rel.hr.free id b e blk q1 q4 q2 q3).1, ?_⟩
      rcases hs1.rel.src id b e blk q1 q2 q3 q4 with h | h
      · exact .inr h
      · exact .inl (hX b (.inl h))
  have hj1 : J (fun b => F1 b ∨ own E1 s1.heap b) k w1 := hJ.st _ _ _ _ _ hjx (hg1.mono fun b hb => hX b (.inl hb)) hX1
  obtain ⟨fn, tmps, assign, body, hy, hround⟩ := hJ.yield _ _ _ hj1 hk
  rw [wpOpsIn]
  simp only [show (#[o0, o1, ({ dst := d, op := .call { callee := .value g, args := xs.toArray, argTypes := ats }, type := ty, pos := ps, after := af, guard := none } : Oper), o3] : Array Oper)[2]? = some { dst := d, op := .call { callee := .value g, args := xs.toArray, argTypes := ats }, type := ty, pos := ps, after := af, guard := none } from rfl]
  rw [show Region.wanted ({ dst := d, op := .call { callee := .value g, args := xs.toArray, argTypes := ats }, type := ty, pos := ps, after := af, guard := none } : Oper) (yielded _ a1.tmps) = true from rfl, if_pos rfl]
  refine ⟨fun _ _ => trivial, ?_⟩
  have hrun : (Oper.semAt (wideF none).round a1.eval ({ dst := d, op := .call { callee := .value g, args := xs.toArray, argTypes := ats }, type := ty, pos := ps, after := af, guard := none } : Oper)).run P w1 = .ok (.round l fn tmps assign body) w1 := by
    rw [Oper.semAt_eq _ _ _ (by intro c e; cases e)]
    simp [execOp, resolve, hval, Deferred.ofValue, invoke, hargs, hy]
  rw [hrun]
  refine ⟨(fun hx => by cases hx), (show RoundIn Fence.wide m _ _ _ _ _ _ _ _ from hround.mono ?_)⟩
  rintro e w2 ⟨rfl, hj2, hg2⟩
  dsimp only
  have hs2 : Sim ⟨w2, F1, own E1 s1.heap, E1, [], B.ds⟩ s1 a1 w2 E1 F1 := hs1.grown hg2 fun b hb => ⟨fun h => hb (.inl h), fun h => hb (.inr h)⟩
  have hdd : ∀ dd, d = some dd → dd < a1.tmps.size := fun dd hd' => by
    rw [hn1]
    exact dstsOk_spec (ops := #[o0, o1, { dst := d, op := .call { callee := .value g, args := xs.toArray, argTypes := ats }, type := ty, pos := ps, after := af, guard := none }, o3]) (i := 2) hok rfl dd hd'
  have hs3 := Sim.put hs2 (x := .d (.bool true)) (v := .bool true) (.d _ _ (.bool true)) hdd
  refine opsCI_sound (n := n) (ro := none) (m := m + 1) hok hnd' [] [(o3, 3)] _ _ w2 E1 F1 _ (by rw [size_put]; exact hn1) hs3 hrest (by simp) ?_
  intro a3 w3 s3 E3 F3 hQ hs4 hn3
  refine ⟨by simp, by simp, ⟨w2, F1, own E1 s1.heap, E1, [], B.ds⟩, s3, k + 1, E3, F3, ⟨rfl, hds, _, hj2, fun b hb => ?_⟩, hQ, hs4, hn3⟩
  rcases hb with hb | hb
  · exact .inr hb
  · exact .inl hb
end
end Go.Aw
