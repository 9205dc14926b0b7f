/-
  Calls that hand over the whole of the walk's own memory. Over any program; no condition.
-/
import Derived.Test.YtmmnjelmahcbaaaAwQ
namespace Go.Aw
set_option linter.unusedSimpArgs false
set_option linter.unusedVariables false
open Go.RowKit

/-- A call in which the callee may read and write all own blocks; they keep their numbers. -/
def HeapVC (P : Program) (o : Oper) (s : St) (K : St → Prop) : Prop :=
  match o.op, o.guard with
  | .call c, none =>
    match callT s c with
    | some (p, f, args) => p ∧ ∃ R : V → List Blk → Prop, AC P f args s.heap (List.range s.heap.length) R ∧ ∀ x H', R x H' → K ((⟨s.tm, H'⟩ : St).put o.dst x)
    | none => False
  | _, _ => False

/-- What the callee of such a call leaves. -/
theorem heap_merge {B : Base} {s : St} {a : Act} {w w' : World} {E E' : Env} {F F' : Nat → Prop} {H' : List Blk} (hs : Sim B s a w E F)
    (hr : Rel ⟨w, F, own E s.heap, E, List.range s.heap.length⟩ ⟨[], H'⟩ E' F' w') : Sim B ⟨s.tm, H'⟩ a w' E' F' := by
  have hs' := hs.rel
  have hown : ∀ b, own E s.heap b → B.w0.heap.size ≤ b ∨ B.own b := fun b ⟨id, e, blk, h1, h2, h3, h4⟩ => hs'.src id b e blk h1 h2 h3 h4
  have hkeep : ∀ (j : Nat) (e : En), E[j]? = some e → E'[j]? = some e := fun j e h => by
    have hj : j < s.heap.length := by rw [← hs'.hr.len]; exact (List.getElem?_eq_some_iff.1 h).1
    obtain ⟨e', h1, h2⟩ := hr.keep j (List.mem_range.2 hj)
    dsimp only at h2
    rw [h] at h2
    cases h2
    exact h1
  have evo : Evo E F w E' F' w' (fun _ => True) := ⟨hr.F0, fun b hb => hr.same b (hs'.lt b hb) (fun ⟨id, e, blk, h1, h2, h3, h4⟩ => (hs'.hr.free id b e blk h1 h4 h2 h3).2 hb), fun j e _ h => hkeep j e h, hr.sz⟩
  refine ⟨⟨hr.os.trans hs'.os, hr.tape.trans hs'.tape, hr.output.trans hs'.output, Nat.le_trans hs'.size hr.size, fun b hb => hr.F0 b (hs'.F0 b hb), fun b hb => ?_, fun b h1 h2 => ?_, hr.lt, hr.hr, fun id b e blk h1 h2 h3 h4 => ?_, fun i hi => ?_, fun b n h => hr.sz b n (hs'.sz b n h)⟩, hs.defers, fun i x hx => ?_⟩
  · rcases hr.only b hb with h | h | h
    · exact hs'.only b h
    · exact .inr (.inl (Nat.le_trans hs'.size h))
    · exact .inr (hown b h)
  · refine (hr.same b (Nat.lt_of_lt_of_le h1 hs'.size) fun h => ?_).trans (hs'.same b h1 h2)
    rcases hown b h with h | h
    · omega
    · exact h2 h
  · rcases hr.src id b e blk h1 h2 h3 h4 with h | h
    · exact .inl (Nat.le_trans hs'.size h)
    · exact hown b h
  · obtain ⟨e, h1, h2⟩ := hs'.keep i hi
    exact ⟨e, hkeep i e h1, h2⟩
  · obtain ⟨v, hv, h⟩ := hs.tm i x hx
    exact ⟨v, hv, h.evo evo (fun _ _ => trivial)⟩

theorem heap_sound {P : Program} {B : Base} {s : St} {a : Act} {w : World} {E : Env} {F : Nat → Prop} {o : Oper} {K : St → Prop} {Q : Exit → Act → World → Prop}
    (hs : Sim B s a w E F) (hd : ∀ d, o.dst = some d → d < a.tmps.size) (h : HeapVC P o s K) (ops : Array Oper) :
    Region.wanted o (yielded ops a.tmps) = true ∧ o.wp P a w (fun a' w' => ∃ v s' E' F', a' = a.put o.dst v ∧ K s' ∧ Sim B s' a' w' E' F') Q := by
  unfold HeapVC at h
  split at h
  · rename_i c hc hg
    refine ⟨by simp [Region.wanted, hg], ?_⟩
    split at h
    · rename_i p f args hT
      obtain ⟨hp, R, hac, hK⟩ := h
      obtain ⟨fn, hfn, hnm, hbd⟩ := hac.1
      have hcf : ∀ cargs, (callFunc f cargs).run P w = .ok (.enter f cargs) w := fun cargs => by
        simp only [callFunc, Sem.run_bind, run_program, Result.andThen_ok, hfn, hnm, hbd, Bool.false_eq_true, if_false]
        rfl
      have hrun : ∃ cargs, (execOp a.eval o).run P w = .ok (.enter f cargs) w ∧ CR E F w args cargs := by
        unfold callT at hT
        split at hT
        · rename_i fo hcal
          have fin : ∀ (caps : List V) (cv : Array Value), a.eval fo = .func (.func f) #[] cv → cv.size = caps.length →
              (∀ (j : Nat) (x : V) (v : Value), caps[j]? = some x → cv[j]? = some v → VR E F w x v) → (stripAll s c.args.toList).1 → args = (stripAll s c.args.toList).2 ++ caps →
              ∃ cargs, (execOp a.eval o).run P w = .ok (.enter f cargs) w ∧ CR E F w args cargs := by
            intro caps cv hf hcs hcr hst hargs
            subst hargs
            obtain ⟨q1, q2⟩ := stripAll_sound hs c.args.toList hst
            refine ⟨(c.args.map a.eval) ++ cv, ?_, ?_, ?_⟩
            · simp [execOp, hc, resolve, hcal, hf, Deferred.ofValue, invoke, hcf]
            · simp [q1, hcs]
            · intro j x v hx hv
              rw [List.getElem?_append] at hx
              rw [Array.getElem?_append] at hv
              rw [q1] at hx
              simp only [Array.size_map, Array.length_toList] at hv hx
              split at hx
              · rename_i hj
                rw [if_pos hj] at hv
                exact q2 j x v hx (by simpa using hv)
              · rename_i hj
                rw [if_neg hj] at hv
                exact hcr _ x v hx hv
          have e0 := ev_sound hs fo
          split at hT
          · rename_i f' caps hfo
            simp only [Option.some.injEq, Prod.mk.injEq] at hT
            obtain ⟨rfl, rfl, rfl⟩ := hT
            have e1 := V.strip_sound e0 hp.1
            rw [hfo] at e1
            generalize hv : a.eval fo = v at e1
            cases e1 with
            | d _ _ hd' =>
              cases hd' with
              | fn _ _ cs hss hrr =>
                refine fin (caps.map .d) cs hv (by simpa using hss) (fun j x v hx hv => ?_) hp.2 rfl
                simp only [List.getElem?_map, Option.map_eq_some_iff] at hx
                obtain ⟨y, hy, rfl⟩ := hx
                exact .d _ _ (hrr j y v hy hv)
          · rename_i f' caps hfo
            simp only [Option.some.injEq, Prod.mk.injEq] at hT
            obtain ⟨rfl, rfl, rfl⟩ := hT
            have e1 := V.strip_sound e0 hp.1
            rw [hfo] at e1
            generalize hv : a.eval fo = v at e1
            cases e1 with
            | fn _ _ cs hss hrr => exact fin caps cs hv hss hrr hp.2 rfl
          · cases hT
        · cases hT
      obtain ⟨cargs, hrun, hcr⟩ := hrun
      have hcalls := hac.2 w cargs E F hs.rel.hr hs.rel.lt (fun i hi => List.mem_range.1 hi) hcr
      unfold Oper.wp
      rw [hrun]
      refine hcalls.mono ?_
      rintro e w' ⟨v, x, H', E', F', rfl, hR, hrel, hx⟩
      exact ⟨v, _, E', F', rfl, hK x H' hR, Sim.put (heap_merge hs hrel) hx hd⟩
    · exact h.elim
  · exact h.elim

/-- Operations one behind the other; those whose numbers 'fl' holds are calls over the whole memory. -/
def OpsHC (P : Program) (kp : List Nat) (ops : Array Oper) (fl : List Nat) : List (Oper × Nat) → St → (St → Prop) → Prop
  | [], s, K => K s
  | (o, i) :: r, s, K => if i ∈ fl then HeapVC P o s fun s' => OpsHC P kp ops fl r s' K else OpVC P kp ops o s fun s' => OpsHC P kp ops fl r s' K

theorem opsH_sound {P : Program} {ops : Array Oper} {Q : Exit → Act → World → Prop} {B : Base} {n : Nat} (hd : dstsOk n ops = true) (fl : List Nat) : ∀ (l : List (Oper × Nat)) (s : St) (a : Act) (w : World) (E : Env) (F : Nat → Prop) (K : St → Prop), a.tmps.size = n → Sim B s a w E F →
    OpsHC P B.keep ops fl l s K → (∀ p, p ∈ l → ops[p.2]? = some p.1) →
    (∀ a' w' s' E' F', K s' → Sim B s' a' w' E' F' → a'.tmps.size = n → Q .normal a' w') → wpOps P ops Q (l.map (·.2)) a w
  | [], s, a, w, E, F, K, hn, hs, h, _, hq => hq a w s E F h hs hn
  | (o, i) :: l, s, a, w, E, F, K, hn, hs, h, hl, hq => by
    have ho : ops[i]? = some o := hl (o, i) (by simp)
    have ih := fun s a w E F hn hs h => opsH_sound (P := P) hd fl l s a w E F K hn hs h (fun p hp => hl p (by simp [hp])) hq
    have hdd : ∀ d, o.dst = some d → d < a.tmps.size := fun d hd' => by rw [hn]; exact dstsOk_spec hd ho d hd'
    simp only [List.map_cons, wpOps, ho]
    simp only [OpsHC] at h
    split at h
    · obtain ⟨hw, hwp⟩ := heap_sound (Q := Q) hs hdd h ops
      rw [hw, if_pos rfl]
      exact .inl (Oper.wp_mono (fun a' w' ⟨v, s', E', F', ha, hK, hs'⟩ => by subst ha; exact ih s' _ w' E' F' (by rw [size_put]; exact hn) hs' hK) hwp)
    · rcases op_sound (Q := Q) hs hdd h with ⟨v, s', hK, hs', hw⟩ | ⟨_, hw⟩
      · have ih' := ih s' _ w E F (by rw [size_put]; exact hn) hs' hK
        rcases hw with ⟨hw, hrun⟩ | ⟨hw, rfl⟩
        · rw [hw, if_pos rfl]
          refine .inl ?_
          unfold Oper.wp
          rw [hrun w (Keep.refl w)]
          exact ih'
        · rw [hw]
          exact ih'
      · rcases hw with ⟨hw, hwp⟩ | ⟨hw, s', F', hK, hs'⟩
        · rw [hw, if_pos rfl]
          exact .inl (Oper.wp_mono (fun a' w' ⟨_, v, s', E', F', ha, hK, hs'⟩ => by subst ha; exact ih s' _ w' E' F' (by rw [size_put]; exact hn) hs' hK) hwp)
        · rw [hw]
          exact ih s' _ w E F' (by rw [size_put]; exact hn) hs' hK

/-- A region in the text's order, with calls over the whole memory. -/
theorem awp_regionH {P : Program} {kp : List Nat} {n : Nat} {s : St} {Q : Exit → St → Prop} {id : Nat} {ops : Array Oper} (fl : List Nat)
    (h : ∀ K : St → Prop, (∀ t, Q .normal t → K t) → OpsHC P kp ops fl ops.toList.zipIdx s K) : AWP P kp n (.region id ops false) s Q := by
  intro hok B a w E F h1 h2 h3
  subst h1
  have := opsH_sound (P := P) (Q := fun e a' w' => (∀ ch, e ≠ .panic ch) ∧ e ≠ .outgrown ∧ ∃ s' E' F', Q e s' ∧ Sim B s' a' w' E' F' ∧ a'.tmps.size = n) (ops := ops) (n := n) hok fl ops.toList.zipIdx s a w E F (fun t => Q .normal t) h2 h3 (h _ fun t ht => ht)
    (fun p hp => by
      obtain ⟨o, i⟩ := p
      rw [List.mem_zipIdx_iff_getElem?] at hp
      simpa using hp)
    (fun a' w' s' E' F' hK hs hn => ⟨by simp, by simp, s', E', F', hK, hs, hn⟩)
  refine wp_region ?_
  have e : ops.toList.zipIdx.map (·.2) = List.range ops.size := by
    rw [List.zipIdx_map_snd, ← List.range_eq_range']
    simp
  rwa [e] at this

end Go.Aw
