/-
  Sorting an own row of numbers under a comparator that is a closure over data: what the library's contract asks. Over any program; no condition.
-/
import Derived.Shelf.SlSortCmp.NoneTotal
import Derived.Test.YtmmnjelmahcbaaaGreatPxAwSr
namespace Go.Aw
set_option linter.unusedSimpArgs false
set_option linter.unusedVariables false
open Go.RowKit Go.Sort Go.Proofs Go.Shelf

theorem oneI : OneCell (Value.int .i64) := fun _ => rfl
theorem cmp_lays {P : Program} {g : FuncId} {caps : List D} {cf : Int → Int → Int} (hpd : ∀ x y, PD P g ([.int .i64 x, .int .i64 y] ++ caps) (.d (.int .i64 (cf x y))))
    (hof : ∀ x, x ∈ caps → ofD x = .d x) {F : Nat → Prop} {w : World} {cb : Array Value} {blk off size : Nat} (hF : ∀ b, F b → b < w.heap.size) (hnF : ¬ F blk) (hcb : cb.size = caps.length ∧ ∀ (j : Nat) (x : D) (v : Value), caps[j]? = some x → cb[j]? = some v → RD F w x v) :
    CmpLays1 P g cb (Value.int .i64) cf blk off size w := by
  intro m os dk hs x y
  have hsame : ∀ b, F b → (sortWorld (Value.int .i64) w blk off m dk os).heap[b]? = w.heap[b]? := fun b hb => by
    have h1 := hF b hb
    have h2 : blk ≠ b := fun e => hnF (e ▸ hb)
    unfold sortWorld
    rw [grow_heap _ _ (by simpa using h1)]
    simp only [putRow, mapBlock, heap_ahead]
    rw [Array.getElem?_modify, if_neg h2]
  have hsz : ∀ b, F b → b < (sortWorld (Value.int .i64) w blk off m dk os).heap.size := fun b hb => by
    have h1 := hF b hb
    have := hsame b hb
    rw [Array.getElem?_eq_getElem h1] at this
    exact (Array.getElem?_eq_some_iff.1 this).1
  have hc : CR [] F (sortWorld (Value.int .i64) w blk off m dk os) (([D.int .i64 x, D.int .i64 y] ++ caps).map ofD) (#[Value.int .i64 x, Value.int .i64 y] ++ cb) := by
    refine ⟨by simp [hcb.1]; omega, fun j z v hz hv => ?_⟩
    match j with
    | 0 =>
      rw [Array.getElem?_append_left (by simp)] at hv
      simp at hz hv; subst hz hv; exact .d _ _ (.int _ _)
    | 1 =>
      rw [Array.getElem?_append_left (by simp)] at hv
      simp at hz hv; subst hz hv; exact .d _ _ (.int _ _)
    | j + 2 =>
      rw [Array.getElem?_append_right (by simp)] at hv
      simp only [List.cons_append, List.nil_append, List.map_cons, List.getElem?_cons_succ, List.getElem?_map, Option.map_eq_some_iff] at hz
      obtain ⟨d, hd, rfl⟩ := hz
      rw [hof d (List.mem_of_getElem? hd)]
      have := hcb.2 j d v hd (by simpa using hv)
      exact .d _ _ (this.evo (fun _ h => h) hsame)
  refine (pd_grown (hpd x y) hsz hc).mono ?_
  rintro e W' ⟨⟨v, E', F', rfl, hv⟩, hg⟩
  refine ⟨?_, hg⟩
  cases hv with
  | d _ _ hv => cases hv; rfl

/-- Give up, ahead of the code, all that a value speaks of. -/
theorem awp_fz {P : Program} {kp : List Nat} {n : Nat} {s : St} {Q : Exit → St → Prop} {c : Code} (x : V) (h : AWP P kp n c (s.fz 3 x) Q) : AWP P kp n c s Q := by
  intro hok B a w E F h1 h2 h3
  obtain ⟨F', h4⟩ := fz_sim 3 s x F h3
  exact h hok B a w E F' h1 h2 h4
/-- The cells of an own block, told otherwise. -/
theorem awp_cells {P : Program} {kp : List Nat} {n : Nat} {s : St} {Q : Exit → St → Prop} {c : Code} (id : Nat) (xs ys : List V) (hi : s.heap[id]? = some (.cells xs)) (hl : ys.length = xs.length)
    (hv : ∀ (j : Nat) (x y : V), xs[j]? = some x → ys[j]? = some y → ∀ (E : Env) (F : Nat → Prop) (w : World) (v : Value), VR E F w x v → VR E F w y v) (h : AWP P kp n c { s with heap := s.heap.set id (.cells ys) } Q) : AWP P kp n c s Q := by
  intro hok B a w E F h1 h2 h3
  have hr := h3.rel
  have hlt := (List.getElem?_eq_some_iff.1 hi).1
  obtain ⟨e, he⟩ : ∃ e, E[id]? = some e := ⟨_, List.getElem?_eq_getElem (by rw [hr.hr.len]; exact hlt)⟩
  have hbr := hr.hr.blk id e _ he hi
  obtain ⟨q1, q2, b, cs, t, q3, q4, q5, q6⟩ := hbr
  have hbr2 : BR E F w e (.cells ys) := ⟨q1.trans hl.symm, q2, b, cs, t, q3, q4, q5.trans hl.symm, fun j y hy => by
    have hj : j < xs.length := by rw [← hl]; exact (List.getElem?_eq_some_iff.1 hy).1
    obtain ⟨v, hv1, hv2⟩ := q6 j xs[j] (List.getElem?_eq_getElem hj)
    exact ⟨v, hv1, hv j _ y (List.getElem?_eq_getElem hj) hy E F w v hv2⟩⟩
  obtain ⟨evo, hrel⟩ := hr.rewritten (w' := w) he hi rfl q3 q4 q4 rfl rfl rfl (.refl _) (Nat.le_refl _) (fun _ _ _ => rfl) hbr2
  exact h hok B a w E F h1 h2 ⟨hrel, h3.defers, h3.tm⟩
theorem vr_dfn {f : Fn} {xs : List V} {ds : List D} (hd : dOfs xs = some ds) (E : Env) (F : Nat → Prop) (w : World) (v : Value) (h : VR E F w (.fn f xs) v) : VR E F w (.d (.fn f ds)) v :=
  .d _ _ (dV_sound (by simp [dV, hd]) h)
theorem ac_args {P : Program} {f : FuncId} {xs ys : List V} {H : List Blk} {kp : List Nat} {R : V → List Blk → Prop} (h : AC P f xs H kp R) (hl : xs.length = ys.length)
    (hv : ∀ (j : Nat) (x y : V), ys[j]? = some y → xs[j]? = some x → ∀ (E : Env) (F : Nat → Prop) (w : World) (v : Value), VR E F w y v → VR E F w x v) : AC P f ys H kp R := by
  refine ⟨h.1, fun w cargs E F h1 h2 h3 hc => h.2 w cargs E F h1 h2 h3 ⟨hc.1.trans hl.symm, fun j x v hx hv' => ?_⟩⟩
  have hj : j < ys.length := by rw [← hl]; exact (List.getElem?_eq_some_iff.1 hx).1
  exact hv j x _ (List.getElem?_eq_getElem hj) hx E F w v (hc.2 j _ v (List.getElem?_eq_getElem hj) hv')
end Go.Aw
