/-
  Contracts whose results are data, and short ways to them. Over any program; no condition.
-/
import Derived.Test.YtmmnjelmahcbaaaAwU
namespace Go.Aw
set_option linter.unusedSimpArgs false
set_option linter.unusedVariables false
open Go.RowKit

attribute [push_cast] Then InBlock and_assoc heapSh List.size_toArray Array.size_empty Option.isNone_none Option.isNone_some List.contains_cons List.contains_nil List.mem_cons List.not_mem_nil or_false false_or decide_true decide_false Nat.zero_add Nat.add_zero List.filterMap_cons List.filterMap_nil List.any_cons List.any_nil Bool.or_false Bool.false_or Bool.or_self Bool.true_or Bool.or_true Bool.and_false Bool.false_and imp_self and_self forall_const List.getElem?_map Int.toNat_natCast List.length_map

/-- The own blocks of the callee are left behind. -/
theorem AC.drop {P : Program} {f : FuncId} {args : List V} {H : List Blk} {R R' : V → List Blk → Prop} (h : AC P f args H [] R) (hR : ∀ x H', R x H' → V.bel 0 x = true ∧ R' x []) : AC P f args H [] R' := by
  refine ⟨h.1, fun w cargs E F h1 h2 h3 h4 => (h.2 w cargs E F h1 h2 h3 h4).mono ?_⟩
  rintro e w' ⟨v, x, H', E', F', q1, q2, q3, q4⟩
  obtain ⟨r1, r2⟩ := hR x H' q2
  have hs : Sim ⟨w, F, own E H, E, []⟩ ⟨[], H'⟩ { tmps := #[], defers := [] } w' E' F' := ⟨q3, rfl, fun i x hx => by simp [tget] at hx⟩
  have hle : Le [] ⟨[], []⟩ ⟨[], H'⟩ := ⟨trivial, ⟨H', rfl⟩, rfl, rfl, fun i hi => by cases hi⟩
  have hs' := le_sim (B := ⟨w, F, own E H, E, []⟩) hle hs
  refine ⟨v, x, [], E'.take 0, F', q1, r2, hs'.rel, ?_⟩
  exact q4.evo (ok := fun i => i < 0) ⟨fun _ h => h, fun _ _ => rfl, fun i e hi _ => absurd hi (Nat.not_lt_zero i), fun _ _ h => h⟩ (bel_has 0 x r1)

/-- What the function gives back for data: this value. -/
def PD (P : Program) (f : FuncId) (args : List D) (x0 : V) : Prop := PC P f args fun x H => x = x0 ∧ H = []

theorem CallD.pd {P : Program} {f : FuncId} {args : List D} {x0 : V} {K : V → List Blk → Prop} (h : PD P f args x0) (hk : K x0 []) : CallD P true false f args K := CallD.det h hk
theorem CallD.pg {P : Program} {g : Bool} {f : FuncId} {args : List D} {x0 : V} {K : V → List Blk → Prop} (h : g = true → PD P f args x0) (hk : K (.opt g x0) []) : CallD P g true f args K := CallD.grd h hk

theorem pd_of {P : Program} {f : FuncId} {fn : Func} {c : Code} {args : List D} {x0 : V} (rs : List ResultVar) (hf : P.funcs[f]? = some fn) (hb : fn.body = some c)
    (hnm : (fn.name == "runtime.NumGoroutine") = false) (hn : (args.map ofD).length ≤ fn.ntmps) (hok : codeOk fn.ntmps c = true) (hrs : fn.results.toList = rs) (hx : V.bel 0 x0 = true)
    (h : AWP P [] fn.ntmps c ⟨argTm 0 (args.map ofD), []⟩ (Fin P rs fun x _ => x = x0)) : PD P f args x0 := by
  subst hrs
  exact AC.drop (R := fun x _ => x = x0) (ac_of hf hb hnm hn hok h) fun x H' hh => ⟨hh ▸ hx, hh, rfl⟩

theorem ac_ofF {P : Program} {kp : List Nat} {f : FuncId} {fn : Func} {c : Code} {args : List V} {H : List Blk} {R : V → List Blk → Prop} (rs : List ResultVar) (hf : P.funcs[f]? = some fn) (hb : fn.body = some c)
    (hnm : (fn.name == "runtime.NumGoroutine") = false) (hn : args.length ≤ fn.ntmps) (hok : codeOk fn.ntmps c = true) (hrs : fn.results.toList = rs)
    (h : AWP P kp fn.ntmps c ⟨argTm 0 args, H⟩ (Fin P rs R)) : AC P f args H kp R := by
  subst hrs
  exact ac_of hf hb hnm hn hok h

theorem pc_of {P : Program} {f : FuncId} {fn : Func} {c : Code} {args : List D} {R : V → List Blk → Prop} (rs : List ResultVar) (hf : P.funcs[f]? = some fn) (hb : fn.body = some c)
    (hnm : (fn.name == "runtime.NumGoroutine") = false) (hn : (args.map ofD).length ≤ fn.ntmps) (hok : codeOk fn.ntmps c = true) (hrs : fn.results.toList = rs)
    (h : AWP P [] fn.ntmps c ⟨argTm 0 (args.map ofD), []⟩ (Fin P rs R)) : PC P f args R := by
  subst hrs
  exact ac_of hf hb hnm hn hok h

theorem fin_of {P : Program} {rs : List ResultVar} {R : V → List Blk → Prop} {s : St} {p : Prop} {x : V} (h : retQ P s rs = some (p, x)) (hp : p) (hR : R x s.heap) : Fin P rs R .ret s := ⟨.inr rfl, p, x, h, hp, hR⟩
theorem fin_norm {P : Program} {rs : List ResultVar} {R : V → List Blk → Prop} {s : St} {p : Prop} {x : V} (h : retQ P s rs = some (p, x)) (hp : p) (hR : R x s.heap) : Fin P rs R .normal s := ⟨.inl rfl, p, x, h, hp, hR⟩

theorem subTm_refl_aux : ∀ (l m : List (Nat × V)), srt (m ++ l) = true → (∀ i x, tget l i = some x → tget (m ++ l) i = some x)
  | [], m, _, i, x, h => by simp [tget] at h
  | (j, y) :: l, m, hs, i, x, h => by
    have key : ∀ (m : List (Nat × V)) (r : List (Nat × V)), srt (m ++ (j, y) :: r) = true → tget (m ++ (j, y) :: r) j = some y := by
      intro m r
      induction m with
      | nil => intro _; simp [tget]
      | cons p m ih =>
        intro hs
        have h1 : srt (m ++ (j, y) :: r) = true := srt_tail hs
        have h2 : p.1 < j := srt_lt hs (j, y) (by simp)
        simp only [List.cons_append, tget]
        rw [if_neg (by omega)]
        exact ih h1
    simp only [tget] at h
    split at h
    · rename_i hij
      subst hij
      simp at h; subst h
      exact key m l hs
    · have := subTm_refl_aux l (m ++ [(j, y)]) (by simpa using hs) i x h
      simpa using this

theorem wrapI (n : Int) (h : -9223372036854775808 ≤ n ∧ n ≤ 9223372036854775807) : IntKind.i64.wrap n = n := by rw [IntKind.wrap_i64]; omega
theorem then_ret {next : St → Prop} {Q : Exit → St → Prop} {s : St} (h : Q .ret s) : Then next Q .ret s := h
theorem then_exit {next : St → Prop} {Q : Exit → St → Prop} {s : St} {id : Nat} (h : Q (.exit id) s) : Then next Q (.exit id) s := h
theorem inblock_ret {id : Nat} {Q : Exit → St → Prop} {s : St} (h : Q .ret s) : InBlock id Q .ret s := h
theorem inblock_same {id : Nat} {Q : Exit → St → Prop} {s : St} (h : Q .normal s) : InBlock id Q (.exit id) s := by simpa [InBlock] using h
theorem inblock_other {id id' : Nat} {Q : Exit → St → Prop} {s : St} (hne : (id' == id) = false) (h : Q (.exit id') s) : InBlock id Q (.exit id') s := by
  have : ¬ id' = id := by simpa using hne
  simpa [InBlock, this] using h

theorem round_end {kp : List Nat} {Q : Exit → St → Prop} {α : Type} {st : α → St} {inv : α → Prop} {μ : α → Nat} {x : α} {u : St} (y : α) (r : List Nat) (h1 : μ y < μ x) (h2 : inv y) (h3 : Ren kp r (st y) u) :
    Then (fun u => ∃ y r, μ y < μ x ∧ inv y ∧ Ren kp r (st y) u) Q .normal u := ⟨y, r, h1, h2, h3⟩

/-- A loop over states that hang on a parameter. -/
theorem awp_loopP {P : Program} {kp : List Nat} {n : Nat} {s : St} {Q : Exit → St → Prop} {c : Code} {α : Type} (st : α → St) (inv : α → Prop) (μ : α → Nat) (x0 : α) (r0 : List Nat) (hI : inv x0) (h0 : Ren kp r0 (st x0) s)
    (round : ∀ x, inv x → AWP P kp n c (st x) (Then (fun u => ∃ y r, μ y < μ x ∧ inv y ∧ Ren kp r (st y) u) Q)) : AWP P kp n (.loop c) s Q := by
  refine awp_loop_ren (fun m t => ∃ x, m = μ x ∧ inv x ∧ t = st x) (μ x0) r0 (st x0) h0 ⟨x0, rfl, hI, rfl⟩ ?_
  rintro m t ⟨x, rfl, hx, rfl⟩
  refine awp_mono (round x hx) ?_
  intro e t h
  cases e with
  | normal => obtain ⟨y, r, h1, h2, h3⟩ := h; exact ⟨μ y, r, st y, h1, ⟨y, rfl, h2, rfl⟩, h3⟩
  | _ => exact h

end Go.Aw
