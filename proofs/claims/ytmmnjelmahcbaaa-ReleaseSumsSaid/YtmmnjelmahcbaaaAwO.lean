/-
  Regions of operations, in the text's order or in any: walks over abstract states are sound for them. Over any program; no condition.
-/
import Derived.Test.YtmmnjelmahcbaaaAwN
namespace Go.Aw
set_option linter.unusedSimpArgs false
set_option linter.unusedVariables false
open Go.RowKit

/-- The operations, one behind the other. -/
def OpsVC (P : Program) (kp : List Nat) (ops : Array Oper) : List Oper → St → (St → Prop) → Prop
  | [], s, K => K s
  | o :: r, s, K => OpVC P kp ops o s fun s' => OpsVC P kp ops r s' K

theorem CallD.imp {P : Program} {g gd : Bool} {f : FuncId} {args : List D} {K K' : V → List Blk → Prop} (h : CallD P g gd f args K) (hk : ∀ x H, K x H → K' x H) : CallD P g gd f args K' := by
  rcases h with ⟨h1, R, h3, h4⟩ | ⟨h1, x0, h3, h4⟩
  · exact .inl ⟨h1, R, h3, fun x H hr => hk _ _ (h4 x H hr)⟩
  · exact .inr ⟨h1, x0, h3, hk _ _ h4⟩

theorem OpVC.imp {P : Program} {kp : List Nat} {ops : Array Oper} {o : Oper} {s : St} {K K' : St → Prop} (h : OpVC P kp ops o s K) (hk : ∀ t, K t → K' t) : OpVC P kp ops o s K' := by
  unfold OpVC at *
  split at h
  · exact h.elim
  · rename_i hg
    simp only [hg]
    split at h
    · rename_i hq; exact ⟨h.1, hk _ h.2⟩
    · rename_i hq
      split at h
      · rename_i he
        split at h
        · exact ⟨h.1, hk _ h.2⟩
        · exact hk _ h
      · rename_i he
        split at h
        · rename_i c hc
          dsimp only at h ⊢
          split at h
          · rename_i hT
            split at h
            · rename_i hds
              exact ⟨h.1, h.2.imp fun x H hx => hk _ hx⟩
            · exact h.imp hk
          · exact h.imp hk
        · rename_i x hc
          split at h
          · exact ⟨h.1, h.2.1, h.2.2.1, fun hall => hk _ (h.2.2.2.1 hall), fun j p hj hns => hk _ (h.2.2.2.2 j p hj hns)⟩
          · exact h.imp hk
        · exact h.imp hk
        · exact h.imp hk

variable {P : Program} {ops : Array Oper} {Q : Exit → Act → World → Prop}

/-- No operation writes beyond the temporaries. -/
def dstsOk (n : Nat) (ops : Array Oper) : Bool := ops.all fun o => match o.dst with | some d => decide (d < n) | none => true

theorem dstsOk_spec {n : Nat} (h : dstsOk n ops = true) {i : Nat} {o : Oper} (hi : ops[i]? = some o) : ∀ d, o.dst = some d → d < n := by
  intro d hd
  have := Array.all_eq_true.1 h i (Array.getElem?_eq_some_iff.1 hi).1
  have e : ops[i]'(Array.getElem?_eq_some_iff.1 hi).1 = o := (Array.getElem?_eq_some_iff.1 hi).2
  rw [e] at this
  simpa [hd] using this

theorem size_put (a : Act) (d : Option Tmp) (v : Value) : (a.put d v).tmps.size = a.tmps.size := by
  cases d <;> simp [Act.put]

/-- In the text's order. -/
theorem ops_sound {B : Base} {n : Nat} (hd : dstsOk n ops = true) : ∀ (l : List Nat) (s : St) (a : Act) (w : World) (E : Env) (F : Nat → Prop) (K : St → Prop), a.tmps.size = n → Sim B s a w E F →
    OpsVC P B.keep ops (l.filterMap (ops[·]?)) s K → (∀ i, i ∈ l → i < ops.size) →
    (∀ a' w' s' E' F', K s' → Sim B s' a' w' E' F' → a'.tmps.size = n → Q .normal a' w') → wpOps P ops Q l a w
  | [], s, a, w, E, F, K, hn, hs, h, _, hq => hq a w s E F h hs hn
  | i :: l, s, a, w, E, F, K, hn, hs, h, hl, hq => by
    have hi : i < ops.size := hl i (by simp)
    have ho : ops[i]? = some ops[i] := Array.getElem?_eq_getElem hi
    simp only [List.filterMap_cons, ho, OpsVC] at h
    have ih := fun s a w E F hn hs h => ops_sound hd l s a w E F K hn hs h (fun j hj => hl j (by simp [hj])) hq
    simp only [wpOps, ho]
    rcases op_sound (Q := Q) hs (fun d hd' => by rw [hn]; exact dstsOk_spec hd ho d hd') h with ⟨v, s', hK, hs', hw⟩ | ⟨_, hw⟩
    · have ih' := ih s' _ w E F (by rw [size_put]; exact hn) hs' hK
      rcases hw with ⟨hw, hrun⟩ | ⟨hw, rfl⟩
      · rw [hw, if_pos rfl]
        refine .inl ?_
        unfold Oper.wp
        rw [hrun w (Keep.refl w)]
        exact ih'
      · rw [hw]
        exact ih'
    · rcases hw with ⟨hw, hwp⟩ | ⟨hw, s', F', hK, hs'⟩
      · rw [hw, if_pos rfl]
        exact .inl (Oper.wp_mono (fun a' w' ⟨_, v, s', E', F', ha, hK, hs'⟩ => by subst ha; exact ih s' _ w' E' F' (by rw [size_put]; exact hn) hs' hK) hwp)
      · rw [hw]
        exact ih s' _ w E F' (by rw [size_put]; exact hn) hs' hK

/-- Whatever order is picked from here on; what is no writing operation leaves the old blocks as they are. -/
def wpAnyT (P : Program) (ops : Array Oper) (Q : Exit → Act → World → Prop) : Nat → Array Bool → Act → World → Prop
  | 0, listed, a, w => Region.ready .any ops listed = [] ∧ Q .normal a w
  | fuel + 1, listed, a, w =>
    (Region.ready .any ops listed = [] → Q .normal a w) ∧
    ∀ i ∈ Region.ready .any ops listed, wpOp P ops Q i (fun a' w' => (((ops[i]?).map fun o => kindT o.op).getD false = true ∨ Keep w w') ∧ wpAnyT P ops Q fuel (listed.setIfInBounds i true) a' w') a w

theorem wpAny_of_T : ∀ (fuel : Nat) (listed : Array Bool) (a : Act) (w : World), wpAnyT P ops Q fuel listed a w → wpAny P .any ops Q fuel listed a w
  | 0, _, _, _, h => h
  | fuel + 1, _, _, _, h => ⟨h.1, fun i hi => wpOp_mono (fun a' w' h' => wpAny_of_T fuel _ a' w' h'.2) (h.2 i hi)⟩

theorem Keep.trans {a b c : World} (h : Keep a b) (h' : Keep b c) (hs : a.heap.size ≤ b.heap.size) : Keep a c := fun i hi => (h' i (Nat.lt_of_lt_of_le hi hs)).trans (h i hi)

theorem Keep.size {a b : World} (h : Keep a b) : a.heap.size ≤ b.heap.size := by
  rcases Nat.lt_or_ge b.heap.size a.heap.size with hl | hl
  · have := h b.heap.size hl
    rw [Array.getElem?_eq_none (Nat.le_refl _), Array.getElem?_eq_getElem hl] at this
    cases this
  · exact hl

/-- The operation yields this value from here on, as long as the old blocks stand. -/
def YieldsK (P : Program) (ops : Array Oper) (w : World) (o : Oper) (v : Value) (a : Act) : Prop :=
  (Region.wanted o (yielded ops a.tmps) = true ∧ ∀ w', Keep w w' → (execOp a.eval o).run P w' = .ok (.value v) w') ∨
  (Region.wanted o (yielded ops a.tmps) = false ∧ v = undef)

theorem YieldsK.later {w w' : World} {o : Oper} {v : Value} {a : Act} (h : YieldsK P ops w o v a) (hk : Keep w w') : YieldsK P ops w' o v a :=
  h.imp (fun ⟨h1, h2⟩ => ⟨h1, fun w'' hk' => h2 w'' (hk.trans hk' hk.size)⟩) id

theorem YieldsK.wpOp {i : Nat} {o : Oper} {v : Value} {a : Act} {w : World} (hi : ops[i]? = some o) (hy : YieldsK P ops w o v a) {K : Act → World → Prop} (h : K (a.put o.dst v) w) : wpOp P ops Q i K a w := by
  unfold Go.wpOp
  simp only [hi]
  rcases hy with ⟨hw, hv⟩ | ⟨hw, rfl⟩
  · simp only [hw, if_true, Oper.wp, hv w (Keep.refl w), Oper.upon]; exact .inl h
  · simp only [hw, Bool.false_eq_true, if_false]; exact h

theorem YieldsK.of_same {w : World} {o : Oper} {v : Value} {a a' : Act} (hy : YieldsK P ops w o v a) (he : execOp a'.eval o = execOp a.eval o)
    (hw : Region.wanted o (yielded ops a'.tmps) = Region.wanted o (yielded ops a.tmps)) : YieldsK P ops w o v a' := by
  unfold YieldsK at *
  rw [he, hw]
  exact hy

theorem wpOp_putK {j : Nat} {oi oj : Oper} {v : Value} (hj : ops[j]? = some oj) (hap : oi.apart ops oj = true)
    (hsi : ∀ cs b, oi.op ≠ .select cs b) (hsj : ∀ cs b, oj.op ≠ .select cs b)
    (hQ : ∀ c a w, Q (.panic c) (a.put oi.dst v) w → Q (.panic c) a w) {K : Act → World → Prop} {a : Act} {w : World}
    (hy : YieldsK P ops w oi v a) (h : wpOp P ops Q j K (a.put oi.dst v) w) :
    wpOp P ops Q j (fun a' w' => YieldsK P ops w oi v a' ∧ K (a'.put oi.dst v) w') a w := by
  obtain ⟨h1, h2, h3⟩ := Oper.apart_spec hap
  have keep : ∀ (a : Act), YieldsK P ops w oi v a → ∀ u, YieldsK P ops w oi v (a.put oj.dst u) := fun a hy u =>
    hy.of_same (execOp_put oi hsi a oj.dst u h3) (wanted_put oi a oj.dst u h3)
  have keepD : ∀ d, YieldsK P ops w oi v { a with defers := d :: a.defers } := fun d => hy.of_same rfl rfl
  unfold wpOp at *
  simp only [hj] at *
  rw [wanted_put oj a oi.dst v h1] at h
  split
  · rename_i hw
    simp only [hw, if_true] at h
    rcases h with h | ⟨hasks, hlets⟩
    case inr => exact .inr ⟨by unfold Oper.asks at *; rw [execOp_put oj hsj a oi.dst v h1] at hasks; exact hasks, hlets⟩
    refine .inl ?_
    unfold Oper.wp at *
    rw [execOp_put oj hsj a oi.dst v h1] at h
    generalize (execOp a.eval oj).run P w = r at *
    cases r with
    | ok n w' =>
      cases n <;> simp only [Oper.upon] at h ⊢
      case value u => exact ⟨keep a hy u, by rw [← Act.put_comm a v u h2]; exact h⟩
      case skip => exact ⟨keep a hy _, by rw [← Act.put_comm a v undef h2]; exact h⟩
      case defer d =>
        refine ⟨keep _ (keepD d) _, ?_⟩
        rw [← Act.put_comm _ v undef h2, ← Act.put_defers]
        exact h
      case enter f args =>
        refine Calls.mono h fun e w'' he => ?_
        cases e with
        | returned u => exact ⟨keep a hy u, by rw [← Act.put_comm a v u h2]; exact he⟩
        | panicked c => exact hQ _ _ _ he
        | outgrown => exact he
      case row row args => exact Rows.mono h fun u w'' he => ⟨keep a hy u, by rw [← Act.put_comm a v u h2]; exact he⟩
    | halt x w' =>
      cases x <;> simp only [Oper.upon] at h ⊢
      case panic u => exact hQ _ _ _ h
  · rename_i hw
    simp only [hw] at h
    exact ⟨keep a hy _, by rw [← Act.put_comm a v undef h2]; exact h⟩

/-- An operation that may come up now may be taken first. -/
theorem wpAnyT_first {i : Nat} {oi : Oper} {v : Value} (hi : ops[i]? = some oi) (hsel : ∀ (j : Nat) (o : Oper) cs b, ops[j]? = some o → o.op ≠ .select cs b)
    (hQ : ∀ c a w, Q (.panic c) (a.put oi.dst v) w → Q (.panic c) a w) :
    ∀ (fuel : Nat) (listed : Array Bool) (a : Act) (w : World),
      (∀ j oj, ops[j]? = some oj → j ≠ i → listed.getD j true = false → (∀ e ∈ oj.after, Region.binds .any e = true → e.on ≠ i) → oi.apart ops oj = true ∧ kindT oj.op = false) →
      i ∈ Region.ready .any ops listed → YieldsK P ops w oi v a →
      wpAnyT P ops Q fuel (listed.setIfInBounds i true) (a.put oi.dst v) w → wpAnyT P ops Q (fuel + 1) listed a w := by
  intro fuel
  induction fuel with
  | zero =>
    intro listed a w _ hr hy H
    refine ⟨fun h => (by rw [h] at hr; cases hr), fun j hj => ?_⟩
    by_cases hji : j = i
    · subst hji; exact hy.wpOp hi ⟨.inr (Keep.refl w), H⟩
    · have := ready_mono hj hji
      rw [H.1] at this
      cases this
  | succ fuel ih =>
    intro listed a w hfree hr hy H
    refine ⟨fun h => (by rw [h] at hr; cases hr), fun j hj => ?_⟩
    by_cases hji : j = i
    · subst hji; exact hy.wpOp hi ⟨.inr (Keep.refl w), H⟩
    · have h1 := H.2 j (ready_mono hj hji)
      obtain ⟨hjun, oj, hoj, hall⟩ := mem_ready.1 hj
      have hnot : ∀ e ∈ oj.after, Region.binds .any e = true → e.on ≠ i := fun e he hb heq => by
        have h1 := hall e he hb
        have h0 := (mem_ready.1 hr).1
        rw [heq] at h1
        rcases Nat.lt_or_ge i listed.size with h' | h'
        · simp [h'] at h0 h1; rw [h0] at h1; cases h1
        · simp [Array.getElem?_eq_none h'] at h1
      obtain ⟨hap, hnt⟩ := hfree j oj hoj hji hjun hnot
      have h2 := wpOp_putK hoj hap (fun cs b => hsel i oi cs b hi) (fun cs b => hsel j oj cs b hoj) hQ hy h1
      have hfree' : ∀ k ok, ops[k]? = some ok → k ≠ i → (listed.setIfInBounds j true).getD k true = false →
          (∀ e ∈ ok.after, Region.binds .any e = true → e.on ≠ i) → oi.apart ops ok = true ∧ kindT ok.op = false := fun k ok hk hki hun hno => by
        refine hfree k ok hk hki ?_ hno
        by_cases hjk : j = k
        · subst hjk; exact hjun
        · rw [getD_set_ne true hjk] at hun; exact hun
      refine wpOp_mono (fun a' w' h3 => ?_) h2
      obtain ⟨g1, g2, g3⟩ := h3
      have hkw : Keep w w' := by
        rcases g2 with g2 | g2
        · rw [hoj] at g2; simp [hnt] at g2
        · exact g2
      refine ⟨.inr hkw, ih (listed.setIfInBounds j true) a' w' hfree' (ready_mono hr (Ne.symm hji)) (g1.later hkw) ?_⟩
      rw [Array.setIfInBounds_comm _ _ hji]
      exact g3

/-- The same, where some operations (S) cannot come up before it. -/
theorem wpAnyT_firstS {i : Nat} {oi : Oper} {v : Value} (S : List Nat) (hi : ops[i]? = some oi) (hsel : ∀ (j : Nat) (o : Oper) cs b, ops[j]? = some o → o.op ≠ .select cs b)
    (hQ : ∀ c a w, Q (.panic c) (a.put oi.dst v) w → Q (.panic c) a w) :
    ∀ (fuel : Nat) (listed : Array Bool) (a : Act) (w : World),
      (∀ j oj, ops[j]? = some oj → j ≠ i → listed.getD j true = false → j ∉ S → oi.apart ops oj = true ∧ kindT oj.op = false) →
      (∀ j, j ∈ S → listed.getD j true = false ∧ ∃ oj e, ops[j]? = some oj ∧ e ∈ oj.after ∧ Region.binds .any e = true ∧ (e.on = i ∨ e.on ∈ S)) →
      i ∈ Region.ready .any ops listed → YieldsK P ops w oi v a →
      wpAnyT P ops Q fuel (listed.setIfInBounds i true) (a.put oi.dst v) w → wpAnyT P ops Q (fuel + 1) listed a w := by
  intro fuel
  induction fuel with
  | zero =>
    intro listed a w _ _ hr hy H
    refine ⟨fun h => (by rw [h] at hr; cases hr), fun j hj => ?_⟩
    by_cases hji : j = i
    · subst hji; exact hy.wpOp hi ⟨.inr (Keep.refl w), H⟩
    · have := ready_mono hj hji
      rw [H.1] at this
      cases this
  | succ fuel ih =>
    intro listed a w hfree hS hr hy H
    refine ⟨fun h => (by rw [h] at hr; cases hr), fun j hj => ?_⟩
    by_cases hji : j = i
    · subst hji; exact hy.wpOp hi ⟨.inr (Keep.refl w), H⟩
    · have h1 := H.2 j (ready_mono hj hji)
      obtain ⟨hjun, oj, hoj, hall⟩ := mem_ready.1 hj
      have notOn : ∀ k, listed.getD k true = false → ∀ e ∈ oj.after, Region.binds .any e = true → e.on ≠ k := fun k h0 e he hb heq => by
        have h1 := hall e he hb
        rw [heq] at h1
        rcases Nat.lt_or_ge k listed.size with h' | h'
        · simp [h'] at h0 h1; rw [h0] at h1; cases h1
        · simp [Array.getElem?_eq_none h'] at h1
      have hjS : j ∉ S := fun hjS => by
        obtain ⟨_, ok, e, hok, he, hb, hon⟩ := hS j hjS
        rw [hoj] at hok
        cases hok
        rcases hon with hon | hon
        · exact notOn i (mem_ready.1 hr).1 e he hb hon
        · exact notOn e.on (hS _ hon).1 e he hb rfl
      obtain ⟨hap, hnt⟩ := hfree j oj hoj hji hjun hjS
      have h2 := wpOp_putK hoj hap (fun cs b => hsel i oi cs b hi) (fun cs b => hsel j oj cs b hoj) hQ hy h1
      have hfree' : ∀ k ok, ops[k]? = some ok → k ≠ i → (listed.setIfInBounds j true).getD k true = false → k ∉ S → oi.apart ops ok = true ∧ kindT ok.op = false := fun k ok hk hki hun hno => by
        refine hfree k ok hk hki ?_ hno
        by_cases hjk : j = k
        · subst hjk; exact hjun
        · rw [getD_set_ne true hjk] at hun; exact hun
      have hS' : ∀ k, k ∈ S → (listed.setIfInBounds j true).getD k true = false ∧ ∃ oj e, ops[k]? = some oj ∧ e ∈ oj.after ∧ Region.binds .any e = true ∧ (e.on = i ∨ e.on ∈ S) := fun k hk => by
        obtain ⟨q1, q2⟩ := hS k hk
        have hjk : j ≠ k := fun e => hjS (e ▸ hk)
        exact ⟨by rw [getD_set_ne true hjk]; exact q1, q2⟩
      refine wpOp_mono (fun a' w' h3 => ?_) h2
      obtain ⟨g1, g2, g3⟩ := h3
      have hkw : Keep w w' := by
        rcases g2 with g2 | g2
        · rw [hoj] at g2; simp [hnt] at g2
        · exact g2
      refine ⟨.inr hkw, ih (listed.setIfInBounds j true) a' w' hfree' hS' (ready_mono hr (Ne.symm hji)) (g1.later hkw) ?_⟩
      rw [Array.setIfInBounds_comm _ _ hji]
      exact g3

/-- May number i be taken first? -/
def freeT1 (ops : Array Oper) (listed : Array Bool) (i : Nat) : Bool :=
  match ops[i]? with
  | none => false
  | some oi => (List.range ops.size).all fun j => match ops[j]? with
    | none => true
    | some oj => j == i || listed.getD j true || (oj.after.any fun e => Region.binds .any e && e.on == i) || (oi.apart ops oj && !kindT oj.op)

theorem freeT1_spec {listed : Array Bool} {i : Nat} {oi : Oper} (hi : ops[i]? = some oi) (h : freeT1 ops listed i = true) :
    ∀ j oj, ops[j]? = some oj → j ≠ i → listed.getD j true = false → (∀ e ∈ oj.after, Region.binds .any e = true → e.on ≠ i) → oi.apart ops oj = true ∧ kindT oj.op = false := by
  intro j oj hj hji hun hno
  unfold freeT1 at h
  rw [hi] at h
  dsimp only at h
  have hlt : j < ops.size := (Array.getElem?_eq_some_iff.1 hj).1
  have := List.all_eq_true.1 h j (List.mem_range.2 hlt)
  rw [hj] at this
  simp only [Bool.or_eq_true, beq_iff_eq, Bool.and_eq_true, Bool.not_eq_true'] at this
  rcases this with ((h1 | h1) | h1) | h1
  · exact absurd h1 hji
  · rw [hun] at h1; cases h1
  · exfalso
    obtain ⟨l, hl, he⟩ := Array.any_eq_true.1 h1
    simp only [Bool.and_eq_true, beq_iff_eq] at he
    exact hno _ (Array.getElem_mem hl) he.1 he.2
  · exact h1

/-- What cannot come up before number i: it waits for it, or for another such. -/
def blkd (ops : Array Oper) (listed : Array Bool) (i : Nat) : List Nat → List Nat → List Nat
  | [], acc => acc
  | j :: r, acc => match ops[j]? with
    | some oj => if !(j == i) && !listed.getD j true && oj.after.any (fun e => Region.binds .any e && (e.on == i || acc.contains e.on)) then blkd ops listed i r (j :: acc) else blkd ops listed i r acc
    | none => blkd ops listed i r acc
theorem blkd_sub {listed : Array Bool} {i : Nat} : ∀ (l acc : List Nat) (k : Nat), k ∈ acc → k ∈ blkd ops listed i l acc
  | [], acc, k, h => h
  | j :: r, acc, k, h => by
    unfold blkd
    split
    · split
      · exact blkd_sub r _ k (by simp [h])
      · exact blkd_sub r _ k h
    · exact blkd_sub r _ k h
theorem blkd_spec {listed : Array Bool} {i : Nat} : ∀ (l acc : List Nat), (∀ k, k ∈ acc → listed.getD k true = false ∧ ∃ oj e, ops[k]? = some oj ∧ e ∈ oj.after ∧ Region.binds .any e = true ∧ (e.on = i ∨ e.on ∈ blkd ops listed i l acc)) →
    ∀ k, k ∈ blkd ops listed i l acc → listed.getD k true = false ∧ ∃ oj e, ops[k]? = some oj ∧ e ∈ oj.after ∧ Region.binds .any e = true ∧ (e.on = i ∨ e.on ∈ blkd ops listed i l acc)
  | [], acc, h => h
  | j :: r, acc, h => by
    unfold blkd at h ⊢
    split at h
    · rename_i oj ho
      split at h
      · rename_i hc
        rw [if_pos hc]
        refine blkd_spec r _ fun k hk => ?_
        rcases List.mem_cons.1 hk with rfl | hk
        · simp only [Bool.and_eq_true, Bool.not_eq_true'] at hc
          obtain ⟨⟨_, h2⟩, h3⟩ := hc
          obtain ⟨l, hl, he⟩ := Array.any_eq_true.1 h3
          simp only [Bool.and_eq_true, Bool.or_eq_true, beq_iff_eq] at he
          refine ⟨h2, oj, _, ho, Array.getElem_mem hl, he.1, he.2.imp id fun h4 => blkd_sub r _ _ ?_⟩
          have : oj.after[l].on ∈ acc := by simpa using h4
          simp [this]
        · exact h k hk
      · rename_i hc
        rw [if_neg hc]
        exact blkd_spec r _ h
    · exact blkd_spec r _ h
def freeT2 (ops : Array Oper) (listed : Array Bool) (i : Nat) (S : List Nat) : Bool :=
  match ops[i]? with
  | none => false
  | some oi => (List.range ops.size).all fun j => match ops[j]? with
    | none => true
    | some oj => j == i || listed.getD j true || S.contains j || (oi.apart ops oj && !kindT oj.op)
def freeT (ops : Array Oper) (listed : Array Bool) (i : Nat) : Bool := freeT1 ops listed i || freeT2 ops listed i (blkd ops listed i (List.range ops.size) [])

theorem free_first {i : Nat} {oi : Oper} {v : Value} (hi : ops[i]? = some oi) (hsel : ∀ (j : Nat) (o : Oper) cs b, ops[j]? = some o → o.op ≠ .select cs b)
    (hQ : ∀ c a w, Q (.panic c) (a.put oi.dst v) w → Q (.panic c) a w) (fuel : Nat) (listed : Array Bool) (a : Act) (w : World) (h : freeT ops listed i = true) (hr : i ∈ Region.ready .any ops listed) (hy : YieldsK P ops w oi v a)
    (H : wpAnyT P ops Q fuel (listed.setIfInBounds i true) (a.put oi.dst v) w) : wpAnyT P ops Q (fuel + 1) listed a w := by
  unfold freeT at h
  rw [Bool.or_eq_true] at h
  rcases h with h | h
  · exact wpAnyT_first hi hsel hQ fuel listed a w (freeT1_spec hi h) hr hy H
  · generalize hS : blkd ops listed i (List.range ops.size) [] = S at h
    have hb := blkd_spec (ops := ops) (listed := listed) (i := i) (List.range ops.size) [] (fun k hk => by cases hk)
    rw [hS] at hb
    refine wpAnyT_firstS S hi hsel hQ fuel listed a w (fun j oj hj hji hun hno => ?_) hb hr hy H
    unfold freeT2 at h
    rw [hi] at h
    dsimp only at h
    have hlt : j < ops.size := (Array.getElem?_eq_some_iff.1 hj).1
    have := List.all_eq_true.1 h j (List.mem_range.2 hlt)
    rw [hj] at this
    simp only [Bool.or_eq_true, beq_iff_eq, Bool.and_eq_true, Bool.not_eq_true', List.contains_iff_mem] at this
    rcases this with ((h1 | h1) | h1) | h1
    · exact absurd h1 hji
    · rw [hun] at h1; cases h1
    · exact absurd h1 hno
    · exact h1

/-- The order in which a walk takes the operations is good for every order that the model may pick. -/
def drawOk (ops : Array Oper) : List Nat → Array Bool → Bool
  | [], listed => (Region.ready .any ops listed).isEmpty
  | i :: r, listed =>
    (match ops[i]? with
     | none => false
     | some o => if kindQ o.op then (Region.ready .any ops listed).contains i && freeT ops listed i else Region.ready .any ops listed == [i]) && drawOk ops r (listed.setIfInBounds i true)

theorem noSel (h : Region.noSelect ops = true) : ∀ (j : Nat) (o : Oper) cs b, ops[j]? = some o → o.op ≠ .select cs b := Region.noSelect_spec h

theorem draw_sound {B : Base} {n : Nat} (hd : dstsOk n ops = true) (hsel : Region.noSelect ops = true) (hQ : ∀ c a w, ¬ Q (.panic c) a w) : ∀ (l : List Nat) (listed : Array Bool) (s : St) (a : Act) (w : World) (E : Env) (F : Nat → Prop) (K : St → Prop), a.tmps.size = n → Sim B s a w E F →
    OpsVC P B.keep ops (l.filterMap (ops[·]?)) s K → drawOk ops l listed = true →
    (∀ a' w' s' E' F', K s' → Sim B s' a' w' E' F' → a'.tmps.size = n → Q .normal a' w') → ∀ fuel, l.length ≤ fuel → wpAnyT P ops Q fuel listed a w
  | [], listed, s, a, w, E, F, K, hn, hs, h, hok, hq, fuel, _ => by
    have hr : Region.ready .any ops listed = [] := by simpa [drawOk] using hok
    have := hq a w s E F h hs hn
    cases fuel with
    | zero => exact ⟨hr, this⟩
    | succ fuel => exact ⟨fun _ => this, by rw [hr]; simp⟩
  | i :: l, listed, s, a, w, E, F, K, hn, hs, h, hok, hq, 0, hf => by simp at hf
  | i :: l, listed, s, a, w, E, F, K, hn, hs, h, hok, hq, fuel + 1, hf => by
    simp only [drawOk, Bool.and_eq_true] at hok
    obtain ⟨hok, hrest⟩ := hok
    split at hok
    · cases hok
    rename_i o ho
    simp only [List.filterMap_cons, ho, OpsVC] at h
    have ih := fun s a w E F hn hs h => draw_sound hd hsel hQ l (listed.setIfInBounds i true) s a w E F K hn hs h hrest hq fuel (by simpa using hf)
    rcases op_sound (Q := Q) hs (fun d hd' => by rw [hn]; exact dstsOk_spec hd ho d hd') h with ⟨v, s', hK, hs', hw⟩ | ⟨hnq, hw⟩
    · have ih' := ih s' _ w E F (by rw [size_put]; exact hn) hs' hK
      have hy : YieldsK P ops w o v a := hw
      split at hok
      · simp only [Bool.and_eq_true] at hok
        exact free_first ho (noSel hsel) (fun c a w hh => absurd hh (hQ c _ w)) fuel listed a w hok.2 (by simpa using hok.1) hy ih'
      · have hr : Region.ready .any ops listed = [i] := by simpa using hok
        refine ⟨(fun h0 => by rw [hr] at h0; cases h0), fun j hj => ?_⟩
        rw [hr] at hj
        simp at hj
        subst hj
        exact hy.wpOp ho ⟨.inr (Keep.refl w), ih'⟩
    · rw [hnq] at hok
      have hr : Region.ready .any ops listed = [i] := by simpa using hok
      refine ⟨(fun h0 => by rw [hr] at h0; cases h0), fun j hj => ?_⟩
      rw [hr] at hj
      simp at hj
      subst hj
      unfold wpOp
      simp only [ho]
      rcases hw with ⟨hw, hwp⟩ | ⟨hw, s', F', hK, hs'⟩
      · rw [hw, if_pos rfl]
        refine .inl (Oper.wp_mono (fun a' w' ⟨hkt, v, s', E', F', ha, hK, hs'⟩ => ?_) hwp)
        subst ha
        exact ⟨by simpa [ho] using hkt, ih s' _ w' E' F' (by rw [size_put]; exact hn) hs' hK⟩
      · rw [hw]
        exact ⟨.inr (Keep.refl w), ih s' _ w E F' (by rw [size_put]; exact hn) hs' hK⟩

end Go.Aw
