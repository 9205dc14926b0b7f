/-
  Texts of the library, one behind the other. Over any program; no condition.
-/
import Derived.Test.YtecindhbaekncaaPkD
namespace Go.Aw
set_option linter.unusedSimpArgs false
set_option linter.unusedVariables false
open Go.RowKit

/-- Where it yields, it yields the same over every memory, and changes nothing. -/
def Still {α : Type} (m : Sem α) : Prop := ∀ (P : Program) (w : World) (x : α) (w1 : World), m.run P w = .ok x w1 → w1 = w ∧ ∀ w' : World, m.run P w' = .ok x w'
def Never {α : Type} (m : Sem α) : Prop := ∀ (P : Program) (w : World) (x : α) (w1 : World), m.run P w = .ok x w1 → False
theorem Never.still {α : Type} {m : Sem α} (h : Never m) : Still m := fun P w x w1 e => (h P w x w1 e).elim
theorem still_pure {α : Type} (a : α) : Still (Pure.pure a : Sem α) := fun P w x w1 e => by
  simp only [Sem.run_pure] at e ⊢
  cases e
  exact ⟨rfl, fun _ => rfl⟩
theorem still_bind {α β : Type} {m : Sem α} {f : α → Sem β} (hm : Still m) (hf : ∀ x, Still (f x)) : Still (m >>= f) := fun P w x w1 e => by
  rw [Sem.run_bind] at e
  cases h : m.run P w with
  | halt h' w' => rw [h] at e; cases e
  | ok a w' =>
    rw [h] at e
    obtain ⟨e1, h1⟩ := hm P w a w' h
    subst e1
    obtain ⟨e2, h2⟩ := hf a P _ x w1 e
    exact ⟨e2, fun w'' => by rw [Sem.run_bind, h1 w'']; exact h2 w''⟩
theorem never_bind {α β : Type} {m : Sem α} {f : α → Sem β} (hf : ∀ x, Never (f x)) : Never (m >>= f) := fun P w x w1 e => by
  rw [Sem.run_bind] at e
  cases h : m.run P w with
  | halt h' w' => rw [h] at e; cases e
  | ok a w' => rw [h] at e; exact hf a P _ x w1 e
theorem still_program : Still (program) := fun P w x w1 e => by
  cases e
  exact ⟨rfl, fun _ => rfl⟩
theorem never_stuck {α : Type} (s : String) : Never (stuck s : Sem α) := fun P w x w1 e => by cases e
theorem never_unsup {α : Type} (s : Unsupported) : Never (unsupported s : Sem α) := fun P w x w1 e => by cases e
theorem never_panic {α : Type} (v : Value) : Never (goPanic v : Sem α) := fun P w x w1 e => by cases e

def kindM : Op → Bool
  | .move _ => true
  | .slice .. => true
  | .assign _ => true
  | .pick .. => true
  | .indexAddr .. => true
  | _ => false

theorem still_info (t : TypeId) : Still (typeInfo t) := by
  unfold typeInfo
  repeat' (first | exact still_pure _ | exact (never_stuck _).still | exact still_program | (refine still_bind ?_ fun _ => ?_) | split | dsimp only)
theorem still_under (t : TypeId) : Still (underlying t) := by
  unfold underlying
  repeat' (first | exact still_pure _ | exact (never_stuck _).still | exact still_program | (refine still_bind ?_ fun _ => ?_) | split | dsimp only)
theorem still_size (t : TypeId) : Still (sizeOf t) := still_bind (still_info t) fun _ => still_pure _
theorem never_rt {α : Type} (e : RuntimeError) : Never (runtimePanic e : Sem α) := by
  unfold runtimePanic
  refine never_bind fun p => ?_
  cases e <;> repeat' (first | exact never_panic _ | (refine never_bind fun _ => ?_) | dsimp only)
theorem never_bp {α : Type} (k : IntKind) (i : Int) (y : Int) (c : BoundsCode) : Never (boundsPanic k i y c : Sem α) := by
  unfold boundsPanic
  dsimp only
  split <;> exact never_bind fun _ => never_rt _
theorem still_asIntOf (v : Value) : Still (asIntOf v) := by
  unfold asIntOf
  split <;> first | exact still_pure _ | exact (never_stuck _).still | exact (never_unsup _).still
theorem still_asAddr (v : Value) : Still (asAddr v) := by
  unfold asAddr
  split <;> first | exact still_pure _ | exact (never_stuck _).still | exact (never_rt _).still
theorem still_sure (v : Value) : Still (Instr.sureAddr v) := by
  unfold Instr.sureAddr
  split <;> first | exact still_pure _ | exact (never_stuck _).still
theorem still_sb (v : Value) (y : Nat) (c : BoundsCode) : Still (Instr.sliceBound v y c) := by
  unfold Instr.sliceBound
  repeat' (first | exact still_pure _ | exact (never_bp _ _ _ _).still | exact still_asIntOf _ | (refine still_bind ?_ fun _ => ?_) | split | dsimp only)
theorem still_sbs (b : Bool) (l c : Nat) (x y z : Option Value) : Still (Instr.sliceBounds b l c x y z) := by
  unfold Instr.sliceBounds
  cases x <;> cases y <;> cases z <;> dsimp only <;>
  repeat' (first | exact still_pure _ | exact (never_stuck _).still | exact still_sb _ _ _ | (refine still_bind ?_ fun _ => ?_) | split | dsimp only)
theorem still_slice (t : TypeId) (x : Value) (a b c : Option Value) : Still (Instr.slice t x a b c) := by
  unfold Instr.slice
  repeat' (first | exact still_pure _ | exact (never_stuck _).still | exact still_under _ | exact still_sbs _ _ _ _ _ _ | exact still_size _ | exact still_asAddr _ | (refine still_bind ?_ fun _ => ?_) | split | dsimp only)
theorem still_sliceAt (t : TypeId) (x : Value) (a b c : Option Value) : Still (Instr.sliceAt t x a b c) := by
  unfold Instr.sliceAt
  repeat' (first | exact still_pure _ | exact (never_stuck _).still | exact still_under _ | exact still_sbs _ _ _ _ _ _ | exact still_size _ | exact still_sure _ | exact still_slice _ _ _ _ _ | (refine still_bind ?_ fun _ => ?_) | split | dsimp only)

theorem still_asBool (v : Value) : Still (asBool v) := by
  unfold asBool
  split <;> first | exact still_pure _ | exact (never_stuck _).still
theorem still_indexAt (t : TypeId) (x i : Value) : Still (Instr.indexAt t x i) := by
  unfold Instr.indexAt
  repeat' (first | exact still_pure _ | exact (never_stuck _).still | exact (never_unsup _).still | exact (never_bp _ _ _ _).still | exact still_under _ | exact still_size _ | exact still_sure _ | exact still_asIntOf _ | (refine still_bind ?_ fun _ => ?_) | split | dsimp only)

theorem still_op (ev : Operand → Value) (o : Oper) (h : kindM o.op = true) : Still (execOp ev o) := by
  unfold kindM at h
  split at h
  · rename_i x hx
    simp only [execOp, hx]
    exact still_pure _
  · rename_i t x a b c hx
    simp only [execOp, hx]
    exact still_bind (still_sliceAt _ _ _ _ _) fun _ => still_pure _
  · rename_i x hx
    simp only [execOp, hx]
    exact still_pure _
  · rename_i c x y hx
    simp only [execOp, hx]
    refine still_bind (still_asBool _) fun _ => ?_
    split <;> exact still_pure _
  · rename_i t x i hx
    simp only [execOp, hx]
    exact still_bind (still_indexAt _ _ _) fun _ => still_pure _
  · cases h

variable {P : Program} {ops : Array Oper} {Q : Exit → Act → World → Prop}

/-- The operation yields this value from here on, whatever the memory. -/
def YieldsM (P : Program) (ops : Array Oper) (o : Oper) (v : Value) (a : Act) : Prop :=
  (Region.wanted o (yielded ops a.tmps) = true ∧ ∀ w', (execOp a.eval o).run P w' = .ok (.value v) w') ∨
  (Region.wanted o (yielded ops a.tmps) = false ∧ v = undef)

theorem YieldsK.toM {w : World} {o : Oper} {v : Value} {a : Act} (h : YieldsK P ops w o v a) (hk : kindM o.op = true) : YieldsM P ops o v a :=
  h.imp (fun ⟨h1, h2⟩ => ⟨h1, (still_op a.eval o hk P w _ _ (h2 w (Keep.refl w))).2⟩) id

theorem YieldsM.wpOp {i : Nat} {o : Oper} {v : Value} {a : Act} {w : World} (hi : ops[i]? = some o) (hy : YieldsM P ops o v a) {K : Act → World → Prop} (h : K (a.put o.dst v) w) : wpOp P ops Q i K a w := by
  unfold Go.wpOp
  simp only [hi]
  rcases hy with ⟨hw, hv⟩ | ⟨hw, rfl⟩
  · simp only [hw, if_true, Oper.wp, hv w, Oper.upon]; exact .inl h
  · simp only [hw, Bool.false_eq_true, if_false]; exact h

theorem YieldsM.of_same {o : Oper} {v : Value} {a a' : Act} (hy : YieldsM P ops o v a) (he : execOp a'.eval o = execOp a.eval o)
    (hw : Region.wanted o (yielded ops a'.tmps) = Region.wanted o (yielded ops a.tmps)) : YieldsM P ops o v a' := by
  unfold YieldsM at *
  rw [he, hw]
  exact hy

theorem wpOp_putM {j : Nat} {oi oj : Oper} {v : Value} (hj : ops[j]? = some oj) (hap : oi.apart ops oj = true)
    (hsi : ∀ cs b, oi.op ≠ .select cs b) (hsj : ∀ cs b, oj.op ≠ .select cs b)
    (hQ : ∀ c a w, Q (.panic c) (a.put oi.dst v) w → Q (.panic c) a w) {K : Act → World → Prop} {a : Act} {w : World}
    (hy : YieldsM P ops oi v a) (h : wpOp P ops Q j K (a.put oi.dst v) w) :
    wpOp P ops Q j (fun a' w' => YieldsM P ops oi v a' ∧ K (a'.put oi.dst v) w') a w := by
  obtain ⟨h1, h2, h3⟩ := Oper.apart_spec hap
  have keep : ∀ (a : Act), YieldsM P ops oi v a → ∀ u, YieldsM P ops oi v (a.put oj.dst u) := fun a hy u =>
    hy.of_same (execOp_put oi hsi a oj.dst u h3) (wanted_put oi a oj.dst u h3)
  have keepD : ∀ d, YieldsM P ops oi v { a with defers := d :: a.defers } := fun d => hy.of_same rfl rfl
  unfold wpOp at *
  simp only [hj] at *
  rw [wanted_put oj a oi.dst v h1] at h
  split
  · rename_i hw
    simp only [hw, if_true] at h
    rcases h with h | ⟨hasks, hlets⟩
    case inr => exact .inr ⟨by unfold Oper.asks at *; rw [execOp_put oj hsj a oi.dst v h1] at hasks; exact hasks, hlets⟩
    refine .inl ?_
    unfold Oper.wp at *
    rw [execOp_put oj hsj a oi.dst v h1] at h
    generalize (execOp a.eval oj).run P w = r at *
    cases r with
    | ok n w' =>
      cases n <;> simp only [Oper.upon] at h ⊢
      case value u => exact ⟨keep a hy u, by rw [← Act.put_comm a v u h2]; exact h⟩
      case skip => exact ⟨keep a hy _, by rw [← Act.put_comm a v undef h2]; exact h⟩
      case defer d =>
        refine ⟨keep _ (keepD d) _, ?_⟩
        rw [← Act.put_comm _ v undef h2, ← Act.put_defers]
        exact h
      case enter f args =>
        refine Calls.mono h fun e w'' he => ?_
        cases e with
        | returned u => exact ⟨keep a hy u, by rw [← Act.put_comm a v u h2]; exact he⟩
        | panicked c => exact hQ _ _ _ he
        | outgrown => exact he
      case row row args => exact Rows.mono h fun u w'' he => ⟨keep a hy u, by rw [← Act.put_comm a v u h2]; exact he⟩
    | halt x w' =>
      cases x <;> simp only [Oper.upon] at h ⊢
      case panic u => exact hQ _ _ _ h
  · rename_i hw
    simp only [hw] at h
    exact ⟨keep a hy _, by rw [← Act.put_comm a v undef h2]; exact h⟩

/-- What reads no memory may be taken first, where some operations (S) cannot come up before it. -/
theorem wpAnyT_firstM {i : Nat} {oi : Oper} {v : Value} (S : List Nat) (hi : ops[i]? = some oi) (hsel : ∀ (j : Nat) (o : Oper) cs b, ops[j]? = some o → o.op ≠ .select cs b)
    (hQ : ∀ c a w, Q (.panic c) (a.put oi.dst v) w → Q (.panic c) a w) :
    ∀ (fuel : Nat) (listed : Array Bool) (a : Act) (w : World),
      (∀ j oj, ops[j]? = some oj → j ≠ i → listed.getD j true = false → j ∉ S → oi.apart ops oj = true) →
      (∀ j, j ∈ S → listed.getD j true = false ∧ ∃ oj e, ops[j]? = some oj ∧ e ∈ oj.after ∧ Region.binds .any e = true ∧ (e.on = i ∨ e.on ∈ S)) →
      i ∈ Region.ready .any ops listed → YieldsM P ops oi v a →
      wpAnyT P ops Q fuel (listed.setIfInBounds i true) (a.put oi.dst v) w → wpAnyT P ops Q (fuel + 1) listed a w := by
  intro fuel
  induction fuel with
  | zero =>
    intro listed a w _ _ hr hy H
    refine ⟨fun h => (by rw [h] at hr; cases hr), fun j hj => ?_⟩
    by_cases hji : j = i
    · subst hji; exact hy.wpOp hi ⟨.inr (Keep.refl w), H⟩
    · have := ready_mono hj hji
      rw [H.1] at this
      cases this
  | succ fuel ih =>
    intro listed a w hfree hS hr hy H
    refine ⟨fun h => (by rw [h] at hr; cases hr), fun j hj => ?_⟩
    by_cases hji : j = i
    · subst hji; exact hy.wpOp hi ⟨.inr (Keep.refl w), H⟩
    · have h1 := H.2 j (ready_mono hj hji)
      obtain ⟨hjun, oj, hoj, hall⟩ := mem_ready.1 hj
      have notOn : ∀ k, listed.getD k true = false → ∀ e ∈ oj.after, Region.binds .any e = true → e.on ≠ k := fun k h0 e he hb heq => by
        have h1 := hall e he hb
        rw [heq] at h1
        rcases Nat.lt_or_ge k listed.size with h' | h'
        · simp [h'] at h0 h1; rw [h0] at h1; cases h1
        · simp [Array.getElem?_eq_none h'] at h1
      have hjS : j ∉ S := fun hjS => by
        obtain ⟨_, ok, e, hok, he, hb, hon⟩ := hS j hjS
        rw [hoj] at hok
        cases hok
        rcases hon with hon | hon
        · exact notOn i (mem_ready.1 hr).1 e he hb hon
        · exact notOn e.on (hS _ hon).1 e he hb rfl
      have hap := hfree j oj hoj hji hjun hjS
      have h2 := wpOp_putM hoj hap (fun cs b => hsel i oi cs b hi) (fun cs b => hsel j oj cs b hoj) hQ hy h1
      have hfree' : ∀ k ok, ops[k]? = some ok → k ≠ i → (listed.setIfInBounds j true).getD k true = false → k ∉ S → oi.apart ops ok = true := fun k ok hk hki hun hno => by
        refine hfree k ok hk hki ?_ hno
        by_cases hjk : j = k
        · subst hjk; exact hjun
        · rw [getD_set_ne true hjk] at hun; exact hun
      have hS' : ∀ k, k ∈ S → (listed.setIfInBounds j true).getD k true = false ∧ ∃ oj e, ops[k]? = some oj ∧ e ∈ oj.after ∧ Region.binds .any e = true ∧ (e.on = i ∨ e.on ∈ S) := fun k hk => by
        obtain ⟨q1, q2⟩ := hS k hk
        have hjk : j ≠ k := fun e => hjS (e ▸ hk)
        exact ⟨by rw [getD_set_ne true hjk]; exact q1, q2⟩
      refine wpOp_mono (fun a' w' h3 => ?_) h2
      obtain ⟨g1, g2, g3⟩ := h3
      refine ⟨g2, ih (listed.setIfInBounds j true) a' w' hfree' hS' (ready_mono hr (Ne.symm hji)) g1 ?_⟩
      rw [Array.setIfInBounds_comm _ _ hji]
      exact g3

/-- May number i be taken first, where it reads no memory? -/
def freeM (ops : Array Oper) (listed : Array Bool) (i : Nat) (S : List Nat) : Bool :=
  match ops[i]? with
  | none => false
  | some oi => kindM oi.op && (List.range ops.size).all fun j => match ops[j]? with
    | none => true
    | some oj => j == i || listed.getD j true || S.contains j || oi.apart ops oj
def freeZ (ops : Array Oper) (listed : Array Bool) (i : Nat) : Bool := freeT ops listed i || freeM ops listed i (blkd ops listed i (List.range ops.size) [])

theorem free_firstZ {i : Nat} {oi : Oper} {v : Value} (hi : ops[i]? = some oi) (hsel : ∀ (j : Nat) (o : Oper) cs b, ops[j]? = some o → o.op ≠ .select cs b)
    (hQ : ∀ c a w, Q (.panic c) (a.put oi.dst v) w → Q (.panic c) a w) (fuel : Nat) (listed : Array Bool) (a : Act) (w : World) (h : freeZ ops listed i = true) (hr : i ∈ Region.ready .any ops listed) (hy : YieldsK P ops w oi v a)
    (H : wpAnyT P ops Q fuel (listed.setIfInBounds i true) (a.put oi.dst v) w) : wpAnyT P ops Q (fuel + 1) listed a w := by
  unfold freeZ at h
  rw [Bool.or_eq_true] at h
  rcases h with h | h
  · exact free_first hi hsel hQ fuel listed a w h hr hy H
  · generalize hS : blkd ops listed i (List.range ops.size) [] = S at h
    have hb := blkd_spec (ops := ops) (listed := listed) (i := i) (List.range ops.size) [] (fun k hk => by cases hk)
    rw [hS] at hb
    unfold freeM at h
    rw [hi] at h
    simp only [Bool.and_eq_true] at h
    refine wpAnyT_firstM S hi hsel hQ fuel listed a w (fun j oj hj hji hun hno => ?_) hb hr (hy.toM h.1) H
    have hlt : j < ops.size := (Array.getElem?_eq_some_iff.1 hj).1
    have := List.all_eq_true.1 h.2 j (List.mem_range.2 hlt)
    rw [hj] at this
    simp only [Bool.or_eq_true, beq_iff_eq, List.contains_iff_mem] at this
    rcases this with ((h1 | h1) | h1) | h1
    · exact absurd h1 hji
    · rw [hun] at h1; cases h1
    · exact absurd h1 hno
    · exact h1

def preOkM (ops : Array Oper) : List Nat → Array Bool → Bool
  | [], _ => true
  | i :: r, listed =>
    (match ops[i]? with
     | none => false
     | some o => if kindQ o.op then (Region.ready .any ops listed).contains i && freeZ ops listed i else Region.ready .any ops listed == [i]) && preOkM ops r (listed.setIfInBounds i true)

theorem preM_sound {B : Base} {n m : Nat} (hd : dstsOk n ops = true) (hsel : Region.noSelect ops = true) (hQ : ∀ c a w, ¬ Q (.panic c) a w) : ∀ (l : List Nat) (listed : Array Bool) (s : St) (a : Act) (w : World) (E : Env) (F : Nat → Prop) (K : St → Prop), a.tmps.size = n → Sim B s a w E F →
    OpsVC P B.keep ops (l.filterMap (ops[·]?)) s K → preOkM ops l listed = true →
    (∀ a' w' s' E' F', K s' → Sim B s' a' w' E' F' → a'.tmps.size = n → ∀ fuel, m ≤ fuel → wpAnyT P ops Q fuel (setAll l listed) a' w') → ∀ fuel, l.length + m ≤ fuel → wpAnyT P ops Q fuel listed a w
  | [], listed, s, a, w, E, F, K, hn, hs, h, hok, hq, fuel, hf => hq a w s E F h hs hn fuel (by simpa using hf)
  | i :: l, listed, s, a, w, E, F, K, hn, hs, h, hok, hq, 0, hf => by simp at hf
  | i :: l, listed, s, a, w, E, F, K, hn, hs, h, hok, hq, fuel + 1, hf => by
    simp only [preOkM, Bool.and_eq_true] at hok
    obtain ⟨hok, hrest⟩ := hok
    split at hok
    · cases hok
    rename_i o ho
    simp only [List.filterMap_cons, ho, OpsVC] at h
    have ih := fun s a w E F hn hs h => preM_sound hd hsel hQ l (listed.setIfInBounds i true) s a w E F K hn hs h hrest hq fuel (by simp at hf; omega)
    rcases op_sound (Q := Q) hs (fun d hd' => by rw [hn]; exact dstsOk_spec hd ho d hd') h with ⟨v, s', hK, hs', hw⟩ | ⟨hnq, hw⟩
    · have ih' := ih s' _ w E F (by rw [size_put]; exact hn) hs' hK
      have hy : YieldsK P ops w o v a := hw
      split at hok
      · simp only [Bool.and_eq_true] at hok
        exact free_firstZ ho (noSel hsel) (fun c a w hh => absurd hh (hQ c _ w)) fuel listed a w hok.2 (by simpa using hok.1) hy ih'
      · have hr : Region.ready .any ops listed = [i] := by simpa using hok
        refine ⟨(fun h0 => by rw [hr] at h0; cases h0), fun j hj => ?_⟩
        rw [hr] at hj
        simp at hj
        subst hj
        exact hy.wpOp ho ⟨.inr (Keep.refl w), ih'⟩
    · rw [hnq] at hok
      have hr : Region.ready .any ops listed = [i] := by simpa using hok
      refine ⟨(fun h0 => by rw [hr] at h0; cases h0), fun j hj => ?_⟩
      rw [hr] at hj
      simp at hj
      subst hj
      unfold wpOp
      simp only [ho]
      rcases hw with ⟨hw, hwp⟩ | ⟨hw, s', F', hK, hs'⟩
      · rw [hw, if_pos rfl]
        refine .inl (Oper.wp_mono (fun a' w' ⟨hkt, v, s', E', F', ha, hK, hs'⟩ => ?_) hwp)
        subst ha
        exact ⟨by simpa [ho] using hkt, ih s' _ w' E' F' (by rw [size_put]; exact hn) hs' hK⟩
      · rw [hw]
        exact ⟨.inr (Keep.refl w), ih s' _ w E F' (by rw [size_put]; exact hn) hs' hK⟩

/-- As awpF_drawP; what reads no memory may come first beside what writes. -/
theorem awpF_drawM {kp : List Nat} {n : Nat} {s : St} {Q : Exit → St → Prop} {id : Nat} (pre l : List Nat) (d : DT) (hm : P.follows .mixedOrders = true)
    (hc : (Region.noSelect ops && preOkM ops pre (Array.replicate ops.size false) && parSyn ops l && consP ops l (setAll pre (Array.replicate ops.size false)) && parChk ops l l (setAll pre (Array.replicate ops.size false)) false && d.ok ops true (setAll l (setAll pre (Array.replicate ops.size false)))) = true) (hl : Nat.ble (pre.length + (l.length + d.depth)) ops.size = true)
    (h : ∀ K : St → Prop, (∀ t, Q .normal t → K t) → contRun P kp ops (.vc (pre.filterMap (ops[·]?))) s (ParAt P kp ops l d K)) : AWP P kp n (.region id ops true) s Q := by
  intro hok B a w E F h1 h2 h3
  subst h1
  simp only [Bool.and_eq_true] at hc
  obtain ⟨⟨⟨⟨⟨c1, c2⟩, c3⟩, c6⟩, c4⟩, c5⟩ := hc
  have hQ : ∀ c a w, ¬ (fun e a' w' => (∀ ch, e ≠ .panic ch) ∧ e ≠ .outgrown ∧ ∃ s' E' F', Q e s' ∧ Sim B s' a' w' E' F' ∧ a'.tmps.size = n) (.panic c) a w := fun c a w hh => hh.1 c rfl
  refine wp_region_any hm (wpAny_of_T _ _ _ _ (preM_sound (ops := ops) (n := n) (m := l.length + d.depth) hok c1 hQ pre _ s a _ E F _ h2 h3.drew (h _ fun t ht => ht) c2 ?_ _ (Nat.le_of_ble_eq_true hl)))
  rintro a1 w1 s1 E1 F1 ⟨hb1, hb2, hpar⟩ hs1 hn1 fuel hf
  simp only [parSyn, Bool.and_eq_true, decide_eq_true_eq, List.all_eq_true] at c3
  obtain ⟨⟨n1, n2⟩, c3⟩ := c3
  have hsyn : ∀ i, i ∈ l → ∃ o, ops[i]? = some o ∧ o.guard = none ∧ ∀ c, o.op = .call c → valCall c = true := fun i hi => by
    have := c3 i hi
    cases ho : ops[i]? with
    | none => rw [ho] at this; cases this
    | some o =>
      rw [ho] at this
      simp only [Bool.and_eq_true, Option.isNone_iff_eq_none] at this
      refine ⟨o, rfl, this.1, fun c hc => ?_⟩
      have := this.2
      rw [hc] at this
      simp only [Bool.and_eq_true] at this
      exact this.1
  obtain ⟨its, e1, e2, e3, e4⟩ := par_items hsyn l s1 (fun _ h => h) hpar
  have ed : its.map It.d = l.filterMap fun i => (ops[i]?).bind (·.dst) := by
    rw [← e1]
    clear e1 e3 e4 hpar
    induction its with
    | nil => rfl
    | cons x r ih =>
      obtain ⟨o, ho, _, hd, _⟩ := e2 x (by simp)
      rw [List.map_cons, List.map_cons, List.filterMap_cons]
      simp only [ho, Option.bind_some, hd]
      rw [ih fun y hy => e2 y (by simp [hy])]
  have hdep : DepOk ops its := by
    intro it hit o c ho hc t ht y hy
    have := c3 it.i (by rw [← e1]; exact List.mem_map_of_mem hit)
    rw [ho] at this
    simp only [hc, Bool.and_eq_true, List.all_eq_true] at this
    have := this.2.2 _ ht
    simp only [Bool.not_eq_true', List.contains_eq_mem, decide_eq_false_iff_not] at this
    intro e
    refine this ?_
    rw [← ed, ← e]
    exact List.mem_map_of_mem hy
  have hk : ∀ i, i ∈ B.keep → i < s1.heap.length := fun i hi => by
    obtain ⟨e, h1, _⟩ := hs1.rel.keep i hi
    rw [← hs1.rel.hr.len]
    exact (List.getElem?_eq_some_iff.1 h1).1
  have hfl : (its.filter fun it => (fun _ => true) it.i).length = l.length := by
    rw [List.filter_eq_self.2 fun _ _ => rfl, ← e1, List.length_map]
  have := par_sound (P := P) (B := B) (m := d.depth) hok (by rw [e1]; exact n1) (by rw [ed]; exact n2) e2 e3 hb1 hb2 hk hdep _ (by rw [e1]; exact c4) (Q := fun e a' w' => (∀ ch, e ≠ .panic ch) ∧ e ≠ .outgrown ∧ ∃ s' E' F', Q e s' ∧ Sim B s' a' w' E' F' ∧ a'.tmps.size = n)
    (fun a w E F hs hn fuel hf => draw_soundT (ops := ops) (n := n) hok c1 hQ d.depth d (Nat.le_refl _) _ _ a w E F (fun t => Q .normal t) hn hs e4 (by rw [e1]; exact c5) (fun a' w' s' E' F' hK hs hn => ⟨by simp, by simp, s', E', F', hK, hs, hn⟩) fuel hf)
    l.length (fun _ => true) hfl (by rw [show ((its.map It.i).filter fun i => !((fun _ => true) i)) = [] by simp, e1]; exact c6) a1 w1 _ F1 hn1 (stg_start hs1) fuel (by omega)
  rw [show ((its.map It.i).filter fun i => !((fun _ => true) i)) = [] by simp] at this
  exact this

end Go.Aw

namespace Go.Aw
set_option linter.unusedSimpArgs false
set_option linter.unusedVariables false
open Go.RowKit Go.Sort

def encI (x : Int) : List D := [.int .i64 x]
end Go.Aw
