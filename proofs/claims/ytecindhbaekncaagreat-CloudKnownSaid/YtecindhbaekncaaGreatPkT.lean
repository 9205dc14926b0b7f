/-
  Texts of the library, one behind the other. Over any program; no condition.
-/
import Derived.Shelf.SlSortCmp.NoneTotal
import Derived.Test.YtecindhbaekncaaGreatPkD
namespace Go.Aw
set_option linter.unusedSimpArgs false
set_option linter.unusedVariables false
open Go.RowKit

def Still {α : Type} (m : Sem α) : Prop := ∀ (P : Program) (w : World) (x : α) (w1 : World), m.run P w = .ok x w1 → w1 = w ∧ ∀ w' : World, m.run P w' = .ok x w'
def Never {α : Type} (m : Sem α) : Prop := ∀ (P : Program) (w : World) (x : α) (w1 : World), m.run P w = .ok x w1 → False
theorem Never.still {α : Type} {m : Sem α} (h : Never m) : Still m := fun P w x w1 e => (h P w x w1 e).elim
theorem still_pure {α : Type} (a : α) : Still (Pure.pure a : Sem α) := fun P w x w1 e => by
  simp only [Sem.run_pure] at e ⊢
  cases e
  exact ⟨rfl, fun _ => rfl⟩
theorem still_bind {α β : Type} {m : Sem α} {f : α → Sem β} (hm : Still m) (hf : ∀ x, Still (f x)) : Still (m >>= f) := fun P w x w1 e => by
  rw [Sem.run_bind] at e
  cases h : m.run P w with
  | halt h' w' => rw [h] at e; cases e
  | ok a w' =>
    rw [h] at e
    obtain ⟨e1, h1⟩ := hm P w a w' h
    subst e1
    obtain ⟨e2, h2⟩ := hf a P _ x w1 e
    exact ⟨e2, fun w'' => by rw [Sem.run_bind, h1 w'']; exact h2 w''⟩
theorem never_bind {α β : Type} {m : Sem α} {f : α → Sem β} (hf : ∀ x, Never (f x)) : Never (m >>= f) := fun P w x w1 e => by
  rw [Sem.run_bind] at e
  cases h : m.run P w with
  | halt h' w' => rw [h] at e; cases e
  | ok a w' => rw [h] at e; exact hf a P _ x w1 e
theorem still_program : Still (program) := fun P w x w1 e => by
  cases e
  exact ⟨rfl, fun _ => rfl⟩
theorem never_stuck {α : Type} (s : String) : Never (stuck s : Sem α) := fun P w x w1 e => by cases e
theorem never_unsup {α : Type} (s : Unsupported) : Never (unsupported s : Sem α) := fun P w x w1 e => by cases e
theorem never_panic {α : Type} (v : Value) : Never (goPanic v : Sem α) := fun P w x w1 e => by cases e

def kindM : Op → Bool
  | .move _ => true
  | .slice .. => true
  | .assign _ => true
  | .pick .. => true
  | .indexAddr .. => true
  | _ => false

theorem still_info (t : TypeId) : Still (typeInfo t) := by
  unfold typeInfo
  repeat' (first | exact still_pure _ | exact (never_stuck _).still | exact still_program | (refine still_bind ?_ fun _ => ?_) | split | dsimp only)
theorem still_under (t : TypeId) : Still (underlying t) := by
  unfold underlying
  repeat' (first | exact still_pure _ | exact (never_stuck _).still | exact still_program | (refine still_bind ?_ fun _ => ?_) | split | dsimp only)
theorem still_size (t : TypeId) : Still (sizeOf t) := still_bind (still_info t) fun _ => still_pure _
theorem never_rt {α : Type} (e : RuntimeError) : Never (runtimePanic e : Sem α) := by
  unfold runtimePanic
  refine never_bind fun p => ?_
  cases e <;> repeat' (first | exact never_panic _ | (refine never_bind fun _ => ?_) | dsimp only)
theorem never_bp {α : Type} (k : IntKind) (i : Int) (y : Int) (c : BoundsCode) : Never (boundsPanic k i y c : Sem α) := by
  unfold boundsPanic
  dsimp only
  split <;> exact never_bind fun _ => never_rt _
theorem still_asIntOf (v : Value) : Still (asIntOf v) := by
  unfold asIntOf
  split <;> first | exact still_pure _ | exact (never_stuck _).still | exact (never_unsup _).still
theorem still_asAddr (v : Value) : Still (asAddr v) := by
  unfold asAddr
  split <;> first | exact still_pure _ | exact (never_stuck _).still | exact (never_rt _).still
theorem still_sure (v : Value) : Still (Instr.sureAddr v) := by
  unfold Instr.sureAddr
  split <;> first | exact still_pure _ | exact (never_stuck _).still
theorem still_sb (v : Value) (y : Nat) (c : BoundsCode) : Still (Instr.sliceBound v y c) := by
  unfold Instr.sliceBound
  repeat' (first | exact still_pure _ | exact (never_bp _ _ _ _).still | exact still_asIntOf _ | (refine still_bind ?_ fun _ => ?_) | split | dsimp only)
theorem still_sbs (b : Bool) (l c : Nat) (x y z : Option Value) : Still (Instr.sliceBounds b l c x y z) := by
  unfold Instr.sliceBounds
  cases x <;> cases y <;> cases z <;> dsimp only <;>
  repeat' (first | exact still_pure _ | exact (never_stuck _).still | exact still_sb _ _ _ | (refine still_bind ?_ fun _ => ?_) | split | dsimp only)
theorem still_slice (t : TypeId) (x : Value) (a b c : Option Value) : Still (Instr.slice t x a b c) := by
  unfold Instr.slice
  repeat' (first | exact still_pure _ | exact (never_stuck _).still | exact still_under _ | exact still_sbs _ _ _ _ _ _ | exact still_size _ | exact still_asAddr _ | (refine still_bind ?_ fun _ => ?_) | split | dsimp only)
theorem still_sliceAt (t : TypeId) (x : Value) (a b c : Option Value) : Still (Instr.sliceAt t x a b c) := by
  unfold Instr.sliceAt
  repeat' (first | exact still_pure _ | exact (never_stuck _).still | exact still_under _ | exact still_sbs _ _ _ _ _ _ | exact still_size _ | exact still_sure _ | exact still_slice _ _ _ _ _ | (refine still_bind ?_ fun _ => ?_) | split | dsimp only)

theorem still_asBool (v : Value) : Still (asBool v) := by
  unfold asBool
  split <;> first | exact still_pure _ | exact (never_stuck _).still
theorem still_indexAt (t : TypeId) (x i : Value) : Still (Instr.indexAt t x i) := by
  unfold Instr.indexAt
  repeat' (first | exact still_pure _ | exact (never_stuck _).still | exact (never_unsup _).still | exact (never_bp _ _ _ _).still | exact still_under _ | exact still_size _ | exact still_sure _ | exact still_asIntOf _ | (refine still_bind ?_ fun _ => ?_) | split | dsimp only)

theorem still_op (ev : Operand → Value) (o : Oper) (h : kindM o.op = true) : Still (execOp ev o) := by
  unfold kindM at h
  split at h
  · rename_i x hx
    simp only [execOp, hx]
    exact still_pure _
  · rename_i t x a b c hx
    simp only [execOp, hx]
    exact still_bind (still_sliceAt _ _ _ _ _) fun _ => still_pure _
  · rename_i x hx
    simp only [execOp, hx]
    exact still_pure _
  · rename_i c x y hx
    simp only [execOp, hx]
    refine still_bind (still_asBool _) fun _ => ?_
    split <;> exact still_pure _
  · rename_i t x i hx
    simp only [execOp, hx]
    exact still_bind (still_indexAt _ _ _) fun _ => still_pure _
  · cases h

variable {P : Program} {ops : Array Oper} {Q : Exit → Act → World → Prop}

def YieldsM (P : Program) (ops : Array Oper) (o : Oper) (v : Value) (a : Act) : Prop :=
  (Region.wanted o (yielded ops a.tmps) = true ∧ ∀ w', (execOp a.eval o).run P w' = .ok (.value v) w') ∨
  (Region.wanted o (yielded ops a.tmps) = false ∧ v = undef)

theorem YieldsK.toM {w : World} {o : Oper} {v : Value} {a : Act} (h : YieldsK P ops w o v a) (hk : kindM o.op = true) : YieldsM P ops o v a :=
  h.imp (fun ⟨h1, h2⟩ => ⟨h1, (still_op a.eval o hk P w _ _ (h2 w (Keep.refl w))).2⟩) id

theorem YieldsM.wpOp {i : Nat} {o : Oper} {v : Value} {a : Act} {w : World} (hi : ops[i]? = some o) (hy : YieldsM P ops o v a) {K : Act → World → Prop} (h : K (a.put o.dst v) w) : wpOp P ops Q i K a w := by
  unfold Go.wpOp
  simp only [hi]
  rcases hy with ⟨hw, hv⟩ | ⟨hw, rfl⟩
  · simp only [hw, if_true, Oper.wp, hv w, Oper.upon]; exact .inl h
  · simp only [hw, Bool.false_eq_true, if_false]; exact h

theorem YieldsM.of_same {o : Oper} {v : Value} {a a' : Act} (hy : YieldsM P ops o v a) (he : execOp a'.eval o = execOp a.eval o)
    (hw : Region.wanted o (yielded ops a'.tmps) = Region.wanted o (yielded ops a.tmps)) : YieldsM P ops o v a' := by
  unfold YieldsM at *
  rw [he, hw]
  exact hy

theorem wpOp_putM {j : Nat} {oi oj : Oper} {v : Value} (hj : ops[j]? = some oj) (hap : oi.apart ops oj = true)
    (hsi : ∀ cs b, oi.op ≠ .select cs b) (hsj : ∀ cs b, oj.op ≠ .select cs b)
    (hQ : ∀ c a w, Q (.panic c) (a.put oi.dst v) w → Q (.panic c) a w) {K : Act → World → Prop} {a : Act} {w : World}
    (hy : YieldsM P ops oi v a) (h : wpOp P ops Q j K (a.put oi.dst v) w) :
    wpOp P ops Q j (fun a' w' => YieldsM P ops oi v a' ∧ K (a'.put oi.dst v) w') a w := by
  obtain ⟨h1, h2, h3⟩ := Oper.apart_spec hap
  have keep : ∀ (a : Act), YieldsM P ops oi v a → ∀ u, YieldsM P ops oi v (a.put oj.dst u) := fun a hy u =>
    hy.of_same (execOp_put oi hsi a oj.dst u h3) (wanted_put oi a oj.dst u h3)
  have keepD : ∀ d, YieldsM P ops oi v { a with defers := d :: a.defers } := fun d => hy.of_same rfl rfl
  unfold wpOp at *
  simp only [hj] at *
  rw [wanted_put oj a oi.dst v h1] at h
  split
  · rename_i hw
    simp only [hw, if_true] at h
    rcases h with h | ⟨hasks, hlets⟩
    case inr => exact .inr ⟨by unfold Oper.asks at *; rw [execOp_put oj hsj a oi.dst v h1] at hasks; exact hasks, hlets⟩
    refine .inl ?_
    unfold Oper.wp at *
    rw [execOp_put oj hsj a oi.dst v h1] at h
    generalize (execOp a.eval oj).run P w = r at *
    cases r with
    | ok n w' =>
      cases n <;> simp only [Oper.upon] at h ⊢
      case value u => exact ⟨keep a hy u, by rw [← Act.put_comm a v u h2]; exact h⟩
      case skip => exact ⟨keep a hy _, by rw [← Act.put_comm a v undef h2]; exact h⟩
      case defer d =>
        refine ⟨keep _ (keepD d) _, ?_⟩
        rw [← Act.put_comm _ v undef h2, ← Act.put_defers]
        exact h
      case enter f args =>
        refine Calls.mono h fun e w'' he => ?_
        cases e with
        | returned u => exact ⟨keep a hy u, by rw [← Act.put_comm a v u h2]; exact he⟩
        | panicked c => exact hQ _ _ _ he
        | outgrown => exact he
      case row row args => exact Rows.mono h fun u w'' he => ⟨keep a hy u, by rw [← Act.put_comm a v u h2]; exact he⟩
    | halt x w' =>
      cases x <;> simp only [Oper.upon] at h ⊢
      case panic u => exact hQ _ _ _ h
  · rename_i hw
    simp only [hw] at h
    exact ⟨keep a hy _, by rw [← Act.put_comm a v undef h2]; exact h⟩

theorem wpAnyT_firstM {i : Nat} {oi : Oper} {v : Value} (S : List Nat) (hi : ops[i]? = some oi) (hsel : ∀ (j : Nat) (o : Oper) cs b, ops[j]? = some o → o.op ≠ .select cs b)
    (hQ : ∀ c a w, Q (.panic c) (a.put oi.dst v) w → Q (.panic c) a w) :
    ∀ (fuel : Nat) (listed : Array Bool) (a : Act) (w : World),
      (∀ j oj, ops[j]? = some oj → j ≠ i → listed.getD j true = false → j ∉ S → oi.apart ops oj = true) →
      (∀ j, j ∈ S → listed.getD j true = false ∧ ∃ oj e, ops[j]? = some oj ∧ e ∈ oj.after ∧ Region.binds .any e = true ∧ (e.on = i ∨ e.on ∈ S)) →
      i ∈ Region.ready .any ops listed → YieldsM P ops oi v a →
      wpAnyT P ops Q fuel (listed.setIfInBounds i true) (a.put oi.dst v) w → wpAnyT P ops Q (fuel + 1) listed a w := by
  intro fuel
  induction fuel with
  | zero =>
    intro listed a w _ _ hr hy H
    refine ⟨fun h => (by rw [h] at hr; cases hr), fun j hj => ?_⟩
    by_cases hji : j = i
    · subst hji; exact hy.wpOp hi ⟨.inr (Keep.refl w), H⟩
    · have := ready_mono hj hji
      rw [H.1] at this
      cases this
  | succ fuel ih =>
    intro listed a w hfree hS hr hy H
    refine ⟨fun h => (by rw [h] at hr; cases hr), fun j hj => ?_⟩
    by_cases hji : j = i
    · subst hji; exact hy.wpOp hi ⟨.inr (Keep.refl w), H⟩
    · have h1 := H.2 j (ready_mono hj hji)
      obtain ⟨hjun, oj, hoj, hall⟩ := mem_ready.1 hj
      have notOn : ∀ k, listed.getD k true = false → ∀ e ∈ oj.after, Region.binds .any e = true → e.on ≠ k := fun k h0 e he hb heq => by
        have h1 := hall e he hb
        rw [heq] at h1
        rcases Nat.lt_or_ge k listed.size with h' | h'
        · simp [h'] at h0 h1; rw [h0] at h1; cases h1
        · simp [Array.getElem?_eq_none h'] at h1
      have hjS : j ∉ S := fun hjS => by
        obtain ⟨_, ok, e, hok, he, hb, hon⟩ := hS j hjS
        rw [hoj] at hok
        cases hok
        rcases hon with hon | hon
        · exact notOn i (mem_ready.1 hr).1 e he hb hon
        · exact notOn e.on (hS _ hon).1 e he hb rfl
      have hap := hfree j oj hoj hji hjun hjS
      have h2 := wpOp_putM hoj hap (fun cs b => hsel i oi cs b hi) (fun cs b => hsel j oj cs b hoj) hQ hy h1
      have hfree' : ∀ k ok, ops[k]? = some ok → k ≠ i → (listed.setIfInBounds j true).getD k true = false → k ∉ S → oi.apart ops ok = true := fun k ok hk hki hun hno => by
        refine hfree k ok hk hki ?_ hno
        by_cases hjk : j = k
        · subst hjk; exact hjun
        · rw [getD_set_ne true hjk] at hun; exact hun
      have hS' : ∀ k, k ∈ S → (listed.setIfInBounds j true).getD k true = false ∧ ∃ oj e, ops[k]? = some oj ∧ e ∈ oj.after ∧ Region.binds .any e = true ∧ (e.on = i ∨ e.on ∈ S) := fun k hk => by
        obtain ⟨q1, q2⟩ := hS k hk
        have hjk : j ≠ k := fun e => hjS (e ▸ hk)
        exact ⟨by rw [getD_set_ne true hjk]; exact q1, q2⟩
      refine wpOp_mono (fun a' w' h3 => ?_) h2
      obtain ⟨g1, g2, g3⟩ := h3
      refine ⟨g2, ih (listed.setIfInBounds j true) a' w' hfree' hS' (ready_mono hr (Ne.symm hji)) g1 ?_⟩
      rw [Array.setIfInBounds_comm _ _ hji]
      exact g3

def freeM (ops : Array Oper) (listed : Array Bool) (i : Nat) (S : List Nat) : Bool :=
  match ops[i]? with
  | none => false
  | some oi => kindM oi.op && (List.range ops.size).all fun j => match ops[j]? with
    | none => true
    | some oj => j == i || listed.getD j true || S.contains j || oi.apart ops oj
def freeZ (ops : Array Oper) (listed : Array Bool) (i : Nat) : Bool := freeT ops listed i || freeM ops listed i (blkd ops listed i (List.range ops.size) [])

theorem free_firstZ {i : Nat} {oi : Oper} {v : Value} (hi : ops[i]? = some oi) (hsel : ∀ (j : Nat) (o : Oper) cs b, ops[j]? = some o → o.op ≠ .select cs b)
    (hQ : ∀ c a w, Q (.panic c) (a.put oi.dst v) w → Q (.panic c) a w) (fuel : Nat) (listed : Array Bool) (a : Act) (w : World) (h : freeZ ops listed i = true) (hr : i ∈ Region.ready .any ops listed) (hy : YieldsK P ops w oi v a)
    (H : wpAnyT P ops Q fuel (listed.setIfInBounds i true) (a.put oi.dst v) w) : wpAnyT P ops Q (fuel + 1) listed a w := by
  unfold freeZ at h
  rw [Bool.or_eq_true] at h
  rcases h with h | h
  · exact free_first hi hsel hQ fuel listed a w h hr hy H
  · generalize hS : blkd ops listed i (List.range ops.size) [] = S at h
    have hb := blkd_spec (ops := ops) (listed := listed) (i := i) (List.range ops.size) [] (fun k hk => by cases hk)
    rw [hS] at hb
    unfold freeM at h
    rw [hi] at h
    simp only [Bool.and_eq_true] at h
    refine wpAnyT_firstM S hi hsel hQ fuel listed a w (fun j oj hj hji hun hno => ?_) hb hr (hy.toM h.1) H
    have hlt : j < ops.size := (Array.getElem?_eq_some_iff.1 hj).1
    have := List.all_eq_true.1 h.2 j (List.mem_range.2 hlt)
    rw [hj] at this
    simp only [Bool.or_eq_true, beq_iff_eq, List.contains_iff_mem] at this
    rcases this with ((h1 | h1) | h1) | h1
    · exact absurd h1 hji
    · rw [hun] at h1; cases h1
    · exact absurd h1 hno
    · exact h1

def preOkM (ops : Array Oper) : List Nat → Array Bool → Bool
  | [], _ => true
  | i :: r, listed =>
    (match ops[i]? with
     | none => false
     | some o => if kindQ o.op then (Region.ready .any ops listed).contains i && freeZ ops listed i else Region.ready .any ops listed == [i]) && preOkM ops r (listed.setIfInBounds i true)

theorem preM_sound {B : Base} {n m : Nat} (hd : dstsOk n ops = true) (hsel : Region.noSelect ops = true) (hQ : ∀ c a w, ¬ Q (.panic c) a w) : ∀ (l : List Nat) (listed : Array Bool) (s : St) (a : Act) (w : World) (E : Env) (F : Nat → Prop) (K : St → Prop), a.tmps.size = n → Sim B s a w E F →
    OpsVC P B.keep ops (l.filterMap (ops[·]?)) s K → preOkM ops l listed = true →
    (∀ a' w' s' E' F', K s' → Sim B s' a' w' E' F' → a'.tmps.size = n → ∀ fuel, m ≤ fuel → wpAnyT P ops Q fuel (setAll l listed) a' w') → ∀ fuel, l.length + m ≤ fuel → wpAnyT P ops Q fuel listed a w
  | [], listed, s, a, w, E, F, K, hn, hs, h, hok, hq, fuel, hf => hq a w s E F h hs hn fuel (by simpa using hf)
  | i :: l, listed, s, a, w, E, F, K, hn, hs, h, hok, hq, 0, hf => by simp at hf
  | i :: l, listed, s, a, w, E, F, K, hn, hs, h, hok, hq, fuel + 1, hf => by
    simp only [preOkM, Bool.and_eq_true] at hok
    obtain ⟨hok, hrest⟩ := hok
    split at hok
    · cases hok
    rename_i o ho
    simp only [List.filterMap_cons, ho, OpsVC] at h
    have ih := fun s a w E F hn hs h => preM_sound hd hsel hQ l (listed.setIfInBounds i true) s a w E F K hn hs h hrest hq fuel (by simp at hf; omega)
    rcases op_sound (Q := Q) hs (fun d hd' => by rw [hn]; exact dstsOk_spec hd ho d hd') h with ⟨v, s', hK, hs', hw⟩ | ⟨hnq, hw⟩
    · have ih' := ih s' _ w E F (by rw [size_put]; exact hn) hs' hK
      have hy : YieldsK P ops w o v a := hw
      split at hok
      · simp only [Bool.and_eq_true] at hok
        exact free_firstZ ho (noSel hsel) (fun c a w hh => absurd hh (hQ c _ w)) fuel listed a w hok.2 (by simpa using hok.1) hy ih'
      · have hr : Region.ready .any ops listed = [i] := by simpa using hok
        refine ⟨(fun h0 => by rw [hr] at h0; cases h0), fun j hj => ?_⟩
        rw [hr] at hj
        simp at hj
        subst hj
        exact hy.wpOp ho ⟨.inr (Keep.refl w), ih'⟩
    · rw [hnq] at hok
      have hr : Region.ready .any ops listed = [i] := by simpa using hok
      refine ⟨(fun h0 => by rw [hr] at h0; cases h0), fun j hj => ?_⟩
      rw [hr] at hj
      simp at hj
      subst hj
      unfold wpOp
      simp only [ho]
      rcases hw with ⟨hw, hwp⟩ | ⟨hw, s', F', hK, hs'⟩
      · rw [hw, if_pos rfl]
        refine .inl (Oper.wp_mono (fun a' w' ⟨hkt, v, s', E', F', ha, hK, hs'⟩ => ?_) hwp)
        subst ha
        exact ⟨by simpa [ho] using hkt, ih s' _ w' E' F' (by rw [size_put]; exact hn) hs' hK⟩
      · rw [hw]
        exact ⟨.inr (Keep.refl w), ih s' _ w E F' (by rw [size_put]; exact hn) hs' hK⟩

theorem awpF_drawM {kp : List Nat} {n : Nat} {s : St} {Q : Exit → St → Prop} {id : Nat} (pre l : List Nat) (d : DT) (hm : P.follows .mixedOrders = true)
    (hc : (Region.noSelect ops && preOkM ops pre (Array.replicate ops.size false) && parSyn ops l && consP ops l (setAll pre (Array.replicate ops.size false)) && parChk ops l l (setAll pre (Array.replicate ops.size false)) false && d.ok ops true (setAll l (setAll pre (Array.replicate ops.size false)))) = true) (hl : Nat.ble (pre.length + (l.length + d.depth)) ops.size = true)
    (h : ∀ K : St → Prop, (∀ t, Q .normal t → K t) → contRun P kp ops (.vc (pre.filterMap (ops[·]?))) s (ParAt P kp ops l d K)) : AWP P kp n (.region id ops true) s Q := by
  intro hok B a w E F h1 h2 h3
  subst h1
  simp only [Bool.and_eq_true] at hc
  obtain ⟨⟨⟨⟨⟨c1, c2⟩, c3⟩, c6⟩, c4⟩, c5⟩ := hc
  have hQ : ∀ c a w, ¬ (fun e a' w' => (∀ ch, e ≠ .panic ch) ∧ e ≠ .outgrown ∧ ∃ s' E' F', Q e s' ∧ Sim B s' a' w' E' F' ∧ a'.tmps.size = n) (.panic c) a w := fun c a w hh => hh.1 c rfl
  refine wp_region_any hm (wpAny_of_T _ _ _ _ (preM_sound (ops := ops) (n := n) (m := l.length + d.depth) hok c1 hQ pre _ s a _ E F _ h2 h3.drew (h _ fun t ht => ht) c2 ?_ _ (Nat.le_of_ble_eq_true hl)))
  rintro a1 w1 s1 E1 F1 ⟨hb1, hb2, hpar⟩ hs1 hn1 fuel hf
  simp only [parSyn, Bool.and_eq_true, decide_eq_true_eq, List.all_eq_true] at c3
  obtain ⟨⟨n1, n2⟩, c3⟩ := c3
  have hsyn : ∀ i, i ∈ l → ∃ o, ops[i]? = some o ∧ o.guard = none ∧ ∀ c, o.op = .call c → valCall c = true := fun i hi => by
    have := c3 i hi
    cases ho : ops[i]? with
    | none => rw [ho] at this; cases this
    | some o =>
      rw [ho] at this
      simp only [Bool.and_eq_true, Option.isNone_iff_eq_none] at this
      refine ⟨o, rfl, this.1, fun c hc => ?_⟩
      have := this.2
      rw [hc] at this
      simp only [Bool.and_eq_true] at this
      exact this.1
  obtain ⟨its, e1, e2, e3, e4⟩ := par_items hsyn l s1 (fun _ h => h) hpar
  have ed : its.map It.d = l.filterMap fun i => (ops[i]?).bind (·.dst) := by
    rw [← e1]
    clear e1 e3 e4 hpar
    induction its with
    | nil => rfl
    | cons x r ih =>
      obtain ⟨o, ho, _, hd, _⟩ := e2 x (by simp)
      rw [List.map_cons, List.map_cons, List.filterMap_cons]
      simp only [ho, Option.bind_some, hd]
      rw [ih fun y hy => e2 y (by simp [hy])]
  have hdep : DepOk ops its := by
    intro it hit o c ho hc t ht y hy
    have := c3 it.i (by rw [← e1]; exact List.mem_map_of_mem hit)
    rw [ho] at this
    simp only [hc, Bool.and_eq_true, List.all_eq_true] at this
    have := this.2.2 _ ht
    simp only [Bool.not_eq_true', List.contains_eq_mem, decide_eq_false_iff_not] at this
    intro e
    refine this ?_
    rw [← ed, ← e]
    exact List.mem_map_of_mem hy
  have hk : ∀ i, i ∈ B.keep → i < s1.heap.length := fun i hi => by
    obtain ⟨e, h1, _⟩ := hs1.rel.keep i hi
    rw [← hs1.rel.hr.len]
    exact (List.getElem?_eq_some_iff.1 h1).1
  have hfl : (its.filter fun it => (fun _ => true) it.i).length = l.length := by
    rw [List.filter_eq_self.2 fun _ _ => rfl, ← e1, List.length_map]
  have := par_sound (P := P) (B := B) (m := d.depth) hok (by rw [e1]; exact n1) (by rw [ed]; exact n2) e2 e3 hb1 hb2 hk hdep _ (by rw [e1]; exact c4) (Q := fun e a' w' => (∀ ch, e ≠ .panic ch) ∧ e ≠ .outgrown ∧ ∃ s' E' F', Q e s' ∧ Sim B s' a' w' E' F' ∧ a'.tmps.size = n)
    (fun a w E F hs hn fuel hf => draw_soundT (ops := ops) (n := n) hok c1 hQ d.depth d (Nat.le_refl _) _ _ a w E F (fun t => Q .normal t) hn hs e4 (by rw [e1]; exact c5) (fun a' w' s' E' F' hK hs hn => ⟨by simp, by simp, s', E', F', hK, hs, hn⟩) fuel hf)
    l.length (fun _ => true) hfl (by rw [show ((its.map It.i).filter fun i => !((fun _ => true) i)) = [] by simp, e1]; exact c6) a1 w1 _ F1 hn1 (stg_start hs1) fuel (by omega)
  rw [show ((its.map It.i).filter fun i => !((fun _ => true) i)) = [] by simp] at this
  exact this

end Go.Aw

namespace Go.Aw
set_option linter.unusedSimpArgs false
set_option linter.unusedVariables false
open Go.RowKit Go.Sort

def encI (x : Int) : List D := [.int .i64 x]
theorem grow_heap (w : World) (os : Array Obj) {k : Nat} (hk : k < w.heap.size) : (grow w os).heap[k]? = w.heap[k]? := by
  simp only [grow]
  rw [Array.getElem?_append_left hk]

end Go.Aw

namespace Go.Aw
set_option linter.unusedSimpArgs false
set_option linter.unusedVariables false
open Go.RowKit Go.Sort Go.Proofs Go.Shelf

theorem awp_fz {P : Program} {kp : List Nat} {n : Nat} {s : St} {Q : Exit → St → Prop} {c : Code} (x : V) (h : AWP P kp n c (s.fz 3 x) Q) : AWP P kp n c s Q := by
  intro hok B a w E F h1 h2 h3
  obtain ⟨F', h4⟩ := fz_sim 3 s x F h3
  exact h hok B a w E F' h1 h2 h4
end Go.Aw

namespace Go.Aw
set_option linter.unusedSimpArgs false
set_option linter.unusedVariables false
open Go.RowKit Go.Sort Go.Proofs Go.Shelf

section
variable {α : Type} (en : α → List Int)
def enV (x : α) : List Value := (en x).map (Value.int .i64)
def enD (x : α) : List D := (en x).map (D.int .i64)
theorem enD_row {l : List α} {row : List D} {k : Nat} (hk : ∀ x, (en x).length = k) (h : row ∈ l.map (enD en)) : row.length = k ∧ row.all D.leaf = true := by
  obtain ⟨x, _, rfl⟩ := List.mem_map.1 h
  refine ⟨by simp [enD, hk], ?_⟩
  rw [List.all_eq_true]
  intro y hy
  obtain ⟨n, _, rfl⟩ := List.mem_map.1 hy
  rfl

theorem ac_sortKat [Inhabited α] {P : Program} {f : FuncId} (hcall : callable P f) (xa : List D) (hxa : dVs (xa.map ofD) = some xa) (k : Nat) (hk : ∀ x, (en x).length = k) (hk0 : 0 < k) (srt : List α → List α) (hlen : ∀ zs, (srt zs).length = zs.length)
    (h1 : ∀ (F : Nat → Prop) (ex : Array Value) (blk off cap : Nat) (zs : List α) (w : World), CR [] F w (xa.map ofD) ex → (∀ b, F b → b < w.heap.size) → ¬ F blk → HoldsK (enV en) k w blk off zs.toArray → blk < w.heap.size → zs.length < 4611686018427387904 →
      Calls P f (#[.slice (some ⟨blk, off, none⟩) zs.length cap] ++ ex) w fun e w' => e = .returned (.tuple #[]) ∧ ∃ n os, w' = grow (putRowK (enV en) k (Sort.ahead w n) blk off (srt zs).toArray) os)
    (h2 : ∀ (F : Nat → Prop) (ex : Array Value) (p : Option Addr) (cap : Nat) (w : World), CR [] F w (xa.map ofD) ex → Calls P f (#[.slice p 0 cap] ++ ex) w fun e w' => e = .returned (.tuple #[]) ∧ w' = w)
    (zs : List α) (hz : zs.length < 4611686018427387904) (id : Nat) (H : List Blk) (kp : List Nat) (hid : H[id]? = some (.data k (zs.map (enD en)))) : AC P f (.ref id 0 zs.length :: xa.map ofD) H kp fun x H' => x = .tup [] ∧ H' = H.set id (.data k ((srt zs).map (enD en))) := by
  refine ⟨hcall, fun w cargs E F hHR hlt hkp hcr => ?_⟩
  obtain ⟨hsz, hv⟩ := hcr
  obtain ⟨c0, ex, rfl⟩ : ∃ c0 ex, cargs = #[c0] ++ ex := by
    obtain ⟨l⟩ := cargs
    cases l with
    | nil => simp at hsz
    | cons a l => exact ⟨a, l.toArray, by simp⟩
  have v0 := hv 0 _ c0 rfl (by rw [Array.getElem?_append_left (by simp)]; rfl)
  have hex : CR [] F w (xa.map ofD) ex := by
    have := dVs_sound (E := E) (E' := []) (F := F) (w := w) (vs := ex.toList) hxa (by simp at hsz; simp; omega) (fun j x v hx hv' => by
      refine hv (j + 1) x v (by simpa using hx) ?_
      rw [Array.getElem?_append_right (by simp)]
      simpa using hv')
    simpa using this
  have start := Rel.start hHR hlt hkp
  have hElen := hHR.len
  obtain ⟨nz, hnz⟩ : ∃ n, zs.length = n := ⟨_, rfl⟩
  rw [hnz] at v0
  have hset : zs = [] → H.set id (.data k ((srt zs).map (enD en))) = H := fun h0 => by
    subst h0
    rw [List.eq_nil_of_length_eq_zero (hlen [])]
    exact List.ext_getElem? fun j => by
      rw [List.getElem?_set]
      by_cases h : id = j
      · subst h; rw [if_pos rfl, hid, if_pos (List.getElem?_eq_some_iff.1 hid).1]
      · rw [if_neg h]
  cases v0 with
  | refv _ k m a hE =>
    have hz0 : zs = [] := List.eq_nil_of_length_eq_zero hnz
    subst hz0
    have hs0 : srt [] = [] := List.eq_nil_of_length_eq_zero (hlen [])
    refine (h2 F ex a 0 w hex).mono ?_
    rintro e w' ⟨rfl, rfl⟩
    exact ⟨_, .tup [], _, E, F, rfl, ⟨rfl, rfl⟩, by rw [hset rfl]; exact start, .tup [] #[] rfl (by simp)⟩
  | ref _ _ _ b k' m a cap n hE hm ha hl hb hc =>
    have hbr := hHR.blk id _ _ hE hid
    obtain ⟨hkk, hn, hrw, h4⟩ := hbr
    obtain ⟨hbl, hbF⟩ := hHR.free id b _ _ hE rfl hid rfl
    rcases h4 with ⟨h5, _⟩ | ⟨b', cs, t, h5, hw, hcs, hcell⟩
    · cases h5
    simp only [Option.some.injEq] at h5
    subst h5
    have hkk : k' = k := hkk
    subst hkk
    obtain rfl : a = some ⟨b, 0, none⟩ := by simpa using ha (.inr rfl)
    subst hnz
    have hget : ∀ j (hj : j < zs.length) i (hi : i < k'), cs[j * k' + i]? = some (.int .i64 ((en zs[j])[i]'(by rw [hk]; exact hi))) := fun j hj i hi => by
      obtain ⟨v, h6, h7⟩ := hcell j (enD en zs[j]) i (.int .i64 ((en zs[j])[i]'(by rw [hk]; exact hi))) (by simp [hj]) (by simp [enD, hk, hi])
      cases h7
      simpa using h6
    have hflat : ∀ (ys : List α) (t : Nat) (ht : t < ys.length * k'), (flatK (enV en) k' ys.toArray)[t]! = .int .i64 ((en (ys[t / k']'(Nat.div_lt_of_lt_mul (by rw [Nat.mul_comm]; exact ht))))[t % k']'(by rw [hk]; exact Nat.mod_lt _ hk0)) := fun ys t ht => by
      have hq : t / k' < ys.length := Nat.div_lt_of_lt_mul (by rw [Nat.mul_comm]; exact ht)
      have hr : t % k' < k' := Nat.mod_lt _ hk0
      rw [get_flatK _ _ _ _ (by simpa using ht)]
      rw [getElem!_pos (ys.toArray) (t / k') (by simpa using hq)]
      rw [getElem!_pos _ (t % k') (by simp [enV, hk, hr])]
      simp [enV]
    have hH : HoldsK (enV en) k' w b 0 zs.toArray := fun j hj => by
      have hj2 : j < zs.length * k' := by simpa using hj
      have hq : j / k' < zs.length := Nat.div_lt_of_lt_mul (by rw [Nat.mul_comm]; exact hj2)
      have hr : j % k' < k' := Nat.mod_lt _ hk0
      have hg := hget (j / k') hq (j % k') hr
      rw [Nat.div_add_mod'] at hg
      refine ⟨?_, ?_⟩
      · rw [Nat.zero_add, hflat zs j hj2]
        simp only [World.cell?, hw]
        simp [hg]
      · rw [Nat.zero_add]
        simp [World.frozen?, hw]
    refine (h1 F ex b 0 cap zs w hex hlt hbF hH hbl hz).mono ?_
    rintro e w' ⟨rfl, q, os, rfl⟩
    have hbl2 : b < (putRowK (enV en) k' (Sort.ahead w q) b 0 (srt zs).toArray).heap.size := by simpa [putRowK] using hbl
    have hw2 : (grow (putRowK (enV en) k' (Sort.ahead w q) b 0 (srt zs).toArray) os).heap[b]? = some (.cells (putCells (fun v => v) 0 (flatK (enV en) k' (srt zs).toArray) cs) t (0, 0)) := by
      rw [grow_heap _ _ hbl2]
      simp only [putRowK, putRow, mapBlock, heap_ahead]
      rw [Array.getElem?_modify, if_pos rfl, hw]
      rfl
    have hoth : ∀ c, c < w.heap.size → c ≠ b → (grow (putRowK (enV en) k' (Sort.ahead w q) b 0 (srt zs).toArray) os).heap[c]? = w.heap[c]? := fun c hc hcb => by
      rw [grow_heap _ _ (by simpa [putRowK] using hc)]
      simp only [putRowK, putRow, mapBlock, heap_ahead]
      rw [Array.getElem?_modify, if_neg (Ne.symm hcb)]
    have hsl := hlen zs
    have hcs2 : zs.length * k' ≤ cs.size := by simpa using hcs
    have hput : ∀ j (hj : j < (srt zs).length) i (hi : i < k'), (putCells (fun v => v) 0 (flatK (enV en) k' (srt zs).toArray) cs)[j * k' + i]? = some (.int .i64 ((en (srt zs)[j])[i]'(by rw [hk]; exact hi))) := fun j hj i hi => by
      have hlt2 : j * k' + i < (srt zs).length * k' := by
        have : (j + 1) * k' ≤ (srt zs).length * k' := Nat.mul_le_mul_right _ hj
        rw [Nat.add_mul, Nat.one_mul] at this
        omega
      have hjc : j * k' + i < cs.size := by rw [hsl] at hlt2; omega
      have hd : (j * k' + i) / k' = j := by rw [Nat.mul_comm, Nat.mul_add_div hk0, Nat.div_eq_of_lt hi, Nat.add_zero]
      have hm : (j * k' + i) % k' = i := by rw [Nat.mul_comm, Nat.mul_add_mod, Nat.mod_eq_of_lt hi]
      have hf := hflat (srt zs) (j * k' + i) hlt2
      simp only [putCells, Array.getElem?_mapIdx, Array.getElem?_eq_getElem hjc, Option.map_some]
      simp only [Nat.zero_le, Nat.sub_zero, size_flatK, List.size_toArray, Nat.zero_add, hlt2, and_self, if_true, true_and]
      rw [hf]
      simp only [hd, hm]
    obtain ⟨evo, hrel⟩ := start.rewritten (w' := grow (putRowK (enV en) k' (Sort.ahead w q) b 0 (srt zs).toArray) os) (i := id) (blk' := .data k' ((srt zs).map (enD en))) hE hid rfl rfl hw hw2 (by simp [putCells]) rfl rfl ⟨rfl, by show w.drawn ≤ w.drawn + q; omega⟩ (by simp [grow, putRowK]) hoth
      ⟨rfl, by simp only [List.length_map] at hn ⊢; rw [hlen]; exact hn, fun i row hi => enD_row en hk (List.mem_of_getElem? hi), .inr ⟨b, _, t, rfl, hw2, by simp only [List.length_map] at hcs ⊢; rw [hlen]; simpa [putCells] using hcs, fun i row j x hi hj => by
        simp only [List.getElem?_map, Option.map_eq_some_iff] at hi
        obtain ⟨z, hz', rfl⟩ := hi
        obtain ⟨hil, rfl⟩ := List.getElem?_eq_some_iff.1 hz'
        have hj1 : j < k' := by
          have := (List.getElem?_eq_some_iff.1 hj).1
          simpa [enD, hk] using this
        have hx : x = .int .i64 ((en (srt zs)[i])[j]'(by rw [hk]; exact hj1)) := by
          have := (List.getElem?_eq_some_iff.1 hj).2
          simpa [enD] using this.symm
        subst hx
        exact ⟨_, hput i hil j hj1, .int _ _⟩⟩⟩
    exact ⟨_, .tup [], _, E, F, rfl, ⟨rfl, rfl⟩, hrel, .tup [] #[] rfl (by simp)⟩

theorem enD_vr (E : Env) (F : Nat → Prop) (w : World) (x : α) : VR E F w (ofD (.agg (enD en x))) (.agg (enV en x).toArray) := by
  refine .agg _ _ (by simp [enV, enD]) fun j y v hy hv => ?_
  simp only [enD, List.map_map, List.getElem?_map, Option.map_eq_some_iff] at hy
  obtain ⟨n, hn, rfl⟩ := hy
  simp only [enV, List.getElem?_toArray, List.getElem?_map, hn, Option.map_some, Option.some.injEq] at hv
  subst hv
  exact .d _ _ (.int _ _)
theorem cmp_laysK [Inhabited α] {P : Program} {g : FuncId} {cf : α → α → Int} (hpd : ∀ x y, PD P g [.agg (enD en x), .agg (enD en y)] (.d (.int .i64 (cf x y)))) {w : World} {blk off size : Nat} (k : Nat) :
    CmpLays P g #[] (enV en) k cf blk off size w := by
  intro m os dk hs x y
  have hc : CR [] (fun _ => False) (sortWorldK (enV en) k w blk off m dk os) ([D.agg (enD en x), D.agg (enD en y)].map ofD) (#[Value.agg (enV en x).toArray, Value.agg (enV en y).toArray] ++ #[]) := by
    refine ⟨by simp, fun j z v hz hv => ?_⟩
    match j with
    | 0 => simp at hz hv; subst hz hv; exact enD_vr en _ _ _ x
    | 1 => simp at hz hv; subst hz hv; exact enD_vr en _ _ _ y
    | j + 2 => simp at hz
  refine (pd_grown (hpd x y) (fun _ h => h.elim) hc).mono ?_
  rintro e W' ⟨⟨v, E', F', rfl, hv⟩, hg⟩
  refine ⟨?_, hg⟩
  cases hv with
  | d _ _ hv => cases hv; rfl
end
end Go.Aw

namespace Go.Aw
set_option linter.unusedSimpArgs false
set_option linter.unusedVariables false
open Go.RowKit Go.Sort Go.Proofs Go.Shelf

def RowV (F : Nat → Prop) (w : World) (k : Nat) (good : List D → Prop) : Type :=
  { p : List D × List Value // p.1.length = k ∧ p.2.length = k ∧ good p.1 ∧ (∀ v ∈ p.2, v.oneCell' = true) ∧ ∀ (j : Nat) (x : D) (v : Value), p.1[j]? = some x → p.2[j]? = some v → RD F w x v }

theorem sw_heap {α : Type} [Inhabited α] {enc : α → List Value} {k : Nat} {w : World} {blk off m : Nat} {dk : Array α} {os : Array Obj} {c : Nat} (hc : c < w.heap.size) (hcb : c ≠ blk) : (sortWorldK enc k w blk off m dk os).heap[c]? = w.heap[c]? := by
  unfold sortWorldK
  rw [grow_heap _ _ (by simpa [putRowK] using hc)]
  simp only [putRowK, putRow, mapBlock, heap_ahead]
  rw [Array.getElem?_modify, if_neg (Ne.symm hcb)]
theorem sw_size {α : Type} [Inhabited α] {enc : α → List Value} {k : Nat} {w : World} {blk off m : Nat} {dk : Array α} {os : Array Obj} : w.heap.size ≤ (sortWorldK enc k w blk off m dk os).heap.size := by
  unfold sortWorldK
  simp [grow, putRowK]

theorem ac_sortD {P : Program} {f g : FuncId} {ρ : Go.Shelf.Ren} (hcall : callable P f) (L : SlLaysF0.n6 P ρ) (hf : ρ.f 6 = f) (k : Nat) (hk0 : 0 < k)
    (aE : ∀ w, (isAgg (ρ.t 24)).run P w = .ok true w) (zE : ∀ w, (Go.sizeOf (ρ.t 24)).run P w = .ok k w) (eg : ∀ args w, (callFunc g args).run P w = .ok (.enter g args) w)
    (good : List D → Prop) (key : List D → Int) (cf : List D → List D → Int) (hcf : ∀ x y, good x → good y → (cf x y < 0 ↔ key x < key y))
    (hpd : ∀ x y, good x → good y → PD P g [.agg x, .agg y] (.d (.int .i64 (cf x y))))
    (rows : List (List D)) (hg : ∀ r, r ∈ rows → good r) (hz : rows.length < 4611686018427387904) :
    AC P f [.ref 0 0 rows.length, .d (.fn (.func g) [])] [.data k rows] [0] fun x H => x = .tup [] ∧ ∃ rows' : List (List D), rows'.Perm rows ∧ (rows'.Pairwise fun a b => key a ≤ key b) ∧ H = [.data k rows'] := by
  subst hf
  refine ⟨hcall, fun w cargs E F hHR hlt hkp hcr => ?_⟩
  obtain ⟨hsz, hv⟩ := hcr
  obtain ⟨c0, c1, rfl⟩ : ∃ c0 c1, cargs = #[c0, c1] := by
    obtain ⟨l⟩ := cargs
    match l, hsz with
    | [a, b], _ => exact ⟨a, b, rfl⟩
  have v0 := hv 0 _ c0 rfl rfl
  have v1 := hv 1 _ c1 rfl rfl
  obtain rfl : c1 = .func (.func g) #[] #[] := by
    cases v1 with
    | d _ _ h =>
      cases h with
      | fn _ _ cs hs _ =>
        obtain rfl : cs = #[] := Array.size_eq_zero_iff.1 hs
        rfl
  have start := Rel.start hHR hlt hkp
  have hElen := hHR.len
  simp only [List.length_cons, List.length_nil] at hElen
  obtain ⟨nz, hnz⟩ : ∃ n, rows.length = n := ⟨_, rfl⟩
  rw [hnz] at v0
  cases v0 with
  | refv _ k m a hE =>
    obtain rfl : rows = [] := List.eq_nil_of_length_eq_zero hnz
    refine (AnyF.slices_SortFunc_none L a 0 (.func (.func g) #[] #[]) w).mono ?_
    rintro e w' ⟨rfl, rfl⟩
    exact ⟨_, .tup [], _, E, F, rfl, ⟨rfl, [], .refl _, .nil, rfl⟩, start, .tup [] #[] rfl (by simp)⟩
  | ref _ _ _ b k' m a cap n hE hm ha hl hb hc =>
    by_cases hr0 : rows = []
    · subst hr0
      obtain rfl : nz = 0 := hnz.symm
      refine (AnyF.slices_SortFunc_none L a cap (.func (.func g) #[] #[]) w).mono ?_
      rintro e w' ⟨rfl, rfl⟩
      exact ⟨_, .tup [], _, E, F, rfl, ⟨rfl, [], .refl _, .nil, rfl⟩, start, .tup [] #[] rfl (by simp)⟩
    have hbr := hHR.blk 0 _ _ hE rfl
    obtain ⟨hkk, hn, hrw, h4⟩ := hbr
    obtain ⟨hbl, hbF⟩ := hHR.free 0 b _ _ hE rfl rfl rfl
    rcases h4 with ⟨h5, _⟩ | ⟨b', cs, t, h5, hw, hcs, hcell⟩
    · cases h5
    simp only [Option.some.injEq] at h5
    subst h5
    have hkk : k' = k := hkk
    subst hkk
    obtain rfl : a = some ⟨b, 0, none⟩ := by simpa using ha (.inr rfl)
    subst hnz
    -- the elements
    have elx : ∀ i (hi : i < rows.length), ∃ vs : List Value, vs.length = k' ∧ (∀ j, j < k' → cs[i * k' + j]? = vs[j]?) ∧ (∀ v ∈ vs, v.oneCell' = true) ∧ ∀ (j : Nat) (x : D) (v : Value), (rows[i])[j]? = some x → vs[j]? = some v → RD F w x v := fun i hi => by
      obtain ⟨hrl, hlf⟩ := hrw i rows[i] (List.getElem?_eq_getElem hi)
      have hex : ∀ j, j < k' → ∃ v, cs[i * k' + j]? = some v ∧ v.oneCell' = true ∧ ∀ x, (rows[i])[j]? = some x → RD F w x v := fun j hj => by
        obtain ⟨v, h6, h7⟩ := hcell i rows[i] j _ (List.getElem?_eq_getElem hi) (List.getElem?_eq_getElem (by omega : j < (rows[i]).length))
        have hlfj : D.leaf ((rows[i])[j]'(by omega)) = true := (List.all_eq_true.1 hlf) _ (List.getElem_mem _)
        refine ⟨v, by simpa using h6, ?_, fun x hx => ?_⟩
        · revert h7 hlfj
          generalize (rows[i])[j]'(by omega) = y
          intro h7 hlfj
          cases h7 <;> first | rfl | (simp [D.leaf] at hlfj)
        · obtain ⟨_, rfl⟩ := List.getElem?_eq_some_iff.1 hx
          exact h7
      refine ⟨(List.range k').map fun j => (cs[i * k' + j]?).getD undef, by simp, fun j hj => ?_, fun v hv => ?_, fun j x v hx hv => ?_⟩
      · obtain ⟨v, h6, _⟩ := hex j hj
        rw [List.getElem?_map, List.getElem?_range hj, Option.map_some, h6]; rfl
      · obtain ⟨j, hj, rfl⟩ := List.mem_map.1 hv
        obtain ⟨v, h6, h7, _⟩ := hex j (List.mem_range.1 hj)
        rw [h6]; exact h7
      · have hj : j < k' := by have := (List.getElem?_eq_some_iff.1 hx).1; omega
        obtain ⟨u, h6, _, h8⟩ := hex j hj
        rw [List.getElem?_map, List.getElem?_range hj, Option.map_some, h6] at hv
        obtain rfl : u = v := by simpa using hv
        exact h8 x hx
    have els : ∃ L : List (RowV F w k' good), L.length = rows.length ∧ (∀ i (hi : i < rows.length) (hi2 : i < L.length), L[i].1.1 = rows[i] ∧ ∀ j, j < k' → cs[i * k' + j]? = L[i].1.2[j]?) := by
      have key : ∀ m (hm : m ≤ rows.length), ∃ L : List (RowV F w k' good), L.length = m ∧ (∀ i (hi : i < m) (hi2 : i < L.length), L[i].1.1 = rows[i]'(by omega) ∧ ∀ j, j < k' → cs[i * k' + j]? = L[i].1.2[j]?) := fun m => by
        induction m with
        | zero => exact fun _ => ⟨[], rfl, fun i hi => absurd hi (Nat.not_lt_zero _)⟩
        | succ m ih =>
          intro hm
          obtain ⟨L, h1, h2⟩ := ih (by omega)
          obtain ⟨vs, q1, q2, q3, q4⟩ := elx m (by omega)
          refine ⟨L ++ [⟨(rows[m], vs), (hrw m rows[m] (List.getElem?_eq_getElem (by omega))).1, q1, hg _ (List.getElem_mem _), q3, q4⟩], by rw [List.length_append, h1]; rfl, fun i hi hi2 => ?_⟩
          rcases Nat.lt_or_ge i m with h3 | h3
          · rw [List.getElem_append_left (by omega)]
            exact h2 i h3 (by omega)
          · obtain rfl : i = m := by omega
            rw [List.getElem_append_right (by omega)]
            simp only [h1, Nat.sub_self, List.getElem_cons_zero]
            exact ⟨rfl, q2⟩
      exact key rows.length (Nat.le_refl _)
    obtain ⟨els, hel, hels⟩ := els
    have hrpos : 0 < rows.length := List.length_pos_iff.2 hr0
    haveI : Inhabited (RowV F w k' good) := ⟨els[0]'(by omega)⟩
    have henl : ∀ p : RowV F w k' good, p.1.2.length = k' := fun p => p.2.2.1
    have hflat : ∀ (ys : List (RowV F w k' good)) (t : Nat) (ht : t < ys.length * k'), (flatK (fun p : RowV F w k' good => p.1.2) k' ys.toArray)[t]! = (ys[t / k']'(Nat.div_lt_of_lt_mul (by rw [Nat.mul_comm]; exact ht))).1.2[t % k']'(by rw [henl]; exact Nat.mod_lt _ hk0) := fun ys t ht => by
      have hq : t / k' < ys.length := Nat.div_lt_of_lt_mul (by rw [Nat.mul_comm]; exact ht)
      have hr : t % k' < k' := Nat.mod_lt _ hk0
      rw [get_flatK _ _ _ _ (by simpa using ht)]
      rw [getElem!_pos (ys.toArray) (t / k') (by simpa using hq)]
      rw [getElem!_pos _ (t % k') (by simp [henl, hr])]
      simp
    have hH : HoldsK (fun p : RowV F w k' good => p.1.2) k' w b 0 els.toArray := fun j hj => by
      have hj2 : j < els.length * k' := by simpa using hj
      have hq : j / k' < els.length := Nat.div_lt_of_lt_mul (by rw [Nat.mul_comm]; exact hj2)
      have hr : j % k' < k' := Nat.mod_lt _ hk0
      have hgt := (hels (j / k') (by omega) hq).2 (j % k') hr
      rw [Nat.div_add_mod', List.getElem?_eq_getElem (by rw [henl]; exact hr)] at hgt
      refine ⟨?_, ?_⟩
      · rw [Nat.zero_add, hflat els j hj2]
        simp only [World.cell?, hw]
        simp [hgt]
      · rw [Nat.zero_add]
        simp [World.frozen?, hw]
    have hlto : ∀ x y : RowV F w k' good, ltOf (fun x y : RowV F w k' good => cf x.1.1 y.1.1) x y = decide (key x.1.1 < key y.1.1) := fun x y => by
      simp only [ltOf, hcf _ _ x.2.2.2.1 y.2.2.2.1]
    have hO : SWO (ltOf (fun x y : RowV F w k' good => cf x.1.1 y.1.1)) :=
      ⟨fun x => by rw [hlto]; simp, fun x y z h1 h2 => by rw [hlto] at *; simp only [decide_eq_true_eq] at *; omega, fun x y z h1 h2 => by rw [hlto] at *; simp only [decide_eq_false_iff_not] at *; omega⟩
    have hcmp : CmpLays P g #[] (fun p : RowV F w k' good => p.1.2) k' (fun x y => cf x.1.1 y.1.1) b 0 els.toArray.size w := by
      intro m os dk hs x y
      have hsame : ∀ c, F c → (sortWorldK (fun p : RowV F w k' good => p.1.2) k' w b 0 m dk os).heap[c]? = w.heap[c]? := fun c hc => sw_heap (hlt c hc) (fun e => hbF (e ▸ hc))
      have hrd : ∀ (z : RowV F w k' good), VR [] F (sortWorldK (fun p : RowV F w k' good => p.1.2) k' w b 0 m dk os) (ofD (.agg z.1.1)) (.agg z.1.2.toArray) := fun z => by
        refine .agg _ _ (by simp [z.2.1, z.2.2.1]) fun j y v hy hv => ?_
        simp only [List.getElem?_map, Option.map_eq_some_iff] at hy
        obtain ⟨d, hd, rfl⟩ := hy
        exact .d _ _ ((z.2.2.2.2.2 j d v hd (by simpa using hv)).evo (fun _ h => h) hsame)
      have hc : CR [] F (sortWorldK (fun p : RowV F w k' good => p.1.2) k' w b 0 m dk os) ([D.agg x.1.1, D.agg y.1.1].map ofD) (#[Value.agg x.1.2.toArray, Value.agg y.1.2.toArray] ++ #[]) := by
        refine ⟨by simp, fun j z v hz hv => ?_⟩
        match j with
        | 0 => simp at hz hv; subst hz hv; exact hrd x
        | 1 => simp at hz hv; subst hz hv; exact hrd y
        | j + 2 => simp at hz
      refine (pd_grown (hpd _ _ x.2.2.2.1 y.2.2.2.1) (fun c hc => Nat.lt_of_lt_of_le (hlt c hc) sw_size) hc).mono ?_
      rintro e W' ⟨⟨v, E', F', rfl, hv⟩, hg⟩
      refine ⟨?_, hg⟩
      cases hv with
      | d _ _ hv => cases hv; rfl
    have hres := AnyQ.slices_SortFunc L k' aE zE (fun p : RowV F w k' good => p.1.2) henl (fun p => p.2.2.2.2.1) (fun x y => cf x.1.1 y.1.1) hO g #[] b 0 cap els.toArray w eg hcmp hH hbl (by simpa [hel] using hz)
    rw [show els.toArray.size = rows.length by simpa using hel] at hres
    refine hres.mono ?_
    rintro e w' ⟨rfl, d', q, os, hP, hS, rfl⟩
    obtain ⟨hds, _, hperm⟩ := hP
    have hdn : d'.size = rows.length := by rw [hds]; simpa using hel
    have hperm : d'.toList.Perm els := by
      rw [show d'.extract 0 rows.length = d' by rw [← hdn]; exact Array.extract_size, show els.toArray.extract 0 rows.length = els.toArray by rw [← hel]; exact Array.extract_size] at hperm
      exact hperm
    have hrowsE : els.map (fun p => p.1.1) = rows := List.ext_getElem (by simp [hel]) fun i h1 h2 => by
      rw [List.getElem_map]
      exact (hels i h2 (by omega)).1
    obtain ⟨R, hR⟩ : ∃ R, R = d'.toList.map fun p : RowV F w k' good => p.1.1 := ⟨_, rfl⟩
    have hRp : R.Perm rows := by rw [hR, ← hrowsE]; exact hperm.map _
    have hRl : R.length = rows.length := hRp.length_eq
    have hRs : R.Pairwise fun a b => key a ≤ key b := by
      rw [hR, List.pairwise_map, List.pairwise_iff_getElem]
      intro i j hi hj hij
      have hi' : i < d'.size := by simpa using hi
      have hj' : j < d'.size := by simpa using hj
      have := hS i j (Nat.zero_le _) hij (by omega)
      rw [getElem!_pos d' j hj', getElem!_pos d' i hi', hlto, decide_eq_false_iff_not] at this
      simp only [Array.getElem_toList]
      omega
    have hbl2 : b < (putRowK (fun p : RowV F w k' good => p.1.2) k' (Sort.ahead w q) b 0 d').heap.size := by simpa [putRowK] using hbl
    have hw2 : (sortWorldK (fun p : RowV F w k' good => p.1.2) k' w b 0 q d' os).heap[b]? = some (.cells (putCells id 0 (flatK (fun p : RowV F w k' good => p.1.2) k' d') cs) t (0, 0)) := by
      unfold sortWorldK
      rw [grow_heap _ _ hbl2]
      simp only [putRowK, putRow, mapBlock, heap_ahead]
      rw [Array.getElem?_modify, if_pos rfl, hw]
      rfl
    have hcs2 : rows.length * k' ≤ cs.size := by simpa using hcs
    have hput : ∀ i (hi : i < d'.size) j (hj : j < k'), (putCells id 0 (flatK (fun p : RowV F w k' good => p.1.2) k' d') cs)[i * k' + j]? = (d'[i]).1.2[j]? := fun i hi j hj => by
      have hlt2 : i * k' + j < d'.size * k' := by
        have : (i + 1) * k' ≤ d'.size * k' := Nat.mul_le_mul_right _ hi
        rw [Nat.add_mul, Nat.one_mul] at this
        omega
      have hjc : i * k' + j < cs.size := by rw [hdn] at hlt2; omega
      have hd : (i * k' + j) / k' = i := by rw [Nat.mul_comm, Nat.mul_add_div hk0, Nat.div_eq_of_lt hj, Nat.add_zero]
      have hm : (i * k' + j) % k' = j := by rw [Nat.mul_comm, Nat.mul_add_mod, Nat.mod_eq_of_lt hj]
      have hf := hflat d'.toList (i * k' + j) (by simpa using hlt2)
      simp only [Array.toArray_toList] at hf
      simp only [putCells, Array.getElem?_mapIdx, Array.getElem?_eq_getElem hjc, Option.map_some]
      simp only [Nat.zero_le, Nat.sub_zero, size_flatK, Nat.zero_add, hlt2, and_self, if_true, true_and, id]
      rw [hf, List.getElem?_eq_getElem (by rw [henl]; exact hj)]
      simp only [hd, hm, Array.getElem_toList]
    have hFsame : ∀ c, F c → (sortWorldK (fun p : RowV F w k' good => p.1.2) k' w b 0 q d' os).heap[c]? = w.heap[c]? := fun c hc => sw_heap (hlt c hc) (fun e => hbF (e ▸ hc))
    obtain ⟨evo, hrel⟩ := start.rewritten (w' := sortWorldK (fun p : RowV F w k' good => p.1.2) k' w b 0 q d' os) (i := 0) (blk' := .data k' R) hE rfl rfl rfl hw hw2 (by simp [putCells]) rfl rfl ⟨rfl, by show w.drawn ≤ w.drawn + q; omega⟩ sw_size (fun c hc hcb => sw_heap hc hcb)
      ⟨rfl, by rw [hRl]; exact hn, fun i row hi => by
          have := hRp.mem_iff.1 (List.mem_of_getElem? hi)
          obtain ⟨j, hj, rfl⟩ := List.getElem_of_mem this
          exact hrw j _ (List.getElem?_eq_getElem hj), .inr ⟨b, _, t, rfl, hw2, by rw [hRl]; simpa [putCells] using hcs, fun i row j x hi hj => by
        rw [hR, List.getElem?_map, Option.map_eq_some_iff] at hi
        obtain ⟨z, hz', rfl⟩ := hi
        obtain ⟨hil, rfl⟩ := List.getElem?_eq_some_iff.1 hz'
        have hil' : i < d'.size := by simpa using hil
        have hz2 : (d'.toList[i]'hil) = d'[i] := by simp
        rw [hz2] at hj
        have hj1 : j < k' := by
          have := (List.getElem?_eq_some_iff.1 hj).1
          rw [(d'[i]).2.1] at this
          exact this
        obtain ⟨v, hv⟩ : ∃ v, (d'[i]).1.2[j]? = some v := ⟨_, List.getElem?_eq_getElem (show j < (d'[i]).1.2.length by rw [henl (d'[i])]; exact hj1)⟩
        exact ⟨v, by rw [← hv, ← hput i hil' j hj1], ((d'[i]).2.2.2.2.2 j x v hj hv).evo (fun _ h => h) hFsame⟩⟩⟩
    exact ⟨_, .tup [], _, E, F, rfl, ⟨rfl, R, hRp, hRs, rfl⟩, hrel, .tup [] #[] rfl (by simp)⟩
end Go.Aw

namespace Go.Aw
set_option linter.unusedSimpArgs false
set_option linter.unusedVariables false
open Go.RowKit

theorem rng_getD {n i : Nat} (h : i < n) : (List.range n).getD i 0 = i := by
  rw [List.getD_eq_getElem?_getD, List.getElem?_range h]; rfl
mutual
theorem ren_idV (n : Nat) : ∀ (x : V), V.bel n x = true → V.ren (List.range n) x = x
  | .d _, _ => rfl
  | .agg xs, h => by simp only [V.ren]; rw [ren_idL n xs (by simpa [V.bel] using h)]
  | .tup xs, h => by simp only [V.ren]; rw [ren_idL n xs (by simpa [V.bel] using h)]
  | .ptr id _ _, h => by simp only [V.ren]; rw [rng_getD (by simpa [V.bel] using h)]
  | .ref id _ _, h => by simp only [V.ren]; rw [rng_getD (by simpa [V.bel] using h)]
  | .nil, _ => rfl
  | .fn _ xs, h => by simp only [V.ren]; rw [ren_idL n xs (by simpa [V.bel] using h)]
  | .map id, h => by simp only [V.ren]; rw [rng_getD (by simpa [V.bel] using h)]
  | .iface _ x, h => by simp only [V.ren]; rw [ren_idV n x (by simpa [V.bel] using h)]
  | .opt _ x, h => by simp only [V.ren]; rw [ren_idV n x (by simpa [V.bel] using h)]
  | .junk, _ => rfl
theorem ren_idL (n : Nat) : ∀ (xs : List V), V.belL n xs = true → V.renL (List.range n) xs = xs
  | [], _ => rfl
  | x :: xs, h => by
    simp only [V.belL, Bool.and_eq_true] at h
    simp only [V.renL]
    rw [ren_idV n x h.1, ren_idL n xs h.2]
end
theorem ren_idB (n : Nat) (b : Blk) (h : Blk.bel n b = true) : Blk.ren (List.range n) b = b := by
  cases b with
  | cells xs => simp only [Blk.ren]; rw [ren_idL n xs (by simpa [Blk.bel] using h)]
  | vrs k rs =>
    simp only [Blk.ren]
    congr 1
    rw [List.map_congr_left (g := id), List.map_id]
    intro r hr
    simp only [Blk.bel, List.all_eq_true] at h
    exact ren_idL n r (h r hr)
  | mp es =>
    simp only [Blk.ren]
    congr 1
    rw [List.map_congr_left (g := id), List.map_id]
    intro p hp
    simp only [Blk.bel, List.all_eq_true, Bool.and_eq_true] at h
    obtain ⟨h1, h2⟩ := h p hp
    simp only [ren_idV n _ h1, ren_idV n _ h2, id]
  | it x seen m => simp only [Blk.ren]; rw [ren_idV n x (by simpa [Blk.bel] using h)]
  | _ => rfl
theorem ren_idT (n : Nat) : ∀ (l : List (Nat × V)), belTm n l = true → renTm (List.range n) l = l
  | [], _ => rfl
  | (i, x) :: l, h => by
    simp only [belTm, Bool.and_eq_true] at h
    simp only [renTm]
    rw [ren_idV n x h.1, ren_idT n l h.2]
theorem ren_keep {H X : List Blk} {tm tm' : List (Nat × V)} (hb : ∀ b, b ∈ H → Blk.bel H.length b = true) (bt : belTm H.length tm' = true) (ht : subTm tm' tm) : Ren [] (List.range H.length) ⟨tm', H⟩ ⟨tm, H ++ X⟩ := by
  refine ren_of List.nodup_range (by simp) (fun j b hj => ?_) ?_ (by simpa using bt) (by simpa using hb)
  · have hlt := (List.getElem?_eq_some_iff.1 hj).1
    refine ⟨j, List.getElem?_range hlt, ?_⟩
    rw [ren_idB _ b (hb b (List.mem_of_getElem? hj))]
    show (H ++ X)[j]? = some b
    rw [List.getElem?_append_left hlt]
    exact hj
  · show subTm (renTm (List.range H.length) tm') tm
    rw [ren_idT _ _ bt]
    exact ht
end Go.Aw
