/-
  Regions in which several operations are shown by hand. Over any program; no condition.
-/
import Derived.Test.YtecindhbaekncaaGreatPxAwIv
namespace Go.Aw
set_option linter.unusedSimpArgs false
set_option linter.unusedVariables false
open Go.RowKit

variable {P : Program}

def From (P : Program) (kp : List Nat) (ops : Array Oper) (k : Nat) (s : St) (K : St → Prop) : Prop :=
  ∀ (n : Nat), dstsOk n ops = true → ∀ (B : Base) (a : Act) (w : World) (E : Env) (F : Nat → Prop) (Q : Exit → Act → World → Prop), B.keep = kp → a.tmps.size = n → Sim B s a w E F →
    (∀ a' w' s' E' F', K s' → Sim B s' a' w' E' F' → a'.tmps.size = n → Q .normal a' w') → wpOps P ops Q (List.range' k (ops.size - k)) a w

theorem from_end {kp : List Nat} {ops : Array Oper} {k : Nat} {s : St} {K : St → Prop} (h : contRun P kp ops (.vc (ops.toList.drop k)) s K) : From P kp ops k s K := by
  intro n hok B a w E F Q h1 hn hs hq
  subst h1
  have hl : ((ops.toList.drop k).zipIdx k).map (·.2) = List.range' k (ops.size - k) := by
    rw [List.zipIdx_map_snd, List.length_drop, Array.length_toList]
  have hm : ∀ p : Oper × Nat, p ∈ (ops.toList.drop k).zipIdx k → ops[p.2]? = some p.1 := fun ⟨x, j⟩ hp => by
    obtain ⟨q1, q2⟩ := List.mk_mem_zipIdx_iff_le_and_getElem?_sub.1 hp
    rw [List.getElem?_drop, show k + (j - k) = j by omega] at q2
    simpa using q2
  rw [← hl]
  have := opsC_sound (P := P) (Q := Q) (n := n) hok [] ((ops.toList.drop k).zipIdx k) s a w E F K hn hs (by rw [List.zipIdx_map_fst]; exact h) hm fun a' w' s' E' F' q1 q2 q3 => hq a' w' s' E' F' q1 q2 q3
  simpa using this
theorem from_X {kp : List Nat} {ops : Array Oper} {k : Nat} {s : St} {K : St → Prop} (i : Nat) {o : Oper} (ho : ops.toList[i]? = some o) (hki : Nat.ble k i = true)
    (h : contRun P kp ops (.vc ((ops.toList.take i).drop k)) s fun t => OpX2 P kp ops o t fun u => From P kp ops (i + 1) u K) : From P kp ops k s K := by
  intro n hok B a w E F Q h1 hn hs hq
  subst h1
  have hki := Nat.le_of_ble_eq_true hki
  have hi : i < ops.size := by have := (List.getElem?_eq_some_iff.1 ho).1; simpa using this
  have hoi : ops[i]? = some o := by simpa using ho
  have hl : (((ops.toList.take i).drop k).zipIdx k).map (·.2) = List.range' k (i - k) := by
    rw [List.zipIdx_map_snd, List.length_drop, List.length_take, Array.length_toList]
    congr 1
    omega
  have hm : ∀ p : Oper × Nat, p ∈ ((ops.toList.take i).drop k).zipIdx k → ops[p.2]? = some p.1 := fun ⟨x, j⟩ hp => by
    obtain ⟨q1, q2⟩ := List.mk_mem_zipIdx_iff_le_and_getElem?_sub.1 hp
    rw [List.getElem?_drop, show k + (j - k) = j by omega, List.getElem?_take] at q2
    split at q2
    · simpa using q2
    · cases q2
  have hr : List.range' k (ops.size - k) = List.range' k (i - k) ++ i :: List.range' (i + 1) (ops.size - (i + 1)) := by
    have e1 := List.range'_append_1 (s := k) (m := i - k) (n := ops.size - i)
    rw [show k + (i - k) = i by omega, show i - k + (ops.size - i) = ops.size - k by omega] at e1
    rw [← e1]
    congr 1
    obtain ⟨m, hm⟩ : ∃ m, ops.size - i = m + 1 := ⟨ops.size - i - 1, by omega⟩
    rw [hm, List.range'_succ, show ops.size - (i + 1) = m by omega]
  rw [hr, ← hl]
  refine opsC_sound (n := n) hok _ _ s a w E F (fun t => OpX2 P B.keep ops o t fun u => From P B.keep ops (i + 1) u K) hn hs (by rw [List.zipIdx_map_fst]; exact h) hm ?_
  intro a1 w1 s1 E1 F1 hK hs1 hn1
  have hdd : ∀ d, o.dst = some d → d < a1.tmps.size := fun d hd' => by rw [hn1]; exact dstsOk_spec hok hoi d hd'
  simp only [wpOps, hoi]
  rcases hK B a1 w1 E1 F1 _ rfl hs1 hdd with ⟨hw, hwp⟩ | ⟨hw, s', hK', hs'⟩
  · rw [hw, if_pos rfl]
    exact .inl (Oper.wp_mono (fun a2 w2 ⟨v, s2, E2, F2, ha, hK2, hs2⟩ => by subst ha; exact hK2 n hok B _ w2 E2 F2 Q rfl (by rw [size_put]; exact hn1) hs2 hq) hwp)
  · rw [hw]
    exact hK' n hok B _ w1 E1 F1 Q rfl (by rw [size_put]; exact hn1) hs' hq
theorem awp_regionF {kp : List Nat} {n : Nat} {s : St} {Q : Exit → St → Prop} {id : Nat} {ops : Array Oper} (h : ∀ K : St → Prop, (∀ t, Q .normal t → K t) → From P kp ops 0 s K) : AWP P kp n (.region id ops false) s Q := by
  intro hok B a w E F h1 h2 h3
  refine wp_region ?_
  have := h (fun t => Q .normal t) (fun t ht => ht) n hok B a w E F (fun e a' w' => (∀ ch, e ≠ .panic ch) ∧ e ≠ .outgrown ∧ ∃ s' E' F', Q e s' ∧ Sim B s' a' w' E' F' ∧ a'.tmps.size = n) h1 h2 h3
    fun a' w' s' E' F' q1 q2 q3 => ⟨by simp, by simp, s', E', F', q1, q2, q3⟩
  rwa [List.range_eq_range']
theorem call_X {kp : List Nat} {ops : Array Oper} {s : St} {K : St → Prop} {args : Array Operand} {ats : Array TypeId} {d : Option Tmp} {ty : TypeId} {ps : String} {af : Array Edge} {f : FuncId} {R : V → List Blk → Prop}
    (hst : (stripAll s args.toList).1) (hac : AC P f (stripAll s args.toList).2 s.heap (List.range s.heap.length) R) (hK : ∀ x H', R x H' → K ((⟨s.tm, H'⟩ : St).put d x)) :
    OpX2 P kp ops { dst := d, op := .call { callee := .value (.func f), args := args, argTypes := ats }, type := ty, pos := ps, after := af, guard := none } s K := by
  intro B a w E F Q h1 hs hd
  refine .inl ⟨rfl, ?_⟩
  obtain ⟨fn, hfn, hnm, hbd⟩ := hac.1
  have hcf : ∀ cargs, (callFunc f cargs).run P w = .ok (.enter f cargs) w := fun cargs => by
    simp only [callFunc, Sem.run_bind, run_program, Result.andThen_ok, hfn, hnm, hbd, Bool.false_eq_true, if_false]
    rfl
  obtain ⟨q1, q2⟩ := stripAll_sound hs args.toList hst
  have hf : a.eval (.func f) = .func (.func f) #[] #[] := rfl
  refine enter_X hs hd (cargs := args.map a.eval) ?_ ⟨by simp [q1], fun j x v hx hv => q2 j x v hx (by simpa using hv)⟩ hac hK
  simp [execOp, resolve, hf, Deferred.ofValue, invoke, hcf]
theorem hasL_mem2 {i : Nat} : ∀ {l : List V}, V.hasL i l = true → ∃ x, x ∈ l ∧ V.has i x = true
  | [], h => by simp [V.hasL] at h
  | y :: l, h => by
    simp only [V.hasL, Bool.or_eq_true] at h
    rcases h with h | h
    · exact ⟨y, by simp, h⟩
    · obtain ⟨x, h1, h2⟩ := hasL_mem2 h
      exact ⟨x, by simp [h1], h2⟩
theorem belL_has {n i : Nat} {l : List V} (hb : V.belL n l = true) (h : V.hasL i l = true) : i < n := by
  obtain ⟨x, h1, h2⟩ := hasL_mem2 h
  exact bel_has n x (belL_mem hb h1) i h2
theorem hasLL_mem2 {i : Nat} : ∀ {l : List (List V)}, V.hasLL i l = true → ∃ x, x ∈ l ∧ V.hasL i x = true
  | [], h => by simp [V.hasLL] at h
  | y :: l, h => by
    simp only [V.hasLL, Bool.or_eq_true] at h
    rcases h with h | h
    · exact ⟨y, by simp, h⟩
    · obtain ⟨x, h1, h2⟩ := hasLL_mem2 h
      exact ⟨x, by simp [h1], h2⟩
theorem hasM_mem2 {i : Nat} : ∀ {l : List (V × V)}, V.hasM i l = true → ∃ p, p ∈ l ∧ (V.has i p.1 = true ∨ V.has i p.2 = true)
  | [], h => by simp [V.hasM] at h
  | y :: l, h => by
    simp only [V.hasM, Bool.or_eq_true] at h
    rcases h with h | h
    · exact ⟨y, by simp, h⟩
    · obtain ⟨x, h1, h2⟩ := hasM_mem2 h
      exact ⟨x, by simp [h1], h2⟩
theorem blk_bel_has {n i : Nat} {b : Blk} (hb : b.bel n = true) (h : Blk.has i b = true) : i < n := by
  cases b with
  | gone => simp [Blk.has] at h
  | data k rows => simp [Blk.has] at h
  | cells xs => exact belL_has hb h
  | vrs k rs =>
    obtain ⟨r, h1, h2⟩ := hasLL_mem2 h
    exact belL_has (List.all_eq_true.1 hb r h1) h2
  | mp es =>
    obtain ⟨p, h1, h2⟩ := hasM_mem2 h
    have := List.all_eq_true.1 hb p h1
    simp only [Bool.and_eq_true] at this
    rcases h2 with h2 | h2
    · exact bel_has n _ this.1 i h2
    · exact bel_has n _ this.2 i h2
  | it y seen m => exact bel_has n _ hb i h
theorem call_Q {kp : List Nat} {ops : Array Oper} {s : St} {K : St → Prop} {args : Array Operand} {ats : Array TypeId} {d : Option Tmp} {ty : TypeId} {ps : String} {af : Array Edge} {f : FuncId} {R : V → List Blk → Prop} {H1 T : List Blk} (mv : Nat) (hmv : mv ∉ kp)
    (hH : s.heap = H1 ++ T) (hT : belHeap 0 T = true) (hb1 : belHeap H1.length H1 = true) (hb : V.belL H1.length (stripAll s args.toList).2 = true)
    (hst : (stripAll s args.toList).1) (hac : AC P f (stripAll s args.toList).2 H1 (kpM H1 mv) R) (hK : ∀ x H', R x H' → H'.length = H1.length ∧ K ((⟨tmScr mv s.tm, H' ++ T⟩ : St).put d x)) :
    OpX2 P kp ops { dst := d, op := .call { callee := .value (.func f), args := args, argTypes := ats }, type := ty, pos := ps, after := af, guard := none } s K := by
  refine call_P mv hmv hH (fun b hb i => ?_) (fun b hb i hi => ?_) (fun {x} hx i hi => bel_has _ x (belL_mem hb hx) i hi) hst hac hK
  · cases h : Blk.has i b with
    | false => rfl
    | true =>
      obtain ⟨j, hj⟩ := List.getElem?_of_mem hb
      exact absurd (blk_bel_has (belHeap_get hT j b hj) h) (Nat.not_lt_zero _)
  · obtain ⟨j, hj⟩ := List.getElem?_of_mem hb
    exact blk_bel_has (belHeap_get hb1 j b hj) hi
end Go.Aw
