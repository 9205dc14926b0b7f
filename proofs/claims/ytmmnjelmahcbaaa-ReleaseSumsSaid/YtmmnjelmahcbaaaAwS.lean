/-
  Regions that draw their order, with calls over the whole own memory. Over any program; no condition.
-/
import Derived.Test.YtmmnjelmahcbaaaAwR
namespace Go.Aw
set_option linter.unusedSimpArgs false
set_option linter.unusedVariables false
open Go.RowKit

/-- Operations that may change places with others here. -/
def simpleQ : Op → Bool
  | .move _ => true
  | .assign _ => true
  | .load .. => true
  | .fieldAddr .. => true
  | .indexAddr .. => true
  | .extract .. => true
  | .binOp op _ _ y _ => (nilCmp op y).isNone
  | _ => false

theorem opR_congr {P : Program} {s s' : St} {op : Op} (hc : simpleQ op = true) (h : ∀ x ∈ op.operands, s.ev x = s'.ev x) (hH : s.heap = s'.heap) : opR P s op = opR P s' op := by
  cases op <;> simp only [simpleQ, Bool.false_eq_true] at hc <;>
    (simp only [opR, opQ]
     simp only [Op.operands, List.mem_toArray, List.mem_cons, List.not_mem_nil, or_false, forall_eq_or_imp, forall_eq] at h
     simp [h, hH])

/-- The temporaries stand in order. -/
def srt : List (Nat × V) → Bool
  | (i, _) :: (j, y) :: r => decide (i < j) && srt ((j, y) :: r)
  | _ => true

theorem srt_tail {p : Nat × V} {r : List (Nat × V)} (h : srt (p :: r) = true) : srt r = true := by
  cases r with
  | nil => rfl
  | cons q r => simp only [srt, Bool.and_eq_true] at h; exact h.2
theorem srt_head {p q : Nat × V} {r : List (Nat × V)} (h : srt (p :: q :: r) = true) : p.1 < q.1 := by
  simp only [srt, Bool.and_eq_true, decide_eq_true_eq] at h; exact h.1

theorem srt_lt {p : Nat × V} : ∀ {r : List (Nat × V)}, srt (p :: r) = true → ∀ q ∈ r, p.1 < q.1
  | [], _, q, h => by cases h
  | q' :: r, hs, q, h => by
    rcases List.mem_cons.1 h with rfl | h
    · exact srt_head hs
    · exact Nat.lt_trans (srt_head hs) (srt_lt (srt_tail hs) q h)

theorem srt_cons {p : Nat × V} {r : List (Nat × V)} (hr : srt r = true) (h : ∀ q ∈ r, p.1 < q.1) : srt (p :: r) = true := by
  cases r with
  | nil => rfl
  | cons q r => simp only [srt, Bool.and_eq_true, decide_eq_true_eq]; exact ⟨h q (by simp), hr⟩

theorem mem_tput {i : Nat} {x : V} : ∀ {l : List (Nat × V)} {q : Nat × V}, q ∈ tput l i x → q = (i, x) ∨ q ∈ l
  | [], q, h => by simp [tput] at h; exact .inl h
  | (j, y) :: r, q, h => by
    simp only [tput] at h
    split at h
    · rcases List.mem_cons.1 h with h | h
      · exact .inl h
      · exact .inr (List.mem_cons_of_mem _ h)
    · split at h
      · rcases List.mem_cons.1 h with h | h
        · exact .inl h
        · exact .inr h
      · rcases List.mem_cons.1 h with h | h
        · exact .inr (by rw [h]; exact List.mem_cons_self ..)
        · rcases mem_tput h with h | h
          · exact .inl h
          · exact .inr (List.mem_cons_of_mem _ h)

theorem srt_tput {i : Nat} {x : V} : ∀ {l : List (Nat × V)}, srt l = true → srt (tput l i x) = true
  | [], _ => rfl
  | (j, y) :: r, h => by
    simp only [tput]
    split
    · rename_i hij
      exact srt_cons (srt_tail h) fun q hq => by rw [hij]; exact srt_lt h q hq
    · split
      · rename_i _ hlt
        exact srt_cons h fun q hq => by
          rcases List.mem_cons.1 hq with rfl | hq
          · exact hlt
          · exact Nat.lt_trans hlt (srt_lt h q hq)
      · rename_i h1 h2
        exact srt_cons (srt_tput (srt_tail h)) fun q hq => by
          rcases mem_tput hq with rfl | hq
          · show j < i; omega
          · exact srt_lt h q hq

theorem srt_ext : ∀ {l l' : List (Nat × V)}, srt l = true → srt l' = true → (∀ i, tget l i = tget l' i) → l = l'
  | [], [], _, _, _ => rfl
  | [], (j, y) :: r, _, _, h => by have := h j; simp [tget] at this
  | (j, y) :: r, [], _, _, h => by have := h j; simp [tget] at this
  | (j, y) :: r, (k, z) :: q, h1, h2, h => by
    have none_of : ∀ {p : Nat × V} {r : List (Nat × V)} (i : Nat), srt (p :: r) = true → i ≤ p.1 → tget r i = none := by
      intro p r i hs hi
      cases hg : tget r i with
      | none => rfl
      | some v =>
        exfalso
        have mem : ∀ (r : List (Nat × V)) (v : V), tget r i = some v → ∃ q ∈ r, q.1 = i := by
          intro r
          induction r with
          | nil => intro v hv; simp [tget] at hv
          | cons q r ih =>
            intro v hv
            obtain ⟨a, b⟩ := q
            simp only [tget] at hv
            split at hv
            · rename_i hia; exact ⟨(a, b), by simp, hia.symm⟩
            · obtain ⟨q, hq, e⟩ := ih v hv; exact ⟨q, List.mem_cons_of_mem _ hq, e⟩
        obtain ⟨q, hq, e⟩ := mem r v hg
        have := srt_lt hs q hq
        omega
    have hjk : j = k := by
      have a := h j
      have b := h k
      simp only [tget, if_true] at a b
      by_cases e : j = k
      · exact e
      · rw [if_neg e] at a
        rw [if_neg (Ne.symm e)] at b
        rcases Nat.lt_or_ge j k with hlt | hge
        · rw [none_of j h2 (by show j ≤ k; omega)] at a; cases a
        · rw [none_of k h1 (by show k ≤ j; omega)] at b; cases b
    subst hjk
    have hy : y = z := by have := h j; simpa [tget] using this
    subst hy
    rw [srt_ext (srt_tail h1) (srt_tail h2) fun i => by
      by_cases hi : i = j
      · subst hi; rw [none_of i h1 (Nat.le_refl _), none_of i h2 (Nat.le_refl _)]
      · have := h i; simpa [tget, hi] using this]

theorem tput_comm {l : List (Nat × V)} {i j : Nat} {x y : V} (h : srt l = true) (hij : i ≠ j) : tput (tput l i x) j y = tput (tput l j y) i x := by
  refine srt_ext (srt_tput (srt_tput h)) (srt_tput (srt_tput h)) fun k => ?_
  simp only [tget_tput]
  by_cases h1 : k = i
  · subst h1; simp [hij]
  · simp [h1]

/-- Of which shape a block is. -/
def shp : Option Blk → Nat
  | some (.data k _) => 2 * k + 1
  | some (.vrs k _) => 2 * k + 2
  | _ => 0
/-- The blocks 'ro' stay, the others keep their shape. -/
def RoS (ro : List Nat) (H H' : List Blk) : Prop := (∀ id, id ∈ ro → H'[id]? = H[id]?) ∧ ∀ id : Nat, shp H'[id]? = shp H[id]?
theorem RoS.trans {ro : List Nat} {A B C : List Blk} (h : RoS ro A B) (h' : RoS ro B C) : RoS ro A C := ⟨fun id hi => (h'.1 id hi).trans (h.1 id hi), fun id => (h'.2 id).trans (h.2 id)⟩

/-- One operation, picked in some order. 'fl': calls over the whole memory; 'ro': own blocks that these leave as they are. -/
def StepA (P : Program) (kp : List Nat) (ops : Array Oper) (fl ro : List Nat) (i : Nat) (s : St) (K : St → Prop) : Prop :=
  match ops[i]? with
  | none => False
  | some o => if i ∈ fl then HeapVC P o s fun t => RoS ro s.heap t.heap ∧ K t else OpVC P kp ops o s K

theorem HeapVC.imp {P : Program} {o : Oper} {s : St} {K K' : St → Prop} (h : HeapVC P o s K) (hk : ∀ t, K t → K' t) : HeapVC P o s K' := by
  unfold HeapVC at *
  split at h
  · rename_i c hc hg
    split at h
    · obtain ⟨h1, R, h2, h3⟩ := h
      exact ⟨h1, R, h2, fun x H' hr => hk _ (h3 x H' hr)⟩
    · exact h.elim
  · exact h.elim

theorem StepA.imp {P : Program} {kp : List Nat} {ops : Array Oper} {fl ro : List Nat} {i : Nat} {s : St} {K K' : St → Prop} (h : StepA P kp ops fl ro i s K) (hk : ∀ t, K t → K' t) : StepA P kp ops fl ro i s K' := by
  unfold StepA at *
  split at h
  · exact h.elim
  · rename_i o ho
    split at h
    · rename_i hf
      rw [if_pos hf]
      exact h.imp fun t ht => ⟨ht.1, hk t ht.2⟩
    · rename_i hf
      rw [if_neg hf]
      exact h.imp hk

/-- Whatever order is picked. -/
def anyA (P : Program) (kp : List Nat) (ops : Array Oper) (fl ro : List Nat) : Nat → Array Bool → St → (St → Prop) → Prop
  | 0, listed, s, K => Region.ready .any ops listed = [] ∧ K s
  | n + 1, listed, s, K => (Region.ready .any ops listed = [] → K s) ∧ ∀ i ∈ Region.ready .any ops listed, StepA P kp ops fl ro i s fun t => anyA P kp ops fl ro n (listed.setIfInBounds i true) t K

theorem any_soundA {P : Program} {ops : Array Oper} {Q : Exit → Act → World → Prop} {B : Base} {n : Nat} (hd : dstsOk n ops = true) (fl ro : List Nat) {K : St → Prop}
    (hq : ∀ a' w' s' E' F', K s' → Sim B s' a' w' E' F' → a'.tmps.size = n → Q .normal a' w') : ∀ (fuel : Nat) (listed : Array Bool) (s : St) (a : Act) (w : World) (E : Env) (F : Nat → Prop), a.tmps.size = n → Sim B s a w E F →
    anyA P B.keep ops fl ro fuel listed s K → wpAny P .any ops Q fuel listed a w
  | 0, listed, s, a, w, E, F, hn, hs, h => ⟨h.1, hq a w s E F h.2 hs hn⟩
  | fuel + 1, listed, s, a, w, E, F, hn, hs, h => by
    refine ⟨fun h0 => hq a w s E F (h.1 h0) hs hn, fun i hi => ?_⟩
    have h := h.2 i hi
    unfold StepA at h
    have ih := fun s a w E F hn hs h => any_soundA (P := P) hd fl ro hq fuel (listed.setIfInBounds i true) s a w E F hn hs h
    split at h
    · exact h.elim
    rename_i o ho
    have hdd : ∀ d, o.dst = some d → d < a.tmps.size := fun d hd' => by rw [hn]; exact dstsOk_spec hd ho d hd'
    unfold wpOp
    simp only [ho]
    split at h
    · obtain ⟨hw, hwp⟩ := heap_sound (Q := Q) hs hdd h ops
      rw [hw, if_pos rfl]
      exact .inl (Oper.wp_mono (fun a' w' ⟨v, s', E', F', ha, hK, hs'⟩ => by subst ha; exact ih s' _ w' E' F' (by rw [size_put]; exact hn) hs' hK.2) hwp)
    · rcases op_sound (Q := Q) hs hdd h with ⟨v, s', hK, hs', hw⟩ | ⟨_, hw⟩
      · have ih' := ih s' _ w E F (by rw [size_put]; exact hn) hs' hK
        rcases hw with ⟨hw, hrun⟩ | ⟨hw, rfl⟩
        · rw [hw, if_pos rfl]
          refine .inl ?_
          unfold Oper.wp
          rw [hrun w (Keep.refl w)]
          exact ih'
        · rw [hw]
          exact ih'
      · rcases hw with ⟨hw, hwp⟩ | ⟨hw, s', F', hK, hs'⟩
        · rw [hw, if_pos rfl]
          exact .inl (Oper.wp_mono (fun a' w' ⟨_, v, s', E', F', ha, hK, hs'⟩ => by subst ha; exact ih s' _ w' E' F' (by rw [size_put]; exact hn) hs' hK) hwp)
        · rw [hw]
          exact ih s' _ w E F' (by rw [size_put]; exact hn) hs' hK

/-- What the operation yields does not hang on own blocks outside 'ro'. -/
def roOk (P : Program) (ro : List Nat) (s : St) (op : Op) : Prop := ∀ H' : List Blk, RoS ro s.heap H' → opR P ⟨s.tm, H'⟩ op = opR P s op

theorem ev_put {s : St} {d : Option Tmp} {y : V} {x : Operand} (h : ∀ t, d = some t → x ≠ .tmp t) : (s.put d y).ev x = s.ev x := by
  cases d with
  | none => rfl
  | some t =>
    cases x with
    | tmp u =>
      have hu : u ≠ t := fun e => h t rfl (by rw [e])
      simp only [St.ev, St.get, St.put, tget_tput, if_neg hu]
    | _ => rfl

theorem looks_op {ops : Array Oper} {o : Oper} {d : Option Tmp} (h : ∀ t, d = some t → t ∉ o.looksAt ops) : ∀ x ∈ o.op.operands, ∀ t, d = some t → x ≠ .tmp t := fun x hx t ht e => h t ht (by
  subst e
  exact List.mem_append_left _ (List.mem_filterMap.2 ⟨.tmp t, by simpa using hx, rfl⟩))

theorem put_heap (s : St) (d : Option Tmp) (y : V) : (s.put d y).heap = s.heap := by cases d <;> rfl

theorem opR_put {P : Program} {ops : Array Oper} {o : Oper} {s : St} {d : Option Tmp} {y : V} (hs : simpleQ o.op = true) (h : ∀ t, d = some t → t ∉ o.looksAt ops) : opR P (s.put d y) o.op = opR P s o.op :=
  opR_congr hs (fun x hx => ev_put (looks_op h x hx)) (put_heap s d y)

theorem put_comm {s : St} {d e : Option Tmp} {x y : V} (hs : srt s.tm = true) (h : ∀ t, d = some t → e ≠ some t) : (s.put d x).put e y = (s.put e y).put d x := by
  cases d with
  | none => rfl
  | some t => cases e with
    | none => rfl
    | some u =>
      have : t ≠ u := fun q => h t rfl (by rw [q])
      simp only [St.put]
      rw [tput_comm hs this]

theorem srt_put {s : St} {d : Option Tmp} {x : V} (hs : srt s.tm = true) : srt (s.put d x).tm = true := by
  cases d with
  | none => exact hs
  | some t => exact srt_tput hs

theorem stripAll_congr {s s' : St} : ∀ (l : List Operand), (∀ x ∈ l, s.ev x = s'.ev x) → stripAll s l = stripAll s' l
  | [], _ => rfl
  | x :: l, h => by simp only [stripAll, h x (by simp), stripAll_congr l fun y hy => h y (by simp [hy])]

theorem callT_congr {s s' : St} {c : Call} (h : ∀ x ∈ c.operands, s.ev x = s'.ev x) : callT s c = callT s' c := by
  have ha : stripAll s c.args.toList = stripAll s' c.args.toList := stripAll_congr _ fun x hx => h x (by
    unfold Call.operands
    split <;> simp <;> simp_all)
  unfold callT
  split
  · rename_i f hf
    have : s.ev f = s'.ev f := h f (by simp [Call.operands, hf])
    rw [ha, this]
  · rfl

theorem opE_simple {P : Program} {kp : List Nat} {s : St} {op : Op} (h : simpleQ op = true) : opE P kp s op = none := by
  cases op <;> first | rfl | simp [simpleQ] at h

theorem simple_VC {P : Program} {kp : List Nat} {ops : Array Oper} {o : Oper} {s : St} {K : St → Prop} (hs : simpleQ o.op = true) (hg : o.guard = none) :
    OpVC P kp ops o s K ↔ ∃ ob y, opR P s o.op = some (ob, y) ∧ ob ∧ K (s.put o.dst y) := by
  have e : s.guardOf ops o = some true := by simp [St.guardOf, hg]
  unfold OpVC
  simp only [e, opE_simple hs, hg, Option.isSome_none, Bool.false_eq_true, if_false]
  cases hq : opR P s o.op with
  | none =>
    simp only [reduceCtorEq, false_and, exists_false, iff_false]
    cases o with
    | mk dst op type pos after guard =>
      cases op with
      | binOp op t x y t2 =>
        have : nilCmp op y = none := by simpa [simpleQ] using hs
        simp [offVC, nilVC, nilQ, this]
      | _ => first | (simp [simpleQ] at hs; done) | simp [offVC]
  | some r =>
    obtain ⟨ob, y⟩ := r
    simp only [true_implies]
    constructor
    · exact fun h => ⟨ob, y, rfl, h.1.1, h.2⟩
    · rintro ⟨ob', y', h1, h2, h3⟩
      cases h1
      exact ⟨⟨h2, fun h => h.elim⟩, h3⟩

/-- A simple operation changes places with another one. -/
theorem StepA.comm {P : Program} {kp : List Nat} {ops : Array Oper} {fl ro : List Nat} {B : Prop} {j : Nat} {oi oj : Oper} {s : St} {K : St → Prop} {ob : Prop} {x : V} (hs : srt s.tm = true)
    (hj : ops[j]? = some oj) (hi : simpleQ oi.op = true) (hap : oi.apart ops oj = true) (hjk : j ∈ fl ∨ (simpleQ oj.op = true ∧ oj.guard = none))
    (hq : opR P s oi.op = some (ob, x)) (hro : roOk P ro s oi.op ∨ (B ∧ j ∉ fl)) (h : StepA P kp ops fl ro j (s.put oi.dst x) K) :
    StepA P kp ops fl ro j s fun t => srt t.tm = true ∧ opR P t oi.op = some (ob, x) ∧ (roOk P ro t oi.op ∨ B) ∧ K (t.put oi.dst x) := by
  obtain ⟨a1, a2, a3⟩ := Oper.apart_spec hap
  unfold StepA at *
  simp only [hj] at *
  split at h
  · rename_i hf
    rw [if_pos hf]
    have hro := hro.resolve_right fun hh => hh.2 hf
    unfold HeapVC at *
    split at h
    · rename_i c hc hg
      have hops : ∀ y ∈ c.operands, (s.put oi.dst x).ev y = s.ev y := fun y hy => ev_put (looks_op a1 y (by rw [hc]; exact hy))
      rw [callT_congr hops] at h
      split at h
      · obtain ⟨h1, R, h2, h3⟩ := h
        rw [put_heap] at h2
        refine ⟨h1, R, h2, fun y H' hR => ?_⟩
        obtain ⟨h4, h5⟩ := h3 y H' hR
        rw [put_heap] at h4
        have hh : ((⟨s.tm, H'⟩ : St).put oj.dst y).heap = H' := put_heap _ _ _
        have h4' : RoS ro s.heap H' := by
          rwa [put_heap] at h4
        have e0 : opR P ((⟨s.tm, H'⟩ : St).put oj.dst y) oi.op = some (ob, x) := by rw [opR_put hi a3, hro H' h4', hq]
        refine ⟨by rw [hh]; exact h4', srt_put (s := ⟨s.tm, H'⟩) hs, e0, .inl fun H'' hH => ?_, ?_⟩
        · rw [hh] at hH
          rw [e0]
          have e2 : opR P ⟨((⟨s.tm, H'⟩ : St).put oj.dst y).tm, H''⟩ oi.op = opR P ((⟨s.tm, H''⟩ : St).put oj.dst y) oi.op := by
            cases oj.dst <;> rfl
          rw [e2, opR_put hi a3, hro H'' (h4'.trans hH), hq]
        · have e1 : ((⟨s.tm, H'⟩ : St).put oj.dst y).put oi.dst x = (⟨(s.put oi.dst x).tm, H'⟩ : St).put oj.dst y := by
            rw [← put_comm (s := ⟨s.tm, H'⟩) hs a2]
            cases oi.dst <;> rfl
          rw [e1]
          exact h5
      · exact h.elim
    · exact h.elim
  · rename_i hf
    rw [if_neg hf]
    obtain ⟨hjs, hjg⟩ := hjk.resolve_left hf
    rw [simple_VC hjs hjg] at h ⊢
    obtain ⟨ob', y, h1, h2, h3⟩ := h
    rw [opR_put hjs a1] at h1
    have e0 : opR P (s.put oj.dst y) oi.op = some (ob, x) := by rw [opR_put hi a3, hq]
    refine ⟨ob', y, h1, h2, srt_put hs, e0, hro.imp (fun hro H'' hH => ?_) (fun hh => hh.1), ?_⟩
    · rw [put_heap] at hH
      rw [e0]
      have e2 : opR P ⟨(s.put oj.dst y).tm, H''⟩ oi.op = opR P ((⟨s.tm, H''⟩ : St).put oj.dst y) oi.op := by
        cases oj.dst <;> rfl
      rw [e2, opR_put hi a3, hro H'' hH, hq]
    · rw [← put_comm hs a2]
      exact h3

/-- A simple operation may be taken first. -/
theorem anyA_first {P : Program} {kp : List Nat} {ops : Array Oper} {fl ro : List Nat} {i : Nat} {oi : Oper} {K : St → Prop} {ob : Prop} {x : V} (hi : ops[i]? = some oi) (hsi : simpleQ oi.op = true) (hg : oi.guard = none) (hfi : i ∉ fl) (hob : ob) :
    ∀ (fuel : Nat) (listed : Array Bool) (s : St), srt s.tm = true →
      (∀ j oj, ops[j]? = some oj → j ≠ i → listed.getD j true = false → (∀ e ∈ oj.after, Region.binds .any e = true → e.on ≠ i) → oi.apart ops oj = true ∧ (j ∈ fl ∨ (simpleQ oj.op = true ∧ oj.guard = none))) →
      i ∈ Region.ready .any ops listed → opR P s oi.op = some (ob, x) → (roOk P ro s oi.op ∨ ∀ j, j ∈ fl → ∀ oj, ops[j]? = some oj → ∃ e, e ∈ oj.after ∧ Region.binds .any e = true ∧ e.on = i) →
      anyA P kp ops fl ro fuel (listed.setIfInBounds i true) (s.put oi.dst x) K → anyA P kp ops fl ro (fuel + 1) listed s K := by
  intro fuel
  induction fuel with
  | zero =>
    intro listed s hs _ hr hq hro H
    refine ⟨fun h => (by rw [h] at hr; cases hr), fun j hj => ?_⟩
    by_cases hji : j = i
    · subst hji
      unfold StepA
      simp only [hi]
      rw [if_neg hfi, simple_VC hsi hg]
      exact ⟨ob, x, hq, hob, H⟩
    · have := ready_mono hj hji
      rw [H.1] at this
      cases this
  | succ fuel ih =>
    intro listed s hs hfree hr hq hro H
    refine ⟨fun h => (by rw [h] at hr; cases hr), fun j hj => ?_⟩
    by_cases hji : j = i
    · subst hji
      unfold StepA
      simp only [hi]
      rw [if_neg hfi, simple_VC hsi hg]
      exact ⟨ob, x, hq, hob, H⟩
    · have h1 := H.2 j (ready_mono hj hji)
      obtain ⟨hjun, oj, hoj, hall⟩ := mem_ready.1 hj
      have hnot : ∀ e ∈ oj.after, Region.binds .any e = true → e.on ≠ i := fun e he hb heq => by
        have h1 := hall e he hb
        have h0 := (mem_ready.1 hr).1
        rw [heq] at h1
        rcases Nat.lt_or_ge i listed.size with h' | h'
        · simp [h'] at h0 h1; rw [h0] at h1; cases h1
        · simp [Array.getElem?_eq_none h'] at h1
      obtain ⟨hap, hjk⟩ := hfree j oj hoj hji hjun hnot
      have h2 := StepA.comm hs hoj hsi hap hjk hq (hro.imp id fun hB => ⟨hB, fun hjf => let ⟨e, he, hb, ho⟩ := hB j hjf oj hoj; hnot e he hb ho⟩) h1
      have hfree' : ∀ k ok, ops[k]? = some ok → k ≠ i → (listed.setIfInBounds j true).getD k true = false →
          (∀ e ∈ ok.after, Region.binds .any e = true → e.on ≠ i) → oi.apart ops ok = true ∧ (k ∈ fl ∨ (simpleQ ok.op = true ∧ ok.guard = none)) := fun k ok hk hki hun hno => by
        refine hfree k ok hk hki ?_ hno
        by_cases hjk : j = k
        · subst hjk; exact hjun
        · rw [getD_set_ne true hjk] at hun; exact hun
      refine h2.imp fun t ⟨g1, g2, g3, g4⟩ => ?_
      refine ih (listed.setIfInBounds j true) t g1 hfree' (ready_mono hr (Ne.symm hji)) g2 g3 ?_
      rw [Array.setIfInBounds_comm _ _ hji]
      exact g4

/-- May number i be taken first? -/
def freeA (ops : Array Oper) (fl : List Nat) (listed : Array Bool) (i : Nat) : Bool :=
  match ops[i]? with
  | none => false
  | some oi => (List.range ops.size).all fun j => match ops[j]? with
    | none => true
    | some oj => j == i || listed.getD j true || (oj.after.any fun e => Region.binds .any e && e.on == i) || (oi.apart ops oj && (fl.contains j || (simpleQ oj.op && oj.guard.isNone)))

theorem freeA_spec {ops : Array Oper} {fl : List Nat} {listed : Array Bool} {i : Nat} {oi : Oper} (hi : ops[i]? = some oi) (h : freeA ops fl listed i = true) :
    ∀ j oj, ops[j]? = some oj → j ≠ i → listed.getD j true = false → (∀ e ∈ oj.after, Region.binds .any e = true → e.on ≠ i) → oi.apart ops oj = true ∧ (j ∈ fl ∨ (simpleQ oj.op = true ∧ oj.guard = none)) := by
  intro j oj hj hji hun hno
  unfold freeA at h
  rw [hi] at h
  dsimp only at h
  have hlt : j < ops.size := (Array.getElem?_eq_some_iff.1 hj).1
  have := List.all_eq_true.1 h j (List.mem_range.2 hlt)
  rw [hj] at this
  simp only [Bool.or_eq_true, beq_iff_eq, Bool.and_eq_true, List.contains_eq_mem, decide_eq_true_eq, Option.isNone_iff_eq_none] at this
  rcases this with ((h1 | h1) | h1) | h1
  · exact absurd h1 hji
  · rw [hun] at h1; cases h1
  · exfalso
    obtain ⟨l, hl, he⟩ := Array.any_eq_true.1 h1
    simp only [Bool.and_eq_true, beq_iff_eq] at he
    exact hno _ (Array.getElem_mem hl) he.1 he.2
  · exact h1

/-- The walk's order. -/
def drawOkA (ops : Array Oper) (fl : List Nat) : List Nat → Array Bool → Bool
  | [], listed => (Region.ready .any ops listed).isEmpty
  | i :: r, listed =>
    (match ops[i]? with
     | none => false
     | some o => if simpleQ o.op && o.guard.isNone && !fl.contains i then (Region.ready .any ops listed).contains i && freeA ops fl listed i else Region.ready .any ops listed == [i]) && drawOkA ops fl r (listed.setIfInBounds i true)

/-- Do all these calls wait for number i? -/
def bndB (ops : Array Oper) (fl : List Nat) (i : Nat) : Bool := fl.all fun j => match ops[j]? with
  | some oj => oj.after.any fun e => Region.binds .any e && e.on == i
  | none => true
theorem bndB_spec {ops : Array Oper} {fl : List Nat} {i : Nat} (h : bndB ops fl i = true) : ∀ j, j ∈ fl → ∀ oj, ops[j]? = some oj → ∃ e, e ∈ oj.after ∧ Region.binds .any e = true ∧ e.on = i := by
  intro j hj oj hoj
  have := List.all_eq_true.1 h j hj
  rw [hoj] at this
  obtain ⟨l, hl, he⟩ := Array.any_eq_true.1 this
  simp only [Bool.and_eq_true, beq_iff_eq] at he
  exact ⟨_, Array.getElem_mem hl, he.1, he.2⟩

def OpsA (P : Program) (kp : List Nat) (ops : Array Oper) (fl ro bd : List Nat) : List (Oper × Nat) → St → (St → Prop) → Prop
  | [], s, K => K s
  | (o, i) :: r, s, K =>
    if (simpleQ o.op && o.guard.isNone && !fl.contains i) = true then
      match opR P s o.op with
      | some (ob, x) => ob ∧ (roOk P ro s o.op ∨ i ∈ bd) ∧ OpsA P kp ops fl ro bd r (s.put o.dst x) K
      | none => False
    else if i ∈ fl then HeapVC P o s fun t => RoS ro s.heap t.heap ∧ srt t.tm = true ∧ OpsA P kp ops fl ro bd r t K
    else OpVC P kp ops o s fun t => srt t.tm = true ∧ OpsA P kp ops fl ro bd r t K

theorem opsA_any {P : Program} {kp : List Nat} {ops : Array Oper} {fl ro bd : List Nat} {K : St → Prop} (hbd : bd.all (bndB ops fl) = true) : ∀ (l : List (Oper × Nat)) (listed : Array Bool) (s : St), srt s.tm = true → (∀ p, p ∈ l → ops[p.2]? = some p.1) →
    OpsA P kp ops fl ro bd l s K → drawOkA ops fl (l.map (·.2)) listed = true → ∀ fuel, l.length ≤ fuel → anyA P kp ops fl ro fuel listed s K
  | [], listed, s, hs, _, h, hok, fuel, _ => by
    have hr : Region.ready .any ops listed = [] := by simpa [drawOkA] using hok
    cases fuel with
    | zero => exact ⟨hr, h⟩
    | succ fuel => exact ⟨fun _ => h, by rw [hr]; simp⟩
  | (o, i) :: l, listed, s, hs, hl, h, hok, 0, hf => by simp at hf
  | (o, i) :: l, listed, s, hs, hl, h, hok, fuel + 1, hf => by
    have ho : ops[i]? = some o := hl (o, i) (by simp)
    simp only [List.map_cons, drawOkA, Bool.and_eq_true, ho] at hok
    obtain ⟨hok, hrest⟩ := hok
    have ih := fun s hs h => opsA_any (P := P) (kp := kp) (ro := ro) (K := K) hbd l (listed.setIfInBounds i true) s hs (fun p hp => hl p (by simp [hp])) h hrest fuel (by simpa using hf)
    unfold OpsA at h
    split at h
    · rename_i hc
      rw [if_pos (by simpa using hc)] at hok
      simp only [Bool.and_eq_true, Bool.not_eq_true', Option.isNone_iff_eq_none] at hc
      have hfi : i ∉ fl := fun hm => by have := hc.2; simp [hm] at this
      split at h
      · rename_i ob x hq
        obtain ⟨hob, hro, h⟩ := h
        simp only [Bool.and_eq_true] at hok
        exact anyA_first ho hc.1.1 hc.1.2 hfi hob fuel listed s hs (freeA_spec ho hok.2) (by simpa using hok.1) hq (hro.imp id fun hm => bndB_spec (List.all_eq_true.1 hbd i hm)) (ih _ (srt_put hs) h)
      · exact h.elim
    · rename_i hc
      rw [if_neg (by simpa using hc)] at hok
      have hr : Region.ready .any ops listed = [i] := by simpa using hok
      refine ⟨(fun h0 => by rw [hr] at h0; cases h0), fun j hj => ?_⟩
      rw [hr] at hj
      simp at hj
      subst hj
      unfold StepA
      simp only [ho]
      split at h
      · rename_i hf
        rw [if_pos hf]
        exact h.imp fun t ht => ⟨ht.1, ih t ht.2.1 ht.2.2⟩
      · rename_i hf
        rw [if_neg hf]
        exact h.imp fun t ht => ih t ht.1 ht.2

/-- A region that draws its order, with calls over the whole memory ('fl'), which leave the blocks 'ro' as they are. -/
theorem awp_drawH {P : Program} {kp : List Nat} {n : Nat} {s : St} {Q : Exit → St → Prop} {id : Nat} {ops : Array Oper} (fl ro bd : List Nat) (hbd : bd.all (bndB ops fl) = true) (l : List (Oper × Nat)) (hm : P.follows .mixedOrders = true) (hs : srt s.tm = true)
    (hl : ∀ p, p ∈ l → ops[p.2]? = some p.1) (hc : drawOkA ops fl (l.map (·.2)) (Array.replicate ops.size false) = true) (hn : l.length ≤ ops.size)
    (h : ∀ K : St → Prop, (∀ t, Q .normal t → K t) → OpsA P kp ops fl ro bd l s K) : AWP P kp n (.region id ops true) s Q := by
  intro hok B a w E F h1 h2 h3
  subst h1
  refine wp_region_any hm (any_soundA (P := P) (n := n) hok fl ro (K := fun t => Q .normal t) ?_ _ _ s a _ E F h2 h3.drew (opsA_any hbd l _ s hs hl (h _ fun t ht => ht) hc _ hn))
  intro a' w' s' E' F' hK hs hn
  exact ⟨by simp, by simp, s', E', F', hK, hs, hn⟩

end Go.Aw
