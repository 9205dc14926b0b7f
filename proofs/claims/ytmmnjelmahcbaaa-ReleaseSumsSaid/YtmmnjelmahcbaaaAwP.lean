/-
  Code: walks over abstract states are sound for it; from a walk of a function's body to its contract. Over any program; no condition.
-/
import Derived.Test.YtmmnjelmahcbaaaAwOt
namespace Go.Aw
set_option linter.unusedSimpArgs false
set_option linter.unusedVariables false
open Go.RowKit

/-- No operation of the code writes beyond the temporaries, and it holds nothing that these walks do not know. -/
def codeOk (n : Nat) : Code → Bool
  | .skip => true
  | .region _ ops _ => dstsOk n ops
  | .seq a b => codeOk n a && codeOk n b
  | .cond _ a b => codeOk n a && codeOk n b
  | .block _ c => codeOk n c
  | .loop c => codeOk n c
  | .exit _ => true
  | .ret => true
  | .label _ => true
  | .scope c => codeOk n c
  | _ => false

/-- The code, begun in the state s, comes to an end that meets Q. -/
def AWP (P : Program) (kp : List Nat) (n : Nat) (c : Code) (s : St) (Q : Exit → St → Prop) : Prop :=
  codeOk n c = true → ∀ (B : Base) (a : Act) (w : World) (E : Env) (F : Nat → Prop), B.keep = kp → a.tmps.size = n → Sim B s a w E F →
    c.wp P (fun e a' w' => (∀ ch, e ≠ .panic ch) ∧ e ≠ .outgrown ∧ ∃ s' E' F', Q e s' ∧ Sim B s' a' w' E' F' ∧ a'.tmps.size = n) a w

variable {P : Program} {kp : List Nat} {n : Nat} {s : St} {Q : Exit → St → Prop}

theorem awp_mono {c : Code} {Q' : Exit → St → Prop} (h : AWP P kp n c s Q) (hq : ∀ e t, Q e t → Q' e t) : AWP P kp n c s Q' :=
  fun hok B a w E F h1 h2 h3 => wp_mono (h hok B a w E F h1 h2 h3) fun e a' w' ⟨g1, g2, s', E', F', g3, g4⟩ => ⟨g1, g2, s', E', F', hq _ _ g3, g4⟩

theorem awp_skip (h : Q .normal s) : AWP P kp n .skip s Q :=
  fun _ B a w E F _ h2 h3 => wp_skip ⟨by simp, by simp, s, E, F, h, h3, h2⟩

theorem awp_label {l : Nat} (h : Q .normal s) : AWP P kp n (.label l) s Q :=
  fun _ B a w E F _ h2 h3 => wp_label ⟨by simp, by simp, s, E, F, h, h3, h2⟩

theorem awp_exit {id : Nat} (h : Q (.exit id) s) : AWP P kp n (.exit id) s Q :=
  fun _ B a w E F _ h2 h3 => wp_exit ⟨by simp, by simp, s, E, F, h, h3, h2⟩

theorem awp_ret (h : Q .ret s) : AWP P kp n .ret s Q :=
  fun _ B a w E F _ h2 h3 => wp_ret ⟨by simp, by simp, s, E, F, h, h3, h2⟩

/-- What comes behind. -/
def Then (next : St → Prop) (Q : Exit → St → Prop) : Exit → St → Prop
  | .normal, s => next s
  | e, s => Q e s

theorem awp_seq {x y : Code} (h : AWP P kp n x s (Then (fun t => AWP P kp n y t Q) Q)) : AWP P kp n (.seq x y) s Q := by
  intro hok B a w E F h1 h2 h3
  simp only [codeOk, Bool.and_eq_true] at hok
  refine wp_seq (wp_mono (h hok.1 B a w E F h1 h2 h3) ?_)
  rintro e a' w' ⟨g1, g2, s', E', F', g3, g4, g5⟩
  cases e with
  | normal => exact g3 hok.2 B a' w' E' F' h1 g5 g4
  | exit id => exact ⟨g1, g2, s', E', F', g3, g4, g5⟩
  | goto l => exact ⟨g1, g2, s', E', F', g3, g4, g5⟩
  | ret => exact ⟨g1, g2, s', E', F', g3, g4, g5⟩
  | panic ch => exact absurd rfl (g1 ch)
  | outgrown => exact absurd rfl g2

theorem awp_cond {c : Operand} {x y : Code} {b : Bool} (hc : s.ev c = .d (.bool b)) (ht : b = true → AWP P kp n x s Q) (hf : b = false → AWP P kp n y s Q) : AWP P kp n (.cond c x y) s Q := by
  intro hok B a w E F h1 h2 h3
  simp only [codeOk, Bool.and_eq_true] at hok
  have := ev_sound h3 c
  rw [hc] at this
  have hb := bool_of this
  cases b with
  | true => exact wp_cond_true hb (ht rfl hok.1 B a w E F h1 h2 h3)
  | false => exact wp_cond_false hb (hf rfl hok.2 B a w E F h1 h2 h3)

/-- What comes behind a block. -/
def InBlock (id : Nat) (Q : Exit → St → Prop) : Exit → St → Prop
  | .exit id', s => if id' = id then Q .normal s else Q (.exit id') s
  | e, s => Q e s

theorem awp_block {id : Nat} {c : Code} (h : AWP P kp n c s (InBlock id Q)) : AWP P kp n (.block id c) s Q := by
  intro hok B a w E F h1 h2 h3
  refine wp_block (wp_mono (h hok B a w E F h1 h2 h3) ?_)
  rintro e a' w' ⟨g1, g2, s', E', F', g3, g4, g5⟩
  cases e with
  | exit id' =>
    simp only [Exit.inBlock, InBlock] at g3 ⊢
    split at g3
    · rename_i h; rw [if_pos h]; exact ⟨by simp, by simp, s', E', F', g3, g4, g5⟩
    · rename_i h; rw [if_neg h]; exact ⟨by simp, by simp, s', E', F', g3, g4, g5⟩
  | normal => exact ⟨g1, g2, s', E', F', g3, g4, g5⟩
  | goto l => exact ⟨g1, g2, s', E', F', g3, g4, g5⟩
  | ret => exact ⟨g1, g2, s', E', F', g3, g4, g5⟩
  | panic ch => exact absurd rfl (g1 ch)
  | outgrown => exact absurd rfl g2

/-- A loop: 'I m t': at a round's head, with the measure m. -/
theorem awp_loop {c : Code} (I : Nat → St → Prop) (m : Nat) (h0 : I m s) (round : ∀ m t, I m t → AWP P kp n c t (Then (fun u => ∃ k, k < m ∧ I k u) Q)) : AWP P kp n (.loop c) s Q := by
  intro hok B a w E F h1 h2 h3
  have hok' : codeOk n c = true := hok
  intro b k cs
  have key : ∀ (m : Nat) (t : St) (a : Act) (w : World) (E : Env) (F : Nat → Prop), I m t → a.tmps.size = n → Sim B t a w E F →
      ∃ e a' w', ((∀ ch, e ≠ .panic ch) ∧ e ≠ .outgrown ∧ ∃ s' E' F', Q e s' ∧ Sim B s' a' w' E' F' ∧ a'.tmps.size = n) ∧ Arrives P (lone (b.at a (.code c :: .inLoop c :: k)) cs w) b k cs e a' w' := by
    intro m
    induction m using Nat.strongRecOn with
    | _ m ih =>
      intro t a w E F hI hn hs
      obtain ⟨e, a₁, w₁, ⟨g1, g2, s', E', F', g3, g4, g5⟩, harr⟩ := round m t hI hok' B a w E F h1 hn hs b (.inLoop c :: k) cs
      cases e with
      | normal =>
        obtain ⟨m', hlt, hI'⟩ := g3
        obtain ⟨e₂, a₂, w₂, hq₂, harr₂⟩ := ih m' hlt s' a₁ w₁ E' F' hI' g5 g4
        exact ⟨e₂, a₂, w₂, hq₂, .of_steps (Steps.trans harr (.one step_inLoop)) harr₂⟩
      | exit id => exact ⟨_, a₁, w₁, ⟨g1, g2, s', E', F', g3, g4, g5⟩, .pass (x := .inLoop c) rfl (fun _ _ => .inl (by simp)) harr⟩
      | goto l => exact ⟨_, a₁, w₁, ⟨g1, g2, s', E', F', g3, g4, g5⟩, .pass (x := .inLoop c) rfl (fun _ _ => .inl (by simp)) harr⟩
      | ret => exact ⟨_, a₁, w₁, ⟨g1, g2, s', E', F', g3, g4, g5⟩, .pass (x := .inLoop c) rfl (fun _ _ => .inl (by simp)) harr⟩
      | panic ch => exact absurd rfl (g1 ch)
      | outgrown => exact absurd rfl g2
  obtain ⟨e, a', w', hq, harr⟩ := key m s a w E F h0 h2 h3
  exact ⟨e, a', w', hq, .of_steps (.one step_loop) harr⟩

/-- A region in the text's order; 'K' stands for what comes behind. -/
theorem awp_region {id : Nat} {ops : Array Oper} (h : ∀ K : St → Prop, (∀ t, Q .normal t → K t) → OpsVC P kp ops ops.toList s K) : AWP P kp n (.region id ops false) s Q := by
  intro hok B a w E F h1 h2 h3
  subst h1
  refine wp_region (ops_sound (ops := ops) (n := n) hok (List.range ops.size) s a w E F (fun t => Q .normal t) h2 h3 ?_ (by simp) ?_)
  · have e : (List.range ops.size).filterMap (ops[·]?) = ops.toList := by
      apply List.ext_getElem?
      intro i
      have : ∀ (l : List Oper), (List.range l.length).filterMap (l[·]?) = l := fun l => by
        induction l with
        | nil => rfl
        | cons x r ih =>
          rw [List.length_cons, List.range_succ_eq_map, List.filterMap_cons]
          simp only [List.getElem?_cons_zero, List.filterMap_map, Function.comp_def, List.getElem?_cons_succ]
          rw [ih]
      have h2 := this ops.toList
      simp only [Array.length_toList, Array.getElem?_toList] at h2
      rw [h2]
    rw [e]
    exact h _ fun t ht => ht
  · intro a' w' s' E' F' hK hs hn
    exact ⟨by simp, by simp, s', E', F', hK, hs, hn⟩

/-- A region that draws its order: by a tree. -/
theorem awp_drawT {id : Nat} {ops : Array Oper} (d : DT) (hm : P.follows .mixedOrders = true) (hc : (Region.noSelect ops && d.ok ops true (Array.replicate ops.size false)) = true) (hl : Nat.ble d.depth ops.size = true)
    (h : ∀ K : St → Prop, (∀ t, Q .normal t → K t) → d.vc P kp ops s K) : AWP P kp n (.region id ops true) s Q := by
  intro hok B a w E F h1 h2 h3
  subst h1
  simp only [Bool.and_eq_true] at hc
  refine wp_region_any hm (wpAny_of_T _ _ _ _ (draw_soundT (ops := ops) (n := n) hok hc.1 ?_ d.depth d (Nat.le_refl _) _ s a _ E F (fun t => Q .normal t) h2 h3.drew (h _ fun t ht => ht) hc.2 ?_ _ (Nat.le_of_ble_eq_true hl)))
  · intro c a w hh
    exact hh.1 c rfl
  · intro a' w' s' E' F' hK hs hn
    exact ⟨by simp, by simp, s', E', F', hK, hs, hn⟩

/-- A region that draws its order: one walk, in the order 'l'. -/
theorem awp_draw {id : Nat} {ops : Array Oper} (l : List Nat) (hm : P.follows .mixedOrders = true) (hc : (Region.noSelect ops && drawOk ops l (Array.replicate ops.size false)) = true) (hl : l.length = ops.size)
    (h : ∀ K : St → Prop, (∀ t, Q .normal t → K t) → OpsVC P kp ops (l.filterMap (ops[·]?)) s K) : AWP P kp n (.region id ops true) s Q := by
  intro hok B a w E F h1 h2 h3
  subst h1
  simp only [Bool.and_eq_true] at hc
  refine wp_region_any hm (wpAny_of_T _ _ _ _ (draw_sound (ops := ops) (n := n) hok hc.1 ?_ l _ s a _ E F (fun t => Q .normal t) h2 h3.drew (h _ fun t ht => ht) hc.2 ?_ _ (by omega)))
  · intro c a w hh
    exact hh.1 c rfl
  · intro a' w' s' E' F' hK hs hn
    exact ⟨by simp, by simp, s', E', F', hK, hs, hn⟩

mutual
/-- Does a value speak of blocks below n alone? -/
def V.bel (n : Nat) : V → Bool
  | .agg xs => V.belL n xs
  | .tup xs => V.belL n xs
  | .ptr id _ _ => decide (id < n)
  | .ref id _ _ => decide (id < n)
  | .fn _ xs => V.belL n xs
  | .map id => decide (id < n)
  | .iface _ x => V.bel n x
  | .opt _ x => V.bel n x
  | _ => true
def V.belL (n : Nat) : List V → Bool
  | [] => true
  | x :: r => V.bel n x && V.belL n r
end

theorem bel_has (n : Nat) : ∀ (x : V), V.bel n x = true → ∀ i, V.has i x = true → i < n := by
  intro x
  apply V.rec (motive_1 := fun x => V.bel n x = true → ∀ i, V.has i x = true → i < n) (motive_2 := fun xs => V.belL n xs = true → ∀ i, V.hasL i xs = true → i < n)
  · intro x _ i h; simp [V.has] at h
  · intro xs ih h i hi; exact ih (by simpa [V.bel] using h) i (by simpa [V.has] using hi)
  · intro xs ih h i hi; exact ih (by simpa [V.bel] using h) i (by simpa [V.has] using hi)
  · intro id row off h i hi; simp [V.has] at hi; simp [V.bel] at h; omega
  · intro id off len h i hi; simp [V.has] at hi; simp [V.bel] at h; omega
  · intro _ i hi; simp [V.has] at hi
  · intro f xs ih h i hi; exact ih (by simpa [V.bel] using h) i (by simpa [V.has] using hi)
  · intro id h i hi; simp [V.has] at hi; simp [V.bel] at h; omega
  · intro t x ih h i hi; exact ih (by simpa [V.bel] using h) i (by simpa [V.has] using hi)
  · intro g x ih h i hi; exact ih (by simpa [V.bel] using h) i (by simpa [V.has] using hi)
  · intro _ i hi; simp [V.has] at hi
  · intro _ i hi; simp [V.hasL] at hi
  · intro x r ih1 ih2 h i hi
    simp only [V.belL, Bool.and_eq_true] at h
    simp only [V.hasL, Bool.or_eq_true] at hi
    rcases hi with hi | hi
    · exact ih1 h.1 i hi
    · exact ih2 h.2 i hi

def Blk.bel (n : Nat) : Blk → Bool
  | .cells xs => V.belL n xs
  | .vrs _ rs => rs.all (V.belL n)
  | .mp es => es.all fun p => V.bel n p.1 && V.bel n p.2
  | .it x _ _ => V.bel n x
  | _ => true

theorem belL_mem {n : Nat} {x : V} : ∀ {l : List V}, V.belL n l = true → x ∈ l → V.bel n x = true
  | [], _, h => by cases h
  | y :: l, hb, h => by
    simp only [V.belL, Bool.and_eq_true] at hb
    rcases List.mem_cons.1 h with rfl | h
    · exact hb.1
    · exact belL_mem hb.2 h
theorem Blk.bel_of {n : Nat} {b : Blk} {x : V} (hb : b.bel n = true) (hx : b.holds x) : V.bel n x = true := by
  cases b with
  | gone => exact hx.elim
  | data k rows => exact hx.elim
  | cells xs => exact belL_mem hb hx
  | vrs k rs => obtain ⟨r, h1, h2⟩ := hx; exact belL_mem (List.all_eq_true.1 hb r h1) h2
  | mp es =>
    obtain ⟨p, h1, h2⟩ := hx
    have := List.all_eq_true.1 hb p h1
    simp only [Bool.and_eq_true] at this
    rcases h2 with rfl | rfl
    · exact this.1
    · exact this.2
  | it y seen m => subst hx; exact hb

def belTm (n : Nat) : List (Nat × V) → Bool
  | [] => true
  | (_, x) :: r => V.bel n x && belTm n r
def belHeap (n : Nat) : List Blk → Bool
  | [] => true
  | b :: r => b.bel n && belHeap n r
def subTm : List (Nat × V) → List (Nat × V) → Prop
  | [], _ => True
  | (i, x) :: r, l => tget l i = some x ∧ subTm r l

theorem subTm_get {l : List (Nat × V)} : ∀ {l' : List (Nat × V)}, subTm l' l → ∀ i x, tget l' i = some x → tget l i = some x
  | [], _, i, x, h => by simp [tget] at h
  | (j, y) :: r, hs, i, x, h => by
    simp only [tget] at h
    split at h
    · rename_i hij; subst hij; simp at h; subst h; exact hs.1
    · exact subTm_get hs.2 i x h
theorem belTm_get {n : Nat} : ∀ {l : List (Nat × V)}, belTm n l = true → ∀ i x, tget l i = some x → V.bel n x = true
  | [], _, i, x, h => by simp [tget] at h
  | (j, y) :: r, hs, i, x, h => by
    simp only [belTm, Bool.and_eq_true] at hs
    simp only [tget] at h
    split at h
    · simp at h; subst h; exact hs.1
    · exact belTm_get hs.2 i x h
theorem belHeap_get {n : Nat} : ∀ {l : List Blk}, belHeap n l = true → ∀ (i : Nat) (b : Blk), l[i]? = some b → Blk.bel n b = true
  | [], _, i, b, h => by simp at h
  | c :: r, hs, 0, b, h => by
    simp only [belHeap, Bool.and_eq_true] at hs
    simp at h; subst h; exact hs.1
  | c :: r, hs, i + 1, b, h => by
    simp only [belHeap, Bool.and_eq_true] at hs
    exact belHeap_get hs.2 i b (by simpa using h)

/-- A weaker state: fewer temporaries, fewer own blocks (the last ones are forgotten). -/
structure Le (kp : List Nat) (s' s : St) : Prop where
  tm : subTm s'.tm s.tm
  heap : ∃ r, s.heap = s'.heap ++ r
  bt : belTm s'.heap.length s'.tm = true
  bh : belHeap s'.heap.length s'.heap = true
  kp : ∀ i, i ∈ kp → i < s'.heap.length

theorem le_sim {B : Base} {s s' : St} {a : Act} {w : World} {E : Env} {F : Nat → Prop} (hl : Le B.keep s' s) (hs : Sim B s a w E F) : Sim B s' a w (E.take s'.heap.length) F := by
  obtain ⟨r, hr⟩ := hl.heap
  have hr' := hs.rel
  have hlen : s'.heap.length ≤ E.length := by rw [hr'.hr.len, hr]; simp
  have evo : Evo E F w (E.take s'.heap.length) F w (fun i => i < s'.heap.length) := ⟨fun _ h => h, fun _ _ => rfl, fun i e hi h => by rw [List.getElem?_take_of_lt hi]; exact h, fun _ _ h => h⟩
  have hE : ∀ (i : Nat) (e : En), (E.take s'.heap.length)[i]? = some e → E[i]? = some e := fun i e h => by
    rw [List.getElem?_take] at h
    split at h
    · exact h
    · cases h
  have hH : ∀ (i : Nat) (b : Blk), s'.heap[i]? = some b → s.heap[i]? = some b := fun i b h => by
    rw [hr, List.getElem?_append_left (List.getElem?_eq_some_iff.1 h).1]; exact h
  refine ⟨⟨hr'.os, hr'.tape, hr'.output, hr'.size, hr'.F0, hr'.only, hr'.same, hr'.lt, ⟨by simp; omega, ?_, ?_, ?_⟩, ?_, ?_, hr'.sz⟩, hs.defers, ?_⟩
  · intro i e b h1 h2
    have := BR.to (f := fun x => x) (E' := E.take s'.heap.length) (F' := F) (w' := w) (hr'.hr.blk i e b (hE i e h1) (hH i b h2)) (fun _ _ h => h) (fun x v hx hv => hv.evo evo (bel_has _ x (Blk.bel_of (belHeap_get hl.bh i b h2) hx))) (fun _ _ => rfl)
    rwa [Blk.map1_id] at this
  · intro i b e blk h1 h2 h3 h4
    exact hr'.hr.free i b e blk (hE i e h1) h2 (hH i blk h3) h4
  · intro i j b ei ej bi bj h1 h2 h3 h4 h5 h6 h7 h8
    exact hr'.hr.inj i j b ei ej bi bj (hE i ei h1) (hE j ej h2) h3 h4 (hH i bi h5) (hH j bj h6) h7 h8
  · intro i b e blk h1 h2 h3 h4
    exact hr'.src i b e blk (hE i e h1) (hH i blk h2) h3 h4
  · intro i hi
    obtain ⟨e, h1, h2⟩ := hr'.keep i hi
    exact ⟨e, by rw [List.getElem?_take_of_lt (hl.kp i hi)]; exact h1, h2⟩
  · intro i x hx
    obtain ⟨v, hv, h⟩ := hs.tm i x (subTm_get hl.tm i x hx)
    exact ⟨v, hv, h.evo evo (bel_has _ x (belTm_get hl.bt i x hx))⟩

theorem awp_weak {c : Code} (s' : St) (hl : Le kp s' s) (h : AWP P kp n c s' Q) : AWP P kp n c s Q := by
  intro hok B a w E F h1 h2 h3
  subst h1
  exact h hok B a w _ F rfl h2 (le_sim hl h3)

/-- 'nil' as an empty slice of the walk's own. -/
theorem awp_virt {c : Code} (i k : Nat) (hi : tget s.tm i = some .nil) (h : AWP P kp n c { tm := tput s.tm i (.ref s.heap.length 0 0), heap := s.heap ++ [.data k []] } Q) : AWP P kp n c s Q := by
  intro hok B a w E F h1 h2 h3
  subst h1
  obtain ⟨e1, e2⟩ := virt_rel h3.rel k
  refine h hok B a w _ F rfl h2 ⟨⟨e2.os, e2.tape, e2.output, e2.size, e2.F0, e2.only, e2.same, e2.lt, e2.hr, e2.src, e2.keep, e2.sz⟩, h3.defers, fun j x hx => ?_⟩
  simp only [tget_tput] at hx
  split at hx
  · rename_i hj
    subst hj
    simp at hx
    subst hx
    obtain ⟨v, hv, hr⟩ := h3.tm j _ hi
    refine ⟨v, hv, ?_⟩
    cases hr with
    | nil a => exact .refv _ k 0 a (by rw [← h3.rel.hr.len, List.getElem?_append_right (Nat.le_refl _)]; simp)
  · obtain ⟨v, hv, hr⟩ := h3.tm j x hx
    exact ⟨v, hv, hr.evo e1 (fun _ _ => trivial)⟩

/-- An own block is given up to be read alone. -/
theorem awp_frz {c : Code} (i : Nat) (h : AWP P kp n c (s.frz i) Q) : AWP P kp n c s Q := by
  intro hok B a w E F h1 h2 h3
  obtain ⟨F', h4⟩ := frz_sim h3 i
  exact h hok B a w E F' h1 h2 h4

/-- One result: a temporary, or what lies in a variable. -/
def resQ (P : Program) (s : St) : ResultVar → Option (Prop × V)
  | .tmp t => some (True, s.get t)
  | .cell a t => (loadQ P s.heap t (s.get a).strip.2).map fun r => ((s.get a).strip.1 ∧ r.1, r.2)
def resQs (P : Program) (s : St) : List ResultVar → Option (Prop × List V)
  | [] => some (True, [])
  | r :: l => match resQ P s r, resQs P s l with
    | some (p, x), some (q, xs) => some (p ∧ q, x :: xs)
    | _, _ => none
/-- What a function gives back: what it asks, the value. -/
def retQ (P : Program) (s : St) (l : List ResultVar) : Option (Prop × V) :=
  match resQs P s l with
  | some (p, [x]) => some (p, x)
  | some (p, xs) => some (p, .tup xs)
  | none => none

theorem get_sound {B : Base} {s : St} {a : Act} {w : World} {E : Env} {F : Nat → Prop} (hs : Sim B s a w E F) (t : Nat) : VR E F w (s.get t) (a.tmps.getD t undef) := ev_sound hs (.tmp t)

def resRun (a : Act) (r : ResultVar) : Sem Value :=
  match r with
  | .tmp t => pure (a.tmps.getD t undef)
  | .cell ad t => do loadVar t (← asAddr (a.tmps.getD ad undef))

theorem asAddr_of_loadAt {P : Program} {t : TypeId} {v u : Value} {w : World} (h : (Instr.loadAt t v).run P w = .ok u w) : (do loadVar t (← asAddr v) : Sem Value).run P w = .ok u w := by
  cases v with
  | pointer a => cases a with
    | some a => simpa [Instr.loadAt, Instr.sureAddr, asAddr] using h
    | none => simp [Instr.loadAt, Instr.sureAddr] at h
  | _ => simp [Instr.loadAt, Instr.sureAddr] at h

theorem res_sound {P : Program} {B : Base} {s : St} {a : Act} {w : World} {E : Env} {F : Nat → Prop} (hs : Sim B s a w E F) {r : ResultVar} {p : Prop} {x : V} (h : resQ P s r = some (p, x)) (hp : p) :
    ∃ v, (resRun a r).run P w = .ok v w ∧ VR E F w x v := by
  cases r with
  | tmp t =>
    simp only [resQ, Option.some.injEq, Prod.mk.injEq] at h
    obtain ⟨_, rfl⟩ := h
    exact ⟨_, by simp [resRun], get_sound hs t⟩
  | cell ad t =>
    simp only [resQ, Option.map_eq_some_iff, Prod.exists, Prod.mk.injEq] at h
    obtain ⟨p, y, hq, rfl, rfl⟩ := h
    obtain ⟨u, h1, h2⟩ := loadQ_sound hq hp.2 hs.rel.hr hs.rel.lt (V.strip_sound (get_sound hs ad) hp.1)
    exact ⟨u, asAddr_of_loadAt (h2 w (Keep.refl w)), h1⟩

theorem ress_sound {P : Program} {B : Base} {s : St} {a : Act} {w : World} {E : Env} {F : Nat → Prop} (hs : Sim B s a w E F) : ∀ (l : List ResultVar) (p : Prop) (xs : List V), resQs P s l = some (p, xs) → p →
    ∃ vs : List Value, (l.mapM (resRun a)).run P w = .ok vs w ∧ vs.length = xs.length ∧ ∀ (j : Nat) (x : V) (v : Value), xs[j]? = some x → vs[j]? = some v → VR E F w x v
  | [], p, xs, h, _ => by
    simp [resQs] at h
    obtain ⟨_, rfl⟩ := h
    exact ⟨[], rfl, rfl, by simp⟩
  | r :: l, p, xs, h, hp => by
    simp only [resQs] at h
    split at h
    · rename_i p1 x q1 xs1 e1 e2
      simp only [Option.some.injEq, Prod.mk.injEq] at h
      obtain ⟨rfl, rfl⟩ := h
      obtain ⟨v, h1, h2⟩ := res_sound hs e1 hp.1
      obtain ⟨vs, h3, h4, h5⟩ := ress_sound hs l q1 xs1 e2 hp.2
      refine ⟨v :: vs, ?_, by simp [h4], fun j x v hx hv => ?_⟩
      · rw [List.mapM_cons]
        simp only [Sem.run_bind, h1, Result.andThen_ok, h3, Sem.run_pure]
      · cases j with
        | zero => simp at hx hv; subst hx; subst hv; exact h2
        | succ j => exact h5 j x v (by simpa using hx) (by simpa using hv)
    · cases h

theorem ret_sound {P : Program} {B : Base} {s : St} {a : Act} {w : World} {E : Env} {F : Nat → Prop} {fn : Func} {p : Prop} {x : V} (hs : Sim B s a w E F) (h : retQ P s fn.results.toList = some (p, x)) (hp : p) :
    ∃ v, (results fn a.tmps).run P w = .ok v w ∧ VR E F w x v := by
  generalize hl : fn.results.toList = l at h
  have hfn : fn.results = l.toArray := by rw [← hl]
  have main : ∀ (vs : List Value), (l.mapM (resRun a)).run P w = .ok vs w →
      (results fn a.tmps).run P w = .ok (if h : vs.toArray.size = 1 then vs.toArray[0] else .tuple vs.toArray) w := by
    intro vs hvs
    unfold results
    rw [hfn]
    simp only [List.mapM_toArray, Sem.run_bind, Sem.run_map]
    exact Eq.trans (congrArg (fun r : Result (List Value) => (r.andThen fun a w' => Result.ok a.toArray w').andThen fun a w' => Sem.run P (pure (if h : a.size = 1 then a[0] else Value.tuple a)) w') hvs) rfl
  unfold retQ at h
  split at h
  · rename_i p' x' hx
    simp only [Option.some.injEq, Prod.mk.injEq] at h
    obtain ⟨rfl, rfl⟩ := h
    obtain ⟨vs, h1, h2, h3⟩ := ress_sound hs l _ _ hx hp
    match vs, h2 with
    | [v], _ => exact ⟨v, main [v] h1, h3 0 _ v rfl rfl⟩
  · rename_i p' xs' hne hx
    simp only [Option.some.injEq, Prod.mk.injEq] at h
    obtain ⟨rfl, rfl⟩ := h
    obtain ⟨vs, h1, h2, h3⟩ := ress_sound hs l _ _ hx hp
    refine ⟨_, main vs h1, ?_⟩
    have hsz : ¬ vs.toArray.size = 1 := by
      simp only [List.size_toArray]
      intro h
      rw [h2] at h
      match xs', h with
      | [y], _ => exact hne y rfl
    rw [dif_neg hsz]
    exact .tup _ _ (by simp [h2]) fun j x v hx hv => h3 j x v hx (by simpa using hv)
  · cases h

/-- The arguments' slots. -/
def argTm (i : Nat) : List V → List (Nat × V)
  | [] => []
  | x :: r => (i, x) :: argTm (i + 1) r

theorem argTm_get : ∀ (l : List V) (m i : Nat) (x : V), tget (argTm m l) i = some x → m ≤ i ∧ l[i - m]? = some x
  | [], m, i, x, h => by simp [argTm, tget] at h
  | y :: r, m, i, x, h => by
    simp only [argTm, tget] at h
    split at h
    · rename_i hi; subst hi; simp at h; subst h; simp
    · obtain ⟨h1, h2⟩ := argTm_get r (m + 1) i x h
      refine ⟨by omega, ?_⟩
      rw [show i - m = (i - (m + 1)) + 1 by omega]
      simpa using h2

/-- **From a walk of the body to the contract.** -/
theorem ac_of {f : FuncId} {fn : Func} {c : Code} {args : List V} {H : List Blk} {R : V → List Blk → Prop} (hf : P.funcs[f]? = some fn) (hb : fn.body = some c)
    (hnm : (fn.name == "runtime.NumGoroutine") = false) (hn : args.length ≤ fn.ntmps) (hok : codeOk fn.ntmps c = true)
    (h : AWP P kp fn.ntmps c ⟨argTm 0 args, H⟩ fun e t => (e = .normal ∨ e = .ret) ∧ ∃ p x, retQ P t fn.results.toList = some (p, x) ∧ p ∧ R x t.heap) : AC P f args H kp R := by
  refine ⟨⟨fn, hf, hnm, by rw [hb]; rfl⟩, fun w cargs E F h1 h2 h3 h4 => calls_of_wp hf hb ?_⟩
  have hs : Sim ⟨w, F, own E H, E, kp⟩ ⟨argTm 0 args, H⟩ { tmps := cargs ++ Array.replicate (fn.ntmps - cargs.size) undef, defers := [] } w E F := by
    refine ⟨⟨rfl, rfl, .refl _, Nat.le_refl _, fun _ h => h, fun _ h => .inl h, fun _ _ _ => rfl, h2, h1, ?_, ?_, fun _ _ h => h⟩, rfl, ?_⟩
    · exact fun id b e blk q1 q2 q3 q4 => .inr ⟨id, e, blk, q1, q2, q3, q4⟩
    · intro i hi
      have := h3 i hi
      rw [← h1.len] at this
      exact ⟨_, List.getElem?_eq_getElem this, List.getElem?_eq_getElem this⟩
    · intro i x hx
      obtain ⟨_, q⟩ := argTm_get args 0 i x hx
      rw [Nat.sub_zero] at q
      have hi : i < cargs.size := by rw [h4.1]; exact (List.getElem?_eq_some_iff.1 q).1
      refine ⟨cargs[i], ?_, h4.2 i x _ q (Array.getElem?_eq_getElem hi)⟩
      rw [Array.getElem?_append_left hi, Array.getElem?_eq_getElem hi]
  have hsz : (cargs ++ Array.replicate (fn.ntmps - cargs.size) undef).size = fn.ntmps := by
    have := h4.1
    simp; omega
  refine wp_mono (h hok _ _ w E F rfl hsz hs) ?_
  rintro e a' w' ⟨g1, g2, s', E', F', ⟨g3, p, x, g4, hp, g5⟩, g6, g7⟩
  obtain ⟨v, hv, hx⟩ := ret_sound (P := P) g6 g4 hp
  have hrel : Rel ⟨w, F, own E H, E, kp⟩ ⟨[], s'.heap⟩ E' F' w' := ⟨g6.rel.os, g6.rel.tape, g6.rel.output, g6.rel.size, g6.rel.F0, g6.rel.only, g6.rel.same, g6.rel.lt, g6.rel.hr, g6.rel.src, g6.rel.keep, g6.rel.sz⟩
  rcases g3 with rfl | rfl
  · exact ⟨g6.defers, v, hv, v, x, s'.heap, E', F', rfl, g5, hrel, hx⟩
  · exact ⟨g6.defers, v, hv, v, x, s'.heap, E', F', rfl, g5, hrel, hx⟩

end Go.Aw
