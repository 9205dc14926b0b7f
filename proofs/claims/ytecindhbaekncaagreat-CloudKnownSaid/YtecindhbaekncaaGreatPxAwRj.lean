/-
  From a walk of an iterator's body to what a range over it may rely on. Over any program; no condition.
-/
import Derived.Test.YtecindhbaekncaaGreatPxAwRi
namespace Go.Aw
set_option linter.unusedSimpArgs false
set_option linter.unusedVariables false
open Go.RowKit

variable {P : Program}

def D.free : D → Bool
  | .int _ _ => true
  | .bool _ => true
  | _ => false
def V.free : V → Bool
  | .d x => x.free
  | .ptr _ _ _ => true
  | .ref _ _ _ => true
  | .nil => true
  | .fn _ xs => xs.isEmpty
  | .junk => true
  | _ => false
def Blk.free : Blk → Bool
  | .gone => true
  | .data _ rows => rows.all fun r => r.all D.free
  | .cells xs => xs.all V.free
  | _ => false
def St.free (s : St) : Bool := (s.tm.all fun p => p.2.free) && s.heap.all Blk.free
theorem RD.drop {F F' : Nat → Prop} {w : World} {x : D} {v : Value} (h : RD F w x v) (hf : x.free = true) : RD F' w x v := by
  cases h <;> simp [D.free] at hf <;> constructor
theorem VR.drop {E : Env} {F F' : Nat → Prop} {w : World} {x : V} {v : Value} (h : VR E F w x v) (hf : x.free = true) : VR E F' w x v := by
  cases h with
  | d x v hd => exact .d _ _ (hd.drop hf)
  | ptr id row off b k m hE hm => exact .ptr id row off b k m hE hm
  | ref id off len b k m a cap n hE hm ha hl hb hc => exact .ref id off len b k m a cap n hE hm ha hl hb hc
  | refv id k m a hE => exact .refv id k m a hE
  | nil a => exact .nil a
  | fn f xs cs hs hr =>
    simp [V.free] at hf
    subst hf
    exact .fn f [] cs hs fun j x v hx => by simp at hx
  | junk v => exact .junk v
  | _ => simp [V.free] at hf
theorem tget_mem : ∀ {l : List (Nat × V)} {i : Nat} {x : V}, tget l i = some x → ∃ j, (j, x) ∈ l
  | (j, y) :: r, i, x, h => by
    simp only [tget] at h
    split at h
    · simp at h; subst h; exact ⟨j, by simp⟩
    · obtain ⟨k, hk⟩ := tget_mem h; exact ⟨k, List.mem_cons_of_mem _ hk⟩
theorem Sim.alone {B : Base} {s : St} {a : Act} {w : World} {E : Env} {F : Nat → Prop} (h : Sim B s a w E F) (hf : s.free = true) : Sim ⟨w, fun _ => False, own E s.heap, E, [], B.ds⟩ s a w E (fun _ => False) := by
  simp only [St.free, Bool.and_eq_true, List.all_eq_true] at hf
  have hr := h.rel
  refine ⟨⟨rfl, rfl, .refl _, Nat.le_refl _, fun _ h => h, fun _ h => .inl h, fun _ _ _ => rfl, fun _ h => h.elim, ⟨hr.hr.len, ?_, ?_, hr.hr.inj⟩, ?_, (fun i hi => by cases hi), fun _ _ h => h⟩, h.defers, fun i x hx => ?_⟩
  · intro id e b h1 h2
    have hb := hr.hr.blk id e b h1 h2
    have hbf := hf.2 b (List.mem_of_getElem? h2)
    cases b with
    | gone => trivial
    | data k rows =>
      simp only [Blk.free, List.all_eq_true] at hbf
      obtain ⟨q1, q2, q3, q4⟩ := hb
      refine ⟨q1, q2, q3, ?_⟩
      rcases q4 with q4 | ⟨b, cs, t, r1, r2, r3, r4⟩
      · exact .inl q4
      · refine .inr ⟨b, cs, t, r1, r2, r3, fun i row j x hi hj => ?_⟩
        obtain ⟨v, hv, hd⟩ := r4 i row j x hi hj
        exact ⟨v, hv, hd.drop (hbf row (List.mem_of_getElem? hi) x (List.mem_of_getElem? hj))⟩
    | cells xs =>
      simp only [Blk.free, List.all_eq_true] at hbf
      obtain ⟨q1, q2, b, cs, t, r1, r2, r3, r4⟩ := hb
      refine ⟨q1, q2, b, cs, t, r1, r2, r3, fun j x hj => ?_⟩
      obtain ⟨v, hv, hd⟩ := r4 j x hj
      exact ⟨v, hv, hd.drop (hbf x (List.mem_of_getElem? hj))⟩
    | _ => simp [Blk.free] at hbf
  · intro id b e blk h1 h2 h3 h4
    exact ⟨(hr.hr.free id b e blk h1 h2 h3 h4).1, fun h => h⟩
  · exact fun id b e blk q1 q2 q3 q4 => .inr ⟨id, e, blk, q1, q2, q3, q4⟩
  · obtain ⟨v, hv, hd⟩ := h.tm i x hx
    obtain ⟨j, hj⟩ := tget_mem hx
    exact ⟨v, hv, hd.drop (hf.1 _ hj)⟩

def okZ (J : (Nat → Prop) → Nat → World → Prop) (B : Base) : Prop := B.keep = [] ∧ B.ds = [] ∧ J (fun _ => False) 0 B.w0 ∧ ∀ b, ¬ B.own b
def AWZ (P : Program) (n : Nat) (J : (Nat → Prop) → Nat → World → Prop) (c : Code) (s : St) (Q : Exit → St → Nat → Prop) : Prop :=
  codeOk n c = true → ∀ (B : Base) (a : Act) (w : World) (E : Env) (F : Nat → Prop), okZ J B → a.tmps.size = n → Sim B s a w E F →
    c.wp P (fun e a' w' => (∀ ch, e ≠ .panic ch) ∧ e ≠ .outgrown ∧ ∃ B' s' k' E' F', okJ J B' k' ∧ Q e s' k' ∧ Sim B' s' a' w' E' F' ∧ a'.tmps.size = n) a w
section
variable {n : Nat} {J : (Nat → Prop) → Nat → World → Prop} {s : St} {Q : Exit → St → Nat → Prop}
def OnlyN (next : St → Prop) : Exit → St → Prop
  | .normal, s => next s
  | _, _ => False
theorem awz_seq {x y : Code} (h : AWP P [] n x s (OnlyN fun t => AWZ P n J y t Q)) : AWZ P n J (.seq x y) s Q := by
  intro hok B a w E F h1 h2 h3
  simp only [codeOk, Bool.and_eq_true] at hok
  refine wp_seq (wp_mono (h hok.1 B a w E F h1.1 h2 h3) ?_)
  rintro e a' w' ⟨g1, g2, s', E', F', g3, g4, g5⟩
  cases e with
  | normal => exact g3 hok.2 B a' w' E' F' h1 g5 g4
  | _ => exact g3.elim
theorem awz_switch {m l : Nat} {encs : Nat → Array Value} {N : Nat} (hJ : Iter P m l encs N J) {c : Code} (r : List Nat) (s' : St) (hl : Ren [] r s' s) (hf : s'.free = true) (h : AWY P n J c s' 0 Q) : AWZ P n J c s Q := by
  intro hok B a w E F h1 h2 h3
  obtain ⟨hk, hd, hj, ho⟩ := h1
  have h4 := (ren_sim (B := B) (r := r) (by rw [hk]; exact hl) h3)
  have h5 := h4.alone hf
  refine h hok ⟨w, fun _ => False, own _ s'.heap, _, [], B.ds⟩ a w _ _ ⟨rfl, hd, own _ s'.heap, ?_, fun b hb => hb.elim (fun h => h) (fun h => h.elim)⟩ h2 h5
  refine hJ.st _ _ _ _ _ hj (h4.rel.grow.mono fun b hb => (ho b hb).elim) ?_
  rintro b ⟨id, e, blk, q1, q2, q3, q4⟩
  refine ⟨(h4.rel.hr.free id b e blk q1 q4 q2 q3).1, .inr ?_⟩
  rcases h4.rel.src id b e blk q1 q2 q3 q4 with h | h
  · exact h
  · exact (ho b h).elim
theorem gen_of {f : FuncId} {fn : Func} {c : Code} (hf : P.funcs[f]? = some fn) (hb : fn.body = some c) (hok : codeOk fn.ntmps c = true) (hres : fn.results = #[]) (hsz : 2 ≤ fn.ntmps)
    {m l : Nat} {encs : Nat → Array Value} {N : Nat} (hJ : Iter P m l encs N J) {x : D}
    (h : AWZ P fn.ntmps J c ⟨[(0, .fn (.yield l) []), (1, .d x)], []⟩ fun e _ k => (e = .normal ∨ e = .ret) ∧ k = N)
    {W : World} {F : Nat → Prop} (hlt : ∀ b, F b → b < W.heap.size) {pv : Value} (hp : RD F W x pv) (h0 : J (fun _ => False) 0 W) (m' : Nat) :
    CallsIn Fence.wide m' P f (#[.func (.yield l) #[] #[]] ++ #[pv]) W fun e W' => (∃ v, e = .returned v) ∧ ∃ X, J X N W' := by
  refine callsIn_of_wp hf hb trivial (wpIn_wide.2 ?_) rfl
  refine wp_mono (h hok ⟨W, F, own [] [], [], [], []⟩ _ W [] F ⟨rfl, rfl, h0, fun b ⟨id, e, blk, q1, _⟩ => by simp at q1⟩ (by simp; omega) ?_) ?_
  · refine ⟨⟨rfl, rfl, .refl _, Nat.le_refl _, fun _ h => h, fun _ h => .inl h, fun _ _ _ => rfl, hlt, ⟨rfl, ?_, ?_, ?_⟩, ?_, (fun i hi => by cases hi), fun _ _ h => h⟩, rfl, fun i y hy => ?_⟩
    · intro id e b h1; simp at h1
    · intro id b e blk h1; simp at h1
    · intro i j b ei ej bi bj h1; simp at h1
    · intro id b e blk h1; simp at h1
    · simp only [tget] at hy
      split at hy
      · rename_i hi
        subst hi
        simp at hy
        subst hy
        exact ⟨.func (.yield l) #[] #[], by rw [Array.getElem?_append_left (by simp)]; rfl, .fn _ [] #[] rfl (by simp)⟩
      · split at hy
        · rename_i hi
          subst hi
          simp at hy
          subst hy
          exact ⟨pv, by rw [Array.getElem?_append_left (by simp)]; rfl, .d _ _ hp⟩
        · cases hy
  · rintro e a' w' ⟨g1, g2, B', s', k', E', F', ⟨hk, hd, X, hj, hX⟩, ⟨he, rfl⟩, hs, hn⟩
    have hfin : J X k' w' := hJ.st _ _ _ _ _ hj (hs.rel.grow.mono fun b hb => hX b (.inl hb)) fun b hb => ⟨Nat.lt_of_lt_of_le (hJ.lt _ _ _ hj b hb) hs.rel.size, .inl hb⟩
    have hrs : ∃ v, (results fn a'.tmps).run P w' = .ok v w' := by
      simp [results, hres]
    obtain ⟨v, hv⟩ := hrs
    rcases he with rfl | rfl
    · exact ⟨hs.defers.trans hd, v, hv, ⟨_, rfl⟩, X, hfin⟩
    · exact ⟨hs.defers.trans hd, v, hv, ⟨_, rfl⟩, X, hfin⟩
end
end Go.Aw
