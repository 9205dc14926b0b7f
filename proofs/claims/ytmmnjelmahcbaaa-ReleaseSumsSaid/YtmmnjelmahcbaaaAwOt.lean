/-
  Regions that draw their order, told by a tree: where several operations that do not only compute are ready at once, each of them is walked. Over any program; no condition.
-/
import Derived.Test.YtmmnjelmahcbaaaAwO
namespace Go.Aw
set_option linter.unusedSimpArgs false
set_option linter.unusedVariables false
open Go.RowKit

inductive DT where
  | nil
  | op (i : Nat) (r : DT)
  | or (a b : DT)

def DT.vc (P : Program) (kp : List Nat) (ops : Array Oper) : DT → St → (St → Prop) → Prop
  | .nil, s, K => K s
  | .op i r, s, K => match ops[i]? with
    | some o => OpVC P kp ops o s fun t => r.vc P kp ops t K
    | none => False
  | .or a b, s, K => a.vc P kp ops s K ∧ b.vc P kp ops s K

def DT.heads : DT → List Nat
  | .nil => []
  | .op i _ => [i]
  | .or a b => a.heads ++ b.heads
def DT.depth : DT → Nat
  | .nil => 0
  | .op _ r => r.depth + 1
  | .or a b => max a.depth b.depth

/-- The tree is good for every order. 'top': not inside a choice. -/
def DT.ok (ops : Array Oper) : DT → Bool → Array Bool → Bool
  | .nil, top, listed => top && (Region.ready .any ops listed).isEmpty
  | .op i r, top, listed =>
    (match ops[i]? with
     | none => false
     | some o => if top then (if kindQ o.op then (Region.ready .any ops listed).contains i && freeT ops listed i else Region.ready .any ops listed == [i]) else true) && r.ok ops true (listed.setIfInBounds i true)
  | .or a b, top, listed => (if top then (!(Region.ready .any ops listed).isEmpty && (Region.ready .any ops listed).all fun i => (a.heads ++ b.heads).contains i) else true) && a.ok ops false listed && b.ok ops false listed

/-- Below a choice: each head's branch. -/
theorem DT.head_of {P : Program} {kp : List Nat} {ops : Array Oper} {listed : Array Bool} {s : St} {K : St → Prop} {i : Nat} : ∀ {t : DT}, t.vc P kp ops s K → t.ok ops false listed = true → i ∈ t.heads →
    ∃ r, (DT.op i r).vc P kp ops s K ∧ r.ok ops true (listed.setIfInBounds i true) = true ∧ r.depth + 1 ≤ t.depth ∧ ∃ o, ops[i]? = some o
  | .nil, _, h, _ => by simp [DT.ok] at h
  | .op j r, h1, h2, h3 => by
    simp only [DT.heads, List.mem_singleton] at h3
    subst h3
    simp only [DT.ok, Bool.and_eq_true] at h2
    refine ⟨r, h1, h2.2, Nat.le_refl _, ?_⟩
    have := h2.1
    split at this
    · cases this
    · exact ⟨_, by assumption⟩
  | .or a b, h1, h2, h3 => by
    simp only [DT.ok, Bool.false_eq_true, if_false, Bool.true_and, Bool.and_eq_true] at h2
    simp only [DT.heads, List.mem_append] at h3
    rcases h3 with h3 | h3
    · obtain ⟨r, q1, q2, q3, q4⟩ := DT.head_of h1.1 h2.1 h3
      exact ⟨r, q1, q2, by simp only [DT.depth]; omega, q4⟩
    · obtain ⟨r, q1, q2, q3, q4⟩ := DT.head_of h1.2 h2.2 h3
      exact ⟨r, q1, q2, by simp only [DT.depth]; omega, q4⟩

variable {P : Program} {ops : Array Oper} {Q : Exit → Act → World → Prop}

theorem draw_soundT {B : Base} {n : Nat} (hd : dstsOk n ops = true) (hsel : Region.noSelect ops = true) (hQ : ∀ c a w, ¬ Q (.panic c) a w) : ∀ (m : Nat) (t : DT) (_ : t.depth ≤ m) (listed : Array Bool) (s : St) (a : Act) (w : World) (E : Env) (F : Nat → Prop) (K : St → Prop), a.tmps.size = n → Sim B s a w E F →
    t.vc P B.keep ops s K → t.ok ops true listed = true →
    (∀ a' w' s' E' F', K s' → Sim B s' a' w' E' F' → a'.tmps.size = n → Q .normal a' w') → ∀ fuel, t.depth ≤ fuel → wpAnyT P ops Q fuel listed a w
  | m, .nil, _, listed, s, a, w, E, F, K, hn, hs, h, hok, hq, fuel, _ => by
    have hr : Region.ready .any ops listed = [] := by simpa [DT.ok] using hok
    have := hq a w s E F h hs hn
    cases fuel with
    | zero => exact ⟨hr, this⟩
    | succ fuel => exact ⟨fun _ => this, by rw [hr]; simp⟩
  | 0, .op i r, hm, _, _, _, _, _, _, _, _, _, _, _, _, _, _ => by simp [DT.depth] at hm
  | m + 1, .op i r, hm, listed, s, a, w, E, F, K, hn, hs, h, hok, hq, 0, hf => by simp [DT.depth] at hf
  | m + 1, .op i r, hm, listed, s, a, w, E, F, K, hn, hs, h, hok, hq, fuel + 1, hf => by
    simp only [DT.depth] at hm hf
    simp only [DT.ok, if_true, Bool.and_eq_true] at hok
    obtain ⟨hok, hrest⟩ := hok
    split at hok
    · cases hok
    rename_i o ho
    simp only [DT.vc, ho] at h
    have ih := fun s a w E F hn hs h => draw_soundT hd hsel hQ m r (by omega) (listed.setIfInBounds i true) s a w E F K hn hs h hrest hq fuel (by omega)
    rcases op_sound (Q := Q) hs (fun d hd' => by rw [hn]; exact dstsOk_spec hd ho d hd') h with ⟨v, s', hK, hs', hw⟩ | ⟨hnq, hw⟩
    · have ih' := ih s' _ w E F (by rw [size_put]; exact hn) hs' hK
      have hy : YieldsK P ops w o v a := hw
      split at hok
      · simp only [Bool.and_eq_true] at hok
        exact free_first ho (noSel hsel) (fun c a w hh => absurd hh (hQ c _ w)) fuel listed a w hok.2 (by simpa using hok.1) hy ih'
      · have hr : Region.ready .any ops listed = [i] := by simpa using hok
        refine ⟨(fun h0 => by rw [hr] at h0; cases h0), fun j hj => ?_⟩
        rw [hr] at hj
        simp at hj
        subst hj
        exact hy.wpOp ho ⟨.inr (Keep.refl w), ih'⟩
    · rw [hnq] at hok
      have hr : Region.ready .any ops listed = [i] := by simpa using hok
      refine ⟨(fun h0 => by rw [hr] at h0; cases h0), fun j hj => ?_⟩
      rw [hr] at hj
      simp at hj
      subst hj
      unfold wpOp
      simp only [ho]
      rcases hw with ⟨hw, hwp⟩ | ⟨hw, s', F', hK, hs'⟩
      · rw [hw, if_pos rfl]
        refine .inl (Oper.wp_mono (fun a' w' ⟨hkt, v, s', E', F', ha, hK, hs'⟩ => ?_) hwp)
        subst ha
        exact ⟨by simpa [ho] using hkt, ih s' _ w' E' F' (by rw [size_put]; exact hn) hs' hK⟩
      · rw [hw]
        exact ⟨.inr (Keep.refl w), ih s' _ w E F' (by rw [size_put]; exact hn) hs' hK⟩
  | m, .or x y, hm, listed, s, a, w, E, F, K, hn, hs, h, hok, hq, fuel, hf => by
    simp only [DT.ok, if_true, Bool.and_eq_true] at hok
    obtain ⟨⟨⟨hne, hall⟩, hx⟩, hy⟩ := hok
    have hne : Region.ready .any ops listed ≠ [] := by simpa using hne
    have hor : (DT.or x y).ok ops false listed = true := by simp [DT.ok, hx, hy]
    have each : ∀ j ∈ Region.ready .any ops listed, ∃ (r : DT) (o : Oper), ops[j]? = some o ∧ OpVC P B.keep ops o s (fun t => r.vc P B.keep ops t K) ∧ r.ok ops true (listed.setIfInBounds j true) = true ∧ r.depth + 1 ≤ (DT.or x y).depth := by
      intro j hj
      have hh : j ∈ (DT.or x y).heads := by have := List.all_eq_true.1 hall j hj; simpa [DT.heads] using this
      obtain ⟨r, q1, q2, q3, o, q4⟩ := DT.head_of h hor hh
      simp only [DT.vc, q4] at q1
      exact ⟨r, o, q4, q1, q2, q3⟩
    have hpos : ∃ f, fuel = f + 1 := by
      cases hl : Region.ready .any ops listed with
      | nil => exact absurd hl hne
      | cons j l =>
        obtain ⟨r, o, _, _, _, q⟩ := each j (by rw [hl]; simp)
        exact ⟨fuel - 1, by omega⟩
    obtain ⟨fuel, rfl⟩ := hpos
    refine ⟨fun h0 => absurd h0 hne, fun j hj => ?_⟩
    obtain ⟨r, o, ho, hvc, hrest, hdep⟩ := each j hj
    have hlt : m - 1 < m := by omega
    have ih := fun s a w E F hn hs h => draw_soundT hd hsel hQ (m - 1) r (by omega) (listed.setIfInBounds j true) s a w E F K hn hs h hrest hq fuel (by omega)
    rcases op_sound (Q := Q) hs (fun d hd' => by rw [hn]; exact dstsOk_spec hd ho d hd') hvc with ⟨v, s', hK, hs', hw⟩ | ⟨hnq, hw⟩
    · have ih' := ih s' _ w E F (by rw [size_put]; exact hn) hs' hK
      have hy : YieldsK P ops w o v a := hw
      exact hy.wpOp ho ⟨.inr (Keep.refl w), ih'⟩
    · unfold wpOp
      simp only [ho]
      rcases hw with ⟨hw, hwp⟩ | ⟨hw, s', F', hK, hs'⟩
      · rw [hw, if_pos rfl]
        refine .inl (Oper.wp_mono (fun a' w' ⟨hkt, v, s', E', F', ha, hK, hs'⟩ => ?_) hwp)
        subst ha
        exact ⟨by simpa [ho] using hkt, ih s' _ w' E' F' (by rw [size_put]; exact hn) hs' hK⟩
      · rw [hw]
        exact ⟨.inr (Keep.refl w), ih s' _ w E F' (by rw [size_put]; exact hn) hs' hK⟩
  termination_by m => m

end Go.Aw
