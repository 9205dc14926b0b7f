/-
  Plain laws of heaps: push and pop. No condition.
-/
import Derived.Test.YtecindhbaekncaaGreatPkA
namespace Go.Heap
set_option linter.unusedSimpArgs false
set_option linter.unusedVariables false
set_option linter.unusedSectionVars false

variable {α : Type} [Inhabited α]

structure Ord (bef : α → α → Prop) : Prop where
  irr : ∀ x, ¬ bef x x
  tr : ∀ x y z, bef x y → bef y z → bef x z
  tot : ∀ x y, ¬ bef x y → ¬ bef y x → x = y

def atF (l : List α) (k : Nat) : α := l[k]?.getD default
theorem atF_get {l : List α} {k : Nat} (h : k < l.length) : atF l k = l[k] := by simp [atF, h]
def sw (l : List α) (i j : Nat) : List α := (l.set i (atF l j)).set j (atF l i)
theorem sw_len (l : List α) (i j : Nat) : (sw l i j).length = l.length := by simp [sw]
theorem sw_at {l : List α} {i j : Nat} (hi : i < l.length) (hj : j < l.length) (k : Nat) : atF (sw l i j) k = if k = j then atF l i else if k = i then atF l j else atF l k := by
  unfold sw
  simp only [atF, List.getElem?_set, List.length_set]
  by_cases h1 : k = j
  · subst h1; simp [hj]
  · rw [if_neg (fun e => h1 e.symm), if_neg h1]
    by_cases h2 : k = i
    · subst h2; simp [hi]
    · rw [if_neg (fun e => h2 e.symm), if_neg h2]
theorem sw_perm {l : List α} {i j : Nat} (hi : i < l.length) (hj : j < l.length) : (sw l i j).Perm l := by
  have h := Array.swap_perm (xs := l.toArray) (i := i) (j := j) (by simpa using hi) (by simpa using hj)
  have h2 := Array.perm_iff_toList_perm.1 h
  simpa [sw, Array.swap, atF_get hi, atF_get hj] using h2

section
variable (bef : α → α → Prop) [DecidableRel bef]

def up (l : List α) (j : Nat) : List α :=
  if h : j = 0 then l
  else if bef (atF l ((j - 1) / 2)) (atF l j) then up (sw l ((j - 1) / 2) j) ((j - 1) / 2) else l
termination_by j
decreasing_by omega
def chd (l : List α) (n i : Nat) : Nat := if 2 * i + 2 < n ∧ bef (atF l (2 * i + 1)) (atF l (2 * i + 2)) then 2 * i + 2 else 2 * i + 1
theorem chd_or (l : List α) (n i : Nat) : chd bef l n i = 2 * i + 1 ∨ chd bef l n i = 2 * i + 2 := by
  unfold chd
  split
  · exact .inr rfl
  · exact .inl rfl
theorem chd_lt {l : List α} {n i : Nat} (h : 2 * i + 1 < n) : chd bef l n i < n := by
  unfold chd
  split <;> omega
def down (l : List α) (n i : Nat) : List α :=
  if h : 2 * i + 1 < n then
    if bef (atF l i) (atF l (chd bef l n i)) then down (sw l i (chd bef l n i)) n (chd bef l n i) else l
  else l
termination_by n - i
decreasing_by
  have := chd_or bef l n i
  omega
end

variable {bef : α → α → Prop} [DecidableRel bef]

def isHeap (bef : α → α → Prop) (l : List α) (n : Nat) : Prop := ∀ k, 0 < k → k < n → ¬ bef (atF l ((k - 1) / 2)) (atF l k)
def upInv (bef : α → α → Prop) (l : List α) (n j : Nat) : Prop := (∀ k, 0 < k → k < n → k ≠ j → ¬ bef (atF l ((k - 1) / 2)) (atF l k)) ∧ (∀ k, 0 < k → k < n → (k - 1) / 2 = j → 0 < j → ¬ bef (atF l ((j - 1) / 2)) (atF l k))
def downInv (bef : α → α → Prop) (l : List α) (n i : Nat) : Prop := (∀ k, 0 < k → k < n → (k - 1) / 2 ≠ i → ¬ bef (atF l ((k - 1) / 2)) (atF l k)) ∧ (∀ k, 0 < k → k < n → (k - 1) / 2 = i → 0 < i → ¬ bef (atF l ((i - 1) / 2)) (atF l k))

theorem Ord.le_trans (O : Ord bef) {x y z : α} (h1 : ¬ bef x y) (h2 : ¬ bef y z) : ¬ bef x z := fun h => by
  by_cases h3 : bef y x
  · exact h2 (O.tr _ _ _ h3 h)
  · have := O.tot _ _ h1 h3
    subst this
    exact h2 h
theorem Ord.asymm (O : Ord bef) {x y : α} (h1 : bef x y) : ¬ bef y x := fun h => O.irr _ (O.tr _ _ _ h1 h)

theorem up_perm (l : List α) (j : Nat) (hj : j < l.length) : (up bef l j).Perm l := by
  induction j using Nat.strongRecOn generalizing l with
  | _ j ih =>
    unfold up
    split
    · exact .refl _
    · rename_i h0
      split
      · have h2 := ih ((j - 1) / 2) (by omega) (sw l ((j - 1) / 2) j) (by rw [sw_len]; omega)
        exact h2.trans (sw_perm (by omega) hj)
      · exact .refl _
theorem up_len (l : List α) (j : Nat) (hj : j < l.length) : (up bef l j).length = l.length := (up_perm l j hj).length_eq
theorem up_heap (O : Ord bef) (l : List α) (n j : Nat) (hn : n ≤ l.length) (hj : j < n) (h : upInv bef l n j) : isHeap bef (up bef l j) n := by
  induction j using Nat.strongRecOn generalizing l with
  | _ j ih =>
    obtain ⟨h1, h2⟩ := h
    unfold up
    split
    · rename_i h0
      intro k hk hkn
      exact h1 k hk hkn (by omega)
    · rename_i h0
      split
      · rename_i hb
        have hs := sw_at (l := l) (i := (j - 1) / 2) (j := j) (by omega) (by omega)
        refine ih ((j - 1) / 2) (by omega) _ (by rw [sw_len]; exact hn) (by omega) ⟨fun k hk hkn hne => ?_, fun k hk hkn hpk hi => ?_⟩
        · rw [hs, hs]
          by_cases e1 : k = j
          · subst e1
            rw [if_neg (by omega), if_pos rfl, if_pos rfl]
            exact O.asymm hb
          · rw [if_neg e1, if_neg hne]
            by_cases e2 : (k - 1) / 2 = j
            · rw [if_pos e2]
              exact h2 k hk hkn e2 (by omega)
            · rw [if_neg e2]
              by_cases e3 : (k - 1) / 2 = (j - 1) / 2
              · rw [if_pos e3]
                have := h1 k hk hkn e1
                rw [e3] at this
                exact fun hh => this (O.tr _ _ _ hb hh)
              · rw [if_neg e3]
                exact h1 k hk hkn e1
        · rw [hs, hs]
          rw [if_neg (by omega), if_neg (by omega)]
          have hpar := h1 ((j - 1) / 2) hi (by omega) (by omega)
          by_cases e1 : k = j
          · rw [if_pos e1]
            exact hpar
          · rw [if_neg e1, if_neg (by omega)]
            have := h1 k hk hkn e1
            rw [hpk] at this
            exact O.le_trans hpar this
      · rename_i hb
        intro k hk hkn
        by_cases e1 : k = j
        · subst e1; exact hb
        · exact h1 k hk hkn e1

theorem down_perm (l : List α) (n i : Nat) (hn : n ≤ l.length) : (down bef l n i).Perm l := by
  generalize hm : n - i = m
  induction m using Nat.strongRecOn generalizing l i with
  | _ m ih =>
    unfold down
    split
    · rename_i h0
      split
      · have key : ∀ j, i < j → j < n → (down bef (sw l i j) n j).Perm l := fun j hij hj => by
          have := ih (n - j) (by omega) (sw l i j) j (by rw [sw_len]; exact hn) rfl
          exact this.trans (sw_perm (by omega) (by omega))
        exact key _ (by have := chd_or bef l n i; omega) (chd_lt bef h0)
      · exact .refl _
    · exact .refl _
theorem down_len (l : List α) (n i : Nat) (hn : n ≤ l.length) : (down bef l n i).length = l.length := (down_perm l n i hn).length_eq
theorem down_out (l : List α) (n i : Nat) (hn : n ≤ l.length) (k : Nat) (hk : n ≤ k) : atF (down bef l n i) k = atF l k := by
  generalize hm : n - i = m
  induction m using Nat.strongRecOn generalizing l i with
  | _ m ih =>
    unfold down
    split
    · rename_i h0
      split
      · have key : ∀ j, i < j → j < n → atF (down bef (sw l i j) n j) k = atF l k := fun j hij hj => by
          rw [ih (n - j) (by omega) (sw l i j) j (by rw [sw_len]; exact hn) rfl, sw_at (by omega) (by omega), if_neg (by omega), if_neg (by omega)]
        exact key _ (by have := chd_or bef l n i; omega) (chd_lt bef h0)
      · rfl
    · rfl
theorem down_heap (O : Ord bef) (l : List α) (n i : Nat) (hn : n ≤ l.length) (h : downInv bef l n i) : isHeap bef (down bef l n i) n := by
  generalize hm : n - i = m
  induction m using Nat.strongRecOn generalizing l i with
  | _ m ih =>
    obtain ⟨h1, h2⟩ := h
    unfold down
    split
    · rename_i h0
      have key : ∀ j, (j = 2 * i + 1 ∨ j = 2 * i + 2) → j < n → (∀ k, 0 < k → k < n → (k - 1) / 2 = i → ¬ bef (atF l j) (atF l k)) →
          isHeap bef (if bef (atF l i) (atF l j) then down bef (sw l i j) n j else l) n := fun j hj hjn hmax => by
        split
        · rename_i hb
          have hs := sw_at (l := l) (i := i) (j := j) (by omega) (by omega)
          refine ih (n - j) (by omega) _ j (by rw [sw_len]; exact hn) ⟨fun k hk hkn hne => ?_, fun k hk hkn hpk hj0 => ?_⟩ rfl
          · rw [hs, hs, if_neg hne]
            by_cases e1 : k = j
            · subst e1
              rw [if_pos (by omega), if_pos rfl]
              exact O.asymm hb
            · rw [if_neg e1]
              by_cases e2 : k = i
              · subst e2
                rw [if_neg (by omega), if_pos rfl]
                exact h2 j (by omega) hjn (by omega) hk
              · rw [if_neg e2]
                by_cases e3 : (k - 1) / 2 = i
                · rw [if_pos e3]
                  exact hmax k hk hkn e3
                · rw [if_neg e3]
                  exact h1 k hk hkn e3
          · rw [hs, hs]
            rw [if_neg (by omega), if_pos (by omega), if_neg (by omega), if_neg (by omega)]
            have := h1 k hk hkn (by omega)
            rw [hpk] at this
            exact this
        · rename_i hb
          intro k hk hkn
          by_cases e1 : (k - 1) / 2 = i
          · rw [e1]
            exact O.le_trans hb (hmax k hk hkn e1)
          · exact h1 k hk hkn e1
      refine key _ (chd_or bef l n i) (chd_lt bef h0) fun k hk hkn hp => ?_
      have hk' : k = 2 * i + 1 ∨ k = 2 * i + 2 := by omega
      unfold chd
      by_cases hc : 2 * i + 2 < n ∧ bef (atF l (2 * i + 1)) (atF l (2 * i + 2))
      · rw [if_pos hc]
        rcases hk' with rfl | rfl
        · exact O.asymm hc.2
        · exact O.irr _
      · rw [if_neg hc]
        rcases hk' with rfl | rfl
        · exact O.irr _
        · exact fun hh => hc ⟨hkn, hh⟩
    · rename_i h0
      intro k hk hkn
      exact h1 k hk hkn (by omega)

theorem heap_max (O : Ord bef) {l : List α} {n : Nat} (h : isHeap bef l n) : ∀ k, k < n → ¬ bef (atF l 0) (atF l k) := by
  intro k
  induction k using Nat.strongRecOn with
  | _ k ih =>
    intro hk
    rcases Nat.eq_zero_or_pos k with rfl | h0
    · exact O.irr _
    · exact O.le_trans (ih ((k - 1) / 2) (by omega) (by omega)) (h k h0 hk)

def push (bef : α → α → Prop) [DecidableRel bef] (l : List α) (x : α) : List α := up bef (l ++ [x]) l.length
theorem push_spec (O : Ord bef) {l : List α} (h : isHeap bef l l.length) (x : α) : (push bef l x).Perm (x :: l) ∧ isHeap bef (push bef l x) (push bef l x).length := by
  have hp : (push bef l x).Perm (l ++ [x]) := up_perm _ _ (by simp)
  have hl := hp.length_eq
  refine ⟨hp.trans (List.perm_append_singleton x l), ?_⟩
  rw [hl]
  refine up_heap O _ _ _ (Nat.le_refl _) (by simp) ⟨fun k hk hkn hne => ?_, fun k hk hkn hpk hj => ?_⟩
  · have hk2 : k < l.length := by simp at hkn; omega
    have e : ∀ i, i < l.length → atF (l ++ [x]) i = atF l i := fun i hi => by simp [atF, List.getElem?_append_left hi]
    rw [e k hk2, e _ (by omega)]
    exact h k hk hk2
  · simp at hkn
    omega
def pop (bef : α → α → Prop) [DecidableRel bef] (l : List α) : List α := down bef (sw l 0 (l.length - 1)) (l.length - 1) 0
theorem pop_spec (O : Ord bef) {l : List α} (h : isHeap bef l l.length) (hl : 0 < l.length) :
    (pop bef l).length = l.length ∧ atF (pop bef l) (l.length - 1) = atF l 0 ∧ isHeap bef ((pop bef l).take (l.length - 1)) (l.length - 1) ∧ l.Perm (atF l 0 :: (pop bef l).take (l.length - 1)) ∧ ∀ y, y ∈ l → ¬ bef (atF l 0) y := by
  have hs := sw_at (l := l) (i := 0) (j := l.length - 1) hl (by omega)
  have hsl := sw_len l 0 (l.length - 1)
  have hperm : (pop bef l).Perm l := (down_perm _ _ _ (by omega)).trans (sw_perm hl (by omega))
  have hlen := hperm.length_eq
  have hlast : atF (pop bef l) (l.length - 1) = atF l 0 := by
    unfold pop
    rw [down_out _ _ _ (by omega) _ (Nat.le_refl _), hs, if_pos rfl]
  have hheap : isHeap bef (pop bef l) (l.length - 1) := down_heap O _ _ _ (by omega) ⟨fun k hk hkn hne => by
    rw [hs, hs, if_neg (by omega), if_neg (by omega), if_neg (by omega), if_neg (by omega)]
    exact h k hk (by omega), fun k _ _ _ h0 => by omega⟩
  refine ⟨hlen, hlast, fun k hk hkn => ?_, ?_, fun y hy => ?_⟩
  · have e : ∀ i, i < l.length - 1 → atF ((pop bef l).take (l.length - 1)) i = atF (pop bef l) i := fun i hi => by simp [atF, List.getElem?_take_of_lt hi]
    rw [e k hkn, e _ (by omega)]
    exact hheap k hk hkn
  · have e : pop bef l = (pop bef l).take (l.length - 1) ++ [atF l 0] := by
      have h1 := List.take_append_drop (l.length - 1) (pop bef l)
      rw [List.drop_eq_getElem_cons (by omega), List.drop_eq_nil_of_le (by omega), ← atF_get (by omega), hlast] at h1
      exact h1.symm
    have h2 : (pop bef l).Perm (atF l 0 :: (pop bef l).take (l.length - 1)) := by
      rw [e]
      simp only [List.take_left' (show ((pop bef l).take (l.length - 1)).length = l.length - 1 by rw [List.length_take]; omega)]
      exact List.perm_append_singleton _ _
    exact hperm.symm.trans h2
  · obtain ⟨k, hk, rfl⟩ := List.getElem_of_mem hy
    rw [← atF_get hk]
    exact heap_max O h k hk
end Go.Heap
