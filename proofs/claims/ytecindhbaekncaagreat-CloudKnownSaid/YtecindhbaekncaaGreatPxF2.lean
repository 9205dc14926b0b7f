/-
  Plain laws of the first ones of a list, kept by a heap. No condition.
-/
import Derived.Test.YtecindhbaekncaaGreatPxF1
namespace Go.Heap
set_option linter.unusedSimpArgs false
set_option linter.unusedVariables false
set_option linter.unusedSectionVars false
section
variable {α : Type} [Inhabited α] {bef : α → α → Prop} [DecidableRel bef]

structure Near (bef : α → α → Prop) (S L : List α) : Prop where
  ex : ∃ R, (L ++ R).Perm S ∧ ∀ r, r ∈ R → ∀ o, o ∈ L → bef o r
  so : L.Pairwise bef
theorem near_uniq (O : Ord bef) : ∀ {L1 L2 R1 R2 : List α}, (L1 ++ R1).Perm (L2 ++ R2) → L1.Pairwise bef → L2.Pairwise bef → (∀ r, r ∈ R1 → ∀ o, o ∈ L1 → bef o r) → (∀ r, r ∈ R2 → ∀ o, o ∈ L2 → bef o r) → L1.length = L2.length → L1 = L2
  | [], [], _, _, _, _, _, _, _, _ => rfl
  | [], _ :: _, _, _, _, _, _, _, _, h => by cases h
  | _ :: _, [], _, _, _, _, _, _, _, h => by cases h
  | a :: t1, b :: t2, R1, R2, hp, s1, s2, r1, r2, hl => by
    have m1 : ∀ y, y ∈ a :: t1 ++ R1 → y = a ∨ bef a y := fun y hy => by
      rcases List.mem_append.1 hy with hy | hy
      · rcases List.mem_cons.1 hy with rfl | hy
        · exact .inl rfl
        · exact .inr ((List.pairwise_cons.1 s1).1 y hy)
      · exact .inr (r1 y hy a (by simp))
    have m2 : ∀ y, y ∈ b :: t2 ++ R2 → y = b ∨ bef b y := fun y hy => by
      rcases List.mem_append.1 hy with hy | hy
      · rcases List.mem_cons.1 hy with rfl | hy
        · exact .inl rfl
        · exact .inr ((List.pairwise_cons.1 s2).1 y hy)
      · exact .inr (r2 y hy b (by simp))
    have e : a = b := by
      rcases m1 b (hp.mem_iff.2 (by simp)) with h1 | h1
      · exact h1.symm
      · rcases m2 a (hp.mem_iff.1 (by simp)) with h2 | h2
        · exact h2
        · exact absurd (O.tr _ _ _ h1 h2) (O.irr a)
    subst e
    have := near_uniq O (L1 := t1) (L2 := t2) (R1 := R1) (R2 := R2) (List.Perm.cons_inv hp) (List.pairwise_cons.1 s1).2 (List.pairwise_cons.1 s2).2
      (fun r hr o ho => r1 r hr o (List.mem_cons_of_mem _ ho)) (fun r hr o ho => r2 r hr o (List.mem_cons_of_mem _ ho)) (by simpa using hl)
    rw [this]
theorem Near.uniq (O : Ord bef) {S L1 L2 : List α} (h1 : Near bef S L1) (h2 : Near bef S L2) (hl : L1.length = L2.length) : L1 = L2 := by
  obtain ⟨R1, p1, q1⟩ := h1.ex
  obtain ⟨R2, p2, q2⟩ := h2.ex
  exact near_uniq O (p1.trans p2.symm) h1.so h2.so q1 q2 hl
structure Keeps (bef : α → α → Prop) (k : Nat) (S h : List α) : Prop where
  heap : isHeap bef h h.length
  len : h.length = min k S.length
  ex : ∃ R, (h ++ R).Perm S ∧ ∀ r, r ∈ R → ∀ o, o ∈ h → bef o r
def step (bef : α → α → Prop) [DecidableRel bef] (k : Nat) (h : List α) (x : α) : List α :=
  if k < (push bef h x).length then (pop bef (push bef h x)).take ((push bef h x).length - 1) else push bef h x
theorem keeps_nil (k : Nat) : Keeps bef k ([] : List α) [] := ⟨fun k _ h => by simp at h, by simp, [], by simp, by simp⟩
theorem keeps_step (O : Ord bef) {k : Nat} (hk : 0 < k) {S h : List α} (hh : Keeps bef k S h) {x : α} (hx : (S ++ [x]).Nodup) : Keeps bef k (S ++ [x]) (step bef k h x) := by
  obtain ⟨hp, hl, R, hR, hb⟩ := hh
  obtain ⟨p1, p2⟩ := push_spec O hp x
  have pl := p1.length_eq
  simp only [List.length_cons] at pl
  have hRl := hR.length_eq
  rw [List.length_append] at hRl
  unfold step
  split
  · rename_i hlt
    have hle : h.length = k := by omega
    obtain ⟨o1, o2, o3, o4, o5⟩ := pop_spec O p2 (by omega)
    generalize push bef h x = q at *
    have hlen : ((pop bef q).take (q.length - 1)).length = q.length - 1 := by rw [List.length_take]; omega
    generalize (pop bef q).take (q.length - 1) = rest at *
    generalize atF q 0 = m at *
    have hall : (m :: rest ++ R).Perm (S ++ [x]) := by
      have h1 : (m :: rest).Perm (x :: h) := o4.symm.trans p1
      have h2 : (x :: h ++ R).Perm (x :: S) := List.Perm.cons x hR
      exact ((h1.append_right R).trans h2).trans (List.perm_append_singleton x S).symm
    have hnd : (m :: rest ++ R).Nodup := hall.nodup_iff.2 hx
    have hmr : ∀ y, y ∈ rest → bef y m := fun y hy => by
      have hne : m ≠ y := fun e => by
        subst e
        have := (List.nodup_cons.1 (List.nodup_append.1 hnd).1).1
        exact this hy
      have h1 := o5 y (o4.mem_iff.2 (List.mem_cons_of_mem _ hy))
      by_cases h2 : bef y m
      · exact h2
      · exact absurd (O.tot _ _ h1 h2) hne
    refine ⟨by rw [hlen]; exact o3, by rw [hlen, List.length_append, List.length_singleton]; omega, m :: R, ?_, fun r hr o ho => ?_⟩
    · exact (List.perm_middle).trans hall
    · rcases List.mem_cons.1 hr with rfl | hr
      · exact hmr o ho
      · have hin : ∀ y, y ∈ m :: rest → y = x ∨ y ∈ h := fun y hy => List.mem_cons.1 (p1.mem_iff.1 (o4.mem_iff.2 hy))
        rcases hin o (List.mem_cons_of_mem _ ho) with rfl | h1
        · rcases hin m (by simp) with h2 | h2
          · exact absurd (h2 ▸ hmr o ho) (O.irr _)
          · exact O.tr _ _ _ (hmr o ho) (hb r hr m h2)
        · exact hb r hr o h1
  · rename_i hlt
    have hR0 : R = [] := by
      rw [← List.length_eq_zero_iff]
      omega
    subst hR0
    rw [List.append_nil] at hR
    refine ⟨p2, by rw [pl, List.length_append, List.length_singleton]; omega, [], ?_, by simp⟩
    rw [List.append_nil]
    exact (p1.trans (List.Perm.cons x hR)).trans (List.perm_append_singleton x S).symm
structure Empties (bef : α → α → Prop) (T h o : List α) : Prop where
  heap : isHeap bef h h.length
  perm : (h ++ o).Perm T
  so : o.Pairwise bef
  lt : ∀ x, x ∈ h → ∀ y, y ∈ o → bef x y
theorem empties_step (O : Ord bef) {T h o : List α} (hT : T.Nodup) (he : Empties bef T h o) (hl : 0 < h.length) : Empties bef T ((pop bef h).take (h.length - 1)) (atF h 0 :: o) ∧ ((pop bef h).take (h.length - 1)).length = h.length - 1 := by
  obtain ⟨e1, e2, e3, e4⟩ := he
  obtain ⟨o1, o2, o3, o4, o5⟩ := pop_spec O e1 hl
  have hlen : ((pop bef h).take (h.length - 1)).length = h.length - 1 := by rw [List.length_take]; omega
  generalize (pop bef h).take (h.length - 1) = rest at *
  generalize atF h 0 = m at *
  have hall : (rest ++ m :: o).Perm T := List.perm_middle.trans ((o4.symm.append_right o).trans e2)
  have hnd : (rest ++ m :: o).Nodup := hall.nodup_iff.2 hT
  refine ⟨⟨by rw [hlen]; exact o3, hall, ?_, fun x hx y hy => ?_⟩, hlen⟩
  · refine List.pairwise_cons.2 ⟨fun y hy => e4 m (o4.mem_iff.2 (by simp)) y hy, e3⟩
  · rcases List.mem_cons.1 hy with rfl | hy
    · have h1 := o5 x (o4.mem_iff.2 (List.mem_cons_of_mem _ hx))
      by_cases h2 : bef x y
      · exact h2
      · have := O.tot _ _ h1 h2
        subst this
        exact absurd rfl ((List.nodup_append.1 hnd).2.2 y hx y (by simp))
    · exact e4 x (o4.mem_iff.2 (List.mem_cons_of_mem _ hx)) y hy
end
end Go.Heap
