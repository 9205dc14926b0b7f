/-
  Plain laws of reduced clouds: one point of each cell, as fast as the fastest. No condition.
-/
import Derived.Test.YtecindhbaekncaaPcD
namespace Go.Aw
set_option linter.unusedSimpArgs false
set_option linter.unusedVariables false
open Go.Rg

def ptAt (ps : List Pt) (i : Nat) : Pt := ps[i]?.getD (0, 0, 0)
def maxV (ps : List Pt) (l : List Nat) (v : Int) : Int := l.foldl (fun v i => max v (ptAt ps i).2.2) v
theorem maxV_snoc (ps : List Pt) (l : List Nat) (i : Nat) (v : Int) : maxV ps (l ++ [i]) v = max (maxV ps l v) (ptAt ps i).2.2 := by simp [maxV]
theorem maxV_ge (ps : List Pt) : ∀ (l : List Nat) (v : Int), v ≤ maxV ps l v
  | [], v => Int.le_refl _
  | i :: l, v => by
    have := maxV_ge ps l (max v (ptAt ps i).2.2)
    simp only [maxV, List.foldl_cons] at this ⊢
    omega
theorem maxV_mem (ps : List Pt) : ∀ (l : List Nat) (v : Int) {i : Nat}, i ∈ l → (ptAt ps i).2.2 ≤ maxV ps l v
  | i :: l, v, j, h => by
    rcases List.mem_cons.1 h with rfl | h
    · have := maxV_ge ps l (max v (ptAt ps j).2.2)
      simp only [maxV, List.foldl_cons] at this ⊢
      omega
    · have := maxV_mem ps l (max v (ptAt ps i).2.2) h
      simpa only [maxV, List.foldl_cons] using this
theorem maxV_le (ps : List Pt) (M : Int) : ∀ (l : List Nat) (v : Int), v ≤ M → (∀ i, i ∈ l → (ptAt ps i).2.2 ≤ M) → maxV ps l v ≤ M
  | [], v, h, _ => h
  | i :: l, v, h, hl => by
    have := maxV_le ps M l (max v (ptAt ps i).2.2) (by have := hl i (by simp); omega) fun j hj => hl j (by simp [hj])
    simpa only [maxV, List.foldl_cons] using this
def cellAt (cs : List Sp) (i : Nat) : Sp := cs[i]?.getD (0, 0)
/-- The point of a bucket. -/
def redP (ps : List Pt) (b : Bk) : Pt := ((ptAt ps (fstN b)).1, (ptAt ps (fstN b)).2.1, maxV ps b.2 (ptAt ps (fstN b)).2.2)
def redI (ps : List Pt) (cs : List Sp) (i : Nat) : Pt := ((ptAt ps i).1, (ptAt ps i).2.1, maxV ps (idxS cs (cellAt cs i)) (ptAt ps i).2.2)
def redS (ps : List Pt) (size : Int) : List Pt := (firstsN (ps.map (cellP size))).map (redI ps (ps.map (cellP size)))
theorem fst_of {cs : List Sp} {i : Nat} (h : i ∈ firstsN cs) : fstN (cellAt cs i, idxS cs (cellAt cs i)) = i := by
  obtain ⟨hi, hf⟩ := firstsN_mem.1 h
  have hc : cs[i]? = some (cellAt cs i) := by simp [cellAt, List.getElem?_eq_getElem hi]
  have hm : cellAt cs i ∈ cs := List.mem_of_getElem? hc
  obtain ⟨h1, h2⟩ := fstN_of (b := (cellAt cs i, idxS cs (cellAt cs i))) hm rfl
  obtain ⟨h3, h4⟩ := firstsN_mem.1 h1
  generalize fstN (cellAt cs i, idxS cs (cellAt cs i)) = k at *
  dsimp only at h2
  rcases Nat.lt_trichotomy k i with h | h | h
  · exact absurd (h2.trans hc.symm) (hf k h)
  · exact h
  · exact absurd (hc.trans h2.symm) (h4 i h)
theorem red_byFirst (ps : List Pt) (size : Int) : (byFirst (ps.map (cellP size))).map (redP ps) = redS ps size := by
  simp only [redS, byFirst, List.map_map]
  apply List.map_congr_left
  intro i hi
  have := fst_of hi
  simp only [cellAt] at this
  simp only [Function.comp, redP, redI, this, cellAt]
theorem redS_len (ps : List Pt) (size : Int) : (redS ps size).length ≤ ps.length := by
  simp only [redS, List.length_map, firstsN]
  exact Nat.le_trans (List.length_filter_le _ _) (by simp)
theorem red_nodup {ps : List Pt} {size : Int} (h : (ps.map (cellP size)).Nodup) : redS ps size = ps := by
  generalize hcs : ps.map (cellP size) = cs at h
  have hl : cs.length = ps.length := by rw [← hcs, List.length_map]
  have hp := List.pairwise_iff_getElem.1 h
  have hf : firstsN cs = List.range cs.length := by
    unfold firstsN
    rw [List.filter_eq_self]
    intro i hi
    have hi := List.mem_range.1 hi
    rw [decide_eq_true_eq]
    intro k hk e
    rw [List.getElem?_eq_getElem hi, List.getElem?_eq_getElem (by omega), Option.some.injEq] at e
    exact hp k i (by omega) hi hk e
  have hx : ∀ i, i < cs.length → ∀ j, j ∈ idxS cs (cellAt cs i) → j = i := fun i hi j hj => by
    have hj := idxS_mem.1 hj
    simp only [cellAt, List.getElem?_eq_getElem hi, Option.getD_some] at hj
    obtain ⟨hjl, e⟩ := List.getElem?_eq_some_iff.1 hj
    rcases Nat.lt_trichotomy j i with h1 | h1 | h1
    · exact absurd e (hp j i hjl hi h1)
    · exact h1
    · exact absurd e.symm (hp i j hi hjl h1)
  unfold redS
  rw [hcs, hf, hl]
  apply List.ext_getElem?
  intro i
  rw [List.getElem?_map]
  by_cases hi : i < ps.length
  · rw [List.getElem?_range hi, List.getElem?_eq_getElem hi]
    have e : ptAt ps i = ps[i] := by simp [ptAt, List.getElem?_eq_getElem hi]
    have e2 : maxV ps (idxS cs (cellAt cs i)) (ptAt ps i).2.2 = (ptAt ps i).2.2 := by
      have h1 := maxV_ge ps (idxS cs (cellAt cs i)) (ptAt ps i).2.2
      have h2 := maxV_le ps (ptAt ps i).2.2 (idxS cs (cellAt cs i)) (ptAt ps i).2.2 (Int.le_refl _) fun j hj => by rw [hx i (by omega) j hj]; exact Int.le_refl _
      omega
    rw [e] at e2
    simp only [Option.map_some, redI, e, e2]
  · rw [List.getElem?_eq_none (by simp; omega), List.getElem?_eq_none (by omega)]
    rfl
theorem red_cells (ps : List Pt) (size : Int) : (redS ps size).map (cellP size) = (firstsN (ps.map (cellP size))).map (cellAt (ps.map (cellP size))) := by
  simp only [redS, List.map_map]
  apply List.map_congr_left
  intro i hi
  have hi := (firstsN_mem.1 hi).1
  rw [List.length_map] at hi
  simp [redI, cellP, cellAt, ptAt, List.getElem?_eq_getElem hi]
theorem red_again (ps : List Pt) (size : Int) : redS (redS ps size) size = redS ps size := by
  refine red_nodup ?_
  rw [red_cells, List.nodup_iff_pairwise_ne, List.pairwise_map]
  have h1 : (firstsN (ps.map (cellP size))).Pairwise fun i j => i < j ∧ j ∈ firstsN (ps.map (cellP size)) ∧ i ∈ firstsN (ps.map (cellP size)) := by
    rw [List.pairwise_iff_getElem]
    intro i j hi hj hij
    exact ⟨List.pairwise_iff_getElem.1 (firstsN_asc _) i j hi hj hij, List.getElem_mem hj, List.getElem_mem hi⟩
  refine h1.imp fun {i j} h e => ?_
  obtain ⟨h2, h3, h4⟩ := h
  obtain ⟨h5, h6⟩ := firstsN_mem.1 h3
  obtain ⟨h7, _⟩ := firstsN_mem.1 h4
  refine h6 i h2 ?_
  simp only [cellAt, List.getElem?_eq_getElem h5, List.getElem?_eq_getElem h7, Option.getD_some] at e
  rw [List.getElem?_eq_getElem h5, List.getElem?_eq_getElem h7, e]
/-- What a point of the reduced cloud has of the cloud. -/
theorem red_from {ps : List Pt} {size : Int} {r : Pt} (h : r ∈ redS ps size) : ∃ i, ∃ hi : i < ps.length, r.1 = ps[i].1 ∧ r.2.1 = ps[i].2.1 ∧ (∃ j, ∃ hj : j < ps.length, r.2.2 = ps[j].2.2) := by
  obtain ⟨i, hi, rfl⟩ := List.mem_map.1 h
  have hi := (firstsN_mem.1 hi).1
  rw [List.length_map] at hi
  have e : ptAt ps i = ps[i] := by simp [ptAt, List.getElem?_eq_getElem hi]
  refine ⟨i, hi, by simp [redI, e], by simp [redI, e], ?_⟩
  have key : ∀ (l : List Nat) (v : Int), (∀ j, j ∈ l → j < ps.length) → maxV ps l v = v ∨ ∃ j, ∃ hj : j < ps.length, maxV ps l v = ps[j].2.2 := by
    intro l
    induction l with
    | nil => exact fun v _ => .inl rfl
    | cons k l ih =>
      intro v hl
      have hk := hl k (by simp)
      have ek : ptAt ps k = ps[k] := by simp [ptAt, List.getElem?_eq_getElem hk]
      rcases ih (max v (ptAt ps k).2.2) fun j hj => hl j (by simp [hj]) with h1 | h1
      · have h1 : maxV ps (k :: l) v = max v (ptAt ps k).2.2 := h1
        rw [h1, ek]
        rcases Int.le_total v ps[k].2.2 with h2 | h2
        · exact .inr ⟨k, hk, by omega⟩
        · exact .inl (by omega)
      · exact .inr h1
  simp only [redI]
  rcases key (idxS (ps.map (cellP size)) (cellAt (ps.map (cellP size)) i)) (ptAt ps i).2.2 (fun j hj => by
    have := (List.getElem?_eq_some_iff.1 (idxS_mem.1 hj)).1
    simpa using this) with h1 | h1
  · exact ⟨i, hi, by rw [h1, e]⟩
  · exact h1
/-- Each point has one of its cell that is as fast. -/
theorem red_near {ps : List Pt} {size : Int} {i : Nat} (hi : i < ps.length) : ∃ r, r ∈ redS ps size ∧ cellP size r = cellP size ps[i] ∧ ps[i].2.2 ≤ r.2.2 := by
  have hc : (ps.map (cellP size))[i]? = some (cellP size ps[i]) := by rw [List.getElem?_map, List.getElem?_eq_getElem hi]; rfl
  obtain ⟨k, t, h1, h2, h3⟩ := idxS_first (List.mem_of_getElem? hc)
  have hk := (firstsN_mem.1 h2).1
  rw [List.length_map] at hk
  refine ⟨redI ps (ps.map (cellP size)) k, List.mem_map_of_mem h2, ?_, ?_⟩
  · have e : cellP size (redI ps (ps.map (cellP size)) k) = cellP size ps[k] := by simp [redI, cellP, ptAt, List.getElem?_eq_getElem hk]
    rw [e]
    rw [List.getElem?_map, List.getElem?_eq_getElem hk] at h3
    simpa using h3
  · have e : cellAt (ps.map (cellP size)) k = cellP size ps[i] := by simp [cellAt, h3]
    simp only [redI, e]
    have := maxV_mem ps (idxS (ps.map (cellP size)) (cellP size ps[i])) (ptAt ps k).2.2 (idxS_mem.2 hc)
    rw [show ptAt ps i = ps[i] by simp [ptAt, List.getElem?_eq_getElem hi]] at this
    exact this
theorem flD_near {a b s : Int} (hs : 1 ≤ s) (h : flD a s = flD b s) : -(s - 1) ≤ a - b ∧ a - b ≤ s - 1 := by
  have h1 := flD_bounds (a := a) (b := s) (by omega)
  have h2 := flD_bounds (a := b) (b := s) (by omega)
  rw [h] at h1
  omega
theorem sq_near {d m : Int} (h : -m ≤ d ∧ d ≤ m) : d * d ≤ m * m := by
  rcases Int.le_total 0 d with h1 | h1
  · exact Int.mul_le_mul h.2 h.2 h1 (by omega)
  · have := Int.mul_le_mul (show -d ≤ m by omega) (show -d ≤ m by omega) (by omega) (by omega)
    rwa [Int.neg_mul_neg] at this
end Go.Aw
