/-
  Plain laws of shifted clouds. No condition.
-/
import Derived.Test.YtecindhbaekncaaPxH11
import Derived.Test.YtecindhbaekncaaPcD
namespace Go.Aw
set_option linter.unusedSimpArgs false
set_option linter.unusedVariables false
open Go.RowKit Go.Proofs Go.Rg Go.Seg

theorem map_sh (x y : Int) (l : List Pt) : (l.map (sh x y)).map ptS = (l.map ptS).map (shS (x, y)) := by
  rw [List.map_map, List.map_map]
  rfl
theorem sh_back (x y : Int) (l : List Pt) : (l.map (sh x y)).map (sh (-x) (-y)) = l := by
  rw [List.map_map]
  refine (List.map_congr_left (g := id) fun p _ => ?_).trans (List.map_id _)
  simp only [Function.comp, sh, id]
  rw [show p.1 + x + -x = p.1 by omega, show p.2.1 + y + -y = p.2.1 by omega]
theorem check_ok {l : List Pt} (hc : check l = 0) : l.length ≤ 1000 ∧ ∀ p, p ∈ l → okP p = true := by
  refine ⟨check_len hc, fun p hp => (ok_bd hc hp).1⟩
theorem check_mk {l : List Pt} (hl : l.length ≤ 1000) (h : ∀ p, p ∈ l → okP p = true) : check l = 0 := by
  unfold check
  rw [if_neg (by omega), if_pos (List.all_eq_true.2 h)]
/-- Small enough for a shift of at most 1000. -/
def smallP (l : List Pt) : Prop := ∀ p, p ∈ l → -3000 ≤ p.1 ∧ p.1 ≤ 3000 ∧ -3000 ≤ p.2.1 ∧ p.2.1 ≤ 3000
theorem fair_small {x y : Int} (h1 : -4000 ≤ x ∧ x ≤ 4000) (h2 : -4000 ≤ y ∧ y ≤ 4000) : fair x y = true := fair_iff.2 (by omega)
theorem check_sh {l : List Pt} {x y : Int} (hc : check l = 0) (hs : smallP l) (hx : -1000 ≤ x ∧ x ≤ 1000) (hy : -1000 ≤ y ∧ y ≤ 1000) : check (l.map (sh x y)) = 0 := by
  obtain ⟨h1, h2⟩ := check_ok hc
  refine check_mk (by simpa using h1) fun q hq => ?_
  obtain ⟨p, hp, rfl⟩ := List.mem_map.1 hq
  have h3 := h2 p hp
  have h4 := hs p hp
  have h5 : fair (p.1 + x) (p.2.1 + y) = true := fair_small (by omega) (by omega)
  simp only [okP, sh, h5, Bool.true_and, Bool.and_eq_true] at h3 ⊢
  exact h3.2
theorem shifts_there {l : List Pt} {x y : Int} (hc : check l = 0) (hs : smallP l) (hx : -1000 ≤ x ∧ x ≤ 1000) (hy : -1000 ≤ y ∧ y ≤ 1000) : shifts l x y = (l.map (sh x y), 0) := by
  have h1 : farV x y = false := by simp [farV]; omega
  have h2 : l.all (shOk x y) = true := by
    rw [List.all_eq_true]
    intro p hp
    have := hs p hp
    exact fair_small (by omega) (by omega)
  simp [shifts, hc, h1, h2]
theorem shifts_back {l : List Pt} {x y : Int} (hc : check l = 0) (hs : smallP l) (hx : -1000 ≤ x ∧ x ≤ 1000) (hy : -1000 ≤ y ∧ y ≤ 1000) : shifts (l.map (sh x y)) (-x) (-y) = (l, 0) := by
  have h0 := check_sh hc hs hx hy
  have h1 : farV (-x) (-y) = false := by simp [farV]; omega
  have h2 : (l.map (sh x y)).all (shOk (-x) (-y)) = true := by
    rw [List.all_eq_true]
    intro q hq
    obtain ⟨p, hp, rfl⟩ := List.mem_map.1 hq
    have := hs p hp
    simp only [shOk, sh]
    exact fair_small (by omega) (by omega)
  simp only [shifts, h0, h1, h2, sh_back]
  simp
theorem near_sh {l : List Pt} {x y : Int} (hc : check l = 0) (hs : smallP l) (hx : -1000 ≤ x ∧ x ≤ 1000) (hy : -1000 ≤ y ∧ y ≤ 1000) (gap : Int) : near (l.map (sh x y)) gap = near l gap := by
  have h0 := check_sh hc hs hx hy
  have key : ∀ i j p q, l[i]? = some p → l[j]? = some q → dist2 (ptS (sh x y p)) (ptS (sh x y q)) = dist2 (ptS p) (ptS q) := fun i j p q hi hj => by
    have a1 := check_fair hc hi
    have a2 := check_fair hc hj
    have b1 := check_fair (ps := l.map (sh x y)) h0 (i := i) (p := sh x y p) (by rw [List.getElem?_map, hi]; rfl)
    have b2 := check_fair (ps := l.map (sh x y)) h0 (i := j) (p := sh x y q) (by rw [List.getElem?_map, hj]; rfl)
    unfold dist2
    have c1 : (fair (ptS (sh x y p)).1 (ptS (sh x y p)).2 && fair (ptS (sh x y q)).1 (ptS (sh x y q)).2) = true := by
      simp only [ptS]
      rw [b1, b2]
      rfl
    have c2 : (fair (ptS p).1 (ptS p).2 && fair (ptS q).1 (ptS q).2) = true := by
      simp only [ptS]
      rw [a1, a2]
      rfl
    rw [if_pos c1, if_pos c2]
    simp only [sh, ptS]
    rw [show q.1 + x - (p.1 + x) = q.1 - p.1 by omega, show q.2.1 + y - (p.2.1 + y) = q.2.1 - p.2.1 by omega]
  funext i j
  apply propext
  constructor
  · rintro ⟨p, q, h1, h2, h3⟩
    simp only [List.getElem?_map, Option.map_eq_some_iff] at h1 h2
    obtain ⟨p, h1, rfl⟩ := h1
    obtain ⟨q, h2, rfl⟩ := h2
    rw [key i j p q h1 h2] at h3
    exact ⟨p, q, h1, h2, h3⟩
  · rintro ⟨p, q, h1, h2, h3⟩
    exact ⟨sh x y p, sh x y q, by rw [List.getElem?_map, h1]; rfl, by rw [List.getElem?_map, h2]; rfl, by rw [key i j p q h1 h2]; exact h3⟩
theorem segs_sh {l : List Pt} {x y : Int} (hc : check l = 0) (hs : smallP l) (hx : -1000 ≤ x ∧ x ≤ 1000) (hy : -1000 ≤ y ∧ y ≤ 1000) {gap : Int} {gs : List (List Nat)} (h : IsSegs l gap gs) : IsSegs (l.map (sh x y)) gap gs ∧ segErr (l.map (sh x y)) gap = segErr l gap := by
  have h0 := check_sh hc hs hx hy
  have he : segErr (l.map (sh x y)) gap = segErr l gap := by simp [segErr, hc, h0]
  refine ⟨fun f hf => ?_, he⟩
  rw [he, List.length_map] at *
  rw [near_sh hc hs hx hy] at hf
  exact h f hf
/-- The window of a shift. -/
def winV (x y : Int) : Int := max (max (max x (-x)) y) (-y)
theorem yes_all {ps : List Pt} {is : Pt → Bool} (h : ∀ p, p ∈ ps → is p = true) : (yes ps is ps.length).length = ps.length := by
  have : yes ps is ps.length = List.range ps.length := by
    unfold yes
    rw [List.filter_eq_self]
    intro i hi
    have hlt := List.mem_range.1 hi
    rw [List.getElem?_eq_getElem hlt]
    exact h _ (List.getElem_mem hlt)
  rw [this, List.length_range]
theorem reg_all {l : List Pt} {x y s : Int} (hs0 : 0 ≤ s) : cN l (l.map (sh x y)) s (regBest l (l.map (sh x y)) (winV x y) s) = l.length := by
  have hle : cN l (l.map (sh x y)) s (regBest l (l.map (sh x y)) (winV x y) s) ≤ l.length := by
    unfold cN cnt
    have := yes_len (l.map (sh x y)) (fun p => l.any (hit (regBest l (l.map (sh x y)) (winV x y) s).1 (regBest l (l.map (sh x y)) (winV x y) s).2 s p)) (l.map (sh x y)).length
    rw [List.length_map] at this
    simp only [List.length_map] at this ⊢
    omega
  have hall : cN l (l.map (sh x y)) s (-x, -y) = l.length := by
    unfold cN cnt
    have := yes_all (ps := l.map (sh x y)) (is := fun p => l.any (hit (-x) (-y) s p)) fun q hq => by
      obtain ⟨p, hp, rfl⟩ := List.mem_map.1 hq
      rw [List.any_eq_true]
      refine ⟨p, hp, ?_⟩
      refine decide_eq_true ?_
      simp only [sh]
      omega
    rw [this, List.length_map]
  have hb := regBest_best l (l.map (sh x y)) (winV x y) s
  match l with
  | [] => exact Int.le_antisymm hle (by simp only [cN]; simp)
  | p :: t =>
    have hin : (-x, -y) ∈ cands (winV x y) (p :: t) ((p :: t).map (sh x y)) := by
      simp only [cands, List.mem_cons, List.mem_flatMap, row, List.mem_filter, List.mem_map]
      refine .inr ⟨p, .inl rfl, ⟨sh x y p, ⟨p, .inl rfl, rfl⟩, ?_⟩, ?_⟩
      · simp only [diff, sh]
        exact Prod.ext (by show p.1 - (p.1 + x) = -x; omega) (by show p.2.1 - (p.2.1 + y) = -y; omega)
      · refine decide_eq_true ?_
        simp only [inW, winV]
        omega
    have := hb.2 _ hin
    rw [hall] at this
    rcases Int.lt_or_le (cN (p :: t) ((p :: t).map (sh x y)) s (regBest (p :: t) ((p :: t).map (sh x y)) (winV x y) s)) ((p :: t).length : Nat) with h | h
    · exact absurd (.inl h) this
    · exact Int.le_antisymm hle h
theorem area_shV {S H : List Sp} {v : Sp} (h1 : cornersV H = true) (h2 : cornersV (H.map (shS v)) = true) : area2V (H.map (shS v)) = area2V H := by
  unfold area2V
  rw [h1, h2, List.length_map, area_sh]
theorem corners_of {S H : List Sp} (hH : isHull S H) (hf : ∀ p, p ∈ S → fairS p = true) (hl : H.length ≤ 1000) : cornersV H = true := by
  simp only [cornersV, Bool.and_eq_true, decide_eq_true_eq, List.all_eq_true]
  exact ⟨hl, fun q hq => hf q (isHull_sub hH q hq)⟩
end Go.Aw
