/-
  What the chapter's examples give, in plain Lean. No condition.
-/
import Derived.Test.YtecindhbaekncaaGreatPxF10
import Derived.Test.YtecindhbaekncaaGreatPxH10
import Derived.Test.YtecindhbaekncaaGreatPxH5i
import Derived.Test.YtecindhbaekncaaGreatPxI13
import Derived.Test.YtecindhbaekncaaGreatPcD
namespace Go.Aw
set_option linter.unusedSimpArgs false
set_option linter.unusedVariables false
open Go.RowKit Go.Proofs Go.Seg Go.Rg
set_option maxRecDepth 100000

def nearG (g : Int) (i j : Nat) : Bool := match shown[i]?, shown[j]? with
  | some p, some q => decide (dist2 (ptS p) (ptS q) ≤ g * g)
  | _, _ => false
theorem nearG_of {g : Int} {i j : Nat} (h : near shown g i j) : nearG g i j = true := by
  obtain ⟨p, q, h1, h2, h3⟩ := h
  simp only [nearG, h1, h2]
  exact decide_eq_true h3
theorem of_nearG {w : Int} {i j : Nat} (h : nearG w i j = true) : near shown w i j := by
  unfold nearG at h
  split at h
  · rename_i p q h1 h2
    exact ⟨p, q, h1, h2, of_decide_eq_true h⟩
  · cases h
def f499 (i : Nat) : Nat := [0, 1, 2, 2, 1].getD i i
def f2000 (i : Nat) : Nat := [0, 0, 0, 0, 0].getD i i
theorem lab499 : Lab (near shown 499) 5 f499 := by
  refine ⟨by decide, fun i hi => ?_, fun i j hi hj hn => ?_⟩
  · match i, hi with
    | 0, _ => exact .refl 0
    | 1, _ => exact .refl 1
    | 2, _ => exact .refl 2
    | 3, _ => exact .step (.refl 3) (of_nearG (by decide))
    | 4, _ => exact .step (.refl 4) (of_nearG (by decide))
  · have h := nearG_of hn
    have key : ∀ i, i < 5 → ∀ j, j < 5 → nearG 499 i j = true → f499 i = f499 j := by decide
    exact key i hi j hj h
theorem lab2000 : Lab (near shown 2000) 5 f2000 := by
  refine ⟨by decide, fun i hi => ?_, fun i j hi hj hn => ?_⟩
  · match i, hi with
    | 0, _ => exact .refl 0
    | 1, _ => exact .step (.refl 1) (of_nearG (by decide))
    | 2, _ => exact .step (.refl 2) (of_nearG (by decide))
    | 3, _ => exact .step (.step (.refl 3) (of_nearG (w := 2000) (j := 2) (by decide))) (of_nearG (by decide))
    | 4, _ => exact .step (.refl 4) (of_nearG (by decide))
  · have key : ∀ i, i < 5 → ∀ j, j < 5 → f2000 i = f2000 j := by decide
    exact key i hi j hj
theorem segs499 : IsSegs shown 499 [[0], [1, 4], [2, 3]] := by
  intro f hf
  have h0 : segErr shown 499 = 0 := by decide
  rw [if_pos h0]
  have h1 := groups_congr (lab499.unique (hf h0) near_lt)
  rw [show shown.length = 5 from rfl, ← h1]
  decide
theorem segs2000 : IsSegs shown 2000 [[0, 1, 2, 3, 4]] := by
  intro f hf
  have h0 : segErr shown 2000 = 0 := by decide
  rw [if_pos h0]
  have h1 := groups_congr (lab2000.unique (hf h0) near_lt)
  rw [show shown.length = 5 from rfl, ← h1]
  decide
theorem k_keys : IsKeys (shown.map (cellP 1000)) [(0, 0), (2, 0)] := by
  have e : shown.map (cellP 1000) = [(0, 0), (0, 0), (2, 0), (2, 0), (0, 0)] := by decide
  rw [e]
  refine ⟨by decide, fun c => ?_⟩
  simp
  constructor
  · rintro (h | h) <;> simp [h]
  · rintro (h | h | h) <;> simp [h]
theorem k_bks : bksS (shown.map (cellP 1000)) [(0, 0), (2, 0)] = [((0, 0), [0, 1, 4]), ((2, 0), [2, 3])] := by decide
theorem k_idx : idxErr shown 1000 = 0 := by decide
theorem k_idx0 : idxErr shown 0 = 2 := by decide
theorem k_near : nearL shown 0 0 500 = [0, 1, 4] := by decide
theorem k_within : withinL shown (0, 0, 300, 400) = [0, 1, 4] := by decide
theorem k_nst1 : nearestL shown 0 0 3 = [0, 1, 4] := by rw [← sel_nearest shown 0 0 3 (by decide) (by decide)]; decide
theorem k_nst2 : nearestL shown 2000 40 2 = [2, 3] := by rw [← sel_nearest shown 2000 40 2 (by decide) (by decide)]; decide
theorem k_nst3 : nearestL shown 0 0 9 = [0, 1, 4, 2, 3] := by rw [← sel_nearest shown 0 0 9 (by decide) (by decide)]; decide
theorem k_red : redOut shown 1000 = [(0, 0, 9), (2000, 0, 7)] := by decide
theorem k_bnd1 : isBnd 1 0 := by
  rw [isBnd, if_neg (by omega)]
  exact ⟨by omega, by decide, fun y h1 h2 => by omega⟩
theorem k_bnd0 : isBnd 0 0 := by rw [isBnd, if_pos (by omega)]
def hullK0 : List Sp := [(0, 0), (2000, 0), (2000, 100), (300, 400)]
theorem k_hull : isHull (shown.map ptS) hullK0 := by
  have e : shown.map ptS = [(0, 0), (300, 400), (2000, 0), (2000, 100), (300, 400)] := by decide
  rw [e]
  refine .inr (.inr ⟨(0, 0), [(2000, 0), (2000, 100), (300, 400)], rfl, by simp, by simp, ?_, ?_, by decide⟩)
  · decide
  · simp only [List.cons_append, List.nil_append, pathE]
    have key : ∀ a b : Sp, b ∈ [(0, 0), (300, 400), (2000, 0), (2000, 100), (300, 400)] → b ≠ a → ([(0, 0), (300, 400), (2000, 0), (2000, 100), (300, 400)].all fun r => decide (r = a) || decide (r = b) || decide (0 < cr a b r)) = true → Nx [(0, 0), (300, 400), (2000, 0), (2000, 100), (300, 400)] a b := fun a b h1 h2 h3 => by
      refine ⟨h1, h2, fun r hr => ?_⟩
      have := List.all_eq_true.1 h3 r hr
      simp only [Bool.or_eq_true, decide_eq_true_eq] at this
      rcases this with (h | h) | h
      · exact .inl h
      · exact .inr (.inl h)
      · exact .inr (.inr (.inl h))
    exact ⟨key _ _ (by decide) (by decide) (by decide), key _ _ (by decide) (by decide) (by decide), key _ _ (by decide) (by decide) (by decide), key _ _ (by decide) (by decide) (by decide), trivial⟩
theorem k_area : area2V hullK0 = 970000 := by decide
theorem k_ins1 : insV hullK0 (1000, 100) = true := by decide
theorem k_ins2 : insV hullK0 (1000, 300) = false := by decide
theorem k_arnd : arounds shown = ((0, 0, 2000, 400), true) := by decide
def shownM : List Pt := [(1, -1, 0), (301, 399, 5), (2001, -1, 0), (2001, 99, 7), (301, 399, 9)]
theorem k_shift : shifts shown 1 (-1) = (shownM, 0) := by decide
theorem k_reg : regOut shown shownM 10 0 = ((-1, 1), 5, 0) := by decide +kernel
theorem k_m1 : matchV shown shown 0 0 0 = 5 := by decide +kernel
theorem k_m2 : matchV shown shown 1 0 0 = 0 := by decide +kernel
theorem k_chk : check shown = 0 := by decide
theorem k_chk2 : check (List.replicate 1001 (0, 0, 0)) = 8 := by
  unfold check
  rw [if_pos (by rw [List.length_replicate]; omega)]
end Go.Aw
