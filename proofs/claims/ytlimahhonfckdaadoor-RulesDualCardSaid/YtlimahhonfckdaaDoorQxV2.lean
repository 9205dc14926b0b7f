/-
  Operators that say the same. Plain Lean; no condition.
-/
import Derived.Test.YtlimahhonfckdaaDoorQuBr
namespace Go.Aw
set_option linter.unusedSimpArgs false
set_option linter.unusedVariables false

theorem ntV_ntV {v : Nat} (h : v ≤ 2) : ntV (ntV v) = v := by
  rcases vd_cases h with rfl | rfl | rfl <;> rfl
theorem bothV_one {v : Nat} (h : v ≤ 2) : bothV 1 v = v := by
  rcases vd_cases h with rfl | rfl | rfl <;> rfl
theorem eithV_zero {v : Nat} (h : v ≤ 2) : eithV 0 v = v := by
  rcases vd_cases h with rfl | rfl | rfl <;> rfl
theorem allS_dual {g : Nat → Nat} (hg : ∀ j, g j ≤ 2) : ∀ k : Nat, allS g k = ntV (anyS (fun j => ntV (g j)) k)
  | 0 => rfl
  | k + 1 => by
    rw [allS, anyS, eithV, ntV_ntV (bothV_le _ _), ntV_ntV (hg k), allS_dual hg k]
theorem bothV_dual {v w : Nat} (h : v ≤ 2) (h' : w ≤ 2) : bothV v w = ntV (eithV (ntV v) (ntV w)) := by
  rw [eithV, ntV_ntV (bothV_le _ _), ntV_ntV h, ntV_ntV h']
theorem untS_true {a b : Nat → Nat} {lo : Nat} (ha : ∀ j, a j = 1) (hb : ∀ j, b j ≤ 2) : ∀ k : Nat, (untS a b lo k).1 = 1 ∧ (untS a b lo k).2 = anyS (fun j => b (lo + j)) (k - lo)
  | 0 => ⟨rfl, by rw [Nat.zero_sub]; rfl⟩
  | k + 1 => by
    obtain ⟨h1, h2⟩ := untS_true (lo := lo) ha hb k
    simp only [untS]
    rw [h1, h2, ha k]
    refine ⟨rfl, ?_⟩
    split
    · rename_i h
      rw [show k + 1 - lo = (k - lo) + 1 by omega, anyS, bothV_one (hb k), show lo + (k - lo) = k by omega]
    · rw [show k + 1 - lo = 0 by omega, show k - lo = 0 by omega]
def nd1 (op lo hi : Int) : Nd := ⟨op, 0, 0, 0, lo, hi⟩
theorem vd3 (x y : Int) (a : Fm) (T : List (List Int)) (i : Nat) : vd (.u (nd1 3 x y) a) T i = ntV (vd a T i) := rfl
theorem vd4 (x y : Int) (a b : Fm) (T : List (List Int)) (i : Nat) : vd (.b (nd1 4 x y) a b) T i = bothV (vd a T i) (vd b T i) := rfl
theorem vd5 (x y : Int) (a b : Fm) (T : List (List Int)) (i : Nat) : vd (.b (nd1 5 x y) a b) T i = eithV (vd a T i) (vd b T i) := rfl
theorem vd6 (x y : Int) (a : Fm) (T : List (List Int)) (i : Nat) : vd (.u (nd1 6 x y) a) T i = allS (fun k => vd a T (i + x.toNat + k)) (y.toNat + 1 - x.toNat) := rfl
theorem vd7 (x y : Int) (a : Fm) (T : List (List Int)) (i : Nat) : vd (.u (nd1 7 x y) a) T i = anyS (fun k => vd a T (i + x.toNat + k)) (y.toNat + 1 - x.toNat) := rfl
theorem vd8 (x y : Int) (a b : Fm) (T : List (List Int)) (i : Nat) : vd (.b (nd1 8 x y) a b) T i = (untS (fun k => vd a T (i + k)) (fun k => vd b T (i + k)) x.toNat (y.toNat + 1)).2 := rfl
theorem dual1 (a : Fm) (x y : Int) (T : List (List Int)) (i : Nat) : vd (.u (nd1 6 x y) a) T i = vd (.u (nd1 3 0 0) (.u (nd1 7 x y) (.u (nd1 3 0 0) a))) T i := by
  rw [vd6, vd3, vd7]
  exact allS_dual (fun j => vd_le _ _ _) _
theorem dual2 (a b : Fm) (T : List (List Int)) (i : Nat) : vd (.b (nd1 4 0 0) a b) T i = vd (.u (nd1 3 0 0) (.b (nd1 5 0 0) (.u (nd1 3 0 0) a) (.u (nd1 3 0 0) b))) T i := by
  rw [vd4, vd3, vd5, vd3, vd3]
  exact bothV_dual (vd_le _ _ _) (vd_le _ _ _)
theorem dual3 (a : Fm) (T : List (List Int)) (i : Nat) : vd (.u (nd1 6 0 0) a) T i = vd a T i := by
  rw [vd6]
  exact bothV_one (vd_le _ _ _)
theorem dual4 (a : Fm) (T : List (List Int)) (i : Nat) : vd (.u (nd1 7 0 0) a) T i = vd a T i := by
  rw [vd7]
  exact eithV_zero (vd_le _ _ _)
theorem dual5 (b : Fm) (x y : Int) (T : List (List Int)) (i : Nat) : vd (.b (nd1 8 x y) (.z (nd1 1 0 0)) b) T i = vd (.u (nd1 7 x y) b) T i := by
  rw [vd8, vd7, (untS_true (a := fun k => vd (.z (nd1 1 0 0)) T (i + k)) (fun j => rfl) (fun j => vd_le _ _ _) _).2]
  refine congrArg (fun g => anyS g _) (funext fun j => ?_)
  rw [Nat.add_assoc]
end Go.Aw
