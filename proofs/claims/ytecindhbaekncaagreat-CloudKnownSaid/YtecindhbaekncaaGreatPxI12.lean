/-
  Plain laws of reduced clouds: one point of each cell, as fast as the fastest. No condition.
-/
import Derived.Test.YtecindhbaekncaaGreatPcD
namespace Go.Aw
set_option linter.unusedSimpArgs false
set_option linter.unusedVariables false
open Go.Rg

def ptAt (ps : List Pt) (i : Nat) : Pt := ps[i]?.getD (0, 0, 0)
def maxV (ps : List Pt) (l : List Nat) (v : Int) : Int := l.foldl (fun v i => max v (ptAt ps i).2.2) v
theorem maxV_snoc (ps : List Pt) (l : List Nat) (i : Nat) (v : Int) : maxV ps (l ++ [i]) v = max (maxV ps l v) (ptAt ps i).2.2 := by simp [maxV]
def cellAt (cs : List Sp) (i : Nat) : Sp := cs[i]?.getD (0, 0)
def redP (ps : List Pt) (b : Bk) : Pt := ((ptAt ps (fstN b)).1, (ptAt ps (fstN b)).2.1, maxV ps b.2 (ptAt ps (fstN b)).2.2)
def redI (ps : List Pt) (cs : List Sp) (i : Nat) : Pt := ((ptAt ps i).1, (ptAt ps i).2.1, maxV ps (idxS cs (cellAt cs i)) (ptAt ps i).2.2)
def redS (ps : List Pt) (size : Int) : List Pt := (firstsN (ps.map (cellP size))).map (redI ps (ps.map (cellP size)))
theorem fst_of {cs : List Sp} {i : Nat} (h : i ∈ firstsN cs) : fstN (cellAt cs i, idxS cs (cellAt cs i)) = i := by
  obtain ⟨hi, hf⟩ := firstsN_mem.1 h
  have hc : cs[i]? = some (cellAt cs i) := by simp [cellAt, List.getElem?_eq_getElem hi]
  have hm : cellAt cs i ∈ cs := List.mem_of_getElem? hc
  obtain ⟨h1, h2⟩ := fstN_of (b := (cellAt cs i, idxS cs (cellAt cs i))) hm rfl
  obtain ⟨h3, h4⟩ := firstsN_mem.1 h1
  generalize fstN (cellAt cs i, idxS cs (cellAt cs i)) = k at *
  dsimp only at h2
  rcases Nat.lt_trichotomy k i with h | h | h
  · exact absurd (h2.trans hc.symm) (hf k h)
  · exact h
  · exact absurd (hc.trans h2.symm) (h4 i h)
theorem red_byFirst (ps : List Pt) (size : Int) : (byFirst (ps.map (cellP size))).map (redP ps) = redS ps size := by
  simp only [redS, byFirst, List.map_map]
  apply List.map_congr_left
  intro i hi
  have := fst_of hi
  simp only [cellAt] at this
  simp only [Function.comp, redP, redI, this, cellAt]
end Go.Aw
