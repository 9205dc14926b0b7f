/-
  Texts of the library, one behind the other. Over any program; no condition.
-/
import Derived.Test.YtlimahhonfckdaaDoorRuD
import Derived.Test.YtlimahhonfckdaaDoorRuB
import Derived.Test.YtlimahhonfckdaaDoorRuA
namespace Go.Aw
set_option linter.unusedSimpArgs false
set_option linter.unusedVariables false

def nx (l : List Int) (k : Nat) : Nat := min l.length (k + 1)
structure FmW (w : Int) (most : Int) (d : Nat) (t : Fm) : Prop where
  wf : t.wf
  nodes : ∀ n, n ∈ t.flat → nodeE n w = 0
  len : t.flat.length + 1 ≤ 2 ^ (d + 1)
  hz : t.hz ≤ most * d
theorem two_pos (d : Nat) : 2 ≤ 2 ^ (d + 1) := by
  rw [Nat.pow_succ]
  have := Nat.two_pow_pos d
  omega
theorem FmW.uu {w most : Int} {d : Nat} {n : Nd} {a : Fm} (h : FmW w most d a) (hop : n.op = 3 ∨ n.op = 6 ∨ n.op = 7) (hn : nodeE n w = 0) (hh : n.hi ≤ most) : FmW w most (d + 1) (.u n a) := by
  refine ⟨⟨hop, h.wf⟩, fun m hm => ?_, ?_, ?_⟩
  · rcases List.mem_cons.1 hm with rfl | hm
    · exact hn
    · exact h.nodes m hm
  · have := h.len
    simp only [Fm.flat, List.length_cons]
    rw [Nat.pow_succ]
    have := two_pos d
    omega
  · have := h.hz
    simp only [Fm.hz]
    push_cast
    rw [Int.mul_add]
    omega
theorem FmW.bb {w most : Int} {d : Nat} {n : Nd} {a b : Fm} (ha : FmW w most d a) (hb : FmW w most d b) (hop : n.op = 4 ∨ n.op = 5 ∨ n.op = 8) (hn : nodeE n w = 0) (hh : n.hi ≤ most) (h0 : 0 ≤ n.hi) : FmW w most (d + 1) (.b n a b) := by
  refine ⟨⟨hop, ha.wf, hb.wf⟩, fun m hm => ?_, ?_, ?_⟩
  · rcases List.mem_cons.1 hm with rfl | hm
    · exact hn
    · rcases List.mem_append.1 hm with hm | hm
      · exact ha.nodes m hm
      · exact hb.nodes m hm
  · have := ha.len
    have := hb.len
    simp only [Fm.flat, List.length_cons, List.length_append]
    rw [Nat.pow_succ]
    omega
  · have := ha.hz
    have := hb.hz
    simp only [Fm.hz]
    push_cast
    rw [Int.mul_add]
    split
    · split <;> omega
    · omega
end Go.Aw

namespace Go.Aw
set_option linter.unusedSimpArgs false
set_option linter.unusedVariables false

end Go.Aw
