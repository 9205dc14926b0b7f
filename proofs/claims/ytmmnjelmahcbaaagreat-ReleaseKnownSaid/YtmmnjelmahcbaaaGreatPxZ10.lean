/-
  ReleaseKnown: what its calls yield. No condition.
-/
import Derived.Test.YtmmnjelmahcbaaaGreatPxZ3
import Derived.Test.YtmmnjelmahcbaaaGreatPxN38
import Derived.Test.YtmmnjelmahcbaaaGreatPxN24
import Derived.Test.YtmmnjelmahcbaaaGreatPkG
namespace Go.Aw
set_option linter.unusedSimpArgs false
set_option linter.unusedVariables false
open Go.RowKit Go.Proofs Go.Nt Go.Rl

theorem kn1 : PD Tryz.prog 25 [.int .i64 2, .int .i64 1, .agg [.int .i64 1, .int .i64 2], .int .i64 2] (.tup [.d (.str ⟨#[48, 46, 55, 53]⟩), .d (.int .i64 0)]) := by
  have h := p15 2 1 1 2 2
  rw [show digOk 2 1 1 2 2 = true by decide +kernel, show digS 2 1 1 2 2 = ⟨#[48, 46, 55, 53]⟩ by decide +kernel] at h
  exact h
theorem kn2 : PD Tryz.prog 25 [.int .i64 1, .int .i64 0, .agg [.int .i64 1, .int .i64 3], .int .i64 5] (.tup [.d (.str ⟨#[48, 46, 54, 54, 54, 54, 54]⟩), .d (.int .i64 0)]) := by
  have h := p15 1 0 1 3 5
  rw [show digOk 1 0 1 3 5 = true by decide +kernel, show digS 1 0 1 3 5 = ⟨#[48, 46, 54, 54, 54, 54, 54]⟩ by decide +kernel] at h
  exact h
theorem kn3 : PD Tryz.prog 25 [.int .i64 0, .int .i64 0, .agg [.int .i64 0, .int .i64 1], .int .i64 1] (.tup [.d (.str ⟨#[49, 46, 48]⟩), .d (.int .i64 0)]) := by
  have h := p15 0 0 0 1 1
  rw [show digOk 0 0 0 1 1 = true by decide +kernel, show digS 0 0 0 1 1 = ⟨#[49, 46, 48]⟩ by decide +kernel] at h
  exact h
theorem kn4 : PD Tryz.prog 25 [.int .i64 1, .int .i64 2, .agg [.int .i64 1, .int .i64 2], .int .i64 1] (.tup [.d (.str ⟨#[]⟩), .d (.int .i64 2)]) := by
  have h := p15 1 2 1 2 1
  rw [show digOk 1 2 1 2 1 = false by decide +kernel] at h
  exact h
theorem kn5 : PD Tryz.prog 26 [.int .i64 5, .int .i64 5, .agg [.int .i64 1, .int .i64 2], .agg [.int .i64 1, .int .i64 32]] (.d (.bool true)) := by
  have h := p26 5 5 1 2 1 32
  rw [show failsB 5 5 1 2 1 32 = true by decide +kernel] at h
  exact h
theorem kn6 : PD Tryz.prog 26 [.int .i64 5, .int .i64 4, .agg [.int .i64 1, .int .i64 2], .agg [.int .i64 1, .int .i64 32]] (.d (.bool false)) := by
  have h := p26 5 4 1 2 1 32
  rw [show failsB 5 4 1 2 1 32 = false by decide +kernel] at h
  exact h
theorem kn7 : PD Tryz.prog 27 [.int .i64 5, .agg [.int .i64 1, .int .i64 2], .agg [.int .i64 1, .int .i64 5]] (.d (.int .i64 1)) := by
  have h := p29 5 1 2 1 5 (by decide)
  rw [show mostI 5 1 2 1 5 = 1 by decide +kernel] at h
  exact h
theorem kn8 : PD Tryz.prog 27 [.int .i64 2, .agg [.int .i64 1, .int .i64 2], .agg [.int .i64 1, .int .i64 5]] (.d (.int .i64 (-1))) := by
  have h := p29 2 1 2 1 5 (by decide)
  rw [show mostI 2 1 2 1 5 = -1 by decide +kernel] at h
  exact h
theorem kn9 : PD Tryz.prog 28 [.int .i64 1, .agg [.int .i64 1, .int .i64 2], .agg [.int .i64 1, .int .i64 5]] (.d (.int .i64 5)) := by
  have h := p31 1 1 2 1 5
  rw [show neededI 1 1 2 1 5 = 5 by decide +kernel] at h
  exact h
theorem kn10 : PD Tryz.prog 29 [.int .i64 5, .int .i64 0, .agg [.int .i64 1, .int .i64 32], .int .i64 10] (.d (.int .i64 5)) := by
  have h := p33 5 0 1 32 10
  rw [up_eq (u := 5) (.inr ⟨by decide, by decide, by decide, by decide, by decide +kernel, fun _ => by decide +kernel⟩)] at h
  exact h
theorem kn11 : PD Tryz.prog 29 [.int .i64 0, .int .i64 0, .agg [.int .i64 1, .int .i64 2], .int .i64 10] (.d (.int .i64 (-1))) := by
  have h := p33 0 0 1 2 10
  rw [up_eq (u := -1) (.inl ⟨rfl, fun _ _ => by decide +kernel⟩)] at h
  exact h
theorem kn12 : PD Tryz.prog 30 [.int .i64 4, .int .i64 3, .int .i64 4, .int .i64 0, .agg [.int .i64 1, .int .i64 50]] (.d (.bool false)) := by
  have h := p25 4 3 4 0 1 50
  rw [show worseB 4 3 4 0 1 50 = false by decide +kernel] at h
  exact h
theorem kn13s : sortI [7, 1, 9, 4, 9] = [1, 4, 7, 9, 9] := by
  have h := desc_uniq (xs := [7, 1, 9, 4, 9]) (l := [9, 9, 7, 4, 1]) (by unfold descL; decide) (by decide)
  have := congrArg List.reverse h
  rw [List.reverse_reverse] at this
  exact this.symm
theorem kn13 : PD Tryz.prog 31 [.sl ([7, 1, 9, 4, 9].map encI), .agg [.int .i64 1, .int .i64 2], .agg [.int .i64 1, .int .i64 5]] (.tup [.d (.int .i64 9), .d (.bool true)]) := by
  have h := p36 [7, 1, 9, 4, 9] 1 2 1 5 (by decide)
  have hm : mostI 5 1 2 1 5 = 1 := by decide +kernel
  have hB : learnB [7, 1, 9, 4, 9] 1 2 1 5 = true := by
    unfold learnB
    rw [show ((([7, 1, 9, 4, 9] : List Int).length : Nat) : Int) = 5 from rfl, hm]
    rfl
  have hI : learnI [7, 1, 9, 4, 9] 1 2 1 5 = 9 := by
    unfold learnI
    rw [hB, kn13s, show ((([7, 1, 9, 4, 9] : List Int).length : Nat) : Int) = 5 from rfl, hm]
    rfl
  rw [hB, hI] at h
  exact h
instance keyLt_dec (n a b : Int) : Decidable (keyLt n a b) := by unfold keyLt; exact inferInstance
theorem kn14s : sortK 0 (upto 3) = [0, 1, 2] := (sortK_uniq (l := [0, 1, 2]) (by decide +kernel) (by decide)).symm
theorem kn14 : PD Tryz.prog 33 [.int .i64 0, .int .i64 3] (.d (.sl ([0, 1, 2].map encI))) := by
  have h := p40 0 3
  rw [show ordD 0 3 = [0, 1, 2] by unfold ordD; rw [if_pos (by decide)]; exact kn14s] at h
  exact h
theorem sortI_sorted {l : List Int} (h : l.Pairwise fun a b => a ≤ b) : sortI l = l := by
  have h2 := desc_uniq (xs := l) (l := l.reverse) (by unfold descL; rw [List.pairwise_reverse]; exact h) (List.reverse_perm l)
  have := congrArg List.reverse h2
  rw [List.reverse_reverse, List.reverse_reverse] at this
  exact this.symm
theorem kn15 : PD Tryz.prog 34 [.int .i64 0, .int .i64 3, .int .i64 34] (.d (.sl ([0, 1].map encI))) := by
  have h := p42 0 3 34
  rw [show shareD 0 3 34 = [0, 1] by
    unfold shareD
    rw [if_pos (by decide), show upto (3 : Int).toNat = upto 3 from rfl, kn14s]
    exact sortI_sorted (by decide)] at h
  exact h
theorem kn16 : PD Tryz.prog 34 [.int .i64 0, .int .i64 3, .int .i64 0] (.d (.sl [])) := by
  have h := p42 0 3 0
  rw [show shareD 0 3 0 = [] by
    unfold shareD
    rw [if_pos (by decide), show partN (3 : Int).toNat (0 : Int).toNat = 0 from rfl, List.take_zero]
    exact sortI_sorted List.Pairwise.nil] at h
  exact h
def knG (p : Int) : Stg := ⟨p, 9, 1, 2, 1, 8, 1, 8⟩
def knL : List Stg := [knG 0, knG 100]
def knS (st gt bd al ph : Int) : Sta := ⟨3, 0, 1, knL, ph, st, gt, bd, al⟩
theorem kn17 : chkS (sta0 3 0 1 knL) = 0 := by decide +kernel
end Go.Aw
