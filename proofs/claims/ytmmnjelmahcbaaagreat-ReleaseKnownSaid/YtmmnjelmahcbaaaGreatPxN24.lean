/-
  Contracts: what is learned from numbers, on both sides. Conditions: lengths that fit.
-/
import Derived.Test.YtmmnjelmahcbaaaGreatPxN24a
import Derived.Test.YtmmnjelmahcbaaaGreatPkH
import Derived.Test.YtmmnjelmahcbaaaGreatPkD
namespace Go.Aw
set_option linter.unusedSimpArgs false
set_option linter.unusedVariables false
open Go.RowKit Go.Proofs Go.Nt Go.Rl

def learnB (xs : List Int) (rn rd an ad : Int) : Bool := decide (xs.length ≤ 60) && (decide (0 ≤ mostI xs.length rn rd an ad) && decide (mostI xs.length rn rd an ad < xs.length))
def learnI (xs : List Int) (rn rd an ad : Int) : Int := if learnB xs rn rd an ad then (sortI xs)[xs.length - 1 - (mostI xs.length rn rd an ad).toNat]?.getD 0 else 0
theorem p36 (xs : List Int) (rn rd an ad : Int) (hl : xs.length ≤ 1000000) : PD Tryz.prog 31 [.sl (xs.map encI), .agg [.int .i64 rn, .int .i64 rd], .agg [.int .i64 an, .int .i64 ad]] (.tup [.d (.int .i64 (learnI xs rn rd an ad)), .d (.bool (learnB xs rn rd an ad))]) := by
  have h29 := p29 xs.length rn rd an ad (by omega)
  have h74 := p74 (xs.map encI)
  have h73 := p73 xs hl
  have hsl := sortI_len xs
  unfold learnI learnB
  generalize mostI xs.length rn rd an ad = k at h29 ⊢
  refine pd_of (fn := Tryz.f31) [.tmp 6, .tmp 7] (by kernel_rfl) rfl (by kernel_rfl) (Nat.le_of_ble_eq_true rfl) (by kernel_rfl) rfl rfl ?_
  refine awp_seq ?_
  refine awpF_region ?_; intro K hK; simp only [push_cast, seval]; (try simp (disch := omega) only [wrapI]); (repeat ((with_reducible refine And.intro ?_ ?_); (focus (exact ob1)))); refine hK _ ?_; clear hK; clear K
  refine awp_seq ?_
  refine awpF_region ?_; intro K hK; simp only [push_cast, seval]; (try simp (disch := omega) only [wrapI]); (repeat ((with_reducible refine And.intro ?_ ?_); (focus (exact ob1)))); refine hK _ ?_; clear hK; clear K
  refine awp_seq ?_
  refine awp_seq ?_
  refine awpF_region ?_; intro K hK; simp only [push_cast, seval]; (try simp (disch := omega) only [wrapI]); (repeat ((with_reducible refine And.intro ?_ ?_); (focus (exact ob1)))); refine hK _ ?_; clear hK; clear K
  apply awp_cond; (focus (simp only [push_cast, seval]; rfl))
  · intro h1; (try simp only [decide_eq_true_eq, decide_eq_false_iff_not, Bool.not_eq_true', Bool.not_eq_false', Bool.and_eq_true, Bool.or_eq_true, Bool.not_eq_true] at h1)
    refine awp_seq ?_
    refine awpF_region ?_; intro K hK; simp only [push_cast, seval]; (try simp (disch := omega) only [wrapI]); (repeat ((with_reducible refine And.intro ?_ ?_); (focus (exact ob1)))); refine hK _ ?_; clear hK; clear K
    refine awp_ret ?_; (repeat (first | refine then_ret ?_ | refine inblock_ret ?_)); refine fin_of (by simp only [push_cast, seval]; first | done | rfl) ob1 ?_
    rw [decide_eq_false (by omega : ¬ xs.length ≤ 60)]
    rfl
  · intro h1; (try simp only [decide_eq_true_eq, decide_eq_false_iff_not, Bool.not_eq_true', Bool.not_eq_false', Bool.and_eq_true, Bool.or_eq_true, Bool.not_eq_true] at h1)
    refine awp_skip ?_
    refine awp_seq ?_
    refine awpF_region ?_; intro K hK; simp only [push_cast, seval]
    refine CallK.pd (h29) ?_; simp only [push_cast, seval]; (try simp (disch := omega) only [wrapI]); (repeat ((with_reducible refine And.intro ?_ ?_); (focus (exact ob1))))
    refine hK _ ?_; clear hK; clear K
    refine awp_seq ?_
    refine awp_seq ?_
    refine awpF_region ?_; intro K hK; simp only [push_cast, seval, bif_or]; (try simp (disch := omega) only [wrapI]); (repeat ((with_reducible refine And.intro ?_ ?_); (focus (exact ob1)))); refine hK _ ?_; clear hK; clear K
    apply awp_cond; (focus (simp only [push_cast, seval]; rfl))
    · intro h2; (try simp only [decide_eq_true_eq, decide_eq_false_iff_not, Bool.not_eq_true', Bool.not_eq_false', Bool.and_eq_true, Bool.or_eq_true, Bool.not_eq_true] at h2)
      refine awp_seq ?_
      refine awpF_region ?_; intro K hK; simp only [push_cast, seval]; (try simp (disch := omega) only [wrapI]); (repeat ((with_reducible refine And.intro ?_ ?_); (focus (exact ob1)))); refine hK _ ?_; clear hK; clear K
      refine awp_ret ?_; (repeat (first | refine then_ret ?_ | refine inblock_ret ?_)); refine fin_of (by simp only [push_cast, seval]; first | done | rfl) ob1 ?_
      have : (decide (0 ≤ k) && decide (k < (xs.length : Int))) = false := by
        simp only [Bool.and_eq_false_iff, decide_eq_false_iff_not]; omega
      rw [this, Bool.and_false]
      rfl
    · intro h2; (try simp only [decide_eq_true_eq, decide_eq_false_iff_not, Bool.not_eq_true', Bool.not_eq_false', Bool.and_eq_true, Bool.or_eq_true, Bool.not_eq_true] at h2)
      simp only [Bool.or_eq_false_iff, decide_eq_false_iff_not] at h2
      obtain ⟨k, rfl⟩ : ∃ x : Nat, k = x := ⟨k.toNat, by omega⟩
      have hk : k < xs.length := by omega
      have hi : IntKind.i64.wrap (IntKind.i64.wrap ((xs.length : Int) - 1) - k) = ((xs.length - 1 - k : Nat) : Int) := by
        rw [wrapI ((xs.length : Int) - 1) (by omega), wrapI _ (by omega)]; omega
      have g1 := List.getElem?_eq_getElem (l := sortI xs) (i := xs.length - 1 - k) (by omega)
      refine awp_skip ?_
      refine awp_seq ?_
      refine awpF_region ?_; intro K hK; simp only [push_cast, seval]
      refine CallK.rel h74 ?_
      intro x' H' hR
      have hx' := hR.1
      have hH' := hR.2
      clear hR
      subst hx'
      subst hH'
      simp only [push_cast, seval]
      refine CallK.pd h73 ?_
      simp only [push_cast, seval]
      refine hK _ ?_; clear hK; clear K
      refine awp_seq ?_
      refine awpF_region ?_; intro K hK; simp only [push_cast, seval, hi, g1, encI, hsl, Int.toNat_natCast]; (try simp (disch := omega) only [wrapI]); (repeat ((with_reducible refine And.intro ?_ ?_); (focus (exact ob1)))); refine hK _ ?_; clear hK; clear K
      refine awp_ret ?_; (repeat (first | refine then_ret ?_ | refine inblock_ret ?_)); refine fin_of (by simp only [push_cast, seval]; first | done | rfl) ob1 ?_
      rw [decide_eq_true (by omega : xs.length ≤ 60), decide_eq_true (by omega : (0 : Int) ≤ k), decide_eq_true (by omega : (k : Int) < xs.length)]
      simp only [Int.toNat_natCast, g1]
      rfl
end Go.Aw
