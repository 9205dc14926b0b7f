/-
  Contracts of Area2 and Inside, on both sides. Conditions: lengths that fit.
-/
import Derived.Test.YtecindhbaekncaaGreatPxH4
namespace Go.Aw
set_option linter.unusedSimpArgs false
set_option linter.unusedVariables false
open Go.RowKit Go.Proofs Go.Rg

def area2V (h : List Sp) : Int := if 3 ≤ h.length ∧ cornersV h = true then area2 h else 0
def insV (h : List Sp) (p : Sp) : Bool := !h.isEmpty && cornersV h && fairS p &&
  (if h.length ≤ 2 then blkV (atS h 0) (atS h (h.length - 1)) p p else (List.range h.length).all fun i => decide (0 ≤ sideV (atS h i) (atS h ((i + 1) % h.length)) p))
theorem corners_fair {h : List Sp} (hc : cornersV h = true) : h.length ≤ 1000 ∧ ∀ p, p ∈ h → fairS p = true := by
  simp only [cornersV, Bool.and_eq_true, decide_eq_true_eq, List.all_eq_true] at hc
  exact hc
theorem atS_fair {h : List Sp} (hf : ∀ p, p ∈ h → fairS p = true) (i : Nat) (hi : i < h.length) : fairS (atS h i) = true := by
  rw [atS_get hi]
  exact hf _ (List.getElem_mem hi)
theorem crs_bd {a b : Sp} (ha : fairS a = true) (hb : fairS b = true) : -2251799813685248 ≤ crs a b ∧ crs a b ≤ 2251799813685248 := by
  have e1 := fair_iff.1 ha
  have e2 := fair_iff.1 hb
  have m1 := mul_bd (x := a.1) (y := b.2) (by omega) (by omega)
  have m2 := mul_bd (x := a.2) (y := b.1) (by omega) (by omega)
  unfold crs
  omega
theorem sum_bd {h : List Sp} (hf : ∀ p, p ∈ h → fairS p = true) : ∀ k, k ≤ h.length → -(2251799813685248 * (k : Int)) ≤ sumN crs h k ∧ sumN crs h k ≤ 2251799813685248 * (k : Int)
  | 0, _ => by simp [sumN]
  | k + 1, hk => by
    have ih := sum_bd hf k (by omega)
    have hb := crs_bd (atS_fair hf k (by omega)) (atS_fair hf ((k + 1) % h.length) (Nat.mod_lt _ (by omega)))
    rw [sumN_succ]
    omega
theorem crs_wrap {a b : Sp} (ha : fairS a = true) (hb : fairS b = true) : IntKind.i64.wrap (IntKind.i64.wrap (a.1 * b.2) - IntKind.i64.wrap (a.2 * b.1)) = crs a b := by
  have e1 := fair_iff.1 ha
  have e2 := fair_iff.1 hb
  have m1 := mul_bd (x := a.1) (y := b.2) (by omega) (by omega)
  have m2 := mul_bd (x := a.2) (y := b.1) (by omega) (by omega)
  rw [wrapI (a.1 * b.2) (by omega), wrapI (a.2 * b.1) (by omega), wrapI _ (by omega)]
  rfl
theorem tmod_nat (i n : Nat) : ((i : Int) + 1).tmod (n : Int) = (((i + 1) % n : Nat) : Int) := by
  rw [Int.tmod_eq_emod_of_nonneg (by omega), Int.natCast_emod, Int.natCast_add]
  rfl
theorem get_at {h : List Sp} {i : Nat} (hi : i < h.length) : (h.map encS)[i]? = some [.int .i64 (atS h i).1, .int .i64 (atS h i).2] := by
  rw [List.getElem?_map, List.getElem?_eq_getElem hi, atS_get hi]
  rfl

theorem p52 (h : List Sp) (hn : h.length ≤ 1000000) : PD Tryz.prog 19 [.sl (h.map encS)] (.d (.int .i64 (area2V h))) := by
  have h93 := p93 h hn
  have hq : ∀ row, row ∈ h.map encS → row.length = 2 := fun row hr => by obtain ⟨_, _, rfl⟩ := List.mem_map.1 hr; rfl
  refine pd_of (fn := Tryz.f19) [.tmp 2] (by kernel_rfl) rfl (by kernel_rfl) (Nat.le_of_ble_eq_true rfl) (by kernel_rfl) rfl rfl ?_
  refine awp_seq ?_
  refine awpF_region ?_; intro K hK; simp only [push_cast, seval]; (try simp (disch := omega) only [wrapI]); (repeat ((with_reducible refine And.intro ?_ ?_); (focus (exact ob1)))); refine hK _ ?_; clear hK; clear K
  refine awp_seq ?_
  refine awp_seq ?_
  refine awpF_region ?_; intro K hK; simp only [push_cast, seval]
  (repeat ((with_reducible refine And.intro ?_ ?_); (focus (exact ob1))))
  refine CallK.pg (fun _ => h93) ?_; simp only [push_cast, seval]; (try simp (disch := omega) only [wrapI]); (repeat ((with_reducible refine And.intro ?_ ?_); (focus (exact ob1))))
  refine hK _ ?_; clear hK; clear K
  apply awp_cond; (focus (simp only [push_cast, seval]; rfl))
  · intro h1; (try simp only [decide_eq_true_eq, decide_eq_false_iff_not, Bool.not_eq_true', Bool.not_eq_false', Bool.and_eq_true, Bool.or_eq_true, Bool.not_eq_true] at h1)
    refine awp_seq ?_
    refine awpF_region ?_; intro K hK; simp only [push_cast, seval]; (try simp (disch := omega) only [wrapI]); (repeat ((with_reducible refine And.intro ?_ ?_); (focus (exact ob1)))); refine hK _ ?_; clear hK; clear K
    refine awp_ret ?_; (repeat (first | refine then_ret ?_ | refine inblock_ret ?_)); refine fin_of (by simp only [push_cast, seval]; first | done | rfl) ob1 ?_
    have e : ¬ (3 ≤ h.length ∧ cornersV h = true) := by
      rintro ⟨e1, e2⟩
      have e3 : ¬ (h.length : Int) < 3 := by omega
      simp [e2, e3] at h1
    rw [area2V, if_neg e]
  intro h1; (try simp only [decide_eq_true_eq, decide_eq_false_iff_not, Bool.not_eq_true', Bool.not_eq_false', Bool.and_eq_true, Bool.or_eq_true, Bool.not_eq_true] at h1)
  have e : 3 ≤ h.length ∧ cornersV h = true := by
    by_cases e3 : (h.length : Int) < 3
    · simp [e3] at h1
    · simp [e3] at h1
      exact ⟨by omega, h1⟩
  obtain ⟨hl, hf⟩ := corners_fair e.2
  refine awp_skip ?_
  refine awp_seq ?_
  refine awpF_region ?_; intro K hK; simp only [push_cast, seval]; (try simp (disch := omega) only [wrapI]); (repeat ((with_reducible refine And.intro ?_ ?_); (focus (exact ob1)))); refine hK _ ?_; clear hK; clear K
  refine awp_seq ?_
  refine awp_seq ?_
  refine awpF_region ?_; intro K hK; simp only [push_cast, seval]; (try simp (disch := omega) only [wrapI]); (repeat ((with_reducible refine And.intro ?_ ?_); (focus (exact ob1)))); refine hK _ ?_; clear hK; clear K
  refine awp_block ?_
  refine awp_loopP (st := fun (k : Nat) => ⟨[(0, .d (.sl (h.map encS))), (3, .d (.int .i64 (sumN crs h k))), (15, .d (.sl (h.map encS))), (16, .d (.int .i64 h.length)), (17, .d (.int .i64 k))], []⟩)
    (inv := fun k => k ≤ h.length) (μ := fun k => h.length - k) (x0 := 0) (r0 := []) ?_ ?_ ?_
  · exact Nat.zero_le _
  · rw [show sumN crs h 0 = 0 from rfl]
    exact ⟨by simp, by simp, by simp [push_cast, seval], by simp [push_cast, seval], by simp [push_cast, seval], by simp [push_cast, seval]⟩
  intro k hk
  refine awp_seq ?_
  refine awpF_region ?_; intro K hK; simp only [push_cast, seval]; (try simp (disch := omega) only [wrapI]); (repeat ((with_reducible refine And.intro ?_ ?_); (focus (exact ob1)))); refine hK _ ?_; clear hK; clear K
  refine awp_seq ?_
  apply awp_cond; (focus (simp only [push_cast, seval]; rfl))
  · intro h2; (try simp only [decide_eq_true_eq, decide_eq_false_iff_not, Bool.not_eq_true', Bool.not_eq_false', Bool.and_eq_true, Bool.or_eq_true, Bool.not_eq_true] at h2)
    have hlt : k < h.length := by omega
    have hlt2 : (k + 1) % h.length < h.length := Nat.mod_lt _ (by omega)
    have g1 := get_at hlt
    have g2 := get_at hlt2
    have hw := crs_wrap (atS_fair hf k hlt) (atS_fair hf _ hlt2)
    have hb1 := sum_bd hf (k + 1) (by omega)
    have hs := sumN_succ crs h k
    have htm := tmod_nat k h.length
    have hw1 : IntKind.i64.wrap ((k : Int) + 1) = k + 1 := wrapI _ (by omega)
    generalize hj : (k + 1) % h.length = j at *
    generalize atS h k = a at *
    generalize atS h j = b at *
    refine awp_skip ?_
    refine awp_seq ?_
    refine awp_block ?_
    refine awp_seq ?_
    refine awpF_region ?_; intro K hK; simp only [push_cast, seval, g1]; (try simp (disch := omega) only [wrapI]); (repeat ((with_reducible refine And.intro ?_ ?_); (focus (exact ob1)))); refine hK _ ?_; clear hK; clear K
    refine awp_seq ?_
    refine awpF_region ?_; intro K hK; simp only [push_cast, seval, g2, hw1, htm, Int.toNat_natCast]
    refine ⟨by omega, by omega, by omega, hq, ?_⟩
    refine hK _ ?_; clear hK; clear K
    refine awpF_region ?_; intro K hK; simp only [push_cast, seval, hw]
    rw [wrapI _ (by omega), ← hs]
    refine hK _ ?_; clear hK; clear K
    refine inblock_norm ?_
    refine awpF_region ?_; intro K hK; simp only [push_cast, seval]; (try simp (disch := omega) only [wrapI]); (repeat ((with_reducible refine And.intro ?_ ?_); (focus (exact ob1)))); refine hK _ ?_; clear hK; clear K
    refine round_endG (k + 1) [] ⟨by omega, by omega, ?_⟩
    exact ⟨by simp, by simp, by simp [push_cast, seval], by simp [push_cast, seval], by simp [push_cast, seval], by simp [push_cast, seval]⟩
  · intro h2; (try simp only [decide_eq_true_eq, decide_eq_false_iff_not, Bool.not_eq_true', Bool.not_eq_false', Bool.and_eq_true, Bool.or_eq_true, Bool.not_eq_true] at h2)
    obtain rfl : k = h.length := by omega
    refine awp_exit ?_; (repeat (first | refine then_exit ?_ | refine inblock_other (by decide) ?_)); refine inblock_same ?_
    refine awp_seq ?_
    refine awpF_region ?_; intro K hK; simp only [push_cast, seval]; (try simp (disch := omega) only [wrapI]); (repeat ((with_reducible refine And.intro ?_ ?_); (focus (exact ob1)))); refine hK _ ?_; clear hK; clear K
    refine awp_ret ?_; (repeat (first | refine then_ret ?_ | refine inblock_ret ?_)); refine fin_of (by simp only [push_cast, seval]; first | done | rfl) ob1 ?_
    rw [area2V, if_pos e]
    rfl
end Go.Aw
