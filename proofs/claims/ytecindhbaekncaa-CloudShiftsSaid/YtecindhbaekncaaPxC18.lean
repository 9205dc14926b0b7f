/-
  Clouds made of numbers; what CloudBest answers. Conditions: none.
-/
import Derived.Test.YtecindhbaekncaaPcD
namespace Go.Aw
set_option linter.unusedSimpArgs false
set_option linter.unusedVariables false
open Go.RowKit Go.Proofs Go.Rg

theorem tmod_mod {n m : Int} (hm : 0 < m) : (if n.tmod m < 0 then n.tmod m + m else n.tmod m) = n % m := by
  have h1 := Int.emod_nonneg n (show m ≠ 0 by omega)
  have h2 := Int.emod_lt_of_pos n hm
  rw [Int.tmod_eq_emod]
  split <;> split <;> omega

theorem p32 (n m : Int) (hm : 0 < m) (hm2 : m ≤ 4611686018427387904) : PD Try.prog 32 [.int .i64 n, .int .i64 m] (.d (.int .i64 (n % m))) := by
  have ht := tmod_mod (n := n) hm
  have hlo : -m < n.tmod m := by rw [Int.tmod_eq_emod]; have := Int.emod_nonneg n (show m ≠ 0 by omega); split <;> omega
  refine pd_of (fn := Try.f32) [.tmp 4] (by kernel_rfl) rfl (by kernel_rfl) (Nat.le_of_ble_eq_true rfl) (by kernel_rfl) rfl rfl ?_
  refine awp_seq ?_
  refine awpF_region ?_; intro K hK; simp only [push_cast, seval]; (try simp (disch := omega) only [wrapI]); (repeat ((with_reducible refine And.intro ?_ ?_); (focus (exact ob1)))); refine hK _ ?_; clear hK; clear K
  refine awp_seq ?_
  refine awpF_region ?_; intro K hK; simp only [push_cast, seval]; (try simp (disch := omega) only [wrapI]); (repeat ((with_reducible refine And.intro ?_ ?_); (focus (exact ob1)))); refine hK _ ?_; clear hK; clear K
  refine awp_seq ?_
  refine awp_seq ?_
  refine awpF_region ?_; intro K hK; simp only [push_cast, seval]; (try simp (disch := omega) only [wrapI]); (repeat ((with_reducible refine And.intro ?_ ?_); (focus (exact ob1)))); refine hK _ ?_; clear hK; clear K
  apply awp_cond; (focus (simp only [push_cast, seval]; rfl))
  · intro h1; (try simp only [decide_eq_true_eq, decide_eq_false_iff_not, Bool.not_eq_true', Bool.not_eq_false', Bool.and_eq_true, Bool.or_eq_true, Bool.not_eq_true] at h1)
    rw [if_pos h1] at ht
    refine awpF_region ?_; intro K hK; simp only [push_cast, seval]; (try simp (disch := omega) only [wrapI]); (repeat ((with_reducible refine And.intro ?_ ?_); (focus (exact ob1)))); refine hK _ ?_; clear hK; clear K
    refine awp_seq ?_
    refine awpF_region ?_; intro K hK; simp only [push_cast, seval]; (try simp (disch := omega) only [wrapI]); (repeat ((with_reducible refine And.intro ?_ ?_); (focus (exact ob1)))); refine hK _ ?_; clear hK; clear K
    refine awp_ret ?_; (repeat (first | refine then_ret ?_ | refine inblock_ret ?_)); refine fin_of (by simp only [push_cast, seval]; first | done | rfl) ob1 ?_
    rw [ht]
  · intro h1; (try simp only [decide_eq_true_eq, decide_eq_false_iff_not, Bool.not_eq_true', Bool.not_eq_false', Bool.and_eq_true, Bool.or_eq_true, Bool.not_eq_true] at h1)
    rw [if_neg h1] at ht
    refine awp_skip ?_
    refine awp_seq ?_
    refine awpF_region ?_; intro K hK; simp only [push_cast, seval]; (try simp (disch := omega) only [wrapI]); (repeat ((with_reducible refine And.intro ?_ ?_); (focus (exact ob1)))); refine hK _ ?_; clear hK; clear K
    refine awp_ret ?_; (repeat (first | refine then_ret ?_ | refine inblock_ret ?_)); refine fin_of (by simp only [push_cast, seval]; first | done | rfl) ob1 ?_
    rw [ht]

/-- The points of the first so many numbers. -/
def mkPt (span n : Int) : Pt := ((n % 1099511627776) % (2 * span + 1) - span, (n % 1099511627776 / 131072) % (2 * span + 1) - span, (n % 1099511627776) / 17179869184 * 50)
def cloudOf (span : Int) (nums : List Int) : List Pt := (nums.take 40).map (mkPt span)

theorem mkPt_in {span n : Int} (h : 0 ≤ span) : -span ≤ (mkPt span n).1 ∧ (mkPt span n).1 ≤ span ∧ -span ≤ (mkPt span n).2.1 ∧ (mkPt span n).2.1 ≤ span ∧ 0 ≤ (mkPt span n).2.2 ∧ (mkPt span n).2.2 ≤ 3200 := by
  have h1 := Int.emod_nonneg (n % 1099511627776) (show 2 * span + 1 ≠ 0 by omega)
  have h2 := Int.emod_lt_of_pos (n % 1099511627776) (show 0 < 2 * span + 1 by omega)
  have h3 := Int.emod_nonneg (n % 1099511627776 / 131072) (show 2 * span + 1 ≠ 0 by omega)
  have h4 := Int.emod_lt_of_pos (n % 1099511627776 / 131072) (show 0 < 2 * span + 1 by omega)
  simp only [mkPt]
  omega
theorem cloudOf_mem {span : Int} {nums : List Int} {p : Pt} (hp : p ∈ cloudOf span nums) : ∃ n, p = mkPt span n := by
  obtain ⟨n, _, rfl⟩ := List.mem_map.1 hp
  exact ⟨n, rfl⟩
theorem cloudOf_len (span : Int) (nums : List Int) : (cloudOf span nums).length ≤ 40 ∧ (cloudOf span nums).length ≤ nums.length := by
  simp only [cloudOf, List.length_map, List.length_take]; omega
theorem cloudOf_check {span : Int} (h0 : 0 ≤ span) (h : span ≤ 16777216) (nums : List Int) : check (cloudOf span nums) = 0 := by
  have hl := (cloudOf_len span nums).1
  have hall : (cloudOf span nums).all okP = true := List.all_eq_true.2 fun p hp => by
    obtain ⟨n, rfl⟩ := cloudOf_mem hp
    have := mkPt_in (n := n) h0
    simp only [okP, fair, Bool.and_eq_true, decide_eq_true_eq]
    omega
  simp only [check, hall, if_true]
  rw [if_neg (by omega)]

def firsts (span : Int) (nums : List Int) (x : Nat) : List Pt := (nums.take x).map (mkPt span)
theorem firsts_len {span : Int} {nums : List Int} {x : Nat} (h : x ≤ nums.length) : (firsts span nums x).length = x := by simp [firsts]; omega

set_option maxHeartbeats 1000000 in
theorem p31 (nums : List Int) (span : Int) (h0 : 0 ≤ span) (h1 : span ≤ 1000000) : PD Try.prog 31 [.sl (nums.map encI), .int .i64 span] (ofD (.sl ((cloudOf span nums).map encP))) := by
  refine pdd_of (fn := Try.f31) [.tmp 4] (by kernel_rfl) rfl (by kernel_rfl) (Nat.le_of_ble_eq_true rfl) (by kernel_rfl) rfl ?_
  refine awp_seq ?_
  refine awpF_region ?_; intro K hK; simp only [push_cast, seval]; (try simp (disch := omega) only [wrapI]); (repeat ((with_reducible refine And.intro ?_ ?_); (focus (exact ob1)))); refine hK _ ?_; clear hK; clear K
  refine awp_seq ?_
  refine awpF_region ?_; intro K hK; simp only [push_cast, seval]; (try simp (disch := omega) only [wrapI]); (repeat ((with_reducible refine And.intro ?_ ?_); (focus (exact ob1)))); refine hK _ ?_; clear hK; clear K
  refine awp_seq ?_
  refine awp_seq ?_
  refine awpF_region ?_; intro K hK; simp only [push_cast, seval]; (try simp (disch := omega) only [wrapI]); (repeat ((with_reducible refine And.intro ?_ ?_); (focus (exact ob1)))); refine hK _ ?_; clear hK; clear K
  refine awp_virt 5 3 (by simp only [push_cast, seval]) ?_
  refine awp_block ?_
  refine awp_loopP (st := fun (x : Nat) => ⟨[(0, .d (.sl (nums.map encI))), (1, .d (.int .i64 span)), (5, .ref 0 0 (firsts span nums x).length), (6, .d (.int .i64 x))], [.data 3 ((firsts span nums x).map encP)]⟩)
    (inv := fun x => x ≤ nums.length ∧ x ≤ 40) (μ := fun x => nums.length - x) (x0 := 0) (r0 := [0]) ?_ ?_ ?_
  · omega
  · have h0 : firsts span nums 0 = [] := rfl
    rw [h0]
    simp only [List.map_nil, List.length_nil]
    exact ⟨by simp, by simp, by simp [push_cast, seval], by simp [push_cast, seval], by simp [push_cast, seval], by simp [push_cast, seval]⟩
  rintro x ⟨hx, hx40⟩
  have hl := firsts_len (span := span) hx
  refine awp_seq ?_
  refine awp_seq ?_
  refine awpF_region ?_; intro K hK; simp only [push_cast, seval]; (try simp (disch := omega) only [wrapI]); (repeat ((with_reducible refine And.intro ?_ ?_); (focus (exact ob1)))); refine hK _ ?_; clear hK; clear K
  apply awp_cond; (focus (simp only [push_cast, seval]; rfl))
  · intro h2; (try simp only [decide_eq_true_eq, decide_eq_false_iff_not, Bool.not_eq_true', Bool.not_eq_false', Bool.and_eq_true, Bool.or_eq_true, Bool.not_eq_true] at h2)
    have hlt : x < nums.length ∧ x < 40 := by
      by_cases e : (x : Int) < nums.length
      · simp [e] at h2; omega
      · simp [e] at h2
    obtain ⟨n, hn⟩ : ∃ n, nums[x]? = some n := ⟨_, List.getElem?_eq_getElem hlt.1⟩
    have htk : firsts span nums (x + 1) = firsts span nums x ++ [mkPt span n] := by
      unfold firsts
      rw [List.take_add_one, hn]; simp
    refine awp_skip ?_
    refine awp_seq ?_
    refine awp_block ?_
    refine awp_seq ?_
    refine awpF_region ?_; intro K hK; simp only [push_cast, seval, hn, encI]
    (repeat ((with_reducible refine And.intro ?_ ?_); (focus (exact ob1))))
    refine CallK.pd (p32 _ _ (by omega) (by omega)) ?_; simp only [push_cast, seval]; (try simp (disch := omega) only [wrapI]); (repeat ((with_reducible refine And.intro ?_ ?_); (focus (exact ob1))))
    refine hK _ ?_; clear hK; clear K
    have hv0 : 0 ≤ n % 1099511627776 := by omega
    have hv1 : n % 1099511627776 < 1099511627776 := by omega
    have hpt : mkPt span n = ((n % 1099511627776) % (2 * span + 1) - span, (n % 1099511627776 / 131072) % (2 * span + 1) - span, (n % 1099511627776) / 17179869184 * 50) := rfl
    generalize n % 1099511627776 = v at hv0 hv1 hpt ⊢
    have a1 := Int.emod_nonneg v (show 2 * span + 1 ≠ 0 by omega)
    have a2 := Int.emod_lt_of_pos v (show 0 < 2 * span + 1 by omega)
    have a3 := Int.emod_nonneg (v / 131072) (show 2 * span + 1 ≠ 0 by omega)
    have a4 := Int.emod_lt_of_pos (v / 131072) (show 0 < 2 * span + 1 by omega)
    have w1 := wrapI (2 * span) (by omega)
    have w2 := wrapI (2 * span + 1) (by omega)
    have t1 : v.tmod (2 * span + 1) = v % (2 * span + 1) := Int.tmod_eq_emod_of_nonneg hv0
    have t2 : v.tdiv 131072 = v / 131072 := Int.tdiv_eq_ediv_of_nonneg hv0
    have t3 : (v / 131072).tmod (2 * span + 1) = v / 131072 % (2 * span + 1) := Int.tmod_eq_emod_of_nonneg (by omega)
    have t4 : v.tdiv 17179869184 = v / 17179869184 := Int.tdiv_eq_ediv_of_nonneg hv0
    have w3 := wrapI (v / 131072) (by omega)
    have w4 := wrapI (v % (2 * span + 1) - span) (by omega)
    have w5 := wrapI (v / 131072 % (2 * span + 1) - span) (by omega)
    have w6 := wrapI (v / 17179869184) (by omega)
    have w7 := wrapI (v / 17179869184 * 50) (by omega)
    have hq : ((firsts span nums x).map encP).take (firsts span nums x).length = (firsts span nums x).map encP := List.take_of_length_le (by simp)
    refine awpF_draw [0,1,2,3,4,5,6,7,8,9,10,11,12,13,14,15,16,17,18,19,20,21,22] (by kernel_rfl) (by kernel_rfl) rfl ?_; intro K hK; simp only [push_cast, seval, w1, w2, t1, t2, w3, t3, t4, w4, w5, w6, w7, hq]
    (repeat ((with_reducible refine And.intro ?_ ?_); (focus (exact ob1))))
    refine hK _ ?_; clear hK; clear K
    refine awpF_region ?_; intro K hK; simp only [push_cast, seval]; (try simp (disch := omega) only [wrapI]); (repeat ((with_reducible refine And.intro ?_ ?_); (focus (exact ob1)))); refine hK _ ?_; clear hK; clear K
    refine round_endG (x + 1) [0] ⟨?_, by omega, ?_⟩
    · omega
    · rw [htk, hpt]
      simp only [List.map_append, List.map_cons, List.map_nil, List.length_append, List.length_cons, List.length_nil, encP]
      exact ⟨by simp, by simp, by simp [push_cast, seval], by simp [push_cast, seval], by simp [push_cast, seval], by simp [push_cast, seval]⟩
  · intro h2; (try simp only [decide_eq_true_eq, decide_eq_false_iff_not, Bool.not_eq_true', Bool.not_eq_false', Bool.and_eq_true, Bool.or_eq_true, Bool.not_eq_true] at h2)
    have hxe : firsts span nums x = cloudOf span nums := by
      unfold firsts cloudOf
      by_cases e : (x : Int) < nums.length
      · simp [e] at h2
        have : x = 40 := by omega
        rw [this]
      · rw [List.take_of_length_le (i := x) (by omega), List.take_of_length_le (i := 40) (by omega)]
    rw [hxe]
    refine awp_exit ?_; (repeat (first | refine then_exit ?_ | refine inblock_other (by decide) ?_)); refine inblock_same ?_
    refine awp_seq ?_
    refine awpF_region ?_; intro K hK; simp only [push_cast, seval]; (try simp (disch := omega) only [wrapI]); (repeat ((with_reducible refine And.intro ?_ ?_); (focus (exact ob1)))); refine hK _ ?_; clear hK; clear K
    refine awp_ret ?_; (repeat (first | refine then_ret ?_ | refine inblock_ret ?_)); refine fin_of (by simp only [push_cast, seval]; first | done | rfl) ob1 ?_
    have h := Deep.data (H := [.data 3 ((cloudOf span nums).map encP)]) 0 0 (cloudOf span nums).length 3 ((cloudOf span nums).map encP) rfl (by simp)
    rw [List.drop_zero, List.take_of_length_le (by simp)] at h
    exact h

theorem cloud_fair {span : Int} (h0 : 0 ≤ span) {nums : List Int} {i : Nat} {p : Pt} (h : (cloudOf span nums)[i]? = some p) : -span ≤ p.1 ∧ p.1 ≤ span ∧ -span ≤ p.2.1 ∧ p.2.1 ≤ span := by
  obtain ⟨n, rfl⟩ := cloudOf_mem (List.mem_of_getElem? h)
  have := mkPt_in (n := n) h0
  omega

end Go.Aw
