/-
  ReleaseShares: its plain laws. No condition.
-/
import Derived.Test.YtmmnjelmahcbaaaPxN34
import Derived.Test.YtmmnjelmahcbaaaPkG
import Derived.Test.YtmmnjelmahcbaaaPxAwOn
import Derived.Test.YtmmnjelmahcbaaaPkD
namespace Go.Aw
set_option linter.unusedSimpArgs false
set_option linter.unusedVariables false
open Go.RowKit Go.Proofs Go.Nt Go.Rl

theorem shW_row {w : Nat} (h : 2 ≤ w ∧ w ≤ 5) : ((List.range w).Pairwise fun i j => shW w i < shW w j) ∧ shW w 0 = 0 ∧ shW w (w - 1) = 100 := by
  have : w = 2 ∨ w = 3 ∨ w = 4 ∨ w = 5 := by omega
  rcases this with rfl | rfl | rfl | rfl <;> decide
theorem shW_le {w i : Nat} (h : 2 ≤ w ∧ w ≤ 5) (hi : i < w) : shW w i ≤ 100 := by
  obtain ⟨h1, h2, h3⟩ := shW_row h
  rcases Nat.lt_or_ge i (w - 1) with h4 | h4
  · have := (List.pairwise_iff_getElem.1 h1) i (w - 1) (by simpa using hi) (by simp; omega) h4
    simp only [List.getElem_range] at this
    omega
  · obtain rfl : i = w - 1 := by omega
    omega
theorem planW_b (rs : List (Int × Int)) : 2 ≤ planW rs ∧ planW rs ≤ 5 := by unfold planW; omega
theorem plan_len (rs : List (Int × Int)) : (planL rs).length = planW rs := planI_len _ _
theorem stI_ok {w i : Nat} {r : Int × Int} (h : 2 ≤ w ∧ w ≤ 5) (hi : i < w) : stgB (stI w i r) = true := by
  have b1 := modI_bounds (n := r.1) (m := 12) (by decide)
  have b2 := modI_bounds (n := r.2) (m := 5) (by decide)
  have b3 := modI_bounds (n := IntKind.i64.wrap (r.1.tdiv 12)) (m := 4) (by decide)
  have b4 := modI_bounds (n := IntKind.i64.wrap (r.2.tdiv 5)) (m := 4) (by decide)
  have b5 := shW_le h hi
  unfold stgB stI
  simp only [Bool.and_eq_true, decide_eq_true_eq, rateB_iff]
  omega
theorem plan_ok (rs : List (Int × Int)) : stgsC (planL rs) = 0 := by
  have hw := planW_b rs
  have hl := plan_len rs
  have hall : (planL rs).all stgB = true := by
    rw [List.all_eq_true]
    intro s hs
    unfold planL planI at hs
    obtain ⟨i, hi, rfl⟩ := List.mem_map.1 hs
    exact stI_ok hw (List.mem_range.1 hi)
  obtain ⟨h1, h2, h3⟩ := shW_row hw
  have hrow : rowB (planL rs) = true := by
    unfold rowB
    rw [hl]
    simp only [Bool.and_eq_true, decide_eq_true_eq]
    refine ⟨?_, ?_, ?_⟩
    · unfold planL planI
      refine List.pairwise_map.2 (h1.imp fun {i j} h => ?_)
      show (shW (planW rs) i : Int) < (shW (planW rs) j : Int)
      omega
    · unfold planL planI
      rw [List.getElem?_map, List.getElem?_range (by omega)]
      show (shW (planW rs) 0 : Int) = 0
      omega
    · unfold planL planI
      rw [List.getElem?_map, List.getElem?_range (by omega)]
      show (shW (planW rs) (planW rs - 1) : Int) = 100
      omega
  unfold stgsC
  rw [hl, if_neg (by omega), if_neg (by omega), hall, hrow]
  rfl
/-- A state of the plan at some stage is well formed. -/
theorem sta_ok {k ol nw ph st : Int} {rs : List (Int × Int)} (hk : 1 ≤ k ∧ k ≤ 64) (ho : 0 ≤ ol ∧ ol ≤ 1000000) (hn : 0 ≤ nw ∧ nw ≤ 1000000) (hp : ph = 1 ∨ ph = 2 ∨ ph = 3) (hs : 0 ≤ st ∧ st < planW rs) :
    chkS ⟨k, ol, nw, planL rs, ph, st, 0, 0, 0⟩ = if ol = nw then 9 else 0 := by
  have hl := plan_len rs
  have hle : 1 ≤ leO ⟨k, ol, nw, planL rs, ph, st, 0, 0, 0⟩ := by
    unfold leO
    have h1 : st.toNat < (planL rs).length := by omega
    show 1 ≤ (((planL rs)[st.toNat]?).map Stg.le).getD 0
    rw [List.getElem?_eq_getElem h1]
    have h2 := List.all_eq_true.1 (stgs_all (plan_ok rs)).2.2 _ (List.getElem_mem h1)
    unfold stgB at h2
    simp only [Bool.and_eq_true, decide_eq_true_eq] at h2
    show 1 ≤ ((planL rs)[st.toNat]).le
    omega
  have hin : (decide (1 ≤ k ∧ k ≤ 64) && (inB ol && inB nw)) = true := by
    unfold inB
    simp only [Bool.and_eq_true, decide_eq_true_eq]
    omega
  have hph : phB ph = true := by simp only [phB, decide_eq_true_eq]; exact hp
  have hcn : cntB ⟨k, ol, nw, planL rs, ph, st, 0, 0, 0⟩ = true := by
    unfold cntB
    simp only [decide_eq_true_eq]
    rw [hl]
    omega
  unfold chkS
  dsimp only
  rw [hin, if_pos rfl]
  by_cases h : ol = nw
  · rw [if_pos h, if_pos h]
  · rw [if_neg h, if_neg h, plan_ok, if_pos rfl, hph, if_pos rfl, hcn, if_pos rfl, if_pos (Or.inl (by omega))]
theorem share_in {n k p : Int} (h : shareB n k p = true) (x : Int) : x ∈ shareD n k p ↔ x ∈ (sortK n (upto k.toNat)).take (partN k.toNat p.toNat) := by
  unfold shareD
  rw [if_pos h]
  exact (sortI_perm _).mem_iff
theorem share_len {n k p : Int} (h : shareB n k p = true) : (shareD n k p).length = partN k.toNat p.toNat := by
  have h2 := h
  simp only [shareB, ordB, Bool.and_eq_true, decide_eq_true_eq] at h2
  have := partN_le (k := k.toNat) (p := p.toNat) (by omega)
  unfold shareD
  rw [if_pos h, sortI_len, List.length_take, sortK_len, upto_len]
  omega
theorem partN_mono {k p q : Nat} (h : p ≤ q) : partN k p ≤ partN k q := by
  unfold partN
  have : k * p ≤ k * q := Nat.mul_le_mul_left _ h
  omega
theorem part_ceil (k p : Nat) : ((k : Int) * p ≤ (partN k p : Int) * 100) ∧ (0 < partN k p → ((partN k p : Int) - 1) * 100 < (k : Int) * p) := by
  unfold partN
  rw [← Int.natCast_mul]
  generalize k * p = m
  omega
/-- Who holds the new version in a state of the plan. -/
theorem has_plan {k ol nw st : Int} {rs : List (Int × Int)} (hk : 1 ≤ k ∧ k ≤ 64) (ho : 0 ≤ ol ∧ ol ≤ 1000000) (hn : 0 ≤ nw ∧ nw ≤ 1000000) (hne : ol ≠ nw) (ph : Int) (hp : ph = 1 ∨ ph = 2 ∨ ph = 3) (hs : 0 ≤ st ∧ st < planW rs) (c : Int) (hc : 0 ≤ c ∧ c < k) :
    hasI ⟨k, ol, nw, planL rs, ph, st, 0, 0, 0⟩ c = if newB ⟨k, ol, nw, planL rs, ph, st, 0, 0, 0⟩ c then nw else ol := by
  unfold hasI
  rw [sta_ok hk ho hn hp hs, if_neg hne, if_pos ⟨rfl, hc⟩]

theorem p20w (n m : Int) (hm : 0 < m) (hm2 : m ≤ 2000000) : PD Try.prog 20 [.int .i64 n, .int .i64 m] (.d (.int .i64 (modI n m))) := by
  have hb := tmod_bounds (n := n) hm
  have hw : IntKind.i64.wrap (n.tmod m + m) = n.tmod m + m := wrapI _ (by omega)
  refine pd_of (fn := Try.f20) [.tmp 4] (by kernel_rfl) rfl (by kernel_rfl) (Nat.le_of_ble_eq_true rfl) (by kernel_rfl) rfl rfl ?_
  refine awp_seq ?_
  refine awpF_region ?_; intro K hK; simp only [push_cast, seval]; (try simp (disch := omega) only [wrapI]); (repeat ((with_reducible refine And.intro ?_ ?_); (focus (first | omega | trivial | assumption | (intro _ hrow; obtain ⟨_, _, rfl⟩ := List.mem_map.1 hrow; rfl) | ((intros; repeat' apply And.intro) <;> first | omega | trivial | assumption | (intro _ hrow; obtain ⟨_, _, rfl⟩ := List.mem_map.1 hrow; rfl) | (simp_all; done) | (simp_all; omega)))))); refine hK _ ?_; clear hK; clear K
  refine awp_seq ?_
  refine awpF_region ?_; intro K hK; simp only [push_cast, seval]; (try simp (disch := omega) only [wrapI]); (repeat ((with_reducible refine And.intro ?_ ?_); (focus (first | omega | trivial | assumption | (intro _ hrow; obtain ⟨_, _, rfl⟩ := List.mem_map.1 hrow; rfl) | ((intros; repeat' apply And.intro) <;> first | omega | trivial | assumption | (intro _ hrow; obtain ⟨_, _, rfl⟩ := List.mem_map.1 hrow; rfl) | (simp_all; done) | (simp_all; omega)))))); refine hK _ ?_; clear hK; clear K
  refine awp_seq ?_
  refine awp_seq ?_
  refine awpF_region ?_; intro K hK; simp only [push_cast, seval]; (try simp (disch := omega) only [wrapI]); (repeat ((with_reducible refine And.intro ?_ ?_); (focus (first | omega | trivial | assumption | (intro _ hrow; obtain ⟨_, _, rfl⟩ := List.mem_map.1 hrow; rfl) | ((intros; repeat' apply And.intro) <;> first | omega | trivial | assumption | (intro _ hrow; obtain ⟨_, _, rfl⟩ := List.mem_map.1 hrow; rfl) | (simp_all; done) | (simp_all; omega)))))); refine hK _ ?_; clear hK; clear K
  apply awp_cond; (focus (simp only [push_cast, seval]; rfl))
  · intro h1; (try simp only [decide_eq_true_eq, decide_eq_false_iff_not, Bool.not_eq_true', Bool.not_eq_false', Bool.and_eq_true, Bool.or_eq_true, Bool.not_eq_true] at h1)
    refine awpF_region ?_; intro K hK; simp only [push_cast, seval, hw]; (try simp (disch := omega) only [wrapI]); (repeat ((with_reducible refine And.intro ?_ ?_); (focus (first | omega | trivial | assumption | (intro _ hrow; obtain ⟨_, _, rfl⟩ := List.mem_map.1 hrow; rfl) | ((intros; repeat' apply And.intro) <;> first | omega | trivial | assumption | (intro _ hrow; obtain ⟨_, _, rfl⟩ := List.mem_map.1 hrow; rfl) | (simp_all; done) | (simp_all; omega)))))); refine hK _ ?_; clear hK; clear K
    refine awp_seq ?_
    refine awpF_region ?_; intro K hK; simp only [push_cast, seval]; (try simp (disch := omega) only [wrapI]); (repeat ((with_reducible refine And.intro ?_ ?_); (focus (first | omega | trivial | assumption | (intro _ hrow; obtain ⟨_, _, rfl⟩ := List.mem_map.1 hrow; rfl) | ((intros; repeat' apply And.intro) <;> first | omega | trivial | assumption | (intro _ hrow; obtain ⟨_, _, rfl⟩ := List.mem_map.1 hrow; rfl) | (simp_all; done) | (simp_all; omega)))))); refine hK _ ?_; clear hK; clear K
    refine awp_ret ?_; (repeat (first | refine then_ret ?_ | refine inblock_ret ?_)); refine fin_of (by simp only [push_cast, seval]; first | done | rfl) (by first | trivial | first | omega | trivial | assumption | (intro _ hrow; obtain ⟨_, _, rfl⟩ := List.mem_map.1 hrow; rfl) | ((intros; repeat' apply And.intro) <;> first | omega | trivial | assumption | (intro _ hrow; obtain ⟨_, _, rfl⟩ := List.mem_map.1 hrow; rfl) | (simp_all; done) | (simp_all; omega))) ?_
    rw [modI, if_pos h1]
  · intro h1; (try simp only [decide_eq_true_eq, decide_eq_false_iff_not, Bool.not_eq_true', Bool.not_eq_false', Bool.and_eq_true, Bool.or_eq_true, Bool.not_eq_true] at h1)
    refine awp_skip ?_
    refine awp_seq ?_
    refine awpF_region ?_; intro K hK; simp only [push_cast, seval]; (try simp (disch := omega) only [wrapI]); (repeat ((with_reducible refine And.intro ?_ ?_); (focus (first | omega | trivial | assumption | (intro _ hrow; obtain ⟨_, _, rfl⟩ := List.mem_map.1 hrow; rfl) | ((intros; repeat' apply And.intro) <;> first | omega | trivial | assumption | (intro _ hrow; obtain ⟨_, _, rfl⟩ := List.mem_map.1 hrow; rfl) | (simp_all; done) | (simp_all; omega)))))); refine hK _ ?_; clear hK; clear K
    refine awp_ret ?_; (repeat (first | refine then_ret ?_ | refine inblock_ret ?_)); refine fin_of (by simp only [push_cast, seval]; first | done | rfl) (by first | trivial | first | omega | trivial | assumption | (intro _ hrow; obtain ⟨_, _, rfl⟩ := List.mem_map.1 hrow; rfl) | ((intros; repeat' apply And.intro) <;> first | omega | trivial | assumption | (intro _ hrow; obtain ⟨_, _, rfl⟩ := List.mem_map.1 hrow; rfl) | (simp_all; done) | (simp_all; omega))) ?_
    rw [modI, if_neg h1]

set_option maxHeartbeats 1000000 in
theorem new_plan {k ol nw : Int} {rs : List (Int × Int)} {j : Nat} (hj : j < (planL rs).length) (c : Int) : newB ⟨k, ol, nw, planL rs, 1, j, 0, 0, 0⟩ c = decide (c ∈ shareD nw k ((planL rs)[j]'hj).sh) := by
  unfold newB
  dsimp only
  rw [if_pos rfl, Int.toNat_natCast, List.getElem?_eq_getElem hj]
  rfl
set_option maxRecDepth 10000 in
theorem p13 (n0 k0 p0 q0 : Int) (rs : List (Int × Int)) : PD Try.prog 13 [.int .i64 n0, .int .i64 k0, .int .i64 p0, .int .i64 q0, .sl (rs.map enc2)] (.d (.bool true)) := by
  have h19 := p19
  have h20a := p20w n0 1000001 (by decide) (by decide)
  have h20b := p20 k0 64 (by decide) (by decide)
  have h20c := p20 p0 101 (by decide) (by decide)
  have ba := modI_bounds (n := n0) (m := 1000001) (by decide)
  have bb := modI_bounds (n := k0) (m := 64) (by decide)
  have bc := modI_bounds (n := p0) (m := 101) (by decide)
  generalize modI n0 1000001 = n at h20a ba
  generalize modI k0 64 = k1 at h20b bb
  generalize modI p0 101 = p at h20c bc
  have h20d := p20 q0 (101 - p) (by omega) (by omega)
  have bd := modI_bounds (n := q0) (m := 101 - p) (by omega)
  generalize modI q0 (101 - p) = q1 at h20d bd
  have w1 : IntKind.i64.wrap (1 + k1) = 1 + k1 := wrapI _ (by omega)
  have w2 : IntKind.i64.wrap (101 - p) = 101 - p := wrapI _ (by omega)
  have w3 : IntKind.i64.wrap (p + q1) = p + q1 := wrapI _ (by omega)
  obtain ⟨k, hk⟩ : ∃ k : Nat, 1 + k1 = k := ⟨(1 + k1).toNat, by omega⟩
  obtain ⟨p, rfl⟩ : ∃ m : Nat, p = m := ⟨p.toNat, by omega⟩
  obtain ⟨q, hq⟩ : ∃ m : Nat, (p : Int) + q1 = m := ⟨((p : Int) + q1).toNat, by omega⟩
  rw [hk] at w1
  rw [hq] at w3
  have hoB : ordB n k = true := by simp only [ordB, decide_eq_true_eq]; omega
  have hsp : shareB n k p = true := by simp only [shareB, hoB, Bool.true_and, decide_eq_true_eq]; omega
  have hsq : shareB n k q = true := by simp only [shareB, hoB, Bool.true_and, decide_eq_true_eq]; omega
  have h42p := p42 n k p
  have h42q := p42 n k q
  have h40 := p40 n k
  have hol : (ordD n k).length = k := by unfold ordD; rw [if_pos hoB, sortK_len, upto_len]; omega
  have hlp := share_len hsp
  have hpc := part_ceil k p
  have hmem : ∀ x, x ∈ shareD n k p → x ∈ shareD n k q ∧ x ∈ (ordD n k).take (shareD n k p).length := fun x hx => by
    rw [hlp]
    rw [share_in hsp] at hx
    rw [share_in hsq]
    refine ⟨?_, ?_⟩
    · have := List.take_subset_take_left (l := sortK n (upto (k : Int).toNat)) (partN_mono (k := k) (p := p) (q := q) (by omega))
      exact this hx
    · unfold ordD; rw [if_pos hoB]; exact hx
  have hlo := ordD_len n k
  have hkp : (0 : Int) ≤ (k : Int) * p ∧ (k : Int) * p ≤ 6400 := by
    have : k * p ≤ 64 * 100 := Nat.mul_le_mul (by omega) (by omega)
    rw [← Int.natCast_mul]; omega
  have hlo2 : (shareD n k p).length = partN k p := hlp
  have hm64 : partN k p ≤ k := partN_le (by omega)
  have hlen := shareD_len n k p
  have hlenq := shareD_len n k q
  have hf1 : ((ordD n k).length : Int) = k := by omega
  have hf2 : ((shareD n k p).length : Int) = (partN k p : Int) := by omega
  have v1 : IntKind.i64.wrap ((partN k p : Int) * 100) = (partN k p : Int) * 100 := wrapI _ (by omega)
  have v2 : IntKind.i64.wrap ((k : Int) * p) = (k : Int) * p := wrapI _ (by omega)
  have v3 : IntKind.i64.wrap ((partN k p : Int) - 1) = (partN k p : Int) - 1 := wrapI _ (by omega)
  have v4 : IntKind.i64.wrap (((partN k p : Int) - 1) * 100) = ((partN k p : Int) - 1) * 100 := wrapI _ (by omega)
  have v5 : ((partN k p : Int) * 100 < (k : Int) * p) = False := eq_false (by omega)
  have v6 : (((partN k p : Int) - 1) * 100 ≥ (k : Int) * p) = False := eq_false (by
    rcases Nat.eq_zero_or_pos (partN k p) with h0 | h0
    · omega
    · have := hpc.2 h0; omega)
  have hw0 := modI_bounds (n := n + 1) (m := 1000000) (by decide)
  refine pd_of (fn := Try.f13) [.tmp 10] (by kernel_rfl) rfl (by kernel_rfl) (Nat.le_of_ble_eq_true rfl) (by kernel_rfl) rfl rfl ?_
  refine awp_seq ?_
  refine awpF_region ?_; intro K hK; simp only [push_cast, seval]; (try simp (disch := omega) only [wrapI]); (repeat ((with_reducible refine And.intro ?_ ?_); (focus (first | omega | trivial | assumption | (intro _ hrow; obtain ⟨_, _, rfl⟩ := List.mem_map.1 hrow; rfl) | ((intros; repeat' apply And.intro) <;> first | omega | trivial | assumption | (intro _ hrow; obtain ⟨_, _, rfl⟩ := List.mem_map.1 hrow; rfl) | (simp_all; done) | (simp_all; omega)))))); refine hK _ ?_; clear hK; clear K
  refine awp_seq ?_
  refine awpF_region ?_; intro K hK; simp only [push_cast, seval]
  refine CallK.pd (h20a) ?_; simp only [push_cast, seval]; (try simp (disch := omega) only [wrapI]); (repeat ((with_reducible refine And.intro ?_ ?_); (focus (first | omega | trivial | assumption | (intro _ hrow; obtain ⟨_, _, rfl⟩ := List.mem_map.1 hrow; rfl) | ((intros; repeat' apply And.intro) <;> first | omega | trivial | assumption | (intro _ hrow; obtain ⟨_, _, rfl⟩ := List.mem_map.1 hrow; rfl) | (simp_all; done) | (simp_all; omega))))))
  refine CallK.pd (h20b) ?_; simp only [push_cast, seval]; (try simp (disch := omega) only [wrapI]); (repeat ((with_reducible refine And.intro ?_ ?_); (focus (first | omega | trivial | assumption | (intro _ hrow; obtain ⟨_, _, rfl⟩ := List.mem_map.1 hrow; rfl) | ((intros; repeat' apply And.intro) <;> first | omega | trivial | assumption | (intro _ hrow; obtain ⟨_, _, rfl⟩ := List.mem_map.1 hrow; rfl) | (simp_all; done) | (simp_all; omega))))))
  simp only [hk]
  refine hK _ ?_; clear hK; clear K
  refine awp_seq ?_
  refine awpF_region ?_; intro K hK; simp only [push_cast, seval]
  refine CallK.pd (h20c) ?_; simp only [push_cast, seval]; (try simp (disch := omega) only [wrapI]); (repeat ((with_reducible refine And.intro ?_ ?_); (focus (first | omega | trivial | assumption | (intro _ hrow; obtain ⟨_, _, rfl⟩ := List.mem_map.1 hrow; rfl) | ((intros; repeat' apply And.intro) <;> first | omega | trivial | assumption | (intro _ hrow; obtain ⟨_, _, rfl⟩ := List.mem_map.1 hrow; rfl) | (simp_all; done) | (simp_all; omega))))))
  refine hK _ ?_; clear hK; clear K
  refine awp_seq ?_
  refine awpF_region ?_; intro K hK; simp only [push_cast, seval, w2]
  refine CallK.pd (h20d) ?_; simp only [push_cast, seval]; (try simp (disch := omega) only [wrapI]); (repeat ((with_reducible refine And.intro ?_ ?_); (focus (first | omega | trivial | assumption | (intro _ hrow; obtain ⟨_, _, rfl⟩ := List.mem_map.1 hrow; rfl) | ((intros; repeat' apply And.intro) <;> first | omega | trivial | assumption | (intro _ hrow; obtain ⟨_, _, rfl⟩ := List.mem_map.1 hrow; rfl) | (simp_all; done) | (simp_all; omega))))))
  simp only [hq]
  refine hK _ ?_; clear hK; clear K
  refine awp_seq ?_
  refine awpF_region ?_; intro K hK; simp only [push_cast, seval]
  refine CallK.pd (h42p) ?_; simp only [push_cast, seval]; (try simp (disch := omega) only [wrapI]); (repeat ((with_reducible refine And.intro ?_ ?_); (focus (first | omega | trivial | assumption | (intro _ hrow; obtain ⟨_, _, rfl⟩ := List.mem_map.1 hrow; rfl) | ((intros; repeat' apply And.intro) <;> first | omega | trivial | assumption | (intro _ hrow; obtain ⟨_, _, rfl⟩ := List.mem_map.1 hrow; rfl) | (simp_all; done) | (simp_all; omega))))))
  refine CallK.pd (h42q) ?_; simp only [push_cast, seval]; (try simp (disch := omega) only [wrapI]); (repeat ((with_reducible refine And.intro ?_ ?_); (focus (first | omega | trivial | assumption | (intro _ hrow; obtain ⟨_, _, rfl⟩ := List.mem_map.1 hrow; rfl) | ((intros; repeat' apply And.intro) <;> first | omega | trivial | assumption | (intro _ hrow; obtain ⟨_, _, rfl⟩ := List.mem_map.1 hrow; rfl) | (simp_all; done) | (simp_all; omega))))))
  refine CallK.pd (h40) ?_; simp only [push_cast, seval]; (try simp (disch := omega) only [wrapI]); (repeat ((with_reducible refine And.intro ?_ ?_); (focus (first | omega | trivial | assumption | (intro _ hrow; obtain ⟨_, _, rfl⟩ := List.mem_map.1 hrow; rfl) | ((intros; repeat' apply And.intro) <;> first | omega | trivial | assumption | (intro _ hrow; obtain ⟨_, _, rfl⟩ := List.mem_map.1 hrow; rfl) | (simp_all; done) | (simp_all; omega))))))
  refine hK _ ?_; clear hK; clear K
  refine awp_seq ?_
  refine awp_seq ?_
  refine awpF_region ?_; intro K hK; simp only [push_cast, seval, hf1, hf2, v1, v2, v3, v4, v5, v6, bne_self_eq_false, decide_false, Bool.not_false, bif_or, bif_and]
  refine hK _ ?_; clear hK; clear K
  apply awp_cond; (focus (simp only [push_cast, seval]; rfl))
  · intro h1
    exact absurd h1 (by decide)
  · intro h1; (try simp only [decide_eq_true_eq, decide_eq_false_iff_not, Bool.not_eq_true', Bool.not_eq_false', Bool.and_eq_true, Bool.or_eq_true, Bool.not_eq_true] at h1)
    refine awp_skip ?_
    refine awp_mid (fun u => u = ⟨[(0, .d (.int .i64 n)), (1, .d (.int .i64 k)), (4, .d (.sl (rs.map enc2)))], []⟩) ?_ ?_
    · have hAl : (shareD n k p).length ≤ (ordD n k).length := by omega
      generalize shareD n k p = A at hmem hlen hAl ⊢
      generalize shareD n k q = B at hmem hlenq ⊢
      generalize ordD n k = O at hmem hlo hAl ⊢
      refine awp_seq ?_
      refine awpF_region ?_; intro K hK; simp only [push_cast, seval]; (try simp (disch := omega) only [wrapI]); (repeat ((with_reducible refine And.intro ?_ ?_); (focus (first | omega | trivial | assumption | (intro _ hrow; obtain ⟨_, _, rfl⟩ := List.mem_map.1 hrow; rfl) | ((intros; repeat' apply And.intro) <;> first | omega | trivial | assumption | (intro _ hrow; obtain ⟨_, _, rfl⟩ := List.mem_map.1 hrow; rfl) | (simp_all; done) | (simp_all; omega)))))); refine hK _ ?_; clear hK; clear K
      refine awp_block ?_
      refine awp_loopP (α := Nat) (st := fun i => ⟨[(0, .d (.int .i64 n)), (1, .d (.int .i64 k)), (4, .d (.sl (rs.map enc2))), (11, .d (.sl (A.map encI))), (12, .d (.sl (B.map encI))), (13, .d (.sl (O.map encI))), (14, .d (.int .i64 i))], []⟩) (inv := fun i => i ≤ A.length) (μ := fun i => A.length - i) (x0 := 0) (r0 := []) ?_ ?_ ?_
      · exact Nat.zero_le _
      · exact ⟨by simp, by simp, by simp [push_cast, seval], by simp [push_cast, seval], by simp [push_cast, seval], by simp [push_cast, seval]⟩
      intro i hi
      refine awp_seq ?_
      refine awp_seq ?_
      refine awpF_region ?_; intro K hK; simp only [push_cast, seval]; (try simp (disch := omega) only [wrapI]); (repeat ((with_reducible refine And.intro ?_ ?_); (focus (first | omega | trivial | assumption | (intro _ hrow; obtain ⟨_, _, rfl⟩ := List.mem_map.1 hrow; rfl) | ((intros; repeat' apply And.intro) <;> first | omega | trivial | assumption | (intro _ hrow; obtain ⟨_, _, rfl⟩ := List.mem_map.1 hrow; rfl) | (simp_all; done) | (simp_all; omega)))))); refine hK _ ?_; clear hK; clear K
      apply awp_cond; (focus (simp only [push_cast, seval]; rfl))
      · intro h2; (try simp only [decide_eq_true_eq, decide_eq_false_iff_not, Bool.not_eq_true', Bool.not_eq_false', Bool.and_eq_true, Bool.or_eq_true, Bool.not_eq_true] at h2)
        have hi2 : i < A.length := by omega
        have g1 := List.getElem?_eq_getElem hi2
        obtain ⟨m1, m2⟩ := hmem A[i] (List.getElem_mem hi2)
        have e1 := p44 B A[i] hlenq
        have e2 := p44 (O.take A.length) A[i] (by rw [List.length_take]; omega)
        rw [decide_eq_true m1] at e1
        rw [decide_eq_true m2] at e2
        have htk : (O.map encI).take A.length = (O.take A.length).map encI := List.map_take.symm
        refine awp_skip ?_
        refine awp_seq ?_
        refine awp_block ?_
        refine awp_seq ?_
        refine awpF_drawN [0,1,2,3,4,5,6,7,8,9,10] (DT.op 11 (DT.op 12 (DT.op 13 (DT.op 14 (DT.op 15 (DT.op 16 (DT.op 17 (DT.op 18 DT.nil)))))))) (by kernel_rfl) (by kernel_rfl) (by kernel_rfl) ?_; intro K hK; simp only [push_cast, seval, g1, encI, Int.toNat_natCast, Nat.sub_zero, htk, Bool.not_false, Bool.not_true, bif_or]
        (repeat ((with_reducible refine And.intro ?_ ?_); (focus (first | omega | trivial | assumption | (intro _ hrow; obtain ⟨_, _, rfl⟩ := List.mem_map.1 hrow; rfl) | ((intros; repeat' apply And.intro) <;> first | omega | trivial | assumption | (intro _ hrow; obtain ⟨_, _, rfl⟩ := List.mem_map.1 hrow; rfl) | (simp_all; done) | (simp_all; omega))))))
        refine CallK.pd e1 ?_
        simp only [push_cast, seval, Nat.sub_zero, htk, g1, encI, Int.toNat_natCast, Bool.not_true, Bool.not_false]
        (repeat ((with_reducible refine And.intro ?_ ?_); (focus (first | omega | trivial | assumption | (intro _ hrow; obtain ⟨_, _, rfl⟩ := List.mem_map.1 hrow; rfl) | ((intros; repeat' apply And.intro) <;> first | omega | trivial | assumption | (intro _ hrow; obtain ⟨_, _, rfl⟩ := List.mem_map.1 hrow; rfl) | (simp_all; done) | (simp_all; omega))))))
        refine CallK.pg (fun _ => e2) ?_
        simp only [push_cast, seval, Bool.not_false, Bool.not_true, bif_or]
        (repeat ((with_reducible refine And.intro ?_ ?_); (focus (first | omega | trivial | assumption | (intro _ hrow; obtain ⟨_, _, rfl⟩ := List.mem_map.1 hrow; rfl) | ((intros; repeat' apply And.intro) <;> first | omega | trivial | assumption | (intro _ hrow; obtain ⟨_, _, rfl⟩ := List.mem_map.1 hrow; rfl) | (simp_all; done) | (simp_all; omega))))))
        refine hK _ ?_; clear hK; clear K
        apply awp_cond; (focus (simp only [push_cast, seval]; rfl))
        · intro h3
          exact absurd h3 (by decide)
        · intro h3; (try simp only [decide_eq_true_eq, decide_eq_false_iff_not, Bool.not_eq_true', Bool.not_eq_false', Bool.and_eq_true, Bool.or_eq_true, Bool.not_eq_true] at h3)
          refine awp_skip ?_
          refine inblock_norm ?_
          refine awpF_region ?_; intro K hK; simp only [push_cast, seval]; (try simp (disch := omega) only [wrapI]); (repeat ((with_reducible refine And.intro ?_ ?_); (focus (first | omega | trivial | assumption | (intro _ hrow; obtain ⟨_, _, rfl⟩ := List.mem_map.1 hrow; rfl) | ((intros; repeat' apply And.intro) <;> first | omega | trivial | assumption | (intro _ hrow; obtain ⟨_, _, rfl⟩ := List.mem_map.1 hrow; rfl) | (simp_all; done) | (simp_all; omega)))))); refine hK _ ?_; clear hK; clear K
          refine round_endG (i + 1) [] ⟨by omega, by omega, ?_⟩
          exact ⟨by simp, by simp, by simp [push_cast, seval], by simp [push_cast, seval], by simp [push_cast, seval], by simp [push_cast, seval]⟩
      · intro h2; (try simp only [decide_eq_true_eq, decide_eq_false_iff_not, Bool.not_eq_true', Bool.not_eq_false', Bool.and_eq_true, Bool.or_eq_true, Bool.not_eq_true] at h2)
        refine awp_exit ?_; (repeat (first | refine then_exit ?_ | refine inblock_other (by decide) ?_)); refine inblock_same ?_
        refine mid_end [] _ rfl ?_
        exact ⟨by simp, by simp, by simp [push_cast, seval], by simp [push_cast, seval], by simp [push_cast, seval], by simp [push_cast, seval]⟩
    · rintro _ rfl
      have hb := tmod_bounds (n := n + 1) (m := 1000000) (by decide)
      have hb0 : 0 ≤ (n + 1).tmod 1000000 := Int.tmod_nonneg _ (by omega)
      have w4 : IntKind.i64.wrap (n + 1) = n + 1 := wrapI _ (by omega)
      generalize hol2 : (n + 1).tmod 1000000 = ol at hb hb0
      have h46 := p46 rs
      have hpl : (planL rs).length ≤ 1000000 := by have := plan_len rs; have := planW_b rs; omega
      have h45 := p45 k ol n (planL rs) hpl
      have hck := fun ph hp st hs => sta_ok (k := k) (ol := ol) (nw := n) (ph := ph) (st := st) (rs := rs) (by omega) (by omega) (by omega) hp hs
      have hpw := planW_b rs
      rw [show chkS (sta0 k ol n (planL rs)) = if ol = n then 9 else 0 from hck 1 (.inl rfl) 0 (by omega)] at h45
      by_cases hon : ol = n
      · rw [if_pos hon, if_neg (by decide)] at h45
        refine awp_seq ?_
        refine awpF_region ?_; intro K hK; simp only [push_cast, seval, w4, hol2]
        refine CallK.pd (h46) ?_; simp only [push_cast, seval]; (try simp (disch := omega) only [wrapI]); (repeat ((with_reducible refine And.intro ?_ ?_); (focus (first | omega | trivial | assumption | (intro _ hrow; obtain ⟨_, _, rfl⟩ := List.mem_map.1 hrow; rfl) | ((intros; repeat' apply And.intro) <;> first | omega | trivial | assumption | (intro _ hrow; obtain ⟨_, _, rfl⟩ := List.mem_map.1 hrow; rfl) | (simp_all; done) | (simp_all; omega))))))
        refine CallK.pd (h45) ?_; simp only [push_cast, seval]; (try simp (disch := omega) only [wrapI]); (repeat ((with_reducible refine And.intro ?_ ?_); (focus (first | omega | trivial | assumption | (intro _ hrow; obtain ⟨_, _, rfl⟩ := List.mem_map.1 hrow; rfl) | ((intros; repeat' apply And.intro) <;> first | omega | trivial | assumption | (intro _ hrow; obtain ⟨_, _, rfl⟩ := List.mem_map.1 hrow; rfl) | (simp_all; done) | (simp_all; omega))))))
        refine hK _ ?_; clear hK; clear K
        refine awp_seq ?_
        refine awp_seq ?_
        refine awpF_region ?_; intro K hK; simp only [push_cast, seval]; (try simp (disch := omega) only [wrapI]); (repeat ((with_reducible refine And.intro ?_ ?_); (focus (first | omega | trivial | assumption | (intro _ hrow; obtain ⟨_, _, rfl⟩ := List.mem_map.1 hrow; rfl) | ((intros; repeat' apply And.intro) <;> first | omega | trivial | assumption | (intro _ hrow; obtain ⟨_, _, rfl⟩ := List.mem_map.1 hrow; rfl) | (simp_all; done) | (simp_all; omega)))))); refine hK _ ?_; clear hK; clear K
        apply awp_cond; (focus (simp only [push_cast, seval]; rfl))
        · intro h2; (try simp only [decide_eq_true_eq, decide_eq_false_iff_not, Bool.not_eq_true', Bool.not_eq_false', Bool.and_eq_true, Bool.or_eq_true, Bool.not_eq_true] at h2)
          refine awp_seq ?_
          refine awpF_region ?_; intro K hK; simp only [push_cast, seval]
          refine CallK.pg (fun _ => h19) ?_
          simp only [push_cast, seval, bif_and, beq_self_eq_true]
          (repeat ((with_reducible refine And.intro ?_ ?_); (focus (first | omega | trivial | assumption | (intro _ hrow; obtain ⟨_, _, rfl⟩ := List.mem_map.1 hrow; rfl) | ((intros; repeat' apply And.intro) <;> first | omega | trivial | assumption | (intro _ hrow; obtain ⟨_, _, rfl⟩ := List.mem_map.1 hrow; rfl) | (simp_all; done) | (simp_all; omega))))))
          refine hK _ ?_; clear hK; clear K
          refine awp_ret ?_; (repeat (first | refine then_ret ?_ | refine inblock_ret ?_)); refine fin_of (by simp only [push_cast, seval]; first | done | rfl) (by first | trivial | first | omega | trivial | assumption | (intro _ hrow; obtain ⟨_, _, rfl⟩ := List.mem_map.1 hrow; rfl) | ((intros; repeat' apply And.intro) <;> first | omega | trivial | assumption | (intro _ hrow; obtain ⟨_, _, rfl⟩ := List.mem_map.1 hrow; rfl) | (simp_all; done) | (simp_all; omega))) ?_
          rfl
        · intro h2
          exact absurd h2 (by decide)
      · rw [if_neg hon, if_pos rfl] at h45
        have hasP := fun ph hp st hs c hc => has_plan (k := k) (ol := ol) (nw := n) (st := st) (rs := rs) (by omega) (by omega) (by omega) hon ph hp hs c hc
        unfold encS sta0 at h45
        dsimp only [List.map_cons, List.map_nil] at h45
        refine awp_seq ?_
        refine awpF_region ?_; intro K hK; simp only [push_cast, seval, w4, hol2]
        refine CallK.pd (h46) ?_; simp only [push_cast, seval]; (try simp (disch := omega) only [wrapI]); (repeat ((with_reducible refine And.intro ?_ ?_); (focus (first | omega | trivial | assumption | (intro _ hrow; obtain ⟨_, _, rfl⟩ := List.mem_map.1 hrow; rfl) | ((intros; repeat' apply And.intro) <;> first | omega | trivial | assumption | (intro _ hrow; obtain ⟨_, _, rfl⟩ := List.mem_map.1 hrow; rfl) | (simp_all; done) | (simp_all; omega))))))
        refine CallK.pd (h45) ?_; simp only [push_cast, seval]; (try simp (disch := omega) only [wrapI]); (repeat ((with_reducible refine And.intro ?_ ?_); (focus (first | omega | trivial | assumption | (intro _ hrow; obtain ⟨_, _, rfl⟩ := List.mem_map.1 hrow; rfl) | ((intros; repeat' apply And.intro) <;> first | omega | trivial | assumption | (intro _ hrow; obtain ⟨_, _, rfl⟩ := List.mem_map.1 hrow; rfl) | (simp_all; done) | (simp_all; omega))))))
        refine hK _ ?_; clear hK; clear K
        refine awp_seq ?_
        refine awp_seq ?_
        refine awpF_region ?_; intro K hK; simp only [push_cast, seval]; (try simp (disch := omega) only [wrapI]); (repeat ((with_reducible refine And.intro ?_ ?_); (focus (first | omega | trivial | assumption | (intro _ hrow; obtain ⟨_, _, rfl⟩ := List.mem_map.1 hrow; rfl) | ((intros; repeat' apply And.intro) <;> first | omega | trivial | assumption | (intro _ hrow; obtain ⟨_, _, rfl⟩ := List.mem_map.1 hrow; rfl) | (simp_all; done) | (simp_all; omega)))))); refine hK _ ?_; clear hK; clear K
        apply awp_cond; (focus (simp only [push_cast, seval]; rfl))
        · intro h2
          exact absurd h2 (by decide)
        · intro h2; (try simp only [decide_eq_true_eq, decide_eq_false_iff_not, Bool.not_eq_true', Bool.not_eq_false', Bool.and_eq_true, Bool.or_eq_true, Bool.not_eq_true] at h2)
          refine awp_skip ?_
          have hpn := plan_len rs
          have hqp := encG_len (planL rs)
          refine awp_mid (fun u => u = ⟨[(0, .d (.int .i64 n)), (1, .d (.int .i64 k)), (15, .ptr 0 0 0)], [.cells [.d (.int .i64 k), .d (.int .i64 ol), .d (.int .i64 n), .d (.sl ((planL rs).map encG)), .d (.int .i64 1), .d (.int .i64 ((planL rs).length - 1 : Nat)), .d (.int .i64 0), .d (.int .i64 0), .d (.int .i64 0)]]⟩) ?_ ?_
          · refine awp_seq ?_
            refine awpF_region ?_; intro K hK; simp only [push_cast, seval]; (try simp (disch := omega) only [wrapI]); (repeat ((with_reducible refine And.intro ?_ ?_); (focus (first | omega | trivial | assumption | (intro _ hrow; obtain ⟨_, _, rfl⟩ := List.mem_map.1 hrow; rfl) | ((intros; repeat' apply And.intro) <;> first | omega | trivial | assumption | (intro _ hrow; obtain ⟨_, _, rfl⟩ := List.mem_map.1 hrow; rfl) | (simp_all; done) | (simp_all; omega)))))); refine hK _ ?_; clear hK; clear K
            refine awp_block ?_
            refine awp_loopP (α := Nat) (st := fun j => ⟨[(0, .d (.int .i64 n)), (1, .d (.int .i64 k)), (15, .ptr 0 0 0), (17, .d (.int .i64 j))], [.cells [.d (.int .i64 k), .d (.int .i64 ol), .d (.int .i64 n), .d (.sl ((planL rs).map encG)), .d (.int .i64 1), .d (.int .i64 (j - 1 : Nat)), .d (.int .i64 0), .d (.int .i64 0), .d (.int .i64 0)]]⟩) (inv := fun j => j ≤ (planL rs).length) (μ := fun j => (planL rs).length - j) (x0 := 0) (r0 := [0]) ?_ ?_ ?_
            · exact Nat.zero_le _
            · exact ⟨by simp, by simp, by simp [push_cast, seval], by simp [push_cast, seval], by simp [push_cast, seval], by simp [push_cast, seval]⟩
            intro j hj
            refine awp_seq ?_
            refine awp_seq ?_
            refine awpF_region ?_; intro K hK; simp only [push_cast, seval]; (try simp (disch := omega) only [wrapI]); (repeat ((with_reducible refine And.intro ?_ ?_); (focus (first | omega | trivial | assumption | (intro _ hrow; obtain ⟨_, _, rfl⟩ := List.mem_map.1 hrow; rfl) | ((intros; repeat' apply And.intro) <;> first | omega | trivial | assumption | (intro _ hrow; obtain ⟨_, _, rfl⟩ := List.mem_map.1 hrow; rfl) | (simp_all; done) | (simp_all; omega)))))); refine hK _ ?_; clear hK; clear K
            apply awp_cond; (focus (simp only [push_cast, seval]; rfl))
            · intro h3; (try simp only [decide_eq_true_eq, decide_eq_false_iff_not, Bool.not_eq_true', Bool.not_eq_false', Bool.and_eq_true, Bool.or_eq_true, Bool.not_eq_true] at h3)
              have hj2 : j < (planL rs).length := by omega
              have g1 : ((planL rs).map encG)[j]? = some (encG (planL rs)[j]) := by rw [List.getElem?_map, List.getElem?_eq_getElem hj2]; rfl
              have h42j := p42 n k (planL rs)[j].sh
              have hnew := new_plan (k := k) (ol := ol) (nw := n) hj2
              have hshl := shareD_len n k (planL rs)[j].sh
              simp only [encG] at g1
              generalize (planL rs)[j].sh = sh at g1 h42j hnew hshl
              refine awp_skip ?_
              refine awp_seq ?_
              refine awp_block ?_
              refine awp_seq ?_
              refine awpF_region ?_; intro K hK; simp only [push_cast, seval]; (try simp (disch := omega) only [wrapI]); (repeat ((with_reducible refine And.intro ?_ ?_); (focus (first | omega | trivial | assumption | (intro _ hrow; obtain ⟨_, _, rfl⟩ := List.mem_map.1 hrow; rfl) | ((intros; repeat' apply And.intro) <;> first | omega | trivial | assumption | (intro _ hrow; obtain ⟨_, _, rfl⟩ := List.mem_map.1 hrow; rfl) | (simp_all; done) | (simp_all; omega)))))); refine hK _ ?_; clear hK; clear K
              refine awp_seq ?_
              refine awpF_region ?_; intro K hK; simp only [push_cast, seval, g1, Int.toNat_natCast]
              repeat (with_reducible refine And.intro ?_ ?_; (focus (first | exact hqp | omega)))
              refine CallK.pd (h42j) ?_; simp only [push_cast, seval]; (try simp (disch := omega) only [wrapI]); (repeat ((with_reducible refine And.intro ?_ ?_); (focus (first | omega | trivial | assumption | (intro _ hrow; obtain ⟨_, _, rfl⟩ := List.mem_map.1 hrow; rfl) | ((intros; repeat' apply And.intro) <;> first | omega | trivial | assumption | (intro _ hrow; obtain ⟨_, _, rfl⟩ := List.mem_map.1 hrow; rfl) | (simp_all; done) | (simp_all; omega))))))
              refine hK _ ?_; clear hK; clear K
              refine awp_seq ?_
              refine awpF_region ?_; intro K hK; simp only [push_cast, seval]; (try simp (disch := omega) only [wrapI]); (repeat ((with_reducible refine And.intro ?_ ?_); (focus (first | omega | trivial | assumption | (intro _ hrow; obtain ⟨_, _, rfl⟩ := List.mem_map.1 hrow; rfl) | ((intros; repeat' apply And.intro) <;> first | omega | trivial | assumption | (intro _ hrow; obtain ⟨_, _, rfl⟩ := List.mem_map.1 hrow; rfl) | (simp_all; done) | (simp_all; omega)))))); refine hK _ ?_; clear hK; clear K
              refine awp_block ?_
              refine awp_loopP (α := Nat) (st := fun c => ⟨[(0, .d (.int .i64 n)), (1, .d (.int .i64 k)), (15, .ptr 0 0 0), (17, .d (.int .i64 j)), (18, .d (.sl ((shareD n k sh).map encI))), (19, .d (.int .i64 c))], [.cells [.d (.int .i64 k), .d (.int .i64 ol), .d (.int .i64 n), .d (.sl ((planL rs).map encG)), .d (.int .i64 1), .d (.int .i64 j), .d (.int .i64 0), .d (.int .i64 0), .d (.int .i64 0)]]⟩) (inv := fun c => c ≤ k) (μ := fun c => k - c) (x0 := 0) (r0 := [0]) ?_ ?_ ?_
              · exact Nat.zero_le _
              · exact ⟨by simp, by simp, by simp [push_cast, seval], by simp [push_cast, seval], by simp [push_cast, seval], by simp [push_cast, seval]⟩
              intro c hc
              refine awp_seq ?_
              refine awp_seq ?_
              refine awpF_region ?_; intro K hK; simp only [push_cast, seval]; (try simp (disch := omega) only [wrapI]); (repeat ((with_reducible refine And.intro ?_ ?_); (focus (first | omega | trivial | assumption | (intro _ hrow; obtain ⟨_, _, rfl⟩ := List.mem_map.1 hrow; rfl) | ((intros; repeat' apply And.intro) <;> first | omega | trivial | assumption | (intro _ hrow; obtain ⟨_, _, rfl⟩ := List.mem_map.1 hrow; rfl) | (simp_all; done) | (simp_all; omega)))))); refine hK _ ?_; clear hK; clear K
              apply awp_cond; (focus (simp only [push_cast, seval]; rfl))
              · intro h4; (try simp only [decide_eq_true_eq, decide_eq_false_iff_not, Bool.not_eq_true', Bool.not_eq_false', Bool.and_eq_true, Bool.or_eq_true, Bool.not_eq_true] at h4)
                have h47 := p47 ⟨k, ol, n, planL rs, 1, j, 0, 0, 0⟩ c hpl (by show (-9223372036854775808 : Int) ≤ 1; decide) (by show (1 : Int) ≤ 9223372036854775807; decide)
                rw [hasP 1 (.inl rfl) j (by omega) c (by omega), hnew] at h47
                unfold encS at h47
                dsimp only at h47
                have h44 := p44 (shareD n k sh) c hshl
                generalize decide ((c : Int) ∈ shareD n k sh) = b at h47 h44
                refine awp_skip ?_
                refine awp_seq ?_
                refine awp_block ?_
                refine awp_seq ?_
                refine awpF_draw [0,1,3,4,6,7,2,5,8,9] (by kernel_rfl) (by kernel_rfl) rfl ?_; intro K hK; simp only [push_cast, seval]
                refine CallK.pd (h47) ?_; simp only [push_cast, seval]; (try simp (disch := omega) only [wrapI]); (repeat ((with_reducible refine And.intro ?_ ?_); (focus (first | omega | trivial | assumption | (intro _ hrow; obtain ⟨_, _, rfl⟩ := List.mem_map.1 hrow; rfl) | ((intros; repeat' apply And.intro) <;> first | omega | trivial | assumption | (intro _ hrow; obtain ⟨_, _, rfl⟩ := List.mem_map.1 hrow; rfl) | (simp_all; done) | (simp_all; omega))))))
                refine CallK.pd (h44) ?_; simp only [push_cast, seval]; (try simp (disch := omega) only [wrapI]); (repeat ((with_reducible refine And.intro ?_ ?_); (focus (first | omega | trivial | assumption | (intro _ hrow; obtain ⟨_, _, rfl⟩ := List.mem_map.1 hrow; rfl) | ((intros; repeat' apply And.intro) <;> first | omega | trivial | assumption | (intro _ hrow; obtain ⟨_, _, rfl⟩ := List.mem_map.1 hrow; rfl) | (simp_all; done) | (simp_all; omega))))))
                refine hK _ ?_; clear hK; clear K
                apply awp_cond; (focus (simp only [push_cast, seval]; rfl))
                · intro h5
                  exfalso
                  cases b
                  · simp at h5; omega
                  · simp at h5
                · intro h5; (try simp only [decide_eq_true_eq, decide_eq_false_iff_not, Bool.not_eq_true', Bool.not_eq_false', Bool.and_eq_true, Bool.or_eq_true, Bool.not_eq_true] at h5)
                  refine awp_skip ?_
                  refine inblock_norm ?_
                  refine awpF_region ?_; intro K hK; simp only [push_cast, seval]; (try simp (disch := omega) only [wrapI]); (repeat ((with_reducible refine And.intro ?_ ?_); (focus (first | omega | trivial | assumption | (intro _ hrow; obtain ⟨_, _, rfl⟩ := List.mem_map.1 hrow; rfl) | ((intros; repeat' apply And.intro) <;> first | omega | trivial | assumption | (intro _ hrow; obtain ⟨_, _, rfl⟩ := List.mem_map.1 hrow; rfl) | (simp_all; done) | (simp_all; omega)))))); refine hK _ ?_; clear hK; clear K
                  refine round_endG (c + 1) [0] ⟨by omega, by omega, ?_⟩
                  exact ⟨by simp, by simp, by simp [push_cast, seval], by simp [push_cast, seval], by simp [push_cast, seval], by simp [push_cast, seval]⟩
              · intro h4; (try simp only [decide_eq_true_eq, decide_eq_false_iff_not, Bool.not_eq_true', Bool.not_eq_false', Bool.and_eq_true, Bool.or_eq_true, Bool.not_eq_true] at h4)
                refine awp_exit ?_; (repeat (first | refine then_exit ?_ | refine inblock_other (by decide) ?_)); refine inblock_same ?_
                refine awpF_region ?_; intro K hK; simp only [push_cast, seval]; (try simp (disch := omega) only [wrapI]); (repeat ((with_reducible refine And.intro ?_ ?_); (focus (first | omega | trivial | assumption | (intro _ hrow; obtain ⟨_, _, rfl⟩ := List.mem_map.1 hrow; rfl) | ((intros; repeat' apply And.intro) <;> first | omega | trivial | assumption | (intro _ hrow; obtain ⟨_, _, rfl⟩ := List.mem_map.1 hrow; rfl) | (simp_all; done) | (simp_all; omega)))))); refine hK _ ?_; clear hK; clear K
                refine round_endG (j + 1) [0] ⟨by omega, by omega, ?_⟩
                rw [Nat.add_sub_cancel]
                exact ⟨by simp, by simp, by simp [push_cast, seval], by simp [push_cast, seval], by simp [push_cast, seval], by simp [push_cast, seval]⟩
            · intro h3; (try simp only [decide_eq_true_eq, decide_eq_false_iff_not, Bool.not_eq_true', Bool.not_eq_false', Bool.and_eq_true, Bool.or_eq_true, Bool.not_eq_true] at h3)
              refine awp_exit ?_; (repeat (first | refine then_exit ?_ | refine inblock_other (by decide) ?_)); refine inblock_same ?_
              have hjl : j = (planL rs).length := by omega
              subst hjl
              refine mid_end [0] _ rfl ?_
              exact ⟨by simp, by simp, by simp [push_cast, seval], by simp [push_cast, seval], by simp [push_cast, seval], by simp [push_cast, seval]⟩
          · rintro _ rfl
            have hz : (0 : Int) ≤ ((planL rs).length - 1 : Nat) ∧ (((planL rs).length - 1 : Nat) : Int) < planW rs := by omega
            generalize ((planL rs).length - 1 : Nat) = z at hz ⊢
            have h3 := p47 ⟨k, ol, n, planL rs, 3, z, 0, 0, 0⟩ 0 hpl (by show (-9223372036854775808 : Int) ≤ 3; decide) (by show (3 : Int) ≤ 9223372036854775807; decide)
            have h2' := p47 ⟨k, ol, n, planL rs, 2, z, 0, 0, 0⟩ ((k : Int) - 1) hpl (by show (-9223372036854775808 : Int) ≤ 2; decide) (by show (2 : Int) ≤ 9223372036854775807; decide)
            rw [hasP 3 (.inr (.inr rfl)) z (by omega) 0 (by omega), show newB ⟨k, ol, n, planL rs, 3, z, 0, 0, 0⟩ 0 = false from rfl] at h3
            rw [hasP 2 (.inr (.inl rfl)) z (by omega) ((k : Int) - 1) (by omega), show newB ⟨k, ol, n, planL rs, 2, z, 0, 0, 0⟩ ((k : Int) - 1) = true from rfl] at h2'
            simp only [Bool.false_eq_true, if_false, if_true] at h3 h2'
            have h48 := p48 ⟨k, ol, n, planL rs, 3, z, 0, 0, 0⟩ hpl
            unfold encS at h3 h2' h48
            dsimp only [List.map_cons, List.map_nil] at h3 h2' h48
            have wk : IntKind.i64.wrap ((k : Int) - 1) = (k : Int) - 1 := wrapI _ (by omega)
            refine awp_seq ?_
            refine awpF_region ?_; intro K hK; simp only [push_cast, seval]; (try simp (disch := omega) only [wrapI]); (repeat ((with_reducible refine And.intro ?_ ?_); (focus (first | omega | trivial | assumption | (intro _ hrow; obtain ⟨_, _, rfl⟩ := List.mem_map.1 hrow; rfl) | ((intros; repeat' apply And.intro) <;> first | omega | trivial | assumption | (intro _ hrow; obtain ⟨_, _, rfl⟩ := List.mem_map.1 hrow; rfl) | (simp_all; done) | (simp_all; omega)))))); refine hK _ ?_; clear hK; clear K
            refine awp_seq ?_
            refine awpF_region ?_; intro K hK; simp only [push_cast, seval]
            refine CallK.pd (h48) ?_; simp only [push_cast, seval]; (try simp (disch := omega) only [wrapI]); (repeat ((with_reducible refine And.intro ?_ ?_); (focus (first | omega | trivial | assumption | (intro _ hrow; obtain ⟨_, _, rfl⟩ := List.mem_map.1 hrow; rfl) | ((intros; repeat' apply And.intro) <;> first | omega | trivial | assumption | (intro _ hrow; obtain ⟨_, _, rfl⟩ := List.mem_map.1 hrow; rfl) | (simp_all; done) | (simp_all; omega))))))
            refine hK _ ?_; clear hK; clear K
            refine awp_seq ?_
            refine awpF_region ?_; intro K hK; simp only [push_cast, seval]; (try simp (disch := omega) only [wrapI]); (repeat ((with_reducible refine And.intro ?_ ?_); (focus (first | omega | trivial | assumption | (intro _ hrow; obtain ⟨_, _, rfl⟩ := List.mem_map.1 hrow; rfl) | ((intros; repeat' apply And.intro) <;> first | omega | trivial | assumption | (intro _ hrow; obtain ⟨_, _, rfl⟩ := List.mem_map.1 hrow; rfl) | (simp_all; done) | (simp_all; omega)))))); refine hK _ ?_; clear hK; clear K
            refine awp_seq ?_
            refine awpF_draw [0,2,3,1,4,5,6,7,8,10,11,9,12,13,14,15,16,17] (by kernel_rfl) (by kernel_rfl) rfl ?_; intro K hK; simp only [push_cast, seval, wk]
            (repeat ((with_reducible refine And.intro ?_ ?_); (focus (first | omega | trivial | assumption | (intro _ hrow; obtain ⟨_, _, rfl⟩ := List.mem_map.1 hrow; rfl) | ((intros; repeat' apply And.intro) <;> first | omega | trivial | assumption | (intro _ hrow; obtain ⟨_, _, rfl⟩ := List.mem_map.1 hrow; rfl) | (simp_all; done) | (simp_all; omega))))))
            refine CallK.pd (h3) ?_; simp only [push_cast, seval]; (try simp (disch := omega) only [wrapI]); (repeat ((with_reducible refine And.intro ?_ ?_); (focus (first | omega | trivial | assumption | (intro _ hrow; obtain ⟨_, _, rfl⟩ := List.mem_map.1 hrow; rfl) | ((intros; repeat' apply And.intro) <;> first | omega | trivial | assumption | (intro _ hrow; obtain ⟨_, _, rfl⟩ := List.mem_map.1 hrow; rfl) | (simp_all; done) | (simp_all; omega))))))
            simp only [push_cast, seval, beq_self_eq_true]
            refine CallK.pg (fun _ => h2') ?_
            simp only [push_cast, seval, beq_self_eq_true, bif_and]
            (repeat ((with_reducible refine And.intro ?_ ?_); (focus (first | omega | trivial | assumption | (intro _ hrow; obtain ⟨_, _, rfl⟩ := List.mem_map.1 hrow; rfl) | ((intros; repeat' apply And.intro) <;> first | omega | trivial | assumption | (intro _ hrow; obtain ⟨_, _, rfl⟩ := List.mem_map.1 hrow; rfl) | (simp_all; done) | (simp_all; omega))))))
            refine CallK.pg (fun _ => h19) ?_
            simp only [push_cast, seval, beq_self_eq_true, bif_and]
            (repeat ((with_reducible refine And.intro ?_ ?_); (focus (first | omega | trivial | assumption | (intro _ hrow; obtain ⟨_, _, rfl⟩ := List.mem_map.1 hrow; rfl) | ((intros; repeat' apply And.intro) <;> first | omega | trivial | assumption | (intro _ hrow; obtain ⟨_, _, rfl⟩ := List.mem_map.1 hrow; rfl) | (simp_all; done) | (simp_all; omega))))))
            refine hK _ ?_; clear hK; clear K
            refine awp_ret ?_; (repeat (first | refine then_ret ?_ | refine inblock_ret ?_)); refine fin_of (by simp only [push_cast, seval]; first | done | rfl) (by first | trivial | first | omega | trivial | assumption | (intro _ hrow; obtain ⟨_, _, rfl⟩ := List.mem_map.1 hrow; rfl) | ((intros; repeat' apply And.intro) <;> first | omega | trivial | assumption | (intro _ hrow; obtain ⟨_, _, rfl⟩ := List.mem_map.1 hrow; rfl) | (simp_all; done) | (simp_all; omega))) ?_
            rfl

theorem fit_2s {x : D} (h : FitA (.sl ty2) x) : ∃ l : List (Int × Int), x = .sl (l.map enc2) ∧ l.length ≤ maxLen := by
  obtain ⟨rows, h1, h2, h3⟩ := fits_sl h
  simp at h1
  subst h1
  obtain ⟨l, rfl⟩ := rows_map (f := enc2) fun row hr => by
    obtain ⟨a, b, e, _⟩ := fits_2 (h3 row hr)
    exact ⟨(a, b), e⟩
  exact ⟨l, rfl, by simpa using h2⟩
end Go.Aw
