/-
  ReleaseKnown: its walk. No condition.
-/
import Derived.Test.YtmmnjelmahcbaaaGreatPxZ10
import Derived.Test.YtmmnjelmahcbaaaGreatPkD
namespace Go.Aw
set_option linter.unusedSimpArgs false
set_option linter.unusedVariables false
open Go.RowKit Go.Proofs Go.Nt Go.Rl

theorem rep_run {s : Sta} {c : Int} (hc : chkS s = 0) (hp : s.ph = 1) (h0 : 0 ≤ c) (h1 : c < s.k) (hh : s.st > 0 → hasI s c = s.nw) (ha : s.al < 1099511627776) : repC s c = 0 := by
  have hr : runC s = 0 := by unfold runC; rw [if_pos hc, if_pos hp]
  have ho : outB s c = false := by
    unfold outB
    rw [decide_eq_true h0, decide_eq_true h1]
    by_cases h : s.st > 0
    · rw [hh h]; simp
    · simp [h]
  rw [repC_on c hr, ho, if_neg (by decide), if_neg (by omega)]
def stF (i : Nat) : Sta := if i = 3 then knS 1 0 0 3 1 else knS 0 i 0 i 1
def stB (i : Nat) : Sta := if i = 3 then knS 1 3 3 6 3 else knS 1 i i (3 + i) 1
theorem rF0 : repC (stF 0) 0 = 0 := rep_run (by decide +kernel) rfl (by decide) (by decide) (by decide) (by decide)
theorem rF1 : repC (stF 1) 0 = 0 := rep_run (by decide +kernel) rfl (by decide) (by decide) (by decide) (by decide)
theorem rF2 : repC (stF 2) 0 = 0 := rep_run (by decide +kernel) rfl (by decide) (by decide) (by decide) (by decide)
theorem jF0 : judS (cntS (stF 0) false) (knG 0) = stF 1 := by kernel_rfl
theorem jF1 : judS (cntS (stF 1) false) (knG 0) = stF 2 := by kernel_rfl
theorem jF2 : judS (cntS (stF 2) false) (knG 0) = stF 3 := by kernel_rfl
theorem jB0 : judS (cntS (stB 0) true) (knG 100) = stB 1 := by kernel_rfl
theorem jB1 : judS (cntS (stB 1) true) (knG 100) = stB 2 := by kernel_rfl
theorem jB2 : judS (cntS (stB 2) true) (knG 100) = stB 3 := by kernel_rfl
theorem hasB (s : Sta) (c : Int) (hk : s.k = 3) (hn : s.nw = 1) (hp : s.ph = 1) (hps : s.ps = knL) (hs : s.st = 1) (hc : chkS s = 0) (h0 : 0 ≤ c) (h3 : c < 3) : hasI s c = s.nw := by
  unfold hasI
  rw [if_pos ⟨hc, h0, by omega⟩]
  have : newB s c = true := by
    unfold newB
    rw [if_pos hp, hps, hs, hn, hk]
    show decide (c ∈ shareD 1 3 100) = true
    refine decide_eq_true ((share_in (by decide) c).2 ?_)
    rw [show partN (3 : Int).toNat (100 : Int).toNat = 3 from rfl, List.take_of_length_le (by rw [sortK_len, upto_len]; decide)]
    exact sortK_mem.2 ⟨h0, by show c < ((3 : Nat) : Int); omega⟩
  rw [this, if_pos rfl]
theorem rB (i : Nat) (hi : i < 3) : repC (stB i) i = 0 := by
  have hc : chkS (stB i) = 0 := by
    have : i = 0 ∨ i = 1 ∨ i = 2 := by omega
    rcases this with rfl | rfl | rfl <;> decide +kernel
  have hst : stB i = knS 1 i i (3 + i) 1 := by unfold stB; rw [if_neg (by omega)]
  rw [hst] at hc ⊢
  exact rep_run hc rfl (by omega) (by show (i : Int) < 3; omega) (fun _ => hasB _ _ rfl rfl rfl rfl rfl hc (by omega) (by omega)) (by show (3 + (i : Int)) < 1099511627776; omega)
theorem rF (i : Nat) (hi : i < 3) : repC (stF i) 0 = 0 ∧ judS (cntS (stF i) false) (knG 0) = stF (i + 1) ∧ (stF i).ps[(stF i).st.toNat]?.getD (knG 0) = knG 0 ∧ (stF i).ps.length ≤ 1000000 ∧ (stF i).ph = 1 := by
  have : i = 0 ∨ i = 1 ∨ i = 2 := by omega
  rcases this with rfl | rfl | rfl
  · exact ⟨rF0, jF0, rfl, by decide, rfl⟩
  · exact ⟨rF1, jF1, rfl, by decide, rfl⟩
  · exact ⟨rF2, jF2, rfl, by decide, rfl⟩
theorem jB (i : Nat) (hi : i < 3) : judS (cntS (stB i) true) (knG 100) = stB (i + 1) ∧ (stB i).ps[(stB i).st.toNat]?.getD (knG 100) = knG 100 ∧ (stB i).ps.length ≤ 1000000 ∧ (stB i).ph = 1 := by
  have : i = 0 ∨ i = 1 ∨ i = 2 := by omega
  rcases this with rfl | rfl | rfl
  · exact ⟨jB0, rfl, by decide, rfl⟩
  · exact ⟨jB1, rfl, by decide, rfl⟩
  · exact ⟨jB2, rfl, by decide, rfl⟩

theorem q35 : PD Tryz.prog 35 [] (.d (.sl (knL.map encG))) := by
  have h1 := p24 1 2
  have h2 := p24 1 8
  show PD Tryz.prog 35 _ (ofD (.sl (knL.map encG)))
  refine pdd_of (fn := Tryz.f35) [.tmp 0] (by kernel_rfl) rfl (by kernel_rfl) (Nat.le_of_ble_eq_true rfl) (by kernel_rfl) rfl ?_
  refine awp_seq ?_
  refine awpF_region ?_; intro K hK; simp only [push_cast, seval]; (try simp (disch := omega) only [wrapI]); (repeat ((with_reducible refine And.intro ?_ ?_); (focus (exact ob1)))); refine hK _ ?_; clear hK; clear K
  refine awp_seq ?_
  refine awpF_region ?_; intro K hK; simp only [push_cast, seval]
  refine CallK.pd (h1) ?_; simp only [push_cast, seval]; (try simp (disch := omega) only [wrapI]); (repeat ((with_reducible refine And.intro ?_ ?_); (focus (exact ob1))))
  refine CallK.pd (h2) ?_; simp only [push_cast, seval]; (try simp (disch := omega) only [wrapI]); (repeat ((with_reducible refine And.intro ?_ ?_); (focus (exact ob1))))
  refine CallK.pd (h2) ?_; simp only [push_cast, seval]; (try simp (disch := omega) only [wrapI]); (repeat ((with_reducible refine And.intro ?_ ?_); (focus (exact ob1))))
  refine hK _ ?_; clear hK; clear K
  refine awp_seq ?_
  refine awpF_region ?_; intro K hK; simp only [push_cast, seval]; (try simp (disch := omega) only [wrapI]); (repeat ((with_reducible refine And.intro ?_ ?_); (focus (exact ob1)))); refine hK _ ?_; clear hK; clear K
  refine awp_seq ?_
  refine awpF_region ?_; intro K hK; simp only [push_cast, seval]; (try simp (disch := omega) only [wrapI]); (repeat ((with_reducible refine And.intro ?_ ?_); (focus (exact ob1)))); refine hK _ ?_; clear hK; clear K
  refine awp_seq ?_
  refine awpF_region ?_; intro K hK; simp only [push_cast, seval]; (try simp (disch := omega) only [wrapI]); (repeat ((with_reducible refine And.intro ?_ ?_); (focus (exact ob1)))); refine hK _ ?_; clear hK; clear K
  refine awp_ret ?_; (repeat (first | refine then_ret ?_ | refine inblock_ret ?_)); refine fin_of (by simp only [push_cast, seval]; first | done | rfl) ob1 ?_
  exact Deep.data 2 0 2 8 (knL.map encG) rfl (by decide)

set_option maxRecDepth 10000 in
set_option maxHeartbeats 2000000 in
theorem q6 : PD Tryz.prog 6 [] (.d (.bool true)) := by
  have h7 := p19
  have h12 := p24 1 2
  have h15 := p24 1 5
  have h13 := p24 1 3
  have h01 := p24 0 1
  have h132 := p24 1 32
  have h150 := p24 1 50
  have s1 : ((⟨#[48, 46, 55, 53]⟩ : ByteArray) == ⟨#[48, 46, 55, 53]⟩) = true := by decide
  have s2 : ((⟨#[48, 46, 54, 54, 54, 54, 54]⟩ : ByteArray) == ⟨#[48, 46, 54, 54, 54, 54, 54]⟩) = true := by decide
  have s3 : ((⟨#[49, 46, 48]⟩ : ByteArray) == ⟨#[49, 46, 48]⟩) = true := by decide
  have h32a := p39 [0, 1, 2] [0, 1, 2] (by decide) (by decide)
  have h32b := p39 [0, 1] [0, 1] (by decide) (by decide)
  rw [decide_eq_true rfl] at h32a h32b
  have h14 := p45 3 0 1 knL (by decide)
  rw [kn17, if_pos rfl] at h14
  unfold encS sta0 at h14
  dsimp only [List.map_cons, List.map_nil] at h14
  refine pd_of (fn := Tryz.f6) [.tmp 0] (by kernel_rfl) rfl (by kernel_rfl) (Nat.le_of_ble_eq_true rfl) (by kernel_rfl) rfl rfl ?_
  refine awp_seq ?_
  refine awpF_region ?_; intro K hK; simp only [push_cast, seval]; (try simp (disch := omega) only [wrapI]); (repeat ((with_reducible refine And.intro ?_ ?_); (focus (exact ob1)))); refine hK _ ?_; clear hK; clear K
  refine awp_seq ?_
  refine awpF_region ?_; intro K hK; simp only [push_cast, seval]
  refine CallK.pd (h12) ?_; simp only [push_cast, seval]; (try simp (disch := omega) only [wrapI]); (repeat ((with_reducible refine And.intro ?_ ?_); (focus (exact ob1))))
  refine CallK.pd (h15) ?_; simp only [push_cast, seval]; (try simp (disch := omega) only [wrapI]); (repeat ((with_reducible refine And.intro ?_ ?_); (focus (exact ob1))))
  refine hK _ ?_; clear hK; clear K
  refine awp_seq ?_
  refine awpF_region ?_; intro K hK; simp only [push_cast, seval]
  refine CallK.pd (kn1) ?_; simp only [push_cast, seval]; (try simp (disch := omega) only [wrapI]); (repeat ((with_reducible refine And.intro ?_ ?_); (focus (exact ob1))))
  refine hK _ ?_; clear hK; clear K
  refine awp_seq ?_
  refine awpF_region ?_; intro K hK; simp only [push_cast, seval]
  refine CallK.pd (h13) ?_; simp only [push_cast, seval]; (try simp (disch := omega) only [wrapI]); (repeat ((with_reducible refine And.intro ?_ ?_); (focus (exact ob1))))
  refine CallK.pd (kn2) ?_; simp only [push_cast, seval]; (try simp (disch := omega) only [wrapI]); (repeat ((with_reducible refine And.intro ?_ ?_); (focus (exact ob1))))
  refine hK _ ?_; clear hK; clear K
  refine awp_seq ?_
  refine awpF_region ?_; intro K hK; simp only [push_cast, seval]
  refine CallK.pd (h01) ?_; simp only [push_cast, seval]; (try simp (disch := omega) only [wrapI]); (repeat ((with_reducible refine And.intro ?_ ?_); (focus (exact ob1))))
  refine CallK.pd (kn3) ?_; simp only [push_cast, seval]; (try simp (disch := omega) only [wrapI]); (repeat ((with_reducible refine And.intro ?_ ?_); (focus (exact ob1))))
  refine hK _ ?_; clear hK; clear K
  refine awp_seq ?_
  refine awpF_region ?_; intro K hK; simp only [push_cast, seval]
  refine CallK.pd (kn4) ?_; simp only [push_cast, seval]; (try simp (disch := omega) only [wrapI]); (repeat ((with_reducible refine And.intro ?_ ?_); (focus (exact ob1))))
  refine hK _ ?_; clear hK; clear K
  refine awp_seq ?_
  refine awp_seq ?_
  refine awpF_region ?_; intro K hK; simp only [push_cast, seval, s1, s2, s3, Bool.not_true, bne, bne_self_eq_false, Bool.not_false]
  refine hK _ ?_; clear hK; clear K
  apply awp_cond; (focus (simp only [push_cast, seval]; rfl))
  · intro h
    exact absurd h (by decide)
  intro h
  clear h
  refine awp_skip ?_
  refine awp_mid (fun u => u = ⟨[(1, .ptr 0 0 0), (2, .ptr 1 0 0)], [.cells [.d (.int .i64 1), .d (.int .i64 2)], .cells [.d (.int .i64 1), .d (.int .i64 5)]]⟩) ?_ ?_
  · refine awp_seq ?_
    refine awpF_draw [0,1,2,3,4,5,6,7,8,9,10,11,12,13,14,15,16,17,18,19,20,21,22,23,24,25,26] (by kernel_rfl) (by kernel_rfl) rfl ?_; intro K hK; simp only [push_cast, seval]
    refine CallK.pd (h132) ?_; simp only [push_cast, seval]; (try simp (disch := omega) only [wrapI]); (repeat ((with_reducible refine And.intro ?_ ?_); (focus (exact ob1))))
    refine CallK.pd kn5 ?_
    simp only [push_cast, seval, Bool.not_true, Bool.not_false]
    refine CallK.pg (fun _ => h132) ?_
    simp only [push_cast, seval, Bool.not_true, Bool.not_false]
    (repeat ((with_reducible refine And.intro ?_ ?_); (focus (exact ob1))))
    refine CallK.pg (fun _ => kn6) ?_
    simp only [push_cast, seval, Bool.not_true, Bool.not_false]
    (repeat ((with_reducible refine And.intro ?_ ?_); (focus (exact ob1))))
    refine CallK.pg (fun _ => kn7) ?_
    simp only [push_cast, seval, Bool.not_true, Bool.not_false, bne_self_eq_false]
    (repeat ((with_reducible refine And.intro ?_ ?_); (focus (exact ob1))))
    refine CallK.pg (fun _ => kn8) ?_
    simp only [push_cast, seval, Bool.not_true, Bool.not_false, bne_self_eq_false]
    (repeat ((with_reducible refine And.intro ?_ ?_); (focus (exact ob1))))
    refine CallK.pg (fun _ => kn9) ?_
    simp only [push_cast, seval, Bool.not_true, Bool.not_false, bne_self_eq_false]
    (repeat ((with_reducible refine And.intro ?_ ?_); (focus (exact ob1))))
    refine hK _ ?_; clear hK; clear K
    apply awp_cond; (focus (simp only [push_cast, seval]; rfl))
    · intro h
      exact absurd h (by decide)
    intro h
    clear h
    refine awp_skip ?_
    refine mid_end [0, 1] _ rfl ?_
    exact ⟨by simp, by simp, by simp [push_cast, seval], by simp [push_cast, seval], by simp [push_cast, seval], by simp [push_cast, seval]⟩
  rintro _ rfl
  refine awp_mid (fun u => u = ⟨[(1, .ptr 0 0 0), (2, .ptr 1 0 0)], [.cells [.d (.int .i64 1), .d (.int .i64 2)], .cells [.d (.int .i64 1), .d (.int .i64 5)]]⟩) ?_ ?_
  · refine awp_seq ?_
    refine awpF_region ?_; intro K hK; simp only [push_cast, seval]
    refine CallK.pd (h132) ?_; simp only [push_cast, seval]; (try simp (disch := omega) only [wrapI]); (repeat ((with_reducible refine And.intro ?_ ?_); (focus (exact ob1))))
    refine CallK.pd kn10 ?_
    simp only [push_cast, seval, Bool.not_false, bne_self_eq_false]
    refine CallK.pg (fun _ => kn11) ?_
    simp only [push_cast, seval, Bool.not_false, bne_self_eq_false]
    (repeat ((with_reducible refine And.intro ?_ ?_); (focus (exact ob1))))
    refine CallK.pg (fun _ => h150) ?_
    simp only [push_cast, seval, Bool.not_false, bne_self_eq_false]
    (repeat ((with_reducible refine And.intro ?_ ?_); (focus (exact ob1))))
    refine CallK.pg (fun _ => kn12) ?_
    simp only [push_cast, seval, Bool.not_false, bne_self_eq_false]
    (repeat ((with_reducible refine And.intro ?_ ?_); (focus (exact ob1))))
    refine hK _ ?_; clear hK; clear K
    apply awp_cond; (focus (simp only [push_cast, seval]; rfl))
    · intro h
      exact absurd h (by decide)
    intro h
    clear h
    refine awp_skip ?_
    refine mid_end [0, 1] _ rfl ?_
    exact ⟨by simp, by simp, by simp [push_cast, seval], by simp [push_cast, seval], by simp [push_cast, seval], by simp [push_cast, seval]⟩
  rintro _ rfl
  refine awp_seq ?_
  refine awpF_region ?_; intro K hK; simp only [push_cast, seval]
  (repeat ((with_reducible refine And.intro ?_ ?_); (focus (exact ob1))))
  refine CallK.pd kn13 ?_
  simp only [push_cast, seval]
  refine hK _ ?_; clear hK; clear K
  refine awp_mid (fun u => u = ⟨[], []⟩) ?_ ?_
  · refine awp_seq ?_
    refine awpF_region ?_; intro K hK; simp only [push_cast, seval, bne_self_eq_false, Bool.not_true, Bool.not_false]
    (repeat ((with_reducible refine And.intro ?_ ?_); (focus (exact ob1))))
    refine CallK.pg (fun _ => kn14) ?_
    simp only [push_cast, seval, bne_self_eq_false, Bool.not_true, Bool.not_false]
    (repeat ((with_reducible refine And.intro ?_ ?_); (focus (exact ob1))))
    refine CallK.pg (fun _ => h32a) ?_
    simp only [push_cast, seval, bne_self_eq_false, Bool.not_true, Bool.not_false]
    (repeat ((with_reducible refine And.intro ?_ ?_); (focus (exact ob1))))
    refine CallK.pg (fun _ => kn15) ?_
    simp only [push_cast, seval, bne_self_eq_false, Bool.not_true, Bool.not_false]
    (repeat ((with_reducible refine And.intro ?_ ?_); (focus (exact ob1))))
    refine CallK.pg (fun _ => h32b) ?_
    simp only [push_cast, seval, bne_self_eq_false, Bool.not_true, Bool.not_false]
    (repeat ((with_reducible refine And.intro ?_ ?_); (focus (exact ob1))))
    refine CallK.pg (fun _ => kn16) ?_
    simp only [push_cast, seval, bne_self_eq_false, Bool.not_true, Bool.not_false]
    (repeat ((with_reducible refine And.intro ?_ ?_); (focus (exact ob1))))
    refine hK _ ?_; clear hK; clear K
    apply awp_cond; (focus (simp only [push_cast, seval]; rfl))
    · intro h
      exact absurd h (by decide)
    intro h
    clear h
    refine awp_skip ?_
    refine mid_end [] _ rfl ?_
    exact ⟨by simp, by simp, by simp [push_cast, seval], by simp [push_cast, seval], by simp [push_cast, seval], by simp [push_cast, seval]⟩
  rintro _ rfl
  refine awp_seq ?_
  refine awpF_region ?_; intro K hK; simp only [push_cast, seval]
  refine CallK.pd (q35) ?_; simp only [push_cast, seval]; (try simp (disch := omega) only [wrapI]); (repeat ((with_reducible refine And.intro ?_ ?_); (focus (exact ob1))))
  refine CallK.pd (h14) ?_; simp only [push_cast, seval]; (try simp (disch := omega) only [wrapI]); (repeat ((with_reducible refine And.intro ?_ ?_); (focus (exact ob1))))
  refine hK _ ?_; clear hK; clear K
  refine awp_mid (fun u => u = ⟨[(4, .d (.int .i64 0)), (13, .ptr 0 0 0)], [.cells [.d (.int .i64 (stF 3).k), .d (.int .i64 (stF 3).ol), .d (.int .i64 (stF 3).nw), .d (.sl ((stF 3).ps.map encG)), .d (.int .i64 (stF 3).ph), .d (.int .i64 (stF 3).st), .d (.int .i64 (stF 3).gt), .d (.int .i64 (stF 3).bd), .d (.int .i64 (stF 3).al)]]⟩) ?_ ?_
  · refine awp_seq ?_
    refine awpF_region ?_; intro K hK; simp only [push_cast, seval]; (try simp (disch := omega) only [wrapI]); (repeat ((with_reducible refine And.intro ?_ ?_); (focus (exact ob1)))); refine hK _ ?_; clear hK; clear K
    refine awp_block ?_
    refine awp_loopP (α := Nat) (st := fun i => ⟨[(4, .d (.int .i64 0)), (13, .ptr 0 0 0), (14, .d (.int .i64 i))], [.cells [.d (.int .i64 (stF i).k), .d (.int .i64 (stF i).ol), .d (.int .i64 (stF i).nw), .d (.sl ((stF i).ps.map encG)), .d (.int .i64 (stF i).ph), .d (.int .i64 (stF i).st), .d (.int .i64 (stF i).gt), .d (.int .i64 (stF i).bd), .d (.int .i64 (stF i).al)]]⟩) (inv := fun i => i ≤ 3) (μ := fun i => 3 - i) (x0 := 0) (r0 := [0]) ?_ ?_ ?_
    · exact Nat.zero_le _
    · rw [show stF 0 = sta0 3 0 1 knL from rfl]
      unfold sta0
      exact ⟨by simp, by simp, by simp [push_cast, seval], by simp [push_cast, seval], by simp [push_cast, seval], by simp [push_cast, seval]⟩
    intro i hi
    refine awp_seq ?_
    refine awp_seq ?_
    refine awpF_region ?_; intro K hK; simp only [push_cast, seval, beq_self_eq_true, bif_and, Bool.and_true]
    repeat (refine ⟨fun h => by rw [h]; rfl, ?_⟩)
    refine hK _ ?_; clear hK; clear K
    apply awp_cond; (focus (simp only [push_cast, seval]; rfl))
    · intro h3; (try simp only [decide_eq_true_eq, decide_eq_false_iff_not, Bool.not_eq_true', Bool.not_eq_false', Bool.and_eq_true, Bool.or_eq_true, Bool.not_eq_true] at h3)
      have hi2 : i < 3 := by omega
      obtain ⟨e1, e2, e3, e4, e5⟩ := rF i hi2
      have h49 := p49 (stF i) 0 false (knG 0) e3 e4 (by rw [e5]; decide) (by rw [e5]; decide)
      rw [e1, if_pos rfl, e2] at h49
      unfold encS at h49
      generalize stF i = s at h49 ⊢
      generalize hy : stF (i + 1) = y at h49
      have wi : IntKind.i64.wrap ((i : Int) + 1) = (i : Int) + 1 := wrapI _ (by omega)
      refine awp_skip ?_
      refine awp_seq ?_
      refine awp_block ?_
      refine awpF_region ?_; intro K hK; simp only [push_cast, seval]
      refine CallK.pd (h49) ?_; simp only [push_cast, seval]; (try simp (disch := omega) only [wrapI]); (repeat ((with_reducible refine And.intro ?_ ?_); (focus (exact ob1))))
      refine hK _ ?_; clear hK; clear K
      refine inblock_norm ?_
      refine awpF_region ?_; intro K hK; simp only [push_cast, seval, wi]; (try simp (disch := omega) only [wrapI]); (repeat ((with_reducible refine And.intro ?_ ?_); (focus (exact ob1)))); refine hK _ ?_; clear hK; clear K
      refine round_endG (i + 1) [0] ⟨by omega, by omega, ?_⟩
      rw [hy]
      exact ⟨by simp, by simp, by simp [push_cast, seval], by simp [push_cast, seval], by simp [push_cast, seval], by simp [push_cast, seval]⟩
    · intro h3; (try simp only [decide_eq_true_eq, decide_eq_false_iff_not, Bool.not_eq_true', Bool.not_eq_false', Bool.and_eq_true, Bool.or_eq_true, Bool.not_eq_true] at h3)
      refine awp_exit ?_; (repeat (first | refine then_exit ?_ | refine inblock_other (by decide) ?_)); refine inblock_same ?_
      obtain rfl : i = 3 := by omega
      refine mid_end [0] _ rfl ?_
      exact ⟨by simp, by simp, by simp [push_cast, seval], by simp [push_cast, seval], by simp [push_cast, seval], by simp [push_cast, seval]⟩
  rintro _ rfl
  refine awp_mid (fun u => u = ⟨[(4, .d (.int .i64 0)), (13, .ptr 0 0 0)], [.cells [.d (.int .i64 (stF 3).k), .d (.int .i64 (stF 3).ol), .d (.int .i64 (stF 3).nw), .d (.sl ((stF 3).ps.map encG)), .d (.int .i64 (stF 3).ph), .d (.int .i64 (stF 3).st), .d (.int .i64 (stF 3).gt), .d (.int .i64 (stF 3).bd), .d (.int .i64 (stF 3).al)]]⟩) ?_ ?_
  · refine awp_seq ?_
    refine awpF_region ?_; intro K hK; simp only [push_cast, seval, show (stF 3).st = 1 from rfl, show (stF 3).gt = 0 from rfl, show (stF 3).ph = 1 from rfl, bne_self_eq_false, Bool.not_false]
    (repeat ((with_reducible refine And.intro ?_ ?_); (focus (exact ob1))))
    refine hK _ ?_; clear hK; clear K
    apply awp_cond; (focus (simp only [push_cast, seval]; rfl))
    · intro h
      exact absurd h (by decide)
    intro h
    clear h
    refine awp_skip ?_
    refine mid_end [0] _ rfl ?_
    simp only [show (stF 3).st = 1 from rfl, show (stF 3).gt = 0 from rfl, show (stF 3).ph = 1 from rfl]
    exact ⟨by simp, by simp, by simp [push_cast, seval], by simp [push_cast, seval], by simp [push_cast, seval], by simp [push_cast, seval]⟩
  rintro _ rfl
  refine awp_mid (fun u => u = ⟨[(4, .d (.int .i64 0)), (13, .ptr 0 0 0)], [.cells [.d (.int .i64 (stB 3).k), .d (.int .i64 (stB 3).ol), .d (.int .i64 (stB 3).nw), .d (.sl ((stB 3).ps.map encG)), .d (.int .i64 (stB 3).ph), .d (.int .i64 (stB 3).st), .d (.int .i64 (stB 3).gt), .d (.int .i64 (stB 3).bd), .d (.int .i64 (stB 3).al)]]⟩) ?_ ?_
  · refine awp_seq ?_
    refine awpF_region ?_; intro K hK; simp only [push_cast, seval]; (try simp (disch := omega) only [wrapI]); (repeat ((with_reducible refine And.intro ?_ ?_); (focus (exact ob1)))); refine hK _ ?_; clear hK; clear K
    refine awp_block ?_
    refine awp_loopP (α := Nat) (st := fun i => ⟨[(4, .d (.int .i64 0)), (13, .ptr 0 0 0), (15, .d (.int .i64 i))], [.cells [.d (.int .i64 (stB i).k), .d (.int .i64 (stB i).ol), .d (.int .i64 (stB i).nw), .d (.sl ((stB i).ps.map encG)), .d (.int .i64 (stB i).ph), .d (.int .i64 (stB i).st), .d (.int .i64 (stB i).gt), .d (.int .i64 (stB i).bd), .d (.int .i64 (stB i).al)]]⟩) (inv := fun i => i ≤ 3) (μ := fun i => 3 - i) (x0 := 0) (r0 := [0]) ?_ ?_ ?_
    · exact Nat.zero_le _
    · rw [show stB 0 = stF 3 from rfl]
      exact ⟨by simp, by simp, by simp [push_cast, seval], by simp [push_cast, seval], by simp [push_cast, seval], by simp [push_cast, seval]⟩
    intro i hi
    refine awp_seq ?_
    refine awp_seq ?_
    refine awpF_region ?_; intro K hK; simp only [push_cast, seval, beq_self_eq_true, bif_and, Bool.and_true]
    repeat (refine ⟨fun h => by rw [h]; rfl, ?_⟩)
    refine hK _ ?_; clear hK; clear K
    apply awp_cond; (focus (simp only [push_cast, seval]; rfl))
    · intro h3; (try simp only [decide_eq_true_eq, decide_eq_false_iff_not, Bool.not_eq_true', Bool.not_eq_false', Bool.and_eq_true, Bool.or_eq_true, Bool.not_eq_true] at h3)
      have hi2 : i < 3 := by omega
      obtain ⟨e2, e3, e4, e5⟩ := jB i hi2
      have h49 := p49 (stB i) i true (knG 100) e3 e4 (by rw [e5]; decide) (by rw [e5]; decide)
      rw [rB i hi2, if_pos rfl, e2] at h49
      unfold encS at h49
      generalize stB i = s at h49 ⊢
      generalize hy : stB (i + 1) = y at h49
      have wi : IntKind.i64.wrap ((i : Int) + 1) = (i : Int) + 1 := wrapI _ (by omega)
      refine awp_skip ?_
      refine awp_seq ?_
      refine awp_block ?_
      refine awpF_region ?_; intro K hK; simp only [push_cast, seval]
      refine CallK.pd (h49) ?_; simp only [push_cast, seval]; (try simp (disch := omega) only [wrapI]); (repeat ((with_reducible refine And.intro ?_ ?_); (focus (exact ob1))))
      refine hK _ ?_; clear hK; clear K
      refine inblock_norm ?_
      refine awpF_region ?_; intro K hK; simp only [push_cast, seval, wi]; (try simp (disch := omega) only [wrapI]); (repeat ((with_reducible refine And.intro ?_ ?_); (focus (exact ob1)))); refine hK _ ?_; clear hK; clear K
      refine round_endG (i + 1) [0] ⟨by omega, by omega, ?_⟩
      rw [hy]
      exact ⟨by simp, by simp, by simp [push_cast, seval], by simp [push_cast, seval], by simp [push_cast, seval], by simp [push_cast, seval]⟩
    · intro h3; (try simp only [decide_eq_true_eq, decide_eq_false_iff_not, Bool.not_eq_true', Bool.not_eq_false', Bool.and_eq_true, Bool.or_eq_true, Bool.not_eq_true] at h3)
      refine awp_exit ?_; (repeat (first | refine then_exit ?_ | refine inblock_other (by decide) ?_)); refine inblock_same ?_
      obtain rfl : i = 3 := by omega
      refine mid_end [0] _ rfl ?_
      exact ⟨by simp, by simp, by simp [push_cast, seval], by simp [push_cast, seval], by simp [push_cast, seval], by simp [push_cast, seval]⟩
  rintro _ rfl
  refine awp_seq ?_
  refine awpF_region ?_; intro K hK; simp only [push_cast, seval, show (stB 3).bd = 3 from rfl, show (stB 3).gt = 3 from rfl, show (stB 3).ph = 3 from rfl, beq_self_eq_true]
  (repeat ((with_reducible refine And.intro ?_ ?_); (focus (exact ob1))))
  refine CallK.pg (fun _ => h7) ?_
  simp only [push_cast, seval, beq_self_eq_true, bif_and]
  (repeat ((with_reducible refine And.intro ?_ ?_); (focus (exact ob1))))
  refine hK _ ?_; clear hK; clear K
  refine awp_ret ?_; (repeat (first | refine then_ret ?_ | refine inblock_ret ?_)); refine fin_of (by simp only [push_cast, seval]; first | done | rfl) ob1 ?_
  rfl
end Go.Aw
