/-
  Contracts: stages, checked one by one and in their order; a number among ints. Conditions: lengths that fit.
-/
import Derived.Test.YtmmnjelmahcbaaaGreatPxN27
import Derived.Test.YtmmnjelmahcbaaaGreatPkF
namespace Go.Aw
set_option linter.unusedSimpArgs false
set_option linter.unusedVariables false
open Go.RowKit Go.Proofs Go.Nt Go.Rl

/-- A stage: its share, how many must report, and three rates. -/
structure Stg where
  sh : Int
  le : Int
  rn : Int
  rd : Int
  an : Int
  ad : Int
  bn : Int
  bd : Int
def encG (s : Stg) : List D := [.int .i64 s.sh, .int .i64 s.le, .int .i64 s.rn, .int .i64 s.rd, .int .i64 s.an, .int .i64 s.ad, .int .i64 s.bn, .int .i64 s.bd]
def stgB (s : Stg) : Bool := decide (0 ≤ s.sh ∧ s.sh ≤ 100 ∧ 1 ≤ s.le ∧ s.le ≤ 60) && (rateB s.rn s.rd && (rateB s.an s.ad && rateB s.bn s.bd))

theorem p88 (x : Int) : PD Tryz.prog 37 [.int .i64 x] (.d (.bool (decide (0 ≤ x) && decide (x ≤ 1000000)))) := by
  refine pd_of (fn := Tryz.f37) [.tmp 2] (by kernel_rfl) rfl (by kernel_rfl) (Nat.le_of_ble_eq_true rfl) (by kernel_rfl) rfl rfl ?_
  refine awp_seq ?_
  refine awpF_region ?_; intro K hK; simp only [push_cast, seval]; (try simp (disch := omega) only [wrapI]); (repeat ((with_reducible refine And.intro ?_ ?_); (focus (exact ob1)))); refine hK _ ?_; clear hK; clear K
  refine awp_seq ?_
  refine awpF_region ?_; intro K hK; simp only [push_cast, seval, bif_and]; (try simp (disch := omega) only [wrapI]); (repeat ((with_reducible refine And.intro ?_ ?_); (focus (exact ob1)))); refine hK _ ?_; clear hK; clear K
  refine awp_ret ?_; (repeat (first | refine then_ret ?_ | refine inblock_ret ?_)); refine fin_of (by simp only [push_cast, seval]; first | done | rfl) ob1 ?_
  rfl
theorem p116 (s t : Stg) : PD Tryz.prog 73 [.agg (encG s), .agg (encG t)] (.d (.int .i64 (IntKind.i64.wrap (s.sh - t.sh)))) := by
  unfold encG
  refine pd_of (fn := Tryz.f73) [.tmp 4] (by kernel_rfl) rfl (by kernel_rfl) (Nat.le_of_ble_eq_true rfl) (by kernel_rfl) rfl rfl ?_
  refine awp_seq ?_
  refine awpF_region ?_
  intro K hK
  simp only [push_cast, seval]
  (repeat ((with_reducible refine And.intro ?_ ?_); (focus (exact ob1))))
  refine hK _ ?_; clear hK; clear K
  refine awp_seq ?_
  refine awpF_region ?_
  intro K hK
  simp only [push_cast, seval]
  (repeat ((with_reducible refine And.intro ?_ ?_); (focus (exact ob1))))
  refine hK _ ?_; clear hK; clear K
  refine awp_ret ?_; (repeat (first | refine then_ret ?_ | refine inblock_ret ?_)); refine fin_of (by simp only [push_cast, seval]; first | done | rfl) ob1 ?_
  rfl
theorem p114 (s : Stg) : PD Tryz.prog 71 [.agg (encG s)] (.d (.int .i64 (if stgB s then 0 else 2))) := by
  have h1 := p17 s.rn s.rd
  have h2 := p17 s.an s.ad
  have h3 := p17 s.bn s.bd
  unfold encG stgB
  generalize s.rn = rn at h1 ⊢
  generalize s.rd = rd at h1 ⊢
  generalize s.an = an at h2 ⊢
  generalize s.ad = ad at h2 ⊢
  generalize s.bn = bn at h3 ⊢
  generalize s.bd = bd at h3 ⊢
  generalize s.sh = sh
  generalize s.le = le
  generalize rateB rn rd = c1 at h1 ⊢
  generalize rateB an ad = c2 at h2 ⊢
  generalize rateB bn bd = c3 at h3 ⊢
  refine pd_of (fn := Tryz.f71) [.tmp 2] (by kernel_rfl) rfl (by kernel_rfl) (Nat.le_of_ble_eq_true rfl) (by kernel_rfl) rfl rfl ?_
  refine awp_seq ?_
  refine awpF_region ?_; intro K hK; simp only [push_cast, seval]; (try simp (disch := omega) only [wrapI]); (repeat ((with_reducible refine And.intro ?_ ?_); (focus (exact ob1)))); refine hK _ ?_; clear hK; clear K
  refine awp_seq ?_
  refine awp_seq ?_
  refine awpF_region ?_; intro K hK; simp only [push_cast, seval, bif_or]; (try simp (disch := omega) only [wrapI]); (repeat ((with_reducible refine And.intro ?_ ?_); (focus (exact ob1)))); refine hK _ ?_; clear hK; clear K
  apply awp_cond; (focus (simp only [push_cast, seval]; rfl))
  · intro hb
    simp only [Bool.or_eq_true, decide_eq_true_eq] at hb
    refine awp_seq ?_
    refine awpF_region ?_; intro K hK; simp only [push_cast, seval]; (try simp (disch := omega) only [wrapI]); (repeat ((with_reducible refine And.intro ?_ ?_); (focus (exact ob1)))); refine hK _ ?_; clear hK; clear K
    refine awp_ret ?_; (repeat (first | refine then_ret ?_ | refine inblock_ret ?_)); refine fin_of (by simp only [push_cast, seval]; first | done | rfl) ob1 ?_
    rw [decide_eq_false (by omega)]
    rfl
  · intro hb
    simp only [Bool.or_eq_false_iff, decide_eq_false_iff_not] at hb
    have hd : decide (0 ≤ sh ∧ sh ≤ 100 ∧ 1 ≤ le ∧ le ≤ 60) = true := decide_eq_true (by omega)
    rw [hd, Bool.true_and]
    refine awp_skip ?_
    refine awp_seq ?_
    refine awp_seq ?_
    refine awpF_region ?_; intro K hK; simp only [push_cast, seval]; (try simp (disch := omega) only [wrapI]); (repeat ((with_reducible refine And.intro ?_ ?_); (focus (exact ob1)))); refine hK _ ?_; clear hK; clear K
    refine awp_block ?_
    refine awp_loopP (α := Nat) (st := fun i => ⟨[(30, .agg [.d (.int .i64 rn), .d (.int .i64 rd), .d (.int .i64 an), .d (.int .i64 ad), .d (.int .i64 bn), .d (.int .i64 bd)]), (31, .d (.int .i64 i))], []⟩) (inv := fun i => i ≤ 3 ∧ (0 < i → c1 = true) ∧ (1 < i → c2 = true) ∧ (2 < i → c3 = true)) (μ := fun i => 3 - i) (x0 := 0) (r0 := []) ?_ ?_ ?_
    · exact ⟨Nat.zero_le _, by omega, by omega, by omega⟩
    · exact ⟨by simp, by simp, by simp [push_cast, seval], by simp [push_cast, seval], by simp [push_cast, seval], by simp [push_cast, seval]⟩
    rintro i ⟨hi, g1, g2, g3⟩
    refine awp_seq ?_
    refine awpF_region ?_; intro K hK; simp only [push_cast, seval]; (try simp (disch := omega) only [wrapI]); (repeat ((with_reducible refine And.intro ?_ ?_); (focus (exact ob1)))); refine hK _ ?_; clear hK; clear K
    refine awp_seq ?_
    apply awp_cond; (focus (simp only [push_cast, seval]; rfl))
    · intro h4; (try simp only [decide_eq_true_eq, decide_eq_false_iff_not, Bool.not_eq_true', Bool.not_eq_false', Bool.and_eq_true, Bool.or_eq_true, Bool.not_eq_true] at h4)
      refine awp_skip ?_
      refine awp_seq ?_
      refine awp_block ?_
      refine awp_seq ?_
      have h5 : i = 0 ∨ i = 1 ∨ i = 2 := by omega
      rcases h5 with rfl | rfl | rfl
      · cases c1
        · rw [show (if (false : Bool) = true then (0 : Int) else 2) = 2 from rfl] at h1
          refine awpF_region ?_; intro K hK; simp only [push_cast, seval]; (try simp (disch := omega) only [wrapI]); (repeat ((with_reducible refine And.intro ?_ ?_); (focus (exact ob1)))); refine hK _ ?_; clear hK; clear K
          refine awp_seq ?_
          refine awpF_region ?_; intro K hK; simp only [push_cast, seval]
          refine CallK.pd (h1) ?_; simp only [push_cast, seval]; (try simp (disch := omega) only [wrapI]); (repeat ((with_reducible refine And.intro ?_ ?_); (focus (exact ob1))))
          refine hK _ ?_; clear hK; clear K
          refine awp_seq ?_
          refine awpF_region ?_; intro K hK; simp only [push_cast, seval]; (try simp (disch := omega) only [wrapI]); (repeat ((with_reducible refine And.intro ?_ ?_); (focus (exact ob1)))); refine hK _ ?_; clear hK; clear K
          apply awp_cond; (focus (simp only [push_cast, seval]; rfl))
          · intro h6; (try simp only [decide_eq_true_eq, decide_eq_false_iff_not, Bool.not_eq_true', Bool.not_eq_false', Bool.and_eq_true, Bool.or_eq_true, Bool.not_eq_true] at h6)
            refine awp_seq ?_
            refine awpF_region ?_; intro K hK; simp only [push_cast, seval]; (try simp (disch := omega) only [wrapI]); (repeat ((with_reducible refine And.intro ?_ ?_); (focus (exact ob1)))); refine hK _ ?_; clear hK; clear K
            refine awp_ret ?_; (repeat (first | refine then_ret ?_ | refine inblock_ret ?_)); refine fin_of (by simp only [push_cast, seval]; first | done | rfl) ob1 ?_
            rfl
          · intro h6
            exact absurd h6 (by decide)
        · rw [show (if (true : Bool) = true then (0 : Int) else 2) = 0 from rfl] at h1
          refine awpF_region ?_; intro K hK; simp only [push_cast, seval]; (try simp (disch := omega) only [wrapI]); (repeat ((with_reducible refine And.intro ?_ ?_); (focus (exact ob1)))); refine hK _ ?_; clear hK; clear K
          refine awp_seq ?_
          refine awpF_region ?_; intro K hK; simp only [push_cast, seval]
          refine CallK.pd (h1) ?_; simp only [push_cast, seval]; (try simp (disch := omega) only [wrapI]); (repeat ((with_reducible refine And.intro ?_ ?_); (focus (exact ob1))))
          refine hK _ ?_; clear hK; clear K
          refine awp_seq ?_
          refine awpF_region ?_; intro K hK; simp only [push_cast, seval]; (try simp (disch := omega) only [wrapI]); (repeat ((with_reducible refine And.intro ?_ ?_); (focus (exact ob1)))); refine hK _ ?_; clear hK; clear K
          apply awp_cond; (focus (simp only [push_cast, seval]; rfl))
          · intro h6
            exact absurd h6 (by decide)
          · intro h6; (try simp only [decide_eq_true_eq, decide_eq_false_iff_not, Bool.not_eq_true', Bool.not_eq_false', Bool.and_eq_true, Bool.or_eq_true, Bool.not_eq_true] at h6)
            refine awp_skip ?_
            refine inblock_norm ?_
            refine awpF_region ?_; intro K hK; simp only [push_cast, seval]; (try simp (disch := omega) only [wrapI]); (repeat ((with_reducible refine And.intro ?_ ?_); (focus (exact ob1)))); refine hK _ ?_; clear hK; clear K
            refine round_endG 1 [] ⟨by omega, ⟨by omega, fun _ => rfl, by omega, by omega⟩, ?_⟩
            exact ⟨by simp, by simp, by simp [push_cast, seval], by simp [push_cast, seval], by simp [push_cast, seval], by simp [push_cast, seval]⟩
      · cases c2
        · rw [show (if (false : Bool) = true then (0 : Int) else 2) = 2 from rfl] at h2
          refine awpF_region ?_; intro K hK; simp only [push_cast, seval]; (try simp (disch := omega) only [wrapI]); (repeat ((with_reducible refine And.intro ?_ ?_); (focus (exact ob1)))); refine hK _ ?_; clear hK; clear K
          refine awp_seq ?_
          refine awpF_region ?_; intro K hK; simp only [push_cast, seval]
          refine CallK.pd (h2) ?_; simp only [push_cast, seval]; (try simp (disch := omega) only [wrapI]); (repeat ((with_reducible refine And.intro ?_ ?_); (focus (exact ob1))))
          refine hK _ ?_; clear hK; clear K
          refine awp_seq ?_
          refine awpF_region ?_; intro K hK; simp only [push_cast, seval]; (try simp (disch := omega) only [wrapI]); (repeat ((with_reducible refine And.intro ?_ ?_); (focus (exact ob1)))); refine hK _ ?_; clear hK; clear K
          apply awp_cond; (focus (simp only [push_cast, seval]; rfl))
          · intro h6; (try simp only [decide_eq_true_eq, decide_eq_false_iff_not, Bool.not_eq_true', Bool.not_eq_false', Bool.and_eq_true, Bool.or_eq_true, Bool.not_eq_true] at h6)
            refine awp_seq ?_
            refine awpF_region ?_; intro K hK; simp only [push_cast, seval]; (try simp (disch := omega) only [wrapI]); (repeat ((with_reducible refine And.intro ?_ ?_); (focus (exact ob1)))); refine hK _ ?_; clear hK; clear K
            refine awp_ret ?_; (repeat (first | refine then_ret ?_ | refine inblock_ret ?_)); refine fin_of (by simp only [push_cast, seval]; first | done | rfl) ob1 ?_
            rw [g1 (by omega)]; rfl
          · intro h6
            exact absurd h6 (by decide)
        · rw [show (if (true : Bool) = true then (0 : Int) else 2) = 0 from rfl] at h2
          refine awpF_region ?_; intro K hK; simp only [push_cast, seval]; (try simp (disch := omega) only [wrapI]); (repeat ((with_reducible refine And.intro ?_ ?_); (focus (exact ob1)))); refine hK _ ?_; clear hK; clear K
          refine awp_seq ?_
          refine awpF_region ?_; intro K hK; simp only [push_cast, seval]
          refine CallK.pd (h2) ?_; simp only [push_cast, seval]; (try simp (disch := omega) only [wrapI]); (repeat ((with_reducible refine And.intro ?_ ?_); (focus (exact ob1))))
          refine hK _ ?_; clear hK; clear K
          refine awp_seq ?_
          refine awpF_region ?_; intro K hK; simp only [push_cast, seval]; (try simp (disch := omega) only [wrapI]); (repeat ((with_reducible refine And.intro ?_ ?_); (focus (exact ob1)))); refine hK _ ?_; clear hK; clear K
          apply awp_cond; (focus (simp only [push_cast, seval]; rfl))
          · intro h6
            exact absurd h6 (by decide)
          · intro h6; (try simp only [decide_eq_true_eq, decide_eq_false_iff_not, Bool.not_eq_true', Bool.not_eq_false', Bool.and_eq_true, Bool.or_eq_true, Bool.not_eq_true] at h6)
            refine awp_skip ?_
            refine inblock_norm ?_
            refine awpF_region ?_; intro K hK; simp only [push_cast, seval]; (try simp (disch := omega) only [wrapI]); (repeat ((with_reducible refine And.intro ?_ ?_); (focus (exact ob1)))); refine hK _ ?_; clear hK; clear K
            refine round_endG 2 [] ⟨by omega, ⟨by omega, fun _ => g1 (by omega), fun _ => rfl, by omega⟩, ?_⟩
            exact ⟨by simp, by simp, by simp [push_cast, seval], by simp [push_cast, seval], by simp [push_cast, seval], by simp [push_cast, seval]⟩
      · cases c3
        · rw [show (if (false : Bool) = true then (0 : Int) else 2) = 2 from rfl] at h3
          refine awpF_region ?_; intro K hK; simp only [push_cast, seval]; (try simp (disch := omega) only [wrapI]); (repeat ((with_reducible refine And.intro ?_ ?_); (focus (exact ob1)))); refine hK _ ?_; clear hK; clear K
          refine awp_seq ?_
          refine awpF_region ?_; intro K hK; simp only [push_cast, seval]
          refine CallK.pd (h3) ?_; simp only [push_cast, seval]; (try simp (disch := omega) only [wrapI]); (repeat ((with_reducible refine And.intro ?_ ?_); (focus (exact ob1))))
          refine hK _ ?_; clear hK; clear K
          refine awp_seq ?_
          refine awpF_region ?_; intro K hK; simp only [push_cast, seval]; (try simp (disch := omega) only [wrapI]); (repeat ((with_reducible refine And.intro ?_ ?_); (focus (exact ob1)))); refine hK _ ?_; clear hK; clear K
          apply awp_cond; (focus (simp only [push_cast, seval]; rfl))
          · intro h6; (try simp only [decide_eq_true_eq, decide_eq_false_iff_not, Bool.not_eq_true', Bool.not_eq_false', Bool.and_eq_true, Bool.or_eq_true, Bool.not_eq_true] at h6)
            refine awp_seq ?_
            refine awpF_region ?_; intro K hK; simp only [push_cast, seval]; (try simp (disch := omega) only [wrapI]); (repeat ((with_reducible refine And.intro ?_ ?_); (focus (exact ob1)))); refine hK _ ?_; clear hK; clear K
            refine awp_ret ?_; (repeat (first | refine then_ret ?_ | refine inblock_ret ?_)); refine fin_of (by simp only [push_cast, seval]; first | done | rfl) ob1 ?_
            rw [g1 (by omega), g2 (by omega)]; rfl
          · intro h6
            exact absurd h6 (by decide)
        · rw [show (if (true : Bool) = true then (0 : Int) else 2) = 0 from rfl] at h3
          refine awpF_region ?_; intro K hK; simp only [push_cast, seval]; (try simp (disch := omega) only [wrapI]); (repeat ((with_reducible refine And.intro ?_ ?_); (focus (exact ob1)))); refine hK _ ?_; clear hK; clear K
          refine awp_seq ?_
          refine awpF_region ?_; intro K hK; simp only [push_cast, seval]
          refine CallK.pd (h3) ?_; simp only [push_cast, seval]; (try simp (disch := omega) only [wrapI]); (repeat ((with_reducible refine And.intro ?_ ?_); (focus (exact ob1))))
          refine hK _ ?_; clear hK; clear K
          refine awp_seq ?_
          refine awpF_region ?_; intro K hK; simp only [push_cast, seval]; (try simp (disch := omega) only [wrapI]); (repeat ((with_reducible refine And.intro ?_ ?_); (focus (exact ob1)))); refine hK _ ?_; clear hK; clear K
          apply awp_cond; (focus (simp only [push_cast, seval]; rfl))
          · intro h6
            exact absurd h6 (by decide)
          · intro h6; (try simp only [decide_eq_true_eq, decide_eq_false_iff_not, Bool.not_eq_true', Bool.not_eq_false', Bool.and_eq_true, Bool.or_eq_true, Bool.not_eq_true] at h6)
            refine awp_skip ?_
            refine inblock_norm ?_
            refine awpF_region ?_; intro K hK; simp only [push_cast, seval]; (try simp (disch := omega) only [wrapI]); (repeat ((with_reducible refine And.intro ?_ ?_); (focus (exact ob1)))); refine hK _ ?_; clear hK; clear K
            refine round_endG 3 [] ⟨by omega, ⟨by omega, fun _ => g1 (by omega), fun _ => g2 (by omega), fun _ => rfl⟩, ?_⟩
            exact ⟨by simp, by simp, by simp [push_cast, seval], by simp [push_cast, seval], by simp [push_cast, seval], by simp [push_cast, seval]⟩
    · intro h4; (try simp only [decide_eq_true_eq, decide_eq_false_iff_not, Bool.not_eq_true', Bool.not_eq_false', Bool.and_eq_true, Bool.or_eq_true, Bool.not_eq_true] at h4)
      refine awp_exit ?_; (repeat (first | refine then_exit ?_ | refine inblock_other (by decide) ?_)); refine inblock_same ?_
      refine awp_seq ?_
      refine awpF_region ?_; intro K hK; simp only [push_cast, seval]; (try simp (disch := omega) only [wrapI]); (repeat ((with_reducible refine And.intro ?_ ?_); (focus (exact ob1)))); refine hK _ ?_; clear hK; clear K
      refine awp_ret ?_; (repeat (first | refine then_ret ?_ | refine inblock_ret ?_)); refine fin_of (by simp only [push_cast, seval]; first | done | rfl) ob1 ?_
      rw [g1 (by omega), g2 (by omega), g3 (by omega)]
      rfl

def upB (ss : List Stg) : Bool := decide (ss.Pairwise fun a b => a.sh ≤ b.sh)
theorem adj_pair {R : Stg → Stg → Prop} (tr : ∀ a b c, R a b → R b c → R a c) : ∀ {l : List Stg}, (∀ i (h : i + 1 < l.length), R l[i] l[i + 1]) → l.Pairwise R
  | [], _ => List.Pairwise.nil
  | [x], _ => List.pairwise_singleton _ _
  | x :: y :: l, h => by
    have ih := adj_pair tr (l := y :: l) fun i hi => h (i + 1) (by simp at hi ⊢; omega)
    refine List.pairwise_cons.2 ⟨fun z hz => ?_, ih⟩
    have h0 : R x y := h 0 (by simp)
    rcases List.mem_cons.1 hz with rfl | hz
    · exact h0
    · exact tr _ _ _ h0 ((List.pairwise_cons.1 ih).1 z hz)
theorem encG_len (ss : List Stg) (row : List D) (h : row ∈ ss.map encG) : row.length = 8 := by
  obtain ⟨_, _, rfl⟩ := List.mem_map.1 h; rfl
theorem encG_row (ss : List Stg) (row : List D) (h : row ∈ ss.map encG) : row.length = 8 ∧ row.all D.leaf = true := by
  obtain ⟨_, _, rfl⟩ := List.mem_map.1 h; exact ⟨rfl, rfl⟩
theorem p115 (ss : List Stg) (hl : ss.length ≤ 1000000) (hs : ∀ s, s ∈ ss → 0 ≤ s.sh ∧ s.sh ≤ 100) : PD Tryz.prog 72 [.sl (ss.map encG), .fn (.func 73) []] (.d (.bool (upB ss))) := by
  refine pd_of (fn := Tryz.f72) [.tmp 4] (by kernel_rfl) rfl (by kernel_rfl) (Nat.le_of_ble_eq_true rfl) (by kernel_rfl) rfl rfl ?_
  refine awp_seq ?_
  refine awpF_region ?_; intro K hK; simp only [push_cast, seval]; (try simp (disch := omega) only [wrapI]); (repeat ((with_reducible refine And.intro ?_ ?_); (focus (exact ob1)))); refine hK _ ?_; clear hK; clear K
  refine awp_seq ?_
  refine awp_seq ?_
  refine awpF_region ?_; intro K hK; simp only [push_cast, seval]; (try simp (disch := omega) only [wrapI]); (repeat ((with_reducible refine And.intro ?_ ?_); (focus (exact ob1)))); refine hK _ ?_; clear hK; clear K
  refine awp_block ?_
  refine awp_loopP (α := Int) (st := fun i => ⟨[(0, .d (.sl (ss.map encG))), (1, .d (.fn (.func 73) [])), (5, .d (.int .i64 i))], []⟩) (inv := fun i => -1 ≤ i ∧ i ≤ ss.length - 1 ∧ ∀ (j : Nat) (h : j < ss.length), i < j → 0 < j → (ss[j - 1]'(by omega)).sh ≤ ss[j].sh) (μ := fun i => (i + 1).toNat) (x0 := (ss.length : Int) - 1) (r0 := []) ?_ ?_ ?_
  · exact ⟨by omega, by omega, fun j h1 h2 => by omega⟩
  · exact ⟨by simp, by simp, by simp [push_cast, seval], by simp [push_cast, seval], by simp [push_cast, seval], by simp [push_cast, seval]⟩
  rintro i ⟨hi1, hi2, ho⟩
  refine awp_seq ?_
  refine awp_seq ?_
  refine awpF_region ?_; intro K hK; simp only [push_cast, seval]; (try simp (disch := omega) only [wrapI]); (repeat ((with_reducible refine And.intro ?_ ?_); (focus (exact ob1)))); refine hK _ ?_; clear hK; clear K
  apply awp_cond; (focus (simp only [push_cast, seval]; rfl))
  · intro h1; (try simp only [decide_eq_true_eq, decide_eq_false_iff_not, Bool.not_eq_true', Bool.not_eq_false', Bool.and_eq_true, Bool.or_eq_true, Bool.not_eq_true] at h1)
    obtain ⟨u, rfl⟩ : ∃ u : Nat, i = (u : Int) + 1 := ⟨(i - 1).toNat, by omega⟩
    have hu : u + 1 < ss.length := by omega
    have hw : IntKind.i64.wrap ((u : Int) + 1 - 1) = (u : Int) := by rw [wrapI _ (by omega)]; omega
    have ht : ((u : Int) + 1).toNat = u + 1 := by omega
    have g1 : (ss.map encG)[u + 1]? = some (encG ss[u + 1]) := by rw [List.getElem?_map, List.getElem?_eq_getElem hu]; rfl
    have g2 : (ss.map encG)[u]? = some (encG (ss[u]'(by omega))) := by rw [List.getElem?_map, List.getElem?_eq_getElem (by omega : u < ss.length)]; rfl
    have h116 := p116 ss[u + 1] (ss[u]'(by omega))
    have b1 := hs _ (List.getElem_mem hu)
    have b2 := hs _ (List.getElem_mem (by omega : u < ss.length))
    have ho1 := ho (u + 1) hu
    refine awp_skip ?_
    refine awp_seq ?_
    refine awp_block ?_
    refine awp_seq ?_
    simp only [encG] at g1 g2 h116
    have hq := encG_len ss
    have hwd : IntKind.i64.wrap (ss[u + 1].sh - (ss[u]'(by omega)).sh) = ss[u + 1].sh - (ss[u]'(by omega)).sh := wrapI _ (by omega)
    rw [hwd] at h116
    refine awpF_draw [0,1,2,3,4,5,6,7,8,9,10,11] (by kernel_rfl) (by kernel_rfl) rfl ?_; intro K hK; simp only [push_cast, seval, hw, ht, Int.toNat_natCast, g1, g2]
    repeat (with_reducible refine And.intro ?_ ?_; (focus (first | exact hq | omega)))
    refine CallK.pd (h116) ?_; simp only [push_cast, seval]; (try simp (disch := omega) only [wrapI]); (repeat ((with_reducible refine And.intro ?_ ?_); (focus (exact ob1))))
    refine hK _ ?_; clear hK; clear K
    apply awp_cond; (focus (simp only [push_cast, seval]; rfl))
    · intro h4; (try simp only [decide_eq_true_eq, decide_eq_false_iff_not, Bool.not_eq_true', Bool.not_eq_false', Bool.and_eq_true, Bool.or_eq_true, Bool.not_eq_true] at h4)
      refine awp_seq ?_
      refine awpF_region ?_; intro K hK; simp only [push_cast, seval]; (try simp (disch := omega) only [wrapI]); (repeat ((with_reducible refine And.intro ?_ ?_); (focus (exact ob1)))); refine hK _ ?_; clear hK; clear K
      refine awp_ret ?_; (repeat (first | refine then_ret ?_ | refine inblock_ret ?_)); refine fin_of (by simp only [push_cast, seval]; first | done | rfl) ob1 ?_
      have : upB ss = false := by
        unfold upB
        rw [decide_eq_false_iff_not]
        intro hp
        have := (List.pairwise_iff_getElem.1 hp) u (u + 1) (by omega) hu (by omega)
        omega
      rw [this]
    · intro h4; (try simp only [decide_eq_true_eq, decide_eq_false_iff_not, Bool.not_eq_true', Bool.not_eq_false', Bool.and_eq_true, Bool.or_eq_true, Bool.not_eq_true] at h4)
      refine awp_skip ?_
      refine inblock_norm ?_
      refine awpF_region ?_; intro K hK; simp only [push_cast, seval, hw]; (try simp (disch := omega) only [wrapI]); (repeat ((with_reducible refine And.intro ?_ ?_); (focus (exact ob1)))); refine hK _ ?_; clear hK; clear K
      refine round_end (y := (u : Int)) (r := []) (by omega) ⟨by omega, by omega, fun j hj h5 h6 => ?_⟩ ?_
      · rcases Int.lt_or_le ((u : Int) + 1) j with h7 | h7
        · exact ho j hj h7 h6
        · obtain rfl : j = u + 1 := by omega
          show (ss[u]'(by omega)).sh ≤ ss[u + 1].sh
          omega
      · exact ⟨by simp, by simp, by simp [push_cast, seval], by simp [push_cast, seval], by simp [push_cast, seval], by simp [push_cast, seval]⟩
  · intro h1; (try simp only [decide_eq_true_eq, decide_eq_false_iff_not, Bool.not_eq_true', Bool.not_eq_false', Bool.and_eq_true, Bool.or_eq_true, Bool.not_eq_true] at h1)
    refine awp_exit ?_; (repeat (first | refine then_exit ?_ | refine inblock_other (by decide) ?_)); refine inblock_same ?_
    refine awp_seq ?_
    refine awpF_region ?_; intro K hK; simp only [push_cast, seval]; (try simp (disch := omega) only [wrapI]); (repeat ((with_reducible refine And.intro ?_ ?_); (focus (exact ob1)))); refine hK _ ?_; clear hK; clear K
    refine awp_ret ?_; (repeat (first | refine then_ret ?_ | refine inblock_ret ?_)); refine fin_of (by simp only [push_cast, seval]; first | done | rfl) ob1 ?_
    have : upB ss = true := by
      unfold upB
      rw [decide_eq_true_eq]
      refine adj_pair (fun a b c h1 h2 => by omega) fun j hj => ?_
      exact ho (j + 1) hj (by omega) (by omega)
    rw [this]

/-- A number's place among ints, or -1. -/
theorem p135 (xs : List Int) (x : Int) (hl : xs.length ≤ 1000000) : PC Tryz.prog 102 [.sl (xs.map encI), .int .i64 x] fun v H => (∃ i : Int, v = .d (.int .i64 i) ∧ (0 ≤ i ↔ x ∈ xs)) ∧ H = [] := by
  refine pc_of (fn := Tryz.f102) [.tmp 4] (by kernel_rfl) rfl (by kernel_rfl) (Nat.le_of_ble_eq_true rfl) (by kernel_rfl) rfl ?_
  refine awp_seq ?_
  refine awpF_region ?_; intro K hK; simp only [push_cast, seval]; (try simp (disch := omega) only [wrapI]); (repeat ((with_reducible refine And.intro ?_ ?_); (focus (exact ob1)))); refine hK _ ?_; clear hK; clear K
  refine awp_seq ?_
  refine awp_seq ?_
  refine awpF_region ?_; intro K hK; simp only [push_cast, seval]; (try simp (disch := omega) only [wrapI]); (repeat ((with_reducible refine And.intro ?_ ?_); (focus (exact ob1)))); refine hK _ ?_; clear hK; clear K
  refine awp_block ?_
  refine awp_loopP (α := Nat) (st := fun i => ⟨[(0, .d (.sl (xs.map encI))), (1, .d (.int .i64 x)), (7, .d (.int .i64 xs.length)), (8, .d (.int .i64 i))], []⟩) (inv := fun i => i ≤ xs.length ∧ x ∉ xs.take i) (μ := fun i => xs.length - i) (x0 := 0) (r0 := []) ?_ ?_ ?_
  · exact ⟨Nat.zero_le _, by simp⟩
  · exact ⟨by simp, by simp, by simp [push_cast, seval], by simp [push_cast, seval], by simp [push_cast, seval], by simp [push_cast, seval]⟩
  rintro i ⟨hi, hno⟩
  refine awp_seq ?_
  refine awpF_region ?_; intro K hK; simp only [push_cast, seval]; (try simp (disch := omega) only [wrapI]); (repeat ((with_reducible refine And.intro ?_ ?_); (focus (exact ob1)))); refine hK _ ?_; clear hK; clear K
  refine awp_seq ?_
  apply awp_cond; (focus (simp only [push_cast, seval]; rfl))
  · intro h1; (try simp only [decide_eq_true_eq, decide_eq_false_iff_not, Bool.not_eq_true', Bool.not_eq_false', Bool.and_eq_true, Bool.or_eq_true, Bool.not_eq_true] at h1)
    have hi2 : i < xs.length := by omega
    have g1 := List.getElem?_eq_getElem (l := xs) (i := i) hi2
    refine awp_skip ?_
    refine awp_seq ?_
    refine awp_block ?_
    refine awp_seq ?_
    refine awpF_region ?_; intro K hK; simp only [push_cast, seval]; (try simp (disch := omega) only [wrapI]); (repeat ((with_reducible refine And.intro ?_ ?_); (focus (exact ob1)))); refine hK _ ?_; clear hK; clear K
    refine awp_seq ?_
    refine awpF_region ?_; intro K hK; simp only [push_cast, seval, g1, encI, Int.toNat_natCast]; (try simp (disch := omega) only [wrapI]); (repeat ((with_reducible refine And.intro ?_ ?_); (focus (exact ob1)))); refine hK _ ?_; clear hK; clear K
    apply awp_cond; (focus (simp only [push_cast, seval]; rfl))
    · intro h2; (try simp only [decide_eq_true_eq, decide_eq_false_iff_not, Bool.not_eq_true', Bool.not_eq_false', Bool.and_eq_true, Bool.or_eq_true, Bool.not_eq_true] at h2)
      refine awp_seq ?_
      refine awpF_region ?_; intro K hK; simp only [push_cast, seval]; (try simp (disch := omega) only [wrapI]); (repeat ((with_reducible refine And.intro ?_ ?_); (focus (exact ob1)))); refine hK _ ?_; clear hK; clear K
      refine awp_ret ?_; (repeat (first | refine then_ret ?_ | refine inblock_ret ?_)); refine fin_of (by simp only [push_cast, seval]; first | done | rfl) ob1 ?_
      simp only [beq_iff_eq] at h2
      exact ⟨⟨(i : Int), rfl, by subst h2; simp⟩, rfl⟩
    · intro h2; (try simp only [decide_eq_true_eq, decide_eq_false_iff_not, Bool.not_eq_true', Bool.not_eq_false', Bool.and_eq_true, Bool.or_eq_true, Bool.not_eq_true] at h2)
      simp only [beq_eq_false_iff_ne] at h2
      refine awp_skip ?_
      refine inblock_norm ?_
      refine awpF_region ?_; intro K hK; simp only [push_cast, seval]; (try simp (disch := omega) only [wrapI]); (repeat ((with_reducible refine And.intro ?_ ?_); (focus (exact ob1)))); refine hK _ ?_; clear hK; clear K
      refine round_endG (i + 1) [] ⟨by omega, ⟨by omega, ?_⟩, ?_⟩
      · rw [← List.take_append_getElem hi2, List.mem_append, List.mem_singleton]
        rintro (h3 | h3)
        · exact hno h3
        · exact h2 h3
      · exact ⟨by simp, by simp, by simp [push_cast, seval], by simp [push_cast, seval], by simp [push_cast, seval], by simp [push_cast, seval]⟩
  · intro h1; (try simp only [decide_eq_true_eq, decide_eq_false_iff_not, Bool.not_eq_true', Bool.not_eq_false', Bool.and_eq_true, Bool.or_eq_true, Bool.not_eq_true] at h1)
    refine awp_exit ?_; (repeat (first | refine then_exit ?_ | refine inblock_other (by decide) ?_)); refine inblock_same ?_
    have hix : i = xs.length := by omega
    subst hix
    rw [List.take_length] at hno
    refine awp_seq ?_
    refine awpF_region ?_; intro K hK; simp only [push_cast, seval]; (try simp (disch := omega) only [wrapI]); (repeat ((with_reducible refine And.intro ?_ ?_); (focus (exact ob1)))); refine hK _ ?_; clear hK; clear K
    refine awp_ret ?_; (repeat (first | refine then_ret ?_ | refine inblock_ret ?_)); refine fin_of (by simp only [push_cast, seval]; first | done | rfl) ob1 ?_
    exact ⟨⟨-1, rfl, by simp [hno]⟩, rfl⟩
theorem p111 (xs : List Int) (x : Int) (hl : xs.length ≤ 1000000) : PD Tryz.prog 75 [.sl (xs.map encI), .int .i64 x] (.d (.bool (decide (x ∈ xs)))) := by
  have h135 := p135 xs x hl
  refine pd_of (fn := Tryz.f75) [.tmp 4] (by kernel_rfl) rfl (by kernel_rfl) (Nat.le_of_ble_eq_true rfl) (by kernel_rfl) rfl rfl ?_
  refine awp_seq ?_
  refine awpF_region ?_; intro K hK; simp only [push_cast, seval]; (try simp (disch := omega) only [wrapI]); (repeat ((with_reducible refine And.intro ?_ ?_); (focus (exact ob1)))); refine hK _ ?_; clear hK; clear K
  refine awp_seq ?_
  refine awpF_region ?_; intro K hK; simp only [push_cast, seval]
  refine CallK.rel h135 ?_
  rintro v H ⟨⟨i, rfl, hi⟩, rfl⟩
  simp only [push_cast, seval]
  (repeat ((with_reducible refine And.intro ?_ ?_); (focus (exact ob1))))
  refine hK _ ?_; clear hK; clear K
  refine awp_ret ?_; (repeat (first | refine then_ret ?_ | refine inblock_ret ?_)); refine fin_of (by simp only [push_cast, seval]; first | done | rfl) ob1 ?_
  have e : decide (i ≥ 0) = decide (x ∈ xs) := by rw [Bool.eq_iff_iff, decide_eq_true_eq, decide_eq_true_eq, ← hi]
  rw [e]
/-- Stages in order: strictly rising shares from 0 to 100. -/
def rowB (ss : List Stg) : Bool := decide (ss.Pairwise fun a b => a.sh < b.sh) && (decide ((ss[0]?.map Stg.sh).getD 1 = 0) && decide ((ss[ss.length - 1]?.map Stg.sh).getD 0 = 100))
def stgsC (ss : List Stg) : Int := if ss.length < 2 then 6 else if 6 < ss.length then 8 else if ss.all stgB then (if rowB ss then 0 else 11) else 2

theorem p89 (ss : List Stg) (hl : ss.length ≤ 1000000) : PD Tryz.prog 38 [.sl (ss.map encG)] (.d (.int .i64 (stgsC ss))) := by
  have hq := encG_len ss
  refine pd_of (fn := Tryz.f38) [.tmp 2] (by kernel_rfl) rfl (by kernel_rfl) (Nat.le_of_ble_eq_true rfl) (by kernel_rfl) rfl rfl ?_
  refine awp_seq ?_
  refine awpF_region ?_; intro K hK; simp only [push_cast, seval]; (try simp (disch := omega) only [wrapI]); (repeat ((with_reducible refine And.intro ?_ ?_); (focus (exact ob1)))); refine hK _ ?_; clear hK; clear K
  refine awp_mid (fun u => u = ⟨[(0, .d (.sl (ss.map encG)))], []⟩ ∧ 2 ≤ ss.length ∧ ss.length ≤ 6) ?_ ?_
  · refine awp_seq ?_
    refine awpF_region ?_; intro K hK; simp only [push_cast, seval]; (try simp (disch := omega) only [wrapI]); (repeat ((with_reducible refine And.intro ?_ ?_); (focus (exact ob1)))); refine hK _ ?_; clear hK; clear K
    refine awp_block ?_
    refine awp_seq ?_
    refine awpF_region ?_; intro K hK; simp only [push_cast, seval]; (try simp (disch := omega) only [wrapI]); (repeat ((with_reducible refine And.intro ?_ ?_); (focus (exact ob1)))); refine hK _ ?_; clear hK; clear K
    apply awp_cond; (focus (simp only [push_cast, seval]; rfl))
    · intro h1; (try simp only [decide_eq_true_eq, decide_eq_false_iff_not, Bool.not_eq_true', Bool.not_eq_false', Bool.and_eq_true, Bool.or_eq_true, Bool.not_eq_true] at h1)
      refine awp_seq ?_
      refine awpF_region ?_; intro K hK; simp only [push_cast, seval]; (try simp (disch := omega) only [wrapI]); (repeat ((with_reducible refine And.intro ?_ ?_); (focus (exact ob1)))); refine hK _ ?_; clear hK; clear K
      refine awp_ret ?_; (repeat (first | refine then_ret ?_ | refine inblock_ret ?_)); refine fin_of (by simp only [push_cast, seval]; first | done | rfl) ob1 ?_
      unfold stgsC
      rw [if_pos (by omega)]
    · intro h1; (try simp only [decide_eq_true_eq, decide_eq_false_iff_not, Bool.not_eq_true', Bool.not_eq_false', Bool.and_eq_true, Bool.or_eq_true, Bool.not_eq_true] at h1)
      refine awp_seq ?_
      refine awpF_region ?_; intro K hK; simp only [push_cast, seval]; (try simp (disch := omega) only [wrapI]); (repeat ((with_reducible refine And.intro ?_ ?_); (focus (exact ob1)))); refine hK _ ?_; clear hK; clear K
      apply awp_cond; (focus (simp only [push_cast, seval]; rfl))
      · intro h2; (try simp only [decide_eq_true_eq, decide_eq_false_iff_not, Bool.not_eq_true', Bool.not_eq_false', Bool.and_eq_true, Bool.or_eq_true, Bool.not_eq_true] at h2)
        refine awp_seq ?_
        refine awpF_region ?_; intro K hK; simp only [push_cast, seval]; (try simp (disch := omega) only [wrapI]); (repeat ((with_reducible refine And.intro ?_ ?_); (focus (exact ob1)))); refine hK _ ?_; clear hK; clear K
        refine awp_ret ?_; (repeat (first | refine then_ret ?_ | refine inblock_ret ?_)); refine fin_of (by simp only [push_cast, seval]; first | done | rfl) ob1 ?_
        unfold stgsC
        rw [if_neg (by omega), if_pos (by omega)]
      · intro h2; (try simp only [decide_eq_true_eq, decide_eq_false_iff_not, Bool.not_eq_true', Bool.not_eq_false', Bool.and_eq_true, Bool.or_eq_true, Bool.not_eq_true] at h2)
        refine awp_skip ?_
        refine inblock_norm (mid_end [] _ ⟨rfl, by omega, by omega⟩ ?_)
        exact ⟨by simp, by simp, by simp [push_cast, seval], by simp [push_cast, seval], by simp [push_cast, seval], by simp [push_cast, seval]⟩
  rintro _ ⟨rfl, hl2, hl6⟩
  refine awp_mid (fun u => u = ⟨[(0, .d (.sl (ss.map encG)))], []⟩ ∧ ss.all stgB = true) ?_ ?_
  · refine awp_seq ?_
    refine awpF_region ?_; intro K hK; simp only [push_cast, seval]; (try simp (disch := omega) only [wrapI]); (repeat ((with_reducible refine And.intro ?_ ?_); (focus (exact ob1)))); refine hK _ ?_; clear hK; clear K
    refine awp_block ?_
    refine awp_loopP (α := Nat) (st := fun i => ⟨[(0, .d (.sl (ss.map encG))), (17, .d (.sl (ss.map encG))), (18, .d (.int .i64 ss.length)), (19, .d (.int .i64 i))], []⟩) (inv := fun i => i ≤ ss.length ∧ ∀ j (h : j < ss.length), j < i → stgB ss[j] = true) (μ := fun i => ss.length - i) (x0 := 0) (r0 := []) ?_ ?_ ?_
    · exact ⟨Nat.zero_le _, fun j h h2 => by omega⟩
    · exact ⟨by simp, by simp, by simp [push_cast, seval], by simp [push_cast, seval], by simp [push_cast, seval], by simp [push_cast, seval]⟩
    rintro i ⟨hi, hall⟩
    refine awp_seq ?_
    refine awpF_region ?_; intro K hK; simp only [push_cast, seval]; (try simp (disch := omega) only [wrapI]); (repeat ((with_reducible refine And.intro ?_ ?_); (focus (exact ob1)))); refine hK _ ?_; clear hK; clear K
    refine awp_seq ?_
    apply awp_cond; (focus (simp only [push_cast, seval]; rfl))
    · intro h1; (try simp only [decide_eq_true_eq, decide_eq_false_iff_not, Bool.not_eq_true', Bool.not_eq_false', Bool.and_eq_true, Bool.or_eq_true, Bool.not_eq_true] at h1)
      have hi2 : i < ss.length := by omega
      have g1 : (ss.map encG)[i]? = some (encG ss[i]) := by rw [List.getElem?_map, List.getElem?_eq_getElem hi2]; rfl
      have h114 := p114 ss[i]
      have hmem := List.getElem_mem hi2
      simp only [encG] at g1 h114
      refine awp_skip ?_
      refine awp_seq ?_
      refine awp_block ?_
      refine awp_seq ?_
      refine awpF_region ?_; intro K hK; simp only [push_cast, seval, g1, Int.toNat_natCast]
      repeat (with_reducible refine And.intro ?_ ?_; (focus (first | exact hq | omega)))
      refine hK _ ?_; clear hK; clear K
      refine awp_seq ?_
      refine awpF_region ?_; intro K hK; simp only [push_cast, seval]
      refine CallK.pd (h114) ?_; simp only [push_cast, seval]; (try simp (disch := omega) only [wrapI]); (repeat ((with_reducible refine And.intro ?_ ?_); (focus (exact ob1))))
      refine hK _ ?_; clear hK; clear K
      refine awp_seq ?_
      refine awpF_region ?_; intro K hK; simp only [push_cast, seval]; (try simp (disch := omega) only [wrapI]); (repeat ((with_reducible refine And.intro ?_ ?_); (focus (exact ob1)))); refine hK _ ?_; clear hK; clear K
      apply awp_cond; (focus (simp only [push_cast, seval]; rfl))
      · intro h2; (try simp only [decide_eq_true_eq, decide_eq_false_iff_not, Bool.not_eq_true', Bool.not_eq_false', Bool.and_eq_true, Bool.or_eq_true, Bool.not_eq_true] at h2)
        refine awp_seq ?_
        refine awpF_region ?_; intro K hK; simp only [push_cast, seval]; (try simp (disch := omega) only [wrapI]); (repeat ((with_reducible refine And.intro ?_ ?_); (focus (exact ob1)))); refine hK _ ?_; clear hK; clear K
        refine awp_ret ?_; (repeat (first | refine then_ret ?_ | refine inblock_ret ?_)); refine fin_of (by simp only [push_cast, seval]; first | done | rfl) ob1 ?_
        have hf : stgB ss[i] = false := by
          cases hc : stgB ss[i] with
          | false => rfl
          | true => rw [hc] at h2; simp at h2
        have : ss.all stgB = false := by
          rw [List.all_eq_false]
          exact ⟨_, hmem, by rw [hf]; decide⟩
        have e : stgsC ss = 2 := by
          unfold stgsC
          rw [if_neg (by omega), if_neg (by omega), this]
          rfl
        rw [e, hf]
        rfl
      · intro h2; (try simp only [decide_eq_true_eq, decide_eq_false_iff_not, Bool.not_eq_true', Bool.not_eq_false', Bool.and_eq_true, Bool.or_eq_true, Bool.not_eq_true] at h2)
        have hf : stgB ss[i] = true := by
          cases hc : stgB ss[i] with
          | true => rfl
          | false => rw [hc] at h2; simp at h2
        refine awp_skip ?_
        refine inblock_norm ?_
        refine awpF_region ?_; intro K hK; simp only [push_cast, seval]; (try simp (disch := omega) only [wrapI]); (repeat ((with_reducible refine And.intro ?_ ?_); (focus (exact ob1)))); refine hK _ ?_; clear hK; clear K
        refine round_endG (i + 1) [] ⟨by omega, ⟨by omega, fun j hj h3 => ?_⟩, ?_⟩
        · rcases Nat.lt_or_ge j i with h4 | h4
          · exact hall j hj h4
          · obtain rfl : j = i := by omega
            exact hf
        · exact ⟨by simp, by simp, by simp [push_cast, seval], by simp [push_cast, seval], by simp [push_cast, seval], by simp [push_cast, seval]⟩
    · intro h1; (try simp only [decide_eq_true_eq, decide_eq_false_iff_not, Bool.not_eq_true', Bool.not_eq_false', Bool.and_eq_true, Bool.or_eq_true, Bool.not_eq_true] at h1)
      refine awp_exit ?_; (repeat (first | refine then_exit ?_ | refine inblock_other (by decide) ?_)); refine inblock_same ?_
      refine mid_end [] _ ⟨rfl, ?_⟩ ?_
      · rw [List.all_eq_true]
        intro s hs
        obtain ⟨j, hj, rfl⟩ := List.getElem_of_mem hs
        exact hall j hj (by omega)
      · exact ⟨by simp, by simp, by simp [push_cast, seval], by simp [push_cast, seval], by simp [push_cast, seval], by simp [push_cast, seval]⟩
  rintro _ ⟨rfl, hall⟩
  have hsh : ∀ s, s ∈ ss → 0 ≤ s.sh ∧ s.sh ≤ 100 := fun s hs => by
    have := List.all_eq_true.1 hall s hs
    unfold stgB at this
    simp only [Bool.and_eq_true, decide_eq_true_eq] at this
    omega
  have h115 := p115 ss hl hsh
  refine awp_seq ?_
  refine awpF_region ?_; intro K hK; simp only [push_cast, seval]
  refine CallK.pd (h115) ?_; simp only [push_cast, seval]; (try simp (disch := omega) only [wrapI]); (repeat ((with_reducible refine And.intro ?_ ?_); (focus (exact ob1))))
  refine hK _ ?_; clear hK; clear K
  have hdl : ((ss.map encG).drop 1).take (ss.length - 1) = (ss.drop 1).map encG := by rw [← List.map_drop]; exact List.take_of_length_le (by simp)
  have hdn : ((ss.drop 1).length : Int) = (ss.length : Int) - 1 := by rw [List.length_drop]; omega
  refine awp_mid (fun u => ∃ b : Bool, (b = decide (ss.Pairwise fun a b => a.sh < b.sh)) ∧ u = ⟨[(0, .d (.sl (ss.map encG))), (7, .d (.bool b))], []⟩) ?_ ?_
  · refine awp_seq ?_
    refine awpF_region ?_; intro K hK; simp only [push_cast, seval, hdl, hdn]
    repeat (with_reducible refine And.intro ?_ ?_; (focus (first | exact hq | omega)))
    refine hK _ ?_; clear hK; clear K
    refine awp_block ?_
    refine awp_loopP (α := Nat × Bool) (st := fun x => ⟨[(0, .d (.sl (ss.map encG))), (7, .d (.bool x.2)), (33, .d (.int .i64 ((ss.length : Int) - 1))), (34, .d (.int .i64 x.1))], []⟩) (inv := fun x => x.1 + 1 ≤ ss.length ∧ (x.2 = true ↔ upB ss = true ∧ ∀ j (h : j + 1 < ss.length), j < x.1 → (ss[j]'(by omega)).sh ≠ ss[j + 1].sh)) (μ := fun x => ss.length - x.1) (x0 := (0, upB ss)) (r0 := []) ?_ ?_ ?_
    · exact ⟨by dsimp only; omega, by simp⟩
    · exact ⟨by simp, by simp, by simp [push_cast, seval], by simp [push_cast, seval], by simp [push_cast, seval], by simp [push_cast, seval]⟩
    rintro ⟨i, b⟩ ⟨hi, hb⟩
    dsimp only at hi hb ⊢
    refine awp_seq ?_
    refine awpF_region ?_; intro K hK; simp only [push_cast, seval]; (try simp (disch := omega) only [wrapI]); (repeat ((with_reducible refine And.intro ?_ ?_); (focus (exact ob1)))); refine hK _ ?_; clear hK; clear K
    refine awp_seq ?_
    apply awp_cond; (focus (simp only [push_cast, seval]; rfl))
    · intro h1; (try simp only [decide_eq_true_eq, decide_eq_false_iff_not, Bool.not_eq_true', Bool.not_eq_false', Bool.and_eq_true, Bool.or_eq_true, Bool.not_eq_true] at h1)
      have hi1 : i + 1 < ss.length := by omega
      have hw : IntKind.i64.wrap ((i : Int) + 1) = (i : Int) + 1 := wrapI _ (by omega)
      have ht : ((i : Int) + 1).toNat = i + 1 := by omega
      have g1 : (ss.map encG)[i + 1]? = some (encG ss[i + 1]) := by rw [List.getElem?_map, List.getElem?_eq_getElem hi1]; rfl
      have g2 : (ss.map encG)[i]? = some (encG (ss[i]'(by omega))) := by rw [List.getElem?_map, List.getElem?_eq_getElem (by omega : i < ss.length)]; rfl
      simp only [encG] at g1 g2
      refine awp_skip ?_
      refine awp_seq ?_
      refine awp_block ?_
      refine awp_seq ?_
      refine awpF_region ?_; intro K hK; simp only [push_cast, seval]; (try simp (disch := omega) only [wrapI]); (repeat ((with_reducible refine And.intro ?_ ?_); (focus (exact ob1)))); refine hK _ ?_; clear hK; clear K
      refine awpF_draw [0,1,2,3,4,5,6,7,8,9,10,11,12,13,14,15] (by kernel_rfl) (by kernel_rfl) rfl ?_; intro K hK; simp only [push_cast, seval, hw, ht, Int.toNat_natCast, g1, g2, bif_and]
      refine ⟨fun h => ⟨h, h, by omega, by omega, hq⟩, fun h => ⟨h, h, by omega, by omega, hq⟩, ?_⟩
      refine hK _ ?_; clear hK; clear K
      refine inblock_norm ?_
      refine awpF_region ?_; intro K hK; simp only [push_cast, seval]; (try simp (disch := omega) only [wrapI]); (repeat ((with_reducible refine And.intro ?_ ?_); (focus (exact ob1)))); refine hK _ ?_; clear hK; clear K
      refine round_endG (i + 1, (b && (ss[i]'(by omega)).sh != ss[i + 1].sh)) [] ⟨(by dsimp only; omega), ⟨(by dsimp only; omega), ?_⟩, ?_⟩
      · dsimp only
        rw [Bool.and_eq_true, hb, bne_iff_ne, and_assoc]
        refine and_congr Iff.rfl ⟨fun h j hj hji => ?_, fun h => ⟨fun j hj hji => h j hj (by omega), h i hi1 (by omega)⟩⟩
        rcases Nat.lt_or_ge j i with h2 | h2
        · exact h.1 j hj h2
        · obtain rfl : j = i := by omega
          exact h.2
      · exact ⟨by simp, by simp, by simp [push_cast, seval], by simp [push_cast, seval], by simp [push_cast, seval], by simp [push_cast, seval]⟩
    · intro h1; (try simp only [decide_eq_true_eq, decide_eq_false_iff_not, Bool.not_eq_true', Bool.not_eq_false', Bool.and_eq_true, Bool.or_eq_true, Bool.not_eq_true] at h1)
      refine awp_exit ?_; (repeat (first | refine then_exit ?_ | refine inblock_other (by decide) ?_)); refine inblock_same ?_
      refine mid_end [] _ ⟨b, ?_, rfl⟩ ?_
      · rw [Bool.eq_iff_iff, hb, decide_eq_true_eq]
        unfold upB
        rw [decide_eq_true_eq]
        constructor
        · rintro ⟨h2, h3⟩
          refine adj_pair (fun a b c h1 h2 => by omega) fun j hj => ?_
          have h4 := (List.pairwise_iff_getElem.1 h2) j (j + 1) (by omega) hj (by omega)
          have h5 := h3 j hj (by omega)
          omega
        · intro h2
          refine ⟨h2.imp fun h => by omega, fun j hj _ => ?_⟩
          have h4 := (List.pairwise_iff_getElem.1 h2) j (j + 1) (by omega) hj (by omega)
          omega
      · exact ⟨by simp, by simp, by simp [push_cast, seval], by simp [push_cast, seval], by simp [push_cast, seval], by simp [push_cast, seval]⟩
  rintro _ ⟨b, hb, rfl⟩
  have g1 : (ss.map encG)[0]? = some (encG (ss[0]'(by omega))) := by rw [List.getElem?_map, List.getElem?_eq_getElem (by omega : 0 < ss.length)]; rfl
  have hwl : IntKind.i64.wrap ((ss.length : Int) - 1) = (ss.length : Int) - 1 := wrapI _ (by omega)
  have htl : ((ss.length : Int) - 1).toNat = ss.length - 1 := by omega
  have g2 : (ss.map encG)[ss.length - 1]? = some (encG (ss[ss.length - 1]'(by omega))) := by rw [List.getElem?_map, List.getElem?_eq_getElem (by omega : ss.length - 1 < ss.length)]; rfl
  have hR : rowB ss = (b && (decide ((ss[0]'(by omega)).sh = 0) && decide ((ss[ss.length - 1]'(by omega)).sh = 100))) := by
    unfold rowB
    rw [← hb, List.getElem?_eq_getElem (by omega : 0 < ss.length), List.getElem?_eq_getElem (by omega : ss.length - 1 < ss.length)]
    rfl
  have hS : stgsC ss = if rowB ss then 0 else 11 := by
    unfold stgsC
    rw [if_neg (by omega), if_neg (by omega), hall]
    rfl
  rw [hS, hR]
  simp only [encG] at g1 g2
  refine awp_seq ?_
  refine awp_seq ?_
  refine awpF_region ?_; intro K hK; simp only [push_cast, seval, hwl, htl, g1, g2, bif_or]
  refine ⟨fun h => ⟨h, by omega, hq⟩, by cases b <;> simp, fun h => ⟨h, h, by omega, by omega, hq⟩, fun h => by rw [h]; rfl, ?_⟩
  refine hK _ ?_; clear hK; clear K
  generalize (ss[0]'(by omega)).sh = s0
  generalize (ss[ss.length - 1]'(by omega)).sh = s1
  apply awp_cond; (focus (simp only [push_cast, seval]; rfl))
  · intro h1
    have : (b && (decide (s0 = 0) && decide (s1 = 100))) = false := by
      cases b
      · rfl
      · simp only [Bool.not_true, Bool.false_or, Bool.or_eq_true, bne_iff_ne] at h1
        simp only [Bool.true_and, Bool.and_eq_false_iff, decide_eq_false_iff_not]
        exact h1
    refine awp_seq ?_
    refine awpF_region ?_; intro K hK; simp only [push_cast, seval]; (try simp (disch := omega) only [wrapI]); (repeat ((with_reducible refine And.intro ?_ ?_); (focus (exact ob1)))); refine hK _ ?_; clear hK; clear K
    refine awp_ret ?_; (repeat (first | refine then_ret ?_ | refine inblock_ret ?_)); refine fin_of (by simp only [push_cast, seval]; first | done | rfl) ob1 ?_
    rw [this]
    rfl
  · intro h1
    have : (b && (decide (s0 = 0) && decide (s1 = 100))) = true := by
      cases b
      · simp at h1
      · simpa using h1
    refine awp_skip ?_
    refine awp_seq ?_
    refine awpF_region ?_; intro K hK; simp only [push_cast, seval]; (try simp (disch := omega) only [wrapI]); (repeat ((with_reducible refine And.intro ?_ ?_); (focus (exact ob1)))); refine hK _ ?_; clear hK; clear K
    refine awp_ret ?_; (repeat (first | refine then_ret ?_ | refine inblock_ret ?_)); refine fin_of (by simp only [push_cast, seval]; first | done | rfl) ob1 ?_
    rw [this]
    rfl
end Go.Aw
