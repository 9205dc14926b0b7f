/-
  RulesBooks answers true. Conditions: lengths that a call can have.
-/
import Derived.Test.YtlimahhonfckdaaGreatDoorPxY1
import Derived.Test.YtlimahhonfckdaaGreatDoorPxU41
namespace Go.Aw
set_option linter.unusedSimpArgs false
set_option linter.unusedVariables false
open Go.RowKit Go.Proofs
set_option maxRecDepth 100000

def manyL (b : List Lw) (i : Nat) : Nat := ((b.take i).map fun l => l.nodes.length).sum
theorem manyL_step {b : List Lw} {i : Nat} {l : Lw} (h : b[i]? = some l) : manyL b (i + 1) = manyL b i + l.nodes.length := by
  rw [manyL, List.take_add_one, h, List.map_append, List.sum_append]
  simp [manyL]
theorem manyL_bd {b : List Lw} {M : Nat} (h : ∀ l, l ∈ b → l.nodes.length ≤ M) (i : Nat) : manyL b i ≤ i * M := by
  induction i with
  | zero => simp [manyL]
  | succ i ih =>
    rcases hl : b[i]? with _ | l
    · have : manyL b (i + 1) = manyL b i := by
        rw [manyL, List.take_add_one, hl]
        simp [manyL]
      rw [this, Nat.succ_mul]
      omega
    · rw [manyL_step hl, Nat.succ_mul]
      have := h l (List.mem_of_getElem? hl)
      omega
theorem manyL_mem {b : List Lw} {l : Lw} (h : l ∈ b) : l.nodes.length ≤ manyL b b.length := by
  rw [manyL, List.take_length]
  induction b with
  | nil => cases h
  | cons q b ih =>
    simp only [List.map_cons, List.sum_cons]
    rcases List.mem_cons.1 h with rfl | h
    · omega
    · have := ih h
      omega
set_option maxHeartbeats 2000000 in
theorem q4 (b : List Lw) (w : Int) (T U : List (List Int)) (hb : b.length ≤ 1000000000000000) (hbn : ∀ l, l ∈ b → l.nodes.length ≤ 1000000000000000) (htr : ∀ l, l ∈ b → shE l.nodes w = 0 → l.tree.wf ∧ l.nodes = l.tree.flat)
    (hT : T.length ≤ 1000000000000000) (hU : U.length ≤ 1000000000000000) : PD Tryz.prog 4 [.sl (b.map encLw), .int .i64 w, .sl (T.map encR), .sl (U.map encR)] (.d (.bool true)) := by
  have h12 := p12 T (by omega)
  have k12 := p12 U (by omega)
  have h13 := p13
  have hq : ∀ row, row ∈ b.map encLw → row.length = 2 := fun row hr => by obtain ⟨_, _, rfl⟩ := List.mem_map.1 hr; rfl
  generalize hcv : IntKind.i64.wrap (cellsV T) = cv at *
  generalize hcu : IntKind.i64.wrap (cellsV U) = cu at *
  refine pd_of (fn := Tryz.f4) [.tmp 8] (by kernel_rfl) rfl (by kernel_rfl) (Nat.le_of_ble_eq_true rfl) (by kernel_rfl) rfl rfl ?_
  refine awp_seq ?_
  refine awpF_region ?_; intro K hK; simp only [push_cast, seval]; (try simp (disch := omega) only [wrapI]); (repeat ((with_reducible refine And.intro ?_ ?_); (focus (exact ob1)))); refine hK _ ?_; clear hK K
  refine awp_seq ?_
  refine awpF_region ?_; intro K hK; simp only [push_cast, seval]; (try simp (disch := omega) only [wrapI]); (repeat ((with_reducible refine And.intro ?_ ?_); (focus (exact ob1)))); refine hK _ ?_; clear hK K
  refine awp_seq ?_
  refine awp_seq ?_
  refine awpF_region ?_; intro K hK; simp only [push_cast, seval]; (try simp (disch := omega) only [wrapI]); (repeat ((with_reducible refine And.intro ?_ ?_); (focus (exact ob1)))); refine hK _ ?_; clear hK K
  refine awp_block ?_
  refine awp_loopP (α := Nat × Int) (st := fun x => ⟨[(0, .d (.sl (b.map encLw))), (1, .d (.int .i64 w)), (2, .d (.sl (T.map encR))), (3, .d (.sl (U.map encR))), (8, .d (.bool false)), (9, .d (.int .i64 x.2)), (10, .d (.int .i64 x.1))], []⟩)
    (inv := fun x => x.1 ≤ b.length ∧ (b.length ≤ 10 → x.2 = manyL b x.1)) (μ := fun x => b.length - x.1) (x0 := (0, 0)) (r0 := []) ⟨Nat.zero_le _, fun _ => rfl⟩ ?_ ?_
  · exact ⟨by simp, by simp, by simp [push_cast, seval], by simp [push_cast, seval], by simp [push_cast, seval], by simp [push_cast, seval]⟩
  rintro ⟨i, m⟩ ⟨hi, hm⟩
  simp only at hi hm
  refine awp_seq ?_
  refine awp_seq ?_
  refine awpF_region ?_; intro K hK; simp only [push_cast, seval]; (try simp (disch := omega) only [wrapI]); (repeat ((with_reducible refine And.intro ?_ ?_); (focus (exact ob1)))); refine hK _ ?_; clear hK K
  apply awp_cond; (focus (simp only [push_cast, seval]; rfl))
  · intro h1; (try simp only [decide_eq_true_eq, decide_eq_false_iff_not, Bool.not_eq_true', Bool.not_eq_false', Bool.and_eq_true, Bool.or_eq_true, Bool.not_eq_true] at h1)
    have hlt : i < b.length := by omega
    obtain ⟨l, hl⟩ : ∃ l, b[i]? = some l := ⟨_, List.getElem?_eq_getElem hlt⟩
    have hst := manyL_step hl
    have hbd := manyL_bd hbn i
    have hln := hbn l (List.mem_of_getElem? hl)
    refine awp_skip ?_
    refine awp_seq ?_
    refine awp_block ?_
    refine awpF_region ?_; intro K hK; simp only [push_cast, seval, hl, encLw, Int.toNat_natCast, List.length_map]
    (repeat ((with_reducible refine And.intro ?_ ?_); (focus (exact ob1))))
    refine hK _ ?_; clear hK K
    refine inblock_norm ?_
    refine awpF_region ?_; intro K hK; simp only [push_cast, seval]; (try simp (disch := omega) only [wrapI]); (repeat ((with_reducible refine And.intro ?_ ?_); (focus (exact ob1)))); refine hK _ ?_; clear hK K
    refine round_endG (i + 1, IntKind.i64.wrap (m + (l.nodes.length : Int))) [] ⟨by simp only; omega, ⟨by simp only; omega, fun h => ?_⟩, ?_⟩
    · have hmm := hm h
      have : i * 1000000000000000 ≤ 10 * 1000000000000000 := Nat.mul_le_mul_right _ (by omega)
      simp only
      rw [hst, wrapI _ (by omega), hmm]
      push_cast
    · push_cast
      exact ⟨by simp, by simp, by simp [push_cast, seval], by simp [push_cast, seval], by simp [push_cast, seval], by simp [push_cast, seval]⟩
  · intro h1; (try simp only [decide_eq_true_eq, decide_eq_false_iff_not, Bool.not_eq_true', Bool.not_eq_false', Bool.and_eq_true, Bool.or_eq_true, Bool.not_eq_true] at h1)
    obtain rfl : i = b.length := by omega
    refine awp_exit ?_; (repeat (first | refine then_exit ?_ | refine inblock_other (by decide) ?_)); refine inblock_same ?_
    by_cases c1 : 10 < b.length
    · have d1 : decide ((b.length : Int) > 10) = true := decide_eq_true (by omega)
      (repeat' (first | refine awp_seq ?_ | refine awp_skip ?_ | refine awp_block ?_ | ((first | (refine awpF_region ?_; intro K hK) | refine CallK.pd (h12) ?_ | refine CallK.pg (fun _ => h12) ?_ | refine CallK.pd (k12) ?_ | refine CallK.pg (fun _ => k12) ?_ | refine CallK.pd (h13) ?_ | refine CallK.pg (fun _ => h13) ?_); simp only [push_cast, seval, d1]; (try simp (disch := omega) only [wrapI]); (repeat ((with_reducible refine And.intro ?_ ?_); (focus (exact ob1))))) | (refine hK _ ?_; clear hK K) | (apply awp_cond; (focus (simp only [push_cast, seval]; rfl))) | (with_reducible intro hb; exfalso; revert hb; simp [d1]; done) | (with_reducible intro hb; exfalso; (try simp only [decide_eq_true_eq, decide_eq_false_iff_not, Bool.not_eq_true', Bool.not_eq_false', Bool.and_eq_true, Bool.or_eq_true, Bool.not_eq_true] at hb); omega; done) | (with_reducible intro hb; (try simp only [decide_eq_true_eq, decide_eq_false_iff_not, Bool.not_eq_true', Bool.not_eq_false', Bool.and_eq_true, Bool.or_eq_true, Bool.not_eq_true] at hb)) | (refine awp_exit ?_; (repeat (first | refine then_exit ?_ | refine inblock_other (by decide) ?_)); refine inblock_same ?_) | (refine awp_ret ?_; (repeat (first | refine then_ret ?_ | refine inblock_ret ?_ | refine nogoto_ret ?_)); refine fin_of (by simp only [push_cast, seval, d1]; first | done | rfl) ob1 ?_) | (refine inblock_norm ?_)))
      rfl
    have d1 : decide ((b.length : Int) > 10) = false := decide_eq_false (by omega)
    by_cases c2 : 60 < m
    · have d2 : decide (m > 60) = true := decide_eq_true (by omega)
      (repeat' (first | refine awp_seq ?_ | refine awp_skip ?_ | refine awp_block ?_ | ((first | (refine awpF_region ?_; intro K hK) | refine CallK.pd (h12) ?_ | refine CallK.pg (fun _ => h12) ?_ | refine CallK.pd (k12) ?_ | refine CallK.pg (fun _ => k12) ?_ | refine CallK.pd (h13) ?_ | refine CallK.pg (fun _ => h13) ?_); simp only [push_cast, seval, d1, d2]; (try simp (disch := omega) only [wrapI]); (repeat ((with_reducible refine And.intro ?_ ?_); (focus (exact ob1))))) | (refine hK _ ?_; clear hK K) | (apply awp_cond; (focus (simp only [push_cast, seval]; rfl))) | (with_reducible intro hb; exfalso; revert hb; simp [d1, d2]; done) | (with_reducible intro hb; exfalso; (try simp only [decide_eq_true_eq, decide_eq_false_iff_not, Bool.not_eq_true', Bool.not_eq_false', Bool.and_eq_true, Bool.or_eq_true, Bool.not_eq_true] at hb); omega; done) | (with_reducible intro hb; (try simp only [decide_eq_true_eq, decide_eq_false_iff_not, Bool.not_eq_true', Bool.not_eq_false', Bool.and_eq_true, Bool.or_eq_true, Bool.not_eq_true] at hb)) | (refine awp_exit ?_; (repeat (first | refine then_exit ?_ | refine inblock_other (by decide) ?_)); refine inblock_same ?_) | (refine awp_ret ?_; (repeat (first | refine then_ret ?_ | refine inblock_ret ?_ | refine nogoto_ret ?_)); refine fin_of (by simp only [push_cast, seval, d1, d2]; first | done | rfl) ob1 ?_) | (refine inblock_norm ?_)))
      rfl
    have d2 : decide (m > 60) = false := decide_eq_false (by omega)
    by_cases c3 : 80 < cv
    · have d3 : decide (cv > 80) = true := decide_eq_true (by omega)
      (repeat' (first | refine awp_seq ?_ | refine awp_skip ?_ | refine awp_block ?_ | ((first | (refine awpF_region ?_; intro K hK) | refine CallK.pd (h12) ?_ | refine CallK.pg (fun _ => h12) ?_ | refine CallK.pd (k12) ?_ | refine CallK.pg (fun _ => k12) ?_ | refine CallK.pd (h13) ?_ | refine CallK.pg (fun _ => h13) ?_); simp only [push_cast, seval, d1, d2, d3]; (try simp (disch := omega) only [wrapI]); (repeat ((with_reducible refine And.intro ?_ ?_); (focus (exact ob1))))) | (refine hK _ ?_; clear hK K) | (apply awp_cond; (focus (simp only [push_cast, seval]; rfl))) | (with_reducible intro hb; exfalso; revert hb; simp [d1, d2, d3]; done) | (with_reducible intro hb; exfalso; (try simp only [decide_eq_true_eq, decide_eq_false_iff_not, Bool.not_eq_true', Bool.not_eq_false', Bool.and_eq_true, Bool.or_eq_true, Bool.not_eq_true] at hb); omega; done) | (with_reducible intro hb; (try simp only [decide_eq_true_eq, decide_eq_false_iff_not, Bool.not_eq_true', Bool.not_eq_false', Bool.and_eq_true, Bool.or_eq_true, Bool.not_eq_true] at hb)) | (refine awp_exit ?_; (repeat (first | refine then_exit ?_ | refine inblock_other (by decide) ?_)); refine inblock_same ?_) | (refine awp_ret ?_; (repeat (first | refine then_ret ?_ | refine inblock_ret ?_ | refine nogoto_ret ?_)); refine fin_of (by simp only [push_cast, seval, d1, d2, d3]; first | done | rfl) ob1 ?_) | (refine inblock_norm ?_)))
      rfl
    have d3 : decide (cv > 80) = false := decide_eq_false (by omega)
    by_cases c4 : 80 < T.length
    · have d4 : decide ((T.length : Int) > 80) = true := decide_eq_true (by omega)
      (repeat' (first | refine awp_seq ?_ | refine awp_skip ?_ | refine awp_block ?_ | ((first | (refine awpF_region ?_; intro K hK) | refine CallK.pd (h12) ?_ | refine CallK.pg (fun _ => h12) ?_ | refine CallK.pd (k12) ?_ | refine CallK.pg (fun _ => k12) ?_ | refine CallK.pd (h13) ?_ | refine CallK.pg (fun _ => h13) ?_); simp only [push_cast, seval, d1, d2, d3, d4]; (try simp (disch := omega) only [wrapI]); (repeat ((with_reducible refine And.intro ?_ ?_); (focus (exact ob1))))) | (refine hK _ ?_; clear hK K) | (apply awp_cond; (focus (simp only [push_cast, seval]; rfl))) | (with_reducible intro hb; exfalso; revert hb; simp [d1, d2, d3, d4]; done) | (with_reducible intro hb; exfalso; (try simp only [decide_eq_true_eq, decide_eq_false_iff_not, Bool.not_eq_true', Bool.not_eq_false', Bool.and_eq_true, Bool.or_eq_true, Bool.not_eq_true] at hb); omega; done) | (with_reducible intro hb; (try simp only [decide_eq_true_eq, decide_eq_false_iff_not, Bool.not_eq_true', Bool.not_eq_false', Bool.and_eq_true, Bool.or_eq_true, Bool.not_eq_true] at hb)) | (refine awp_exit ?_; (repeat (first | refine then_exit ?_ | refine inblock_other (by decide) ?_)); refine inblock_same ?_) | (refine awp_ret ?_; (repeat (first | refine then_ret ?_ | refine inblock_ret ?_ | refine nogoto_ret ?_)); refine fin_of (by simp only [push_cast, seval, d1, d2, d3, d4]; first | done | rfl) ob1 ?_) | (refine inblock_norm ?_)))
      rfl
    have d4 : decide ((T.length : Int) > 80) = false := decide_eq_false (by omega)
    by_cases c5 : 80 < cu
    · have d5 : decide (cu > 80) = true := decide_eq_true (by omega)
      (repeat' (first | refine awp_seq ?_ | refine awp_skip ?_ | refine awp_block ?_ | ((first | (refine awpF_region ?_; intro K hK) | refine CallK.pd (h12) ?_ | refine CallK.pg (fun _ => h12) ?_ | refine CallK.pd (k12) ?_ | refine CallK.pg (fun _ => k12) ?_ | refine CallK.pd (h13) ?_ | refine CallK.pg (fun _ => h13) ?_); simp only [push_cast, seval, d1, d2, d3, d4, d5]; (try simp (disch := omega) only [wrapI]); (repeat ((with_reducible refine And.intro ?_ ?_); (focus (exact ob1))))) | (refine hK _ ?_; clear hK K) | (apply awp_cond; (focus (simp only [push_cast, seval]; rfl))) | (with_reducible intro hb; exfalso; revert hb; simp [d1, d2, d3, d4, d5]; done) | (with_reducible intro hb; exfalso; (try simp only [decide_eq_true_eq, decide_eq_false_iff_not, Bool.not_eq_true', Bool.not_eq_false', Bool.and_eq_true, Bool.or_eq_true, Bool.not_eq_true] at hb); omega; done) | (with_reducible intro hb; (try simp only [decide_eq_true_eq, decide_eq_false_iff_not, Bool.not_eq_true', Bool.not_eq_false', Bool.and_eq_true, Bool.or_eq_true, Bool.not_eq_true] at hb)) | (refine awp_exit ?_; (repeat (first | refine then_exit ?_ | refine inblock_other (by decide) ?_)); refine inblock_same ?_) | (refine awp_ret ?_; (repeat (first | refine then_ret ?_ | refine inblock_ret ?_ | refine nogoto_ret ?_)); refine fin_of (by simp only [push_cast, seval, d1, d2, d3, d4, d5]; first | done | rfl) ob1 ?_) | (refine inblock_norm ?_)))
      rfl
    have d5 : decide (cu > 80) = false := decide_eq_false (by omega)
    by_cases c6 : 80 < U.length
    · have d6 : decide ((U.length : Int) > 80) = true := decide_eq_true (by omega)
      (repeat' (first | refine awp_seq ?_ | refine awp_skip ?_ | refine awp_block ?_ | ((first | (refine awpF_region ?_; intro K hK) | refine CallK.pd (h12) ?_ | refine CallK.pg (fun _ => h12) ?_ | refine CallK.pd (k12) ?_ | refine CallK.pg (fun _ => k12) ?_ | refine CallK.pd (h13) ?_ | refine CallK.pg (fun _ => h13) ?_); simp only [push_cast, seval, d1, d2, d3, d4, d5, d6]; (try simp (disch := omega) only [wrapI]); (repeat ((with_reducible refine And.intro ?_ ?_); (focus (exact ob1))))) | (refine hK _ ?_; clear hK K) | (apply awp_cond; (focus (simp only [push_cast, seval]; rfl))) | (with_reducible intro hb; exfalso; revert hb; simp [d1, d2, d3, d4, d5, d6]; done) | (with_reducible intro hb; exfalso; (try simp only [decide_eq_true_eq, decide_eq_false_iff_not, Bool.not_eq_true', Bool.not_eq_false', Bool.and_eq_true, Bool.or_eq_true, Bool.not_eq_true] at hb); omega; done) | (with_reducible intro hb; (try simp only [decide_eq_true_eq, decide_eq_false_iff_not, Bool.not_eq_true', Bool.not_eq_false', Bool.and_eq_true, Bool.or_eq_true, Bool.not_eq_true] at hb)) | (refine awp_exit ?_; (repeat (first | refine then_exit ?_ | refine inblock_other (by decide) ?_)); refine inblock_same ?_) | (refine awp_ret ?_; (repeat (first | refine then_ret ?_ | refine inblock_ret ?_ | refine nogoto_ret ?_)); refine fin_of (by simp only [push_cast, seval, d1, d2, d3, d4, d5, d6]; first | done | rfl) ob1 ?_) | (refine inblock_norm ?_)))
      rfl
    have d6 : decide ((U.length : Int) > 80) = false := decide_eq_false (by omega)
    have hmm := hm (by omega)
    have hnl : ∀ l, l ∈ b → l.nodes.length ≤ 1000000 := fun l hl => by have := manyL_mem hl; omega
    have hbt : treesOk b w := fun l hl => ⟨hnl l hl, htr l hl⟩
    have h41 := p41 b w T hbt (by omega) (by omega)
    have k18 := q18 b w T hbt (by omega) (by omega)
    have h42 := p42 b w T U hbt (by omega) (by omega) (by omega)
    have k20 := q20 b w T U hbt (by omega) (by omega) (by omega)
    have h96 := p96 b w hbt
    have k22 := q22 b w hbt (by omega)
    have h34 := p34 (csV b w T) (csV b w T) (by
      unfold csV
      split
      · rw [costV_len]; decide
      · decide)
    rw [beq_self_eq_true] at h34
    generalize csV b w T = xs at *
    generalize coE b w T = e1 at *
    generalize btV b w T U = v1 at *
    generalize btE b w T U = e2 at *
    generalize bkE b w = e3 at *
    (repeat' (first | refine awp_seq ?_ | refine awp_skip ?_ | refine awp_block ?_ | ((first | (refine awpF_region ?_; intro K hK) | refine CallK.pd (h12) ?_ | refine CallK.pg (fun _ => h12) ?_ | refine CallK.pd (k12) ?_ | refine CallK.pg (fun _ => k12) ?_ | refine CallK.pd (h41) ?_ | refine CallK.pg (fun _ => h41) ?_ | refine CallK.pd (k18) ?_ | refine CallK.pg (fun _ => k18) ?_ | refine CallK.pd (h42) ?_ | refine CallK.pg (fun _ => h42) ?_ | refine CallK.pd (k20) ?_ | refine CallK.pg (fun _ => k20) ?_ | refine CallK.pd (h96) ?_ | refine CallK.pg (fun _ => h96) ?_ | refine CallK.pd (k22) ?_ | refine CallK.pg (fun _ => k22) ?_ | refine CallK.pd (h34) ?_ | refine CallK.pg (fun _ => h34) ?_ | refine CallK.pd (h13) ?_ | refine CallK.pg (fun _ => h13) ?_); simp only [push_cast, seval, d1, d2, d3, d4, d5, d6, beq_self_eq_true]; (try simp (disch := omega) only [wrapI]); (repeat ((with_reducible refine And.intro ?_ ?_); (focus (exact ob1))))) | (refine hK _ ?_; clear hK K) | (apply awp_cond; (focus (simp only [push_cast, seval]; rfl))) | (with_reducible intro hb; exfalso; revert hb; simp [d1, d2, d3, d4, d5, d6, beq_self_eq_true]; done) | (with_reducible intro hb; exfalso; (try simp only [decide_eq_true_eq, decide_eq_false_iff_not, Bool.not_eq_true', Bool.not_eq_false', Bool.and_eq_true, Bool.or_eq_true, Bool.not_eq_true] at hb); omega; done) | (with_reducible intro hb; (try simp only [decide_eq_true_eq, decide_eq_false_iff_not, Bool.not_eq_true', Bool.not_eq_false', Bool.and_eq_true, Bool.or_eq_true, Bool.not_eq_true] at hb)) | (refine awp_exit ?_; (repeat (first | refine then_exit ?_ | refine inblock_other (by decide) ?_)); refine inblock_same ?_) | (refine awp_ret ?_; (repeat (first | refine then_ret ?_ | refine inblock_ret ?_ | refine nogoto_ret ?_)); refine fin_of (by simp only [push_cast, seval, d1, d2, d3, d4, d5, d6, beq_self_eq_true]; first | done | rfl) ob1 ?_) | (refine inblock_norm ?_)))
    rfl
end Go.Aw
