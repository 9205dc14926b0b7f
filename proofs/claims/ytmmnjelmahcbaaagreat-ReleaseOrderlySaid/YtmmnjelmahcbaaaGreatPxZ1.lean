/-
  Contracts of the reference: stages, checked one by one and in their order. Conditions: a length that fits.
-/
import Derived.Test.YtmmnjelmahcbaaaGreatPxN36
import Derived.Test.YtmmnjelmahcbaaaGreatPxB3a
namespace Go.Aw
set_option linter.unusedSimpArgs false
set_option linter.unusedVariables false
open Go.RowKit Go.Proofs Go.Nt Go.Rl

theorem q40 (ss : List Stg) (hl : ss.length ≤ 1000000) : PD Tryz.prog 40 [.sl (ss.map encG)] (.d (.int .i64 (stgsC ss))) := by
  have hq := encG_len ss
  refine pd_of (fn := Tryz.f40) [.tmp 2] (by kernel_rfl) rfl (by kernel_rfl) (Nat.le_of_ble_eq_true rfl) (by kernel_rfl) rfl rfl ?_
  refine awp_seq ?_
  refine awpF_region ?_; intro K hK; simp only [push_cast, seval]; (try simp (disch := omega) only [wrapI]); (repeat ((with_reducible refine And.intro ?_ ?_); (focus (exact ob1)))); refine hK _ ?_; clear hK; clear K
  refine awp_seq ?_
  refine awp_seq ?_
  refine awpF_region ?_; intro K hK; simp only [push_cast, seval]; (try simp (disch := omega) only [wrapI]); (repeat ((with_reducible refine And.intro ?_ ?_); (focus (exact ob1)))); refine hK _ ?_; clear hK; clear K
  apply awp_cond; (focus (simp only [push_cast, seval]; rfl))
  · intro h1; (try simp only [decide_eq_true_eq, decide_eq_false_iff_not, Bool.not_eq_true', Bool.not_eq_false', Bool.and_eq_true, Bool.or_eq_true, Bool.not_eq_true] at h1)
    refine awp_seq ?_
    refine awpF_region ?_; intro K hK; simp only [push_cast, seval]; (try simp (disch := omega) only [wrapI]); (repeat ((with_reducible refine And.intro ?_ ?_); (focus (exact ob1)))); refine hK _ ?_; clear hK; clear K
    refine awp_ret ?_; (repeat (first | refine then_ret ?_ | refine inblock_ret ?_)); refine fin_of (by simp only [push_cast, seval]; first | done | rfl) ob1 ?_
    unfold stgsC
    rw [if_pos (by omega)]
  intro h1; (try simp only [decide_eq_true_eq, decide_eq_false_iff_not, Bool.not_eq_true', Bool.not_eq_false', Bool.and_eq_true, Bool.or_eq_true, Bool.not_eq_true] at h1)
  refine awp_skip ?_
  refine awp_seq ?_
  refine awp_seq ?_
  refine awpF_region ?_; intro K hK; simp only [push_cast, seval]; (try simp (disch := omega) only [wrapI]); (repeat ((with_reducible refine And.intro ?_ ?_); (focus (exact ob1)))); refine hK _ ?_; clear hK; clear K
  apply awp_cond; (focus (simp only [push_cast, seval]; rfl))
  · intro h2; (try simp only [decide_eq_true_eq, decide_eq_false_iff_not, Bool.not_eq_true', Bool.not_eq_false', Bool.and_eq_true, Bool.or_eq_true, Bool.not_eq_true] at h2)
    refine awp_seq ?_
    refine awpF_region ?_; intro K hK; simp only [push_cast, seval]; (try simp (disch := omega) only [wrapI]); (repeat ((with_reducible refine And.intro ?_ ?_); (focus (exact ob1)))); refine hK _ ?_; clear hK; clear K
    refine awp_ret ?_; (repeat (first | refine then_ret ?_ | refine inblock_ret ?_)); refine fin_of (by simp only [push_cast, seval]; first | done | rfl) ob1 ?_
    unfold stgsC
    rw [if_neg (by omega), if_pos (by omega)]
  intro h2; (try simp only [decide_eq_true_eq, decide_eq_false_iff_not, Bool.not_eq_true', Bool.not_eq_false', Bool.and_eq_true, Bool.or_eq_true, Bool.not_eq_true] at h2)
  refine awp_skip ?_
  refine awp_mid (fun u => u = ⟨[(0, .d (.sl (ss.map encG)))], []⟩ ∧ ss.all stgB = true) ?_ ?_
  · refine awp_seq ?_
    refine awpF_region ?_; intro K hK; simp only [push_cast, seval]; (try simp (disch := omega) only [wrapI]); (repeat ((with_reducible refine And.intro ?_ ?_); (focus (exact ob1)))); refine hK _ ?_; clear hK; clear K
    refine awp_block ?_
    refine awp_loopP (α := Nat) (st := fun i => ⟨[(0, .d (.sl (ss.map encG))), (3, .d (.int .i64 i))], []⟩) (inv := fun i => i ≤ ss.length ∧ ∀ j (h : j < ss.length), j < i → stgB ss[j] = true) (μ := fun i => ss.length - i) (x0 := 0) (r0 := []) ?_ ?_ ?_
    · exact ⟨Nat.zero_le _, fun j h h2 => by omega⟩
    · exact ⟨by simp, by simp, by simp [push_cast, seval], by simp [push_cast, seval], by simp [push_cast, seval], by simp [push_cast, seval]⟩
    rintro i ⟨hi, hall⟩
    refine awp_seq ?_
    refine awp_seq ?_
    refine awpF_region ?_; intro K hK; simp only [push_cast, seval]; (try simp (disch := omega) only [wrapI]); (repeat ((with_reducible refine And.intro ?_ ?_); (focus (exact ob1)))); refine hK _ ?_; clear hK; clear K
    apply awp_cond; (focus (simp only [push_cast, seval]; rfl))
    · intro h3; (try simp only [decide_eq_true_eq, decide_eq_false_iff_not, Bool.not_eq_true', Bool.not_eq_false', Bool.and_eq_true, Bool.or_eq_true, Bool.not_eq_true] at h3)
      have hi2 : i < ss.length := by omega
      have g1 : (ss.map encG)[i]? = some (encG ss[i]) := by rw [List.getElem?_map, List.getElem?_eq_getElem hi2]; rfl
      have hmem := List.getElem_mem hi2
      have wi : IntKind.i64.wrap ((i : Int) + 1) = (i : Int) + 1 := wrapI _ (by omega)
      have ha := p18 ss[i].rn ss[i].rd
      have hb := p18 ss[i].an ss[i].ad
      have hc := p18 ss[i].bn ss[i].bd
      have hS : stgB ss[i] = (decide (0 ≤ ss[i].sh ∧ ss[i].sh ≤ 100 ∧ 1 ≤ ss[i].le ∧ ss[i].le ≤ 60) && (rateB ss[i].rn ss[i].rd && (rateB ss[i].an ss[i].ad && rateB ss[i].bn ss[i].bd))) := rfl
      have hE : stgB ss[i] = false → stgsC ss = 2 := fun hf => by
        have : ss.all stgB = false := by
          rw [List.all_eq_false]
          exact ⟨_, hmem, by rw [hf]; decide⟩
        unfold stgsC
        rw [if_neg (by omega), if_neg (by omega), this]
        rfl
      have hO : stgB ss[i] = true → ∀ j (h : j < ss.length), j < i + 1 → stgB ss[j] = true := fun hf j hj h4 => by
        rcases Nat.lt_or_ge j i with h5 | h5
        · exact hall j hj h5
        · obtain rfl : j = i := by omega
          exact hf
      rw [hS] at hE hO
      clear hS
      simp only [encG] at g1
      generalize ss[i].rn = rn at ha hE hO g1
      generalize ss[i].rd = rd at ha hE hO g1
      generalize ss[i].an = an at hb hE hO g1
      generalize ss[i].ad = ad at hb hE hO g1
      generalize ss[i].bn = bn at hc hE hO g1
      generalize ss[i].bd = bd at hc hE hO g1
      generalize ss[i].sh = sh at hE hO g1
      generalize ss[i].le = le at hE hO g1
      generalize rateB rn rd = c1 at ha hE hO
      generalize rateB an ad = c2 at hb hE hO
      generalize rateB bn bd = c3 at hc hE hO
      refine awp_skip ?_
      refine awp_seq ?_
      refine awp_block ?_
      refine awp_seq ?_
      refine awpF_region ?_; intro K hK; simp only [push_cast, seval, g1, Int.toNat_natCast]
      repeat (with_reducible refine And.intro ?_ ?_; (focus (first | exact hq | omega)))
      refine hK _ ?_; clear hK; clear K
      refine awp_seq ?_
      refine awpF_region ?_; intro K hK; simp only [push_cast, seval]
      repeat (refine ⟨fun h => by rw [h]; rfl, ?_⟩)
      refine CallK.pg (fun _ => ha) ?_
      simp only [push_cast, seval, bif_or]
      repeat (refine ⟨fun h => by rw [h]; rfl, ?_⟩)
      refine CallK.pg (fun _ => hb) ?_
      simp only [push_cast, seval, bif_or]
      repeat (refine ⟨fun h => by rw [h]; rfl, ?_⟩)
      refine CallK.pg (fun _ => hc) ?_
      simp only [push_cast, seval, bif_or]
      repeat (refine ⟨fun h => by rw [h]; rfl, ?_⟩)
      refine hK _ ?_; clear hK; clear K
      apply awp_cond; (focus (simp only [push_cast, seval]; rfl))
      · intro h4
        have hf : (decide (0 ≤ sh ∧ sh ≤ 100 ∧ 1 ≤ le ∧ le ≤ 60) && (c1 && (c2 && c3))) = false := by
          cases c1 <;> cases c2 <;> cases c3 <;> simp at h4 ⊢ <;> omega
        refine awp_seq ?_
        refine awpF_region ?_; intro K hK; simp only [push_cast, seval]; (try simp (disch := omega) only [wrapI]); (repeat ((with_reducible refine And.intro ?_ ?_); (focus (exact ob1)))); refine hK _ ?_; clear hK; clear K
        refine awp_ret ?_; (repeat (first | refine then_ret ?_ | refine inblock_ret ?_)); refine fin_of (by simp only [push_cast, seval]; first | done | rfl) ob1 ?_
        rw [hE hf]
      · intro h4
        have hf : (decide (0 ≤ sh ∧ sh ≤ 100 ∧ 1 ≤ le ∧ le ≤ 60) && (c1 && (c2 && c3))) = true := by
          cases c1 <;> cases c2 <;> cases c3 <;> simp at h4 ⊢ <;> omega
        refine awp_skip ?_
        refine inblock_norm ?_
        refine awpF_region ?_; intro K hK; simp only [push_cast, seval, wi]; (try simp (disch := omega) only [wrapI]); (repeat ((with_reducible refine And.intro ?_ ?_); (focus (exact ob1)))); refine hK _ ?_; clear hK; clear K
        refine round_endG (i + 1) [] ⟨by omega, ⟨by omega, hO hf⟩, ?_⟩
        exact ⟨by simp, by simp, by simp [push_cast, seval], by simp [push_cast, seval], by simp [push_cast, seval], by simp [push_cast, seval]⟩
    · intro h3; (try simp only [decide_eq_true_eq, decide_eq_false_iff_not, Bool.not_eq_true', Bool.not_eq_false', Bool.and_eq_true, Bool.or_eq_true, Bool.not_eq_true] at h3)
      refine awp_exit ?_; (repeat (first | refine then_exit ?_ | refine inblock_other (by decide) ?_)); refine inblock_same ?_
      refine mid_end [] _ ⟨rfl, ?_⟩ ?_
      · rw [List.all_eq_true]
        intro s hs
        obtain ⟨j, hj, rfl⟩ := List.getElem_of_mem hs
        exact hall j hj (by omega)
      · exact ⟨by simp, by simp, by simp [push_cast, seval], by simp [push_cast, seval], by simp [push_cast, seval], by simp [push_cast, seval]⟩
  rintro _ ⟨rfl, hall⟩
  have hS : stgsC ss = if rowB ss then 0 else 11 := by
    unfold stgsC
    rw [if_neg (by omega), if_neg (by omega), hall]
    rfl
  rw [hS]
  have hl2 : 2 ≤ ss.length ∧ ss.length ≤ 6 := by omega
  clear hS h1 h2 hall hl
  refine awp_mid (fun u => u = ⟨[(0, .d (.sl (ss.map encG)))], []⟩ ∧ ss.Pairwise fun a b => a.sh < b.sh) ?_ ?_
  · refine awp_seq ?_
    refine awpF_region ?_; intro K hK; simp only [push_cast, seval]; (try simp (disch := omega) only [wrapI]); (repeat ((with_reducible refine And.intro ?_ ?_); (focus (exact ob1)))); refine hK _ ?_; clear hK; clear K
    refine awp_block ?_
    refine awp_loopP (α := Nat) (st := fun i => ⟨[(0, .d (.sl (ss.map encG))), (5, .d (.int .i64 i))], []⟩) (inv := fun i => 1 ≤ i ∧ i ≤ ss.length ∧ ∀ j (h : j < ss.length), (h1 : 1 ≤ j) → j < i → (ss[j - 1]'(by omega)).sh < ss[j].sh) (μ := fun i => ss.length - i) (x0 := 1) (r0 := []) ?_ ?_ ?_
    · exact ⟨Nat.le_refl _, by omega, fun j h h2 h3 => by omega⟩
    · exact ⟨by simp, by simp, by simp [push_cast, seval], by simp [push_cast, seval], by simp [push_cast, seval], by simp [push_cast, seval]⟩
    rintro i ⟨hi1, hi, hasc⟩
    refine awp_seq ?_
    refine awp_seq ?_
    refine awpF_region ?_; intro K hK; simp only [push_cast, seval]; (try simp (disch := omega) only [wrapI]); (repeat ((with_reducible refine And.intro ?_ ?_); (focus (exact ob1)))); refine hK _ ?_; clear hK; clear K
    apply awp_cond; (focus (simp only [push_cast, seval]; rfl))
    · intro h3; (try simp only [decide_eq_true_eq, decide_eq_false_iff_not, Bool.not_eq_true', Bool.not_eq_false', Bool.and_eq_true, Bool.or_eq_true, Bool.not_eq_true] at h3)
      have hi2 : i < ss.length := by omega
      have wi : IntKind.i64.wrap ((i : Int) + 1) = (i : Int) + 1 := wrapI _ (by omega)
      have wj : IntKind.i64.wrap ((i : Int) - 1) = (i : Int) - 1 := wrapI _ (by omega)
      have ht : ((i : Int) - 1).toNat = i - 1 := by omega
      have g1 : (ss.map encG)[i]? = some (encG ss[i]) := by rw [List.getElem?_map, List.getElem?_eq_getElem hi2]; rfl
      have g2 : (ss.map encG)[i - 1]? = some (encG (ss[i - 1]'(by omega))) := by rw [List.getElem?_map, List.getElem?_eq_getElem (by omega : i - 1 < ss.length)]; rfl
      have hbad : ¬ (ss[i - 1]'(by omega)).sh < ss[i].sh → rowB ss = false := fun h => by
        unfold rowB
        rw [Bool.and_eq_false_iff, decide_eq_false_iff_not]
        left
        intro h4
        exact h ((List.pairwise_iff_getElem.1 h4) (i - 1) i (by omega) hi2 (by omega))
      have hgood : (ss[i - 1]'(by omega)).sh < ss[i].sh → ∀ j (h : j < ss.length), (h1 : 1 ≤ j) → j < i + 1 → (ss[j - 1]'(by omega)).sh < ss[j].sh := fun h j hj h1 h4 => by
        rcases Nat.lt_or_ge j i with h5 | h5
        · exact hasc j hj h1 h5
        · obtain rfl : j = i := by omega
          exact h
      simp only [encG] at g1 g2
      refine awp_skip ?_
      refine awp_seq ?_
      refine awp_block ?_
      refine awp_seq ?_
      refine awpF_draw [0,1,2,3,4,5,6,7,8,9,10,11] (by kernel_rfl) (by kernel_rfl) rfl ?_; intro K hK; simp only [push_cast, seval, wj, ht, Int.toNat_natCast, g1, g2]
      repeat (with_reducible refine And.intro ?_ ?_; (focus (first | exact hq | omega)))
      refine hK _ ?_; clear hK; clear K
      apply awp_cond; (focus (simp only [push_cast, seval]; rfl))
      · intro h4; (try simp only [decide_eq_true_eq, decide_eq_false_iff_not, Bool.not_eq_true', Bool.not_eq_false', Bool.and_eq_true, Bool.or_eq_true, Bool.not_eq_true] at h4)
        refine awp_seq ?_
        refine awpF_region ?_; intro K hK; simp only [push_cast, seval]; (try simp (disch := omega) only [wrapI]); (repeat ((with_reducible refine And.intro ?_ ?_); (focus (exact ob1)))); refine hK _ ?_; clear hK; clear K
        refine awp_ret ?_; (repeat (first | refine then_ret ?_ | refine inblock_ret ?_)); refine fin_of (by simp only [push_cast, seval]; first | done | rfl) ob1 ?_
        rw [hbad (by omega)]
        rfl
      · intro h4; (try simp only [decide_eq_true_eq, decide_eq_false_iff_not, Bool.not_eq_true', Bool.not_eq_false', Bool.and_eq_true, Bool.or_eq_true, Bool.not_eq_true] at h4)
        refine awp_skip ?_
        refine inblock_norm ?_
        refine awpF_region ?_; intro K hK; simp only [push_cast, seval, wi]; (try simp (disch := omega) only [wrapI]); (repeat ((with_reducible refine And.intro ?_ ?_); (focus (exact ob1)))); refine hK _ ?_; clear hK; clear K
        refine round_endG (i + 1) [] ⟨by omega, ⟨by omega, by omega, hgood (by omega)⟩, ?_⟩
        exact ⟨by simp, by simp, by simp [push_cast, seval], by simp [push_cast, seval], by simp [push_cast, seval], by simp [push_cast, seval]⟩
    · intro h3; (try simp only [decide_eq_true_eq, decide_eq_false_iff_not, Bool.not_eq_true', Bool.not_eq_false', Bool.and_eq_true, Bool.or_eq_true, Bool.not_eq_true] at h3)
      refine awp_exit ?_; (repeat (first | refine then_exit ?_ | refine inblock_other (by decide) ?_)); refine inblock_same ?_
      refine mid_end [] _ ⟨rfl, ?_⟩ ?_
      · refine adj_pair (fun a b c h1 h2 => by omega) fun j hj => ?_
        have := hasc (j + 1) hj (by omega) (by omega)
        exact this
      · exact ⟨by simp, by simp, by simp [push_cast, seval], by simp [push_cast, seval], by simp [push_cast, seval], by simp [push_cast, seval]⟩
  rintro _ ⟨rfl, hasc⟩
  have g1 : (ss.map encG)[0]? = some (encG (ss[0]'(by omega))) := by rw [List.getElem?_map, List.getElem?_eq_getElem (by omega : 0 < ss.length)]; rfl
  have hwl : IntKind.i64.wrap ((ss.length : Int) - 1) = (ss.length : Int) - 1 := wrapI _ (by omega)
  have htl : ((ss.length : Int) - 1).toNat = ss.length - 1 := by omega
  have g2 : (ss.map encG)[ss.length - 1]? = some (encG (ss[ss.length - 1]'(by omega))) := by rw [List.getElem?_map, List.getElem?_eq_getElem (by omega : ss.length - 1 < ss.length)]; rfl
  have hR : rowB ss = (decide ((ss[0]'(by omega)).sh = 0) && decide ((ss[ss.length - 1]'(by omega)).sh = 100)) := by
    unfold rowB
    rw [decide_eq_true hasc, List.getElem?_eq_getElem (by omega : 0 < ss.length), List.getElem?_eq_getElem (by omega : ss.length - 1 < ss.length), Bool.true_and]
    rfl
  rw [hR]
  clear hR
  simp only [encG] at g1 g2
  refine awp_seq ?_
  refine awp_seq ?_
  refine awpF_region ?_; intro K hK; simp only [push_cast, seval, hwl, htl, g1, g2, bif_or]
  refine ⟨by omega, hq, fun h => ⟨h, h, by omega, by omega, hq⟩, fun h => by rw [h]; rfl, ?_⟩
  refine hK _ ?_; clear hK; clear K
  generalize (ss[0]'(by omega)).sh = s0
  generalize (ss[ss.length - 1]'(by omega)).sh = s1
  apply awp_cond; (focus (simp only [push_cast, seval]; rfl))
  · intro h4
    refine awp_seq ?_
    refine awpF_region ?_; intro K hK; simp only [push_cast, seval]; (try simp (disch := omega) only [wrapI]); (repeat ((with_reducible refine And.intro ?_ ?_); (focus (exact ob1)))); refine hK _ ?_; clear hK; clear K
    refine awp_ret ?_; (repeat (first | refine then_ret ?_ | refine inblock_ret ?_)); refine fin_of (by simp only [push_cast, seval]; first | done | rfl) ob1 ?_
    rw [show (decide (s0 = 0) && decide (s1 = 100)) = false by simp only [Bool.or_eq_true, bne_iff_ne] at h4; simp; omega]
    rfl
  · intro h4
    refine awp_skip ?_
    refine awp_seq ?_
    refine awpF_region ?_; intro K hK; simp only [push_cast, seval]; (try simp (disch := omega) only [wrapI]); (repeat ((with_reducible refine And.intro ?_ ?_); (focus (exact ob1)))); refine hK _ ?_; clear hK; clear K
    refine awp_ret ?_; (repeat (first | refine then_ret ?_ | refine inblock_ret ?_)); refine fin_of (by simp only [push_cast, seval]; first | done | rfl) ob1 ?_
    rw [show (decide (s0 = 0) && decide (s1 = 100)) = true by simp only [Bool.or_eq_false_iff, bne_eq_false_iff_eq] at h4; simp; omega]
    rfl

set_option maxRecDepth 10000 in
set_option maxHeartbeats 1000000 in
theorem q9 (s : Sta) (hn : s.ps.length ≤ 1000000) : PD Tryz.prog 9 [.agg (encS s)] (.d (.int .i64 (chkS s))) := by
  have h40 := q40 s.ps hn
  have hq := encG_len s.ps
  unfold encS
  refine pd_of (fn := Tryz.f9) [.tmp 2] (by kernel_rfl) rfl (by kernel_rfl) (Nat.le_of_ble_eq_true rfl) (by kernel_rfl) rfl rfl ?_
  refine awp_seq ?_
  refine awpF_region ?_; intro K hK; simp only [push_cast, seval]; (try simp (disch := omega) only [wrapI]); (repeat ((with_reducible refine And.intro ?_ ?_); (focus (exact ob1)))); refine hK _ ?_; clear hK; clear K
  refine awp_seq ?_
  refine awp_seq ?_
  refine awpF_region ?_; intro K hK; simp only [push_cast, seval, bif_or]
  repeat (refine ⟨fun h => by rw [h]; rfl, ?_⟩)
  refine hK _ ?_; clear hK; clear K
  apply awp_cond; (focus (simp only [push_cast, seval]; rfl))
  · intro h1
    have e : (decide (1 ≤ s.k ∧ s.k ≤ 64) && (inB s.ol && inB s.nw)) = false := by
      unfold inB
      rw [Bool.eq_false_iff]
      intro h2
      simp only [Bool.and_eq_true, Bool.or_eq_true, decide_eq_true_eq] at h1 h2
      omega
    refine awp_seq ?_
    refine awpF_region ?_; intro K hK; simp only [push_cast, seval]; (try simp (disch := omega) only [wrapI]); (repeat ((with_reducible refine And.intro ?_ ?_); (focus (exact ob1)))); refine hK _ ?_; clear hK; clear K
    refine awp_ret ?_; (repeat (first | refine then_ret ?_ | refine inblock_ret ?_)); refine fin_of (by simp only [push_cast, seval]; first | done | rfl) ob1 ?_
    unfold chkS
    rw [e]
    rfl
  intro h1
  have e : (decide (1 ≤ s.k ∧ s.k ≤ 64) && (inB s.ol && inB s.nw)) = true := by
    unfold inB
    simp only [Bool.and_eq_true, Bool.or_eq_false_iff, decide_eq_true_eq, decide_eq_false_iff_not] at h1 ⊢
    omega
  clear h1
  refine awp_skip ?_
  refine awp_seq ?_
  refine awp_seq ?_
  refine awpF_region ?_; intro K hK; simp only [push_cast, seval]; (try simp (disch := omega) only [wrapI]); (repeat ((with_reducible refine And.intro ?_ ?_); (focus (exact ob1)))); refine hK _ ?_; clear hK; clear K
  apply awp_cond; (focus (simp only [push_cast, seval]; rfl))
  · intro h2; (try simp only [decide_eq_true_eq, decide_eq_false_iff_not, Bool.not_eq_true', Bool.not_eq_false', Bool.and_eq_true, Bool.or_eq_true, Bool.not_eq_true] at h2)
    refine awp_seq ?_
    refine awpF_region ?_; intro K hK; simp only [push_cast, seval]; (try simp (disch := omega) only [wrapI]); (repeat ((with_reducible refine And.intro ?_ ?_); (focus (exact ob1)))); refine hK _ ?_; clear hK; clear K
    refine awp_ret ?_; (repeat (first | refine then_ret ?_ | refine inblock_ret ?_)); refine fin_of (by simp only [push_cast, seval]; first | done | rfl) ob1 ?_
    unfold chkS
    rw [e, if_pos rfl, if_pos (by simpa using h2)]
  intro h2; (try simp only [decide_eq_true_eq, decide_eq_false_iff_not, Bool.not_eq_true', Bool.not_eq_false', Bool.and_eq_true, Bool.or_eq_true, Bool.not_eq_true] at h2)
  have e2 : ¬ s.ol = s.nw := by simpa using h2
  clear h2
  refine awp_skip ?_
  refine awp_seq ?_
  refine awpF_region ?_; intro K hK; simp only [push_cast, seval]
  refine CallK.pd (h40) ?_; simp only [push_cast, seval]; (try simp (disch := omega) only [wrapI]); (repeat ((with_reducible refine And.intro ?_ ?_); (focus (exact ob1))))
  refine hK _ ?_; clear hK; clear K
  refine awp_seq ?_
  refine awp_seq ?_
  refine awpF_region ?_; intro K hK; simp only [push_cast, seval]; (try simp (disch := omega) only [wrapI]); (repeat ((with_reducible refine And.intro ?_ ?_); (focus (exact ob1)))); refine hK _ ?_; clear hK; clear K
  apply awp_cond; (focus (simp only [push_cast, seval]; rfl))
  · intro h3; (try simp only [decide_eq_true_eq, decide_eq_false_iff_not, Bool.not_eq_true', Bool.not_eq_false', Bool.and_eq_true, Bool.or_eq_true, Bool.not_eq_true] at h3)
    refine awp_seq ?_
    refine awpF_region ?_; intro K hK; simp only [push_cast, seval]; (try simp (disch := omega) only [wrapI]); (repeat ((with_reducible refine And.intro ?_ ?_); (focus (exact ob1)))); refine hK _ ?_; clear hK; clear K
    refine awp_ret ?_; (repeat (first | refine then_ret ?_ | refine inblock_ret ?_)); refine fin_of (by simp only [push_cast, seval]; first | done | rfl) ob1 ?_
    unfold chkS
    rw [e, if_pos rfl, if_neg e2, if_neg (by simpa using h3)]
  intro h3; (try simp only [decide_eq_true_eq, decide_eq_false_iff_not, Bool.not_eq_true', Bool.not_eq_false', Bool.and_eq_true, Bool.or_eq_true, Bool.not_eq_true] at h3)
  have e3 : stgsC s.ps = 0 := by simpa using h3
  have hc : chkS s = (if phB s.ph then (if cntB s then (if s.gt < leO s ∨ (s.gt = leO s ∧ s.ph ≠ 1) then 0 else 10) else 10) else 4) := by
    unfold chkS
    rw [e, if_pos rfl, if_neg e2, if_pos e3]
  rw [hc]
  clear hc h3
  refine awp_skip ?_
  refine awp_seq ?_
  refine awp_seq ?_
  refine awpF_region ?_; intro K hK; simp only [push_cast, seval, bif_or]
  repeat (refine ⟨fun h => by rw [h]; rfl, ?_⟩)
  refine hK _ ?_; clear hK; clear K
  apply awp_cond; (focus (simp only [push_cast, seval]; rfl))
  · intro h4
    refine awp_seq ?_
    refine awpF_region ?_; intro K hK; simp only [push_cast, seval]; (try simp (disch := omega) only [wrapI]); (repeat ((with_reducible refine And.intro ?_ ?_); (focus (exact ob1)))); refine hK _ ?_; clear hK; clear K
    refine awp_ret ?_; (repeat (first | refine then_ret ?_ | refine inblock_ret ?_)); refine fin_of (by simp only [push_cast, seval]; first | done | rfl) ob1 ?_
    rw [if_neg (by unfold phB; simp only [Bool.or_eq_true, decide_eq_true_eq] at h4 ⊢; omega)]
  intro h4
  rw [if_pos (show phB s.ph = true by unfold phB; simp only [Bool.or_eq_false_iff, decide_eq_false_iff_not, decide_eq_true_eq] at h4 ⊢; omega)]
  clear h4
  refine awp_skip ?_
  refine awp_seq ?_
  refine awp_seq ?_
  refine awpF_region ?_; intro K hK; simp only [push_cast, seval, bif_or]
  repeat (refine ⟨fun h => by rw [h]; rfl, ?_⟩)
  refine hK _ ?_; clear hK; clear K
  apply awp_cond; (focus (simp only [push_cast, seval]; rfl))
  · intro h5
    refine awp_seq ?_
    refine awpF_region ?_; intro K hK; simp only [push_cast, seval]; (try simp (disch := omega) only [wrapI]); (repeat ((with_reducible refine And.intro ?_ ?_); (focus (exact ob1)))); refine hK _ ?_; clear hK; clear K
    refine awp_ret ?_; (repeat (first | refine then_ret ?_ | refine inblock_ret ?_)); refine fin_of (by simp only [push_cast, seval]; first | done | rfl) ob1 ?_
    rw [if_neg (by unfold cntB; simp only [Bool.or_eq_true, decide_eq_true_eq] at h5 ⊢; omega)]
  intro h5
  have e5 : cntB s = true := by unfold cntB; simp only [Bool.or_eq_false_iff, decide_eq_false_iff_not, decide_eq_true_eq] at h5 ⊢; omega
  rw [if_pos e5]
  clear h5
  simp only [cntB, decide_eq_true_eq] at e5
  obtain ⟨t, ht⟩ : ∃ t : Nat, s.st = t := ⟨s.st.toNat, by omega⟩
  have htl : t < s.ps.length := by omega
  have g1 : (s.ps.map encG)[t]? = some (encG (s.ps[t]'htl)) := by rw [List.getElem?_map, List.getElem?_eq_getElem htl]; rfl
  have hle : leO s = (s.ps[t]'htl).le := by
    unfold leO
    rw [ht, Int.toNat_natCast, List.getElem?_eq_getElem htl]; rfl
  rw [hle]
  simp only [encG] at g1
  refine awp_skip ?_
  refine awp_seq ?_
  rw [ht]
  refine awpF_region ?_; intro K hK; simp only [push_cast, seval, g1, Int.toNat_natCast]
  repeat (with_reducible refine And.intro ?_ ?_; (focus (first | exact hq | omega)))
  refine hK _ ?_; clear hK; clear K
  refine awp_seq ?_
  refine awp_seq ?_
  refine awpF_region ?_; intro K hK; simp only [push_cast, seval, bif_or, bif_and]
  refine ⟨fun h => ⟨h, fun h2 => by rw [h, h2]; rfl⟩, fun h => by rw [h]; rfl, ?_⟩
  refine hK _ ?_; clear hK; clear K
  generalize (s.ps[t]'htl).le = le
  apply awp_cond; (focus (simp only [push_cast, seval]; rfl))
  · intro h6
    refine awp_seq ?_
    refine awpF_region ?_; intro K hK; simp only [push_cast, seval]; (try simp (disch := omega) only [wrapI]); (repeat ((with_reducible refine And.intro ?_ ?_); (focus (exact ob1)))); refine hK _ ?_; clear hK; clear K
    refine awp_ret ?_; (repeat (first | refine then_ret ?_ | refine inblock_ret ?_)); refine fin_of (by simp only [push_cast, seval]; first | done | rfl) ob1 ?_
    rw [if_neg (by simp only [Bool.or_eq_true, Bool.and_eq_true, decide_eq_true_eq, beq_iff_eq] at h6; omega)]
  intro h6
  refine awp_skip ?_
  refine awp_seq ?_
  refine awpF_region ?_; intro K hK; simp only [push_cast, seval]; (try simp (disch := omega) only [wrapI]); (repeat ((with_reducible refine And.intro ?_ ?_); (focus (exact ob1)))); refine hK _ ?_; clear hK; clear K
  refine awp_ret ?_; (repeat (first | refine then_ret ?_ | refine inblock_ret ?_)); refine fin_of (by simp only [push_cast, seval]; first | done | rfl) ob1 ?_
  rw [if_pos (by simp only [Bool.or_eq_false_iff, Bool.and_eq_false_iff, decide_eq_false_iff_not, beq_eq_false_iff_ne] at h6; omega)]

end Go.Aw
