/-
  Contracts of heap.up and heap.down over an own heap of far points. Conditions: lengths that fit.
-/
import Derived.Test.YtecindhbaekncaaGreatPxF4
namespace Go.Aw
set_option linter.unusedSimpArgs false
set_option linter.unusedVariables false
open Go.RowKit Go.Proofs Go.Heap

theorem m_u : Tryz.prog.underlying 72 = some (.pointer 74) := by kernel_rfl
theorem m_len : methodAt Tryz.prog 72 "Len" = some (36, false) := by kernel_rfl
theorem m_less : methodAt Tryz.prog 72 "Less" = some (120, false) := by kernel_rfl
theorem m_swap : methodAt Tryz.prog 72 "Swap" = some (123, false) := by kernel_rfl
theorem m_push : methodAt Tryz.prog 72 "Push" = some (122, true) := by kernel_rfl
theorem m_pop : methodAt Tryz.prog 72 "Pop" = some (121, true) := by kernel_rfl

theorem p106 (l : List Fa) (X : List (List D)) (j : Nat) (hj : j < l.length) (hl : l.length ≤ 2 ^ 40) : AC Tryz.prog 59 [.iface 72 (.ptr 0 0 0), .d (.int .i64 j)] (HF l X) [0, 1] fun x H' => x = .tup [] ∧ H' = HF (up befF l j) X := by
  refine ac_ofF (fn := Tryz.f59) [] (by kernel_rfl) rfl (by kernel_rfl) (Nat.le_of_ble_eq_true rfl) (by kernel_rfl) rfl ?_
  refine awp_block ?_
  refine awp_loopP (α := List Fa × Nat) (st := fun q => ⟨[(0, .iface 72 (.ptr 0 0 0)), (1, .d (.int .i64 q.2))], HF q.1 X⟩)
    (inv := fun q => q.2 < q.1.length ∧ q.1.length = l.length ∧ up befF q.1 q.2 = up befF l j) (μ := fun q => q.2) (x0 := (l, j)) (r0 := [0, 1]) ⟨hj, rfl, rfl⟩ ?_ ?_
  · rw [HF]
    exact ⟨by simp, by simp, by simp [push_cast, seval], by simp [push_cast, seval], by simp [push_cast, seval], by simp [push_cast, seval]⟩
  rintro ⟨q, k⟩ ⟨h1, h2, h3⟩
  dsimp only at h1 h2 h3 ⊢
  refine awp_block ?_
  refine awp_seq ?_
  refine awpF_region ?_; intro K hK; simp only [push_cast, seval]; (try simp (disch := omega) only [wrapI]); (repeat ((with_reducible refine And.intro ?_ ?_); (focus (exact ob1)))); refine hK _ ?_; clear hK; clear K
  refine awp_seq ?_
  refine awp_seq ?_
  have h4 : IntKind.i64.wrap (Int.tdiv ((k : Int) - 1) 2) = (((k - 1) / 2 : Nat) : Int) := by
    rcases Nat.eq_zero_or_pos k with rfl | hk
    · rfl
    · rw [show (k : Int) - 1 = ((k - 1 : Nat) : Int) by omega, show ((k - 1 : Nat) : Int).tdiv 2 = (((k - 1) / 2 : Nat) : Int) from rfl]
      exact wrapI _ (by omega)
  have hp : (k - 1) / 2 < q.length := by omega
  have h168 := p168 q X k ((k - 1) / 2) h1 hp
  have h171 := p171 q X ((k - 1) / 2) k hp h1
  have hkp : k = 0 → (k - 1) / 2 = 0 := by rintro rfl; rfl
  have hkp2 : k ≠ 0 → (k - 1) / 2 < k := by omega
  have hup : up befF q k = if h : k = 0 then q else if befF (atF q ((k - 1) / 2)) (atF q k) then up befF (sw q ((k - 1) / 2) k) ((k - 1) / 2) else q := by rw [up]
  have hsl := sw_len q ((k - 1) / 2) k
  rw [h4]
  clear h4
  generalize (k - 1) / 2 = p at *
  by_cases hk : k = 0
  · subst hk
    obtain rfl := hkp rfl
    rw [dif_pos rfl] at hup
    refine awp_regionX 7 rfl ?_
    intro K hK
    simp only [push_cast, seval, beq_self_eq_true, Bool.not_true]
    refine opX2_off (x := .tup []) rfl ?_
    simp only [push_cast, seval, beq_self_eq_true, Bool.not_true]
    (repeat ((with_reducible refine And.intro ?_ ?_); (focus (exact ob1))))
    refine hK _ ?_; clear hK; clear K
    apply awp_cond; (focus (simp only [push_cast, seval]; rfl))
    · intro _
      refine awp_exit ?_; (repeat (first | refine then_exit ?_ | refine inblock_other (by decide) ?_)); refine inblock_same ?_
      refine fin_norm (by simp only [push_cast, seval]; first | done | rfl) trivial ⟨rfl, ?_⟩
      rw [← h3, hup]
    intro h
    cases h
  have hb : ((p : Int) == (k : Int)) = false := by
    have := hkp2 hk
    simp
    omega
  rw [dif_neg hk] at hup
  refine awp_regionX 7 rfl ?_; intro K hK; simp only [push_cast, seval, hb, Bool.not_false]; (try simp (disch := omega) only [wrapI]); (repeat ((with_reducible refine And.intro ?_ ?_); (focus (exact ob1))))
  refine invoke_X (pr := false) (p := True) rfl (by simp only [push_cast, seval]; rfl) trivial m_less m_u (fun _ => ⟨by rw [HF]; simp only [push_cast, seval]; rfl, by simp only [push_cast, seval]⟩) (by simp only [push_cast, seval]) (h168) ?_; rintro _ _ ⟨rfl, rfl⟩; simp only [push_cast, seval]; (try simp (disch := omega) only [wrapI]); (repeat ((with_reducible refine And.intro ?_ ?_); (focus (exact ob1))))
  refine hK _ ?_; clear hK; clear K
  apply awp_cond; (focus (simp only [push_cast, seval]; rfl))
  · intro h5; (try simp only [decide_eq_true_eq, decide_eq_false_iff_not, Bool.not_eq_true', Bool.not_eq_false', Bool.and_eq_true, Bool.or_eq_true, Bool.not_eq_true] at h5)
    rw [if_neg h5] at hup
    refine awp_exit ?_; (repeat (first | refine then_exit ?_ | refine inblock_other (by decide) ?_)); refine inblock_same ?_
    refine fin_norm (by simp only [push_cast, seval]; first | done | rfl) trivial ⟨rfl, ?_⟩
    rw [← h3, hup]
  intro h5; (try simp only [decide_eq_true_eq, decide_eq_false_iff_not, Bool.not_eq_true', Bool.not_eq_false', Bool.and_eq_true, Bool.or_eq_true, Bool.not_eq_true] at h5)
  rw [if_pos h5] at hup
  refine awp_skip ?_
  refine awp_seq ?_
  refine awp_regionX 3 rfl ?_; intro K hK; simp only [push_cast, seval]; (try simp (disch := omega) only [wrapI]); (repeat ((with_reducible refine And.intro ?_ ?_); (focus (exact ob1))))
  refine invoke_X (pr := false) (p := True) rfl (by simp only [push_cast, seval]; rfl) trivial m_swap m_u (fun _ => ⟨by rw [HF]; simp only [push_cast, seval]; rfl, by simp only [push_cast, seval]⟩) (by simp only [push_cast, seval]) (h171) ?_; rintro _ _ ⟨rfl, rfl⟩; simp only [push_cast, seval]; (try simp (disch := omega) only [wrapI]); (repeat ((with_reducible refine And.intro ?_ ?_); (focus (exact ob1))))
  refine hK _ ?_; clear hK; clear K
  refine awpF_region ?_; intro K hK; simp only [push_cast, seval]; (try simp (disch := omega) only [wrapI]); (repeat ((with_reducible refine And.intro ?_ ?_); (focus (exact ob1)))); refine hK _ ?_; clear hK; clear K
  refine inblock_norm ?_
  refine round_endG (sw q p k, p) [0, 1] ⟨hkp2 hk, ⟨by rw [hsl]; exact hp, by rw [hsl, h2], by rw [← h3, hup]⟩, ?_⟩
  rw [HF]
  exact ⟨by simp, by simp, by simp [push_cast, seval], by simp [push_cast, seval], by simp [push_cast, seval], by simp [push_cast, seval]⟩
theorem p107 (l : List Fa) (X : List (List D)) (n : Nat) (hn : n ≤ l.length) (hl : l.length ≤ 2 ^ 40) : AC Tryz.prog 60 [.iface 72 (.ptr 0 0 0), .d (.int .i64 0), .d (.int .i64 n)] (HF l X) [0, 1] fun x H' => (∃ b, x = .d (.bool b)) ∧ H' = HF (down befF l n 0) X := by
  refine ac_ofF (fn := Tryz.f60) [.tmp 6] (by kernel_rfl) rfl (by kernel_rfl) (Nat.le_of_ble_eq_true rfl) (by kernel_rfl) rfl ?_
  refine awp_seq ?_
  refine awpF_region ?_; intro K hK; simp only [push_cast, seval]; (try simp (disch := omega) only [wrapI]); (repeat ((with_reducible refine And.intro ?_ ?_); (focus (exact ob1)))); refine hK _ ?_; clear hK; clear K
  refine awp_seq ?_
  refine awpF_region ?_; intro K hK; simp only [push_cast, seval]; (try simp (disch := omega) only [wrapI]); (repeat ((with_reducible refine And.intro ?_ ?_); (focus (exact ob1)))); refine hK _ ?_; clear hK; clear K
  refine awp_seq ?_
  refine awp_block ?_
  refine awp_loopP (α := List Fa × Nat) (st := fun q => ⟨[(0, .iface 72 (.ptr 0 0 0)), (1, .d (.int .i64 0)), (2, .d (.int .i64 n)), (7, .d (.int .i64 q.2))], HF q.1 X⟩)
    (inv := fun q => q.2 ≤ n ∧ q.1.length = l.length ∧ down befF q.1 n q.2 = down befF l n 0) (μ := fun q => n - q.2) (x0 := (l, 0)) (r0 := [0, 1]) ⟨Nat.zero_le _, rfl, rfl⟩ ?_ ?_
  · rw [HF]
    exact ⟨by simp, by simp, by simp [push_cast, seval], by simp [push_cast, seval], by simp [push_cast, seval], by simp [push_cast, seval]⟩
  rintro ⟨q, k⟩ ⟨h1, h2, h3⟩
  dsimp only at h1 h2 h3 ⊢
  have hd : down befF q n k = if h : 2 * k + 1 < n then if befF (atF q k) (atF q (chd befF q n k)) then down befF (sw q k (chd befF q n k)) n (chd befF q n k) else q else q := by rw [down]
  refine awp_block ?_
  refine awp_seq ?_
  refine awpF_region ?_; intro K hK; simp only [push_cast, seval]; (try simp (disch := omega) only [wrapI]); (repeat ((with_reducible refine And.intro ?_ ?_); (focus (exact ob1)))); refine hK _ ?_; clear hK; clear K
  refine awp_seq ?_
  refine awp_seq ?_
  refine awpF_region ?_; intro K hK; simp only [push_cast, seval]; (try simp (disch := omega) only [wrapI]); (repeat ((with_reducible refine And.intro ?_ ?_); (focus (exact ob1)))); refine hK _ ?_; clear hK; clear K
  apply awp_cond; (focus (simp only [push_cast, seval]; rfl))
  · intro h4; (try simp only [decide_eq_true_eq, decide_eq_false_iff_not, Bool.not_eq_true', Bool.not_eq_false', Bool.and_eq_true, Bool.or_eq_true, Bool.not_eq_true] at h4)
    have h5 : ¬ 2 * k + 1 < n := by
      rw [Bool.cond_eq_ite] at h4
      split at h4
      · rename_i h; simp at h; omega
      · simp at h4; omega
    rw [dif_neg h5] at hd
    refine awp_exit ?_; (repeat (first | refine then_exit ?_ | refine inblock_other (by decide) ?_)); refine inblock_same ?_
    refine awp_seq ?_
    refine awpF_region ?_; intro K hK; simp only [push_cast, seval]; (try simp (disch := omega) only [wrapI]); (repeat ((with_reducible refine And.intro ?_ ?_); (focus (exact ob1)))); refine hK _ ?_; clear hK; clear K
    refine awp_ret ?_; (repeat (first | refine then_ret ?_ | refine inblock_ret ?_)); refine fin_of (by simp only [push_cast, seval]; first | done | rfl) ob1 ?_
    exact ⟨⟨_, rfl⟩, by rw [← h3, hd]⟩
  intro h4; (try simp only [decide_eq_true_eq, decide_eq_false_iff_not, Bool.not_eq_true', Bool.not_eq_false', Bool.and_eq_true, Bool.or_eq_true, Bool.not_eq_true] at h4)
  have h5 : 2 * k + 1 < n := by
    rw [Bool.cond_eq_ite] at h4
    split at h4
    · cases h4
    · rename_i h; simp at h; omega
  clear h4
  rw [dif_pos h5] at hd
  have hc := chd_or befF q n k
  have hcl := chd_lt befF (l := q) h5
  have hcd : chd befF q n k = if 2 * k + 2 < n ∧ befF (atF q (2 * k + 1)) (atF q (2 * k + 2)) then 2 * k + 2 else 2 * k + 1 := rfl
  generalize chd befF q n k = c at *
  refine awp_skip ?_
  refine awp_seq ?_
  refine awpF_region ?_; intro K hK; simp only [push_cast, seval]; (try simp (disch := omega) only [wrapI]); (repeat ((with_reducible refine And.intro ?_ ?_); (focus (exact ob1)))); refine hK _ ?_; clear hK; clear K
  refine awp_mid (fun u => u = ⟨[(0, .iface 72 (.ptr 0 0 0)), (1, .d (.int .i64 0)), (2, .d (.int .i64 n)), (7, .d (.int .i64 k)), (9, .d (.int .i64 c))], HF q X⟩) ?_ ?_
  · refine awp_seq ?_
    refine awpF_region ?_; intro K hK; simp only [push_cast, seval]; (try simp (disch := omega) only [wrapI]); (repeat ((with_reducible refine And.intro ?_ ?_); (focus (exact ob1)))); refine hK _ ?_; clear hK; clear K
    refine awp_seq ?_
    by_cases h6 : 2 * k + 2 < n
    · have h168 := p168 q X (2 * k + 2) (2 * k + 1) (by omega) (by omega)
      have hb : decide (2 * (k : Int) + 1 + 1 < n) = true := decide_eq_true (by omega)
      have e2 : ((2 * k + 2 : Nat) : Int) = 2 * (k : Int) + 1 + 1 := by omega
      have e1 : ((2 * k + 1 : Nat) : Int) = 2 * (k : Int) + 1 := by omega
      rw [e1, e2] at h168
      refine awp_regionX 7 rfl ?_; intro K hK; simp only [push_cast, seval, hb]; (try simp (disch := omega) only [wrapI]); (repeat ((with_reducible refine And.intro ?_ ?_); (focus (exact ob1))))
      refine invoke_X (pr := false) (p := True) rfl (by simp only [push_cast, seval]; rfl) trivial m_less m_u (fun _ => ⟨by rw [HF]; simp only [push_cast, seval]; rfl, by simp only [push_cast, seval]⟩) (by simp only [push_cast, seval]) (h168) ?_; rintro _ _ ⟨rfl, rfl⟩; simp only [push_cast, seval]; (try simp (disch := omega) only [wrapI]); (repeat ((with_reducible refine And.intro ?_ ?_); (focus (exact ob1))))
      refine hK _ ?_; clear hK; clear K
      apply awp_cond; (focus (simp only [push_cast, seval]; rfl))
      · intro h7; (try simp only [decide_eq_true_eq, decide_eq_false_iff_not, Bool.not_eq_true', Bool.not_eq_false', Bool.and_eq_true, Bool.or_eq_true, Bool.not_eq_true] at h7)
        rw [if_pos ⟨h6, h7⟩] at hcd
        refine awpF_region ?_; intro K hK; simp only [push_cast, seval]; (try simp (disch := omega) only [wrapI]); (repeat ((with_reducible refine And.intro ?_ ?_); (focus (exact ob1)))); refine hK _ ?_; clear hK; clear K
        refine mid_end [0, 1] _ rfl ?_
        rw [hcd, e2, HF]
        exact ⟨by simp, by simp, by simp [push_cast, seval], by simp [push_cast, seval], by simp [push_cast, seval], by simp [push_cast, seval]⟩
      · intro h7; (try simp only [decide_eq_true_eq, decide_eq_false_iff_not, Bool.not_eq_true', Bool.not_eq_false', Bool.and_eq_true, Bool.or_eq_true, Bool.not_eq_true] at h7)
        rw [if_neg (fun h => h7 h.2)] at hcd
        refine awp_skip ?_
        refine mid_end [0, 1] _ rfl ?_
        rw [hcd, e1, HF]
        exact ⟨by simp, by simp, by simp [push_cast, seval], by simp [push_cast, seval], by simp [push_cast, seval], by simp [push_cast, seval]⟩
    · have hb : decide (2 * (k : Int) + 1 + 1 < n) = false := decide_eq_false (by omega)
      have e1 : ((2 * k + 1 : Nat) : Int) = 2 * (k : Int) + 1 := by omega
      refine awp_regionX 7 rfl ?_; intro K hK; simp only [push_cast, seval, hb]; (try simp (disch := omega) only [wrapI]); (repeat ((with_reducible refine And.intro ?_ ?_); (focus (exact ob1))))
      refine opX2_off (x := .tup []) rfl ?_
      simp only [push_cast, seval]
      (repeat ((with_reducible refine And.intro ?_ ?_); (focus (exact ob1))))
      refine hK _ ?_; clear hK; clear K
      apply awp_cond; (focus (simp only [push_cast, seval]; rfl))
      · intro h
        cases h
      · intro h7
        rw [if_neg (fun h => h6 h.1)] at hcd
        refine awp_skip ?_
        refine mid_end [0, 1] _ rfl ?_
        rw [hcd, e1, HF]
        exact ⟨by simp, by simp, by simp [push_cast, seval], by simp [push_cast, seval], by simp [push_cast, seval], by simp [push_cast, seval]⟩
  rintro _ rfl
  have h168 := p168 q X c k (by omega) (by omega)
  have h171 := p171 q X k c (by omega) (by omega)
  have hsl := sw_len q k c
  refine awp_seq ?_
  refine awp_seq ?_
  refine awp_regionX 3 rfl ?_; intro K hK; simp only [push_cast, seval]; (try simp (disch := omega) only [wrapI]); (repeat ((with_reducible refine And.intro ?_ ?_); (focus (exact ob1))))
  refine invoke_X (pr := false) (p := True) rfl (by simp only [push_cast, seval]; rfl) trivial m_less m_u (fun _ => ⟨by rw [HF]; simp only [push_cast, seval]; rfl, by simp only [push_cast, seval]⟩) (by simp only [push_cast, seval]) (h168) ?_; rintro _ _ ⟨rfl, rfl⟩; simp only [push_cast, seval]; (try simp (disch := omega) only [wrapI]); (repeat ((with_reducible refine And.intro ?_ ?_); (focus (exact ob1))))
  refine hK _ ?_; clear hK; clear K
  apply awp_cond; (focus (simp only [push_cast, seval]; rfl))
  · intro h8; (try simp only [decide_eq_true_eq, decide_eq_false_iff_not, Bool.not_eq_true', Bool.not_eq_false', Bool.and_eq_true, Bool.or_eq_true, Bool.not_eq_true] at h8)
    rw [if_neg h8] at hd
    refine awp_exit ?_; (repeat (first | refine then_exit ?_ | refine inblock_other (by decide) ?_)); refine inblock_same ?_
    refine awp_seq ?_
    refine awpF_region ?_; intro K hK; simp only [push_cast, seval]; (try simp (disch := omega) only [wrapI]); (repeat ((with_reducible refine And.intro ?_ ?_); (focus (exact ob1)))); refine hK _ ?_; clear hK; clear K
    refine awp_ret ?_; (repeat (first | refine then_ret ?_ | refine inblock_ret ?_)); refine fin_of (by simp only [push_cast, seval]; first | done | rfl) ob1 ?_
    exact ⟨⟨_, rfl⟩, by rw [← h3, hd]⟩
  intro h8; (try simp only [decide_eq_true_eq, decide_eq_false_iff_not, Bool.not_eq_true', Bool.not_eq_false', Bool.and_eq_true, Bool.or_eq_true, Bool.not_eq_true] at h8)
  rw [if_pos h8] at hd
  refine awp_skip ?_
  refine awp_seq ?_
  refine awp_regionX 3 rfl ?_; intro K hK; simp only [push_cast, seval]; (try simp (disch := omega) only [wrapI]); (repeat ((with_reducible refine And.intro ?_ ?_); (focus (exact ob1))))
  refine invoke_X (pr := false) (p := True) rfl (by simp only [push_cast, seval]; rfl) trivial m_swap m_u (fun _ => ⟨by rw [HF]; simp only [push_cast, seval]; rfl, by simp only [push_cast, seval]⟩) (by simp only [push_cast, seval]) (h171) ?_; rintro _ _ ⟨rfl, rfl⟩; simp only [push_cast, seval]; (try simp (disch := omega) only [wrapI]); (repeat ((with_reducible refine And.intro ?_ ?_); (focus (exact ob1))))
  refine hK _ ?_; clear hK; clear K
  refine awpF_region ?_; intro K hK; simp only [push_cast, seval]; (try simp (disch := omega) only [wrapI]); (repeat ((with_reducible refine And.intro ?_ ?_); (focus (exact ob1)))); refine hK _ ?_; clear hK; clear K
  refine inblock_norm ?_
  refine round_endG (sw q k c, c) [0, 1] ⟨by dsimp only; omega, ⟨by dsimp only; omega, by rw [hsl, h2], by rw [← h3, hd]⟩, ?_⟩
  rw [HF]
  exact ⟨by simp, by simp, by simp [push_cast, seval], by simp [push_cast, seval], by simp [push_cast, seval], by simp [push_cast, seval]⟩
end Go.Aw
