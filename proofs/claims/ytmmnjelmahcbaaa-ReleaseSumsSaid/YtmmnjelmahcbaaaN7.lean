/-
  Contract of the cases by failures. Conditions: at most 60 runs, a valid rate.
-/
import Derived.Test.YtmmnjelmahcbaaaN6
import Derived.Test.YtmmnjelmahcbaaaRlA
namespace Go.Aw
set_option linter.unusedSimpArgs false
set_option linter.unusedVariables false
open Go.RowKit Go.Proofs Go.Nt Go.Rl

def rowN (g : Nat → Nat) (m : Nat) : List (List D) := (List.range m).map fun k => [(Go.Aw.D.sl ((digs B64 (g k)).map encW))]
theorem rowN_len (g : Nat → Nat) (m : Nat) : (rowN g m).length = m := by simp [rowN]
theorem rowN_get (g : Nat → Nat) {m j : Nat} (h : j < m) : (rowN g m)[j]? = some [(Go.Aw.D.sl ((digs B64 (g j)).map encW))] := by simp [rowN, h]
theorem rowN_set (g : Nat → Nat) (m j v : Nat) : (rowN g m).set j [(Go.Aw.D.sl ((digs B64 (v)).map encW))] = rowN (fun k => if k = j then v else g k) m := by
  apply List.ext_getElem
  · simp [rowN]
  · intro i h1 h2
    simp only [rowN, List.getElem_set, List.getElem_map, List.getElem_range]
    split
    · rename_i h; subst h; simp
    · rename_i h; rw [if_neg (Ne.symm h)]
theorem rowN_zero (m : Nat) : List.replicate m [D.sl []] = rowN (fun _ => 0) m := by
  apply List.ext_getElem
  · simp [rowN]
  · intro i h1 h2
    simp [rowN, digs_zero]
theorem rowN_row {g : Nat → Nat} {m : Nat} {row : List D} (h : row ∈ rowN g m) : row.length = 1 ∧ row.all D.leaf = true := by
  obtain ⟨x, _, rfl⟩ := List.mem_map.1 h; exact ⟨rfl, rfl⟩
theorem rowN_congr {g g' : Nat → Nat} {m : Nat} (h : ∀ k, k < m → g k = g' k) : rowN g m = rowN g' m := by
  apply List.map_congr_left
  intro k hk
  rw [h k (List.mem_range.1 hk)]

/-- The next row while it is made. -/
def mk (p q n j k : Nat) : Nat := if k < j then cs p q (n + 1) k else if k = j then (match j with | 0 => 0 | i + 1 => p * cs p q n i) else 0

theorem cs_le (p q n k : Nat) : cs p q n k ≤ (p + q) ^ n := by
  have h1 : lo p q n (k + 1) = lo p q n k + cs p q n k := rfl
  have h2 := lo_le p q n (k + 1)
  omega

theorem mk_step (p q n j : Nat) : mk p q n j j + cs p q n j * q = cs p q (n + 1) j := by
  unfold mk
  rw [if_neg (Nat.lt_irrefl _), if_pos rfl]
  cases j with
  | zero => simp only [cs]; rw [Nat.zero_add, Nat.mul_comm]
  | succ i => simp only [cs]; rw [Nat.add_comm, Nat.mul_comm]
theorem mk_next (p q n j m : Nat) : rowN (fun k => if k = j + 1 then cs p q n j * p else if k = j then cs p q (n + 1) j else mk p q n j k) m = rowN (mk p q n (j + 1)) m := by
  apply rowN_congr
  intro k _
  unfold mk
  by_cases h1 : k = j + 1
  · subst h1; simp [Nat.mul_comm]
  · rw [if_neg h1]
    by_cases h2 : k = j
    · subst h2; simp
    · rw [if_neg h2]
      by_cases h3 : k < j
      · rw [if_pos h3, if_pos (by omega)]
      · rw [if_neg h3, if_neg (by omega), if_neg (by omega), if_neg (by omega)]
theorem mk_all (p q n : Nat) : rowN (mk p q n (n + 1)) (n + 2) = rowN (cs p q (n + 1)) (n + 2) := by
  apply rowN_congr
  intro k hk
  unfold mk
  by_cases h : k < n + 1
  · rw [if_pos h]
  · obtain rfl : k = n + 1 := by omega
    rw [if_neg h, if_pos rfl]
    simp only [cs]
    rw [cs_big p q n (n + 1) (by omega)]; simp

theorem p65 (n f d : Nat) (hn : n ≤ 60) (hf : f ≤ d) (hd : d ≤ 1000) : PD Try.prog 65 [.int .i64 n, .agg [.int .i64 f, .int .i64 d]] (.d (.sl (rowN (cs f (d - f) n) (n + 1)))) := by
  have h92 := p92 1 (by decide)
  obtain ⟨q, hq⟩ : ∃ q, d - f = q := ⟨_, rfl⟩
  rw [hq]
  have hdq : d = f + q := by omega
  have hwq : IntKind.u64.wrap (IntKind.i64.wrap ((d : Int) - f)) = q := by rw [wrapI _ (by omega), show (d : Int) - f = q by omega]; exact uwn q (by omega)
  have hwf : IntKind.u64.wrap (f : Int) = f := uwn f (by omega)
  have hfit : ∀ a b : Nat, a ≤ 60 → nw (cs f q a b) ≤ 10 := fun a b ha => Nat.le_trans (nw_mono (cs_le f q a b)) (nw_pow (by omega) ha)
  show PD Try.prog 65 _ (ofD (.sl (rowN (cs f (q) n) (n + 1))))
  refine pdd_of (fn := Try.f65) [.tmp 4] (by kernel_rfl) rfl (by kernel_rfl) (Nat.le_of_ble_eq_true rfl) (by kernel_rfl) rfl ?_
  refine awp_seq ?_
  refine awpF_region ?_; intro K hK; simp only [push_cast, seval]; (try simp (disch := omega) only [wrapI]); (repeat ((with_reducible refine And.intro ?_ ?_); (focus (first | omega | trivial | assumption | (intro _ hrow; obtain ⟨_, _, rfl⟩ := List.mem_map.1 hrow; rfl) | ((intros; repeat' apply And.intro) <;> first | omega | trivial | assumption | (intro _ hrow; obtain ⟨_, _, rfl⟩ := List.mem_map.1 hrow; rfl) | (simp_all; done) | (simp_all; omega)))))); refine hK _ ?_; clear hK; clear K
  refine awp_seq ?_
  refine awpF_region ?_; intro K hK; simp only [push_cast, seval]
  refine CallK.pd (h92) ?_; simp only [push_cast, seval]; (try simp (disch := omega) only [wrapI]); (repeat ((with_reducible refine And.intro ?_ ?_); (focus (first | omega | trivial | assumption | (intro _ hrow; obtain ⟨_, _, rfl⟩ := List.mem_map.1 hrow; rfl) | ((intros; repeat' apply And.intro) <;> first | omega | trivial | assumption | (intro _ hrow; obtain ⟨_, _, rfl⟩ := List.mem_map.1 hrow; rfl) | (simp_all; done) | (simp_all; omega))))))
  (repeat ((with_reducible refine And.intro ?_ ?_); (focus (first | omega | trivial | assumption | (intro _ hrow; obtain ⟨_, _, rfl⟩ := List.mem_map.1 hrow; rfl) | ((intros; repeat' apply And.intro) <;> first | omega | trivial | assumption | (intro _ hrow; obtain ⟨_, _, rfl⟩ := List.mem_map.1 hrow; rfl) | (simp_all; done) | (simp_all; omega))))))
  refine hK _ ?_; clear hK; clear K
  refine awp_seq ?_
  refine awp_seq ?_
  refine awpF_region ?_; intro K hK; simp only [push_cast, seval]; (try simp (disch := omega) only [wrapI]); (repeat ((with_reducible refine And.intro ?_ ?_); (focus (first | omega | trivial | assumption | (intro _ hrow; obtain ⟨_, _, rfl⟩ := List.mem_map.1 hrow; rfl) | ((intros; repeat' apply And.intro) <;> first | omega | trivial | assumption | (intro _ hrow; obtain ⟨_, _, rfl⟩ := List.mem_map.1 hrow; rfl) | (simp_all; done) | (simp_all; omega)))))); refine hK _ ?_; clear hK; clear K
  refine awp_block ?_
  refine awp_loopP (st := fun (m : Nat) => ⟨[(3, .ptr 0 0 0), (5, .ref 1 0 (m + 1)), (11, .d (.int .i64 n)), (12, .d (.int .i64 m))], [.cells [.d (.int .i64 f), .d (.int .i64 d)], .data 1 (rowN (cs f (q) m) (m + 1))]⟩) (inv := fun m => m ≤ n) (μ := fun m => n - m) (x0 := 0) (r0 := [0, 1]) ?_ ?_ ?_
  · exact Nat.zero_le _
  · rw [show rowN (cs f (q) 0) (0 + 1) = [[(Go.Aw.D.sl ((digs B64 (1)).map encW))]] from rfl]
    exact ⟨by simp, by simp, by simp [push_cast, seval], by simp [push_cast, seval], by simp [push_cast, seval], by simp [push_cast, seval]⟩
  intro m hm
  refine awp_seq ?_
  refine awpF_region ?_; intro K hK; simp only [push_cast, seval]; (try simp (disch := omega) only [wrapI]); (repeat ((with_reducible refine And.intro ?_ ?_); (focus (first | omega | trivial | assumption | (intro _ hrow; obtain ⟨_, _, rfl⟩ := List.mem_map.1 hrow; rfl) | ((intros; repeat' apply And.intro) <;> first | omega | trivial | assumption | (intro _ hrow; obtain ⟨_, _, rfl⟩ := List.mem_map.1 hrow; rfl) | (simp_all; done) | (simp_all; omega)))))); refine hK _ ?_; clear hK; clear K
  refine awp_seq ?_
  apply awp_cond; (focus (simp only [push_cast, seval]; rfl))
  · intro h1; (try simp only [decide_eq_true_eq, decide_eq_false_iff_not, Bool.not_eq_true', Bool.not_eq_false', Bool.and_eq_true, Bool.or_eq_true, Bool.not_eq_true] at h1)
    refine awp_skip ?_
    refine awp_seq ?_
    refine awp_block ?_
    refine awp_seq ?_
    have hw : IntKind.i64.wrap ((m : Int) + 1 + 1) = (m : Int) + 2 := (wrapI _ (by omega)).trans (by omega)
    have htn : ((m : Int) + 2).toNat = m + 2 := by omega
    refine awpF_region ?_; intro K hK; simp only [push_cast, seval, rowN_len, hw, htn]
    (repeat ((with_reducible refine And.intro ?_ ?_); (focus (first | omega | trivial | assumption | (intro _ hrow; obtain ⟨_, _, rfl⟩ := List.mem_map.1 hrow; rfl) | ((intros; repeat' apply And.intro) <;> first | omega | trivial | assumption | (intro _ hrow; obtain ⟨_, _, rfl⟩ := List.mem_map.1 hrow; rfl) | (simp_all; done) | (simp_all; omega))))))
    rw [rowN_zero]
    refine hK _ ?_; clear hK; clear K
    refine awp_seq ?_
    refine awp_seq ?_
    refine awpF_region ?_; intro K hK; simp only [push_cast, seval]; (try simp (disch := omega) only [wrapI]); (repeat ((with_reducible refine And.intro ?_ ?_); (focus (first | omega | trivial | assumption | (intro _ hrow; obtain ⟨_, _, rfl⟩ := List.mem_map.1 hrow; rfl) | ((intros; repeat' apply And.intro) <;> first | omega | trivial | assumption | (intro _ hrow; obtain ⟨_, _, rfl⟩ := List.mem_map.1 hrow; rfl) | (simp_all; done) | (simp_all; omega)))))); refine hK _ ?_; clear hK; clear K
    refine awp_block ?_
    refine awp_loopP (st := fun (j : Nat) => ⟨[(3, .ptr 0 0 0), (6, .ref 2 0 (m + 2)), (11, .d (.int .i64 n)), (12, .d (.int .i64 m)), (18, .ref 1 0 (m + 1)), (19, .d (.int .i64 ((m + 1 : Nat) : Int))), (20, .d (.int .i64 j))],
      [.cells [.d (.int .i64 f), .d (.int .i64 d)], .data 1 (rowN (cs f (q) m) (m + 1)), .data 1 (rowN (mk f (q) m j) (m + 2))]⟩) (inv := fun j => j ≤ m + 1) (μ := fun j => m + 1 - j) (x0 := 0) (r0 := [0, 1, 2]) ?_ ?_ ?_
    · exact Nat.zero_le _
    · rw [rowN_congr (g := fun _ => 0) (g' := mk f (q) m 0) (fun k _ => by unfold mk; cases k <;> simp)]
      exact ⟨by simp, by simp, by simp [push_cast, seval], by simp [push_cast, seval], by simp [push_cast, seval], by simp [push_cast, seval]⟩
    intro j hj
    refine awp_seq ?_
    refine awpF_region ?_; intro K hK; simp only [push_cast, seval]; (try simp (disch := omega) only [wrapI]); (repeat ((with_reducible refine And.intro ?_ ?_); (focus (first | omega | trivial | assumption | (intro _ hrow; obtain ⟨_, _, rfl⟩ := List.mem_map.1 hrow; rfl) | ((intros; repeat' apply And.intro) <;> first | omega | trivial | assumption | (intro _ hrow; obtain ⟨_, _, rfl⟩ := List.mem_map.1 hrow; rfl) | (simp_all; done) | (simp_all; omega)))))); refine hK _ ?_; clear hK; clear K
    refine awp_seq ?_
    apply awp_cond; (focus (simp only [push_cast, seval]; rfl))
    · intro h2; (try simp only [decide_eq_true_eq, decide_eq_false_iff_not, Bool.not_eq_true', Bool.not_eq_false', Bool.and_eq_true, Bool.or_eq_true, Bool.not_eq_true] at h2)
      refine awp_skip ?_
      have hlt : j < m + 1 := by omega
      have g1 := rowN_get (cs f (q) m) hlt
      have g2 := rowN_get (mk f (q) m j) (m := m + 2) (j := j) (by omega)
      have hst := mk_step f q m j
      have h56 := p56 (cs f q m j) q (Nat.le_trans (hfit m j (by omega)) (by decide)) (by omega)
      have h57 := p56 (cs f q m j) f (Nat.le_trans (hfit m j (by omega)) (by decide)) (by omega)
      have h67 := p67 (mk f q m j j) (cs f q m j * q) (Nat.le_trans (nw_mono (show mk f q m j j ≤ cs f q (m + 1) j by omega)) (Nat.le_trans (hfit (m + 1) j (by omega)) (by decide))) (Nat.le_trans (nw_mono (show cs f q m j * q ≤ cs f q (m + 1) j by omega)) (Nat.le_trans (hfit (m + 1) j (by omega)) (by decide)))
      rw [hst] at h67
      have hwj : IntKind.i64.wrap ((j : Int) + 1) = (j : Int) + 1 := wrapI _ (by omega)
      have htj : ((j : Int) + 1).toNat = j + 1 := by omega
      refine awp_seq ?_
      refine awp_block ?_
      refine awp_seq ?_
      refine awpF_region ?_; intro K hK; simp only [push_cast, seval, rowN_len, g1, Int.toNat_natCast]; (try simp (disch := omega) only [wrapI]); (repeat ((with_reducible refine And.intro ?_ ?_); (focus (first | omega | trivial | assumption | (intro _ hrow; obtain ⟨_, _, rfl⟩ := List.mem_map.1 hrow; rfl) | ((intros; repeat' apply And.intro) <;> first | omega | trivial | assumption | (intro _ hrow; obtain ⟨_, _, rfl⟩ := List.mem_map.1 hrow; rfl) | (simp_all; done) | (simp_all; omega)))))); refine hK _ ?_; clear hK; clear K
      refine awp_seq ?_
      refine awpF_draw [0,1,2,3,4,5,6,7,8,9,10,11,12,13,14,15,16] (by kernel_rfl) (by kernel_rfl) rfl ?_; intro K hK; simp only [push_cast, seval, rowN_len, g2, hwq, Int.toNat_natCast]
      (repeat ((with_reducible refine And.intro ?_ ?_); (focus (first | omega | trivial | assumption | (intro _ hrow; obtain ⟨_, _, rfl⟩ := List.mem_map.1 hrow; rfl) | ((intros; repeat' apply And.intro) <;> first | omega | trivial | assumption | (intro _ hrow; obtain ⟨_, _, rfl⟩ := List.mem_map.1 hrow; rfl) | (simp_all; done) | (simp_all; omega))))))
      refine CallK.pd (h56) ?_; simp only [push_cast, seval]; (try simp (disch := omega) only [wrapI]); (repeat ((with_reducible refine And.intro ?_ ?_); (focus (first | omega | trivial | assumption | (intro _ hrow; obtain ⟨_, _, rfl⟩ := List.mem_map.1 hrow; rfl) | ((intros; repeat' apply And.intro) <;> first | omega | trivial | assumption | (intro _ hrow; obtain ⟨_, _, rfl⟩ := List.mem_map.1 hrow; rfl) | (simp_all; done) | (simp_all; omega))))))
      refine CallK.pd (h67) ?_; simp only [push_cast, seval]; (try simp (disch := omega) only [wrapI]); (repeat ((with_reducible refine And.intro ?_ ?_); (focus (first | omega | trivial | assumption | (intro _ hrow; obtain ⟨_, _, rfl⟩ := List.mem_map.1 hrow; rfl) | ((intros; repeat' apply And.intro) <;> first | omega | trivial | assumption | (intro _ hrow; obtain ⟨_, _, rfl⟩ := List.mem_map.1 hrow; rfl) | (simp_all; done) | (simp_all; omega))))))
      refine hK _ ?_; clear hK; clear K
      rw [rowN_set]
      refine awpF_region ?_; intro K hK; simp only [push_cast, seval, rowN_len, hwf, hwj, htj]
      refine CallK.pd h57 ?_
      simp only [push_cast, seval, rowN_len, hwj, htj]
      (repeat ((with_reducible refine And.intro ?_ ?_); (focus (first | omega | trivial | assumption | (intro _ hrow; obtain ⟨_, _, rfl⟩ := List.mem_map.1 hrow; rfl) | ((intros; repeat' apply And.intro) <;> first | omega | trivial | assumption | (intro _ hrow; obtain ⟨_, _, rfl⟩ := List.mem_map.1 hrow; rfl) | (simp_all; done) | (simp_all; omega))))))
      rw [rowN_set, mk_next]
      refine hK _ ?_; clear hK; clear K
      refine inblock_norm ?_
      refine awpF_region ?_; intro K hK; simp only [push_cast, seval]; (try simp (disch := omega) only [wrapI]); (repeat ((with_reducible refine And.intro ?_ ?_); (focus (first | omega | trivial | assumption | (intro _ hrow; obtain ⟨_, _, rfl⟩ := List.mem_map.1 hrow; rfl) | ((intros; repeat' apply And.intro) <;> first | omega | trivial | assumption | (intro _ hrow; obtain ⟨_, _, rfl⟩ := List.mem_map.1 hrow; rfl) | (simp_all; done) | (simp_all; omega)))))); refine hK _ ?_; clear hK; clear K
      refine round_end (y := j + 1) (r := [0, 1, 2]) (by omega) (by omega) ?_
      exact ⟨by simp, by simp, by simp [push_cast, seval], by simp [push_cast, seval], by simp [push_cast, seval], by simp [push_cast, seval]⟩
    · intro h2; (try simp only [decide_eq_true_eq, decide_eq_false_iff_not, Bool.not_eq_true', Bool.not_eq_false', Bool.and_eq_true, Bool.or_eq_true, Bool.not_eq_true] at h2)
      refine awp_exit ?_; (repeat (first | refine then_exit ?_ | refine inblock_other (by decide) ?_)); refine inblock_same ?_
      rw [show j = m + 1 by omega, mk_all]
      refine awpF_region ?_; intro K hK; simp only [push_cast, seval]; (try simp (disch := omega) only [wrapI]); (repeat ((with_reducible refine And.intro ?_ ?_); (focus (first | omega | trivial | assumption | (intro _ hrow; obtain ⟨_, _, rfl⟩ := List.mem_map.1 hrow; rfl) | ((intros; repeat' apply And.intro) <;> first | omega | trivial | assumption | (intro _ hrow; obtain ⟨_, _, rfl⟩ := List.mem_map.1 hrow; rfl) | (simp_all; done) | (simp_all; omega)))))); refine hK _ ?_; clear hK; clear K
      refine inblock_norm ?_
      refine awpF_region ?_; intro K hK; simp only [push_cast, seval]; (try simp (disch := omega) only [wrapI]); (repeat ((with_reducible refine And.intro ?_ ?_); (focus (first | omega | trivial | assumption | (intro _ hrow; obtain ⟨_, _, rfl⟩ := List.mem_map.1 hrow; rfl) | ((intros; repeat' apply And.intro) <;> first | omega | trivial | assumption | (intro _ hrow; obtain ⟨_, _, rfl⟩ := List.mem_map.1 hrow; rfl) | (simp_all; done) | (simp_all; omega)))))); refine hK _ ?_; clear hK; clear K
      refine round_end (y := m + 1) (r := [0, 2]) (by omega) (by omega) ?_
      exact ⟨by simp, by simp, by simp [push_cast, seval], by simp [push_cast, seval], by simp [push_cast, seval], by simp [push_cast, seval]⟩
  · intro h1; (try simp only [decide_eq_true_eq, decide_eq_false_iff_not, Bool.not_eq_true', Bool.not_eq_false', Bool.and_eq_true, Bool.or_eq_true, Bool.not_eq_true] at h1)
    refine awp_exit ?_; (repeat (first | refine then_exit ?_ | refine inblock_other (by decide) ?_)); refine inblock_same ?_
    refine awp_seq ?_
    refine awpF_region ?_; intro K hK; simp only [push_cast, seval]; (try simp (disch := omega) only [wrapI]); (repeat ((with_reducible refine And.intro ?_ ?_); (focus (first | omega | trivial | assumption | (intro _ hrow; obtain ⟨_, _, rfl⟩ := List.mem_map.1 hrow; rfl) | ((intros; repeat' apply And.intro) <;> first | omega | trivial | assumption | (intro _ hrow; obtain ⟨_, _, rfl⟩ := List.mem_map.1 hrow; rfl) | (simp_all; done) | (simp_all; omega)))))); refine hK _ ?_; clear hK; clear K
    refine awp_ret ?_; (repeat (first | refine then_ret ?_ | refine inblock_ret ?_)); refine fin_of (by simp only [push_cast, seval]; first | done | rfl) (by first | trivial | first | omega | trivial | assumption | (intro _ hrow; obtain ⟨_, _, rfl⟩ := List.mem_map.1 hrow; rfl) | ((intros; repeat' apply And.intro) <;> first | omega | trivial | assumption | (intro _ hrow; obtain ⟨_, _, rfl⟩ := List.mem_map.1 hrow; rfl) | (simp_all; done) | (simp_all; omega))) ?_
    have := Deep.data (H := [Blk.cells [V.d (D.int IntKind.i64 ↑f), V.d (D.int IntKind.i64 ↑d)], Blk.data 1 (rowN (cs f (q) m) (m + 1))]) 1 0 (m + 1) 1 (rowN (cs f (q) m) (m + 1)) rfl (by rw [rowN_len]; omega)
    rw [List.drop_zero, List.take_of_length_le (by rw [rowN_len]; exact Nat.le_refl _)] at this
    rw [show n = m by omega]
    exact this

end Go.Aw
