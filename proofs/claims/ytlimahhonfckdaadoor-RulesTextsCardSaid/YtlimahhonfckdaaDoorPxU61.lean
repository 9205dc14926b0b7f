/-
  RulesTexts answers true. Conditions: lengths that a call can have.
-/
import Derived.Test.YtlimahhonfckdaaDoorPxU60
namespace Go.Aw
set_option linter.unusedSimpArgs false
set_option linter.unusedVariables false
open Go.RowKit Go.Proofs
set_option maxRecDepth 100000

set_option maxHeartbeats 2000000 in
theorem p8 (f : List Nd) (s : List UInt8) (hf : f.length ≤ 1000000000000000) (hs : s.length ≤ 1000000000000000) : PD Tryd.prog 8 [.sl (f.map encNd), .str (bs s)] (.d (.bool true)) := by
  have h13 := p13
  by_cases h1 : 45 < f.length
  · have hd : decide ((f.length : Int) > 45) = true := decide_eq_true (by omega)
    refine pd_of (fn := Tryd.f8) [.tmp 4] (by kernel_rfl) rfl (by kernel_rfl) (Nat.le_of_ble_eq_true rfl) (by kernel_rfl) rfl rfl ?_
    (repeat' (first | refine awp_seq ?_ | refine awp_skip ?_ | refine awp_block ?_ | ((first | (refine awpF_region ?_; intro K hK) | refine CallK.pd (h13) ?_ | refine CallK.pg (fun _ => h13) ?_); simp only [push_cast, seval, bs_size, hd]; (try simp (disch := omega) only [wrapI]); (repeat ((with_reducible refine And.intro ?_ ?_); (focus (exact ob1))))) | (refine hK _ ?_; clear hK K) | (apply awp_cond; (focus (simp only [push_cast, seval]; rfl))) | (with_reducible intro hb; exfalso; revert hb; simp [bs_size, hd]; done) | (with_reducible intro hb; exfalso; (try simp only [decide_eq_true_eq, decide_eq_false_iff_not, Bool.not_eq_true', Bool.not_eq_false', Bool.and_eq_true, Bool.or_eq_true, Bool.not_eq_true] at hb); omega; done) | (with_reducible intro hb; (try simp only [decide_eq_true_eq, decide_eq_false_iff_not, Bool.not_eq_true', Bool.not_eq_false', Bool.and_eq_true, Bool.or_eq_true, Bool.not_eq_true] at hb)) | (refine awp_exit ?_; (repeat (first | refine then_exit ?_ | refine inblock_other (by decide) ?_)); refine inblock_same ?_) | (refine awp_ret ?_; (repeat (first | refine then_ret ?_ | refine inblock_ret ?_ | refine nogoto_ret ?_)); refine fin_of (by simp only [push_cast, seval, bs_size, hd]; first | done | rfl) ob1 ?_) | (refine inblock_norm ?_)))
    rfl
  have hd1 : decide ((f.length : Int) > 45) = false := decide_eq_false (by omega)
  by_cases h2 : 400 < s.length
  · have hd : decide ((s.length : Int) > 400) = true := decide_eq_true (by omega)
    refine pd_of (fn := Tryd.f8) [.tmp 4] (by kernel_rfl) rfl (by kernel_rfl) (Nat.le_of_ble_eq_true rfl) (by kernel_rfl) rfl rfl ?_
    (repeat' (first | refine awp_seq ?_ | refine awp_skip ?_ | refine awp_block ?_ | ((first | (refine awpF_region ?_; intro K hK) | refine CallK.pd (h13) ?_ | refine CallK.pg (fun _ => h13) ?_); simp only [push_cast, seval, bs_size, hd1, hd]; (try simp (disch := omega) only [wrapI]); (repeat ((with_reducible refine And.intro ?_ ?_); (focus (exact ob1))))) | (refine hK _ ?_; clear hK K) | (apply awp_cond; (focus (simp only [push_cast, seval]; rfl))) | (with_reducible intro hb; exfalso; revert hb; simp [bs_size, hd1, hd]; done) | (with_reducible intro hb; exfalso; (try simp only [decide_eq_true_eq, decide_eq_false_iff_not, Bool.not_eq_true', Bool.not_eq_false', Bool.and_eq_true, Bool.or_eq_true, Bool.not_eq_true] at hb); omega; done) | (with_reducible intro hb; (try simp only [decide_eq_true_eq, decide_eq_false_iff_not, Bool.not_eq_true', Bool.not_eq_false', Bool.and_eq_true, Bool.or_eq_true, Bool.not_eq_true] at hb)) | (refine awp_exit ?_; (repeat (first | refine then_exit ?_ | refine inblock_other (by decide) ?_)); refine inblock_same ?_) | (refine awp_ret ?_; (repeat (first | refine then_ret ?_ | refine inblock_ret ?_ | refine nogoto_ret ?_)); refine fin_of (by simp only [push_cast, seval, bs_size, hd1, hd]; first | done | rfl) ob1 ?_) | (refine inblock_norm ?_)))
    rfl
  have hd2 : decide ((s.length : Int) > 400) = false := decide_eq_false (by omega)
  obtain ⟨t, ht⟩ := tree_ex f 12
  obtain ⟨u, hu⟩ := prs_tree s
  have h35 := p35 f t (by omega) ht
  have h36 := p36 f t (by omega) ht
  have h37 := p37 s u (by omega) hu
  have h38 := p38 s u (by omega) hu
  have hpl := prs_len (l := s) (t := u)
  have h22 := p22 (prsV s u).1 (prsV s u).1 (by omega)
  rw [decide_eq_true rfl] at h22
  generalize (prsV s u).1.map encNd = F at *
  generalize (prsV s u).2 = e2 at *
  generalize chkE f 12 t = e1 at *
  generalize txV f t = tx at *
  have hbb : (bs tx == bs tx) = true := by rw [bs_inj]; simp
  refine pd_of (fn := Tryd.f8) [.tmp 4] (by kernel_rfl) rfl (by kernel_rfl) (Nat.le_of_ble_eq_true rfl) (by kernel_rfl) rfl rfl ?_
  (repeat' (first | refine awp_seq ?_ | refine awp_skip ?_ | refine awp_block ?_ | ((first | (refine awpF_region ?_; intro K hK) | refine CallK.pd (h13) ?_ | refine CallK.pg (fun _ => h13) ?_ | refine CallK.pd (h35) ?_ | refine CallK.pg (fun _ => h35) ?_ | refine CallK.pd (h36) ?_ | refine CallK.pg (fun _ => h36) ?_ | refine CallK.pd (h37) ?_ | refine CallK.pg (fun _ => h37) ?_ | refine CallK.pd (h38) ?_ | refine CallK.pg (fun _ => h38) ?_ | refine CallK.pd (h22) ?_ | refine CallK.pg (fun _ => h22) ?_); simp only [push_cast, seval, bs_size, hd1, hd2, hbb, beq_self_eq_true]; (try simp (disch := omega) only [wrapI]); (repeat ((with_reducible refine And.intro ?_ ?_); (focus (exact ob1))))) | (refine hK _ ?_; clear hK K) | (apply awp_cond; (focus (simp only [push_cast, seval]; rfl))) | (with_reducible intro hb; exfalso; revert hb; simp [bs_size, hd1, hd2, hbb, beq_self_eq_true]; done) | (with_reducible intro hb; exfalso; (try simp only [decide_eq_true_eq, decide_eq_false_iff_not, Bool.not_eq_true', Bool.not_eq_false', Bool.and_eq_true, Bool.or_eq_true, Bool.not_eq_true] at hb); omega; done) | (with_reducible intro hb; (try simp only [decide_eq_true_eq, decide_eq_false_iff_not, Bool.not_eq_true', Bool.not_eq_false', Bool.and_eq_true, Bool.or_eq_true, Bool.not_eq_true] at hb)) | (refine awp_exit ?_; (repeat (first | refine then_exit ?_ | refine inblock_other (by decide) ?_)); refine inblock_same ?_) | (refine awp_ret ?_; (repeat (first | refine then_ret ?_ | refine inblock_ret ?_ | refine nogoto_ret ?_)); refine fin_of (by simp only [push_cast, seval, bs_size, hd1, hd2, hbb, beq_self_eq_true]; first | done | rfl) ob1 ?_) | (refine inblock_norm ?_)))
  all_goals rfl
end Go.Aw
