/-
  Contract of the chapter's examples that every statement asks. No condition.
-/
import Derived.Test.YtmmnjelmahcbaaaN15
namespace Go.Aw
set_option linter.unusedSimpArgs false
set_option linter.unusedVariables false
open Go.RowKit Go.Proofs Go.Nt Go.Rl

theorem aw1 : PD Try.prog 15 [.int .i64 2, .int .i64 0, .agg [.int .i64 1, .int .i64 2], .int .i64 3] (.tup [.d (.str ⟨#[48, 46, 50, 53, 48]⟩), .d (.int .i64 0)]) := by
  have h := p15 2 0 1 2 3
  rw [show digOk 2 0 1 2 3 = true by decide +kernel, show digS 2 0 1 2 3 = ⟨#[48, 46, 50, 53, 48]⟩ by decide +kernel] at h
  exact h
theorem aw2 : PD Try.prog 23 [.int .i64 5, .int .i64 0, .agg [.int .i64 1, .int .i64 2], .agg [.int .i64 1, .int .i64 32]] (.d (.bool true)) := by
  have h := p23 5 0 1 2 1 32
  rw [show holdsB 5 0 1 2 1 32 = true by decide +kernel] at h
  exact h
theorem aw3 : PD Try.prog 23 [.int .i64 4, .int .i64 0, .agg [.int .i64 1, .int .i64 2], .agg [.int .i64 1, .int .i64 32]] (.d (.bool false)) := by
  have h := p23 4 0 1 2 1 32
  rw [show holdsB 4 0 1 2 1 32 = false by decide +kernel] at h
  exact h
theorem aw4 : PD Try.prog 31 [.int .i64 0, .agg [.int .i64 1, .int .i64 10], .agg [.int .i64 1, .int .i64 20]] (.d (.int .i64 29)) := by
  have h := p31 0 1 10 1 20
  rw [show neededI 0 1 10 1 20 = 29 by decide +kernel] at h
  exact h
theorem aw5 : PD Try.prog 25 [.int .i64 4, .int .i64 4, .int .i64 4, .int .i64 0, .agg [.int .i64 1, .int .i64 50]] (.d (.bool true)) := by
  have h := p25 4 4 4 0 1 50
  rw [show worseB 4 4 4 0 1 50 = true by decide +kernel] at h
  exact h

theorem p19 : PD Try.prog 19 [] (.d (.bool true)) := by
  have hs : ((⟨#[48, 46, 50, 53, 48]⟩ : ByteArray) == ⟨#[48, 46, 50, 53, 48]⟩) = true := by decide
  refine pd_of (fn := Try.f19) [.tmp 0] (by kernel_rfl) rfl (by kernel_rfl) (Nat.le_of_ble_eq_true rfl) (by kernel_rfl) rfl rfl ?_
  refine awp_seq ?_
  refine awpF_region ?_; intro K hK; simp only [push_cast, seval]; (try simp (disch := omega) only [wrapI]); (repeat ((with_reducible refine And.intro ?_ ?_); (focus (first | omega | trivial | assumption | (intro _ hrow; obtain ⟨_, _, rfl⟩ := List.mem_map.1 hrow; rfl) | ((intros; repeat' apply And.intro) <;> first | omega | trivial | assumption | (intro _ hrow; obtain ⟨_, _, rfl⟩ := List.mem_map.1 hrow; rfl) | (simp_all; done) | (simp_all; omega)))))); refine hK _ ?_; clear hK; clear K
  refine awp_seq ?_
  refine awpF_region ?_; intro K hK; simp only [push_cast, seval]
  refine CallK.pd (p24 1 2) ?_; simp only [push_cast, seval]; (try simp (disch := omega) only [wrapI]); (repeat ((with_reducible refine And.intro ?_ ?_); (focus (first | omega | trivial | assumption | (intro _ hrow; obtain ⟨_, _, rfl⟩ := List.mem_map.1 hrow; rfl) | ((intros; repeat' apply And.intro) <;> first | omega | trivial | assumption | (intro _ hrow; obtain ⟨_, _, rfl⟩ := List.mem_map.1 hrow; rfl) | (simp_all; done) | (simp_all; omega))))))
  refine CallK.pd (aw1) ?_; simp only [push_cast, seval]; (try simp (disch := omega) only [wrapI]); (repeat ((with_reducible refine And.intro ?_ ?_); (focus (first | omega | trivial | assumption | (intro _ hrow; obtain ⟨_, _, rfl⟩ := List.mem_map.1 hrow; rfl) | ((intros; repeat' apply And.intro) <;> first | omega | trivial | assumption | (intro _ hrow; obtain ⟨_, _, rfl⟩ := List.mem_map.1 hrow; rfl) | (simp_all; done) | (simp_all; omega))))))
  refine hK _ ?_; clear hK; clear K
  refine awp_seq ?_
  refine awpF_region ?_; intro K hK; simp only [push_cast, seval, hs]
  refine CallK.pg (fun _ => p24 1 2) ?_; simp only [push_cast, seval]; (try simp (disch := omega) only [wrapI]); (repeat ((with_reducible refine And.intro ?_ ?_); (focus (first | omega | trivial | assumption | (intro _ hrow; obtain ⟨_, _, rfl⟩ := List.mem_map.1 hrow; rfl) | ((intros; repeat' apply And.intro) <;> first | omega | trivial | assumption | (intro _ hrow; obtain ⟨_, _, rfl⟩ := List.mem_map.1 hrow; rfl) | (simp_all; done) | (simp_all; omega))))))
  refine CallK.pg (fun _ => p24 1 32) ?_; simp only [push_cast, seval]; (try simp (disch := omega) only [wrapI]); (repeat ((with_reducible refine And.intro ?_ ?_); (focus (first | omega | trivial | assumption | (intro _ hrow; obtain ⟨_, _, rfl⟩ := List.mem_map.1 hrow; rfl) | ((intros; repeat' apply And.intro) <;> first | omega | trivial | assumption | (intro _ hrow; obtain ⟨_, _, rfl⟩ := List.mem_map.1 hrow; rfl) | (simp_all; done) | (simp_all; omega))))))
  refine CallK.pg (fun _ => aw2) ?_; simp only [push_cast, seval]; (try simp (disch := omega) only [wrapI]); (repeat ((with_reducible refine And.intro ?_ ?_); (focus (first | omega | trivial | assumption | (intro _ hrow; obtain ⟨_, _, rfl⟩ := List.mem_map.1 hrow; rfl) | ((intros; repeat' apply And.intro) <;> first | omega | trivial | assumption | (intro _ hrow; obtain ⟨_, _, rfl⟩ := List.mem_map.1 hrow; rfl) | (simp_all; done) | (simp_all; omega))))))
  refine CallK.pg (fun _ => p24 1 2) ?_; simp only [push_cast, seval]; (try simp (disch := omega) only [wrapI]); (repeat ((with_reducible refine And.intro ?_ ?_); (focus (first | omega | trivial | assumption | (intro _ hrow; obtain ⟨_, _, rfl⟩ := List.mem_map.1 hrow; rfl) | ((intros; repeat' apply And.intro) <;> first | omega | trivial | assumption | (intro _ hrow; obtain ⟨_, _, rfl⟩ := List.mem_map.1 hrow; rfl) | (simp_all; done) | (simp_all; omega))))))
  refine CallK.pg (fun _ => p24 1 32) ?_; simp only [push_cast, seval]; (try simp (disch := omega) only [wrapI]); (repeat ((with_reducible refine And.intro ?_ ?_); (focus (first | omega | trivial | assumption | (intro _ hrow; obtain ⟨_, _, rfl⟩ := List.mem_map.1 hrow; rfl) | ((intros; repeat' apply And.intro) <;> first | omega | trivial | assumption | (intro _ hrow; obtain ⟨_, _, rfl⟩ := List.mem_map.1 hrow; rfl) | (simp_all; done) | (simp_all; omega))))))
  refine CallK.pg (fun _ => aw3) ?_; simp only [push_cast, seval]; (try simp (disch := omega) only [wrapI]); (repeat ((with_reducible refine And.intro ?_ ?_); (focus (first | omega | trivial | assumption | (intro _ hrow; obtain ⟨_, _, rfl⟩ := List.mem_map.1 hrow; rfl) | ((intros; repeat' apply And.intro) <;> first | omega | trivial | assumption | (intro _ hrow; obtain ⟨_, _, rfl⟩ := List.mem_map.1 hrow; rfl) | (simp_all; done) | (simp_all; omega))))))
  refine CallK.pg (fun _ => p24 1 10) ?_; simp only [push_cast, seval]; (try simp (disch := omega) only [wrapI]); (repeat ((with_reducible refine And.intro ?_ ?_); (focus (first | omega | trivial | assumption | (intro _ hrow; obtain ⟨_, _, rfl⟩ := List.mem_map.1 hrow; rfl) | ((intros; repeat' apply And.intro) <;> first | omega | trivial | assumption | (intro _ hrow; obtain ⟨_, _, rfl⟩ := List.mem_map.1 hrow; rfl) | (simp_all; done) | (simp_all; omega))))))
  refine CallK.pg (fun _ => p24 1 20) ?_; simp only [push_cast, seval]; (try simp (disch := omega) only [wrapI]); (repeat ((with_reducible refine And.intro ?_ ?_); (focus (first | omega | trivial | assumption | (intro _ hrow; obtain ⟨_, _, rfl⟩ := List.mem_map.1 hrow; rfl) | ((intros; repeat' apply And.intro) <;> first | omega | trivial | assumption | (intro _ hrow; obtain ⟨_, _, rfl⟩ := List.mem_map.1 hrow; rfl) | (simp_all; done) | (simp_all; omega))))))
  refine CallK.pg (fun _ => aw4) ?_; simp only [push_cast, seval]; (try simp (disch := omega) only [wrapI]); (repeat ((with_reducible refine And.intro ?_ ?_); (focus (first | omega | trivial | assumption | (intro _ hrow; obtain ⟨_, _, rfl⟩ := List.mem_map.1 hrow; rfl) | ((intros; repeat' apply And.intro) <;> first | omega | trivial | assumption | (intro _ hrow; obtain ⟨_, _, rfl⟩ := List.mem_map.1 hrow; rfl) | (simp_all; done) | (simp_all; omega))))))
  refine CallK.pg (fun _ => p24 1 50) ?_; simp only [push_cast, seval]; (try simp (disch := omega) only [wrapI]); (repeat ((with_reducible refine And.intro ?_ ?_); (focus (first | omega | trivial | assumption | (intro _ hrow; obtain ⟨_, _, rfl⟩ := List.mem_map.1 hrow; rfl) | ((intros; repeat' apply And.intro) <;> first | omega | trivial | assumption | (intro _ hrow; obtain ⟨_, _, rfl⟩ := List.mem_map.1 hrow; rfl) | (simp_all; done) | (simp_all; omega))))))
  refine CallK.pg (fun _ => aw5) ?_; simp only [push_cast, seval]; (try simp (disch := omega) only [wrapI]); (repeat ((with_reducible refine And.intro ?_ ?_); (focus (first | omega | trivial | assumption | (intro _ hrow; obtain ⟨_, _, rfl⟩ := List.mem_map.1 hrow; rfl) | ((intros; repeat' apply And.intro) <;> first | omega | trivial | assumption | (intro _ hrow; obtain ⟨_, _, rfl⟩ := List.mem_map.1 hrow; rfl) | (simp_all; done) | (simp_all; omega))))))
  refine hK _ ?_; clear hK; clear K
  refine awp_ret ?_; (repeat (first | refine then_ret ?_ | refine inblock_ret ?_)); refine fin_of (by simp only [push_cast, seval]; first | done | rfl) (by first | trivial | first | omega | trivial | assumption | (intro _ hrow; obtain ⟨_, _, rfl⟩ := List.mem_map.1 hrow; rfl) | ((intros; repeat' apply And.intro) <;> first | omega | trivial | assumption | (intro _ hrow; obtain ⟨_, _, rfl⟩ := List.mem_map.1 hrow; rfl) | (simp_all; done) | (simp_all; omega))) ?_
  rfl
end Go.Aw
