/-
  Contract of cloud.Segments. Conditions: none (a cloud that is not valid is refused).
-/
import Derived.Test.YtecindhbaekncaaC4
namespace Go.Aw
set_option linter.unusedSimpArgs false
set_option linter.unusedVariables false
open Go.RowKit Go.Proofs Go.Seg

theorem p17 (ps : List Pt) (gap : Int) (d0 : D)
    (hd0 : ∀ (f : Nat → Nat), (segErr ps gap = 0 → Lab (near ps gap) ps.length f) → d0 = .tup [.sl (if segErr ps gap = 0 then (groups f ps.length).map fun g => [.sl (g.map encN)] else []), .int .i64 (segErr ps gap)]) :
    PD Try.prog 17 [.sl (ps.map encP), .int .i64 gap] (ofD d0) := by
  refine pdd_of (fn := Try.f17) [.tmp 4, .tmp 5] (by kernel_rfl) rfl (by kernel_rfl) (Nat.le_of_ble_eq_true rfl) (by kernel_rfl) rfl ?_
  refine awp_seq ?_
  refine awpF_region ?_; intro K hK; simp only [push_cast, seval]; (try simp (disch := omega) only [wrapI]); (repeat ((with_reducible refine And.intro ?_ ?_); (focus (first | trivial | assumption | omega | (intro _ hrow; obtain ⟨_, _, rfl⟩ := List.mem_map.1 hrow; rfl) | ((intros; repeat' apply And.intro) <;> first | trivial | assumption | omega | (intro _ hrow; obtain ⟨_, _, rfl⟩ := List.mem_map.1 hrow; rfl) | (simp_all; done) | (simp_all; omega)))))); refine hK _ ?_; clear hK; clear K
  refine awp_seq ?_
  refine awp_seq ?_
  refine awpF_region ?_; intro K hK; simp only [push_cast, seval]
  (repeat ((with_reducible refine And.intro ?_ ?_); (focus (first | trivial | assumption | omega | (intro _ hrow; obtain ⟨_, _, rfl⟩ := List.mem_map.1 hrow; rfl) | ((intros; repeat' apply And.intro) <;> first | trivial | assumption | omega | (intro _ hrow; obtain ⟨_, _, rfl⟩ := List.mem_map.1 hrow; rfl) | (simp_all; done) | (simp_all; omega))))))
  refine CallK.pd (p25 _) ?_; simp only [push_cast, seval]; (try simp (disch := omega) only [wrapI]); (repeat ((with_reducible refine And.intro ?_ ?_); (focus (first | trivial | assumption | omega | (intro _ hrow; obtain ⟨_, _, rfl⟩ := List.mem_map.1 hrow; rfl) | ((intros; repeat' apply And.intro) <;> first | trivial | assumption | omega | (intro _ hrow; obtain ⟨_, _, rfl⟩ := List.mem_map.1 hrow; rfl) | (simp_all; done) | (simp_all; omega))))))
  refine hK _ ?_; clear hK; clear K
  refine awp_seq ?_
  refine awpF_region ?_; intro K hK; simp only [push_cast, seval]; (try simp (disch := omega) only [wrapI]); (repeat ((with_reducible refine And.intro ?_ ?_); (focus (first | trivial | assumption | omega | (intro _ hrow; obtain ⟨_, _, rfl⟩ := List.mem_map.1 hrow; rfl) | ((intros; repeat' apply And.intro) <;> first | trivial | assumption | omega | (intro _ hrow; obtain ⟨_, _, rfl⟩ := List.mem_map.1 hrow; rfl) | (simp_all; done) | (simp_all; omega)))))); refine hK _ ?_; clear hK; clear K
  apply awp_cond; (focus (simp only [push_cast, seval]; rfl))
  · intro hc; (try simp only [decide_eq_true_eq, decide_eq_false_iff_not, Bool.not_eq_true', Bool.not_eq_false', Bool.and_eq_true, Bool.or_eq_true, Bool.not_eq_true] at hc)
    have hc' : check ps ≠ 0 := by simpa using hc
    refine awp_seq ?_
    refine awpF_region ?_; intro K hK; simp only [push_cast, seval]; (try simp (disch := omega) only [wrapI]); (repeat ((with_reducible refine And.intro ?_ ?_); (focus (first | trivial | assumption | omega | (intro _ hrow; obtain ⟨_, _, rfl⟩ := List.mem_map.1 hrow; rfl) | ((intros; repeat' apply And.intro) <;> first | trivial | assumption | omega | (intro _ hrow; obtain ⟨_, _, rfl⟩ := List.mem_map.1 hrow; rfl) | (simp_all; done) | (simp_all; omega)))))); refine hK _ ?_; clear hK; clear K
    refine awp_ret ?_; (repeat (first | refine then_ret ?_ | refine inblock_ret ?_)); refine fin_of (by simp only [push_cast, seval]; first | done | rfl) (by first | trivial | first | trivial | assumption | omega | (intro _ hrow; obtain ⟨_, _, rfl⟩ := List.mem_map.1 hrow; rfl) | ((intros; repeat' apply And.intro) <;> first | trivial | assumption | omega | (intro _ hrow; obtain ⟨_, _, rfl⟩ := List.mem_map.1 hrow; rfl) | (simp_all; done) | (simp_all; omega))) ?_
    have he : segErr ps gap = check ps := by simp [segErr, hc']
    rw [hd0 id (fun h => absurd (he.symm.trans h) hc'), he, if_neg hc']
    exact deep_tup2 .nil (.d _)
  intro hc; (try simp only [decide_eq_true_eq, decide_eq_false_iff_not, Bool.not_eq_true', Bool.not_eq_false', Bool.and_eq_true, Bool.or_eq_true, Bool.not_eq_true] at hc)
  have hc' : check ps = 0 := by simpa using hc
  refine awp_skip ?_
  refine awp_seq ?_
  refine awp_seq ?_
  refine awpF_region ?_; intro K hK; simp only [push_cast, seval]; (try simp (disch := omega) only [wrapI]); (repeat ((with_reducible refine And.intro ?_ ?_); (focus (first | trivial | assumption | omega | (intro _ hrow; obtain ⟨_, _, rfl⟩ := List.mem_map.1 hrow; rfl) | ((intros; repeat' apply And.intro) <;> first | trivial | assumption | omega | (intro _ hrow; obtain ⟨_, _, rfl⟩ := List.mem_map.1 hrow; rfl) | (simp_all; done) | (simp_all; omega)))))); refine hK _ ?_; clear hK; clear K
  apply awp_cond; (focus (simp only [push_cast, seval]; rfl))
  · intro hg; (try simp only [decide_eq_true_eq, decide_eq_false_iff_not, Bool.not_eq_true', Bool.not_eq_false', Bool.and_eq_true, Bool.or_eq_true, Bool.not_eq_true] at hg)
    have hg' : gap < 0 ∨ gap > 33554432 := by simp at hg; omega
    refine awp_seq ?_
    refine awpF_region ?_; intro K hK; simp only [push_cast, seval]; (try simp (disch := omega) only [wrapI]); (repeat ((with_reducible refine And.intro ?_ ?_); (focus (first | trivial | assumption | omega | (intro _ hrow; obtain ⟨_, _, rfl⟩ := List.mem_map.1 hrow; rfl) | ((intros; repeat' apply And.intro) <;> first | trivial | assumption | omega | (intro _ hrow; obtain ⟨_, _, rfl⟩ := List.mem_map.1 hrow; rfl) | (simp_all; done) | (simp_all; omega)))))); refine hK _ ?_; clear hK; clear K
    refine awp_ret ?_; (repeat (first | refine then_ret ?_ | refine inblock_ret ?_)); refine fin_of (by simp only [push_cast, seval]; first | done | rfl) (by first | trivial | first | trivial | assumption | omega | (intro _ hrow; obtain ⟨_, _, rfl⟩ := List.mem_map.1 hrow; rfl) | ((intros; repeat' apply And.intro) <;> first | trivial | assumption | omega | (intro _ hrow; obtain ⟨_, _, rfl⟩ := List.mem_map.1 hrow; rfl) | (simp_all; done) | (simp_all; omega))) ?_
    have he : segErr ps gap = 2 := by simp [segErr, hc', hg']
    rw [hd0 id (fun h => by rw [he] at h; cases h), he, if_neg (by decide)]
    exact deep_tup2 .nil (.d _)
  intro hg; (try simp only [decide_eq_true_eq, decide_eq_false_iff_not, Bool.not_eq_true', Bool.not_eq_false', Bool.and_eq_true, Bool.or_eq_true, Bool.not_eq_true] at hg)
  have hg2 : 0 ≤ gap ∧ gap ≤ 33554432 := by simp at hg; omega
  have hn : ps.length ≤ 1000 := by
    simp [check] at hc
    split at hc <;> omega
  refine awp_skip ?_
  refine awp_seq ?_
  refine awpF_region ?_; intro K hK; simp only [push_cast, seval]
  (repeat ((with_reducible refine And.intro ?_ ?_); (focus (first | trivial | assumption | omega | (intro _ hrow; obtain ⟨_, _, rfl⟩ := List.mem_map.1 hrow; rfl) | ((intros; repeat' apply And.intro) <;> first | trivial | assumption | omega | (intro _ hrow; obtain ⟨_, _, rfl⟩ := List.mem_map.1 hrow; rfl) | (simp_all; done) | (simp_all; omega))))))
  refine hK _ ?_; clear hK; clear K
  rw [← fillN_zero]
  refine awp_seq ?_
  refine awp_seq ?_
  refine awpF_region ?_; intro K hK; simp only [push_cast, seval]; (try simp (disch := omega) only [wrapI]); (repeat ((with_reducible refine And.intro ?_ ?_); (focus (first | trivial | assumption | omega | (intro _ hrow; obtain ⟨_, _, rfl⟩ := List.mem_map.1 hrow; rfl) | ((intros; repeat' apply And.intro) <;> first | trivial | assumption | omega | (intro _ hrow; obtain ⟨_, _, rfl⟩ := List.mem_map.1 hrow; rfl) | (simp_all; done) | (simp_all; omega)))))); refine hK _ ?_; clear hK; clear K
  refine awp_block ?_
  refine awp_loopP (st := fun x : Nat => ⟨[(0, .d (.sl (ps.map encP))), (1, .d (.int .i64 gap)), (7, .ptr 1 0 0), (35, .d (.int .i64 ps.length)), (36, .d (.int .i64 x))], [.data 1 (fillN ps.length x), .cells [.ref 0 0 ps.length]]⟩) (inv := fun x => x ≤ ps.length) (μ := fun x => ps.length - x) (x0 := 0) (r0 := [0, 1]) ?_ ?_ ?_
  · simp
  · exact ⟨by simp, by simp, by simp [push_cast, seval], by simp [push_cast, seval], by simp [push_cast, seval], by simp [push_cast, seval]⟩
  intro x hx
  refine awp_seq ?_
  refine awpF_region ?_; intro K hK; simp only [push_cast, seval]; (try simp (disch := omega) only [wrapI]); (repeat ((with_reducible refine And.intro ?_ ?_); (focus (first | trivial | assumption | omega | (intro _ hrow; obtain ⟨_, _, rfl⟩ := List.mem_map.1 hrow; rfl) | ((intros; repeat' apply And.intro) <;> first | trivial | assumption | omega | (intro _ hrow; obtain ⟨_, _, rfl⟩ := List.mem_map.1 hrow; rfl) | (simp_all; done) | (simp_all; omega)))))); refine hK _ ?_; clear hK; clear K
  refine awp_seq ?_
  apply awp_cond; (focus (simp only [push_cast, seval]; rfl))
  · intro h1; (try simp only [decide_eq_true_eq, decide_eq_false_iff_not, Bool.not_eq_true', Bool.not_eq_false', Bool.and_eq_true, Bool.or_eq_true, Bool.not_eq_true] at h1)
    have hlt : x < ps.length := by omega
    refine awp_skip ?_
    refine awp_seq ?_
    refine awp_block ?_
    refine awp_seq ?_
    refine awpF_region ?_; intro K hK; simp only [push_cast, seval]; (try simp (disch := omega) only [wrapI]); (repeat ((with_reducible refine And.intro ?_ ?_); (focus (first | trivial | assumption | omega | (intro _ hrow; obtain ⟨_, _, rfl⟩ := List.mem_map.1 hrow; rfl) | ((intros; repeat' apply And.intro) <;> first | trivial | assumption | omega | (intro _ hrow; obtain ⟨_, _, rfl⟩ := List.mem_map.1 hrow; rfl) | (simp_all; done) | (simp_all; omega)))))); refine hK _ ?_; clear hK; clear K
    refine awpF_region ?_; intro K hK; simp only [push_cast, seval]
    (repeat ((with_reducible refine And.intro ?_ ?_); (focus (first | trivial | assumption | omega | (intro _ hrow; obtain ⟨_, _, rfl⟩ := List.mem_map.1 hrow; rfl) | ((intros; repeat' apply And.intro) <;> first | trivial | assumption | omega | (intro _ hrow; obtain ⟨_, _, rfl⟩ := List.mem_map.1 hrow; rfl) | (simp_all; done) | (simp_all; omega))))))
    refine hK _ ?_; clear hK; clear K
    rw [fillN_set hlt]
    refine awpF_region ?_; intro K hK; simp only [push_cast, seval]; (try simp (disch := omega) only [wrapI]); (repeat ((with_reducible refine And.intro ?_ ?_); (focus (first | trivial | assumption | omega | (intro _ hrow; obtain ⟨_, _, rfl⟩ := List.mem_map.1 hrow; rfl) | ((intros; repeat' apply And.intro) <;> first | trivial | assumption | omega | (intro _ hrow; obtain ⟨_, _, rfl⟩ := List.mem_map.1 hrow; rfl) | (simp_all; done) | (simp_all; omega)))))); refine hK _ ?_; clear hK; clear K
    refine round_end (y := x + 1) (r := [0, 1]) (by omega) hlt ?_
    exact ⟨by simp, by simp, by simp [push_cast, seval], by simp [push_cast, seval], by simp [push_cast, seval], by simp [push_cast, seval]⟩
  intro h1; (try simp only [decide_eq_true_eq, decide_eq_false_iff_not, Bool.not_eq_true', Bool.not_eq_false', Bool.and_eq_true, Bool.or_eq_true, Bool.not_eq_true] at h1)
  have hxe : x = ps.length := by omega
  subst hxe
  rw [fillN_end]
  refine awp_exit ?_; (repeat (first | refine then_exit ?_ | refine inblock_other (by decide) ?_)); refine inblock_same ?_
  refine awp_seq ?_
  refine awpF_region ?_; intro K hK; simp only [push_cast, seval]; (try simp (disch := omega) only [wrapI]); (repeat ((with_reducible refine And.intro ?_ ?_); (focus (first | trivial | assumption | omega | (intro _ hrow; obtain ⟨_, _, rfl⟩ := List.mem_map.1 hrow; rfl) | ((intros; repeat' apply And.intro) <;> first | trivial | assumption | omega | (intro _ hrow; obtain ⟨_, _, rfl⟩ := List.mem_map.1 hrow; rfl) | (simp_all; done) | (simp_all; omega)))))); refine hK _ ?_; clear hK; clear K
  refine awp_seq ?_
  refine awpF_region ?_; intro K hK; simp only [push_cast, seval]; (try simp (disch := omega) only [wrapI]); (repeat ((with_reducible refine And.intro ?_ ?_); (focus (first | trivial | assumption | omega | (intro _ hrow; obtain ⟨_, _, rfl⟩ := List.mem_map.1 hrow; rfl) | ((intros; repeat' apply And.intro) <;> first | trivial | assumption | omega | (intro _ hrow; obtain ⟨_, _, rfl⟩ := List.mem_map.1 hrow; rfl) | (simp_all; done) | (simp_all; omega)))))); refine hK _ ?_; clear hK; clear K
  refine awp_seq ?_
  refine awp_seq ?_
  refine awpF_region ?_; intro K hK; simp only [push_cast, seval]; (try simp (disch := omega) only [wrapI]); (repeat ((with_reducible refine And.intro ?_ ?_); (focus (first | trivial | assumption | omega | (intro _ hrow; obtain ⟨_, _, rfl⟩ := List.mem_map.1 hrow; rfl) | ((intros; repeat' apply And.intro) <;> first | trivial | assumption | omega | (intro _ hrow; obtain ⟨_, _, rfl⟩ := List.mem_map.1 hrow; rfl) | (simp_all; done) | (simp_all; omega)))))); refine hK _ ?_; clear hK; clear K
  refine awp_block ?_
  refine awp_loopP (st := fun (x : Nat × List Nat) => ⟨[(0, .d (.sl (ps.map encP))), (1, .d (.int .i64 gap)), (7, .ptr 1 0 0), (9, .ptr 2 0 0), (46, .d (.int .i64 ps.length)), (47, .d (.int .i64 x.1))], segHeap ps.length x.2 []⟩)
    (inv := fun x => x.1 ≤ ps.length ∧ Mid (near ps gap) ps.length (fun a b => b < a ∧ a < x.1) x.2) (μ := fun x => ps.length - x.1) (x0 := (0, List.range ps.length)) (r0 := [0, 1, 2]) ?_ ?_ ?_
  · exact ⟨Nat.zero_le _, (Mid.start _ _).more fun i j h _ => by omega⟩
  · simp only [segHeap]
    exact ⟨by simp, by simp, by simp [push_cast, seval], by simp [push_cast, seval], by simp [push_cast, seval], by simp [push_cast, seval]⟩
  rintro ⟨i, up⟩ ⟨hi, hm⟩
  simp only [] at hi hm ⊢
  have hul := hm.len
  rw [segHeap]
  refine awp_seq ?_
  refine awpF_region ?_; intro K hK; simp only [push_cast, seval]; (try simp (disch := omega) only [wrapI]); (repeat ((with_reducible refine And.intro ?_ ?_); (focus (first | trivial | assumption | omega | (intro _ hrow; obtain ⟨_, _, rfl⟩ := List.mem_map.1 hrow; rfl) | ((intros; repeat' apply And.intro) <;> first | trivial | assumption | omega | (intro _ hrow; obtain ⟨_, _, rfl⟩ := List.mem_map.1 hrow; rfl) | (simp_all; done) | (simp_all; omega)))))); refine hK _ ?_; clear hK; clear K
  refine awp_seq ?_
  apply awp_cond; (focus (simp only [push_cast, seval]; rfl))
  · intro h2; (try simp only [decide_eq_true_eq, decide_eq_false_iff_not, Bool.not_eq_true', Bool.not_eq_false', Bool.and_eq_true, Bool.or_eq_true, Bool.not_eq_true] at h2)
    have hlt : i < ps.length := by omega
    refine awp_skip ?_
    refine awp_seq ?_
    refine awp_block ?_
    refine awp_seq ?_
    refine awpF_region ?_; intro K hK; simp only [push_cast, seval]; (try simp (disch := omega) only [wrapI]); (repeat ((with_reducible refine And.intro ?_ ?_); (focus (first | trivial | assumption | omega | (intro _ hrow; obtain ⟨_, _, rfl⟩ := List.mem_map.1 hrow; rfl) | ((intros; repeat' apply And.intro) <;> first | trivial | assumption | omega | (intro _ hrow; obtain ⟨_, _, rfl⟩ := List.mem_map.1 hrow; rfl) | (simp_all; done) | (simp_all; omega)))))); refine hK _ ?_; clear hK; clear K
    refine awp_seq ?_
    refine awpF_region ?_; intro K hK; simp only [push_cast, seval]; (try simp (disch := omega) only [wrapI]); (repeat ((with_reducible refine And.intro ?_ ?_); (focus (first | trivial | assumption | omega | (intro _ hrow; obtain ⟨_, _, rfl⟩ := List.mem_map.1 hrow; rfl) | ((intros; repeat' apply And.intro) <;> first | trivial | assumption | omega | (intro _ hrow; obtain ⟨_, _, rfl⟩ := List.mem_map.1 hrow; rfl) | (simp_all; done) | (simp_all; omega)))))); refine hK _ ?_; clear hK; clear K
    refine awp_block ?_
    refine awp_loopP (st := fun (x : Nat × List Nat) => ⟨[(0, .d (.sl (ps.map encP))), (1, .d (.int .i64 gap)), (7, .ptr 1 0 0), (9, .ptr 2 0 0), (10, .d (.int .i64 i)), (46, .d (.int .i64 ps.length)), (47, .d (.int .i64 i)), (50, .d (.int .i64 i)), (51, .d (.int .i64 x.1))], segHeap ps.length x.2 []⟩)
      (inv := fun x => x.1 ≤ i ∧ Mid (near ps gap) ps.length (fun a b => b < a ∧ a < i ∨ a = i ∧ b < x.1) x.2) (μ := fun x => i - x.1) (x0 := (0, up)) (r0 := [0, 1, 2]) ?_ ?_ ?_
    · exact ⟨Nat.zero_le _, hm.more fun a b h _ => by omega⟩
    · simp only [segHeap]
      exact ⟨by simp, by simp, by simp [push_cast, seval], by simp [push_cast, seval], by simp [push_cast, seval], by simp [push_cast, seval]⟩
    clear hm hul
    clear up
    rintro ⟨j, up⟩ ⟨hj, hm⟩
    simp only [] at hj hm ⊢
    have hul := hm.len
    rw [segHeap]
    refine awp_seq ?_
    refine awpF_region ?_; intro K hK; simp only [push_cast, seval]; (try simp (disch := omega) only [wrapI]); (repeat ((with_reducible refine And.intro ?_ ?_); (focus (first | trivial | assumption | omega | (intro _ hrow; obtain ⟨_, _, rfl⟩ := List.mem_map.1 hrow; rfl) | ((intros; repeat' apply And.intro) <;> first | trivial | assumption | omega | (intro _ hrow; obtain ⟨_, _, rfl⟩ := List.mem_map.1 hrow; rfl) | (simp_all; done) | (simp_all; omega)))))); refine hK _ ?_; clear hK; clear K
    refine awp_seq ?_
    apply awp_cond; (focus (simp only [push_cast, seval]; rfl))
    · intro h3; (try simp only [decide_eq_true_eq, decide_eq_false_iff_not, Bool.not_eq_true', Bool.not_eq_false', Bool.and_eq_true, Bool.or_eq_true, Bool.not_eq_true] at h3)
      have hjl : j < i := by omega
      obtain ⟨p, hp⟩ : ∃ p, ps[i]? = some p := ⟨_, List.getElem?_eq_getElem hlt⟩
      obtain ⟨q, hq⟩ : ∃ q, ps[j]? = some q := ⟨_, List.getElem?_eq_getElem (by omega)⟩
      refine awp_skip ?_
      refine awp_seq ?_
      refine awp_block ?_
      refine awp_seq ?_
      refine awpF_region ?_; intro K hK; simp only [push_cast, seval]; (try simp (disch := omega) only [wrapI]); (repeat ((with_reducible refine And.intro ?_ ?_); (focus (first | trivial | assumption | omega | (intro _ hrow; obtain ⟨_, _, rfl⟩ := List.mem_map.1 hrow; rfl) | ((intros; repeat' apply And.intro) <;> first | trivial | assumption | omega | (intro _ hrow; obtain ⟨_, _, rfl⟩ := List.mem_map.1 hrow; rfl) | (simp_all; done) | (simp_all; omega)))))); refine hK _ ?_; clear hK; clear K
      refine awp_seq ?_
      refine awpF_draw [0,1,2,3,5,6,7,8,11,12,13,4,9,10,14] (by kernel_rfl) (by kernel_rfl) rfl ?_; intro K hK; simp only [push_cast, seval, hp, hq, encP]
      (repeat ((with_reducible refine And.intro ?_ ?_); (focus (first | trivial | assumption | omega | (intro _ hrow; obtain ⟨_, _, rfl⟩ := List.mem_map.1 hrow; rfl) | ((intros; repeat' apply And.intro) <;> first | trivial | assumption | omega | (intro _ hrow; obtain ⟨_, _, rfl⟩ := List.mem_map.1 hrow; rfl) | (simp_all; done) | (simp_all; omega))))))
      refine CallK.pd (p59 _ _ _) ?_; simp only [push_cast, seval]; (try simp (disch := omega) only [wrapI]); (repeat ((with_reducible refine And.intro ?_ ?_); (focus (first | trivial | assumption | omega | (intro _ hrow; obtain ⟨_, _, rfl⟩ := List.mem_map.1 hrow; rfl) | ((intros; repeat' apply And.intro) <;> first | trivial | assumption | omega | (intro _ hrow; obtain ⟨_, _, rfl⟩ := List.mem_map.1 hrow; rfl) | (simp_all; done) | (simp_all; omega))))))
      refine CallK.pd (p59 _ _ _) ?_; simp only [push_cast, seval]; (try simp (disch := omega) only [wrapI]); (repeat ((with_reducible refine And.intro ?_ ?_); (focus (first | trivial | assumption | omega | (intro _ hrow; obtain ⟨_, _, rfl⟩ := List.mem_map.1 hrow; rfl) | ((intros; repeat' apply And.intro) <;> first | trivial | assumption | omega | (intro _ hrow; obtain ⟨_, _, rfl⟩ := List.mem_map.1 hrow; rfl) | (simp_all; done) | (simp_all; omega))))))
      refine CallK.pd (p58 _ _ _ _) ?_; simp only [push_cast, seval]; (try simp (disch := omega) only [wrapI]); (repeat ((with_reducible refine And.intro ?_ ?_); (focus (first | trivial | assumption | omega | (intro _ hrow; obtain ⟨_, _, rfl⟩ := List.mem_map.1 hrow; rfl) | ((intros; repeat' apply And.intro) <;> first | trivial | assumption | omega | (intro _ hrow; obtain ⟨_, _, rfl⟩ := List.mem_map.1 hrow; rfl) | (simp_all; done) | (simp_all; omega))))))
      have hgg := sq_le gap (by omega) hg2.2
      rw [wrapI (gap * gap) (by omega)]
      refine hK _ ?_; clear hK; clear K
      apply awp_cond; (focus (simp only [push_cast, seval]; rfl))
      · intro hd; (try simp only [decide_eq_true_eq, decide_eq_false_iff_not, Bool.not_eq_true', Bool.not_eq_false', Bool.and_eq_true, Bool.or_eq_true, Bool.not_eq_true] at hd)
        have hnear : near ps gap i j := ⟨p, q, hp, hq, hd⟩
        have hup1 : i < up.length := by omega
        refine awp_seq ?_
        refine awpF_drawH [2,5] [2] [] [0,1,3,4,2,5,6,7] (by kernel_rfl) (by kernel_rfl) (by simp only [srt, Nat.reduceLT, decide_true, Bool.and_self]) (by kernel_rfl) (by kernel_rfl) ?_; intro K hK; simp only [push_cast, seval]
        (repeat ((with_reducible refine And.intro ?_ ?_); (focus (first | trivial | assumption | omega | (intro _ hrow; obtain ⟨_, _, rfl⟩ := List.mem_map.1 hrow; rfl) | ((intros; repeat' apply And.intro) <;> first | trivial | assumption | omega | (intro _ hrow; obtain ⟨_, _, rfl⟩ := List.mem_map.1 hrow; rfl) | (simp_all; done) | (simp_all; omega))))))
        refine HeapK.mk _ (p57 [] ps.length i up hul hm.down hlt) ?_
        rintro _ _ ⟨rfl, up1, hS1, rfl⟩
        have hul1 : up1.length = ps.length := hS1.len.trans hul
        rw [segHeap]
        simp only [push_cast, seval, RoS, shp, forall_eq_or_imp, forall_eq]
        refine ⟨fun id => by rcases id with _ | id <;> rfl, ?_⟩
        refine HeapK.mk _ (p57 [] ps.length j up1 hul1 hS1.down (by omega)) ?_
        rintro _ _ ⟨rfl, up2, hS2, rfl⟩
        have hul2 : up2.length = ps.length := hS2.len.trans hul1
        rw [segHeap]
        simp only [push_cast, seval, RoS, shp, forall_eq_or_imp, forall_eq]
        refine ⟨fun id => by rcases id with _ | id <;> rfl, ?_⟩
        refine hK _ ?_; clear hK; clear K
        have hS := hS1.trans hS2
        have hm2 := (hm.same_up hS).union near_symm hlt (show j < ps.length by omega) hnear
        rw [hS.root, hS.root] at hm2
        rw [hS1.root]
        have hra := root_le up i
        have hrb := root_le up j
        generalize root up i = a at hm2 hra ⊢
        generalize root up j = b at hm2 hrb ⊢
        have hmx : (max (a : Int) (b : Int)).toNat = max a b := by omega
        refine awpF_region ?_; intro K hK; simp only [push_cast, seval, hmx]
        refine ⟨by omega, by omega, ?_⟩
        refine hK _ ?_; clear hK; clear K
        have hmap : (List.map encN up2).set (max a b) [D.int IntKind.i64 (min (a : Int) (b : Int))] = (up2.set (max a b) (min a b)).map encN := by
          rw [List.map_set]
          congr 1
          simp only [encN]
          congr 2
          omega
        rw [hmap]
        refine awpF_region ?_; intro K hK; simp only [push_cast, seval]; (try simp (disch := omega) only [wrapI]); (repeat ((with_reducible refine And.intro ?_ ?_); (focus (first | trivial | assumption | omega | (intro _ hrow; obtain ⟨_, _, rfl⟩ := List.mem_map.1 hrow; rfl) | ((intros; repeat' apply And.intro) <;> first | trivial | assumption | omega | (intro _ hrow; obtain ⟨_, _, rfl⟩ := List.mem_map.1 hrow; rfl) | (simp_all; done) | (simp_all; omega)))))); refine hK _ ?_; clear hK; clear K
        refine round_endG (j + 1, up2.set (max a b) (min a b)) [0, 1, 2] ⟨?_, ?_, ?_⟩
        · dsimp only; omega
        · refine And.intro hjl (hm2.more fun c d h _ => ?_)
          dsimp only at h
          omega
        simp only [segHeap]
        exact ⟨by simp, by simp, by simp [push_cast, seval], by simp [push_cast, seval], by simp [push_cast, seval], by simp [push_cast, seval]⟩
      · intro hd; (try simp only [decide_eq_true_eq, decide_eq_false_iff_not, Bool.not_eq_true', Bool.not_eq_false', Bool.and_eq_true, Bool.or_eq_true, Bool.not_eq_true] at hd)
        refine awp_skip ?_
        refine awpF_region ?_; intro K hK; simp only [push_cast, seval]; (try simp (disch := omega) only [wrapI]); (repeat ((with_reducible refine And.intro ?_ ?_); (focus (first | trivial | assumption | omega | (intro _ hrow; obtain ⟨_, _, rfl⟩ := List.mem_map.1 hrow; rfl) | ((intros; repeat' apply And.intro) <;> first | trivial | assumption | omega | (intro _ hrow; obtain ⟨_, _, rfl⟩ := List.mem_map.1 hrow; rfl) | (simp_all; done) | (simp_all; omega)))))); refine hK _ ?_; clear hK; clear K
        refine round_endG (j + 1, up) [0, 1, 2] ⟨?_, ?_, ?_⟩
        · dsimp only; omega
        · refine And.intro hjl (hm.more fun a b h hn => ?_)
          dsimp only at h
          by_cases hab : a = i ∧ b = j
          · obtain ⟨rfl, rfl⟩ := hab
            obtain ⟨p', q', h5, h6, h7⟩ := hn
            rw [hp] at h5
            rw [hq] at h6
            cases h5
            cases h6
            exact absurd h7 hd
          · omega
        simp only [segHeap]
        exact ⟨by simp, by simp, by simp [push_cast, seval], by simp [push_cast, seval], by simp [push_cast, seval], by simp [push_cast, seval]⟩
    · intro h3; (try simp only [decide_eq_true_eq, decide_eq_false_iff_not, Bool.not_eq_true', Bool.not_eq_false', Bool.and_eq_true, Bool.or_eq_true, Bool.not_eq_true] at h3)
      have hje : j = i := by omega
      subst hje
      refine awp_exit ?_; (repeat (first | refine then_exit ?_ | refine inblock_other (by decide) ?_)); refine inblock_same ?_
      refine awpF_region ?_; intro K hK; simp only [push_cast, seval]; (try simp (disch := omega) only [wrapI]); (repeat ((with_reducible refine And.intro ?_ ?_); (focus (first | trivial | assumption | omega | (intro _ hrow; obtain ⟨_, _, rfl⟩ := List.mem_map.1 hrow; rfl) | ((intros; repeat' apply And.intro) <;> first | trivial | assumption | omega | (intro _ hrow; obtain ⟨_, _, rfl⟩ := List.mem_map.1 hrow; rfl) | (simp_all; done) | (simp_all; omega)))))); refine hK _ ?_; clear hK; clear K
      refine round_endG (j + 1, up) [0, 1, 2] ⟨?_, ?_, ?_⟩
      · dsimp only; omega
      · refine And.intro hlt (hm.more fun a b h _ => ?_)
        dsimp only at h; omega
      simp only [segHeap]
      exact ⟨by simp, by simp, by simp [push_cast, seval], by simp [push_cast, seval], by simp [push_cast, seval], by simp [push_cast, seval]⟩
  intro h2; (try simp only [decide_eq_true_eq, decide_eq_false_iff_not, Bool.not_eq_true', Bool.not_eq_false', Bool.and_eq_true, Bool.or_eq_true, Bool.not_eq_true] at h2)
  have hie : i = ps.length := by omega
  subst hie
  have hseg : segErr ps gap = 0 := by simp [segErr, hc']; omega
  have hlab := Mid.lab near_symm hm
  have hf := hd0 (root up) fun _ => hlab
  rw [if_pos hseg, hseg] at hf
  have hfix : ∀ k, root up (root up k) = root up k := root_root up
  have hfle : ∀ k, root up k ≤ k := root_le up
  have hS0 : Same up up := .refl hm.down
  clear hd0
  refine awp_exit ?_; (repeat (first | refine then_exit ?_ | refine inblock_other (by decide) ?_)); refine inblock_same ?_
  refine awp_seq ?_
  refine awpF_region ?_; intro K hK; simp only [push_cast, seval]; (try simp (disch := omega) only [wrapI]); (repeat ((with_reducible refine And.intro ?_ ?_); (focus (first | trivial | assumption | omega | (intro _ hrow; obtain ⟨_, _, rfl⟩ := List.mem_map.1 hrow; rfl) | ((intros; repeat' apply And.intro) <;> first | trivial | assumption | omega | (intro _ hrow; obtain ⟨_, _, rfl⟩ := List.mem_map.1 hrow; rfl) | (simp_all; done) | (simp_all; omega)))))); refine hK _ ?_; clear hK; clear K
  refine awp_seq ?_
  refine awpF_region ?_; intro K hK; simp only [push_cast, seval]; (try simp (disch := omega) only [wrapI]); (repeat ((with_reducible refine And.intro ?_ ?_); (focus (first | trivial | assumption | omega | (intro _ hrow; obtain ⟨_, _, rfl⟩ := List.mem_map.1 hrow; rfl) | ((intros; repeat' apply And.intro) <;> first | trivial | assumption | omega | (intro _ hrow; obtain ⟨_, _, rfl⟩ := List.mem_map.1 hrow; rfl) | (simp_all; done) | (simp_all; omega)))))); refine hK _ ?_; clear hK; clear K
  refine awp_seq ?_
  refine awp_seq ?_
  refine awpF_region ?_; intro K hK; simp only [push_cast, seval]; (try simp (disch := omega) only [wrapI]); (repeat ((with_reducible refine And.intro ?_ ?_); (focus (first | trivial | assumption | omega | (intro _ hrow; obtain ⟨_, _, rfl⟩ := List.mem_map.1 hrow; rfl) | ((intros; repeat' apply And.intro) <;> first | trivial | assumption | omega | (intro _ hrow; obtain ⟨_, _, rfl⟩ := List.mem_map.1 hrow; rfl) | (simp_all; done) | (simp_all; omega)))))); refine hK _ ?_; clear hK; clear K
  refine awp_virtV 14 1 (by simp only [push_cast, seval]) ?_
  refine awp_block ?_
  generalize hfe : root up = f at hlab hf hfix hfle
  refine awp_loopP (st := fun (x : Nat × List Nat) => ⟨[(9, .ptr 2 0 0), (14, .ref 4 0 (Seg.part f x.1).length), (15, .map 3), (87, .d (.int .i64 ps.length)), (88, .d (.int .i64 x.1))],
      segHeap ps.length x.2 (.mp (esFrom 0 (roots f x.1)) :: .vrs 1 (refs (Seg.part f x.1)) :: (Seg.part f x.1).map gblk)⟩)
    (inv := fun x => x.1 ≤ ps.length ∧ x.2.length = ps.length ∧ Down x.2 ∧ ∀ k, root x.2 k = f k) (μ := fun x => ps.length - x.1) (x0 := (0, up)) (r0 := [0, 1, 2, 3, 4]) ?_ ?_ ?_
  · exact ⟨Nat.zero_le _, hul, hm.down, fun k => by rw [hfe]⟩
  · simp only [segHeap, Seg.part, roots, List.range_zero, List.filter_nil, List.map_nil, esFrom, refs, List.length_nil]
    exact ⟨by simp, by simp, by simp [push_cast, seval], by simp [push_cast, seval], by simp [push_cast, seval], by simp [push_cast, seval]⟩
  clear hm hS0 hfe hul hi h2
  clear up
  rintro ⟨i, up⟩ ⟨hi, hul, hdn, hrt⟩
  dsimp only at hi hul hdn hrt ⊢
  rw [segHeap]
  refine awp_seq ?_
  refine awpF_region ?_; intro K hK; simp only [push_cast, seval]; (try simp (disch := omega) only [wrapI]); (repeat ((with_reducible refine And.intro ?_ ?_); (focus (first | trivial | assumption | omega | (intro _ hrow; obtain ⟨_, _, rfl⟩ := List.mem_map.1 hrow; rfl) | ((intros; repeat' apply And.intro) <;> first | trivial | assumption | omega | (intro _ hrow; obtain ⟨_, _, rfl⟩ := List.mem_map.1 hrow; rfl) | (simp_all; done) | (simp_all; omega)))))); refine hK _ ?_; clear hK; clear K
  refine awp_seq ?_
  apply awp_cond; (focus (simp only [push_cast, seval]; rfl))
  · intro h4; (try simp only [decide_eq_true_eq, decide_eq_false_iff_not, Bool.not_eq_true', Bool.not_eq_false', Bool.and_eq_true, Bool.or_eq_true, Bool.not_eq_true] at h4)
    have hlt : i < ps.length := by omega
    refine awp_skip ?_
    refine awp_seq ?_
    refine awp_block ?_
    refine awp_seq ?_
    refine awpF_region ?_; intro K hK; simp only [push_cast, seval]; (try simp (disch := omega) only [wrapI]); (repeat ((with_reducible refine And.intro ?_ ?_); (focus (first | trivial | assumption | omega | (intro _ hrow; obtain ⟨_, _, rfl⟩ := List.mem_map.1 hrow; rfl) | ((intros; repeat' apply And.intro) <;> first | trivial | assumption | omega | (intro _ hrow; obtain ⟨_, _, rfl⟩ := List.mem_map.1 hrow; rfl) | (simp_all; done) | (simp_all; omega)))))); refine hK _ ?_; clear hK; clear K
    refine awp_seq ?_
    refine awpF_regionH [2] ?_; intro K hK; simp only [push_cast, seval, List.zipIdx_cons, List.zipIdx_nil]
    have h57 := p57 (.mp (esFrom 0 (roots f i)) :: .vrs 1 (refs (Seg.part f i)) :: (Seg.part f i).map gblk) ps.length i up hul hdn hlt
    rw [segHeap] at h57
    refine HeapK.mk _ h57 ?_
    clear h57
    rintro _ _ ⟨rfl, up', hS, rfl⟩
    rw [segHeap, hrt i]
    simp only [push_cast, seval]
    refine hK _ ?_; clear hK; clear K
    have hul' := hS.len.trans hul
    have hdn' := hS.down
    have hrt' : ∀ k, root up' k = f k := fun k => (hS.root k).trans (hrt k)
    have hmk : MK Try.prog 3 (esFrom 0 (roots f i)) := mk3 (n := i) (by omega) (fun r hr => roots_lt hr) (roots_nd f i) 0
    have hkw : kwf Try.prog 3 (.d (.int .i64 (f i))) := kwf3 (by omega) (by have := hfle i; omega)
    have hgl := roots_len f i
    have hMs : ∀ j (l : List Nat), Blk.scr j (.mp (esFrom 0 l)) = .mp (esFrom 0 l) := fun j l => by simp only [Blk.scr, esFrom_scr]
    have hGs : ∀ j (X : List Blk), heapScr j ((Seg.part f i).map gblk ++ X) = (Seg.part f i).map gblk ++ heapScr j X := by
      intro j X
      induction Seg.part f i with
      | nil => rfl
      | cons g l ih => simp only [List.map_cons, List.cons_append, heapScr, ih]; rfl
    have hgi : (Seg.part f i).length ≤ i := by
      rw [← hgl]
      have := List.length_filter_le (fun r => f r == r) (List.range i)
      rw [List.length_range] at this
      exact this
    have hGl : ((Seg.part f i).map gblk).length = (Seg.part f i).length := by simp
    have htk : (refs (Seg.part f i)).take (Seg.part f i).length = refs (Seg.part f i) := List.take_of_length_le (by rw [refs_len]; exact Nat.le_refl _)
    have hrs4 : ∀ X : List (List V), ((refs (Seg.part f i) ++ X).map fun r => r.map (scr 4)) = refs (Seg.part f i) ++ X.map fun r => r.map (scr 4) := fun X => by
      rw [List.map_append]
      congr 1
      simp only [refs, List.map_map]
      apply List.map_congr_left
      intro k _
      simp [scr, V.has]
    have hMs' : ∀ j (l : List Nat), List.map (fun p : V × V => (if V.has j p.fst = true then V.junk else p.fst, if V.has j p.snd = true then V.junk else p.snd)) (esFrom 0 l) = esFrom 0 l := fun j l => esFrom_scr j l 0
    have hne : ∀ n : Nat, (n + 1 + 1 + 1 + 1 + 1 == 4) = false := fun n => by simp
    have hA : ∀ (X : Blk) (Y : List Blk), ((Seg.part f i).map gblk ++ X :: Y)[(Seg.part f i).length]? = some X := fun X Y => by
      rw [List.getElem?_append_right (by simp)]; simp
    have hA1 : ∀ (X Y : Blk) (Z : List Blk), ((Seg.part f i).map gblk ++ X :: Y :: Z)[(Seg.part f i).length + 1]? = some Y := fun X Y Z => by
      rw [List.getElem?_append_right (by simp)]; simp
    have hA2 : ∀ (X Y Z : Blk) (W : List Blk), ((Seg.part f i).map gblk ++ X :: Y :: Z :: W)[(Seg.part f i).length + 2]? = some Z := fun X Y Z W => by
      rw [List.getElem?_append_right (by simp)]; simp
    refine awp_seq ?_
    by_cases hfi : f i = i
    · have hpl : mfind (esFrom 0 (roots f i)) (.d (.int .i64 (f i))) = none := by
        rw [esFrom_find, hfi]
        exact place_new
      refine awpF_region ?_; intro K hK; simp only [push_cast, seval, hpl, hmk, hkw]
      (repeat ((with_reducible refine And.intro ?_ ?_); (focus (first | trivial | assumption | omega | (intro _ hrow; obtain ⟨_, _, rfl⟩ := List.mem_map.1 hrow; rfl) | ((intros; repeat' apply And.intro) <;> first | trivial | assumption | omega | (intro _ hrow; obtain ⟨_, _, rfl⟩ := List.mem_map.1 hrow; rfl) | (simp_all; done) | (simp_all; omega))))))
      refine hK _ ?_; clear hK; clear K
      refine awp_seq ?_
      refine awp_seq ?_
      refine awpF_region ?_; intro K hK; simp only [push_cast, seval]; (try simp (disch := omega) only [wrapI]); (repeat ((with_reducible refine And.intro ?_ ?_); (focus (first | trivial | assumption | omega | (intro _ hrow; obtain ⟨_, _, rfl⟩ := List.mem_map.1 hrow; rfl) | ((intros; repeat' apply And.intro) <;> first | trivial | assumption | omega | (intro _ hrow; obtain ⟨_, _, rfl⟩ := List.mem_map.1 hrow; rfl) | (simp_all; done) | (simp_all; omega)))))); refine hK _ ?_; clear hK; clear K
      apply awp_cond; (focus (simp only [push_cast, seval]; rfl))
      · intro h5; (try simp only [decide_eq_true_eq, decide_eq_false_iff_not, Bool.not_eq_true', Bool.not_eq_false', Bool.and_eq_true, Bool.or_eq_true, Bool.not_eq_true] at h5)
        refine awp_seq ?_
        refine awpF_region ?_; intro K hK; simp only [push_cast, seval]; (try simp (disch := omega) only [wrapI]); (repeat ((with_reducible refine And.intro ?_ ?_); (focus (first | trivial | assumption | omega | (intro _ hrow; obtain ⟨_, _, rfl⟩ := List.mem_map.1 hrow; rfl) | ((intros; repeat' apply And.intro) <;> first | trivial | assumption | omega | (intro _ hrow; obtain ⟨_, _, rfl⟩ := List.mem_map.1 hrow; rfl) | (simp_all; done) | (simp_all; omega)))))); refine hK _ ?_; clear hK; clear K
        have hrn : roots f (i + 1) = roots f i ++ [i] := by
          simp only [roots, List.range_succ, List.filter_append]
          simp [hfi]
        have hes : esFrom 0 (roots f i) ++ [(V.d (.int .i64 (f i : Int)), V.d (.int .i64 ((Seg.part f i).length : Int)))] = esFrom 0 (roots f (i + 1)) := by
          rw [hrn, esFrom_append, hfi, hgl, Nat.zero_add]
        refine awp_seq ?_
        refine awpF_region ?_; intro K hK; simp only [push_cast, seval, mput, hpl, hmk, hkw, hes]
        (repeat ((with_reducible refine And.intro ?_ ?_); (focus (first | trivial | assumption | omega | (intro _ hrow; obtain ⟨_, _, rfl⟩ := List.mem_map.1 hrow; rfl) | ((intros; repeat' apply And.intro) <;> first | trivial | assumption | omega | (intro _ hrow; obtain ⟨_, _, rfl⟩ := List.mem_map.1 hrow; rfl) | (simp_all; done) | (simp_all; omega))))))
        refine hK _ ?_; clear hK; clear K
        refine awpF_region ?_; intro K hK; simp only [push_cast, seval, hMs, hMs', hGs, htk, hrs4, hGl, hA, hne, List.length_append, List.append_assoc]
        (repeat ((with_reducible refine And.intro ?_ ?_); (focus (first | trivial | assumption | omega | (intro _ hrow; obtain ⟨_, _, rfl⟩ := List.mem_map.1 hrow; rfl) | ((intros; repeat' apply And.intro) <;> first | trivial | assumption | omega | (intro _ hrow; obtain ⟨_, _, rfl⟩ := List.mem_map.1 hrow; rfl) | (simp_all; done) | (simp_all; omega))))))
        refine hK _ ?_; clear hK; clear K
        have hga : (refs (Seg.part f i) ++ [[V.nil]])[(Seg.part f i).length]? = some [V.nil] := by
          rw [List.getElem?_append_right (by rw [refs_len]; exact Nat.le_refl _), refs_len]
          simp
        refine awpF_region ?_; intro K hK; simp only [push_cast, seval, hMs, hMs', hGs, hGl, hA, hA1, hA2, hga, hne, List.length_append, List.append_assoc]
        (repeat ((with_reducible refine And.intro ?_ ?_); (focus (first | trivial | assumption | omega | (intro _ hrow; obtain ⟨_, _, rfl⟩ := List.mem_map.1 hrow; rfl) | ((intros; repeat' apply And.intro) <;> first | trivial | assumption | omega | (intro _ hrow; obtain ⟨_, _, rfl⟩ := List.mem_map.1 hrow; rfl) | (simp_all; done) | (simp_all; omega))))))
        refine hK _ ?_; clear hK; clear K
        refine awpF_region ?_; intro K hK; simp only [push_cast, seval]; (try simp (disch := omega) only [wrapI]); (repeat ((with_reducible refine And.intro ?_ ?_); (focus (first | trivial | assumption | omega | (intro _ hrow; obtain ⟨_, _, rfl⟩ := List.mem_map.1 hrow; rfl) | ((intros; repeat' apply And.intro) <;> first | trivial | assumption | omega | (intro _ hrow; obtain ⟨_, _, rfl⟩ := List.mem_map.1 hrow; rfl) | (simp_all; done) | (simp_all; omega)))))); refine hK _ ?_; clear hK; clear K
        have hpn := part_new (i := i) (f := f) (fun k _ => hfle k) hfi
        have hrow : (refs (Seg.part f i) ++ [[V.nil]]).set (Seg.part f i).length [V.ref ((Seg.part f i).length + 2 + 1 + 1 + 1 + 1 + 1) 0 1] = refs (Seg.part f i) ++ [[V.ref ((Seg.part f i).length + 2 + 1 + 1 + 1 + 1 + 1) 0 1]] := by
          rw [List.set_append_right _ _ (by rw [refs_len]; exact Nat.le_refl _), refs_len, Nat.sub_self]
          rfl
        rw [hrow]
        have hrj : ∀ j, j < (Seg.part f i).length + 5 → (List.range ((Seg.part f i).length + 5) ++ [(Seg.part f i).length + 7])[j]? = some j := fun j hj => by
          rw [List.getElem?_append_left (by simpa using hj), List.getElem?_range hj]
        have hrg : (List.range ((Seg.part f i).length + 5) ++ [(Seg.part f i).length + 7])[(Seg.part f i).length + 5]? = some ((Seg.part f i).length + 7) := by
          rw [List.getElem?_append_right (by simp)]; simp
        refine round_endG (i + 1, up') (List.range ((Seg.part f i).length + 5) ++ [(Seg.part f i).length + 7]) ⟨?_, ⟨hlt, hul', hdn', hrt'⟩, ?_⟩
        · dsimp only; omega
        dsimp only
        rw [hpn]
        refine seg_ren _ ?_ (fun j hj => hrj j (by omega)) ?_ ?_ ?_ ?_ ?_
        · rw [List.nodup_append]
          refine ⟨List.nodup_range, by simp, fun a ha b hb => ?_⟩
          have := List.mem_range.1 ha
          simp at hb
          omega
        · simp
        · intro j gk hj
          rcases Nat.lt_or_ge j (Seg.part f i).length with h | h
          · rw [List.getElem?_append_left h] at hj
            refine ⟨j, hrj _ (by omega), ?_⟩
            rw [List.getElem?_append_left (by simpa using h), List.getElem?_map, hj]
            rfl
          · have h' := (List.getElem?_eq_some_iff.1 hj).1
            simp at h'
            have : j = (Seg.part f i).length := by omega
            subst this
            rw [List.getElem?_append_right (Nat.le_refl _)] at hj
            simp at hj
            subst hj
            exact ⟨_, hrg, hA2 _ _ _ _⟩
        · rw [refs_snoc, List.map_append, refs_ren_old hrj]
          simp only [List.map_cons, List.map_nil, renL_one, V.ren, List.getD_eq_getElem?_getD]
          rw [show (Seg.part f i).length + 1 + 1 + 1 + 1 + 1 = (Seg.part f i).length + 5 by omega, hrg]
          rfl
        · have e2 := hrj 2 (by omega)
          have e3 := hrj 3 (by omega)
          have e4 := hrj 4 (by omega)
          simp only [renTm, V.ren, List.getD_eq_getElem?_getD, e2, e3, e4]
          simp [push_cast, seval]
        · simp [push_cast, seval]
      · intro h5; (try simp only [decide_eq_true_eq, decide_eq_false_iff_not, Bool.not_eq_true', Bool.not_eq_false', Bool.and_eq_true, Bool.or_eq_true, Bool.not_eq_true] at h5)
        cases h5
    · have hfl : f i < i := by have := hfle i; omega
      obtain ⟨k, hpl0, hrk⟩ := place_old hfl (hfix i)
      have hpl : mfind (esFrom 0 (roots f i)) (.d (.int .i64 (f i))) = some k := by
        rw [esFrom_find]
        exact hpl0
      have hrk' : (roots f i)[k]? = some (f i) := hrk
      have hkl : k < (Seg.part f i).length := by
        rw [← hgl]
        exact (List.getElem?_eq_some_iff.1 hrk').1
      have hek : (esFrom 0 (roots f i))[k]? = some (.d (.int .i64 (f i)), .d (.int .i64 k)) := by
        rw [esFrom_get, hrk', Nat.zero_add]
        rfl
      obtain ⟨gk, hgk⟩ : ∃ gk, (Seg.part f i)[k]? = some gk := ⟨_, List.getElem?_eq_getElem hkl⟩
      have hgkl : gk.length ≤ i := by
        simp only [Seg.part, List.getElem?_map, Option.map_eq_some_iff] at hgk
        obtain ⟨r, _, rfl⟩ := hgk
        have := List.length_filter_le (fun k => f k == r) (List.range i)
        rwa [List.length_range] at this
      have hga := refs_get hgk
      have hsc := refs_scr hkl
      have hGk : ∀ X : List Blk, ((Seg.part f i).map gblk ++ X)[k]? = some (.data 1 (gk.map encN)) := fun X => by
        rw [List.getElem?_append_left (by simpa using hkl), List.getElem?_map, hgk]
        rfl
      have htk2 : (gk.map encN).take gk.length = gk.map encN := List.take_of_length_le (by simp)
      have z0 : ∀ n : Nat, (0 == n + 1 + 1 + 1 + 1 + 1) = false := fun n => by simp
      have z2 : ∀ n : Nat, (2 == n + 1 + 1 + 1 + 1 + 1) = false := fun n => by simp
      have z1 : ∀ n : Nat, (1 == n + 1 + 1 + 1 + 1 + 1) = false := fun n => by simp
      have z3 : ∀ n : Nat, (3 == n + 1 + 1 + 1 + 1 + 1) = false := fun n => by simp
      have z4 : ∀ n : Nat, (4 == n + 1 + 1 + 1 + 1 + 1) = false := fun n => by simp
      have zk : ((Seg.part f i).length + 1 + 1 + 1 + 1 + 1 == k + 1 + 1 + 1 + 1 + 1) = false := by simp; omega
      have hre : roots f (i + 1) = roots f i := by
        simp only [roots, List.range_succ, List.filter_append]
        simp [hfi]
      have hpo := part_old hfl hrk
      refine awpF_region ?_; intro K hK; simp only [push_cast, seval, hpl, hmk, hkw, hek]
      (repeat ((with_reducible refine And.intro ?_ ?_); (focus (first | trivial | assumption | omega | (intro _ hrow; obtain ⟨_, _, rfl⟩ := List.mem_map.1 hrow; rfl) | ((intros; repeat' apply And.intro) <;> first | trivial | assumption | omega | (intro _ hrow; obtain ⟨_, _, rfl⟩ := List.mem_map.1 hrow; rfl) | (simp_all; done) | (simp_all; omega))))))
      refine hK _ ?_; clear hK; clear K
      refine awp_seq ?_
      refine awp_seq ?_
      refine awpF_region ?_; intro K hK; simp only [push_cast, seval]; (try simp (disch := omega) only [wrapI]); (repeat ((with_reducible refine And.intro ?_ ?_); (focus (first | trivial | assumption | omega | (intro _ hrow; obtain ⟨_, _, rfl⟩ := List.mem_map.1 hrow; rfl) | ((intros; repeat' apply And.intro) <;> first | trivial | assumption | omega | (intro _ hrow; obtain ⟨_, _, rfl⟩ := List.mem_map.1 hrow; rfl) | (simp_all; done) | (simp_all; omega)))))); refine hK _ ?_; clear hK; clear K
      apply awp_cond; (focus (simp only [push_cast, seval]; rfl))
      · intro h5; (try simp only [decide_eq_true_eq, decide_eq_false_iff_not, Bool.not_eq_true', Bool.not_eq_false', Bool.and_eq_true, Bool.or_eq_true, Bool.not_eq_true] at h5)
        cases h5
      · intro h5; (try simp only [decide_eq_true_eq, decide_eq_false_iff_not, Bool.not_eq_true', Bool.not_eq_false', Bool.and_eq_true, Bool.or_eq_true, Bool.not_eq_true] at h5)
        refine awp_skip ?_
        refine awpF_region ?_; intro K hK; simp only [push_cast, seval, hMs, hMs', hGs, hGl, hA, hga, hsc, hGk, htk2, z0, z1, z2, z3, z4, zk, beq_self_eq_true, List.set_set, List.length_append]
        (repeat ((with_reducible refine And.intro ?_ ?_); (focus (first | trivial | assumption | omega | (intro _ hrow; obtain ⟨_, _, rfl⟩ := List.mem_map.1 hrow; rfl) | ((intros; repeat' apply And.intro) <;> first | trivial | assumption | omega | (intro _ hrow; obtain ⟨_, _, rfl⟩ := List.mem_map.1 hrow; rfl) | (simp_all; done) | (simp_all; omega))))))
        refine hK _ ?_; clear hK; clear K
        refine awpF_region ?_; intro K hK; simp only [push_cast, seval]; (try simp (disch := omega) only [wrapI]); (repeat ((with_reducible refine And.intro ?_ ?_); (focus (first | trivial | assumption | omega | (intro _ hrow; obtain ⟨_, _, rfl⟩ := List.mem_map.1 hrow; rfl) | ((intros; repeat' apply And.intro) <;> first | trivial | assumption | omega | (intro _ hrow; obtain ⟨_, _, rfl⟩ := List.mem_map.1 hrow; rfl) | (simp_all; done) | (simp_all; omega)))))); refine hK _ ?_; clear hK; clear K
        have hrj : ∀ j, j < (Seg.part f i).length + 5 → (List.range ((Seg.part f i).length + 5))[j]? = some j := fun j hj => List.getElem?_range hj
        have hml : (Seg.part f (i + 1)).length = (Seg.part f i).length := by rw [hpo, List.length_modify]
        refine round_endG (i + 1, up') (List.range ((Seg.part f i).length + 5)) ⟨?_, ⟨hlt, hul', hdn', hrt'⟩, ?_⟩
        · dsimp only; omega
        dsimp only
        rw [hml, hre, hpo]
        refine seg_ren _ List.nodup_range (fun j hj => hrj j (by omega)) ?_ ?_ ?_ ?_ ?_
        · simp
        · intro j gj hj
          have h' := (List.getElem?_eq_some_iff.1 hj).1
          rw [List.length_modify] at h'
          refine ⟨j, hrj _ (by omega), ?_⟩
          rw [List.getElem?_modify] at hj
          rw [List.getElem?_set]
          by_cases hkj : k = j
          · subst hkj
            rw [if_pos rfl, if_pos (by simp; omega)]
            rw [hgk] at hj
            simp only [if_true, Option.map_eq_map, Option.map_some, Option.some.injEq] at hj
            subst hj
            simp [gblk, encN]
          · rw [if_neg hkj]
            simp only [hkj, if_false, Option.map_eq_map, Option.map_id', id] at hj
            have hj : (Seg.part f i)[j]? = some gj := by simpa using hj
            rw [List.getElem?_append_left (by simpa using h'), List.getElem?_map, hj]
            rfl
        · rw [refs_ren_old (by rw [List.length_modify]; exact hrj), refs_modify hgk]
        · have e2 := hrj 2 (by omega)
          have e3 := hrj 3 (by omega)
          have e4 := hrj 4 (by omega)
          simp only [renTm, V.ren, List.getD_eq_getElem?_getD, e2, e3, e4]
          simp [push_cast, seval]
        · simp [push_cast, seval]
  · intro h4; (try simp only [decide_eq_true_eq, decide_eq_false_iff_not, Bool.not_eq_true', Bool.not_eq_false', Bool.and_eq_true, Bool.or_eq_true, Bool.not_eq_true] at h4)
    have hie : i = ps.length := by omega
    subst hie
    refine awp_exit ?_; (repeat (first | refine then_exit ?_ | refine inblock_other (by decide) ?_)); refine inblock_same ?_
    refine awp_seq ?_
    refine awpF_region ?_; intro K hK; simp only [push_cast, seval]; (try simp (disch := omega) only [wrapI]); (repeat ((with_reducible refine And.intro ?_ ?_); (focus (first | trivial | assumption | omega | (intro _ hrow; obtain ⟨_, _, rfl⟩ := List.mem_map.1 hrow; rfl) | ((intros; repeat' apply And.intro) <;> first | trivial | assumption | omega | (intro _ hrow; obtain ⟨_, _, rfl⟩ := List.mem_map.1 hrow; rfl) | (simp_all; done) | (simp_all; omega)))))); refine hK _ ?_; clear hK; clear K
    refine awp_ret ?_; (repeat (first | refine then_ret ?_ | refine inblock_ret ?_)); refine fin_of (by simp only [push_cast, seval]; first | done | rfl) (by first | trivial | first | trivial | assumption | omega | (intro _ hrow; obtain ⟨_, _, rfl⟩ := List.mem_map.1 hrow; rfl) | ((intros; repeat' apply And.intro) <;> first | trivial | assumption | omega | (intro _ hrow; obtain ⟨_, _, rfl⟩ := List.mem_map.1 hrow; rfl) | (simp_all; done) | (simp_all; omega))) ?_
    rw [hf]
    refine deep_tup2 (deep_groups rfl fun j g hg => ?_) (.d _)
    show ((Seg.part f ps.length).map gblk)[j]? = _
    simp [hg]

end Go.Aw
