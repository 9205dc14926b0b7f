/-
  Contracts of the program's great numbers: additions, subtractions, products with a word, in place. Conditions: words in range, lengths that fit.
-/
import Derived.Test.YtmmnjelmahcbaaaN1
namespace Go.Aw
set_option linter.unusedSimpArgs false
set_option linter.unusedVariables false
open Go.RowKit Go.Proofs Go.Nt

/-- The first k words, with 0 where there are none. -/
def padW (l : List Nat) (k : Nat) : List Nat := (List.range k).map fun i => l[i]?.getD 0
theorem padW_len (l : List Nat) (k : Nat) : (padW l k).length = k := by simp [padW]
theorem padW_succ (l : List Nat) (k : Nat) : padW l (k + 1) = padW l k ++ [l[k]?.getD 0] := by simp [padW, List.range_succ]
theorem padW_all (B : Nat) : ∀ (l : List Nat) (k : Nat), l.length ≤ k → val B (padW l k) = val B l := by
  intro l k h
  have : padW l k = l ++ List.replicate (k - l.length) 0 := by
    apply List.ext_getElem
    · simp [padW]; omega
    · intro i h1 h2
      simp only [padW, List.getElem_map, List.getElem_range, List.getElem_append]
      split
      · rename_i h3; simp [h3]
      · rename_i h3; simp [List.getElem?_eq_none (Nat.le_of_not_lt h3)]
  rw [this, val_append, val_rep]; simp
theorem padW_id (l : List Nat) : padW l l.length = l := by
  apply List.ext_getElem
  · simp [padW]
  · intro i h1 h2
    simp [padW, h2]
theorem getD_lt {B : Nat} (hB : 0 < B) {l : List Nat} (h : Ok B l) (k : Nat) : l[k]?.getD 0 < B := by
  cases hk : l[k]? with
  | none => exact hB
  | some x => exact h x (List.mem_of_getElem? hk)

/-- The row while its first words are told anew. -/
def mixW (u l : List Nat) : List (List D) := (u ++ l.drop u.length).map encW
theorem mixW_len {u l : List Nat} (h : u.length ≤ l.length) : (mixW u l).length = l.length := by simp [mixW]; omega
theorem mixW_get {u l : List Nat} (h : u.length < l.length) : (mixW u l)[u.length]? = some (encW (l[u.length]?.getD 0)) := by
  unfold mixW
  rw [List.getElem?_map, List.getElem?_append_right (Nat.le_refl _), Nat.sub_self, List.getElem?_drop, Nat.add_zero]
  simp [h]
theorem mixW_set {u l : List Nat} (x : Nat) (h : u.length < l.length) : (mixW u l).set u.length (encW x) = mixW (u ++ [x]) l := by
  simp only [mixW, List.map_append, List.map_cons, List.map_nil, List.length_append, List.length_cons, List.length_nil, List.append_assoc]
  rw [List.set_append_right _ _ (by simp)]
  congr 1
  rw [List.length_map, Nat.sub_self, List.drop_eq_getElem_cons h]
  rfl
theorem mixW_row {u l : List Nat} {row : List D} (h : row ∈ mixW u l) : row.length = 1 ∧ row.all D.leaf = true := encW_row h
theorem mixW_nil (l : List Nat) : mixW [] l = l.map encW := by simp [mixW]
theorem mixW_all {u l : List Nat} (h : u.length = l.length) : mixW u l = u.map encW := by simp [mixW, h]

theorem a100 (l ys : List Nat) (hl : Ok B64 l) (hy : Ok B64 ys) (hle : ys.length ≤ l.length) (hn : l.length ≤ 1000000) : AC Try.prog 100 [.ref 0 0 l.length, .d (.sl (ys.map encW))] [.data 1 (l.map encW)] [0]
    fun x H => ∃ (m : List Nat) (c : Nat), x = .d (.int .u64 c) ∧ H = [.data 1 (m.map encW)] ∧ m.length = l.length ∧ Ok B64 m ∧ c ≤ 1 ∧ val B64 m + B64 ^ l.length * c = val B64 l + val B64 ys := by
  refine ac_ofF (fn := Try.f100) [.tmp 4] (by kernel_rfl) rfl (by kernel_rfl) (Nat.le_of_ble_eq_true rfl) (by kernel_rfl) rfl ?_
  refine awp_seq ?_
  refine awpF_region ?_; intro K hK; simp only [push_cast, seval]; (try simp (disch := omega) only [wrapI]); (repeat ((with_reducible refine And.intro ?_ ?_); (focus (first | omega | trivial | assumption | (intro _ hrow; obtain ⟨_, _, rfl⟩ := List.mem_map.1 hrow; rfl) | ((intros; repeat' apply And.intro) <;> first | omega | trivial | assumption | (intro _ hrow; obtain ⟨_, _, rfl⟩ := List.mem_map.1 hrow; rfl) | (simp_all; done) | (simp_all; omega)))))); refine hK _ ?_; clear hK; clear K
  refine awp_seq ?_
  refine awp_seq ?_
  refine awpF_region ?_; intro K hK; simp only [push_cast, seval]; (try simp (disch := omega) only [wrapI]); (repeat ((with_reducible refine And.intro ?_ ?_); (focus (first | omega | trivial | assumption | (intro _ hrow; obtain ⟨_, _, rfl⟩ := List.mem_map.1 hrow; rfl) | ((intros; repeat' apply And.intro) <;> first | omega | trivial | assumption | (intro _ hrow; obtain ⟨_, _, rfl⟩ := List.mem_map.1 hrow; rfl) | (simp_all; done) | (simp_all; omega)))))); refine hK _ ?_; clear hK; clear K
  refine awp_block ?_
  refine awp_loopP (st := fun (p : List Nat × Nat) => ⟨[(0, .ref 0 0 l.length), (1, .d (.sl (ys.map encW))), (4, .d (.int .u64 p.2)), (8, .d (.int .i64 l.length)), (9, .d (.int .i64 p.1.length))], [.data 1 (mixW p.1 l)]⟩)
    (inv := fun p => p.1.length ≤ l.length ∧ Ok B64 p.1 ∧ p.2 ≤ 1 ∧ val B64 p.1 + B64 ^ p.1.length * p.2 = val B64 (padW l p.1.length) + val B64 (padW ys p.1.length)) (μ := fun p => l.length - p.1.length) (x0 := ([], 0)) (r0 := [0]) ?_ ?_ ?_
  · exact ⟨Nat.zero_le _, fun x hx => (by cases hx), Nat.zero_le _, by simp [padW, val]⟩
  · simp only [mixW_nil]; exact ⟨by simp, by simp, by simp [push_cast, seval], by simp [push_cast, seval], by simp [push_cast, seval], by simp [push_cast, seval]⟩
  rintro ⟨u, c⟩ ⟨hul, hu, hc, hv⟩
  dsimp only at hul hu hc hv
  refine awp_seq ?_
  refine awpF_region ?_; intro K hK; simp only [push_cast, seval]; (try simp (disch := omega) only [wrapI]); (repeat ((with_reducible refine And.intro ?_ ?_); (focus (first | omega | trivial | assumption | (intro _ hrow; obtain ⟨_, _, rfl⟩ := List.mem_map.1 hrow; rfl) | ((intros; repeat' apply And.intro) <;> first | omega | trivial | assumption | (intro _ hrow; obtain ⟨_, _, rfl⟩ := List.mem_map.1 hrow; rfl) | (simp_all; done) | (simp_all; omega)))))); refine hK _ ?_; clear hK; clear K
  refine awp_seq ?_
  apply awp_cond; (focus (simp only [push_cast, seval]; rfl))
  · intro h1; (try simp only [decide_eq_true_eq, decide_eq_false_iff_not, Bool.not_eq_true', Bool.not_eq_false', Bool.and_eq_true, Bool.or_eq_true, Bool.not_eq_true] at h1)
    refine awp_skip ?_
    have hlt : u.length < l.length := by omega
    have hg := mixW_get hlt
    refine awp_seq ?_
    refine awp_block ?_
    refine awp_seq ?_
    refine awpF_region ?_; intro K hK; simp only [push_cast, seval]; (try simp (disch := omega) only [wrapI]); (repeat ((with_reducible refine And.intro ?_ ?_); (focus (first | omega | trivial | assumption | (intro _ hrow; obtain ⟨_, _, rfl⟩ := List.mem_map.1 hrow; rfl) | ((intros; repeat' apply And.intro) <;> first | omega | trivial | assumption | (intro _ hrow; obtain ⟨_, _, rfl⟩ := List.mem_map.1 hrow; rfl) | (simp_all; done) | (simp_all; omega)))))); refine hK _ ?_; clear hK; clear K
    refine awp_seq ?_
    refine awpF_region ?_; intro K hK; simp only [push_cast, seval]; (try simp (disch := omega) only [wrapI]); (repeat ((with_reducible refine And.intro ?_ ?_); (focus (first | omega | trivial | assumption | (intro _ hrow; obtain ⟨_, _, rfl⟩ := List.mem_map.1 hrow; rfl) | ((intros; repeat' apply And.intro) <;> first | omega | trivial | assumption | (intro _ hrow; obtain ⟨_, _, rfl⟩ := List.mem_map.1 hrow; rfl) | (simp_all; done) | (simp_all; omega)))))); refine hK _ ?_; clear hK; clear K
    refine awp_mid (fun t => t = ⟨[(0, .ref 0 0 l.length), (1, .d (.sl (ys.map encW))), (4, .d (.int .u64 c)), (5, .d (.int .i64 u.length)), (6, .d (.int .u64 (ys[u.length]?.getD 0 : Nat))), (8, .d (.int .i64 l.length)), (9, .d (.int .i64 u.length))], [.data 1 (mixW u l)]⟩) ?_ ?_
    · refine awp_seq ?_
      refine awpF_region ?_; intro K hK; simp only [push_cast, seval]; (try simp (disch := omega) only [wrapI]); (repeat ((with_reducible refine And.intro ?_ ?_); (focus (first | omega | trivial | assumption | (intro _ hrow; obtain ⟨_, _, rfl⟩ := List.mem_map.1 hrow; rfl) | ((intros; repeat' apply And.intro) <;> first | omega | trivial | assumption | (intro _ hrow; obtain ⟨_, _, rfl⟩ := List.mem_map.1 hrow; rfl) | (simp_all; done) | (simp_all; omega)))))); refine hK _ ?_; clear hK; clear K
      apply awp_cond; (focus (simp only [push_cast, seval]; rfl))
      · intro h2; (try simp only [decide_eq_true_eq, decide_eq_false_iff_not, Bool.not_eq_true', Bool.not_eq_false', Bool.and_eq_true, Bool.or_eq_true, Bool.not_eq_true] at h2)
        have hy2 : ys[u.length]? = some (ys[u.length]'(by omega)) := List.getElem?_eq_getElem _
        refine awpF_region ?_; intro K hK; simp only [push_cast, seval, hy2, encW, Int.toNat_natCast]
        (repeat ((with_reducible refine And.intro ?_ ?_); (focus (first | omega | trivial | assumption | (intro _ hrow; obtain ⟨_, _, rfl⟩ := List.mem_map.1 hrow; rfl) | ((intros; repeat' apply And.intro) <;> first | omega | trivial | assumption | (intro _ hrow; obtain ⟨_, _, rfl⟩ := List.mem_map.1 hrow; rfl) | (simp_all; done) | (simp_all; omega))))))
        refine hK _ ?_; clear hK; clear K
        refine mid_end [0] _ rfl ?_
        rw [hy2]
        exact ⟨by simp, by simp, by simp [push_cast, seval], by simp [push_cast, seval], by simp [push_cast, seval], by simp [push_cast, seval]⟩
      · intro h2; (try simp only [decide_eq_true_eq, decide_eq_false_iff_not, Bool.not_eq_true', Bool.not_eq_false', Bool.and_eq_true, Bool.or_eq_true, Bool.not_eq_true] at h2)
        have hy2 : ys[u.length]? = none := List.getElem?_eq_none (by omega)
        refine awp_skip ?_
        refine mid_end [0] _ rfl ?_
        rw [hy2]
        exact ⟨by simp, by simp, by simp [push_cast, seval], by simp [push_cast, seval], by simp [push_cast, seval], by simp [push_cast, seval]⟩
    rintro _ rfl
    have hla : l[u.length]?.getD 0 < 18446744073709551616 := getD_lt (by decide) hl u.length
    have hwb : ys[u.length]?.getD 0 < 18446744073709551616 := getD_lt (by decide) hy u.length
    have hset := mixW_set ((l[u.length]?.getD 0 + ys[u.length]?.getD 0 + c) % B64) hlt
    have hadd := add_step (B := B64) (a := l[u.length]?.getD 0) (b := ys[u.length]?.getD 0) (s := (l[u.length]?.getD 0 + ys[u.length]?.getD 0 + c) % B64) (c' := (l[u.length]?.getD 0 + ys[u.length]?.getD 0 + c) / B64) (by decide) (by rw [padW_len]) (by rw [padW_len]) hv (Nat.mod_add_div _ _)
    rw [← padW_succ, ← padW_succ] at hadd
    generalize hw : ys[u.length]?.getD 0 = w at hwb hset hadd ⊢
    generalize ha : l[u.length]?.getD 0 = a at hla hset hadd hg ⊢
    have e1 : ((a : Int) + w + c) / 18446744073709551616 = (((a + w + c) / B64 : Nat) : Int) := by simp
    have e2 : ((a : Int) + w + c) % 18446744073709551616 = (((a + w + c) % B64 : Nat) : Int) := by simp
    refine awpF_region ?_; intro K hK; simp only [push_cast, seval, mixW_len hul, hg, encW, Int.toNat_natCast]
    rw [e1, e2]
    (repeat ((with_reducible refine And.intro ?_ ?_); (focus (first | omega | trivial | assumption | (intro _ hrow; obtain ⟨_, _, rfl⟩ := List.mem_map.1 hrow; rfl) | ((intros; repeat' apply And.intro) <;> first | omega | trivial | assumption | (intro _ hrow; obtain ⟨_, _, rfl⟩ := List.mem_map.1 hrow; rfl) | (simp_all; done) | (simp_all; omega))))))
    refine hK _ ?_; clear hK; clear K
    refine inblock_norm ?_
    have hs := Nat.mod_lt (a + w + c) (show 0 < B64 by decide)
    have hc2 : (a + w + c) / B64 ≤ 1 := by omega
    rw [show [D.int IntKind.u64 (((a + w + c) % B64 : Nat) : Int)] = encW ((a + w + c) % B64) from rfl, hset]
    clear hset e1 e2
    generalize (a + w + c) % B64 = s at hs hadd ⊢
    generalize (a + w + c) / B64 = c' at hc2 hadd ⊢
    refine awpF_region ?_; intro K hK; simp only [push_cast, seval]; (try simp (disch := omega) only [wrapI]); (repeat ((with_reducible refine And.intro ?_ ?_); (focus (first | omega | trivial | assumption | (intro _ hrow; obtain ⟨_, _, rfl⟩ := List.mem_map.1 hrow; rfl) | ((intros; repeat' apply And.intro) <;> first | omega | trivial | assumption | (intro _ hrow; obtain ⟨_, _, rfl⟩ := List.mem_map.1 hrow; rfl) | (simp_all; done) | (simp_all; omega)))))); refine hK _ ?_; clear hK; clear K
    refine round_end (y := (u ++ [s], c')) (r := [0]) (by simp; omega) ⟨by simp; omega, hu.app (.one hs), hc2, by simpa only [List.length_append, List.length_cons, List.length_nil] using hadd⟩ ?_
    exact ⟨by simp, by simp, by simp [push_cast, seval], by simp [push_cast, seval], by simp [push_cast, seval], by simp [push_cast, seval]⟩
  · intro h1; (try simp only [decide_eq_true_eq, decide_eq_false_iff_not, Bool.not_eq_true', Bool.not_eq_false', Bool.and_eq_true, Bool.or_eq_true, Bool.not_eq_true] at h1)
    have he : u.length = l.length := by omega
    refine awp_exit ?_; (repeat (first | refine then_exit ?_ | refine inblock_other (by decide) ?_)); refine inblock_same ?_
    refine awp_seq ?_
    refine awpF_region ?_; intro K hK; simp only [push_cast, seval]; (try simp (disch := omega) only [wrapI]); (repeat ((with_reducible refine And.intro ?_ ?_); (focus (first | omega | trivial | assumption | (intro _ hrow; obtain ⟨_, _, rfl⟩ := List.mem_map.1 hrow; rfl) | ((intros; repeat' apply And.intro) <;> first | omega | trivial | assumption | (intro _ hrow; obtain ⟨_, _, rfl⟩ := List.mem_map.1 hrow; rfl) | (simp_all; done) | (simp_all; omega)))))); refine hK _ ?_; clear hK; clear K
    refine awp_ret ?_; (repeat (first | refine then_ret ?_ | refine inblock_ret ?_)); refine fin_of (by simp only [push_cast, seval]; first | done | rfl) (by first | trivial | first | omega | trivial | assumption | (intro _ hrow; obtain ⟨_, _, rfl⟩ := List.mem_map.1 hrow; rfl) | ((intros; repeat' apply And.intro) <;> first | omega | trivial | assumption | (intro _ hrow; obtain ⟨_, _, rfl⟩ := List.mem_map.1 hrow; rfl) | (simp_all; done) | (simp_all; omega))) ?_
    rw [he, padW_id, padW_all B64 ys _ hle] at hv
    exact ⟨u, c, rfl, by rw [mixW_all he], he, hu, hc, hv⟩

/-- One word less another one and a borrow. -/
theorem sub_word {a b c : Nat} (ha : a < 18446744073709551616) (hb : b < 18446744073709551616) (hc : c ≤ 1) : ∃ s c' : Nat, s < B64 ∧ c' ≤ 1 ∧ s + b + c = a + B64 * c' ∧
    (if (a : Int) < b + c then (1 : Int) else 0) = (c' : Int) ∧ ((a : Int) - b - c) % 18446744073709551616 = (s : Int) := by
  by_cases h : (a : Int) < b + c
  · refine ⟨a + 18446744073709551616 - b - c, 1, ?_, Nat.le_refl _, ?_, by simp [h], ?_⟩ <;> (try simp only [B64]) <;> omega
  · refine ⟨a - b - c, 0, ?_, Nat.zero_le _, ?_, by simp [h], ?_⟩ <;> (try simp only [B64]) <;> omega

theorem a94 (l ys : List Nat) (hl : Ok B64 l) (hy : Ok B64 ys) (hle : ys.length ≤ l.length) (hn : l.length ≤ 1000000) : AC Try.prog 94 [.ref 0 0 l.length, .d (.sl (ys.map encW))] [.data 1 (l.map encW)] [0]
    fun x H => ∃ (m : List Nat) (c : Nat), x = .d (.int .u64 c) ∧ H = [.data 1 (m.map encW)] ∧ m.length = l.length ∧ Ok B64 m ∧ c ≤ 1 ∧ val B64 m + val B64 ys = val B64 l + B64 ^ l.length * c := by
  refine ac_ofF (fn := Try.f94) [.tmp 4] (by kernel_rfl) rfl (by kernel_rfl) (Nat.le_of_ble_eq_true rfl) (by kernel_rfl) rfl ?_
  refine awp_seq ?_
  refine awpF_region ?_; intro K hK; simp only [push_cast, seval]; (try simp (disch := omega) only [wrapI]); (repeat ((with_reducible refine And.intro ?_ ?_); (focus (first | omega | trivial | assumption | (intro _ hrow; obtain ⟨_, _, rfl⟩ := List.mem_map.1 hrow; rfl) | ((intros; repeat' apply And.intro) <;> first | omega | trivial | assumption | (intro _ hrow; obtain ⟨_, _, rfl⟩ := List.mem_map.1 hrow; rfl) | (simp_all; done) | (simp_all; omega)))))); refine hK _ ?_; clear hK; clear K
  refine awp_seq ?_
  refine awp_seq ?_
  refine awpF_region ?_; intro K hK; simp only [push_cast, seval]; (try simp (disch := omega) only [wrapI]); (repeat ((with_reducible refine And.intro ?_ ?_); (focus (first | omega | trivial | assumption | (intro _ hrow; obtain ⟨_, _, rfl⟩ := List.mem_map.1 hrow; rfl) | ((intros; repeat' apply And.intro) <;> first | omega | trivial | assumption | (intro _ hrow; obtain ⟨_, _, rfl⟩ := List.mem_map.1 hrow; rfl) | (simp_all; done) | (simp_all; omega)))))); refine hK _ ?_; clear hK; clear K
  refine awp_block ?_
  refine awp_loopP (st := fun (p : List Nat × Nat) => ⟨[(0, .ref 0 0 l.length), (1, .d (.sl (ys.map encW))), (4, .d (.int .u64 p.2)), (8, .d (.int .i64 l.length)), (9, .d (.int .i64 p.1.length))], [.data 1 (mixW p.1 l)]⟩)
    (inv := fun p => p.1.length ≤ l.length ∧ Ok B64 p.1 ∧ p.2 ≤ 1 ∧ val B64 p.1 + val B64 (padW ys p.1.length) = val B64 (padW l p.1.length) + B64 ^ p.1.length * p.2) (μ := fun p => l.length - p.1.length) (x0 := ([], 0)) (r0 := [0]) ?_ ?_ ?_
  · exact ⟨Nat.zero_le _, fun x hx => (by cases hx), Nat.zero_le _, by simp [padW, val]⟩
  · simp only [mixW_nil]; exact ⟨by simp, by simp, by simp [push_cast, seval], by simp [push_cast, seval], by simp [push_cast, seval], by simp [push_cast, seval]⟩
  rintro ⟨u, c⟩ ⟨hul, hu, hc, hv⟩
  dsimp only at hul hu hc hv
  refine awp_seq ?_
  refine awpF_region ?_; intro K hK; simp only [push_cast, seval]; (try simp (disch := omega) only [wrapI]); (repeat ((with_reducible refine And.intro ?_ ?_); (focus (first | omega | trivial | assumption | (intro _ hrow; obtain ⟨_, _, rfl⟩ := List.mem_map.1 hrow; rfl) | ((intros; repeat' apply And.intro) <;> first | omega | trivial | assumption | (intro _ hrow; obtain ⟨_, _, rfl⟩ := List.mem_map.1 hrow; rfl) | (simp_all; done) | (simp_all; omega)))))); refine hK _ ?_; clear hK; clear K
  refine awp_seq ?_
  apply awp_cond; (focus (simp only [push_cast, seval]; rfl))
  · intro h1; (try simp only [decide_eq_true_eq, decide_eq_false_iff_not, Bool.not_eq_true', Bool.not_eq_false', Bool.and_eq_true, Bool.or_eq_true, Bool.not_eq_true] at h1)
    refine awp_skip ?_
    have hlt : u.length < l.length := by omega
    have hg := mixW_get hlt
    refine awp_seq ?_
    refine awp_block ?_
    refine awp_seq ?_
    refine awpF_region ?_; intro K hK; simp only [push_cast, seval]; (try simp (disch := omega) only [wrapI]); (repeat ((with_reducible refine And.intro ?_ ?_); (focus (first | omega | trivial | assumption | (intro _ hrow; obtain ⟨_, _, rfl⟩ := List.mem_map.1 hrow; rfl) | ((intros; repeat' apply And.intro) <;> first | omega | trivial | assumption | (intro _ hrow; obtain ⟨_, _, rfl⟩ := List.mem_map.1 hrow; rfl) | (simp_all; done) | (simp_all; omega)))))); refine hK _ ?_; clear hK; clear K
    refine awp_seq ?_
    refine awpF_region ?_; intro K hK; simp only [push_cast, seval]; (try simp (disch := omega) only [wrapI]); (repeat ((with_reducible refine And.intro ?_ ?_); (focus (first | omega | trivial | assumption | (intro _ hrow; obtain ⟨_, _, rfl⟩ := List.mem_map.1 hrow; rfl) | ((intros; repeat' apply And.intro) <;> first | omega | trivial | assumption | (intro _ hrow; obtain ⟨_, _, rfl⟩ := List.mem_map.1 hrow; rfl) | (simp_all; done) | (simp_all; omega)))))); refine hK _ ?_; clear hK; clear K
    refine awp_mid (fun t => t = ⟨[(0, .ref 0 0 l.length), (1, .d (.sl (ys.map encW))), (4, .d (.int .u64 c)), (5, .d (.int .i64 u.length)), (6, .d (.int .u64 (ys[u.length]?.getD 0 : Nat))), (8, .d (.int .i64 l.length)), (9, .d (.int .i64 u.length))], [.data 1 (mixW u l)]⟩) ?_ ?_
    · refine awp_seq ?_
      refine awpF_region ?_; intro K hK; simp only [push_cast, seval]; (try simp (disch := omega) only [wrapI]); (repeat ((with_reducible refine And.intro ?_ ?_); (focus (first | omega | trivial | assumption | (intro _ hrow; obtain ⟨_, _, rfl⟩ := List.mem_map.1 hrow; rfl) | ((intros; repeat' apply And.intro) <;> first | omega | trivial | assumption | (intro _ hrow; obtain ⟨_, _, rfl⟩ := List.mem_map.1 hrow; rfl) | (simp_all; done) | (simp_all; omega)))))); refine hK _ ?_; clear hK; clear K
      apply awp_cond; (focus (simp only [push_cast, seval]; rfl))
      · intro h2; (try simp only [decide_eq_true_eq, decide_eq_false_iff_not, Bool.not_eq_true', Bool.not_eq_false', Bool.and_eq_true, Bool.or_eq_true, Bool.not_eq_true] at h2)
        have hy2 : ys[u.length]? = some (ys[u.length]'(by omega)) := List.getElem?_eq_getElem _
        refine awpF_region ?_; intro K hK; simp only [push_cast, seval, hy2, encW, Int.toNat_natCast]
        (repeat ((with_reducible refine And.intro ?_ ?_); (focus (first | omega | trivial | assumption | (intro _ hrow; obtain ⟨_, _, rfl⟩ := List.mem_map.1 hrow; rfl) | ((intros; repeat' apply And.intro) <;> first | omega | trivial | assumption | (intro _ hrow; obtain ⟨_, _, rfl⟩ := List.mem_map.1 hrow; rfl) | (simp_all; done) | (simp_all; omega))))))
        refine hK _ ?_; clear hK; clear K
        refine mid_end [0] _ rfl ?_
        rw [hy2]
        exact ⟨by simp, by simp, by simp [push_cast, seval], by simp [push_cast, seval], by simp [push_cast, seval], by simp [push_cast, seval]⟩
      · intro h2; (try simp only [decide_eq_true_eq, decide_eq_false_iff_not, Bool.not_eq_true', Bool.not_eq_false', Bool.and_eq_true, Bool.or_eq_true, Bool.not_eq_true] at h2)
        have hy2 : ys[u.length]? = none := List.getElem?_eq_none (by omega)
        refine awp_skip ?_
        refine mid_end [0] _ rfl ?_
        rw [hy2]
        exact ⟨by simp, by simp, by simp [push_cast, seval], by simp [push_cast, seval], by simp [push_cast, seval], by simp [push_cast, seval]⟩
    rintro _ rfl
    have hla : l[u.length]?.getD 0 < 18446744073709551616 := getD_lt (by decide) hl u.length
    have hwb : ys[u.length]?.getD 0 < 18446744073709551616 := getD_lt (by decide) hy u.length
    obtain ⟨s, c', hs, hc2, hst, e1, e2⟩ := sub_word hla hwb hc
    have hset := mixW_set s hlt
    have hadd := sub_step (B := B64) (by decide) (by rw [padW_len]) (by rw [padW_len]) hv hst
    rw [← padW_succ, ← padW_succ] at hadd
    generalize hw : ys[u.length]?.getD 0 = w at hwb hadd e1 e2 ⊢
    generalize ha : l[u.length]?.getD 0 = a at hla hadd hg e1 e2 ⊢
    refine awpF_region ?_; intro K hK; simp only [push_cast, seval, mixW_len hul, hg, encW, Int.toNat_natCast]
    try rw [e1, e2]
    trace_state
    (repeat ((with_reducible refine And.intro ?_ ?_); (focus (first | omega | trivial | assumption | (intro _ hrow; obtain ⟨_, _, rfl⟩ := List.mem_map.1 hrow; rfl) | ((intros; repeat' apply And.intro) <;> first | omega | trivial | assumption | (intro _ hrow; obtain ⟨_, _, rfl⟩ := List.mem_map.1 hrow; rfl) | (simp_all; done) | (simp_all; omega))))))
    refine hK _ ?_; clear hK; clear K
    refine inblock_norm ?_
    rw [show [D.int IntKind.u64 ((s : Nat) : Int)] = encW s from rfl, hset]
    clear hset e1 e2
    refine awpF_region ?_; intro K hK; simp only [push_cast, seval]; (try simp (disch := omega) only [wrapI]); (repeat ((with_reducible refine And.intro ?_ ?_); (focus (first | omega | trivial | assumption | (intro _ hrow; obtain ⟨_, _, rfl⟩ := List.mem_map.1 hrow; rfl) | ((intros; repeat' apply And.intro) <;> first | omega | trivial | assumption | (intro _ hrow; obtain ⟨_, _, rfl⟩ := List.mem_map.1 hrow; rfl) | (simp_all; done) | (simp_all; omega)))))); refine hK _ ?_; clear hK; clear K
    refine round_end (y := (u ++ [s], c')) (r := [0]) (by simp; omega) ⟨by simp; omega, hu.app (.one hs), hc2, by simpa only [List.length_append, List.length_cons, List.length_nil] using hadd⟩ ?_
    exact ⟨by simp, by simp, by simp [push_cast, seval], by simp [push_cast, seval], by simp [push_cast, seval], by simp [push_cast, seval]⟩
  · intro h1; (try simp only [decide_eq_true_eq, decide_eq_false_iff_not, Bool.not_eq_true', Bool.not_eq_false', Bool.and_eq_true, Bool.or_eq_true, Bool.not_eq_true] at h1)
    have he : u.length = l.length := by omega
    refine awp_exit ?_; (repeat (first | refine then_exit ?_ | refine inblock_other (by decide) ?_)); refine inblock_same ?_
    refine awp_seq ?_
    refine awpF_region ?_; intro K hK; simp only [push_cast, seval]; (try simp (disch := omega) only [wrapI]); (repeat ((with_reducible refine And.intro ?_ ?_); (focus (first | omega | trivial | assumption | (intro _ hrow; obtain ⟨_, _, rfl⟩ := List.mem_map.1 hrow; rfl) | ((intros; repeat' apply And.intro) <;> first | omega | trivial | assumption | (intro _ hrow; obtain ⟨_, _, rfl⟩ := List.mem_map.1 hrow; rfl) | (simp_all; done) | (simp_all; omega)))))); refine hK _ ?_; clear hK; clear K
    refine awp_ret ?_; (repeat (first | refine then_ret ?_ | refine inblock_ret ?_)); refine fin_of (by simp only [push_cast, seval]; first | done | rfl) (by first | trivial | first | omega | trivial | assumption | (intro _ hrow; obtain ⟨_, _, rfl⟩ := List.mem_map.1 hrow; rfl) | ((intros; repeat' apply And.intro) <;> first | omega | trivial | assumption | (intro _ hrow; obtain ⟨_, _, rfl⟩ := List.mem_map.1 hrow; rfl) | (simp_all; done) | (simp_all; omega))) ?_
    rw [he, padW_id, padW_all B64 ys _ hle] at hv
    exact ⟨u, c, rfl, by rw [mixW_all he], he, hu, hc, hv⟩

end Go.Aw
