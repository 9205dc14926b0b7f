/-
  Contracts of the program's great numbers: sums, differences, products, comparisons. Conditions: lengths that fit.
-/
import Derived.Test.YtmmnjelmahcbaaaN3
namespace Go.Aw
set_option linter.unusedSimpArgs false
set_option linter.unusedVariables false
open Go.RowKit Go.Proofs Go.Nt

/-- How many words. -/
def nw (n : Nat) : Nat := (digs B64 n).length

theorem take_app {m : List Nat} {n : Nat} (h : m.length = n) {r : List D} : List.take (n + 1) (List.take n (List.map encW m) ++ [r]) = List.map encW m ++ [r] := by
  rw [List.take_of_length_le (i := n) (by simp; omega), List.take_of_length_le (by simp; omega)]
theorem val_one (B : Nat) (m : List Nat) (c : Nat) : val B (m ++ [c]) = val B m + B ^ m.length * c := by simp [val_append, val]
theorem digs_mono {B : Nat} (hB : 2 ≤ B) {n m : Nat} (h : n ≤ m) : (digs B n).length ≤ (digs B m).length := by
  rcases Nat.lt_or_ge (digs B m).length (digs B n).length with h1 | h1
  · have := digs_len_lt hB h1; omega
  · exact h1

theorem p67 (a b : Nat) (ha : nw a ≤ 500000) (hb : nw b ≤ 500000) : PD Try.prog 67 [(Go.Aw.D.sl ((digs B64 (a)).map encW)), (Go.Aw.D.sl ((digs B64 (b)).map encW))] (.d ((Go.Aw.D.sl ((digs B64 (a + b)).map encW)))) := by
  unfold nw at *
  refine pd_of (fn := Try.f67) [.tmp 4] (by kernel_rfl) rfl (by kernel_rfl) (Nat.le_of_ble_eq_true rfl) (by kernel_rfl) rfl rfl ?_
  refine awp_seq ?_
  refine awpF_region ?_; intro K hK; simp only [push_cast, seval]; (try simp (disch := omega) only [wrapI]); (repeat ((with_reducible refine And.intro ?_ ?_); (focus (first | omega | trivial | assumption | (intro _ hrow; obtain ⟨_, _, rfl⟩ := List.mem_map.1 hrow; rfl) | ((intros; repeat' apply And.intro) <;> first | omega | trivial | assumption | (intro _ hrow; obtain ⟨_, _, rfl⟩ := List.mem_map.1 hrow; rfl) | (simp_all; done) | (simp_all; omega)))))); refine hK _ ?_; clear hK; clear K
  refine awp_mid (fun t => ∃ x y : Nat, x + y = a + b ∧ (digs B64 x).length ≤ 500000 ∧ (digs B64 y).length ≤ (digs B64 x).length ∧ t = ⟨[(0, .d (.sl ((digs B64 x).map encW))), (1, .d (.sl ((digs B64 y).map encW)))], []⟩) ?_ ?_
  · refine awp_seq ?_
    refine awpF_region ?_; intro K hK; simp only [push_cast, seval]; (try simp (disch := omega) only [wrapI]); (repeat ((with_reducible refine And.intro ?_ ?_); (focus (first | omega | trivial | assumption | (intro _ hrow; obtain ⟨_, _, rfl⟩ := List.mem_map.1 hrow; rfl) | ((intros; repeat' apply And.intro) <;> first | omega | trivial | assumption | (intro _ hrow; obtain ⟨_, _, rfl⟩ := List.mem_map.1 hrow; rfl) | (simp_all; done) | (simp_all; omega)))))); refine hK _ ?_; clear hK; clear K
    apply awp_cond; (focus (simp only [push_cast, seval]; rfl))
    · intro h1; (try simp only [decide_eq_true_eq, decide_eq_false_iff_not, Bool.not_eq_true', Bool.not_eq_false', Bool.and_eq_true, Bool.or_eq_true, Bool.not_eq_true] at h1)
      refine awpF_region ?_; intro K hK; simp only [push_cast, seval]; (try simp (disch := omega) only [wrapI]); (repeat ((with_reducible refine And.intro ?_ ?_); (focus (first | omega | trivial | assumption | (intro _ hrow; obtain ⟨_, _, rfl⟩ := List.mem_map.1 hrow; rfl) | ((intros; repeat' apply And.intro) <;> first | omega | trivial | assumption | (intro _ hrow; obtain ⟨_, _, rfl⟩ := List.mem_map.1 hrow; rfl) | (simp_all; done) | (simp_all; omega)))))); refine hK _ ?_; clear hK; clear K
      refine mid_end [] _ ⟨b, a, Nat.add_comm _ _, hb, by omega, rfl⟩ ?_
      exact ⟨by simp, by simp, by simp [push_cast, seval], by simp [push_cast, seval], by simp [push_cast, seval], by simp [push_cast, seval]⟩
    · intro h1; (try simp only [decide_eq_true_eq, decide_eq_false_iff_not, Bool.not_eq_true', Bool.not_eq_false', Bool.and_eq_true, Bool.or_eq_true, Bool.not_eq_true] at h1)
      refine awp_skip ?_
      refine mid_end [] _ ⟨a, b, rfl, ha, by omega, rfl⟩ ?_
      exact ⟨by simp, by simp, by simp [push_cast, seval], by simp [push_cast, seval], by simp [push_cast, seval], by simp [push_cast, seval]⟩
  rintro _ ⟨x, y, hxy, hx, hyx, rfl⟩
  have hox := digs_ok (B := B64) (by decide) x
  have hoy := digs_ok (B := B64) (by decide) y
  have hvx := val_digs (B := B64) (by decide) x
  have hvy := val_digs (B := B64) (by decide) y
  generalize digs B64 x = dx at *
  generalize digs B64 y = dy at *
  have h93 := p93 dx (by omega)
  have h100 := a100 dx dy hox hoy hyx (by omega)
  refine awp_seq ?_
  refine awpF_region ?_; intro K hK; simp only [push_cast, seval]
  refine CallK.rel h93 ?_
  rintro _ _ ⟨rfl, rfl⟩
  simp only [push_cast, seval]
  refine hK _ ?_; clear hK; clear K
  refine awp_seq ?_
  refine awpF_regionH [3] ?_; intro K hK; simp only [push_cast, seval, List.zipIdx_cons, List.zipIdx_nil]
  refine HeapK.mk _ h100 ?_
  intro x' H' hR
  obtain ⟨m, c, hx', hH', hml, hom, hc, hv⟩ := hR
  subst hx'
  subst hH'
  have h95 := p95 (m ++ [c]) (hom.app (.one (Nat.lt_of_le_of_lt hc (by decide)))) (by simp; omega)
  rw [List.map_append, show List.map encW [c] = [[D.int .u64 c]] from rfl] at h95
  simp only [push_cast, seval]
  rw [take_app hml]
  refine ⟨fun h => h, by omega, by omega, ?_⟩
  refine CallK.pd (h95) ?_; simp only [push_cast, seval]; (try simp (disch := omega) only [wrapI]); (repeat ((with_reducible refine And.intro ?_ ?_); (focus (first | omega | trivial | assumption | (intro _ hrow; obtain ⟨_, _, rfl⟩ := List.mem_map.1 hrow; rfl) | ((intros; repeat' apply And.intro) <;> first | omega | trivial | assumption | (intro _ hrow; obtain ⟨_, _, rfl⟩ := List.mem_map.1 hrow; rfl) | (simp_all; done) | (simp_all; omega))))))
  refine hK _ ?_; clear hK; clear K
  refine awp_ret ?_; (repeat (first | refine then_ret ?_ | refine inblock_ret ?_)); refine fin_of (by simp only [push_cast, seval]; first | done | rfl) (by first | trivial | first | omega | trivial | assumption | (intro _ hrow; obtain ⟨_, _, rfl⟩ := List.mem_map.1 hrow; rfl) | ((intros; repeat' apply And.intro) <;> first | omega | trivial | assumption | (intro _ hrow; obtain ⟨_, _, rfl⟩ := List.mem_map.1 hrow; rfl) | (simp_all; done) | (simp_all; omega))) ?_
  have e : val B64 (m ++ [c]) = a + b := by rw [val_one, hml, hv, hvx, hvy, hxy]
  rw [e]

theorem p55 (a b : Nat) (ha : nw a ≤ 500000) (hba : b ≤ a) : PD Try.prog 55 [(Go.Aw.D.sl ((digs B64 (a)).map encW)), (Go.Aw.D.sl ((digs B64 (b)).map encW))] (.d ((Go.Aw.D.sl ((digs B64 (a - b)).map encW)))) := by
  have hlen := digs_mono (B := B64) (by decide) hba
  unfold nw at *
  have hoy := digs_ok (B := B64) (by decide) b
  have hox := digs_ok (B := B64) (by decide) a
  have hvx := val_digs (B := B64) (by decide) a
  have hvy := val_digs (B := B64) (by decide) b
  generalize digs B64 a = dx at *
  generalize digs B64 b = dy at *
  have h93 := p93 dx (by omega)
  have h94 := a94 dx dy hox hoy hlen (by omega)
  refine pd_of (fn := Try.f55) [.tmp 4] (by kernel_rfl) rfl (by kernel_rfl) (Nat.le_of_ble_eq_true rfl) (by kernel_rfl) rfl rfl ?_
  refine awp_seq ?_
  refine awpF_region ?_; intro K hK; simp only [push_cast, seval]; (try simp (disch := omega) only [wrapI]); (repeat ((with_reducible refine And.intro ?_ ?_); (focus (first | omega | trivial | assumption | (intro _ hrow; obtain ⟨_, _, rfl⟩ := List.mem_map.1 hrow; rfl) | ((intros; repeat' apply And.intro) <;> first | omega | trivial | assumption | (intro _ hrow; obtain ⟨_, _, rfl⟩ := List.mem_map.1 hrow; rfl) | (simp_all; done) | (simp_all; omega)))))); refine hK _ ?_; clear hK; clear K
  refine awp_seq ?_
  refine awpF_region ?_; intro K hK; simp only [push_cast, seval]
  refine CallK.rel h93 ?_
  rintro _ _ ⟨rfl, rfl⟩
  simp only [push_cast, seval]
  refine hK _ ?_; clear hK; clear K
  refine awp_seq ?_
  refine awpF_regionH [2] ?_; intro K hK; simp only [push_cast, seval, List.zipIdx_cons, List.zipIdx_nil]
  refine HeapK.mk _ h94 ?_
  intro x' H' hR
  obtain ⟨m, c, hx', hH', hml, hom, hc, hv⟩ := hR
  subst hx'
  subst hH'
  simp only [push_cast, seval]
  refine hK _ ?_; clear hK; clear K
  have hm2 := val_lt (B := B64) (by decide) hom
  rw [hml] at hm2
  have h95 := p95 m hom (by omega)
  have e : val B64 m = a - b := by
    rw [hvx, hvy] at hv
    rcases Nat.eq_zero_or_pos c with h0 | h0
    · rw [h0, Nat.mul_zero] at hv; omega
    · obtain rfl : c = 1 := by omega
      rw [Nat.mul_one] at hv; omega
  refine awp_seq ?_
  refine awpF_region ?_; intro K hK; simp only [push_cast, seval]
  rw [show List.take dx.length (List.map encW m) = List.map encW m from List.take_of_length_le (by simp; omega)]
  refine CallK.pd (h95) ?_; simp only [push_cast, seval]; (try simp (disch := omega) only [wrapI]); (repeat ((with_reducible refine And.intro ?_ ?_); (focus (first | omega | trivial | assumption | (intro _ hrow; obtain ⟨_, _, rfl⟩ := List.mem_map.1 hrow; rfl) | ((intros; repeat' apply And.intro) <;> first | omega | trivial | assumption | (intro _ hrow; obtain ⟨_, _, rfl⟩ := List.mem_map.1 hrow; rfl) | (simp_all; done) | (simp_all; omega))))))
  refine hK _ ?_; clear hK; clear K
  refine awp_ret ?_; (repeat (first | refine then_ret ?_ | refine inblock_ret ?_)); refine fin_of (by simp only [push_cast, seval]; first | done | rfl) (by first | trivial | first | omega | trivial | assumption | (intro _ hrow; obtain ⟨_, _, rfl⟩ := List.mem_map.1 hrow; rfl) | ((intros; repeat' apply And.intro) <;> first | omega | trivial | assumption | (intro _ hrow; obtain ⟨_, _, rfl⟩ := List.mem_map.1 hrow; rfl) | (simp_all; done) | (simp_all; omega))) ?_
  rw [e]

theorem p56 (a k : Nat) (ha : nw a ≤ 500000) (hk : k < 18446744073709551616) : PD Try.prog 56 [(Go.Aw.D.sl ((digs B64 (a)).map encW)), .int .u64 k] (.d ((Go.Aw.D.sl ((digs B64 (a * k)).map encW)))) := by
  unfold nw at *
  have hox := digs_ok (B := B64) (by decide) a
  have hvx := val_digs (B := B64) (by decide) a
  generalize digs B64 a = dx at *
  have h93 := p93 dx (by omega)
  have h96 := a96 dx k hox hk (by omega)
  refine pd_of (fn := Try.f56) [.tmp 4] (by kernel_rfl) rfl (by kernel_rfl) (Nat.le_of_ble_eq_true rfl) (by kernel_rfl) rfl rfl ?_
  refine awp_seq ?_
  refine awpF_region ?_; intro K hK; simp only [push_cast, seval]; (try simp (disch := omega) only [wrapI]); (repeat ((with_reducible refine And.intro ?_ ?_); (focus (first | omega | trivial | assumption | (intro _ hrow; obtain ⟨_, _, rfl⟩ := List.mem_map.1 hrow; rfl) | ((intros; repeat' apply And.intro) <;> first | omega | trivial | assumption | (intro _ hrow; obtain ⟨_, _, rfl⟩ := List.mem_map.1 hrow; rfl) | (simp_all; done) | (simp_all; omega)))))); refine hK _ ?_; clear hK; clear K
  refine awp_seq ?_
  refine awpF_region ?_; intro K hK; simp only [push_cast, seval]
  refine CallK.rel h93 ?_
  rintro _ _ ⟨rfl, rfl⟩
  simp only [push_cast, seval]
  refine hK _ ?_; clear hK; clear K
  refine awp_seq ?_
  refine awpF_regionH [3] ?_; intro K hK; simp only [push_cast, seval, List.zipIdx_cons, List.zipIdx_nil]
  refine HeapK.mk _ h96 ?_
  intro x' H' hR
  obtain ⟨m, c, hx', hH', hml, hom, hc, hv⟩ := hR
  subst hx'
  subst hH'
  have h95 := p95 (m ++ [c]) (hom.app (.one hc)) (by simp; omega)
  rw [List.map_append, show List.map encW [c] = [[D.int .u64 c]] from rfl] at h95
  simp only [push_cast, seval]
  rw [take_app hml]
  refine ⟨fun h => h, by omega, by omega, ?_⟩
  refine CallK.pd (h95) ?_; simp only [push_cast, seval]; (try simp (disch := omega) only [wrapI]); (repeat ((with_reducible refine And.intro ?_ ?_); (focus (first | omega | trivial | assumption | (intro _ hrow; obtain ⟨_, _, rfl⟩ := List.mem_map.1 hrow; rfl) | ((intros; repeat' apply And.intro) <;> first | omega | trivial | assumption | (intro _ hrow; obtain ⟨_, _, rfl⟩ := List.mem_map.1 hrow; rfl) | (simp_all; done) | (simp_all; omega))))))
  refine hK _ ?_; clear hK; clear K
  refine awp_ret ?_; (repeat (first | refine then_ret ?_ | refine inblock_ret ?_)); refine fin_of (by simp only [push_cast, seval]; first | done | rfl) (by first | trivial | first | omega | trivial | assumption | (intro _ hrow; obtain ⟨_, _, rfl⟩ := List.mem_map.1 hrow; rfl) | ((intros; repeat' apply And.intro) <;> first | omega | trivial | assumption | (intro _ hrow; obtain ⟨_, _, rfl⟩ := List.mem_map.1 hrow; rfl) | (simp_all; done) | (simp_all; omega))) ?_
  have e : val B64 (m ++ [c]) = a * k := by rw [val_one, hml, hv, hvx]
  rw [e]


/-- Two lists that differ at one place and not behind it. -/
theorem split_at {l : List Nat} {k : Nat} (h : k < l.length) : l = l.take k ++ (l[k]?.getD 0) :: l.drop (k + 1) := by
  rw [List.getElem?_eq_getElem h, Option.getD_some, ← List.drop_eq_getElem_cons h, List.take_append_drop]

theorem p54 (a b : Nat) (ha : nw a ≤ 500000) (hb : nw b ≤ 500000) : PC Try.prog 54 [(Go.Aw.D.sl ((digs B64 (a)).map encW)), (Go.Aw.D.sl ((digs B64 (b)).map encW))] fun x H => ∃ c : Int, x = .d (.int .i64 c) ∧ H = [] ∧ (c < 0 ↔ a < b) ∧ (c = 0 ↔ a = b) := by
  have hab : (digs B64 a).length < (digs B64 b).length → a < b := digs_len_lt (by decide)
  have hba : (digs B64 b).length < (digs B64 a).length → b < a := digs_len_lt (by decide)
  unfold nw at *
  have hoy := digs_ok (B := B64) (by decide) b
  have hox := digs_ok (B := B64) (by decide) a
  have hvx := val_digs (B := B64) (by decide) a
  have hvy := val_digs (B := B64) (by decide) b
  generalize digs B64 a = dx at *
  generalize digs B64 b = dy at *
  refine pc_of (fn := Try.f54) [.tmp 4] (by kernel_rfl) rfl (by kernel_rfl) (Nat.le_of_ble_eq_true rfl) (by kernel_rfl) rfl ?_
  refine awp_seq ?_
  refine awpF_region ?_; intro K hK; simp only [push_cast, seval]; (try simp (disch := omega) only [wrapI]); (repeat ((with_reducible refine And.intro ?_ ?_); (focus (first | omega | trivial | assumption | (intro _ hrow; obtain ⟨_, _, rfl⟩ := List.mem_map.1 hrow; rfl) | ((intros; repeat' apply And.intro) <;> first | omega | trivial | assumption | (intro _ hrow; obtain ⟨_, _, rfl⟩ := List.mem_map.1 hrow; rfl) | (simp_all; done) | (simp_all; omega)))))); refine hK _ ?_; clear hK; clear K
  refine awp_seq ?_
  refine awp_seq ?_
  refine awpF_region ?_; intro K hK; simp only [push_cast, seval]; (try simp (disch := omega) only [wrapI]); (repeat ((with_reducible refine And.intro ?_ ?_); (focus (first | omega | trivial | assumption | (intro _ hrow; obtain ⟨_, _, rfl⟩ := List.mem_map.1 hrow; rfl) | ((intros; repeat' apply And.intro) <;> first | omega | trivial | assumption | (intro _ hrow; obtain ⟨_, _, rfl⟩ := List.mem_map.1 hrow; rfl) | (simp_all; done) | (simp_all; omega)))))); refine hK _ ?_; clear hK; clear K
  apply awp_cond; (focus (simp only [push_cast, seval]; rfl))
  · intro h1; (try simp only [decide_eq_true_eq, decide_eq_false_iff_not, Bool.not_eq_true', Bool.not_eq_false', Bool.and_eq_true, Bool.or_eq_true, Bool.not_eq_true] at h1)
    refine awp_seq ?_
    refine awpF_region ?_; intro K hK; simp only [push_cast, seval]; (try simp (disch := omega) only [wrapI]); (repeat ((with_reducible refine And.intro ?_ ?_); (focus (first | omega | trivial | assumption | (intro _ hrow; obtain ⟨_, _, rfl⟩ := List.mem_map.1 hrow; rfl) | ((intros; repeat' apply And.intro) <;> first | omega | trivial | assumption | (intro _ hrow; obtain ⟨_, _, rfl⟩ := List.mem_map.1 hrow; rfl) | (simp_all; done) | (simp_all; omega)))))); refine hK _ ?_; clear hK; clear K
    refine awp_ret ?_; (repeat (first | refine then_ret ?_ | refine inblock_ret ?_)); refine fin_of (by simp only [push_cast, seval]; first | done | rfl) (by first | trivial | first | omega | trivial | assumption | (intro _ hrow; obtain ⟨_, _, rfl⟩ := List.mem_map.1 hrow; rfl) | ((intros; repeat' apply And.intro) <;> first | omega | trivial | assumption | (intro _ hrow; obtain ⟨_, _, rfl⟩ := List.mem_map.1 hrow; rfl) | (simp_all; done) | (simp_all; omega))) ?_
    have hne : dx.length ≠ dy.length := by simp only [bne_iff_ne] at h1; omega
    exact ⟨_, rfl, rfl, by omega, by omega⟩
  · intro h1; (try simp only [decide_eq_true_eq, decide_eq_false_iff_not, Bool.not_eq_true', Bool.not_eq_false', Bool.and_eq_true, Bool.or_eq_true, Bool.not_eq_true] at h1)
    have hl : dx.length = dy.length := by simp only [bne_eq_false_iff_eq] at h1; omega
    refine awp_skip ?_
    refine awp_seq ?_
    refine awp_seq ?_
    refine awpF_region ?_; intro K hK; simp only [push_cast, seval]; (try simp (disch := omega) only [wrapI]); (repeat ((with_reducible refine And.intro ?_ ?_); (focus (first | omega | trivial | assumption | (intro _ hrow; obtain ⟨_, _, rfl⟩ := List.mem_map.1 hrow; rfl) | ((intros; repeat' apply And.intro) <;> first | omega | trivial | assumption | (intro _ hrow; obtain ⟨_, _, rfl⟩ := List.mem_map.1 hrow; rfl) | (simp_all; done) | (simp_all; omega)))))); refine hK _ ?_; clear hK; clear K
    refine awp_block ?_
    refine awp_loopP (st := fun (k : Nat) => ⟨[(0, .d (.sl (dx.map encW))), (1, .d (.sl (dy.map encW))), (5, .d (.int .i64 ((k : Int) - 1)))], []⟩) (inv := fun k => k ≤ dx.length ∧ dx.drop k = dy.drop k) (μ := fun k => k) (x0 := dx.length) (r0 := []) ?_ ?_ ?_
    · exact ⟨Nat.le_refl _, by rw [List.drop_length, hl, List.drop_length]⟩
    · exact ⟨by simp, by simp, by simp [push_cast, seval], by simp [push_cast, seval], by simp [push_cast, seval], by simp [push_cast, seval]⟩
    rintro k ⟨hk, hd⟩
    rcases Nat.eq_zero_or_pos k with h0 | h0
    · have hz : ((k : Int) - 1 ≥ 0) = False := by simp; omega
      refine awp_seq ?_
      refine awp_seq ?_
      refine awpF_region ?_; intro K hK; simp only [push_cast, seval, hz]; (try simp (disch := omega) only [wrapI]); (repeat ((with_reducible refine And.intro ?_ ?_); (focus (first | omega | trivial | assumption | (intro _ hrow; obtain ⟨_, _, rfl⟩ := List.mem_map.1 hrow; rfl) | ((intros; repeat' apply And.intro) <;> first | omega | trivial | assumption | (intro _ hrow; obtain ⟨_, _, rfl⟩ := List.mem_map.1 hrow; rfl) | (simp_all; done) | (simp_all; omega)))))); refine hK _ ?_; clear hK; clear K
      apply awp_cond; (focus (simp only [push_cast, seval]; rfl))
      · intro h2; (try simp only [decide_eq_true_eq, decide_eq_false_iff_not, Bool.not_eq_true', Bool.not_eq_false', Bool.and_eq_true, Bool.or_eq_true, Bool.not_eq_true] at h2)
        cases h2
      intro h2; (try simp only [decide_eq_true_eq, decide_eq_false_iff_not, Bool.not_eq_true', Bool.not_eq_false', Bool.and_eq_true, Bool.or_eq_true, Bool.not_eq_true] at h2)
      refine awp_exit ?_; (repeat (first | refine then_exit ?_ | refine inblock_other (by decide) ?_)); refine inblock_same ?_
      refine awp_seq ?_
      refine awpF_region ?_; intro K hK; simp only [push_cast, seval]; (try simp (disch := omega) only [wrapI]); (repeat ((with_reducible refine And.intro ?_ ?_); (focus (first | omega | trivial | assumption | (intro _ hrow; obtain ⟨_, _, rfl⟩ := List.mem_map.1 hrow; rfl) | ((intros; repeat' apply And.intro) <;> first | omega | trivial | assumption | (intro _ hrow; obtain ⟨_, _, rfl⟩ := List.mem_map.1 hrow; rfl) | (simp_all; done) | (simp_all; omega)))))); refine hK _ ?_; clear hK; clear K
      refine awp_ret ?_; (repeat (first | refine then_ret ?_ | refine inblock_ret ?_)); refine fin_of (by simp only [push_cast, seval]; first | done | rfl) (by first | trivial | first | omega | trivial | assumption | (intro _ hrow; obtain ⟨_, _, rfl⟩ := List.mem_map.1 hrow; rfl) | ((intros; repeat' apply And.intro) <;> first | omega | trivial | assumption | (intro _ hrow; obtain ⟨_, _, rfl⟩ := List.mem_map.1 hrow; rfl) | (simp_all; done) | (simp_all; omega))) ?_
      have e : a = b := by rw [h0, List.drop_zero, List.drop_zero] at hd; rw [← hvx, ← hvy, hd]
      exact ⟨0, rfl, rfl, by omega, by omega⟩
    · obtain ⟨j, rfl⟩ : ∃ j, k = j + 1 := ⟨k - 1, by omega⟩
      have hi : (((j + 1 : Nat) : Int) - 1) = (j : Int) := by omega
      have hi2 : (((j : Int) + 1) - 1) = (j : Int) := by omega
      have hz : ((j : Int) ≥ 0) = True := by simp
      have gx := List.getElem?_eq_getElem (l := dx) (i := j) (by omega)
      have gy := List.getElem?_eq_getElem (l := dy) (i := j) (by omega)
      have sx := split_at (l := dx) (k := j) (by omega)
      have sy := split_at (l := dy) (k := j) (by omega)
      rw [gx, Option.getD_some] at sx
      rw [gy, Option.getD_some] at sy
      have lx : (dx.take j).length = (dy.take j).length := by simp; omega
      have ox : Ok B64 (dx.take j) := fun z hz => hox z (List.mem_of_mem_take hz)
      have oy : Ok B64 (dy.take j) := fun z hz => hoy z (List.mem_of_mem_take hz)
      generalize dx[j]'(by omega) = x at gx sx
      generalize dy[j]'(by omega) = y at gy sy
      refine awp_seq ?_
      refine awp_seq ?_
      refine awpF_region ?_; intro K hK; simp only [push_cast, seval, hi, hi2, hz]; (try simp (disch := omega) only [wrapI]); (repeat ((with_reducible refine And.intro ?_ ?_); (focus (first | omega | trivial | assumption | (intro _ hrow; obtain ⟨_, _, rfl⟩ := List.mem_map.1 hrow; rfl) | ((intros; repeat' apply And.intro) <;> first | omega | trivial | assumption | (intro _ hrow; obtain ⟨_, _, rfl⟩ := List.mem_map.1 hrow; rfl) | (simp_all; done) | (simp_all; omega)))))); refine hK _ ?_; clear hK; clear K
      apply awp_cond; (focus (simp only [push_cast, seval]; rfl))
      · intro h2; (try simp only [decide_eq_true_eq, decide_eq_false_iff_not, Bool.not_eq_true', Bool.not_eq_false', Bool.and_eq_true, Bool.or_eq_true, Bool.not_eq_true] at h2)
        refine awp_skip ?_
        refine awp_seq ?_
        refine awp_block ?_
        refine awp_seq ?_
        refine awpF_draw [0,1,2,3,4,5,6,7,8] (by kernel_rfl) (by kernel_rfl) rfl ?_; intro K hK; simp only [push_cast, seval, hi, hi2, gx, gy, encW, Int.toNat_natCast]
        (repeat ((with_reducible refine And.intro ?_ ?_); (focus (first | omega | trivial | assumption | (intro _ hrow; obtain ⟨_, _, rfl⟩ := List.mem_map.1 hrow; rfl) | ((intros; repeat' apply And.intro) <;> first | omega | trivial | assumption | (intro _ hrow; obtain ⟨_, _, rfl⟩ := List.mem_map.1 hrow; rfl) | (simp_all; done) | (simp_all; omega))))))
        refine hK _ ?_; clear hK; clear K
        apply awp_cond; (focus (simp only [push_cast, seval]; rfl))
        · intro h3; (try simp only [decide_eq_true_eq, decide_eq_false_iff_not, Bool.not_eq_true', Bool.not_eq_false', Bool.and_eq_true, Bool.or_eq_true, Bool.not_eq_true] at h3)
          have hxy : x ≠ y := by simp only [bne_iff_ne] at h3; omega
          refine awp_seq ?_
          refine awp_seq ?_
          refine awpF_draw [0,1,2,3,4,5,6,7,8] (by kernel_rfl) (by kernel_rfl) rfl ?_; intro K hK; simp only [push_cast, seval, hi, hi2, gx, gy, encW, Int.toNat_natCast]
          (repeat ((with_reducible refine And.intro ?_ ?_); (focus (first | omega | trivial | assumption | (intro _ hrow; obtain ⟨_, _, rfl⟩ := List.mem_map.1 hrow; rfl) | ((intros; repeat' apply And.intro) <;> first | omega | trivial | assumption | (intro _ hrow; obtain ⟨_, _, rfl⟩ := List.mem_map.1 hrow; rfl) | (simp_all; done) | (simp_all; omega))))))
          refine hK _ ?_; clear hK; clear K
          apply awp_cond; (focus (simp only [push_cast, seval]; rfl))
          · intro h4; (try simp only [decide_eq_true_eq, decide_eq_false_iff_not, Bool.not_eq_true', Bool.not_eq_false', Bool.and_eq_true, Bool.or_eq_true, Bool.not_eq_true] at h4)
            refine awp_seq ?_
            refine awpF_region ?_; intro K hK; simp only [push_cast, seval]; (try simp (disch := omega) only [wrapI]); (repeat ((with_reducible refine And.intro ?_ ?_); (focus (first | omega | trivial | assumption | (intro _ hrow; obtain ⟨_, _, rfl⟩ := List.mem_map.1 hrow; rfl) | ((intros; repeat' apply And.intro) <;> first | omega | trivial | assumption | (intro _ hrow; obtain ⟨_, _, rfl⟩ := List.mem_map.1 hrow; rfl) | (simp_all; done) | (simp_all; omega)))))); refine hK _ ?_; clear hK; clear K
            refine awp_ret ?_; (repeat (first | refine then_ret ?_ | refine inblock_ret ?_)); refine fin_of (by simp only [push_cast, seval]; first | done | rfl) (by first | trivial | first | omega | trivial | assumption | (intro _ hrow; obtain ⟨_, _, rfl⟩ := List.mem_map.1 hrow; rfl) | ((intros; repeat' apply And.intro) <;> first | omega | trivial | assumption | (intro _ hrow; obtain ⟨_, _, rfl⟩ := List.mem_map.1 hrow; rfl) | (simp_all; done) | (simp_all; omega))) ?_
            have := val_cmp (B := B64) (w := dx.drop (j + 1)) (by decide) ox lx (show x < y by omega)
            rw [← sx, hd, ← sy, hvx, hvy] at this
            exact ⟨-1, rfl, rfl, by omega, by omega⟩
          · intro h4; (try simp only [decide_eq_true_eq, decide_eq_false_iff_not, Bool.not_eq_true', Bool.not_eq_false', Bool.and_eq_true, Bool.or_eq_true, Bool.not_eq_true] at h4)
            refine awp_skip ?_
            refine awp_seq ?_
            refine awpF_region ?_; intro K hK; simp only [push_cast, seval]; (try simp (disch := omega) only [wrapI]); (repeat ((with_reducible refine And.intro ?_ ?_); (focus (first | omega | trivial | assumption | (intro _ hrow; obtain ⟨_, _, rfl⟩ := List.mem_map.1 hrow; rfl) | ((intros; repeat' apply And.intro) <;> first | omega | trivial | assumption | (intro _ hrow; obtain ⟨_, _, rfl⟩ := List.mem_map.1 hrow; rfl) | (simp_all; done) | (simp_all; omega)))))); refine hK _ ?_; clear hK; clear K
            refine awp_ret ?_; (repeat (first | refine then_ret ?_ | refine inblock_ret ?_)); refine fin_of (by simp only [push_cast, seval]; first | done | rfl) (by first | trivial | first | omega | trivial | assumption | (intro _ hrow; obtain ⟨_, _, rfl⟩ := List.mem_map.1 hrow; rfl) | ((intros; repeat' apply And.intro) <;> first | omega | trivial | assumption | (intro _ hrow; obtain ⟨_, _, rfl⟩ := List.mem_map.1 hrow; rfl) | (simp_all; done) | (simp_all; omega))) ?_
            have := val_cmp (B := B64) (w := dy.drop (j + 1)) (by decide) oy lx.symm (show y < x by omega)
            rw [← sy, ← hd, ← sx, hvx, hvy] at this
            exact ⟨1, rfl, rfl, by omega, by omega⟩
        · intro h3; (try simp only [decide_eq_true_eq, decide_eq_false_iff_not, Bool.not_eq_true', Bool.not_eq_false', Bool.and_eq_true, Bool.or_eq_true, Bool.not_eq_true] at h3)
          have hxy : x = y := by simp only [bne_eq_false_iff_eq] at h3; omega
          refine awp_skip ?_
          refine inblock_norm ?_
          refine awpF_region ?_; intro K hK; simp only [push_cast, seval, hi, hi2]; (try simp (disch := omega) only [wrapI]); (repeat ((with_reducible refine And.intro ?_ ?_); (focus (first | omega | trivial | assumption | (intro _ hrow; obtain ⟨_, _, rfl⟩ := List.mem_map.1 hrow; rfl) | ((intros; repeat' apply And.intro) <;> first | omega | trivial | assumption | (intro _ hrow; obtain ⟨_, _, rfl⟩ := List.mem_map.1 hrow; rfl) | (simp_all; done) | (simp_all; omega)))))); refine hK _ ?_; clear hK; clear K
          refine round_end (y := j) (r := []) (by omega) ⟨by omega, ?_⟩ ?_
          · rw [List.drop_eq_getElem_cons (by omega : j < dx.length), List.drop_eq_getElem_cons (by omega : j < dy.length), hd]
            have e1 : dx[j]'(by omega) = x := by
              have := List.getElem?_eq_getElem (l := dx) (i := j) (by omega)
              rw [gx] at this; simpa using this.symm
            have e2 : dy[j]'(by omega) = y := by
              have := List.getElem?_eq_getElem (l := dy) (i := j) (by omega)
              rw [gy] at this; simpa using this.symm
            rw [e1, e2, hxy]
          · exact ⟨by simp, by simp, by simp [push_cast, seval], by simp [push_cast, seval], by simp [push_cast, seval], by simp [push_cast, seval]⟩
      · intro h2; (try simp only [decide_eq_true_eq, decide_eq_false_iff_not, Bool.not_eq_true', Bool.not_eq_false', Bool.and_eq_true, Bool.or_eq_true, Bool.not_eq_true] at h2)
        cases h2

end Go.Aw
