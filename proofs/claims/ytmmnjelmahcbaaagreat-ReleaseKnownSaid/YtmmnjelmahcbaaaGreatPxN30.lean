/-
  Contracts: the order of a release's parts and its share; ReleaseOrders. No condition.
-/
import Derived.Test.YtmmnjelmahcbaaaGreatPxS3
import Derived.Test.YtmmnjelmahcbaaaGreatPkG
namespace Go.Aw
set_option linter.unusedSimpArgs false
set_option linter.unusedVariables false
open Go.RowKit Go.Proofs Go.Nt Go.Rl

theorem p40 (n k : Int) : PD Tryz.prog 33 [.int .i64 n, .int .i64 k] (.d (.sl ((ordD n k).map encI))) := by
  show PD Tryz.prog 33 _ (ofD (.sl ((ordD n k).map encI)))
  refine pdd_of (fn := Tryz.f33) [.tmp 4] (by kernel_rfl) rfl (by kernel_rfl) (Nat.le_of_ble_eq_true rfl) (by kernel_rfl) rfl ?_
  refine awp_seq ?_
  refine awpF_region ?_; intro K hK; simp only [push_cast, seval]; (try simp (disch := omega) only [wrapI]); (repeat ((with_reducible refine And.intro ?_ ?_); (focus (exact ob1)))); refine hK _ ?_; clear hK; clear K
  refine awp_seq ?_
  refine awp_seq ?_
  refine awpF_region ?_; intro K hK; simp only [push_cast, seval, bif_or]; (try simp (disch := omega) only [wrapI]); (repeat ((with_reducible refine And.intro ?_ ?_); (focus (exact ob1)))); refine hK _ ?_; clear hK; clear K
  apply awp_cond; (focus (simp only [push_cast, seval]; rfl))
  · intro h1
    simp only [Bool.or_eq_true, decide_eq_true_eq] at h1
    have : ordD n k = [] := by unfold ordD ordB; rw [if_neg (by simp; omega)]
    refine awp_seq ?_
    refine awpF_region ?_; intro K hK; simp only [push_cast, seval]; (try simp (disch := omega) only [wrapI]); (repeat ((with_reducible refine And.intro ?_ ?_); (focus (exact ob1)))); refine hK _ ?_; clear hK; clear K
    refine awp_ret ?_; (repeat (first | refine then_ret ?_ | refine inblock_ret ?_)); refine fin_of (by simp only [push_cast, seval]; first | done | rfl) ob1 ?_
    rw [this]
    exact Deep.nil
  · intro h1
    simp only [Bool.or_eq_false_iff, decide_eq_false_iff_not] at h1
    obtain ⟨k, rfl⟩ : ∃ m : Nat, k = m := ⟨k.toNat, by omega⟩
    have hD : ordD n k = sortK n (upto k) := by unfold ordD ordB; rw [if_pos (by simp; omega)]; rfl
    rw [hD]
    refine awp_skip ?_
    refine awp_fz (.ptr 0 0 0) ?_
    simp only [push_cast, seval]
    refine awp_seq ?_
    refine awpF_region ?_; intro K hK; simp only [push_cast, seval]; (try simp (disch := omega) only [wrapI]); (repeat ((with_reducible refine And.intro ?_ ?_); (focus (exact ob1)))); refine hK _ ?_; clear hK; clear K
    refine awp_seq ?_
    refine awpF_region ?_; intro K hK; simp only [push_cast, seval]; (try simp (disch := omega) only [wrapI]); (repeat ((with_reducible refine And.intro ?_ ?_); (focus (exact ob1)))); refine hK _ ?_; clear hK; clear K
    refine awp_seq ?_
    refine awp_seq ?_
    refine awpF_region ?_; intro K hK; simp only [push_cast, seval]; (try simp (disch := omega) only [wrapI]); (repeat ((with_reducible refine And.intro ?_ ?_); (focus (exact ob1)))); refine hK _ ?_; clear hK; clear K
    refine awp_virt 6 1 (by simp only [push_cast, seval]) ?_
    refine awp_block ?_
    refine awp_loopP (α := Nat) (st := fun i => ⟨[(5, .ptr 0 0 0), (6, .ref 1 0 i), (23, .d (.int .i64 k)), (24, .d (.int .i64 i))], [.cells [.fn (.func 64) [.d (.cp [.int .i64 n] 0)]], .data 1 ((upto i).map encI)]⟩) (inv := fun i => i ≤ k) (μ := fun i => k - i) (x0 := 0) (r0 := [1, 2]) ?_ ?_ ?_
    · exact Nat.zero_le _
    · rw [show upto 0 = [] from rfl]
      exact ⟨by simp, by simp, by simp [push_cast, seval], by simp [push_cast, seval], by simp [push_cast, seval], by simp [push_cast, seval]⟩
    intro i hi
    have hul := upto_len i
    refine awp_seq ?_
    refine awpF_region ?_; intro K hK; simp only [push_cast, seval]; (try simp (disch := omega) only [wrapI]); (repeat ((with_reducible refine And.intro ?_ ?_); (focus (exact ob1)))); refine hK _ ?_; clear hK; clear K
    refine awp_seq ?_
    apply awp_cond; (focus (simp only [push_cast, seval]; rfl))
    · intro h3; (try simp only [decide_eq_true_eq, decide_eq_false_iff_not, Bool.not_eq_true', Bool.not_eq_false', Bool.and_eq_true, Bool.or_eq_true, Bool.not_eq_true] at h3)
      have htk : ((upto i).map encI).take i = (upto i).map encI := List.take_of_length_le (by simp [hul])
      refine awp_skip ?_
      refine awp_seq ?_
      refine awp_block ?_
      refine awp_seq ?_
      refine awpF_region ?_; intro K hK; simp only [push_cast, seval]; (try simp (disch := omega) only [wrapI]); (repeat ((with_reducible refine And.intro ?_ ?_); (focus (exact ob1)))); refine hK _ ?_; clear hK; clear K
      refine awpF_region ?_; intro K hK; simp only [push_cast, seval, htk]; (try simp (disch := omega) only [wrapI]); (repeat ((with_reducible refine And.intro ?_ ?_); (focus (exact ob1)))); refine hK _ ?_; clear hK; clear K
      refine inblock_norm ?_
      refine awpF_region ?_; intro K hK; simp only [push_cast, seval]; (try simp (disch := omega) only [wrapI]); (repeat ((with_reducible refine And.intro ?_ ?_); (focus (exact ob1)))); refine hK _ ?_; clear hK; clear K
      refine round_endG (i + 1) [0, 1] ⟨by omega, by omega, ?_⟩
      rw [upto_succ]
      simp only [List.map_append, List.map_cons, List.map_nil, encI]
      exact ⟨by simp, by simp, by simp [push_cast, seval], by simp [push_cast, seval], by simp [push_cast, seval], by simp [push_cast, seval]⟩
    · intro h3; (try simp only [decide_eq_true_eq, decide_eq_false_iff_not, Bool.not_eq_true', Bool.not_eq_false', Bool.and_eq_true, Bool.or_eq_true, Bool.not_eq_true] at h3)
      refine awp_exit ?_; (repeat (first | refine then_exit ?_ | refine inblock_other (by decide) ?_)); refine inblock_same ?_
      have hik : i = k := by omega
      subst hik
      refine awp_cells 0 [.fn (.func 64) [.d (.cp [.int .i64 n] 0)]] [.d (.fn (.func 64) [.cp [.int .i64 n] 0])] rfl rfl (fun j x y hx hy => ?_) ?_
      · match j with
        | 0 =>
          simp at hx hy
          subst hx hy
          exact vr_dfn rfl
        | j + 1 => simp at hx
      refine awp_fz (.ptr 0 0 0) ?_
      simp only [push_cast, seval]
      refine awp_ren [1] ⟨[(5, .d (.cp [.fn (.func 64) [.cp [.int .i64 n] 0]] 0)), (6, .ref 0 0 (upto i).length)], [.data 1 ((upto i).map encI)]⟩ ?_ ?_
      · rw [hul]
        exact ⟨by simp, by simp, by simp [push_cast, seval], by simp [push_cast, seval], by simp [push_cast, seval], by simp [push_cast, seval]⟩
      have h76 := a76 n (upto i) (by omega)
      simp only [capsO, List.map_cons, List.map_nil] at h76
      refine awp_seq ?_
      refine awpF_regionH [2] ?_; intro K hK; simp only [push_cast, seval, List.zipIdx_cons, List.zipIdx_nil]
      refine HeapK.mk _ h76 ?_
      intro x' H' hR
      obtain ⟨hx', hH'⟩ := hR
      subst hx'
      subst hH'
      simp only [push_cast, seval]
      refine hK _ ?_; clear hK; clear K
      refine awp_seq ?_
      refine awpF_region ?_; intro K hK; simp only [push_cast, seval]; (try simp (disch := omega) only [wrapI]); (repeat ((with_reducible refine And.intro ?_ ?_); (focus (exact ob1)))); refine hK _ ?_; clear hK; clear K
      refine awp_ret ?_; (repeat (first | refine then_ret ?_ | refine inblock_ret ?_)); refine fin_of (by simp only [push_cast, seval]; first | done | rfl) ob1 ?_
      have := Deep.data (H := [Blk.data 1 ((sortK n (upto i)).map encI)]) 0 0 (upto i).length 1 ((sortK n (upto i)).map encI) rfl (by simp [sortK_len])
      rw [List.drop_zero, List.take_of_length_le (by simp [sortK_len])] at this
      exact this

theorem p42 (n k p : Int) : PD Tryz.prog 34 [.int .i64 n, .int .i64 k, .int .i64 p] (.d (.sl ((shareD n k p).map encI))) := by
  have h40 := p40 n k
  have h82 := p82
  show PD Tryz.prog 34 _ (ofD (.sl ((shareD n k p).map encI)))
  refine pdd_of (fn := Tryz.f34) [.tmp 6] (by kernel_rfl) rfl (by kernel_rfl) (Nat.le_of_ble_eq_true rfl) (by kernel_rfl) rfl ?_
  refine awp_seq ?_
  refine awpF_region ?_; intro K hK; simp only [push_cast, seval]; (try simp (disch := omega) only [wrapI]); (repeat ((with_reducible refine And.intro ?_ ?_); (focus (exact ob1)))); refine hK _ ?_; clear hK; clear K
  refine awp_seq ?_
  refine awpF_region ?_; intro K hK; simp only [push_cast, seval]
  refine CallK.pd (h40) ?_; simp only [push_cast, seval]; (try simp (disch := omega) only [wrapI]); (repeat ((with_reducible refine And.intro ?_ ?_); (focus (exact ob1))))
  refine hK _ ?_; clear hK; clear K
  refine awp_seq ?_
  refine awp_seq ?_
  refine awpF_region ?_; intro K hK; simp only [push_cast, seval, bif_or]; (try simp (disch := omega) only [wrapI]); (repeat ((with_reducible refine And.intro ?_ ?_); (focus (exact ob1)))); refine hK _ ?_; clear hK; clear K
  apply awp_cond; (focus (simp only [push_cast, seval]; rfl))
  · intro h1
    simp only [Bool.or_eq_true, decide_eq_true_eq, beq_iff_eq] at h1
    have : shareD n k p = [] := by
      unfold shareD shareB
      rw [if_neg]
      intro h2
      simp only [Bool.and_eq_true, decide_eq_true_eq] at h2
      have h3 := h2.1
      simp only [ordB, decide_eq_true_eq] at h3
      have : (ordD n k).length = k.toNat := by unfold ordD; rw [if_pos h2.1, sortK_len, upto_len]
      omega
    refine awp_seq ?_
    refine awpF_region ?_; intro K hK; simp only [push_cast, seval]; (try simp (disch := omega) only [wrapI]); (repeat ((with_reducible refine And.intro ?_ ?_); (focus (exact ob1)))); refine hK _ ?_; clear hK; clear K
    refine awp_ret ?_; (repeat (first | refine then_ret ?_ | refine inblock_ret ?_)); refine fin_of (by simp only [push_cast, seval]; first | done | rfl) ob1 ?_
    rw [this]
    exact Deep.nil
  · intro h1
    simp only [Bool.or_eq_false_iff, decide_eq_false_iff_not, beq_eq_false_iff_ne] at h1
    have hb : ordB n k = true := by
      rcases hbb : ordB n k with _ | _
      · have : ordD n k = [] := by unfold ordD; rw [hbb]; rfl
        rw [this] at h1
        simp at h1
      · rfl
    have hb2 := hb
    simp only [ordB, decide_eq_true_eq] at hb2
    obtain ⟨k, rfl⟩ : ∃ m : Nat, k = m := ⟨k.toNat, by omega⟩
    obtain ⟨p, rfl⟩ : ∃ m : Nat, p = m := ⟨p.toNat, by omega⟩
    have hD : ordD n k = sortK n (upto k) := by unfold ordD; rw [if_pos hb]; rfl
    have hS : shareD n k p = sortI ((sortK n (upto k)).take (partN k p)) := by unfold shareD shareB; rw [if_pos (by rw [hb]; simp; omega)]; rfl
    have hp : p ≤ 100 := by omega
    rw [hS, hD]
    have hm := partN_le (k := k) hp
    have hlo := sortK_len n (upto k)
    rw [upto_len] at hlo
    generalize sortK n (upto k) = o at hlo ⊢
    have hkp : k * p ≤ 6400 := Nat.le_trans (Nat.mul_le_mul_left _ hp) (by omega)
    have v1 : IntKind.i64.wrap ((k : Int) * p) = (k : Int) * p := by rw [← Int.natCast_mul]; exact wrapI _ (by omega)
    have v2 : IntKind.i64.wrap ((k : Int) * p + 99) = (k : Int) * p + 99 := by rw [← Int.natCast_mul]; exact wrapI _ (by omega)
    have v3 : ((k : Int) * p + 99).tdiv 100 = ((partN k p : Nat) : Int) := by rw [← Int.natCast_mul]; rfl
    generalize partN k p = m at hm v3 ⊢
    have e1 : (o.map encI).take m = (o.take m).map encI := List.map_take.symm
    have h81 := p81 (o.take m) (by rw [List.length_take]; omega)
    refine awp_skip ?_
    refine awp_seq ?_
    have vm : IntKind.i64.wrap (m : Int) = (m : Int) := wrapI _ (by omega)
    refine awpF_region ?_; intro K hK; simp only [push_cast, seval, v1, v2, v3, vm, Int.toNat_natCast, Nat.sub_zero, e1]
    (repeat ((with_reducible refine And.intro ?_ ?_); (focus (exact ob1))))
    refine CallK.rel (h82 ((o.take m).map encI)) ?_
    intro x' H' hR
    have hx' := hR.1
    have hH' := hR.2
    clear hR
    subst hx'
    subst hH'
    simp only [push_cast, seval]
    refine CallK.pd h81 ?_
    simp only [push_cast, seval]
    refine hK _ ?_; clear hK; clear K
    refine awp_ret ?_; (repeat (first | refine then_ret ?_ | refine inblock_ret ?_)); refine fin_of (by simp only [push_cast, seval]; first | done | rfl) ob1 ?_
    exact Deep.d _

theorem shareD_len (n k p : Int) : (shareD n k p).length ≤ 1000000 := by
  unfold shareD
  split
  · rename_i h
    simp only [shareB, ordB, Bool.and_eq_true, decide_eq_true_eq] at h
    rw [sortI_len, List.length_take, sortK_len, upto_len]; omega
  · exact Nat.zero_le _

end Go.Aw
