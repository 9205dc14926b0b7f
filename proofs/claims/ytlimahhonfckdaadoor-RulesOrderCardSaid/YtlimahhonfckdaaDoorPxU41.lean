/-
  RulesChecks answers true. Conditions: lengths that a slice can have.
-/
import Derived.Test.YtlimahhonfckdaaDoorRuF
import Derived.Test.YtlimahhonfckdaaDoorRuB
namespace Go.Aw
set_option linter.unusedSimpArgs false
set_option linter.unusedVariables false
open Go.RowKit Go.Proofs
set_option maxRecDepth 100000

theorem p15 (t : List (List Int)) (ht : t.length ≤ 1000000) (hr : ∀ r, r ∈ t → r.length ≤ 1000000000000) : PD Tryd.prog 15 [.sl (t.map encR)] (.d (.sl (t.map encR))) := by
  have hq : ∀ row, row ∈ t.map encR → row.length = 1 := fun row hr => by obtain ⟨_, _, rfl⟩ := List.mem_map.1 hr; rfl
  refine pdv_of (fn := Tryd.f15) [.tmp 2] (by kernel_rfl) rfl (by kernel_rfl) (Nat.le_of_ble_eq_true rfl) (by kernel_rfl) rfl ?_
  refine awp_seq ?_
  refine awpF_region ?_; intro K hK; simp only [push_cast, seval]; (try simp (disch := omega) only [wrapI]); (repeat ((with_reducible refine And.intro ?_ ?_); (focus (exact ob1)))); refine hK _ ?_; clear hK K
  refine awp_seq ?_
  refine awpF_region ?_; intro K hK; simp only [push_cast, seval]; (try simp (disch := omega) only [wrapI]); (repeat ((with_reducible refine And.intro ?_ ?_); (focus (exact ob1)))); refine hK _ ?_; clear hK K
  refine awp_seq ?_
  refine awp_seq ?_
  refine awpF_region ?_; intro K hK; simp only [push_cast, seval]; (try simp (disch := omega) only [wrapI]); (repeat ((with_reducible refine And.intro ?_ ?_); (focus (exact ob1)))); refine hK _ ?_; clear hK K
  refine awp_virt 3 1 (by simp only [push_cast, seval]) ?_
  refine awp_block ?_
  refine awp_loopP (α := Nat) (st := fun i => ⟨[(0, .d (.sl (t.map encR))), (3, .ref 0 0 i), (4, .d (.int .i64 i))], [.data 1 ((t.take i).map encR)]⟩)
    (inv := fun i => i ≤ t.length) (μ := fun i => t.length - i) (x0 := 0) (r0 := [0]) (Nat.zero_le _) ?_ ?_
  · exact ⟨by simp, by simp, by simp [push_cast, seval], by simp [push_cast, seval], by simp [push_cast, seval], by simp [push_cast, seval]⟩
  intro i hi
  have hil : ((t.take i).map encR).length = i := by simp; omega
  have htk : List.take i ((t.take i).map encR) = (t.take i).map encR := List.take_of_length_le (by omega)
  have hqR : ∀ row, row ∈ ((t.take i).map encR) → row.length = 1 := fun row hr => by obtain ⟨_, _, rfl⟩ := List.mem_map.1 hr; rfl
  refine awp_seq ?_
  refine awp_seq ?_
  refine awpF_region ?_; intro K hK; simp only [push_cast, seval]; (try simp (disch := omega) only [wrapI]); (repeat ((with_reducible refine And.intro ?_ ?_); (focus (exact ob1)))); refine hK _ ?_; clear hK K
  apply awp_cond; (focus (simp only [push_cast, seval]; rfl))
  · intro h1; (try simp only [decide_eq_true_eq, decide_eq_false_iff_not, Bool.not_eq_true', Bool.not_eq_false', Bool.and_eq_true, Bool.or_eq_true, Bool.not_eq_true] at h1)
    have hlt : i < t.length := by omega
    obtain ⟨v, hv⟩ : ∃ v, t[i]? = some v := ⟨_, List.getElem?_eq_getElem hlt⟩
    have hvl := hr v (List.mem_of_getElem? hv)
    have hqv : ∀ row, row ∈ v.map encI → row.length = 1 := fun row hr => by obtain ⟨_, _, rfl⟩ := List.mem_map.1 hr; rfl
    refine awp_skip ?_
    refine awp_seq ?_
    refine awp_block ?_
    have hqw : ∀ row, row ∈ v.map encI → row.length = 1 ∧ row.all D.leaf = true := fun row hr => by obtain ⟨_, _, rfl⟩ := List.mem_map.1 hr; exact ⟨rfl, rfl⟩
    have hvk : List.take v.length (v.map encI) = v.map encI := List.take_of_length_le (by simp)
    refine awpF_region ?_; intro K hK; simp only [push_cast, seval, hv, encR, Int.toNat_natCast, htk, hvk]
    (repeat ((with_reducible refine And.intro ?_ ?_); (focus (exact ob1))))
    refine hK _ ?_; clear hK K
    refine inblock_norm ?_
    refine awpF_region ?_; intro K hK; simp only [push_cast, seval]; (try simp (disch := omega) only [wrapI]); (repeat ((with_reducible refine And.intro ?_ ?_); (focus (exact ob1)))); refine hK _ ?_; clear hK K
    refine round_endG (i + 1) ([0]) ⟨by omega, by omega, ?_⟩
    have e : (t.take (i + 1)).map encR = (t.take i).map encR ++ [[.sl (v.map encI)]] := by
      rw [List.take_add_one, hv, List.map_append]
      rfl
    rw [e]
    push_cast
    exact ⟨by simp, by simp, by simp [push_cast, seval], by simp [push_cast, seval], by simp [push_cast, seval], by simp [push_cast, seval]⟩
  · intro h1; (try simp only [decide_eq_true_eq, decide_eq_false_iff_not, Bool.not_eq_true', Bool.not_eq_false', Bool.and_eq_true, Bool.or_eq_true, Bool.not_eq_true] at h1)
    obtain rfl : i = t.length := by omega
    rw [List.take_length] at *
    refine awp_exit ?_; (repeat (first | refine then_exit ?_ | refine inblock_other (by decide) ?_)); refine inblock_same ?_
    refine awp_seq ?_
    refine awpF_region ?_; intro K hK; simp only [push_cast, seval]; (try simp (disch := omega) only [wrapI]); (repeat ((with_reducible refine And.intro ?_ ?_); (focus (exact ob1)))); refine hK _ ?_; clear hK K
    refine awp_ret ?_; (repeat (first | refine then_ret ?_ | refine inblock_ret ?_ | refine nogoto_ret ?_)); refine fin_of (by simp only [push_cast, seval]; first | done | rfl) ob1 ?_
    exact DeepV.row rfl hil.symm
theorem cells_bd : ∀ {t : List (List Int)} {M : Nat}, (∀ r, r ∈ t → r.length ≤ M) → cellsV t ≤ t.length * M
  | [], _, _ => by simp [cellsV]
  | r :: t, M, h => by
    have h1 := cells_bd (t := t) (M := M) fun q hq => h q (by simp [hq])
    have h2 := h r (by simp)
    simp only [cellsV, List.map_cons, List.sum_cons, List.length_cons] at h1 ⊢
    rw [Nat.succ_mul]
    omega
theorem cells_mem : ∀ {t : List (List Int)} {r : List Int}, r ∈ t → r.length ≤ cellsV t
  | [], _, h => by cases h
  | q :: t, r, h => by
    simp only [cellsV, List.map_cons, List.sum_cons]
    rcases List.mem_cons.1 h with rfl | h
    · omega
    · have := cells_mem h
      simp only [cellsV] at this
      omega
theorem cells_small {t : List (List Int)} {k : Nat} (hr : ∀ r, r ∈ t → r.length ≤ 1000000000000000) (ht : t.length ≤ 1000) (h : IntKind.i64.wrap (cellsV t) ≤ k) : cellsV t ≤ k := by
  have h1 := cells_bd hr
  have h2 : t.length * 1000000000000000 ≤ 1000 * 1000000000000000 := Nat.mul_le_mul_right _ ht
  rw [wrapI _ (by omega)] at h
  omega
theorem p3 (f : List Nd) (w : Int) (t : List (List Int)) (hf : f.length ≤ 1000000000000000) (ht : t.length ≤ 1000000000000000) (hr : ∀ r, r ∈ t → r.length ≤ 1000000000000000) : PD Tryd.prog 3 [.sl (f.map encNd), .int .i64 w, .sl (t.map encR)] (.d (.bool true)) := by
  have h12 := p12 t (by omega)
  have h13 := p13
  generalize hcv : IntKind.i64.wrap (cellsV t) = cv at *
  by_cases h1 : 45 < f.length
  · have hd : decide ((f.length : Int) > 45) = true := decide_eq_true (by omega)
    refine pd_of (fn := Tryd.f3) [.tmp 6] (by kernel_rfl) rfl (by kernel_rfl) (Nat.le_of_ble_eq_true rfl) (by kernel_rfl) rfl rfl ?_
    (repeat' (first | refine awp_seq ?_ | refine awp_skip ?_ | refine awp_block ?_ | ((first | (refine awpF_region ?_; intro K hK) | refine CallK.pd (h12) ?_ | refine CallK.pg (fun _ => h12) ?_ | refine CallK.pd (h13) ?_ | refine CallK.pg (fun _ => h13) ?_); simp only [push_cast, seval, hd]; (try simp (disch := omega) only [wrapI]); (repeat ((with_reducible refine And.intro ?_ ?_); (focus (exact ob1))))) | (refine hK _ ?_; clear hK K) | (apply awp_cond; (focus (simp only [push_cast, seval]; rfl))) | (with_reducible intro hb; exfalso; revert hb; simp [hd]; done) | (with_reducible intro hb; exfalso; (try simp only [decide_eq_true_eq, decide_eq_false_iff_not, Bool.not_eq_true', Bool.not_eq_false', Bool.and_eq_true, Bool.or_eq_true, Bool.not_eq_true] at hb); omega; done) | (with_reducible intro hb; (try simp only [decide_eq_true_eq, decide_eq_false_iff_not, Bool.not_eq_true', Bool.not_eq_false', Bool.and_eq_true, Bool.or_eq_true, Bool.not_eq_true] at hb)) | (refine awp_exit ?_; (repeat (first | refine then_exit ?_ | refine inblock_other (by decide) ?_)); refine inblock_same ?_) | (refine awp_ret ?_; (repeat (first | refine then_ret ?_ | refine inblock_ret ?_ | refine nogoto_ret ?_)); refine fin_of (by simp only [push_cast, seval, hd]; first | done | rfl) ob1 ?_) | (refine inblock_norm ?_)))
    rfl
  have hd1 : decide ((f.length : Int) > 45) = false := decide_eq_false (by omega)
  by_cases h2 : 450 < t.length
  · have hd : decide ((t.length : Int) > 450) = true := decide_eq_true (by omega)
    refine pd_of (fn := Tryd.f3) [.tmp 6] (by kernel_rfl) rfl (by kernel_rfl) (Nat.le_of_ble_eq_true rfl) (by kernel_rfl) rfl rfl ?_
    (repeat' (first | refine awp_seq ?_ | refine awp_skip ?_ | refine awp_block ?_ | ((first | (refine awpF_region ?_; intro K hK) | refine CallK.pd (h12) ?_ | refine CallK.pg (fun _ => h12) ?_ | refine CallK.pd (h13) ?_ | refine CallK.pg (fun _ => h13) ?_); simp only [push_cast, seval, hd1, hd]; (try simp (disch := omega) only [wrapI]); (repeat ((with_reducible refine And.intro ?_ ?_); (focus (exact ob1))))) | (refine hK _ ?_; clear hK K) | (apply awp_cond; (focus (simp only [push_cast, seval]; rfl))) | (with_reducible intro hb; exfalso; revert hb; simp [hd1, hd]; done) | (with_reducible intro hb; exfalso; (try simp only [decide_eq_true_eq, decide_eq_false_iff_not, Bool.not_eq_true', Bool.not_eq_false', Bool.and_eq_true, Bool.or_eq_true, Bool.not_eq_true] at hb); omega; done) | (with_reducible intro hb; (try simp only [decide_eq_true_eq, decide_eq_false_iff_not, Bool.not_eq_true', Bool.not_eq_false', Bool.and_eq_true, Bool.or_eq_true, Bool.not_eq_true] at hb)) | (refine awp_exit ?_; (repeat (first | refine then_exit ?_ | refine inblock_other (by decide) ?_)); refine inblock_same ?_) | (refine awp_ret ?_; (repeat (first | refine then_ret ?_ | refine inblock_ret ?_ | refine nogoto_ret ?_)); refine fin_of (by simp only [push_cast, seval, hd1, hd]; first | done | rfl) ob1 ?_) | (refine inblock_norm ?_)))
    rfl
  have hd2 : decide ((t.length : Int) > 450) = false := decide_eq_false (by omega)
  by_cases h3 : 500 < cv
  · have hd : decide (cv > 500) = true := decide_eq_true (by omega)
    refine pd_of (fn := Tryd.f3) [.tmp 6] (by kernel_rfl) rfl (by kernel_rfl) (Nat.le_of_ble_eq_true rfl) (by kernel_rfl) rfl rfl ?_
    (repeat' (first | refine awp_seq ?_ | refine awp_skip ?_ | refine awp_block ?_ | ((first | (refine awpF_region ?_; intro K hK) | refine CallK.pd (h12) ?_ | refine CallK.pg (fun _ => h12) ?_ | refine CallK.pd (h13) ?_ | refine CallK.pg (fun _ => h13) ?_); simp only [push_cast, seval, hd1, hd2, hd]; (try simp (disch := omega) only [wrapI]); (repeat ((with_reducible refine And.intro ?_ ?_); (focus (exact ob1))))) | (refine hK _ ?_; clear hK K) | (apply awp_cond; (focus (simp only [push_cast, seval]; rfl))) | (with_reducible intro hb; exfalso; revert hb; simp [hd1, hd2, hd]; done) | (with_reducible intro hb; exfalso; (try simp only [decide_eq_true_eq, decide_eq_false_iff_not, Bool.not_eq_true', Bool.not_eq_false', Bool.and_eq_true, Bool.or_eq_true, Bool.not_eq_true] at hb); omega; done) | (with_reducible intro hb; (try simp only [decide_eq_true_eq, decide_eq_false_iff_not, Bool.not_eq_true', Bool.not_eq_false', Bool.and_eq_true, Bool.or_eq_true, Bool.not_eq_true] at hb)) | (refine awp_exit ?_; (repeat (first | refine then_exit ?_ | refine inblock_other (by decide) ?_)); refine inblock_same ?_) | (refine awp_ret ?_; (repeat (first | refine then_ret ?_ | refine inblock_ret ?_ | refine nogoto_ret ?_)); refine fin_of (by simp only [push_cast, seval, hd1, hd2, hd]; first | done | rfl) ob1 ?_) | (refine inblock_norm ?_)))
    rfl
  have hd3 : decide (cv > 500) = false := decide_eq_false (by omega)
  obtain ⟨t1, ht1⟩ := tree_ex f w
  obtain ⟨t2, ht2⟩ := tree_ex f 12
  have h14 := p14 f (by omega)
  have hc5 : cellsV t ≤ 500 := cells_small hr (by omega) (by rw [hcv]; omega)
  have hrl : ∀ r, r ∈ t → r.length ≤ 500 := fun r h => Nat.le_trans (cells_mem h) hc5
  have h15 := p15 t (by omega) fun r h => by have := hrl r h; omega
  have h16 := p16 f w t1 (by omega) ht1
  have h17 := p17 f w t1 (by omega) ht1
  have h18 := p18 f t2 (by omega) ht2
  have h19 := p19 f t2 (by omega) ht2
  have h20 := p20 t w
  have h21 := p21 t w
  have h22 := p22 f f (by omega)
  have h23 := p23 t t (by omega) fun r h => by have := hrl r h; omega
  rw [decide_eq_true rfl] at h22 h23
  generalize chkE f w t1 = e1 at *
  generalize hzE f t2 = e2 at *
  generalize trE t w = e3 at *
  refine pd_of (fn := Tryd.f3) [.tmp 6] (by kernel_rfl) rfl (by kernel_rfl) (Nat.le_of_ble_eq_true rfl) (by kernel_rfl) rfl rfl ?_
  (repeat' (first | refine awp_seq ?_ | refine awp_skip ?_ | refine awp_block ?_ | ((first | (refine awpF_region ?_; intro K hK) | refine CallK.pd (h12) ?_ | refine CallK.pg (fun _ => h12) ?_ | refine CallK.pd (h13) ?_ | refine CallK.pg (fun _ => h13) ?_ | refine CallK.pd (h14) ?_ | refine CallK.pg (fun _ => h14) ?_ | refine CallK.pd (h15) ?_ | refine CallK.pg (fun _ => h15) ?_ | refine CallK.pd (h16) ?_ | refine CallK.pg (fun _ => h16) ?_ | refine CallK.pd (h17) ?_ | refine CallK.pg (fun _ => h17) ?_ | refine CallK.pd (h18) ?_ | refine CallK.pg (fun _ => h18) ?_ | refine CallK.pd (h19) ?_ | refine CallK.pg (fun _ => h19) ?_ | refine CallK.pd (h20) ?_ | refine CallK.pg (fun _ => h20) ?_ | refine CallK.pd (h21) ?_ | refine CallK.pg (fun _ => h21) ?_ | refine CallK.pd (h22) ?_ | refine CallK.pg (fun _ => h22) ?_ | refine CallK.pd (h23) ?_ | refine CallK.pg (fun _ => h23) ?_); simp only [push_cast, seval, hd1, hd2, hd3, beq_self_eq_true, ofD]; (try simp (disch := omega) only [wrapI]); (repeat ((with_reducible refine And.intro ?_ ?_); (focus (exact ob1))))) | (refine hK _ ?_; clear hK K) | (apply awp_cond; (focus (simp only [push_cast, seval]; rfl))) | (with_reducible intro hb; exfalso; revert hb; simp [hd1, hd2, hd3, beq_self_eq_true, ofD]; done) | (with_reducible intro hb; exfalso; (try simp only [decide_eq_true_eq, decide_eq_false_iff_not, Bool.not_eq_true', Bool.not_eq_false', Bool.and_eq_true, Bool.or_eq_true, Bool.not_eq_true] at hb); omega; done) | (with_reducible intro hb; (try simp only [decide_eq_true_eq, decide_eq_false_iff_not, Bool.not_eq_true', Bool.not_eq_false', Bool.and_eq_true, Bool.or_eq_true, Bool.not_eq_true] at hb)) | (refine awp_exit ?_; (repeat (first | refine then_exit ?_ | refine inblock_other (by decide) ?_)); refine inblock_same ?_) | (refine awp_ret ?_; (repeat (first | refine then_ret ?_ | refine inblock_ret ?_ | refine nogoto_ret ?_)); refine fin_of (by simp only [push_cast, seval, hd1, hd2, hd3, beq_self_eq_true, ofD]; first | done | rfl) ob1 ?_) | (refine inblock_norm ?_)))
  rfl
end Go.Aw
