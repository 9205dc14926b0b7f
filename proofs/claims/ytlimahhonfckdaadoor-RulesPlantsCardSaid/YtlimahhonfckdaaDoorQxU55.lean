/-
  Follows on both sides, and RulesPlants. Conditions: lengths that fit.
-/
import Derived.Test.YtlimahhonfckdaaDoorQuLr
import Derived.Test.YtlimahhonfckdaaDoorQuBr
import Derived.Test.YtlimahhonfckdaaDoorQxU41
namespace Go.Aw
set_option linter.unusedSimpArgs false
set_option linter.unusedVariables false
open Go.RowKit Go.Proofs
set_option maxRecDepth 100000

theorem col_all (p : List Ch) (row : List Int) (hp : plE p = 0) (hl : row.length = p.length) (hv : ∀ x, x ∈ row → inV x = true) : ∀ m k : Nat, k + m = p.length → ColC p row k
  | 0, k, h => by
    obtain rfl : k = p.length := by omega
    exact p84e p row (pl_ok hp).2.1
  | m + 1, k, h => p84s p row k hp hl hv (by omega) (col_all p row hp hl hv m (k + 1) (by omega))
theorem p54 (p : List Ch) (row : List Int) (hp : plE p = 0) (hl : row.length = p.length) (hv : ∀ x, x ∈ row → inV x = true) :
    AC Tryd.prog 54 [.d (.sl (p.map encCh)), .d (.sl (row.map encI)), .fn (.func 55) [.ptr 1 0 0]] [.gone, .cells [.ref 2 0 0], .data 1 []] [0, 1] fun x H' => x = .d (.bool true) ∧ H' = [.gone, .cells [.ref 2 0 (folV p row).length], .data 1 ((folV p row).map encR)] := by
  refine AC.cut (R := fun x H' => x = .d (.bool true) ∧ ∃ X, H' = [.gone, .cells [.ref 2 0 (folV p row).length], .data 1 ((folV p row).map encR)] ++ X) ?_ ?_
  rotate_left
  · rintro x _ ⟨rfl, X, rfl⟩
    exact ⟨_, X, rfl, rfl, rfl, by simp, rfl, rfl⟩
  have h9 := folV_len hp (by omega : p.length ≤ row.length)
  have hc := col_all p row hp hl hv p.length 0 (by omega) [] [] [] rfl rfl (by rw [List.drop_zero, List.drop_zero, List.length_nil]; omega)
  rw [List.drop_zero, List.drop_zero] at hc
  have e : ([] : List (List Int)) ++ (folV p row).map (([] : List Int) ++ ·) = folV p row := by simp
  rw [e] at hc
  simp only [foH, List.map_nil, List.length_nil, Int.natCast_zero] at hc
  refine ac_ofF (fn := Tryd.f54) [.tmp 6] (by kernel_rfl) rfl (by kernel_rfl) (Nat.le_of_ble_eq_true rfl) (by kernel_rfl) rfl ?_
  refine awp_seq ?_
  refine awpF_region ?_; intro K hK; simp only [push_cast, seval]; (try simp (disch := omega) only [wrapI]); (repeat ((with_reducible refine And.intro ?_ ?_); (focus (exact ob1)))); refine hK _ ?_; clear hK K
  refine awp_seq ?_
  refine awpF_region ?_; intro K hK; simp only [push_cast, seval]; (try simp (disch := omega) only [wrapI]); (repeat ((with_reducible refine And.intro ?_ ?_); (focus (exact ob1)))); refine hK _ ?_; clear hK K
  refine awp_seq ?_
  refine awpF_region ?_; intro K hK; simp only [push_cast, seval]; (try simp (disch := omega) only [wrapI]); (repeat ((with_reducible refine And.intro ?_ ?_); (focus (exact ob1)))); refine hK _ ?_; clear hK K
  refine awp_seq ?_
  refine awpF_region ?_; intro K hK; simp only [push_cast, seval]; (try simp (disch := omega) only [wrapI]); (repeat ((with_reducible refine And.intro ?_ ?_); (focus (exact ob1)))); refine hK _ ?_; clear hK K
  refine awp_virtC 6 1 rfl ?_
  simp only [push_cast, seval]
  refine awp_seq ?_
  refine awp_regionF ?_; intro K hK
  refine from_X 1 rfl rfl ?_; simp only [push_cast, seval]; (try simp (disch := omega) only [wrapI]); (repeat ((with_reducible refine And.intro ?_ ?_); (focus (exact ob1))))
  refine call_V [2, 8] (by simp) (by simp only [push_cast, seval]; rfl) (by first | trivial | simp) (hc) ?_
  rintro _ _ ⟨rfl, zs, _, rfl⟩
  simp only [push_cast, seval]
  refine from_end ?_; simp only [push_cast, seval]; (try simp (disch := omega) only [wrapI]); (repeat ((with_reducible refine And.intro ?_ ?_); (focus (exact ob1)))); refine hK _ ?_; clear hK K
  refine awp_ret ?_; (repeat (first | refine then_ret ?_ | refine inblock_ret ?_ | refine nogoto_ret ?_)); refine fin_of (by simp only [push_cast, seval]; first | done | rfl) ob1 ?_
  exact ⟨rfl, _, rfl⟩
def folE (p : List Ch) (row : List Int) : Int := if plE p ≠ 0 then plE p else trE [row] p.length
def folR (p : List Ch) (row : List Int) : List (List Int) := if folE p row = 0 then folV p row else []
theorem tr_one {row : List Int} {w : Int} (h : trE [row] w = 0) : (row.length : Int) = w ∧ ∀ x, x ∈ row → inV x = true := by
  unfold trE at h
  split at h
  · cases h
  split at h
  · cases h
  simp only [rowsE] at h
  split at h
  · rename_i h1
    unfold rowE at h1
    split at h1
    · cases h1
    · rename_i h4
      split at h1
      · rename_i h3
        exact ⟨Decidable.not_not.1 h4, fun x hx => List.all_eq_true.1 h3 x hx⟩
      · cases h1
  · rename_i h1
    exact absurd h h1
theorem p30 (p : List Ch) (row : List Int) (hpl : p.length ≤ 1000000) : PD Tryd.prog 30 [.sl (p.map encCh), .sl (row.map encI)] (.tup [.d (.sl ((folR p row).map encR)), .d (.int .i64 (folE p row))]) := by
  have h32 := p32 p hpl
  have h20 := p20 [row] p.length
  simp only [List.map_cons, List.map_nil, encR] at h20
  by_cases h1 : plE p = 0
  · rw [h1] at h32
    have e1 : folE p row = trE [row] p.length := by rw [folE, if_neg (by simpa using h1)]
    by_cases h2 : trE [row] p.length = 0
    · have e2 : folE p row = 0 := by rw [e1, h2]
      have e3 : folR p row = folV p row := by rw [folR, if_pos e2]
      obtain ⟨hl, hv⟩ := tr_one h2
      have h54 := p54 p row h1 (by omega) hv
      rw [e2, e3]
      rw [h2] at h20
      generalize folV p row = V at *
      refine pdv_of (fn := Tryd.f30) [.tmp 4, .tmp 5] (by kernel_rfl) rfl (by kernel_rfl) (Nat.le_of_ble_eq_true rfl) (by kernel_rfl) rfl ?_
      (repeat' (first | refine awp_seq ?_ | refine awp_skip ?_ | refine awp_block ?_ | ((first | ((fail_if_success refine awpF_region (id := 7) ?_); refine awpF_region ?_; intro K hK) | refine CallK.pd (h32) ?_ | refine CallK.pg (fun _ => h32) ?_ | refine CallK.pd (h20) ?_ | refine CallK.pg (fun _ => h20) ?_); simp only [push_cast, seval, bne_self_eq_false]; (try simp (disch := omega) only [wrapI]); (repeat ((with_reducible refine And.intro ?_ ?_); (focus (exact ob1))))) | (refine hK _ ?_; clear hK K) | (apply awp_cond; (focus (simp only [push_cast, seval]; rfl))) | (with_reducible intro hb; exfalso; revert hb; simp [bne_self_eq_false]; done) | (with_reducible intro hb; exfalso; (try simp only [decide_eq_true_eq, decide_eq_false_iff_not, Bool.not_eq_true', Bool.not_eq_false', Bool.and_eq_true, Bool.or_eq_true, Bool.not_eq_true] at hb); omega; done) | (with_reducible intro hb; (try simp only [decide_eq_true_eq, decide_eq_false_iff_not, Bool.not_eq_true', Bool.not_eq_false', Bool.and_eq_true, Bool.or_eq_true, Bool.not_eq_true] at hb)) | (refine awp_exit ?_; (repeat (first | refine then_exit ?_ | refine inblock_other (by decide) ?_)); refine inblock_same ?_) | (refine awp_ret ?_; (repeat (first | refine then_ret ?_ | refine inblock_ret ?_ | refine nogoto_ret ?_)); refine fin_of (by simp only [push_cast, seval, bne_self_eq_false]; first | done | rfl) ob1 ?_) | (refine inblock_norm ?_)))
      refine awpF_region ?_; intro K hK; simp only [push_cast, seval]; (try simp (disch := omega) only [wrapI]); (repeat ((with_reducible refine And.intro ?_ ?_); (focus (exact ob1)))); refine hK _ ?_; clear hK K
      refine awp_virtC 1 1 rfl ?_
      simp only [push_cast, seval]
      refine awp_seq ?_
      refine awp_regionF ?_; intro K hK
      refine from_X 3 rfl rfl ?_; simp only [push_cast, seval]; (try simp (disch := omega) only [wrapI]); (repeat ((with_reducible refine And.intro ?_ ?_); (focus (exact ob1))))
      refine call_V [2] (by simp) (by simp only [push_cast, seval]; rfl) (by first | trivial | simp) (h54) ?_
      rintro _ _ ⟨rfl, rfl⟩
      simp only [push_cast, seval]
      refine from_end ?_; simp only [push_cast, seval]; (try simp (disch := omega) only [wrapI]); (repeat ((with_reducible refine And.intro ?_ ?_); (focus (exact ob1)))); refine hK _ ?_; clear hK K
      refine awp_seq ?_
      refine awpF_region ?_; intro K hK; simp only [push_cast, seval]; (try simp (disch := omega) only [wrapI]); (repeat ((with_reducible refine And.intro ?_ ?_); (focus (exact ob1)))); refine hK _ ?_; clear hK K
      refine awp_ret ?_; (repeat (first | refine then_ret ?_ | refine inblock_ret ?_ | refine nogoto_ret ?_)); refine fin_of (by simp only [push_cast, seval]; first | done | rfl) ob1 ?_
      exact DeepV.tups (DeepV.cons (DeepV.row rfl (by simp)) (DeepV.cons (DeepV.dd _) DeepV.nils))
    · have e3 : folR p row = [] := by rw [folR, if_neg (by rw [e1]; exact h2)]
      rw [e1, e3]
      have hb1 : (trE [row] p.length != 0) = true := by simpa using h2
      generalize trE [row] p.length = e at *
      refine pdv_of (fn := Tryd.f30) [.tmp 4, .tmp 5] (by kernel_rfl) rfl (by kernel_rfl) (Nat.le_of_ble_eq_true rfl) (by kernel_rfl) rfl ?_
      (repeat' (first | refine awp_seq ?_ | refine awp_skip ?_ | refine awp_block ?_ | ((first | (refine awpF_region ?_; intro K hK) | refine CallK.pd (h32) ?_ | refine CallK.pg (fun _ => h32) ?_ | refine CallK.pd (h20) ?_ | refine CallK.pg (fun _ => h20) ?_); simp only [push_cast, seval, bne_self_eq_false, hb1]; (try simp (disch := omega) only [wrapI]); (repeat ((with_reducible refine And.intro ?_ ?_); (focus (exact ob1))))) | (refine hK _ ?_; clear hK K) | (apply awp_cond; (focus (simp only [push_cast, seval]; rfl))) | (with_reducible intro hb; exfalso; revert hb; simp [bne_self_eq_false, hb1]; done) | (with_reducible intro hb; exfalso; (try simp only [decide_eq_true_eq, decide_eq_false_iff_not, Bool.not_eq_true', Bool.not_eq_false', Bool.and_eq_true, Bool.or_eq_true, Bool.not_eq_true] at hb); omega; done) | (with_reducible intro hb; (try simp only [decide_eq_true_eq, decide_eq_false_iff_not, Bool.not_eq_true', Bool.not_eq_false', Bool.and_eq_true, Bool.or_eq_true, Bool.not_eq_true] at hb)) | (refine awp_exit ?_; (repeat (first | refine then_exit ?_ | refine inblock_other (by decide) ?_)); refine inblock_same ?_) | (refine awp_ret ?_; (repeat (first | refine then_ret ?_ | refine inblock_ret ?_ | refine nogoto_ret ?_)); refine fin_of (by simp only [push_cast, seval, bne_self_eq_false, hb1]; first | done | rfl) ob1 ?_) | (refine inblock_norm ?_)))
      exact DeepV.tups (DeepV.cons .nil (DeepV.cons (DeepV.dd _) DeepV.nils))
  · have e1 : folE p row = plE p := by rw [folE, if_pos h1]
    have e3 : folR p row = [] := by rw [folR, if_neg (by rw [e1]; exact h1)]
    rw [e1, e3]
    have hb1 : (plE p != 0) = true := by simpa using h1
    generalize plE p = e at *
    refine pdv_of (fn := Tryd.f30) [.tmp 4, .tmp 5] (by kernel_rfl) rfl (by kernel_rfl) (Nat.le_of_ble_eq_true rfl) (by kernel_rfl) rfl ?_
    (repeat' (first | refine awp_seq ?_ | refine awp_skip ?_ | refine awp_block ?_ | ((first | (refine awpF_region ?_; intro K hK) | refine CallK.pd (h32) ?_ | refine CallK.pg (fun _ => h32) ?_ | refine CallK.pd (h20) ?_ | refine CallK.pg (fun _ => h20) ?_); simp only [push_cast, seval, hb1]; (try simp (disch := omega) only [wrapI]); (repeat ((with_reducible refine And.intro ?_ ?_); (focus (exact ob1))))) | (refine hK _ ?_; clear hK K) | (apply awp_cond; (focus (simp only [push_cast, seval]; rfl))) | (with_reducible intro hb; exfalso; revert hb; simp [hb1]; done) | (with_reducible intro hb; exfalso; (try simp only [decide_eq_true_eq, decide_eq_false_iff_not, Bool.not_eq_true', Bool.not_eq_false', Bool.and_eq_true, Bool.or_eq_true, Bool.not_eq_true] at hb); omega; done) | (with_reducible intro hb; (try simp only [decide_eq_true_eq, decide_eq_false_iff_not, Bool.not_eq_true', Bool.not_eq_false', Bool.and_eq_true, Bool.or_eq_true, Bool.not_eq_true] at hb)) | (refine awp_exit ?_; (repeat (first | refine then_exit ?_ | refine inblock_other (by decide) ?_)); refine inblock_same ?_) | (refine awp_ret ?_; (repeat (first | refine then_ret ?_ | refine inblock_ret ?_ | refine nogoto_ret ?_)); refine fin_of (by simp only [push_cast, seval, hb1]; first | done | rfl) ob1 ?_) | (refine inblock_norm ?_)))
    exact DeepV.tups (DeepV.cons .nil (DeepV.cons (DeepV.dd _) DeepV.nils))
theorem p31 (p : List Ch) (row : List Int) (hpl : p.length ≤ 1000000) : PD Tryd.prog 31 [.sl (p.map encCh), .sl (row.map encI)] (.tup [.d (.sl ((folR p row).map encR)), .d (.int .i64 (folE p row))]) := by
  have h33 := p33 p hpl
  have h21 := p21 [row] p.length
  simp only [List.map_cons, List.map_nil, encR] at h21
  by_cases h1 : plE p = 0
  · rw [h1] at h33
    have e1 : folE p row = trE [row] p.length := by rw [folE, if_neg (by simpa using h1)]
    by_cases h2 : trE [row] p.length = 0
    · have e2 : folE p row = 0 := by rw [e1, h2]
      have e3 : folR p row = folV p row := by rw [folR, if_pos e2]
      obtain ⟨hl, hv⟩ := tr_one h2
      have h56 := p56 p row h1 (by omega) hv
      rw [e2, e3]
      rw [h2] at h21
      generalize folV p row = V at *
      refine pdv_of (fn := Tryd.f31) [.tmp 4, .tmp 5] (by kernel_rfl) rfl (by kernel_rfl) (Nat.le_of_ble_eq_true rfl) (by kernel_rfl) rfl ?_
      (repeat' (first | refine awp_seq ?_ | refine awp_skip ?_ | refine awp_block ?_ | ((first | (refine awpF_region ?_; intro K hK) | refine CallK.pd (h33) ?_ | refine CallK.pg (fun _ => h33) ?_ | refine CallK.pd (h21) ?_ | refine CallK.pg (fun _ => h21) ?_ | refine CallK.pd (h56) ?_ | refine CallK.pg (fun _ => h56) ?_); simp only [push_cast, seval, bne_self_eq_false]; (try simp (disch := omega) only [wrapI]); (repeat ((with_reducible refine And.intro ?_ ?_); (focus (exact ob1))))) | (refine hK _ ?_; clear hK K) | (apply awp_cond; (focus (simp only [push_cast, seval]; rfl))) | (with_reducible intro hb; exfalso; revert hb; simp [bne_self_eq_false]; done) | (with_reducible intro hb; exfalso; (try simp only [decide_eq_true_eq, decide_eq_false_iff_not, Bool.not_eq_true', Bool.not_eq_false', Bool.and_eq_true, Bool.or_eq_true, Bool.not_eq_true] at hb); omega; done) | (with_reducible intro hb; (try simp only [decide_eq_true_eq, decide_eq_false_iff_not, Bool.not_eq_true', Bool.not_eq_false', Bool.and_eq_true, Bool.or_eq_true, Bool.not_eq_true] at hb)) | (refine awp_exit ?_; (repeat (first | refine then_exit ?_ | refine inblock_other (by decide) ?_)); refine inblock_same ?_) | (refine awp_ret ?_; (repeat (first | refine then_ret ?_ | refine inblock_ret ?_ | refine nogoto_ret ?_)); refine fin_of (by simp only [push_cast, seval, bne_self_eq_false]; first | done | rfl) ob1 ?_) | (refine inblock_norm ?_)))
      exact DeepV.tups (DeepV.cons (DeepV.dd _) (DeepV.cons (DeepV.dd _) DeepV.nils))
    · have e3 : folR p row = [] := by rw [folR, if_neg (by rw [e1]; exact h2)]
      rw [e1, e3]
      have hb1 : (trE [row] p.length != 0) = true := by simpa using h2
      generalize trE [row] p.length = e at *
      refine pdv_of (fn := Tryd.f31) [.tmp 4, .tmp 5] (by kernel_rfl) rfl (by kernel_rfl) (Nat.le_of_ble_eq_true rfl) (by kernel_rfl) rfl ?_
      (repeat' (first | refine awp_seq ?_ | refine awp_skip ?_ | refine awp_block ?_ | ((first | (refine awpF_region ?_; intro K hK) | refine CallK.pd (h33) ?_ | refine CallK.pg (fun _ => h33) ?_ | refine CallK.pd (h21) ?_ | refine CallK.pg (fun _ => h21) ?_); simp only [push_cast, seval, bne_self_eq_false, hb1]; (try simp (disch := omega) only [wrapI]); (repeat ((with_reducible refine And.intro ?_ ?_); (focus (exact ob1))))) | (refine hK _ ?_; clear hK K) | (apply awp_cond; (focus (simp only [push_cast, seval]; rfl))) | (with_reducible intro hb; exfalso; revert hb; simp [bne_self_eq_false, hb1]; done) | (with_reducible intro hb; exfalso; (try simp only [decide_eq_true_eq, decide_eq_false_iff_not, Bool.not_eq_true', Bool.not_eq_false', Bool.and_eq_true, Bool.or_eq_true, Bool.not_eq_true] at hb); omega; done) | (with_reducible intro hb; (try simp only [decide_eq_true_eq, decide_eq_false_iff_not, Bool.not_eq_true', Bool.not_eq_false', Bool.and_eq_true, Bool.or_eq_true, Bool.not_eq_true] at hb)) | (refine awp_exit ?_; (repeat (first | refine then_exit ?_ | refine inblock_other (by decide) ?_)); refine inblock_same ?_) | (refine awp_ret ?_; (repeat (first | refine then_ret ?_ | refine inblock_ret ?_ | refine nogoto_ret ?_)); refine fin_of (by simp only [push_cast, seval, bne_self_eq_false, hb1]; first | done | rfl) ob1 ?_) | (refine inblock_norm ?_)))
      exact DeepV.tups (DeepV.cons .nil (DeepV.cons (DeepV.dd _) DeepV.nils))
  · have e1 : folE p row = plE p := by rw [folE, if_pos h1]
    have e3 : folR p row = [] := by rw [folR, if_neg (by rw [e1]; exact h1)]
    rw [e1, e3]
    have hb1 : (plE p != 0) = true := by simpa using h1
    generalize plE p = e at *
    refine pdv_of (fn := Tryd.f31) [.tmp 4, .tmp 5] (by kernel_rfl) rfl (by kernel_rfl) (Nat.le_of_ble_eq_true rfl) (by kernel_rfl) rfl ?_
    (repeat' (first | refine awp_seq ?_ | refine awp_skip ?_ | refine awp_block ?_ | ((first | (refine awpF_region ?_; intro K hK) | refine CallK.pd (h33) ?_ | refine CallK.pg (fun _ => h33) ?_ | refine CallK.pd (h21) ?_ | refine CallK.pg (fun _ => h21) ?_); simp only [push_cast, seval, hb1]; (try simp (disch := omega) only [wrapI]); (repeat ((with_reducible refine And.intro ?_ ?_); (focus (exact ob1))))) | (refine hK _ ?_; clear hK K) | (apply awp_cond; (focus (simp only [push_cast, seval]; rfl))) | (with_reducible intro hb; exfalso; revert hb; simp [hb1]; done) | (with_reducible intro hb; exfalso; (try simp only [decide_eq_true_eq, decide_eq_false_iff_not, Bool.not_eq_true', Bool.not_eq_false', Bool.and_eq_true, Bool.or_eq_true, Bool.not_eq_true] at hb); omega; done) | (with_reducible intro hb; (try simp only [decide_eq_true_eq, decide_eq_false_iff_not, Bool.not_eq_true', Bool.not_eq_false', Bool.and_eq_true, Bool.or_eq_true, Bool.not_eq_true] at hb)) | (refine awp_exit ?_; (repeat (first | refine then_exit ?_ | refine inblock_other (by decide) ?_)); refine inblock_same ?_) | (refine awp_ret ?_; (repeat (first | refine then_ret ?_ | refine inblock_ret ?_ | refine nogoto_ret ?_)); refine fin_of (by simp only [push_cast, seval, hb1]; first | done | rfl) ob1 ?_) | (refine inblock_norm ?_)))
    exact DeepV.tups (DeepV.cons .nil (DeepV.cons (DeepV.dd _) DeepV.nils))
theorem encCh_row {l : List Ch} {row : List D} (h : row ∈ l.map encCh) : row.length = 5 ∧ row.all D.leaf = true := by
  obtain ⟨x, _, rfl⟩ := List.mem_map.1 h; exact ⟨rfl, rfl⟩
theorem p7 (p : List Ch) (row : List Int) (hp : p.length ≤ 1000000000000000) (hr : row.length ≤ 1000000000000000) : PD Tryd.prog 7 [.sl (p.map encCh), .sl (row.map encI)] (.d (.bool true)) := by
  have h13 := p13
  by_cases h1 : 14 < p.length
  · have hd : decide ((p.length : Int) > 14) = true := decide_eq_true (by omega)
    refine pd_of (fn := Tryd.f7) [.tmp 4] (by kernel_rfl) rfl (by kernel_rfl) (Nat.le_of_ble_eq_true rfl) (by kernel_rfl) rfl rfl ?_
    (repeat' (first | refine awp_seq ?_ | refine awp_skip ?_ | refine awp_block ?_ | ((first | (refine awpF_region ?_; intro K hK) | (refine awpF_draw (id := 11) [0,1,2,3,4,5,6,7,8] (by kernel_rfl) (by kernel_rfl) rfl ?_; intro K hK) | refine CallK.pd (h13) ?_ | refine CallK.pg (fun _ => h13) ?_); simp only [push_cast, seval, hd]; (try simp (disch := omega) only [wrapI]); (repeat ((with_reducible refine And.intro ?_ ?_); (focus (exact ob1))))) | (refine hK _ ?_; clear hK K) | (apply awp_cond; (focus (simp only [push_cast, seval]; rfl))) | (with_reducible intro hb; exfalso; revert hb; simp [hd]; done) | (with_reducible intro hb; exfalso; (try simp only [decide_eq_true_eq, decide_eq_false_iff_not, Bool.not_eq_true', Bool.not_eq_false', Bool.and_eq_true, Bool.or_eq_true, Bool.not_eq_true] at hb); omega; done) | (with_reducible intro hb; (try simp only [decide_eq_true_eq, decide_eq_false_iff_not, Bool.not_eq_true', Bool.not_eq_false', Bool.and_eq_true, Bool.or_eq_true, Bool.not_eq_true] at hb)) | (refine awp_exit ?_; (repeat (first | refine then_exit ?_ | refine inblock_other (by decide) ?_)); refine inblock_same ?_) | (refine awp_ret ?_; (repeat (first | refine then_ret ?_ | refine inblock_ret ?_ | refine nogoto_ret ?_)); refine fin_of (by simp only [push_cast, seval, hd]; first | done | rfl) ob1 ?_) | (refine inblock_norm ?_)))
    rfl
  have hd1 : decide ((p.length : Int) > 14) = false := decide_eq_false (by omega)
  by_cases h2 : 14 < row.length
  · have hd : decide ((row.length : Int) > 14) = true := decide_eq_true (by omega)
    refine pd_of (fn := Tryd.f7) [.tmp 4] (by kernel_rfl) rfl (by kernel_rfl) (Nat.le_of_ble_eq_true rfl) (by kernel_rfl) rfl rfl ?_
    (repeat' (first | refine awp_seq ?_ | refine awp_skip ?_ | refine awp_block ?_ | ((first | (refine awpF_region ?_; intro K hK) | (refine awpF_draw (id := 11) [0,1,2,3,4,5,6,7,8] (by kernel_rfl) (by kernel_rfl) rfl ?_; intro K hK) | refine CallK.pd (h13) ?_ | refine CallK.pg (fun _ => h13) ?_); simp only [push_cast, seval, hd1, hd]; (try simp (disch := omega) only [wrapI]); (repeat ((with_reducible refine And.intro ?_ ?_); (focus (exact ob1))))) | (refine hK _ ?_; clear hK K) | (apply awp_cond; (focus (simp only [push_cast, seval]; rfl))) | (with_reducible intro hb; exfalso; revert hb; simp [hd1, hd]; done) | (with_reducible intro hb; exfalso; (try simp only [decide_eq_true_eq, decide_eq_false_iff_not, Bool.not_eq_true', Bool.not_eq_false', Bool.and_eq_true, Bool.or_eq_true, Bool.not_eq_true] at hb); omega; done) | (with_reducible intro hb; (try simp only [decide_eq_true_eq, decide_eq_false_iff_not, Bool.not_eq_true', Bool.not_eq_false', Bool.and_eq_true, Bool.or_eq_true, Bool.not_eq_true] at hb)) | (refine awp_exit ?_; (repeat (first | refine then_exit ?_ | refine inblock_other (by decide) ?_)); refine inblock_same ?_) | (refine awp_ret ?_; (repeat (first | refine then_ret ?_ | refine inblock_ret ?_ | refine nogoto_ret ?_)); refine fin_of (by simp only [push_cast, seval, hd1, hd]; first | done | rfl) ob1 ?_) | (refine inblock_norm ?_)))
    rfl
  have hd2 : decide ((row.length : Int) > 14) = false := decide_eq_false (by omega)
  have h30 := p30 p row (by omega)
  have h31 := p31 p row (by omega)
  have h32 := p32 p (by omega)
  have h33 := p33 p (by omega)
  have hlen : (folR p row).length ≤ 1000000 ∧ ∀ r, r ∈ folR p row → r.length ≤ 1000000000 := by
    unfold folR
    split
    · rename_i h
      unfold folE at h
      split at h
      · rename_i h3; exact absurd h h3
      · rename_i h3
        have h3 := Decidable.not_not.1 h3
        obtain ⟨g1, g2⟩ := tr_one h
        have := folV_len h3 (show p.length ≤ row.length by omega)
        refine ⟨by omega, fun r hr => ?_⟩
        have := (folV_row p row (pl_ok h3).2.2.1 (by omega) r hr).1
        omega
    · exact ⟨by simp, by simp⟩
  have h23 := p23 (folR p row) (folR p row) hlen.1 hlen.2
  have h34 := p34 row row (by omega)
  rw [decide_eq_true rfl] at h23
  rw [beq_self_eq_true] at h34
  generalize folR p row = FR at *
  generalize folE p row = fe at *
  generalize plE p = pe at *
  have hqp : ∀ r, r ∈ p.map encCh → r.length = 5 ∧ r.all D.leaf = true := fun r h => encCh_row h
  have hqp5 : ∀ r, r ∈ p.map encCh → r.length = 5 := fun r h => (encCh_row h).1
  have hqr : ∀ r, r ∈ row.map encI → r.length = 1 ∧ r.all D.leaf = true := fun r h => encI_row h
  have htp : List.take p.length (p.map encCh) = p.map encCh := List.take_of_length_le (by simp)
  have htr : List.take row.length (row.map encI) = row.map encI := List.take_of_length_le (by simp)
  refine pd_of (fn := Tryd.f7) [.tmp 4] (by kernel_rfl) rfl (by kernel_rfl) (Nat.le_of_ble_eq_true rfl) (by kernel_rfl) rfl rfl ?_
  (repeat' (first | refine awp_seq ?_ | refine awp_skip ?_ | refine awp_block ?_ | ((first | ((fail_if_success refine awpF_region (id := 3) ?_); refine awpF_region ?_; intro K hK) | (refine awpF_draw (id := 11) [0,1,2,3,4,5,6,7,8] (by kernel_rfl) (by kernel_rfl) rfl ?_; intro K hK) | refine CallK.pd (h13) ?_ | refine CallK.pg (fun _ => h13) ?_); simp only [push_cast, seval, hd1, hd2]; (try simp (disch := omega) only [wrapI]); (repeat ((with_reducible refine And.intro ?_ ?_); (focus (exact ob1))))) | (refine hK _ ?_; clear hK K) | (apply awp_cond; (focus (simp only [push_cast, seval]; rfl))) | (with_reducible intro hb; exfalso; revert hb; simp [hd1, hd2]; done) | (with_reducible intro hb; exfalso; (try simp only [decide_eq_true_eq, decide_eq_false_iff_not, Bool.not_eq_true', Bool.not_eq_false', Bool.and_eq_true, Bool.or_eq_true, Bool.not_eq_true] at hb); omega; done) | (with_reducible intro hb; (try simp only [decide_eq_true_eq, decide_eq_false_iff_not, Bool.not_eq_true', Bool.not_eq_false', Bool.and_eq_true, Bool.or_eq_true, Bool.not_eq_true] at hb)) | (refine awp_exit ?_; (repeat (first | refine then_exit ?_ | refine inblock_other (by decide) ?_)); refine inblock_same ?_) | (refine awp_ret ?_; (repeat (first | refine then_ret ?_ | refine inblock_ret ?_ | refine nogoto_ret ?_)); refine fin_of (by simp only [push_cast, seval, hd1, hd2]; first | done | rfl) ob1 ?_) | (refine inblock_norm ?_)))
  refine awpF_region ?_; intro K hK; simp only [push_cast, seval, htp, htr]; (try simp (disch := omega) only [wrapI]); (repeat ((with_reducible refine And.intro ?_ ?_); (focus (exact ob1)))); refine hK _ ?_; clear hK K
  refine awp_fz (.ref 0 0 p.length) ?_
  simp only [push_cast, seval, St.fz, St.frz, htp]
  refine awp_fz (.ref 1 0 row.length) ?_
  simp only [push_cast, seval, St.fz, St.frz, htr]
  (repeat' (first | refine awp_seq ?_ | refine awp_skip ?_ | refine awp_block ?_ | ((first | ((fail_if_success refine awpF_region (id := 8) ?_); refine awpF_region ?_; intro K hK) | (refine awpF_draw (id := 11) [0,1,2,3,4,5,6,7,8] (by kernel_rfl) (by kernel_rfl) rfl ?_; intro K hK) | refine CallK.pd (h30) ?_ | refine CallK.pg (fun _ => h30) ?_ | refine CallK.pd (h31) ?_ | refine CallK.pg (fun _ => h31) ?_ | refine CallK.pd (h32) ?_ | refine CallK.pg (fun _ => h32) ?_ | refine CallK.pd (h33) ?_ | refine CallK.pg (fun _ => h33) ?_ | refine CallK.pd (h23) ?_ | refine CallK.pg (fun _ => h23) ?_ | refine CallK.pd (h34) ?_ | refine CallK.pg (fun _ => h34) ?_); simp only [push_cast, seval, bne_self_eq_false]; (try simp (disch := omega) only [wrapI]); (repeat ((with_reducible refine And.intro ?_ ?_); (focus (exact ob1))))) | (refine hK _ ?_; clear hK K) | (apply awp_cond; (focus (simp only [push_cast, seval]; rfl))) | (with_reducible intro hb; exfalso; revert hb; simp [bne_self_eq_false]; done) | (with_reducible intro hb; exfalso; (try simp only [decide_eq_true_eq, decide_eq_false_iff_not, Bool.not_eq_true', Bool.not_eq_false', Bool.and_eq_true, Bool.or_eq_true, Bool.not_eq_true] at hb); omega; done) | (with_reducible intro hb; (try simp only [decide_eq_true_eq, decide_eq_false_iff_not, Bool.not_eq_true', Bool.not_eq_false', Bool.and_eq_true, Bool.or_eq_true, Bool.not_eq_true] at hb)) | (refine awp_exit ?_; (repeat (first | refine then_exit ?_ | refine inblock_other (by decide) ?_)); refine inblock_same ?_) | (refine awp_ret ?_; (repeat (first | refine then_ret ?_ | refine inblock_ret ?_ | refine nogoto_ret ?_)); refine fin_of (by simp only [push_cast, seval, bne_self_eq_false]; first | done | rfl) ob1 ?_) | (refine inblock_norm ?_)))
  refine awpF_region ?_; intro K hK; simp only [push_cast, seval]; (try simp (disch := omega) only [wrapI]); (repeat ((with_reducible refine And.intro ?_ ?_); (focus (exact ob1)))); refine hK _ ?_; clear hK K
  refine awp_block ?_
  refine awp_loopP (α := Nat) (st := fun i => ⟨[(0, .d (.sl (p.map encCh))), (5, .d (.sl (p.map encCh))), (11, .d (.int .i64 i))], []⟩) (inv := fun i => i ≤ p.length) (μ := fun i => p.length - i) (x0 := 0) (r0 := []) (Nat.zero_le _) ?_ ?_
  · exact ⟨by simp, by simp, by simp [push_cast, seval], by simp [push_cast, seval], by simp [push_cast, seval], by simp [push_cast, seval]⟩
  intro i hi
  refine awp_seq ?_
  refine awp_seq ?_
  refine awpF_region ?_; intro K hK; simp only [push_cast, seval]; (try simp (disch := omega) only [wrapI]); (repeat ((with_reducible refine And.intro ?_ ?_); (focus (exact ob1)))); refine hK _ ?_; clear hK K
  apply awp_cond; (focus (simp only [push_cast, seval]; rfl))
  · intro h3; (try simp only [decide_eq_true_eq, decide_eq_false_iff_not, Bool.not_eq_true', Bool.not_eq_false', Bool.and_eq_true, Bool.or_eq_true, Bool.not_eq_true] at h3)
    have hlt : i < p.length := by omega
    obtain ⟨c, hc⟩ : ∃ c, p[i]? = some c := ⟨_, List.getElem?_eq_getElem hlt⟩
    refine awp_skip ?_
    refine awp_seq ?_
    refine awp_block ?_
    refine awp_seq ?_
    refine awpF_draw [0,1,2,3,4,5,6,7,8] (by kernel_rfl) (by kernel_rfl) rfl ?_; intro K hK; simp only [push_cast, seval, hc, encCh, Int.toNat_natCast]
    (repeat ((with_reducible refine And.intro ?_ ?_); (focus (exact ob1))))
    refine hK _ ?_; clear hK K
    apply awp_cond; (focus (simp only [push_cast, seval]; rfl))
    · intro h
      exfalso
      simp at h
    intro _
    refine awp_skip ?_
    refine inblock_norm ?_
    refine awpF_region ?_; intro K hK; simp only [push_cast, seval]; (try simp (disch := omega) only [wrapI]); (repeat ((with_reducible refine And.intro ?_ ?_); (focus (exact ob1)))); refine hK _ ?_; clear hK K
    refine round_endG (i + 1) [] ⟨by omega, by omega, ?_⟩
    push_cast
    exact ⟨by simp, by simp, by simp [push_cast, seval], by simp [push_cast, seval], by simp [push_cast, seval], by simp [push_cast, seval]⟩
  · intro h3; (try simp only [decide_eq_true_eq, decide_eq_false_iff_not, Bool.not_eq_true', Bool.not_eq_false', Bool.and_eq_true, Bool.or_eq_true, Bool.not_eq_true] at h3)
    refine awp_exit ?_; (repeat (first | refine then_exit ?_ | refine inblock_other (by decide) ?_)); refine inblock_same ?_
    refine awp_seq ?_
    refine awpF_region ?_; intro K hK; simp only [push_cast, seval]
    refine CallK.pd (h13) ?_; simp only [push_cast, seval]; (try simp (disch := omega) only [wrapI]); (repeat ((with_reducible refine And.intro ?_ ?_); (focus (exact ob1))))
    refine hK _ ?_; clear hK K
    refine awp_ret ?_; (repeat (first | refine then_ret ?_ | refine inblock_ret ?_ | refine nogoto_ret ?_)); refine fin_of (by simp only [push_cast, seval]; first | done | rfl) ob1 ?_
    rfl
end Go.Aw
