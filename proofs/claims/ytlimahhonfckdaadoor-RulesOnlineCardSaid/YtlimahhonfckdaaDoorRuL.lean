/-
  Texts of the library, one behind the other. Over any program; no condition.
-/
import Derived.Test.YtlimahhonfckdaaDoorRuB
import Derived.Test.YtlimahhonfckdaaDoorPkT
namespace Go.Aw
set_option linter.unusedSimpArgs false
set_option linter.unusedVariables false
open Go.RowKit Go.Proofs
set_option maxRecDepth 100000

theorem encI_row {l : List Int} {row : List D} (h : row ∈ l.map encI) : row.length = 1 ∧ row.all D.leaf = true := by
  obtain ⟨x, _, rfl⟩ := List.mem_map.1 h; exact ⟨rfl, rfl⟩
theorem encNd_row {l : List Nd} {row : List D} (h : row ∈ l.map encNd) : row.length = 6 ∧ row.all D.leaf = true := by
  obtain ⟨x, _, rfl⟩ := List.mem_map.1 h; exact ⟨rfl, rfl⟩
theorem p72c (l : List Int) (hn : l.length ≤ 1000000) : PC Tryd.prog 72 [.sl (l.map encI)] fun x H => x = .ref 0 0 l.length ∧ H = [.data 1 (l.map encI)] := by
  refine pc_of (fn := Tryd.f72) [.tmp 2] (by kernel_rfl) rfl (by kernel_rfl) (Nat.le_of_ble_eq_true rfl) (by kernel_rfl) rfl ?_
  refine awp_seq ?_
  refine awpF_region ?_; intro K hK; simp only [push_cast, seval]; (try simp (disch := omega) only [wrapI]); (repeat ((with_reducible refine And.intro ?_ ?_); (focus (exact ob1)))); refine hK _ ?_; clear hK K
  refine awp_seq ?_
  refine awp_seq ?_
  refine awpF_region ?_; intro K hK; simp only [push_cast, seval]
  refine ⟨?_, fun h0 => ?_⟩
  · refine hK _ ?_; clear hK K
    apply awp_cond; (focus (simp only [push_cast, seval]; rfl))
    · intro h1; (try simp only [decide_eq_true_eq, decide_eq_false_iff_not, Bool.not_eq_true', Bool.not_eq_false', Bool.and_eq_true, Bool.or_eq_true, Bool.not_eq_true] at h1)
      cases h1
    intro h1; (try simp only [decide_eq_true_eq, decide_eq_false_iff_not, Bool.not_eq_true', Bool.not_eq_false', Bool.and_eq_true, Bool.or_eq_true, Bool.not_eq_true] at h1)
    refine awp_skip ?_
    refine awp_seq ?_
    refine awpF_region ?_; intro K hK; simp only [push_cast, seval]
    refine ⟨fun h => h, by omega, by omega, fun r h => encI_row h, ?_⟩
    refine hK _ ?_; clear hK K
    refine awp_ret ?_; (repeat (first | refine then_ret ?_ | refine inblock_ret ?_ | refine nogoto_ret ?_)); refine fin_of (by simp only [push_cast, seval]; first | done | rfl) ob1 ?_
    exact ⟨rfl, rfl⟩
  · refine hK _ ?_; clear hK K
    obtain rfl : l = [] := List.eq_nil_of_length_eq_zero h0
    apply awp_cond; (focus (simp only [push_cast, seval]; rfl))
    · intro h1; (try simp only [decide_eq_true_eq, decide_eq_false_iff_not, Bool.not_eq_true', Bool.not_eq_false', Bool.and_eq_true, Bool.or_eq_true, Bool.not_eq_true] at h1)
      refine awp_seq ?_
      refine awpF_region ?_; intro K hK; simp only [push_cast, seval]; (try simp (disch := omega) only [wrapI]); (repeat ((with_reducible refine And.intro ?_ ?_); (focus (exact ob1)))); refine hK _ ?_; clear hK K
      refine awp_virt 2 1 rfl ?_
      refine awp_ret ?_; (repeat (first | refine then_ret ?_ | refine inblock_ret ?_ | refine nogoto_ret ?_)); refine fin_of (by simp only [push_cast, seval]; first | done | rfl) ob1 ?_
      exact ⟨rfl, rfl⟩
    intro h1; (try simp only [decide_eq_true_eq, decide_eq_false_iff_not, Bool.not_eq_true', Bool.not_eq_false', Bool.and_eq_true, Bool.or_eq_true, Bool.not_eq_true] at h1)
    cases h1
theorem p72 (l : List Int) (hn : l.length ≤ 1000000) : PD Tryd.prog 72 [.sl (l.map encI)] (.d (.sl (l.map encI))) :=
  AC.deepV (R := fun x H => x = .ref 0 0 l.length ∧ H = [.data 1 (l.map encI)]) (p72c l hn) fun x H ⟨h1, h2⟩ => ⟨_, by rw [h1, h2]; exact DeepV.row rfl (by simp), rfl, rfl⟩
theorem p69c (l : List Nd) (hn : l.length ≤ 1000000) : PC Tryd.prog 69 [.sl (l.map encNd)] fun x H => x = .ref 0 0 l.length ∧ H = [.data 6 (l.map encNd)] := by
  refine pc_of (fn := Tryd.f69) [.tmp 2] (by kernel_rfl) rfl (by kernel_rfl) (Nat.le_of_ble_eq_true rfl) (by kernel_rfl) rfl ?_
  refine awp_seq ?_
  refine awpF_region ?_; intro K hK; simp only [push_cast, seval]; (try simp (disch := omega) only [wrapI]); (repeat ((with_reducible refine And.intro ?_ ?_); (focus (exact ob1)))); refine hK _ ?_; clear hK K
  refine awp_seq ?_
  refine awp_seq ?_
  refine awpF_region ?_; intro K hK; simp only [push_cast, seval]
  refine ⟨?_, fun h0 => ?_⟩
  · refine hK _ ?_; clear hK K
    apply awp_cond; (focus (simp only [push_cast, seval]; rfl))
    · intro h1; (try simp only [decide_eq_true_eq, decide_eq_false_iff_not, Bool.not_eq_true', Bool.not_eq_false', Bool.and_eq_true, Bool.or_eq_true, Bool.not_eq_true] at h1)
      cases h1
    intro h1; (try simp only [decide_eq_true_eq, decide_eq_false_iff_not, Bool.not_eq_true', Bool.not_eq_false', Bool.and_eq_true, Bool.or_eq_true, Bool.not_eq_true] at h1)
    refine awp_skip ?_
    refine awp_seq ?_
    refine awpF_region ?_; intro K hK; simp only [push_cast, seval]
    refine ⟨fun h => h, by omega, by omega, fun r h => encNd_row h, ?_⟩
    refine hK _ ?_; clear hK K
    refine awp_ret ?_; (repeat (first | refine then_ret ?_ | refine inblock_ret ?_ | refine nogoto_ret ?_)); refine fin_of (by simp only [push_cast, seval]; first | done | rfl) ob1 ?_
    exact ⟨rfl, rfl⟩
  · refine hK _ ?_; clear hK K
    obtain rfl : l = [] := List.eq_nil_of_length_eq_zero h0
    apply awp_cond; (focus (simp only [push_cast, seval]; rfl))
    · intro h1; (try simp only [decide_eq_true_eq, decide_eq_false_iff_not, Bool.not_eq_true', Bool.not_eq_false', Bool.and_eq_true, Bool.or_eq_true, Bool.not_eq_true] at h1)
      refine awp_seq ?_
      refine awpF_region ?_; intro K hK; simp only [push_cast, seval]; (try simp (disch := omega) only [wrapI]); (repeat ((with_reducible refine And.intro ?_ ?_); (focus (exact ob1)))); refine hK _ ?_; clear hK K
      refine awp_virt 2 6 rfl ?_
      refine awp_ret ?_; (repeat (first | refine then_ret ?_ | refine inblock_ret ?_ | refine nogoto_ret ?_)); refine fin_of (by simp only [push_cast, seval]; first | done | rfl) ob1 ?_
      exact ⟨rfl, rfl⟩
    intro h1; (try simp only [decide_eq_true_eq, decide_eq_false_iff_not, Bool.not_eq_true', Bool.not_eq_false', Bool.and_eq_true, Bool.or_eq_true, Bool.not_eq_true] at h1)
    cases h1
theorem p69 (l : List Nd) (hn : l.length ≤ 1000000) : PD Tryd.prog 69 [.sl (l.map encNd)] (.d (.sl (l.map encNd))) :=
  AC.deepV (R := fun x H => x = .ref 0 0 l.length ∧ H = [.data 6 (l.map encNd)]) (p69c l hn) fun x H ⟨h1, h2⟩ => ⟨_, by rw [h1, h2]; exact DeepV.row rfl (by simp), rfl, rfl⟩
theorem scr_id {n : Nat} {x : V} (h : V.bel n x = true) : scr n x = x := by
  unfold scr
  rw [if_neg]
  intro hh
  have := bel_has n x h n hh
  omega
theorem scrL_id {n : Nat} : ∀ {xs : List V}, V.belL n xs = true → scrL n xs = xs
  | [], _ => rfl
  | x :: xs, h => by
    simp only [V.belL, Bool.and_eq_true] at h
    rw [scrL, scr_id h.1, scrL_id h.2]
theorem blkScr_id {n : Nat} {b : Blk} (h : b.bel n = true) : b.scr n = b := by
  cases b with
  | cells xs => simp only [Blk.scr]; rw [scrL_id (by simpa [Blk.bel] using h)]
  | vrs k rs =>
    simp only [Blk.scr]
    congr 1
    have h' : ∀ r, r ∈ rs → V.belL n r = true := by simpa [Blk.bel] using h
    exact (List.map_congr_left fun r hr => scrL_id (h' r hr)).trans (List.map_id _)
  | mp es =>
    simp only [Blk.scr]
    congr 1
    have h' : ∀ a b, (a, b) ∈ es → V.bel n a = true ∧ V.bel n b = true := by simpa [Blk.bel] using h
    exact (List.map_congr_left fun r hr => by rw [scr_id (h' r.1 r.2 hr).1, scr_id (h' r.1 r.2 hr).2]; rfl).trans (List.map_id _)
  | it x seen m => simp only [Blk.scr]; rw [scr_id (by simpa [Blk.bel] using h)]
  | _ => rfl
end Go.Aw
