/-
  Contract of cloud.Register: the walk. Conditions: none (clouds that are not valid are refused).
-/
import Derived.Test.YtecindhbaekncaaC15
namespace Go.Aw
set_option linter.unusedSimpArgs false
set_option linter.unusedVariables false
open Go.RowKit Go.Proofs Go.Rg

def ptV (p : Pt) : List V := [.d (.int .i64 p.1), .d (.int .i64 p.2.1), .d (.int .i64 p.2.2)]
/-- What the iterator has shown. -/
def seenL (L : List Sp) (seen : List Nat) : List Sp := seen.filterMap (L[·]?)
theorem seenL_snoc {L : List Sp} {seen : List Nat} {j : Nat} {d : Sp} (h : L[j]? = some d) : seenL L (seen ++ [j]) = seenL L seen ++ [d] := by simp [seenL, h]
theorem seenL_all {L : List Sp} {seen : List Nat} (h : ∀ j, j < L.length → j ∈ seen) (d : Sp) : d ∈ seenL L seen ↔ d ∈ L := by
  simp only [seenL, List.mem_filterMap]
  constructor
  · rintro ⟨j, _, hj⟩; exact List.mem_of_getElem? hj
  · intro hd
    obtain ⟨j, hj, rfl⟩ := List.getElem_of_mem hd
    exact ⟨j, h j hj, List.getElem?_eq_getElem hj⟩
theorem esS_get {L : List Sp} {j : Nat} {p : V × V} (h : (esS L)[j]? = some p) : ∃ d, L[j]? = some d ∧ p = (encSp d, .d (.bool true)) := by
  simp only [esS, List.getElem?_map, Option.map_eq_some_iff] at h
  obtain ⟨d, hd, rfl⟩ := h
  exact ⟨d, hd, rfl⟩
theorem cor_lt (a b c : Int) : cor [cmp3 a b, c] < 0 ↔ (a < b ∨ a = b ∧ c < 0) := by
  simp only [cor, cmp3]
  by_cases h1 : a < b <;> by_cases h2 : a > b <;> by_cases h3 : c = 0 <;> simp [h1, h2, h3] <;> omega
theorem esS_frz (i : Nat) (rows : List (List D)) (l : List Sp) : (esS l).map (fun p => (V.frz i rows p.1, V.frz i rows p.2)) = esS l := by
  simp only [esS, List.map_map]
  apply List.map_congr_left
  intro d _
  simp [encSp, spV, V.frz, V.frzL]
theorem esS_len (L : List Sp) : (esS L).length = L.length := by simp [esS]

set_option maxHeartbeats 2000000 in
set_option maxRecDepth 100000 in
theorem p27 (a b : List Pt) (w s : Int) : PD Try.prog 27 [.sl (a.map encP), .sl (b.map encP), .int .i64 w, .int .i64 s] (regV (regOut a b w s)) := by
  refine pd_of (fn := Try.f27) [.cell 8 34, .tmp 9, .tmp 10] (by kernel_rfl) rfl (by kernel_rfl) (Nat.le_of_ble_eq_true rfl) (by kernel_rfl) rfl rfl ?_
  refine awp_seq ?_
  refine awpF_region ?_; intro K hK; simp only [push_cast, seval]; (try simp (disch := omega) only [wrapI]); (repeat ((with_reducible refine And.intro ?_ ?_); (focus (first | trivial | assumption | omega | (intro _ hrow; obtain ⟨_, _, rfl⟩ := List.mem_map.1 hrow; rfl) | ((intros; repeat' apply And.intro) <;> first | trivial | assumption | omega | (intro _ hrow; obtain ⟨_, _, rfl⟩ := List.mem_map.1 hrow; rfl) | (simp_all; done) | (simp_all; omega)))))); refine hK _ ?_; clear hK; clear K
  refine awp_seq ?_
  refine awp_seq ?_
  refine awpF_region ?_; intro K hK; simp only [push_cast, seval]
  (repeat ((with_reducible refine And.intro ?_ ?_); (focus (first | trivial | assumption | omega | (intro _ hrow; obtain ⟨_, _, rfl⟩ := List.mem_map.1 hrow; rfl) | ((intros; repeat' apply And.intro) <;> first | trivial | assumption | omega | (intro _ hrow; obtain ⟨_, _, rfl⟩ := List.mem_map.1 hrow; rfl) | (simp_all; done) | (simp_all; omega))))))
  refine hK _ ?_; clear hK; clear K
  refine awp_block ?_
  refine awp_loopP (st := fun (x : Nat) => ⟨[(0, .d (.sl (a.map encP))), (1, .d (.sl (b.map encP))), (2, .d (.int .i64 w)), (3, .d (.int .i64 s)), (8, .ptr 0 0 0), (27, .ref 1 0 2), (28, .d (.int .i64 2)), (29, .d (.int .i64 x))], [.cells (spV (0, 0)), .data 1 [[.sl (a.map encP)], [.sl (b.map encP)]]]⟩)
    (inv := fun x => x ≤ 2 ∧ (0 < x → check a = 0) ∧ (1 < x → check b = 0)) (μ := fun x => 2 - x) (x0 := 0) (r0 := [0, 1]) ?_ ?_ ?_
  · exact ⟨by omega, by omega, by omega⟩
  · simp only [spV]
    exact ⟨by simp, by simp, by simp [push_cast, seval], by simp [push_cast, seval], by simp [push_cast, seval], by simp [push_cast, seval]⟩
  rintro x ⟨hx, hxa, hxb⟩
  refine awp_seq ?_
  refine awpF_region ?_; intro K hK; simp only [push_cast, seval]; (try simp (disch := omega) only [wrapI]); (repeat ((with_reducible refine And.intro ?_ ?_); (focus (first | trivial | assumption | omega | (intro _ hrow; obtain ⟨_, _, rfl⟩ := List.mem_map.1 hrow; rfl) | ((intros; repeat' apply And.intro) <;> first | trivial | assumption | omega | (intro _ hrow; obtain ⟨_, _, rfl⟩ := List.mem_map.1 hrow; rfl) | (simp_all; done) | (simp_all; omega)))))); refine hK _ ?_; clear hK; clear K
  refine awp_seq ?_
  apply awp_cond; (focus (simp only [push_cast, seval]; rfl))
  · intro h1; (try simp only [decide_eq_true_eq, decide_eq_false_iff_not, Bool.not_eq_true', Bool.not_eq_false', Bool.and_eq_true, Bool.or_eq_true, Bool.not_eq_true] at h1)
    have hx2 : x = 0 ∨ x = 1 := by omega
    rcases hx2 with rfl | rfl
    · refine awp_skip ?_
      refine awp_seq ?_
      refine awp_block ?_
      refine awp_seq ?_
      refine awpF_region ?_; intro K hK; simp only [push_cast, seval, spV]; (try simp (disch := omega) only [wrapI]); (repeat ((with_reducible refine And.intro ?_ ?_); (focus (first | trivial | assumption | omega | (intro _ hrow; obtain ⟨_, _, rfl⟩ := List.mem_map.1 hrow; rfl) | ((intros; repeat' apply And.intro) <;> first | trivial | assumption | omega | (intro _ hrow; obtain ⟨_, _, rfl⟩ := List.mem_map.1 hrow; rfl) | (simp_all; done) | (simp_all; omega)))))); refine hK _ ?_; clear hK; clear K
      refine awp_seq ?_
      refine awpF_region ?_; intro K hK; simp only [push_cast, seval]
      (repeat ((with_reducible refine And.intro ?_ ?_); (focus (first | trivial | assumption | omega | (intro _ hrow; obtain ⟨_, _, rfl⟩ := List.mem_map.1 hrow; rfl) | ((intros; repeat' apply And.intro) <;> first | trivial | assumption | omega | (intro _ hrow; obtain ⟨_, _, rfl⟩ := List.mem_map.1 hrow; rfl) | (simp_all; done) | (simp_all; omega))))))
      refine CallK.pd (p25 _) ?_; simp only [push_cast, seval]; (try simp (disch := omega) only [wrapI]); (repeat ((with_reducible refine And.intro ?_ ?_); (focus (first | trivial | assumption | omega | (intro _ hrow; obtain ⟨_, _, rfl⟩ := List.mem_map.1 hrow; rfl) | ((intros; repeat' apply And.intro) <;> first | trivial | assumption | omega | (intro _ hrow; obtain ⟨_, _, rfl⟩ := List.mem_map.1 hrow; rfl) | (simp_all; done) | (simp_all; omega))))))
      refine hK _ ?_; clear hK; clear K
      refine awp_seq ?_
      refine awpF_region ?_; intro K hK; simp only [push_cast, seval]; (try simp (disch := omega) only [wrapI]); (repeat ((with_reducible refine And.intro ?_ ?_); (focus (first | trivial | assumption | omega | (intro _ hrow; obtain ⟨_, _, rfl⟩ := List.mem_map.1 hrow; rfl) | ((intros; repeat' apply And.intro) <;> first | trivial | assumption | omega | (intro _ hrow; obtain ⟨_, _, rfl⟩ := List.mem_map.1 hrow; rfl) | (simp_all; done) | (simp_all; omega)))))); refine hK _ ?_; clear hK; clear K
      apply awp_cond; (focus (simp only [push_cast, seval]; rfl))
      · intro h2; (try simp only [decide_eq_true_eq, decide_eq_false_iff_not, Bool.not_eq_true', Bool.not_eq_false', Bool.and_eq_true, Bool.or_eq_true, Bool.not_eq_true] at h2)
        have h2 : check a ≠ 0 := by simpa using h2
        have e : regErr a b w s = check a := by simp [regErr, h2]
        refine awp_seq ?_
        refine awpF_region ?_; intro K hK; simp only [push_cast, seval, spV]; (try simp (disch := omega) only [wrapI]); (repeat ((with_reducible refine And.intro ?_ ?_); (focus (first | trivial | assumption | omega | (intro _ hrow; obtain ⟨_, _, rfl⟩ := List.mem_map.1 hrow; rfl) | ((intros; repeat' apply And.intro) <;> first | trivial | assumption | omega | (intro _ hrow; obtain ⟨_, _, rfl⟩ := List.mem_map.1 hrow; rfl) | (simp_all; done) | (simp_all; omega)))))); refine hK _ ?_; clear hK; clear K
        refine awp_ret ?_; (repeat (first | refine then_ret ?_ | refine inblock_ret ?_)); refine fin_of (by simp only [push_cast, seval]; first | done | rfl) (by first | trivial | first | trivial | assumption | omega | (intro _ hrow; obtain ⟨_, _, rfl⟩ := List.mem_map.1 hrow; rfl) | ((intros; repeat' apply And.intro) <;> first | trivial | assumption | omega | (intro _ hrow; obtain ⟨_, _, rfl⟩ := List.mem_map.1 hrow; rfl) | (simp_all; done) | (simp_all; omega))) ?_
        simp [regOut, e, h2, regV, spV]
      · intro h2; (try simp only [decide_eq_true_eq, decide_eq_false_iff_not, Bool.not_eq_true', Bool.not_eq_false', Bool.and_eq_true, Bool.or_eq_true, Bool.not_eq_true] at h2)
        have h2 : check a = 0 := by simpa using h2
        refine awp_skip ?_
        refine awpF_region ?_; intro K hK; simp only [push_cast, seval]; (try simp (disch := omega) only [wrapI]); (repeat ((with_reducible refine And.intro ?_ ?_); (focus (first | trivial | assumption | omega | (intro _ hrow; obtain ⟨_, _, rfl⟩ := List.mem_map.1 hrow; rfl) | ((intros; repeat' apply And.intro) <;> first | trivial | assumption | omega | (intro _ hrow; obtain ⟨_, _, rfl⟩ := List.mem_map.1 hrow; rfl) | (simp_all; done) | (simp_all; omega)))))); refine hK _ ?_; clear hK; clear K
        refine round_endG 1 [0, 1] ⟨by omega, ⟨by omega, fun _ => h2, by omega⟩, ?_⟩
        simp only [spV]
        exact ⟨by simp, by simp, by simp [push_cast, seval], by simp [push_cast, seval], by simp [push_cast, seval], by simp [push_cast, seval]⟩
    · have ha := hxa (by omega)
      refine awp_skip ?_
      refine awp_seq ?_
      refine awp_block ?_
      refine awp_seq ?_
      refine awpF_region ?_; intro K hK; simp only [push_cast, seval, spV]; (try simp (disch := omega) only [wrapI]); (repeat ((with_reducible refine And.intro ?_ ?_); (focus (first | trivial | assumption | omega | (intro _ hrow; obtain ⟨_, _, rfl⟩ := List.mem_map.1 hrow; rfl) | ((intros; repeat' apply And.intro) <;> first | trivial | assumption | omega | (intro _ hrow; obtain ⟨_, _, rfl⟩ := List.mem_map.1 hrow; rfl) | (simp_all; done) | (simp_all; omega)))))); refine hK _ ?_; clear hK; clear K
      refine awp_seq ?_
      refine awpF_region ?_; intro K hK; simp only [push_cast, seval]
      (repeat ((with_reducible refine And.intro ?_ ?_); (focus (first | trivial | assumption | omega | (intro _ hrow; obtain ⟨_, _, rfl⟩ := List.mem_map.1 hrow; rfl) | ((intros; repeat' apply And.intro) <;> first | trivial | assumption | omega | (intro _ hrow; obtain ⟨_, _, rfl⟩ := List.mem_map.1 hrow; rfl) | (simp_all; done) | (simp_all; omega))))))
      refine CallK.pd (p25 _) ?_; simp only [push_cast, seval]; (try simp (disch := omega) only [wrapI]); (repeat ((with_reducible refine And.intro ?_ ?_); (focus (first | trivial | assumption | omega | (intro _ hrow; obtain ⟨_, _, rfl⟩ := List.mem_map.1 hrow; rfl) | ((intros; repeat' apply And.intro) <;> first | trivial | assumption | omega | (intro _ hrow; obtain ⟨_, _, rfl⟩ := List.mem_map.1 hrow; rfl) | (simp_all; done) | (simp_all; omega))))))
      refine hK _ ?_; clear hK; clear K
      refine awp_seq ?_
      refine awpF_region ?_; intro K hK; simp only [push_cast, seval]; (try simp (disch := omega) only [wrapI]); (repeat ((with_reducible refine And.intro ?_ ?_); (focus (first | trivial | assumption | omega | (intro _ hrow; obtain ⟨_, _, rfl⟩ := List.mem_map.1 hrow; rfl) | ((intros; repeat' apply And.intro) <;> first | trivial | assumption | omega | (intro _ hrow; obtain ⟨_, _, rfl⟩ := List.mem_map.1 hrow; rfl) | (simp_all; done) | (simp_all; omega)))))); refine hK _ ?_; clear hK; clear K
      apply awp_cond; (focus (simp only [push_cast, seval]; rfl))
      · intro h2; (try simp only [decide_eq_true_eq, decide_eq_false_iff_not, Bool.not_eq_true', Bool.not_eq_false', Bool.and_eq_true, Bool.or_eq_true, Bool.not_eq_true] at h2)
        have h2 : check b ≠ 0 := by simpa using h2
        have e : regErr a b w s = check b := by simp [regErr, ha, h2]
        refine awp_seq ?_
        refine awpF_region ?_; intro K hK; simp only [push_cast, seval, spV]; (try simp (disch := omega) only [wrapI]); (repeat ((with_reducible refine And.intro ?_ ?_); (focus (first | trivial | assumption | omega | (intro _ hrow; obtain ⟨_, _, rfl⟩ := List.mem_map.1 hrow; rfl) | ((intros; repeat' apply And.intro) <;> first | trivial | assumption | omega | (intro _ hrow; obtain ⟨_, _, rfl⟩ := List.mem_map.1 hrow; rfl) | (simp_all; done) | (simp_all; omega)))))); refine hK _ ?_; clear hK; clear K
        refine awp_ret ?_; (repeat (first | refine then_ret ?_ | refine inblock_ret ?_)); refine fin_of (by simp only [push_cast, seval]; first | done | rfl) (by first | trivial | first | trivial | assumption | omega | (intro _ hrow; obtain ⟨_, _, rfl⟩ := List.mem_map.1 hrow; rfl) | ((intros; repeat' apply And.intro) <;> first | trivial | assumption | omega | (intro _ hrow; obtain ⟨_, _, rfl⟩ := List.mem_map.1 hrow; rfl) | (simp_all; done) | (simp_all; omega))) ?_
        simp [regOut, e, h2, regV, spV]
      · intro h2; (try simp only [decide_eq_true_eq, decide_eq_false_iff_not, Bool.not_eq_true', Bool.not_eq_false', Bool.and_eq_true, Bool.or_eq_true, Bool.not_eq_true] at h2)
        have h2 : check b = 0 := by simpa using h2
        refine awp_skip ?_
        refine awpF_region ?_; intro K hK; simp only [push_cast, seval]; (try simp (disch := omega) only [wrapI]); (repeat ((with_reducible refine And.intro ?_ ?_); (focus (first | trivial | assumption | omega | (intro _ hrow; obtain ⟨_, _, rfl⟩ := List.mem_map.1 hrow; rfl) | ((intros; repeat' apply And.intro) <;> first | trivial | assumption | omega | (intro _ hrow; obtain ⟨_, _, rfl⟩ := List.mem_map.1 hrow; rfl) | (simp_all; done) | (simp_all; omega)))))); refine hK _ ?_; clear hK; clear K
        refine round_endG 2 [0, 1] ⟨by omega, ⟨by omega, fun _ => ha, fun _ => h2⟩, ?_⟩
        simp only [spV]
        exact ⟨by simp, by simp, by simp [push_cast, seval], by simp [push_cast, seval], by simp [push_cast, seval], by simp [push_cast, seval]⟩
  intro h1; (try simp only [decide_eq_true_eq, decide_eq_false_iff_not, Bool.not_eq_true', Bool.not_eq_false', Bool.and_eq_true, Bool.or_eq_true, Bool.not_eq_true] at h1)
  have hxe : x = 2 := by omega
  have ha := hxa (by omega)
  have hb' := hxb (by omega)
  subst hxe
  have hla := check_len ha
  have hlb := check_len hb'
  refine awp_exit ?_; (repeat (first | refine then_exit ?_ | refine inblock_other (by decide) ?_)); refine inblock_same ?_
  refine awp_seq ?_
  refine awp_seq ?_
  refine awpF_region ?_; intro K hK; simp only [push_cast, seval]; (try simp (disch := omega) only [wrapI]); (repeat ((with_reducible refine And.intro ?_ ?_); (focus (first | trivial | assumption | omega | (intro _ hrow; obtain ⟨_, _, rfl⟩ := List.mem_map.1 hrow; rfl) | ((intros; repeat' apply And.intro) <;> first | trivial | assumption | omega | (intro _ hrow; obtain ⟨_, _, rfl⟩ := List.mem_map.1 hrow; rfl) | (simp_all; done) | (simp_all; omega)))))); refine hK _ ?_; clear hK; clear K
  apply awp_cond; (focus (simp only [push_cast, seval]; rfl))
  · intro h3; (try simp only [decide_eq_true_eq, decide_eq_false_iff_not, Bool.not_eq_true', Bool.not_eq_false', Bool.and_eq_true, Bool.or_eq_true, Bool.not_eq_true] at h3)
    have h3' : 60 < a.length ∨ 60 < b.length := by omega
    have e : regErr a b w s = 8 := by simp [regErr, ha, hb', h3']
    refine awp_seq ?_
    refine awpF_region ?_; intro K hK; simp only [push_cast, seval, spV]; (try simp (disch := omega) only [wrapI]); (repeat ((with_reducible refine And.intro ?_ ?_); (focus (first | trivial | assumption | omega | (intro _ hrow; obtain ⟨_, _, rfl⟩ := List.mem_map.1 hrow; rfl) | ((intros; repeat' apply And.intro) <;> first | trivial | assumption | omega | (intro _ hrow; obtain ⟨_, _, rfl⟩ := List.mem_map.1 hrow; rfl) | (simp_all; done) | (simp_all; omega)))))); refine hK _ ?_; clear hK; clear K
    refine awp_ret ?_; (repeat (first | refine then_ret ?_ | refine inblock_ret ?_)); refine fin_of (by simp only [push_cast, seval]; first | done | rfl) (by first | trivial | first | trivial | assumption | omega | (intro _ hrow; obtain ⟨_, _, rfl⟩ := List.mem_map.1 hrow; rfl) | ((intros; repeat' apply And.intro) <;> first | trivial | assumption | omega | (intro _ hrow; obtain ⟨_, _, rfl⟩ := List.mem_map.1 hrow; rfl) | (simp_all; done) | (simp_all; omega))) ?_
    simp [regOut, e, regV, spV]
  intro h3; (try simp only [decide_eq_true_eq, decide_eq_false_iff_not, Bool.not_eq_true', Bool.not_eq_false', Bool.and_eq_true, Bool.or_eq_true, Bool.not_eq_true] at h3)
  have h3' : ¬ (60 < a.length ∨ 60 < b.length) := by omega
  refine awp_skip ?_
  refine awp_seq ?_
  refine awp_seq ?_
  refine awpF_region ?_; intro K hK; simp only [push_cast, seval]; (try simp (disch := omega) only [wrapI]); (repeat ((with_reducible refine And.intro ?_ ?_); (focus (first | trivial | assumption | omega | (intro _ hrow; obtain ⟨_, _, rfl⟩ := List.mem_map.1 hrow; rfl) | ((intros; repeat' apply And.intro) <;> first | trivial | assumption | omega | (intro _ hrow; obtain ⟨_, _, rfl⟩ := List.mem_map.1 hrow; rfl) | (simp_all; done) | (simp_all; omega)))))); refine hK _ ?_; clear hK; clear K
  apply awp_cond; (focus (simp only [push_cast, seval]; rfl))
  · intro h4; (try simp only [decide_eq_true_eq, decide_eq_false_iff_not, Bool.not_eq_true', Bool.not_eq_false', Bool.and_eq_true, Bool.or_eq_true, Bool.not_eq_true] at h4)
    have h4' : w < 0 ∨ 2000 < w ∨ s < 0 ∨ 2000 < s := by
      by_cases e1 : min w s < 0
      · omega
      · simp [e1] at h4; omega
    have e : regErr a b w s = 2 := by simp [regErr, ha, hb', h3', h4']
    refine awp_seq ?_
    refine awpF_region ?_; intro K hK; simp only [push_cast, seval, spV]; (try simp (disch := omega) only [wrapI]); (repeat ((with_reducible refine And.intro ?_ ?_); (focus (first | trivial | assumption | omega | (intro _ hrow; obtain ⟨_, _, rfl⟩ := List.mem_map.1 hrow; rfl) | ((intros; repeat' apply And.intro) <;> first | trivial | assumption | omega | (intro _ hrow; obtain ⟨_, _, rfl⟩ := List.mem_map.1 hrow; rfl) | (simp_all; done) | (simp_all; omega)))))); refine hK _ ?_; clear hK; clear K
    refine awp_ret ?_; (repeat (first | refine then_ret ?_ | refine inblock_ret ?_)); refine fin_of (by simp only [push_cast, seval]; first | done | rfl) (by first | trivial | first | trivial | assumption | omega | (intro _ hrow; obtain ⟨_, _, rfl⟩ := List.mem_map.1 hrow; rfl) | ((intros; repeat' apply And.intro) <;> first | trivial | assumption | omega | (intro _ hrow; obtain ⟨_, _, rfl⟩ := List.mem_map.1 hrow; rfl) | (simp_all; done) | (simp_all; omega))) ?_
    simp [regOut, e, regV, spV]
  intro h4; (try simp only [decide_eq_true_eq, decide_eq_false_iff_not, Bool.not_eq_true', Bool.not_eq_false', Bool.and_eq_true, Bool.or_eq_true, Bool.not_eq_true] at h4)
  have h4' : ¬ (w < 0 ∨ 2000 < w ∨ s < 0 ∨ 2000 < s) := by
    by_cases e1 : min w s < 0
    · simp [e1] at h4
    · simp [e1] at h4; omega
  obtain ⟨hok, herr⟩ := regOk_of ha hb' h3' h4'
  rw [show regOut a b w s = (regBest a b w s, cN a b s (regBest a b w s), 0) by simp [regOut, herr]]
  have hw0 := hok.w0
  have hw1 := hok.w1
  have hmk0 : MK Try.prog 34 [] := mkS (l := []) (by simp) List.nodup_nil
  have hkw0 : kwf Try.prog 34 (.agg [.d (.int .i64 0), .d (.int .i64 0)]) := kwf34 (d := (0, 0)) (by dsimp only; omega)
  have hput0 : mput [] (.agg [.d (.int .i64 0), .d (.int .i64 0)]) (.d (.bool true)) = esS [(0, 0)] := esS_put [] (0, 0)
  refine awp_skip ?_
  refine awp_seq ?_
  refine awpF_region ?_; intro K hK; simp only [push_cast, seval, hmk0, hkw0, hput0]
  (repeat ((with_reducible refine And.intro ?_ ?_); (focus (first | trivial | assumption | omega | (intro _ hrow; obtain ⟨_, _, rfl⟩ := List.mem_map.1 hrow; rfl) | ((intros; repeat' apply And.intro) <;> first | trivial | assumption | omega | (intro _ hrow; obtain ⟨_, _, rfl⟩ := List.mem_map.1 hrow; rfl) | (simp_all; done) | (simp_all; omega))))))
  refine hK _ ?_; clear hK; clear K
  refine awp_seq ?_
  refine awp_seq ?_
  refine awpF_region ?_; intro K hK; simp only [push_cast, seval]; (try simp (disch := omega) only [wrapI]); (repeat ((with_reducible refine And.intro ?_ ?_); (focus (first | trivial | assumption | omega | (intro _ hrow; obtain ⟨_, _, rfl⟩ := List.mem_map.1 hrow; rfl) | ((intros; repeat' apply And.intro) <;> first | trivial | assumption | omega | (intro _ hrow; obtain ⟨_, _, rfl⟩ := List.mem_map.1 hrow; rfl) | (simp_all; done) | (simp_all; omega)))))); refine hK _ ?_; clear hK; clear K
  refine awp_block ?_
  refine awp_loopP (st := fun (x : Nat) => ⟨[(0, .d (.sl (a.map encP))), (1, .d (.sl (b.map encP))), (2, .d (.int .i64 w)), (3, .d (.int .i64 s)), (8, .ptr 0 0 0), (14, .map 1), (61, .d (.sl (a.map encP))), (62, .d (.int .i64 a.length)), (63, .d (.int .i64 x))], [.cells (spV (0, 0)), .mp (esS (setOf (upto w a b x 0)))]⟩)
    (inv := fun x => x ≤ a.length) (μ := fun x => a.length - x) (x0 := 0) (r0 := [0, 2]) ?_ ?_ ?_
  · exact Nat.zero_le _
  · have : setOf (upto w a b 0 0) = [(0, 0)] := by rw [upto_zero]; rfl
    rw [this]
    simp only [spV]
    exact ⟨by simp, by simp, by simp [push_cast, seval, esS_ren], by simp [push_cast, seval], by simp [push_cast, seval], by simp [push_cast, seval, esS_bel]⟩
  intro i hi
  refine awp_seq ?_
  refine awpF_region ?_; intro K hK; simp only [push_cast, seval]; (try simp (disch := omega) only [wrapI]); (repeat ((with_reducible refine And.intro ?_ ?_); (focus (first | trivial | assumption | omega | (intro _ hrow; obtain ⟨_, _, rfl⟩ := List.mem_map.1 hrow; rfl) | ((intros; repeat' apply And.intro) <;> first | trivial | assumption | omega | (intro _ hrow; obtain ⟨_, _, rfl⟩ := List.mem_map.1 hrow; rfl) | (simp_all; done) | (simp_all; omega)))))); refine hK _ ?_; clear hK; clear K
  refine awp_seq ?_
  apply awp_cond; (focus (simp only [push_cast, seval]; rfl))
  · intro h5; (try simp only [decide_eq_true_eq, decide_eq_false_iff_not, Bool.not_eq_true', Bool.not_eq_false', Bool.and_eq_true, Bool.or_eq_true, Bool.not_eq_true] at h5)
    have hlt : i < a.length := by omega
    obtain ⟨p, hp⟩ : ∃ p, a[i]? = some p := ⟨_, List.getElem?_eq_getElem hlt⟩
    have hfp := fair_iff.1 (check_fair ha hp)
    refine awp_skip ?_
    refine awp_seq ?_
    refine awp_block ?_
    refine awp_seq ?_
    refine awpF_region ?_; intro K hK; simp only [push_cast, seval, hp, encP]; (try simp (disch := omega) only [wrapI]); (repeat ((with_reducible refine And.intro ?_ ?_); (focus (first | trivial | assumption | omega | (intro _ hrow; obtain ⟨_, _, rfl⟩ := List.mem_map.1 hrow; rfl) | ((intros; repeat' apply And.intro) <;> first | trivial | assumption | omega | (intro _ hrow; obtain ⟨_, _, rfl⟩ := List.mem_map.1 hrow; rfl) | (simp_all; done) | (simp_all; omega)))))); refine hK _ ?_; clear hK; clear K
    refine awp_seq ?_
    refine awpF_region ?_; intro K hK; simp only [push_cast, seval]; (try simp (disch := omega) only [wrapI]); (repeat ((with_reducible refine And.intro ?_ ?_); (focus (first | trivial | assumption | omega | (intro _ hrow; obtain ⟨_, _, rfl⟩ := List.mem_map.1 hrow; rfl) | ((intros; repeat' apply And.intro) <;> first | trivial | assumption | omega | (intro _ hrow; obtain ⟨_, _, rfl⟩ := List.mem_map.1 hrow; rfl) | (simp_all; done) | (simp_all; omega)))))); refine hK _ ?_; clear hK; clear K
    refine awp_block ?_
    refine awp_loopP (st := fun (x : Nat) => ⟨[(0, .d (.sl (a.map encP))), (1, .d (.sl (b.map encP))), (2, .d (.int .i64 w)), (3, .d (.int .i64 s)), (8, .ptr 0 0 0), (14, .map 1), (16, .ptr 2 0 0), (61, .d (.sl (a.map encP))), (62, .d (.int .i64 a.length)), (63, .d (.int .i64 i)), (67, .d (.sl (b.map encP))), (68, .d (.int .i64 b.length)), (69, .d (.int .i64 x))],
        [.cells (spV (0, 0)), .mp (esS (setOf (upto w a b i x))), .cells (ptV p)]⟩)
      (inv := fun x => x ≤ b.length) (μ := fun x => b.length - x) (x0 := 0) (r0 := [0, 1, 2]) ?_ ?_ ?_
    · exact Nat.zero_le _
    · simp only [spV, ptV]
      exact ⟨by simp, by simp, by simp [push_cast, seval, esS_ren], by simp [push_cast, seval], by simp [push_cast, seval], by simp [push_cast, seval, esS_bel]⟩
    intro k hk
    refine awp_seq ?_
    refine awpF_region ?_; intro K hK; simp only [push_cast, seval]; (try simp (disch := omega) only [wrapI]); (repeat ((with_reducible refine And.intro ?_ ?_); (focus (first | trivial | assumption | omega | (intro _ hrow; obtain ⟨_, _, rfl⟩ := List.mem_map.1 hrow; rfl) | ((intros; repeat' apply And.intro) <;> first | trivial | assumption | omega | (intro _ hrow; obtain ⟨_, _, rfl⟩ := List.mem_map.1 hrow; rfl) | (simp_all; done) | (simp_all; omega)))))); refine hK _ ?_; clear hK; clear K
    refine awp_seq ?_
    apply awp_cond; (focus (simp only [push_cast, seval]; rfl))
    · intro h6; (try simp only [decide_eq_true_eq, decide_eq_false_iff_not, Bool.not_eq_true', Bool.not_eq_false', Bool.and_eq_true, Bool.or_eq_true, Bool.not_eq_true] at h6)
      have hklt : k < b.length := by omega
      obtain ⟨q, hq⟩ : ∃ q, b[k]? = some q := ⟨_, List.getElem?_eq_getElem hklt⟩
      have hfq := fair_iff.1 (check_fair hb' hq)
      refine awp_skip ?_
      refine awp_seq ?_
      refine awp_block ?_
      refine awp_seq ?_
      refine awpF_region ?_; intro K hK; simp only [push_cast, seval, hq, encP, ptV, spV]; (try simp (disch := omega) only [wrapI]); (repeat ((with_reducible refine And.intro ?_ ?_); (focus (first | trivial | assumption | omega | (intro _ hrow; obtain ⟨_, _, rfl⟩ := List.mem_map.1 hrow; rfl) | ((intros; repeat' apply And.intro) <;> first | trivial | assumption | omega | (intro _ hrow; obtain ⟨_, _, rfl⟩ := List.mem_map.1 hrow; rfl) | (simp_all; done) | (simp_all; omega)))))); refine hK _ ?_; clear hK; clear K
      refine awp_seq ?_
      refine awpF_region ?_; intro K hK; simp only [push_cast, seval]; (try simp (disch := omega) only [wrapI]); (repeat ((with_reducible refine And.intro ?_ ?_); (focus (first | trivial | assumption | omega | (intro _ hrow; obtain ⟨_, _, rfl⟩ := List.mem_map.1 hrow; rfl) | ((intros; repeat' apply And.intro) <;> first | trivial | assumption | omega | (intro _ hrow; obtain ⟨_, _, rfl⟩ := List.mem_map.1 hrow; rfl) | (simp_all; done) | (simp_all; omega)))))); refine hK _ ?_; clear hK; clear K
      refine awp_seq ?_
      refine awpF_region ?_; intro K hK; simp only [push_cast, seval]; (try simp (disch := omega) only [wrapI]); (repeat ((with_reducible refine And.intro ?_ ?_); (focus (first | trivial | assumption | omega | (intro _ hrow; obtain ⟨_, _, rfl⟩ := List.mem_map.1 hrow; rfl) | ((intros; repeat' apply And.intro) <;> first | trivial | assumption | omega | (intro _ hrow; obtain ⟨_, _, rfl⟩ := List.mem_map.1 hrow; rfl) | (simp_all; done) | (simp_all; omega)))))); refine hK _ ?_; clear hK; clear K
      apply awp_cond; (focus (simp only [push_cast, seval]; rfl))
      · intro h7; (try simp only [decide_eq_true_eq, decide_eq_false_iff_not, Bool.not_eq_true', Bool.not_eq_false', Bool.and_eq_true, Bool.or_eq_true, Bool.not_eq_true] at h7)
        have hin : inW w (diff p q) := by simp only [inW, diff]; omega
        have hnew := upto_in hp hq hin
        have hmk : MK Try.prog 34 (esS (setOf (upto w a b i k))) := mkS (fun d hd => by
          have := upto_bnd hw0 ((mem_setOf _ _).1 hd)
          simp only [inW] at this ⊢
          omega) (nd_setOf _)
        have hkw : kwf Try.prog 34 (.agg [.d (.int .i64 (p.1 - q.1)), .d (.int .i64 (p.2.1 - q.2.1))]) := kwf34 (d := diff p q) (by simp only [diff]; omega)
        have hput : mput (esS (setOf (upto w a b i k))) (.agg [.d (.int .i64 (p.1 - q.1)), .d (.int .i64 (p.2.1 - q.2.1))]) (.d (.bool true)) = esS (setOf (upto w a b i (k + 1))) := by
          rw [hnew, setOf_snoc]
          exact esS_put _ (diff p q)
        refine awpF_region ?_; intro K hK; simp only [push_cast, seval, hmk, hkw, hput]
        (repeat ((with_reducible refine And.intro ?_ ?_); (focus (first | trivial | assumption | omega | (intro _ hrow; obtain ⟨_, _, rfl⟩ := List.mem_map.1 hrow; rfl) | ((intros; repeat' apply And.intro) <;> first | trivial | assumption | omega | (intro _ hrow; obtain ⟨_, _, rfl⟩ := List.mem_map.1 hrow; rfl) | (simp_all; done) | (simp_all; omega))))))
        refine hK _ ?_; clear hK; clear K
        refine awpF_region ?_; intro K hK; simp only [push_cast, seval]; (try simp (disch := omega) only [wrapI]); (repeat ((with_reducible refine And.intro ?_ ?_); (focus (first | trivial | assumption | omega | (intro _ hrow; obtain ⟨_, _, rfl⟩ := List.mem_map.1 hrow; rfl) | ((intros; repeat' apply And.intro) <;> first | trivial | assumption | omega | (intro _ hrow; obtain ⟨_, _, rfl⟩ := List.mem_map.1 hrow; rfl) | (simp_all; done) | (simp_all; omega)))))); refine hK _ ?_; clear hK; clear K
        refine round_endG (k + 1) [0, 1, 2] ⟨?_, hklt, ?_⟩
        · omega
        · simp only [spV, ptV]
          exact ⟨by simp, by simp, by simp [push_cast, seval, esS_ren], by simp [push_cast, seval], by simp [push_cast, seval], by simp [push_cast, seval, esS_bel]⟩
      · intro h7; (try simp only [decide_eq_true_eq, decide_eq_false_iff_not, Bool.not_eq_true', Bool.not_eq_false', Bool.and_eq_true, Bool.or_eq_true, Bool.not_eq_true] at h7)
        have hout : ¬ inW w (diff p q) := by simp only [inW, diff]; omega
        have hold := upto_out hp hq hout
        refine awp_skip ?_
        refine awpF_region ?_; intro K hK; simp only [push_cast, seval]; (try simp (disch := omega) only [wrapI]); (repeat ((with_reducible refine And.intro ?_ ?_); (focus (first | trivial | assumption | omega | (intro _ hrow; obtain ⟨_, _, rfl⟩ := List.mem_map.1 hrow; rfl) | ((intros; repeat' apply And.intro) <;> first | trivial | assumption | omega | (intro _ hrow; obtain ⟨_, _, rfl⟩ := List.mem_map.1 hrow; rfl) | (simp_all; done) | (simp_all; omega)))))); refine hK _ ?_; clear hK; clear K
        refine round_endG (k + 1) [0, 1, 2] ⟨?_, hklt, ?_⟩
        · omega
        · rw [hold]
          simp only [spV, ptV]
          exact ⟨by simp, by simp, by simp [push_cast, seval, esS_ren], by simp [push_cast, seval], by simp [push_cast, seval], by simp [push_cast, seval, esS_bel]⟩
    · intro h6; (try simp only [decide_eq_true_eq, decide_eq_false_iff_not, Bool.not_eq_true', Bool.not_eq_false', Bool.and_eq_true, Bool.or_eq_true, Bool.not_eq_true] at h6)
      have hke : k = b.length := by omega
      subst hke
      rw [upto_end hlt, ← upto_zero]
      refine awp_exit ?_; (repeat (first | refine then_exit ?_ | refine inblock_other (by decide) ?_)); refine inblock_same ?_
      refine awpF_region ?_; intro K hK; simp only [push_cast, seval]; (try simp (disch := omega) only [wrapI]); (repeat ((with_reducible refine And.intro ?_ ?_); (focus (first | trivial | assumption | omega | (intro _ hrow; obtain ⟨_, _, rfl⟩ := List.mem_map.1 hrow; rfl) | ((intros; repeat' apply And.intro) <;> first | trivial | assumption | omega | (intro _ hrow; obtain ⟨_, _, rfl⟩ := List.mem_map.1 hrow; rfl) | (simp_all; done) | (simp_all; omega)))))); refine hK _ ?_; clear hK; clear K
      refine round_endG (i + 1) [0, 1] ⟨?_, hlt, ?_⟩
      · omega
      · simp only [spV]
        exact ⟨by simp, by simp, by simp [push_cast, seval, esS_ren], by simp [push_cast, seval], by simp [push_cast, seval], by simp [push_cast, seval, esS_bel]⟩
  intro h5; (try simp only [decide_eq_true_eq, decide_eq_false_iff_not, Bool.not_eq_true', Bool.not_eq_false', Bool.and_eq_true, Bool.or_eq_true, Bool.not_eq_true] at h5)
  have hie : i = a.length := by omega
  subst hie
  rw [upto_zero, List.take_length]
  have hLm := mem_setOf (l := cands w a b)
  have hLb : ∀ d, d ∈ setOf (cands w a b) → inW w d := fun d hd => cands_bnd hw0 ((hLm d).1 hd)
  generalize setOf (cands w a b) = L at hLm hLb ⊢
  have hL0 : (0, 0) ∈ L := (hLm _).2 (by simp [cands])
  have hLl : 0 < L.length := List.length_pos_of_mem hL0
  refine awp_exit ?_; (repeat (first | refine then_exit ?_ | refine inblock_other (by decide) ?_)); refine inblock_same ?_
  refine awp_seq ?_
  refine awpF_region ?_; intro K hK; simp only [push_cast, seval]; (try simp (disch := omega) only [wrapI]); (repeat ((with_reducible refine And.intro ?_ ?_); (focus (first | trivial | assumption | omega | (intro _ hrow; obtain ⟨_, _, rfl⟩ := List.mem_map.1 hrow; rfl) | ((intros; repeat' apply And.intro) <;> first | trivial | assumption | omega | (intro _ hrow; obtain ⟨_, _, rfl⟩ := List.mem_map.1 hrow; rfl) | (simp_all; done) | (simp_all; omega)))))); refine hK _ ?_; clear hK; clear K
  refine awp_seq ?_
  refine awpF_region ?_; intro K hK; simp only [push_cast, seval]; (try simp (disch := omega) only [wrapI]); (repeat ((with_reducible refine And.intro ?_ ?_); (focus (first | trivial | assumption | omega | (intro _ hrow; obtain ⟨_, _, rfl⟩ := List.mem_map.1 hrow; rfl) | ((intros; repeat' apply And.intro) <;> first | trivial | assumption | omega | (intro _ hrow; obtain ⟨_, _, rfl⟩ := List.mem_map.1 hrow; rfl) | (simp_all; done) | (simp_all; omega)))))); refine hK _ ?_; clear hK; clear K
  refine awp_seq ?_
  refine awpF_region ?_; intro K hK; simp only [push_cast, seval]; (try simp (disch := omega) only [wrapI]); (repeat ((with_reducible refine And.intro ?_ ?_); (focus (first | trivial | assumption | omega | (intro _ hrow; obtain ⟨_, _, rfl⟩ := List.mem_map.1 hrow; rfl) | ((intros; repeat' apply And.intro) <;> first | trivial | assumption | omega | (intro _ hrow; obtain ⟨_, _, rfl⟩ := List.mem_map.1 hrow; rfl) | (simp_all; done) | (simp_all; omega)))))); refine hK _ ?_; clear hK; clear K
  refine awp_seq ?_
  refine awp_seq ?_
  refine awpF_region ?_; intro K hK; simp only [push_cast, seval]; (try simp (disch := omega) only [wrapI]); (repeat ((with_reducible refine And.intro ?_ ?_); (focus (first | trivial | assumption | omega | (intro _ hrow; obtain ⟨_, _, rfl⟩ := List.mem_map.1 hrow; rfl) | ((intros; repeat' apply And.intro) <;> first | trivial | assumption | omega | (intro _ hrow; obtain ⟨_, _, rfl⟩ := List.mem_map.1 hrow; rfl) | (simp_all; done) | (simp_all; omega)))))); refine hK _ ?_; clear hK; clear K
  refine awp_block ?_
  refine awp_loopP (st := fun (x : List Nat × Sp × Int) => ⟨[(0, .d (.sl (a.map encP))), (1, .d (.sl (b.map encP))), (3, .d (.int .i64 s)), (8, .ptr 0 0 0), (20, .ptr 2 0 0), (21, .d (.int .i64 x.2.2)), (22, .d (.fn (.func 66) [])), (102, .ptr 3 0 0)],
      [.cells (spV (0, 0)), .mp (esS L), .cells (spV x.2.1), .it (.map 1) x.1 L.length]⟩)
    (inv := fun x => x.1.Nodup ∧ (∀ j, j ∈ x.1 → j < L.length) ∧ (x.1 = [] ∧ x.2.1 = (0, 0) ∧ x.2.2 = -1 ∨ x.2.2 = cN a b s x.2.1 ∧ Best (cN a b s) (seenL L x.1) x.2.1)) (μ := fun x => L.length - x.1.length) (x0 := ([], (0, 0), -1)) (r0 := [0, 1, 2, 3]) ?_ ?_ ?_
  · exact ⟨List.nodup_nil, by simp, .inl ⟨rfl, rfl, rfl⟩⟩
  · simp only [spV]
    exact ⟨by simp, by simp, by simp [push_cast, seval, esS_ren, esS_len], by simp [push_cast, seval], by simp [push_cast, seval], by simp [push_cast, seval, esS_bel]⟩
  rintro ⟨seen, best, most⟩ ⟨hnd, hlt, hinv⟩
  dsimp only at hnd hlt hinv ⊢
  refine awp_seq ?_
  refine awpF_region ?_; intro K hK; simp only [push_cast, seval]
  refine ⟨(esS_len L).symm, fun hall => ?_, fun j pe hj hns => ?_⟩
  · have hall : ∀ j, j < L.length → j ∈ seen := fun j hj => hall j (by rw [esS_len]; exact hj)
    have hres : most = cN a b s best ∧ Best (cN a b s) (cands w a b) best := by
      rcases hinv with ⟨rfl, _, _⟩ | ⟨h1, h2⟩
      · exact absurd (hall 0 hLl) (by simp)
      · exact ⟨h1, h2.same fun d => by rw [seenL_all hall, hLm]⟩
    obtain ⟨rfl, hbest⟩ := hres
    have := hbest.unique (regBest_best a b w s) fun _ => Iff.rfl
    subst this
    simp only [push_cast, seval]
    (repeat ((with_reducible refine And.intro ?_ ?_); (focus (first | trivial | assumption | omega | (intro _ hrow; obtain ⟨_, _, rfl⟩ := List.mem_map.1 hrow; rfl) | ((intros; repeat' apply And.intro) <;> first | trivial | assumption | omega | (intro _ hrow; obtain ⟨_, _, rfl⟩ := List.mem_map.1 hrow; rfl) | (simp_all; done) | (simp_all; omega))))))
    refine hK _ ?_; clear hK; clear K
    refine awp_seq ?_
    apply awp_cond; (focus (simp only [push_cast, seval]; rfl))
    · intro h9; (try simp only [decide_eq_true_eq, decide_eq_false_iff_not, Bool.not_eq_true', Bool.not_eq_false', Bool.and_eq_true, Bool.or_eq_true, Bool.not_eq_true] at h9)
      cases h9
    intro h9; (try simp only [decide_eq_true_eq, decide_eq_false_iff_not, Bool.not_eq_true', Bool.not_eq_false', Bool.and_eq_true, Bool.or_eq_true, Bool.not_eq_true] at h9)
    refine awp_exit ?_; (repeat (first | refine then_exit ?_ | refine inblock_other (by decide) ?_)); refine inblock_same ?_
    refine awp_seq ?_
    refine awpF_region ?_; intro K hK; simp only [push_cast, seval, spV]
    (repeat ((with_reducible refine And.intro ?_ ?_); (focus (first | trivial | assumption | omega | (intro _ hrow; obtain ⟨_, _, rfl⟩ := List.mem_map.1 hrow; rfl) | ((intros; repeat' apply And.intro) <;> first | trivial | assumption | omega | (intro _ hrow; obtain ⟨_, _, rfl⟩ := List.mem_map.1 hrow; rfl) | (simp_all; done) | (simp_all; omega))))))
    refine hK _ ?_; clear hK; clear K
    refine awp_ret ?_; (repeat (first | refine then_ret ?_ | refine inblock_ret ?_)); refine fin_of (by simp only [push_cast, seval]; first | done | rfl) (by first | trivial | first | trivial | assumption | omega | (intro _ hrow; obtain ⟨_, _, rfl⟩ := List.mem_map.1 hrow; rfl) | ((intros; repeat' apply And.intro) <;> first | trivial | assumption | omega | (intro _ hrow; obtain ⟨_, _, rfl⟩ := List.mem_map.1 hrow; rfl) | (simp_all; done) | (simp_all; omega))) ?_
    rfl
  obtain ⟨d, hd, rfl⟩ := esS_get hj
  have hjl : j < L.length := (List.getElem?_eq_some_iff.1 hd).1
  have hdw := hLb d (List.mem_of_getElem? hd)
  have hfar := hok.far hdw
  have hnd' : (seen ++ [j]).Nodup := by
    rw [List.nodup_append]
    exact ⟨hnd, by simp, fun x hx y hy => by simp at hy; subst hy; rintro rfl; exact hns hx⟩
  have hlt' : ∀ x, x ∈ seen ++ [j] → x < L.length := fun x hx => by
    rcases List.mem_append.1 hx with hx | hx
    · exact hlt x hx
    · simp at hx; omega
  have hsl : (seen ++ [j]).length ≤ L.length := nd_len hnd' hlt'
  rw [List.length_append, List.length_singleton] at hsl
  have hsn := seenL_snoc (seen := seen) hd
  have hbw : inW w best := by
    rcases hinv with ⟨_, rfl, _⟩ | ⟨_, h2⟩
    · simp only [inW]; omega
    · have := h2.1
      simp only [seenL, List.mem_filterMap] at this
      obtain ⟨k, _, hk⟩ := this
      exact hLb _ (List.mem_of_getElem? hk)
  have h67 := p67 a b d.1 d.2 s ha hb' hfar
  have hcn : (cnt a b d.1 d.2 s : Int) = cN a b s d := rfl
  rw [hcn] at h67
  have hc0 : 0 ≤ cN a b s d := by simp only [cN]; omega
  have hnew : better (cN a b s d) d most best → Best (cN a b s) (seenL L (seen ++ [j])) d := fun h => by
    rw [hsn]
    rcases hinv with ⟨rfl, _, _⟩ | ⟨rfl, h2⟩
    · exact Best.one _ _
    · exact h2.snoc_new h
  have hold : ¬ better (cN a b s d) d most best → most = cN a b s best ∧ Best (cN a b s) (seenL L (seen ++ [j])) best := fun h => by
    rcases hinv with ⟨rfl, rfl, rfl⟩ | ⟨rfl, h2⟩
    · exact absurd (.inl (by omega)) h
    · exact ⟨rfl, hsn ▸ h2.snoc_old h⟩
  obtain ⟨dx, dy⟩ := d
  obtain ⟨bx, by'⟩ := best
  dsimp only at hdw hbw h67 hfar
  simp only [inW] at hdw hbw
  have hbi := better_iff (cN a b s (dx, dy)) most dx dy bx by'
  generalize hcn : cN a b s (dx, dy) = n at hbi hnew hold hc0 h67 ⊢
  simp only [encSp, spV]
  simp only [push_cast, seval]
  (repeat ((with_reducible refine And.intro ?_ ?_); (focus (first | trivial | assumption | omega | (intro _ hrow; obtain ⟨_, _, rfl⟩ := List.mem_map.1 hrow; rfl) | ((intros; repeat' apply And.intro) <;> first | trivial | assumption | omega | (intro _ hrow; obtain ⟨_, _, rfl⟩ := List.mem_map.1 hrow; rfl) | (simp_all; done) | (simp_all; omega))))))
  refine hK _ ?_; clear hK; clear K
  refine awp_seq ?_
  apply awp_cond; (focus (simp only [push_cast, seval]; rfl))
  · intro h9; (try simp only [decide_eq_true_eq, decide_eq_false_iff_not, Bool.not_eq_true', Bool.not_eq_false', Bool.and_eq_true, Bool.or_eq_true, Bool.not_eq_true] at h9)
    refine awp_skip ?_
    refine awp_block ?_
    refine awp_seq ?_
    refine awpF_region ?_; intro K hK; simp only [push_cast, seval, List.getLast?_concat, hj, encSp, spV]
    refine ⟨(esS_len L).symm, by rw [esS_len]; exact hjl, ?_⟩
    refine hK _ ?_; clear hK; clear K
    refine awp_seq ?_
    refine awpF_region ?_; intro K hK; simp only [push_cast, seval]
    (repeat ((with_reducible refine And.intro ?_ ?_); (focus (first | trivial | assumption | omega | (intro _ hrow; obtain ⟨_, _, rfl⟩ := List.mem_map.1 hrow; rfl) | ((intros; repeat' apply And.intro) <;> first | trivial | assumption | omega | (intro _ hrow; obtain ⟨_, _, rfl⟩ := List.mem_map.1 hrow; rfl) | (simp_all; done) | (simp_all; omega))))))
    refine CallK.pd (h67) ?_; simp only [push_cast, seval]; (try simp (disch := omega) only [wrapI]); (repeat ((with_reducible refine And.intro ?_ ?_); (focus (first | trivial | assumption | omega | (intro _ hrow; obtain ⟨_, _, rfl⟩ := List.mem_map.1 hrow; rfl) | ((intros; repeat' apply And.intro) <;> first | trivial | assumption | omega | (intro _ hrow; obtain ⟨_, _, rfl⟩ := List.mem_map.1 hrow; rfl) | (simp_all; done) | (simp_all; omega))))))
    refine hK _ ?_; clear hK; clear K
    refine awp_seq ?_
    by_cases e1 : n > most
    · have hbe := hnew (.inl e1)
      have e2 : (n == most) = false := by simp; omega
      refine awpF_draw [0,1,2,3,4,5,6,7,8,9,11,12,15,16,10,13,14,17,18,19,20,21,22] (by kernel_rfl) (by kernel_rfl) rfl ?_; intro K hK; simp only [push_cast, seval, e1, e2]
      (repeat ((with_reducible refine And.intro ?_ ?_); (focus (first | trivial | assumption | omega | (intro _ hrow; obtain ⟨_, _, rfl⟩ := List.mem_map.1 hrow; rfl) | ((intros; repeat' apply And.intro) <;> first | trivial | assumption | omega | (intro _ hrow; obtain ⟨_, _, rfl⟩ := List.mem_map.1 hrow; rfl) | (simp_all; done) | (simp_all; omega))))))
      refine CallK.pg (fun _ => p66 dx dy (by omega) (by omega)) ?_; simp only [push_cast, seval]; (try simp (disch := omega) only [wrapI]); (repeat ((with_reducible refine And.intro ?_ ?_); (focus (first | trivial | assumption | omega | (intro _ hrow; obtain ⟨_, _, rfl⟩ := List.mem_map.1 hrow; rfl) | ((intros; repeat' apply And.intro) <;> first | trivial | assumption | omega | (intro _ hrow; obtain ⟨_, _, rfl⟩ := List.mem_map.1 hrow; rfl) | (simp_all; done) | (simp_all; omega))))))
      refine CallK.pg (fun _ => p66 bx by' (by omega) (by omega)) ?_; simp only [push_cast, seval]; (try simp (disch := omega) only [wrapI]); (repeat ((with_reducible refine And.intro ?_ ?_); (focus (first | trivial | assumption | omega | (intro _ hrow; obtain ⟨_, _, rfl⟩ := List.mem_map.1 hrow; rfl) | ((intros; repeat' apply And.intro) <;> first | trivial | assumption | omega | (intro _ hrow; obtain ⟨_, _, rfl⟩ := List.mem_map.1 hrow; rfl) | (simp_all; done) | (simp_all; omega))))))
      refine CallK.pg (fun _ => p69 _ _) ?_; simp only [push_cast, seval]; (try simp (disch := omega) only [wrapI]); (repeat ((with_reducible refine And.intro ?_ ?_); (focus (first | trivial | assumption | omega | (intro _ hrow; obtain ⟨_, _, rfl⟩ := List.mem_map.1 hrow; rfl) | ((intros; repeat' apply And.intro) <;> first | trivial | assumption | omega | (intro _ hrow; obtain ⟨_, _, rfl⟩ := List.mem_map.1 hrow; rfl) | (simp_all; done) | (simp_all; omega))))))
      refine CallK.pg (fun _ => p70 _ _ _ _) ?_; simp only [push_cast, seval]; (try simp (disch := omega) only [wrapI]); (repeat ((with_reducible refine And.intro ?_ ?_); (focus (first | trivial | assumption | omega | (intro _ hrow; obtain ⟨_, _, rfl⟩ := List.mem_map.1 hrow; rfl) | ((intros; repeat' apply And.intro) <;> first | trivial | assumption | omega | (intro _ hrow; obtain ⟨_, _, rfl⟩ := List.mem_map.1 hrow; rfl) | (simp_all; done) | (simp_all; omega))))))
      refine CallK.pg (fun _ => p68 [] (by simp)) ?_; simp only [push_cast, seval]; (try simp (disch := omega) only [wrapI]); (repeat ((with_reducible refine And.intro ?_ ?_); (focus (first | trivial | assumption | omega | (intro _ hrow; obtain ⟨_, _, rfl⟩ := List.mem_map.1 hrow; rfl) | ((intros; repeat' apply And.intro) <;> first | trivial | assumption | omega | (intro _ hrow; obtain ⟨_, _, rfl⟩ := List.mem_map.1 hrow; rfl) | (simp_all; done) | (simp_all; omega))))))
      refine hK _ ?_; clear hK; clear K
      apply awp_cond; (focus (simp only [push_cast, seval]; rfl))
      · intro h10; (try simp only [decide_eq_true_eq, decide_eq_false_iff_not, Bool.not_eq_true', Bool.not_eq_false', Bool.and_eq_true, Bool.or_eq_true, Bool.not_eq_true] at h10)
        refine awpF_region ?_; intro K hK; simp only [push_cast, seval]; (try simp (disch := omega) only [wrapI]); (repeat ((with_reducible refine And.intro ?_ ?_); (focus (first | trivial | assumption | omega | (intro _ hrow; obtain ⟨_, _, rfl⟩ := List.mem_map.1 hrow; rfl) | ((intros; repeat' apply And.intro) <;> first | trivial | assumption | omega | (intro _ hrow; obtain ⟨_, _, rfl⟩ := List.mem_map.1 hrow; rfl) | (simp_all; done) | (simp_all; omega)))))); refine hK _ ?_; clear hK; clear K
        refine inblock_norm ?_
        refine round_endG (seen ++ [j], (dx, dy), n) [0, 1, 2, 3] ⟨?_, ?_, ?_⟩
        · dsimp only; rw [List.length_append, List.length_singleton]; omega
        · exact And.intro hnd' (And.intro hlt' (Or.inr (And.intro hcn.symm hbe)))
        · simp only [spV]
          exact ⟨by simp, by simp, by simp [push_cast, seval, esS_ren, esS_frz], by simp [push_cast, seval], by simp [push_cast, seval], by simp [push_cast, seval, esS_bel]⟩
      · intro h10; (try simp only [decide_eq_true_eq, decide_eq_false_iff_not, Bool.not_eq_true', Bool.not_eq_false', Bool.and_eq_true, Bool.or_eq_true, Bool.not_eq_true] at h10)
        cases h10
    by_cases e2 : n = most
    · have e2' : (n == most) = true := by simpa using e2
      have h68 := p68 [cmp3 (far0 dx dy) (far0 bx by'), ord dx dy bx by'] (by simp)
      simp only [List.map_cons, List.map_nil, encI] at h68
      refine awpF_draw [0,1,2,3,4,5,6,7,8,9,11,12,15,16,10,13,14,17,18,19,20,21,22] (by kernel_rfl) (by kernel_rfl) rfl ?_; intro K hK; simp only [push_cast, seval, e1, e2']
      (repeat ((with_reducible refine And.intro ?_ ?_); (focus (first | trivial | assumption | omega | (intro _ hrow; obtain ⟨_, _, rfl⟩ := List.mem_map.1 hrow; rfl) | ((intros; repeat' apply And.intro) <;> first | trivial | assumption | omega | (intro _ hrow; obtain ⟨_, _, rfl⟩ := List.mem_map.1 hrow; rfl) | (simp_all; done) | (simp_all; omega))))))
      refine CallK.pg (fun _ => p66 dx dy (by omega) (by omega)) ?_; simp only [push_cast, seval]; (try simp (disch := omega) only [wrapI]); (repeat ((with_reducible refine And.intro ?_ ?_); (focus (first | trivial | assumption | omega | (intro _ hrow; obtain ⟨_, _, rfl⟩ := List.mem_map.1 hrow; rfl) | ((intros; repeat' apply And.intro) <;> first | trivial | assumption | omega | (intro _ hrow; obtain ⟨_, _, rfl⟩ := List.mem_map.1 hrow; rfl) | (simp_all; done) | (simp_all; omega))))))
      refine CallK.pg (fun _ => p66 bx by' (by omega) (by omega)) ?_; simp only [push_cast, seval]; (try simp (disch := omega) only [wrapI]); (repeat ((with_reducible refine And.intro ?_ ?_); (focus (first | trivial | assumption | omega | (intro _ hrow; obtain ⟨_, _, rfl⟩ := List.mem_map.1 hrow; rfl) | ((intros; repeat' apply And.intro) <;> first | trivial | assumption | omega | (intro _ hrow; obtain ⟨_, _, rfl⟩ := List.mem_map.1 hrow; rfl) | (simp_all; done) | (simp_all; omega))))))
      refine CallK.pg (fun _ => p69 _ _) ?_; simp only [push_cast, seval]; (try simp (disch := omega) only [wrapI]); (repeat ((with_reducible refine And.intro ?_ ?_); (focus (first | trivial | assumption | omega | (intro _ hrow; obtain ⟨_, _, rfl⟩ := List.mem_map.1 hrow; rfl) | ((intros; repeat' apply And.intro) <;> first | trivial | assumption | omega | (intro _ hrow; obtain ⟨_, _, rfl⟩ := List.mem_map.1 hrow; rfl) | (simp_all; done) | (simp_all; omega))))))
      refine CallK.pg (fun _ => p70 _ _ _ _) ?_; simp only [push_cast, seval]; (try simp (disch := omega) only [wrapI]); (repeat ((with_reducible refine And.intro ?_ ?_); (focus (first | trivial | assumption | omega | (intro _ hrow; obtain ⟨_, _, rfl⟩ := List.mem_map.1 hrow; rfl) | ((intros; repeat' apply And.intro) <;> first | trivial | assumption | omega | (intro _ hrow; obtain ⟨_, _, rfl⟩ := List.mem_map.1 hrow; rfl) | (simp_all; done) | (simp_all; omega))))))
      refine CallK.pg (fun _ => h68) ?_; simp only [push_cast, seval]; (try simp (disch := omega) only [wrapI]); (repeat ((with_reducible refine And.intro ?_ ?_); (focus (first | trivial | assumption | omega | (intro _ hrow; obtain ⟨_, _, rfl⟩ := List.mem_map.1 hrow; rfl) | ((intros; repeat' apply And.intro) <;> first | trivial | assumption | omega | (intro _ hrow; obtain ⟨_, _, rfl⟩ := List.mem_map.1 hrow; rfl) | (simp_all; done) | (simp_all; omega))))))
      refine hK _ ?_; clear hK; clear K
      apply awp_cond; (focus (simp only [push_cast, seval]; rfl))
      · intro h10; (try simp only [decide_eq_true_eq, decide_eq_false_iff_not, Bool.not_eq_true', Bool.not_eq_false', Bool.and_eq_true, Bool.or_eq_true, Bool.not_eq_true] at h10)
        simp only [cond_false, cond_true, decide_eq_true_eq, cor_lt] at h10
        have hbe := hnew (hbi.2 (.inr ⟨e2, h10⟩))
        refine awpF_region ?_; intro K hK; simp only [push_cast, seval]; (try simp (disch := omega) only [wrapI]); (repeat ((with_reducible refine And.intro ?_ ?_); (focus (first | trivial | assumption | omega | (intro _ hrow; obtain ⟨_, _, rfl⟩ := List.mem_map.1 hrow; rfl) | ((intros; repeat' apply And.intro) <;> first | trivial | assumption | omega | (intro _ hrow; obtain ⟨_, _, rfl⟩ := List.mem_map.1 hrow; rfl) | (simp_all; done) | (simp_all; omega)))))); refine hK _ ?_; clear hK; clear K
        refine inblock_norm ?_
        refine round_endG (seen ++ [j], (dx, dy), n) [0, 1, 2, 3] ⟨?_, ?_, ?_⟩
        · dsimp only; rw [List.length_append, List.length_singleton]; omega
        · exact And.intro hnd' (And.intro hlt' (Or.inr (And.intro hcn.symm hbe)))
        · simp only [spV]
          exact ⟨by simp, by simp, by simp [push_cast, seval, esS_ren, esS_frz], by simp [push_cast, seval], by simp [push_cast, seval], by simp [push_cast, seval, esS_bel]⟩
      · intro h10; (try simp only [decide_eq_true_eq, decide_eq_false_iff_not, Bool.not_eq_true', Bool.not_eq_false', Bool.and_eq_true, Bool.or_eq_true, Bool.not_eq_true] at h10)
        simp only [cond_false, cond_true, decide_eq_false_iff_not, cor_lt] at h10
        have hno : ¬ better n (dx, dy) most (bx, by') := fun h => by
          rcases hbi.1 h with h | ⟨_, h⟩
          · exact e1 h
          · exact h10 h
        refine awp_skip ?_
        refine inblock_norm ?_
        refine round_endG (seen ++ [j], (bx, by'), most) [0, 1, 2, 3] ⟨?_, ?_, ?_⟩
        · dsimp only; rw [List.length_append, List.length_singleton]; omega
        · exact And.intro hnd' (And.intro hlt' (Or.inr (hold hno)))
        · simp only [spV]
          exact ⟨by simp, by simp, by simp [push_cast, seval, esS_ren, esS_frz], by simp [push_cast, seval], by simp [push_cast, seval], by simp [push_cast, seval, esS_bel]⟩
    · have e2' : (n == most) = false := by simpa using e2
      have hno : ¬ better n (dx, dy) most (bx, by') := fun h => by
        rcases hbi.1 h with h | ⟨h, _⟩
        · exact e1 h
        · exact e2 h
      refine awpF_draw [0,1,2,3,4,5,6,7,8,9,11,12,15,16,10,13,14,17,18,19,20,21,22] (by kernel_rfl) (by kernel_rfl) rfl ?_; intro K hK; simp only [push_cast, seval, e1, e2']
      (repeat ((with_reducible refine And.intro ?_ ?_); (focus (first | trivial | assumption | omega | (intro _ hrow; obtain ⟨_, _, rfl⟩ := List.mem_map.1 hrow; rfl) | ((intros; repeat' apply And.intro) <;> first | trivial | assumption | omega | (intro _ hrow; obtain ⟨_, _, rfl⟩ := List.mem_map.1 hrow; rfl) | (simp_all; done) | (simp_all; omega))))))
      refine CallK.pg (fun _ => p66 dx dy (by omega) (by omega)) ?_; simp only [push_cast, seval]; (try simp (disch := omega) only [wrapI]); (repeat ((with_reducible refine And.intro ?_ ?_); (focus (first | trivial | assumption | omega | (intro _ hrow; obtain ⟨_, _, rfl⟩ := List.mem_map.1 hrow; rfl) | ((intros; repeat' apply And.intro) <;> first | trivial | assumption | omega | (intro _ hrow; obtain ⟨_, _, rfl⟩ := List.mem_map.1 hrow; rfl) | (simp_all; done) | (simp_all; omega))))))
      refine CallK.pg (fun _ => p66 bx by' (by omega) (by omega)) ?_; simp only [push_cast, seval]; (try simp (disch := omega) only [wrapI]); (repeat ((with_reducible refine And.intro ?_ ?_); (focus (first | trivial | assumption | omega | (intro _ hrow; obtain ⟨_, _, rfl⟩ := List.mem_map.1 hrow; rfl) | ((intros; repeat' apply And.intro) <;> first | trivial | assumption | omega | (intro _ hrow; obtain ⟨_, _, rfl⟩ := List.mem_map.1 hrow; rfl) | (simp_all; done) | (simp_all; omega))))))
      refine CallK.pg (fun _ => p69 _ _) ?_; simp only [push_cast, seval]; (try simp (disch := omega) only [wrapI]); (repeat ((with_reducible refine And.intro ?_ ?_); (focus (first | trivial | assumption | omega | (intro _ hrow; obtain ⟨_, _, rfl⟩ := List.mem_map.1 hrow; rfl) | ((intros; repeat' apply And.intro) <;> first | trivial | assumption | omega | (intro _ hrow; obtain ⟨_, _, rfl⟩ := List.mem_map.1 hrow; rfl) | (simp_all; done) | (simp_all; omega))))))
      refine CallK.pg (fun _ => p70 _ _ _ _) ?_; simp only [push_cast, seval]; (try simp (disch := omega) only [wrapI]); (repeat ((with_reducible refine And.intro ?_ ?_); (focus (first | trivial | assumption | omega | (intro _ hrow; obtain ⟨_, _, rfl⟩ := List.mem_map.1 hrow; rfl) | ((intros; repeat' apply And.intro) <;> first | trivial | assumption | omega | (intro _ hrow; obtain ⟨_, _, rfl⟩ := List.mem_map.1 hrow; rfl) | (simp_all; done) | (simp_all; omega))))))
      refine CallK.pg (fun _ => p68 [] (by simp)) ?_; simp only [push_cast, seval]; (try simp (disch := omega) only [wrapI]); (repeat ((with_reducible refine And.intro ?_ ?_); (focus (first | trivial | assumption | omega | (intro _ hrow; obtain ⟨_, _, rfl⟩ := List.mem_map.1 hrow; rfl) | ((intros; repeat' apply And.intro) <;> first | trivial | assumption | omega | (intro _ hrow; obtain ⟨_, _, rfl⟩ := List.mem_map.1 hrow; rfl) | (simp_all; done) | (simp_all; omega))))))
      refine hK _ ?_; clear hK; clear K
      apply awp_cond; (focus (simp only [push_cast, seval]; rfl))
      · intro h10; (try simp only [decide_eq_true_eq, decide_eq_false_iff_not, Bool.not_eq_true', Bool.not_eq_false', Bool.and_eq_true, Bool.or_eq_true, Bool.not_eq_true] at h10)
        cases h10
      · intro h10; (try simp only [decide_eq_true_eq, decide_eq_false_iff_not, Bool.not_eq_true', Bool.not_eq_false', Bool.and_eq_true, Bool.or_eq_true, Bool.not_eq_true] at h10)
        refine awp_skip ?_
        refine inblock_norm ?_
        refine round_endG (seen ++ [j], (bx, by'), most) [0, 1, 2, 3] ⟨?_, ?_, ?_⟩
        · dsimp only; rw [List.length_append, List.length_singleton]; omega
        · exact And.intro hnd' (And.intro hlt' (Or.inr (hold hno)))
        · simp only [spV]
          exact ⟨by simp, by simp, by simp [push_cast, seval, esS_ren, esS_frz], by simp [push_cast, seval], by simp [push_cast, seval], by simp [push_cast, seval, esS_bel]⟩
  · intro h9; (try simp only [decide_eq_true_eq, decide_eq_false_iff_not, Bool.not_eq_true', Bool.not_eq_false', Bool.and_eq_true, Bool.or_eq_true, Bool.not_eq_true] at h9)
    cases h9

end Go.Aw
