/-
  Contract of the reference's Register. Conditions: none (clouds that are not valid are refused).
-/
import Derived.Test.YtecindhbaekncaaRgA
import Derived.Test.YtecindhbaekncaaC12
namespace Go.Aw
set_option linter.unusedSimpArgs false
set_option linter.unusedVariables false
open Go.RowKit Go.Proofs Go.Rg

def spV (d : Sp) : List V := [.d (.int .i64 d.1), .d (.int .i64 d.2)]
def regErr (a b : List Pt) (w s : Int) : Int :=
  if check a ≠ 0 then check a else if check b ≠ 0 then check b else if 60 < a.length ∨ 60 < b.length then 8 else if w < 0 ∨ 2000 < w ∨ s < 0 ∨ 2000 < s then 2 else 0
def cN (a b : List Pt) (s : Int) (d : Sp) : Int := (cnt a b d.1 d.2 s : Nat)
def regBest (a b : List Pt) (w s : Int) : Sp := bestOf (cN a b s) (a.flatMap fun p => row w p b) (0, 0)
def regOut (a b : List Pt) (w s : Int) : Sp × Int × Int := if regErr a b w s = 0 then (regBest a b w s, cN a b s (regBest a b w s), 0) else ((0, 0), 0, regErr a b w s)
def regV (r : Sp × Int × Int) : V := .tup [.agg (spV r.1), .d (.int .i64 r.2.1), .d (.int .i64 r.2.2)]

theorem regBest_best (a b : List Pt) (w s : Int) : Best (cN a b s) (cands w a b) (regBest a b w s) := bestOf_best _ _ [(0, 0)] _ (Best.one _ _)

structure RegOk (a b : List Pt) (w s : Int) : Prop where
  ha : check a = 0
  hb : check b = 0
  la : a.length ≤ 60
  lb : b.length ≤ 60
  w0 : 0 ≤ w
  w1 : w ≤ 2000
  s0 : 0 ≤ s
  s1 : s ≤ 2000

theorem regOk_of {a b : List Pt} {w s : Int} (ha : check a = 0) (hb : check b = 0) (hl : ¬ (60 < a.length ∨ 60 < b.length)) (hw : ¬ (w < 0 ∨ 2000 < w ∨ s < 0 ∨ 2000 < s)) : RegOk a b w s ∧ regErr a b w s = 0 := by
  refine ⟨⟨ha, hb, by omega, by omega, by omega, by omega, by omega, by omega⟩, ?_⟩
  simp [regErr, ha, hb, hl, hw]
theorem RegOk.far {a b : List Pt} {w s : Int} (h : RegOk a b w s) {d : Sp} (hd : inW w d) : farV d.1 d.2 = false := by
  have := h.w1
  simp only [inW] at hd
  simp [farV]
  omega
theorem RegOk.match {a b : List Pt} {w s : Int} (h : RegOk a b w s) {d : Sp} (hd : inW w d) : (matchV a b d.1 d.2 s : Int) = cN a b s d := by
  have : matchOk a b d.1 d.2 s = true := by simp [matchOk, h.ha, h.hb, h.s0, h.s1, h.far hd]
  simp [matchV, this, cN]

theorem better_iff (n m x y z u : Int) : better n (x, y) m (z, u) ↔ (n > m ∨ n = m ∧ (far0 x y < far0 z u ∨ far0 x y = far0 z u ∧ ord x y z u < 0)) := by
  have : ord x y z u < 0 ↔ (x < z ∨ x = z ∧ y < u) := by
    simp only [ord, cor, cmp3]
    by_cases h1 : x < z <;> by_cases h2 : x > z <;> by_cases h3 : y < u <;> by_cases h4 : y > u <;> simp [h1, h2, h3, h4] <;> omega
  simp only [better, this]

set_option maxHeartbeats 1000000 in
set_option maxRecDepth 100000 in
theorem p28 (a b : List Pt) (w s : Int) : PD Try.prog 28 [.sl (a.map encP), .sl (b.map encP), .int .i64 w, .int .i64 s] (regV (regOut a b w s)) := by
  refine pd_of (fn := Try.f28) [.cell 8 34, .tmp 9, .tmp 10] (by kernel_rfl) rfl (by kernel_rfl) (Nat.le_of_ble_eq_true rfl) (by kernel_rfl) rfl rfl ?_
  refine awp_seq ?_
  refine awpF_region ?_; intro K hK; simp only [push_cast, seval]; (try simp (disch := omega) only [wrapI]); (repeat ((with_reducible refine And.intro ?_ ?_); (focus (first | trivial | assumption | omega | (intro _ hrow; obtain ⟨_, _, rfl⟩ := List.mem_map.1 hrow; rfl) | ((intros; repeat' apply And.intro) <;> first | trivial | assumption | omega | (intro _ hrow; obtain ⟨_, _, rfl⟩ := List.mem_map.1 hrow; rfl) | (simp_all; done) | (simp_all; omega)))))); refine hK _ ?_; clear hK; clear K
  refine awp_seq ?_
  refine awp_seq ?_
  refine awpF_region ?_; intro K hK; simp only [push_cast, seval]
  (repeat ((with_reducible refine And.intro ?_ ?_); (focus (first | trivial | assumption | omega | (intro _ hrow; obtain ⟨_, _, rfl⟩ := List.mem_map.1 hrow; rfl) | ((intros; repeat' apply And.intro) <;> first | trivial | assumption | omega | (intro _ hrow; obtain ⟨_, _, rfl⟩ := List.mem_map.1 hrow; rfl) | (simp_all; done) | (simp_all; omega))))))
  refine CallK.pd (p26 _) ?_; simp only [push_cast, seval]; (try simp (disch := omega) only [wrapI]); (repeat ((with_reducible refine And.intro ?_ ?_); (focus (first | trivial | assumption | omega | (intro _ hrow; obtain ⟨_, _, rfl⟩ := List.mem_map.1 hrow; rfl) | ((intros; repeat' apply And.intro) <;> first | trivial | assumption | omega | (intro _ hrow; obtain ⟨_, _, rfl⟩ := List.mem_map.1 hrow; rfl) | (simp_all; done) | (simp_all; omega))))))
  refine hK _ ?_; clear hK; clear K
  refine awp_seq ?_
  refine awpF_region ?_; intro K hK; simp only [push_cast, seval]; (try simp (disch := omega) only [wrapI]); (repeat ((with_reducible refine And.intro ?_ ?_); (focus (first | trivial | assumption | omega | (intro _ hrow; obtain ⟨_, _, rfl⟩ := List.mem_map.1 hrow; rfl) | ((intros; repeat' apply And.intro) <;> first | trivial | assumption | omega | (intro _ hrow; obtain ⟨_, _, rfl⟩ := List.mem_map.1 hrow; rfl) | (simp_all; done) | (simp_all; omega)))))); refine hK _ ?_; clear hK; clear K
  apply awp_cond; (focus (simp only [push_cast, seval]; rfl))
  · intro h1; (try simp only [decide_eq_true_eq, decide_eq_false_iff_not, Bool.not_eq_true', Bool.not_eq_false', Bool.and_eq_true, Bool.or_eq_true, Bool.not_eq_true] at h1)
    have h1 : check a ≠ 0 := by simpa using h1
    have e : regErr a b w s = check a := by simp [regErr, h1]
    refine awp_seq ?_
    refine awpF_region ?_; intro K hK; simp only [push_cast, seval]; (try simp (disch := omega) only [wrapI]); (repeat ((with_reducible refine And.intro ?_ ?_); (focus (first | trivial | assumption | omega | (intro _ hrow; obtain ⟨_, _, rfl⟩ := List.mem_map.1 hrow; rfl) | ((intros; repeat' apply And.intro) <;> first | trivial | assumption | omega | (intro _ hrow; obtain ⟨_, _, rfl⟩ := List.mem_map.1 hrow; rfl) | (simp_all; done) | (simp_all; omega)))))); refine hK _ ?_; clear hK; clear K
    refine awp_ret ?_; (repeat (first | refine then_ret ?_ | refine inblock_ret ?_)); refine fin_of (by simp only [push_cast, seval]; first | done | rfl) (by first | trivial | first | trivial | assumption | omega | (intro _ hrow; obtain ⟨_, _, rfl⟩ := List.mem_map.1 hrow; rfl) | ((intros; repeat' apply And.intro) <;> first | trivial | assumption | omega | (intro _ hrow; obtain ⟨_, _, rfl⟩ := List.mem_map.1 hrow; rfl) | (simp_all; done) | (simp_all; omega))) ?_
    simp [regOut, e, h1, regV, spV]
  intro h1; (try simp only [decide_eq_true_eq, decide_eq_false_iff_not, Bool.not_eq_true', Bool.not_eq_false', Bool.and_eq_true, Bool.or_eq_true, Bool.not_eq_true] at h1)
  have ha : check a = 0 := by simpa using h1
  refine awp_skip ?_
  refine awp_seq ?_
  refine awp_seq ?_
  refine awpF_region ?_; intro K hK; simp only [push_cast, seval]
  (repeat ((with_reducible refine And.intro ?_ ?_); (focus (first | trivial | assumption | omega | (intro _ hrow; obtain ⟨_, _, rfl⟩ := List.mem_map.1 hrow; rfl) | ((intros; repeat' apply And.intro) <;> first | trivial | assumption | omega | (intro _ hrow; obtain ⟨_, _, rfl⟩ := List.mem_map.1 hrow; rfl) | (simp_all; done) | (simp_all; omega))))))
  refine CallK.pd (p26 _) ?_; simp only [push_cast, seval]; (try simp (disch := omega) only [wrapI]); (repeat ((with_reducible refine And.intro ?_ ?_); (focus (first | trivial | assumption | omega | (intro _ hrow; obtain ⟨_, _, rfl⟩ := List.mem_map.1 hrow; rfl) | ((intros; repeat' apply And.intro) <;> first | trivial | assumption | omega | (intro _ hrow; obtain ⟨_, _, rfl⟩ := List.mem_map.1 hrow; rfl) | (simp_all; done) | (simp_all; omega))))))
  refine hK _ ?_; clear hK; clear K
  refine awp_seq ?_
  refine awpF_region ?_; intro K hK; simp only [push_cast, seval]; (try simp (disch := omega) only [wrapI]); (repeat ((with_reducible refine And.intro ?_ ?_); (focus (first | trivial | assumption | omega | (intro _ hrow; obtain ⟨_, _, rfl⟩ := List.mem_map.1 hrow; rfl) | ((intros; repeat' apply And.intro) <;> first | trivial | assumption | omega | (intro _ hrow; obtain ⟨_, _, rfl⟩ := List.mem_map.1 hrow; rfl) | (simp_all; done) | (simp_all; omega)))))); refine hK _ ?_; clear hK; clear K
  apply awp_cond; (focus (simp only [push_cast, seval]; rfl))
  · intro h2; (try simp only [decide_eq_true_eq, decide_eq_false_iff_not, Bool.not_eq_true', Bool.not_eq_false', Bool.and_eq_true, Bool.or_eq_true, Bool.not_eq_true] at h2)
    have h2 : check b ≠ 0 := by simpa using h2
    have e : regErr a b w s = check b := by simp [regErr, ha, h2]
    refine awp_seq ?_
    refine awpF_region ?_; intro K hK; simp only [push_cast, seval]; (try simp (disch := omega) only [wrapI]); (repeat ((with_reducible refine And.intro ?_ ?_); (focus (first | trivial | assumption | omega | (intro _ hrow; obtain ⟨_, _, rfl⟩ := List.mem_map.1 hrow; rfl) | ((intros; repeat' apply And.intro) <;> first | trivial | assumption | omega | (intro _ hrow; obtain ⟨_, _, rfl⟩ := List.mem_map.1 hrow; rfl) | (simp_all; done) | (simp_all; omega)))))); refine hK _ ?_; clear hK; clear K
    refine awp_ret ?_; (repeat (first | refine then_ret ?_ | refine inblock_ret ?_)); refine fin_of (by simp only [push_cast, seval]; first | done | rfl) (by first | trivial | first | trivial | assumption | omega | (intro _ hrow; obtain ⟨_, _, rfl⟩ := List.mem_map.1 hrow; rfl) | ((intros; repeat' apply And.intro) <;> first | trivial | assumption | omega | (intro _ hrow; obtain ⟨_, _, rfl⟩ := List.mem_map.1 hrow; rfl) | (simp_all; done) | (simp_all; omega))) ?_
    simp [regOut, e, h2, regV, spV]
  intro h2; (try simp only [decide_eq_true_eq, decide_eq_false_iff_not, Bool.not_eq_true', Bool.not_eq_false', Bool.and_eq_true, Bool.or_eq_true, Bool.not_eq_true] at h2)
  have hb' : check b = 0 := by simpa using h2
  have hla := check_len ha
  have hlb := check_len hb'
  refine awp_skip ?_
  refine awp_seq ?_
  refine awp_seq ?_
  refine awpF_region ?_; intro K hK; simp only [push_cast, seval]; (try simp (disch := omega) only [wrapI]); (repeat ((with_reducible refine And.intro ?_ ?_); (focus (first | trivial | assumption | omega | (intro _ hrow; obtain ⟨_, _, rfl⟩ := List.mem_map.1 hrow; rfl) | ((intros; repeat' apply And.intro) <;> first | trivial | assumption | omega | (intro _ hrow; obtain ⟨_, _, rfl⟩ := List.mem_map.1 hrow; rfl) | (simp_all; done) | (simp_all; omega)))))); refine hK _ ?_; clear hK; clear K
  apply awp_cond; (focus (simp only [push_cast, seval]; rfl))
  · intro h3; (try simp only [decide_eq_true_eq, decide_eq_false_iff_not, Bool.not_eq_true', Bool.not_eq_false', Bool.and_eq_true, Bool.or_eq_true, Bool.not_eq_true] at h3)
    have h3' : 60 < a.length ∨ 60 < b.length := by
      by_cases h : 60 < a.length
      · exact .inl h
      · right; have e : ¬ (a.length : Int) > 60 := by omega
        simp [e] at h3; omega
    have e : regErr a b w s = 8 := by simp [regErr, ha, hb', h3']
    refine awp_seq ?_
    refine awpF_region ?_; intro K hK; simp only [push_cast, seval]; (try simp (disch := omega) only [wrapI]); (repeat ((with_reducible refine And.intro ?_ ?_); (focus (first | trivial | assumption | omega | (intro _ hrow; obtain ⟨_, _, rfl⟩ := List.mem_map.1 hrow; rfl) | ((intros; repeat' apply And.intro) <;> first | trivial | assumption | omega | (intro _ hrow; obtain ⟨_, _, rfl⟩ := List.mem_map.1 hrow; rfl) | (simp_all; done) | (simp_all; omega)))))); refine hK _ ?_; clear hK; clear K
    refine awp_ret ?_; (repeat (first | refine then_ret ?_ | refine inblock_ret ?_)); refine fin_of (by simp only [push_cast, seval]; first | done | rfl) (by first | trivial | first | trivial | assumption | omega | (intro _ hrow; obtain ⟨_, _, rfl⟩ := List.mem_map.1 hrow; rfl) | ((intros; repeat' apply And.intro) <;> first | trivial | assumption | omega | (intro _ hrow; obtain ⟨_, _, rfl⟩ := List.mem_map.1 hrow; rfl) | (simp_all; done) | (simp_all; omega))) ?_
    simp [regOut, e, regV, spV]
  intro h3; (try simp only [decide_eq_true_eq, decide_eq_false_iff_not, Bool.not_eq_true', Bool.not_eq_false', Bool.and_eq_true, Bool.or_eq_true, Bool.not_eq_true] at h3)
  have h3' : ¬ (60 < a.length ∨ 60 < b.length) := by
    rintro (h | h)
    · have e : (a.length : Int) > 60 := by omega
      simp [e] at h3
    · have e : (b.length : Int) > 60 := by omega
      simp [e] at h3
  refine awp_skip ?_
  refine awp_seq ?_
  refine awp_seq ?_
  refine awpF_region ?_; intro K hK; simp only [push_cast, seval]; (try simp (disch := omega) only [wrapI]); (repeat ((with_reducible refine And.intro ?_ ?_); (focus (first | trivial | assumption | omega | (intro _ hrow; obtain ⟨_, _, rfl⟩ := List.mem_map.1 hrow; rfl) | ((intros; repeat' apply And.intro) <;> first | trivial | assumption | omega | (intro _ hrow; obtain ⟨_, _, rfl⟩ := List.mem_map.1 hrow; rfl) | (simp_all; done) | (simp_all; omega)))))); refine hK _ ?_; clear hK; clear K
  apply awp_cond; (focus (simp only [push_cast, seval]; rfl))
  · intro h4; (try simp only [decide_eq_true_eq, decide_eq_false_iff_not, Bool.not_eq_true', Bool.not_eq_false', Bool.and_eq_true, Bool.or_eq_true, Bool.not_eq_true] at h4)
    have h4' : w < 0 ∨ 2000 < w ∨ s < 0 ∨ 2000 < s := by
      by_cases e1 : w < 0
      · exact .inl e1
      · by_cases e2 : w > 2000
        · exact .inr (.inl e2)
        · by_cases e3 : s < 0
          · exact .inr (.inr (.inl e3))
          · simp [e1, e2, e3] at h4
            exact .inr (.inr (.inr h4))
    have e : regErr a b w s = 2 := by simp [regErr, ha, hb', h3', h4']
    refine awp_seq ?_
    refine awpF_region ?_; intro K hK; simp only [push_cast, seval]; (try simp (disch := omega) only [wrapI]); (repeat ((with_reducible refine And.intro ?_ ?_); (focus (first | trivial | assumption | omega | (intro _ hrow; obtain ⟨_, _, rfl⟩ := List.mem_map.1 hrow; rfl) | ((intros; repeat' apply And.intro) <;> first | trivial | assumption | omega | (intro _ hrow; obtain ⟨_, _, rfl⟩ := List.mem_map.1 hrow; rfl) | (simp_all; done) | (simp_all; omega)))))); refine hK _ ?_; clear hK; clear K
    refine awp_ret ?_; (repeat (first | refine then_ret ?_ | refine inblock_ret ?_)); refine fin_of (by simp only [push_cast, seval]; first | done | rfl) (by first | trivial | first | trivial | assumption | omega | (intro _ hrow; obtain ⟨_, _, rfl⟩ := List.mem_map.1 hrow; rfl) | ((intros; repeat' apply And.intro) <;> first | trivial | assumption | omega | (intro _ hrow; obtain ⟨_, _, rfl⟩ := List.mem_map.1 hrow; rfl) | (simp_all; done) | (simp_all; omega))) ?_
    simp [regOut, e, regV, spV]
  intro h4; (try simp only [decide_eq_true_eq, decide_eq_false_iff_not, Bool.not_eq_true', Bool.not_eq_false', Bool.and_eq_true, Bool.or_eq_true, Bool.not_eq_true] at h4)
  have h4' : ¬ (w < 0 ∨ 2000 < w ∨ s < 0 ∨ 2000 < s) := by
    rintro (h | h | h | h)
    · simp [h] at h4
    · have : w > 2000 := h
      simp [this] at h4
    · simp [h] at h4
    · have : s > 2000 := h
      simp [this] at h4
  obtain ⟨hok, herr⟩ := regOk_of ha hb' h3' h4'
  rw [show regOut a b w s = (regBest a b w s, cN a b s (regBest a b w s), 0) by simp [regOut, herr]]
  have hw0 := hok.w0
  have hw1 := hok.w1
  have hz : inW w (0, 0) := by simp only [inW]; omega
  have hm0 := hok.match hz
  dsimp only at hm0
  refine awp_skip ?_
  refine awp_seq ?_
  refine awpF_region ?_; intro K hK; simp only [push_cast, seval]
  (repeat ((with_reducible refine And.intro ?_ ?_); (focus (first | trivial | assumption | omega | (intro _ hrow; obtain ⟨_, _, rfl⟩ := List.mem_map.1 hrow; rfl) | ((intros; repeat' apply And.intro) <;> first | trivial | assumption | omega | (intro _ hrow; obtain ⟨_, _, rfl⟩ := List.mem_map.1 hrow; rfl) | (simp_all; done) | (simp_all; omega))))))
  refine CallK.pd (p30 a b 0 0 s) ?_; simp only [push_cast, seval]; (try simp (disch := omega) only [wrapI]); (repeat ((with_reducible refine And.intro ?_ ?_); (focus (first | trivial | assumption | omega | (intro _ hrow; obtain ⟨_, _, rfl⟩ := List.mem_map.1 hrow; rfl) | ((intros; repeat' apply And.intro) <;> first | trivial | assumption | omega | (intro _ hrow; obtain ⟨_, _, rfl⟩ := List.mem_map.1 hrow; rfl) | (simp_all; done) | (simp_all; omega))))))
  refine hK _ ?_; clear hK; clear K
  rw [hm0]
  refine awp_seq ?_
  refine awp_seq ?_
  refine awpF_region ?_; intro K hK; simp only [push_cast, seval]; (try simp (disch := omega) only [wrapI]); (repeat ((with_reducible refine And.intro ?_ ?_); (focus (first | trivial | assumption | omega | (intro _ hrow; obtain ⟨_, _, rfl⟩ := List.mem_map.1 hrow; rfl) | ((intros; repeat' apply And.intro) <;> first | trivial | assumption | omega | (intro _ hrow; obtain ⟨_, _, rfl⟩ := List.mem_map.1 hrow; rfl) | (simp_all; done) | (simp_all; omega)))))); refine hK _ ?_; clear hK; clear K
  refine awp_block ?_
  refine awp_loopP (st := fun (x : Nat × Sp) => ⟨[(0, .d (.sl (a.map encP))), (1, .d (.sl (b.map encP))), (2, .d (.int .i64 w)), (3, .d (.int .i64 s)), (8, .ptr 0 0 0), (13, .ptr 1 0 0), (14, .d (.int .i64 (cN a b s x.2))), (15, .d (.int .i64 x.1))], [.cells (spV (0, 0)), .cells (spV x.2)]⟩)
    (inv := fun x => x.1 ≤ a.length ∧ Best (cN a b s) (upto w a b x.1 0) x.2) (μ := fun x => a.length - x.1) (x0 := (0, (0, 0))) (r0 := [0, 1]) ?_ ?_ ?_
  · refine ⟨Nat.zero_le _, ?_⟩
    rw [upto_zero]
    simp only [List.take_zero, cands, List.flatMap_nil]
    exact Best.one _ _
  · simp only [spV]
    exact ⟨by simp, by simp, by simp [push_cast, seval], by simp [push_cast, seval], by simp [push_cast, seval], by simp [push_cast, seval]⟩
  rintro ⟨i, best⟩ ⟨hi, hbest⟩
  dsimp only at hi hbest ⊢
  refine awp_seq ?_
  refine awp_seq ?_
  refine awpF_region ?_; intro K hK; simp only [push_cast, seval]; (try simp (disch := omega) only [wrapI]); (repeat ((with_reducible refine And.intro ?_ ?_); (focus (first | trivial | assumption | omega | (intro _ hrow; obtain ⟨_, _, rfl⟩ := List.mem_map.1 hrow; rfl) | ((intros; repeat' apply And.intro) <;> first | trivial | assumption | omega | (intro _ hrow; obtain ⟨_, _, rfl⟩ := List.mem_map.1 hrow; rfl) | (simp_all; done) | (simp_all; omega)))))); refine hK _ ?_; clear hK; clear K
  apply awp_cond; (focus (simp only [push_cast, seval]; rfl))
  · intro h5; (try simp only [decide_eq_true_eq, decide_eq_false_iff_not, Bool.not_eq_true', Bool.not_eq_false', Bool.and_eq_true, Bool.or_eq_true, Bool.not_eq_true] at h5)
    have hlt : i < a.length := by omega
    obtain ⟨p, hp⟩ : ∃ p, a[i]? = some p := ⟨_, List.getElem?_eq_getElem hlt⟩
    have hfp := fair_iff.1 (check_fair ha hp)
    refine awp_skip ?_
    refine awp_seq ?_
    refine awp_block ?_
    refine awp_seq ?_
    refine awpF_region ?_; intro K hK; simp only [push_cast, seval]; (try simp (disch := omega) only [wrapI]); (repeat ((with_reducible refine And.intro ?_ ?_); (focus (first | trivial | assumption | omega | (intro _ hrow; obtain ⟨_, _, rfl⟩ := List.mem_map.1 hrow; rfl) | ((intros; repeat' apply And.intro) <;> first | trivial | assumption | omega | (intro _ hrow; obtain ⟨_, _, rfl⟩ := List.mem_map.1 hrow; rfl) | (simp_all; done) | (simp_all; omega)))))); refine hK _ ?_; clear hK; clear K
    refine awp_block ?_
    refine awp_loopP (st := fun (x : Nat × Sp) => ⟨[(0, .d (.sl (a.map encP))), (1, .d (.sl (b.map encP))), (2, .d (.int .i64 w)), (3, .d (.int .i64 s)), (8, .ptr 0 0 0), (13, .ptr 1 0 0), (14, .d (.int .i64 (cN a b s x.2))), (15, .d (.int .i64 i)), (16, .d (.int .i64 x.1))], [.cells (spV (0, 0)), .cells (spV x.2)]⟩)
      (inv := fun x => x.1 ≤ b.length ∧ Best (cN a b s) (upto w a b i x.1) x.2) (μ := fun x => b.length - x.1) (x0 := (0, best)) (r0 := [0, 1]) ?_ ?_ ?_
    · exact ⟨Nat.zero_le _, hbest⟩
    · simp only [spV]
      exact ⟨by simp, by simp, by simp [push_cast, seval], by simp [push_cast, seval], by simp [push_cast, seval], by simp [push_cast, seval]⟩
    clear hbest best
    rintro ⟨k, best⟩ ⟨hk, hbest⟩
    dsimp only at hk hbest ⊢
    refine awp_seq ?_
    refine awp_seq ?_
    refine awpF_region ?_; intro K hK; simp only [push_cast, seval]; (try simp (disch := omega) only [wrapI]); (repeat ((with_reducible refine And.intro ?_ ?_); (focus (first | trivial | assumption | omega | (intro _ hrow; obtain ⟨_, _, rfl⟩ := List.mem_map.1 hrow; rfl) | ((intros; repeat' apply And.intro) <;> first | trivial | assumption | omega | (intro _ hrow; obtain ⟨_, _, rfl⟩ := List.mem_map.1 hrow; rfl) | (simp_all; done) | (simp_all; omega)))))); refine hK _ ?_; clear hK; clear K
    apply awp_cond; (focus (simp only [push_cast, seval]; rfl))
    · intro h6; (try simp only [decide_eq_true_eq, decide_eq_false_iff_not, Bool.not_eq_true', Bool.not_eq_false', Bool.and_eq_true, Bool.or_eq_true, Bool.not_eq_true] at h6)
      have hklt : k < b.length := by omega
      obtain ⟨q, hq⟩ : ∃ q, b[k]? = some q := ⟨_, List.getElem?_eq_getElem hklt⟩
      have hfq := fair_iff.1 (check_fair hb' hq)
      have hbw : inW w best := upto_bnd hw0 hbest.1
      obtain ⟨bx, by'⟩ := best
      simp only [inW] at hbw
      refine awp_skip ?_
      refine awp_seq ?_
      refine awp_block ?_
      refine awp_seq ?_
      refine awpF_drawT (DT.op 0 (DT.op 1 (DT.op 2 (DT.op 3 (DT.op 5 (DT.op 6 (DT.op 7 (DT.op 8 (DT.or (DT.op 4 (DT.or (DT.op 9 (DT.or (DT.op 10 (DT.op 11 (DT.op 12 DT.nil))) (DT.op 11 (DT.op 10 (DT.op 12 DT.nil))))) (DT.op 11 (DT.op 9 (DT.op 10 (DT.op 12 DT.nil)))))) (DT.op 11 (DT.op 4 (DT.op 9 (DT.op 10 (DT.op 12 DT.nil)))))))))))))) (by kernel_rfl) (by kernel_rfl) (by kernel_rfl) ?_; intro K hK; apply dt_close; (rotate_left; (intro fin; (focus (simp only [push_cast, seval, hp, hq, encP, spV]; (try simp (disch := omega) only [wrapI]); (repeat' (first | exact fin | (with_reducible refine And.intro ?_ ?_) | (refine CallK.pd (p61 _ _ _) ?_; simp only [push_cast, seval, hp, hq, encP, spV]; (try simp (disch := omega) only [wrapI])) | (refine CallK.pd (p71 _ _ _ _) ?_; simp only [push_cast, seval, hp, hq, encP, spV]; (try simp (disch := omega) only [wrapI])) | (refine CallK.pg (fun _ => p61 _ _ _) ?_; simp only [push_cast, seval, hp, hq, encP, spV]; (try simp (disch := omega) only [wrapI])) | (refine CallK.pg (fun _ => p71 _ _ _ _) ?_; simp only [push_cast, seval, hp, hq, encP, spV]; (try simp (disch := omega) only [wrapI])) | first | trivial | assumption | omega | (intro _ hrow; obtain ⟨_, _, rfl⟩ := List.mem_map.1 hrow; rfl) | ((intros; repeat' apply And.intro) <;> first | trivial | assumption | omega | (intro _ hrow; obtain ⟨_, _, rfl⟩ := List.mem_map.1 hrow; rfl) | (simp_all; done) | (simp_all; omega)))))))); refine hK _ ?_; clear hK; clear K
      refine awp_seq ?_
      refine awp_seq ?_
      refine awpF_region ?_; intro K hK; simp only [push_cast, seval]; (try simp (disch := omega) only [wrapI]); (repeat ((with_reducible refine And.intro ?_ ?_); (focus (first | trivial | assumption | omega | (intro _ hrow; obtain ⟨_, _, rfl⟩ := List.mem_map.1 hrow; rfl) | ((intros; repeat' apply And.intro) <;> first | trivial | assumption | omega | (intro _ hrow; obtain ⟨_, _, rfl⟩ := List.mem_map.1 hrow; rfl) | (simp_all; done) | (simp_all; omega)))))); refine hK _ ?_; clear hK; clear K
      apply awp_cond; (focus (simp only [push_cast, seval]; rfl))
      · intro h7; (try simp only [decide_eq_true_eq, decide_eq_false_iff_not, Bool.not_eq_true', Bool.not_eq_false', Bool.and_eq_true, Bool.or_eq_true, Bool.not_eq_true] at h7)
        have hout : ¬ inW w (diff p q) := by
          intro hin
          simp only [inW, diff] at hin
          have e1 : ¬ p.1 - q.1 < -w := by omega
          have e2 : ¬ p.1 - q.1 > w := by omega
          have e3 : ¬ p.2.1 - q.2.1 < -w := by omega
          have e4 : ¬ p.2.1 - q.2.1 > w := by omega
          simp [e1, e2, e3, e4] at h7
        refine awp_exit ?_; (repeat (first | refine then_exit ?_ | refine inblock_other (by decide) ?_)); refine inblock_same ?_
        refine awpF_region ?_; intro K hK; simp only [push_cast, seval]; (try simp (disch := omega) only [wrapI]); (repeat ((with_reducible refine And.intro ?_ ?_); (focus (first | trivial | assumption | omega | (intro _ hrow; obtain ⟨_, _, rfl⟩ := List.mem_map.1 hrow; rfl) | ((intros; repeat' apply And.intro) <;> first | trivial | assumption | omega | (intro _ hrow; obtain ⟨_, _, rfl⟩ := List.mem_map.1 hrow; rfl) | (simp_all; done) | (simp_all; omega)))))); refine hK _ ?_; clear hK; clear K
        refine round_endG (k + 1, (bx, by')) [0, 1] ⟨?_, ⟨hklt, ?_⟩, ?_⟩
        · dsimp only; omega
        · dsimp only; rw [upto_out hp hq hout]; exact hbest
        · simp only [spV]
          exact ⟨by simp, by simp, by simp [push_cast, seval], by simp [push_cast, seval], by simp [push_cast, seval], by simp [push_cast, seval]⟩
      · intro h7; (try simp only [decide_eq_true_eq, decide_eq_false_iff_not, Bool.not_eq_true', Bool.not_eq_false', Bool.and_eq_true, Bool.or_eq_true, Bool.not_eq_true] at h7)
        have hin : inW w (diff p q) := by
          simp only [inW, diff]
          by_cases e1 : p.1 - q.1 < -w
          · simp [e1] at h7
          · by_cases e2 : p.1 - q.1 > w
            · simp [e1, e2] at h7
            · by_cases e3 : p.2.1 - q.2.1 < -w
              · simp [e1, e2, e3] at h7
              · simp [e1, e2, e3] at h7
                omega
        have hmd := hok.match hin
        have hnew := upto_in hp hq hin
        have hdw := hin
        simp only [inW, diff] at hdw
        rw [diff] at hmd hnew
        generalize p.1 - q.1 = dx at hmd hnew hdw ⊢
        generalize p.2.1 - q.2.1 = dy at hmd hnew hdw ⊢
        dsimp only at hmd
        refine awp_skip ?_
        refine awp_seq ?_
        refine awpF_region ?_; intro K hK; simp only [push_cast, seval]
        (repeat ((with_reducible refine And.intro ?_ ?_); (focus (first | trivial | assumption | omega | (intro _ hrow; obtain ⟨_, _, rfl⟩ := List.mem_map.1 hrow; rfl) | ((intros; repeat' apply And.intro) <;> first | trivial | assumption | omega | (intro _ hrow; obtain ⟨_, _, rfl⟩ := List.mem_map.1 hrow; rfl) | (simp_all; done) | (simp_all; omega))))))
        refine CallK.pd (p30 a b dx dy s) ?_; simp only [push_cast, seval]; (try simp (disch := omega) only [wrapI]); (repeat ((with_reducible refine And.intro ?_ ?_); (focus (first | trivial | assumption | omega | (intro _ hrow; obtain ⟨_, _, rfl⟩ := List.mem_map.1 hrow; rfl) | ((intros; repeat' apply And.intro) <;> first | trivial | assumption | omega | (intro _ hrow; obtain ⟨_, _, rfl⟩ := List.mem_map.1 hrow; rfl) | (simp_all; done) | (simp_all; omega))))))
        refine hK _ ?_; clear hK; clear K
        rw [hmd]
        have hbi := better_iff (cN a b s (dx, dy)) (cN a b s (bx, by')) dx dy bx by'
        have hnw := fun h => hbest.snoc_new (e := (dx, dy)) h
        have hol := fun h => hbest.snoc_old (e := (dx, dy)) h
        rw [← hnew] at hnw hol
        generalize hcn : cN a b s (dx, dy) = n at hbi hnw hol ⊢
        refine awp_seq ?_
        refine awpF_draw [0,1,2,3,4,5,6,7,8,10,9,11,12,13,14,16,15,17,18,19,20,21,22,23,24,25,26] (by kernel_rfl) (by kernel_rfl) rfl ?_; intro K hK; simp only [push_cast, seval, spV]
        (repeat ((with_reducible refine And.intro ?_ ?_); (focus (first | trivial | assumption | omega | (intro _ hrow; obtain ⟨_, _, rfl⟩ := List.mem_map.1 hrow; rfl) | ((intros; repeat' apply And.intro) <;> first | trivial | assumption | omega | (intro _ hrow; obtain ⟨_, _, rfl⟩ := List.mem_map.1 hrow; rfl) | (simp_all; done) | (simp_all; omega))))))
        refine CallK.pg (fun _ => p72 dx dy (by omega) (by omega)) ?_; simp only [push_cast, seval]; (try simp (disch := omega) only [wrapI]); (repeat ((with_reducible refine And.intro ?_ ?_); (focus (first | trivial | assumption | omega | (intro _ hrow; obtain ⟨_, _, rfl⟩ := List.mem_map.1 hrow; rfl) | ((intros; repeat' apply And.intro) <;> first | trivial | assumption | omega | (intro _ hrow; obtain ⟨_, _, rfl⟩ := List.mem_map.1 hrow; rfl) | (simp_all; done) | (simp_all; omega))))))
        refine CallK.pg (fun _ => p72 bx by' (by omega) (by omega)) ?_; simp only [push_cast, seval]; (try simp (disch := omega) only [wrapI]); (repeat ((with_reducible refine And.intro ?_ ?_); (focus (first | trivial | assumption | omega | (intro _ hrow; obtain ⟨_, _, rfl⟩ := List.mem_map.1 hrow; rfl) | ((intros; repeat' apply And.intro) <;> first | trivial | assumption | omega | (intro _ hrow; obtain ⟨_, _, rfl⟩ := List.mem_map.1 hrow; rfl) | (simp_all; done) | (simp_all; omega))))))
        refine CallK.pg (fun _ => p72 dx dy (by omega) (by omega)) ?_; simp only [push_cast, seval]; (try simp (disch := omega) only [wrapI]); (repeat ((with_reducible refine And.intro ?_ ?_); (focus (first | trivial | assumption | omega | (intro _ hrow; obtain ⟨_, _, rfl⟩ := List.mem_map.1 hrow; rfl) | ((intros; repeat' apply And.intro) <;> first | trivial | assumption | omega | (intro _ hrow; obtain ⟨_, _, rfl⟩ := List.mem_map.1 hrow; rfl) | (simp_all; done) | (simp_all; omega))))))
        refine CallK.pg (fun _ => p72 bx by' (by omega) (by omega)) ?_; simp only [push_cast, seval]; (try simp (disch := omega) only [wrapI]); (repeat ((with_reducible refine And.intro ?_ ?_); (focus (first | trivial | assumption | omega | (intro _ hrow; obtain ⟨_, _, rfl⟩ := List.mem_map.1 hrow; rfl) | ((intros; repeat' apply And.intro) <;> first | trivial | assumption | omega | (intro _ hrow; obtain ⟨_, _, rfl⟩ := List.mem_map.1 hrow; rfl) | (simp_all; done) | (simp_all; omega))))))
        refine CallK.pg (fun _ => p73 _ _ _ _) ?_; simp only [push_cast, seval]; (try simp (disch := omega) only [wrapI]); (repeat ((with_reducible refine And.intro ?_ ?_); (focus (first | trivial | assumption | omega | (intro _ hrow; obtain ⟨_, _, rfl⟩ := List.mem_map.1 hrow; rfl) | ((intros; repeat' apply And.intro) <;> first | trivial | assumption | omega | (intro _ hrow; obtain ⟨_, _, rfl⟩ := List.mem_map.1 hrow; rfl) | (simp_all; done) | (simp_all; omega))))))
        refine hK _ ?_; clear hK; clear K
        apply awp_cond; (focus (simp only [push_cast, seval]; rfl))
        · intro h8; (try simp only [decide_eq_true_eq, decide_eq_false_iff_not, Bool.not_eq_true', Bool.not_eq_false', Bool.and_eq_true, Bool.or_eq_true, Bool.not_eq_true] at h8)
          have hbe : better n (dx, dy) (cN a b s (bx, by')) (bx, by') := by
            rw [hbi]
            by_cases e1 : n > cN a b s (bx, by')
            · exact .inl e1
            · by_cases e2 : n = cN a b s (bx, by')
              · refine .inr ⟨e2, ?_⟩
                by_cases e3 : far0 dx dy < far0 bx by'
                · exact .inl e3
                · simp [e2, e3] at h8
                  exact .inr h8
              · simp [e1, e2] at h8
          refine awpF_region ?_; intro K hK; simp only [push_cast, seval]; (try simp (disch := omega) only [wrapI]); (repeat ((with_reducible refine And.intro ?_ ?_); (focus (first | trivial | assumption | omega | (intro _ hrow; obtain ⟨_, _, rfl⟩ := List.mem_map.1 hrow; rfl) | ((intros; repeat' apply And.intro) <;> first | trivial | assumption | omega | (intro _ hrow; obtain ⟨_, _, rfl⟩ := List.mem_map.1 hrow; rfl) | (simp_all; done) | (simp_all; omega)))))); refine hK _ ?_; clear hK; clear K
          refine awpF_region ?_; intro K hK; simp only [push_cast, seval]; (try simp (disch := omega) only [wrapI]); (repeat ((with_reducible refine And.intro ?_ ?_); (focus (first | trivial | assumption | omega | (intro _ hrow; obtain ⟨_, _, rfl⟩ := List.mem_map.1 hrow; rfl) | ((intros; repeat' apply And.intro) <;> first | trivial | assumption | omega | (intro _ hrow; obtain ⟨_, _, rfl⟩ := List.mem_map.1 hrow; rfl) | (simp_all; done) | (simp_all; omega)))))); refine hK _ ?_; clear hK; clear K
          refine round_endG (k + 1, (dx, dy)) [0, 1] ⟨?_, ⟨hklt, hnw hbe⟩, ?_⟩
          · dsimp only; omega
          · simp only [spV, hcn]
            exact ⟨by simp, by simp, by simp [push_cast, seval], by simp [push_cast, seval], by simp [push_cast, seval], by simp [push_cast, seval]⟩
        · intro h8; (try simp only [decide_eq_true_eq, decide_eq_false_iff_not, Bool.not_eq_true', Bool.not_eq_false', Bool.and_eq_true, Bool.or_eq_true, Bool.not_eq_true] at h8)
          have hbe : ¬ better n (dx, dy) (cN a b s (bx, by')) (bx, by') := by
            rw [hbi]
            rintro (e1 | ⟨e2, e3⟩)
            · simp [e1] at h8
            · simp [e2] at h8
              omega
          refine awp_skip ?_
          refine awpF_region ?_; intro K hK; simp only [push_cast, seval]; (try simp (disch := omega) only [wrapI]); (repeat ((with_reducible refine And.intro ?_ ?_); (focus (first | trivial | assumption | omega | (intro _ hrow; obtain ⟨_, _, rfl⟩ := List.mem_map.1 hrow; rfl) | ((intros; repeat' apply And.intro) <;> first | trivial | assumption | omega | (intro _ hrow; obtain ⟨_, _, rfl⟩ := List.mem_map.1 hrow; rfl) | (simp_all; done) | (simp_all; omega)))))); refine hK _ ?_; clear hK; clear K
          refine round_endG (k + 1, (bx, by')) [0, 1] ⟨?_, ⟨hklt, hol hbe⟩, ?_⟩
          · dsimp only; omega
          · simp only [spV]
            exact ⟨by simp, by simp, by simp [push_cast, seval], by simp [push_cast, seval], by simp [push_cast, seval], by simp [push_cast, seval]⟩
    · intro h6; (try simp only [decide_eq_true_eq, decide_eq_false_iff_not, Bool.not_eq_true', Bool.not_eq_false', Bool.and_eq_true, Bool.or_eq_true, Bool.not_eq_true] at h6)
      have hke : k = b.length := by omega
      subst hke
      rw [upto_end hlt] at hbest
      refine awp_exit ?_; (repeat (first | refine then_exit ?_ | refine inblock_other (by decide) ?_)); refine inblock_same ?_
      refine awpF_region ?_; intro K hK; simp only [push_cast, seval]; (try simp (disch := omega) only [wrapI]); (repeat ((with_reducible refine And.intro ?_ ?_); (focus (first | trivial | assumption | omega | (intro _ hrow; obtain ⟨_, _, rfl⟩ := List.mem_map.1 hrow; rfl) | ((intros; repeat' apply And.intro) <;> first | trivial | assumption | omega | (intro _ hrow; obtain ⟨_, _, rfl⟩ := List.mem_map.1 hrow; rfl) | (simp_all; done) | (simp_all; omega)))))); refine hK _ ?_; clear hK; clear K
      refine round_endG (i + 1, best) [0, 1] ⟨?_, ⟨hlt, ?_⟩, ?_⟩
      · dsimp only; omega
      · rw [upto_zero]; exact hbest
      · simp only [spV]
        exact ⟨by simp, by simp, by simp [push_cast, seval], by simp [push_cast, seval], by simp [push_cast, seval], by simp [push_cast, seval]⟩
  · intro h5; (try simp only [decide_eq_true_eq, decide_eq_false_iff_not, Bool.not_eq_true', Bool.not_eq_false', Bool.and_eq_true, Bool.or_eq_true, Bool.not_eq_true] at h5)
    have hie : i = a.length := by omega
    subst hie
    rw [upto_zero, List.take_length] at hbest
    have := hbest.unique (regBest_best a b w s) fun _ => Iff.rfl
    subst this
    refine awp_exit ?_; (repeat (first | refine then_exit ?_ | refine inblock_other (by decide) ?_)); refine inblock_same ?_
    refine awp_seq ?_
    refine awpF_region ?_; intro K hK; simp only [push_cast, seval, spV]
    (repeat ((with_reducible refine And.intro ?_ ?_); (focus (first | trivial | assumption | omega | (intro _ hrow; obtain ⟨_, _, rfl⟩ := List.mem_map.1 hrow; rfl) | ((intros; repeat' apply And.intro) <;> first | trivial | assumption | omega | (intro _ hrow; obtain ⟨_, _, rfl⟩ := List.mem_map.1 hrow; rfl) | (simp_all; done) | (simp_all; omega))))))
    refine hK _ ?_; clear hK; clear K
    refine awp_ret ?_; (repeat (first | refine then_ret ?_ | refine inblock_ret ?_)); refine fin_of (by simp only [push_cast, seval]; first | done | rfl) (by first | trivial | first | trivial | assumption | omega | (intro _ hrow; obtain ⟨_, _, rfl⟩ := List.mem_map.1 hrow; rfl) | ((intros; repeat' apply And.intro) <;> first | trivial | assumption | omega | (intro _ hrow; obtain ⟨_, _, rfl⟩ := List.mem_map.1 hrow; rfl) | (simp_all; done) | (simp_all; omega))) ?_
    rfl

end Go.Aw
