/-
  Texts of the library, one behind the other. Over any program; no condition.
-/
import Derived.Test.YtecindhbaekncaaGreatPcB
import Derived.Test.YtecindhbaekncaaGreatPcA
namespace Go.Aw
set_option linter.unusedSimpArgs false
set_option linter.unusedVariables false
open Go.RowKit Go.Proofs Go.Seg

abbrev Box := Int × Int × Int × Int
def box4 (b : Box) (p : Pt) : Box := (min b.1 p.1, min b.2.1 p.2.1, max b.2.2.1 p.1, max b.2.2.2 p.2.1)
def at4 (p : Pt) : Box := (p.1, p.2.1, p.1, p.2.1)
def boxV (b : Box) : List V := [.d (.int .i64 b.1), .d (.int .i64 b.2.1), .d (.int .i64 b.2.2.1), .d (.int .i64 b.2.2.2)]
def arounds (ps : List Pt) : Box × Bool := match ps with
  | [] => ((0, 0, 0, 0), false)
  | p :: _ => if check ps = 0 then (ps.foldl box4 (at4 p), true) else ((0, 0, 0, 0), false)

theorem take_next {ps : List Pt} {i : Nat} {p : Pt} (h : ps[i]? = some p) (b : Box) : (ps.take (i + 1)).foldl box4 b = box4 ((ps.take i).foldl box4 b) p := by
  rw [List.take_add_one, h, List.foldl_append]
  rfl

theorem check_len {ps : List Pt} (h : check ps = 0) : ps.length ≤ 1000 := by
  simp [check] at h
  split at h <;> omega

theorem arounds_bad {ps : List Pt} (h : check ps ≠ 0 ∨ ps.length = 0) : arounds ps = ((0, 0, 0, 0), false) := by
  cases ps with
  | nil => rfl
  | cons p l =>
    have : check (p :: l) ≠ 0 := h.resolve_right (by simp)
    simp [arounds, this]
theorem arounds_ok {ps : List Pt} {p : Pt} (h : check ps = 0) (h0 : ps[0]? = some p) : arounds ps = (ps.foldl box4 (at4 p), true) := by
  cases ps with
  | nil => simp at h0
  | cons q l => simp at h0; subst h0; simp [arounds, h]

theorem p21 (ps : List Pt) : PD Tryz.prog 21 [.sl (ps.map encP)] (.tup [.agg (boxV (arounds ps).1), .d (.bool (arounds ps).2)]) := by
  refine pd_of (fn := Tryz.f21) [.cell 2 40, .tmp 3] (by kernel_rfl) rfl (by kernel_rfl) (Nat.le_of_ble_eq_true rfl) (by kernel_rfl) rfl rfl ?_
  refine awp_seq ?_
  refine awpF_region ?_; intro K hK; simp only [push_cast, seval]; (try simp (disch := omega) only [wrapI]); (repeat ((with_reducible refine And.intro ?_ ?_); (focus (exact ob1)))); refine hK _ ?_; clear hK; clear K
  refine awp_seq ?_
  refine awp_seq ?_
  refine awpF_region ?_; intro K hK; simp only [push_cast, seval]
  (repeat ((with_reducible refine And.intro ?_ ?_); (focus (exact ob1))))
  refine CallK.pd (p25 _) ?_; simp only [push_cast, seval]; (try simp (disch := omega) only [wrapI]); (repeat ((with_reducible refine And.intro ?_ ?_); (focus (exact ob1))))
  refine hK _ ?_; clear hK; clear K
  apply awp_cond; (focus (simp only [push_cast, seval]; rfl))
  · intro h1; (try simp only [decide_eq_true_eq, decide_eq_false_iff_not, Bool.not_eq_true', Bool.not_eq_false', Bool.and_eq_true, Bool.or_eq_true, Bool.not_eq_true] at h1)
    have hbad : check ps ≠ 0 ∨ ps.length = 0 := by
      by_cases hc : check ps = 0
      · simp [hc] at h1; right; simpa using h1
      · exact .inl hc
    rw [arounds_bad hbad]
    refine awp_seq ?_
    refine awpF_region ?_; intro K hK; simp only [push_cast, seval]; (try simp (disch := omega) only [wrapI]); (repeat ((with_reducible refine And.intro ?_ ?_); (focus (exact ob1)))); refine hK _ ?_; clear hK; clear K
    refine awp_ret ?_; (repeat (first | refine then_ret ?_ | refine inblock_ret ?_)); refine fin_of (by simp only [push_cast, seval]; first | done | rfl) ob1 ?_
    rfl
  intro h1; (try simp only [decide_eq_true_eq, decide_eq_false_iff_not, Bool.not_eq_true', Bool.not_eq_false', Bool.and_eq_true, Bool.or_eq_true, Bool.not_eq_true] at h1)
  have hok : check ps = 0 ∧ 0 < ps.length := by
    by_cases hc : check ps = 0
    · simp [hc] at h1
      exact ⟨hc, by cases ps with | nil => simp at h1 | cons _ _ => simp⟩
    · simp [hc] at h1
  have hn := check_len hok.1
  obtain ⟨p0, hp0⟩ : ∃ p, ps[0]? = some p := ⟨_, List.getElem?_eq_getElem hok.2⟩
  rw [arounds_ok hok.1 hp0]
  refine awp_skip ?_
  refine awp_seq ?_
  refine awpF_draw [0,1,2,3,4,5,6,7,8,9,10,11,12,13,14,15,16,17,18] (by kernel_rfl) (by kernel_rfl) rfl ?_; intro K hK; simp only [push_cast, seval, hp0, encP, Int.toNat_zero]
  (repeat ((with_reducible refine And.intro ?_ ?_); (focus (exact ob1))))
  refine hK _ ?_; clear hK; clear K
  refine awp_seq ?_
  refine awp_seq ?_
  refine awpF_region ?_; intro K hK; simp only [push_cast, seval]; (try simp (disch := omega) only [wrapI]); (repeat ((with_reducible refine And.intro ?_ ?_); (focus (exact ob1)))); refine hK _ ?_; clear hK; clear K
  refine awp_block ?_
  refine awp_loopP (st := fun (x : Nat) => ⟨[(2, .ptr 0 0 0), (4, .ptr 1 0 0), (33, .d (.sl (ps.map encP))), (34, .d (.int .i64 ps.length)), (35, .d (.int .i64 x))], [.cells (boxV (0, 0, 0, 0)), .cells (boxV ((ps.take x).foldl box4 (at4 p0)))]⟩)
    (inv := fun x => x ≤ ps.length) (μ := fun x => ps.length - x) (x0 := 0) (r0 := [0, 1]) ?_ ?_ ?_
  · exact Nat.zero_le _
  · simp only [List.take_zero, List.foldl_nil, at4, boxV]
    exact ⟨by simp, by simp, by simp [push_cast, seval], by simp [push_cast, seval], by simp [push_cast, seval], by simp [push_cast, seval]⟩
  intro i hi
  refine awp_seq ?_
  refine awpF_region ?_; intro K hK; simp only [push_cast, seval]; (try simp (disch := omega) only [wrapI]); (repeat ((with_reducible refine And.intro ?_ ?_); (focus (exact ob1)))); refine hK _ ?_; clear hK; clear K
  refine awp_seq ?_
  apply awp_cond; (focus (simp only [push_cast, seval]; rfl))
  · intro h2; (try simp only [decide_eq_true_eq, decide_eq_false_iff_not, Bool.not_eq_true', Bool.not_eq_false', Bool.and_eq_true, Bool.or_eq_true, Bool.not_eq_true] at h2)
    have hlt : i < ps.length := by omega
    obtain ⟨p, hp⟩ : ∃ p, ps[i]? = some p := ⟨_, List.getElem?_eq_getElem hlt⟩
    have hnx := take_next hp (at4 p0)
    generalize (ps.take i).foldl box4 (at4 p0) = b at hnx ⊢
    obtain ⟨b1, b2, b3, b4⟩ := b
    simp only [boxV]
    refine awp_skip ?_
    refine awp_seq ?_
    refine awp_block ?_
    refine awp_seq ?_
    refine awpF_region ?_; intro K hK; simp only [push_cast, seval, hp, encP]; (try simp (disch := omega) only [wrapI]); (repeat ((with_reducible refine And.intro ?_ ?_); (focus (exact ob1)))); refine hK _ ?_; clear hK; clear K
    refine awpF_region ?_; intro K hK; simp only [push_cast, seval]; (try simp (disch := omega) only [wrapI]); (repeat ((with_reducible refine And.intro ?_ ?_); (focus (exact ob1)))); refine hK _ ?_; clear hK; clear K
    refine awpF_region ?_; intro K hK; simp only [push_cast, seval]; (try simp (disch := omega) only [wrapI]); (repeat ((with_reducible refine And.intro ?_ ?_); (focus (exact ob1)))); refine hK _ ?_; clear hK; clear K
    refine round_endG (i + 1) [0, 1] ⟨?_, hlt, ?_⟩
    · omega
    · rw [hnx]
      simp only [box4]
      exact ⟨by simp, by simp, by simp [push_cast, seval], by simp [push_cast, seval], by simp [push_cast, seval], by simp [push_cast, seval]⟩
  · intro h2; (try simp only [decide_eq_true_eq, decide_eq_false_iff_not, Bool.not_eq_true', Bool.not_eq_false', Bool.and_eq_true, Bool.or_eq_true, Bool.not_eq_true] at h2)
    have hie : i = ps.length := by omega
    subst hie
    rw [List.take_length]
    generalize ps.foldl box4 (at4 p0) = b
    obtain ⟨b1, b2, b3, b4⟩ := b
    simp only [boxV]
    refine awp_exit ?_; (repeat (first | refine then_exit ?_ | refine inblock_other (by decide) ?_)); refine inblock_same ?_
    refine awp_seq ?_
    refine awpF_region ?_; intro K hK; simp only [push_cast, seval]; (try simp (disch := omega) only [wrapI]); (repeat ((with_reducible refine And.intro ?_ ?_); (focus (exact ob1)))); refine hK _ ?_; clear hK; clear K
    refine awp_ret ?_; (repeat (first | refine then_ret ?_ | refine inblock_ret ?_)); refine fin_of (by simp only [push_cast, seval]; first | done | rfl) ob1 ?_
    rfl

def farV (x y : Int) : Bool := decide (x < -33554432 ∨ y < -33554432 ∨ x > 33554432 ∨ y > 33554432)
theorem p62 (x y : Int) : PD Tryz.prog 48 [.agg [.int .i64 x, .int .i64 y]] (.d (.bool (farV x y))) := by
  refine pd_of (fn := Tryz.f48) [.tmp 2] (by kernel_rfl) rfl (by kernel_rfl) (Nat.le_of_ble_eq_true rfl) (by kernel_rfl) rfl rfl ?_
  refine awp_seq ?_
  refine awpF_region ?_; intro K hK; simp only [push_cast, seval]; (try simp (disch := omega) only [wrapI]); (repeat ((with_reducible refine And.intro ?_ ?_); (focus (exact ob1)))); refine hK _ ?_; clear hK; clear K
  refine awp_seq ?_
  refine awpF_region ?_; intro K hK; simp only [push_cast, seval]; (try simp (disch := omega) only [wrapI]); (repeat ((with_reducible refine And.intro ?_ ?_); (focus (exact ob1)))); refine hK _ ?_; clear hK; clear K
  refine awp_ret ?_; (repeat (first | refine then_ret ?_ | refine inblock_ret ?_)); refine fin_of (by simp only [push_cast, seval]; first | done | rfl) ob1 ?_
  congr 2
  unfold farV
  by_cases h : min x y < -33554432
  · have h3 : x < -33554432 ∨ y < -33554432 ∨ x > 33554432 ∨ y > 33554432 := by omega
    simp only [h, decide_true, cond_true, h3]
  · by_cases h2 : max x y > 33554432
    · have h3 : x < -33554432 ∨ y < -33554432 ∨ x > 33554432 ∨ y > 33554432 := by omega
      simp only [h, decide_false, cond_false, h2, h3, decide_true]
    · have h3 : ¬ (x < -33554432 ∨ y < -33554432 ∨ x > 33554432 ∨ y > 33554432) := by omega
      simp only [h, h2, h3, decide_false, cond_false]
def sh (x y : Int) (p : Pt) : Pt := (p.1 + x, p.2.1 + y, p.2.2)
def shOk (x y : Int) (p : Pt) : Bool := fair (p.1 + x) (p.2.1 + y)
def shifts (ps : List Pt) (x y : Int) : List Pt × Int :=
  if check ps ≠ 0 then ([], check ps) else if farV x y then ([], 2) else if ps.all (shOk x y) then (ps.map (sh x y), 0) else ([], 2)

theorem sh_next {ps : List Pt} {i : Nat} {p : Pt} (h : ps[i]? = some p) (x y : Int) : ((ps.take (i + 1)).map (sh x y)).map encP = ((ps.take i).map (sh x y)).map encP ++ [encP (sh x y p)] := by
  rw [List.take_add_one, h]
  simp

theorem deep_pts {H : List Blk} {id : Nat} {l : List Pt} (h : H[id]? = some (.data 3 (l.map encP))) : Deep H (.ref id 0 l.length) (.sl (l.map encP)) := by
  have := Deep.data (H := H) id 0 l.length 3 (l.map encP) h (by simp)
  rwa [List.drop_zero, List.take_of_length_le (by simp)] at this

theorem p23 (ps : List Pt) (x y : Int) : PD Tryz.prog 22 [.sl (ps.map encP), .agg [.int .i64 x, .int .i64 y]] (.tup [.d (.sl ((shifts ps x y).1.map encP)), .d (.int .i64 (shifts ps x y).2)]) := by
  show PD _ _ _ (ofD (.tup [.sl ((shifts ps x y).1.map encP), .int .i64 (shifts ps x y).2]))
  refine pdd_of (fn := Tryz.f22) [.tmp 4, .tmp 5] (by kernel_rfl) rfl (by kernel_rfl) (Nat.le_of_ble_eq_true rfl) (by kernel_rfl) rfl ?_
  refine awp_seq ?_
  refine awpF_region ?_; intro K hK; simp only [push_cast, seval]; (try simp (disch := omega) only [wrapI]); (repeat ((with_reducible refine And.intro ?_ ?_); (focus (exact ob1)))); refine hK _ ?_; clear hK; clear K
  refine awp_seq ?_
  refine awp_seq ?_
  refine awpF_region ?_; intro K hK; simp only [push_cast, seval]
  (repeat ((with_reducible refine And.intro ?_ ?_); (focus (exact ob1))))
  refine CallK.pd (p25 _) ?_; simp only [push_cast, seval]; (try simp (disch := omega) only [wrapI]); (repeat ((with_reducible refine And.intro ?_ ?_); (focus (exact ob1))))
  refine hK _ ?_; clear hK; clear K
  refine awp_seq ?_
  refine awpF_region ?_; intro K hK; simp only [push_cast, seval]; (try simp (disch := omega) only [wrapI]); (repeat ((with_reducible refine And.intro ?_ ?_); (focus (exact ob1)))); refine hK _ ?_; clear hK; clear K
  apply awp_cond; (focus (simp only [push_cast, seval]; rfl))
  · intro hc; (try simp only [decide_eq_true_eq, decide_eq_false_iff_not, Bool.not_eq_true', Bool.not_eq_false', Bool.and_eq_true, Bool.or_eq_true, Bool.not_eq_true] at hc)
    have hc' : check ps ≠ 0 := by simpa using hc
    refine awp_seq ?_
    refine awpF_region ?_; intro K hK; simp only [push_cast, seval]; (try simp (disch := omega) only [wrapI]); (repeat ((with_reducible refine And.intro ?_ ?_); (focus (exact ob1)))); refine hK _ ?_; clear hK; clear K
    refine awp_ret ?_; (repeat (first | refine then_ret ?_ | refine inblock_ret ?_)); refine fin_of (by simp only [push_cast, seval]; first | done | rfl) ob1 ?_
    rw [shifts, if_pos hc']
    exact deep_tup2 .nil (.d _)
  intro hc; (try simp only [decide_eq_true_eq, decide_eq_false_iff_not, Bool.not_eq_true', Bool.not_eq_false', Bool.and_eq_true, Bool.or_eq_true, Bool.not_eq_true] at hc)
  have hc' : check ps = 0 := by simpa using hc
  have hn := check_len hc'
  refine awp_skip ?_
  refine awp_seq ?_
  refine awp_seq ?_
  refine awpF_region ?_; intro K hK; simp only [push_cast, seval]
  (repeat ((with_reducible refine And.intro ?_ ?_); (focus (exact ob1))))
  refine CallK.pd (p62 _ _) ?_; simp only [push_cast, seval]; (try simp (disch := omega) only [wrapI]); (repeat ((with_reducible refine And.intro ?_ ?_); (focus (exact ob1))))
  refine hK _ ?_; clear hK; clear K
  apply awp_cond; (focus (simp only [push_cast, seval]; rfl))
  · intro hg; (try simp only [decide_eq_true_eq, decide_eq_false_iff_not, Bool.not_eq_true', Bool.not_eq_false', Bool.and_eq_true, Bool.or_eq_true, Bool.not_eq_true] at hg)
    refine awp_seq ?_
    refine awpF_region ?_; intro K hK; simp only [push_cast, seval]; (try simp (disch := omega) only [wrapI]); (repeat ((with_reducible refine And.intro ?_ ?_); (focus (exact ob1)))); refine hK _ ?_; clear hK; clear K
    refine awp_ret ?_; (repeat (first | refine then_ret ?_ | refine inblock_ret ?_)); refine fin_of (by simp only [push_cast, seval]; first | done | rfl) ob1 ?_
    rw [shifts, if_neg (by simp [hc']), if_pos hg]
    exact deep_tup2 .nil (.d _)
  intro hg; (try simp only [decide_eq_true_eq, decide_eq_false_iff_not, Bool.not_eq_true', Bool.not_eq_false', Bool.and_eq_true, Bool.or_eq_true, Bool.not_eq_true] at hg)
  have hxy : -33554432 ≤ x ∧ x ≤ 33554432 ∧ -33554432 ≤ y ∧ y ≤ 33554432 := by simp [farV] at hg; omega
  refine awp_skip ?_
  refine awp_seq ?_
  refine awpF_region ?_; intro K hK; simp only [push_cast, seval]; (try simp (disch := omega) only [wrapI]); (repeat ((with_reducible refine And.intro ?_ ?_); (focus (exact ob1)))); refine hK _ ?_; clear hK; clear K
  refine awp_seq ?_
  refine awp_seq ?_
  refine awpF_region ?_; intro K hK; simp only [push_cast, seval]; (try simp (disch := omega) only [wrapI]); (repeat ((with_reducible refine And.intro ?_ ?_); (focus (exact ob1)))); refine hK _ ?_; clear hK; clear K
  refine awp_virt 7 3 (by simp only [push_cast, seval]) ?_
  refine awp_block ?_
  refine awp_loopP (st := fun (i : Nat) => ⟨[(3, .ptr 0 0 0), (7, .ref 1 0 i), (18, .d (.sl (ps.map encP))), (19, .d (.int .i64 ps.length)), (20, .d (.int .i64 i))], [.cells [.d (.int .i64 x), .d (.int .i64 y)], .data 3 (((ps.take i).map (sh x y)).map encP)]⟩)
    (inv := fun i => i ≤ ps.length ∧ ∀ j p, j < i → ps[j]? = some p → shOk x y p = true) (μ := fun x => ps.length - x) (x0 := 0) (r0 := [0, 1]) ?_ ?_ ?_
  · exact ⟨Nat.zero_le _, fun j p h => by omega⟩
  · simp only [List.take_zero, List.map_nil]
    exact ⟨by simp, by simp, by simp [push_cast, seval], by simp [push_cast, seval], by simp [push_cast, seval], by simp [push_cast, seval]⟩
  rintro i ⟨hi, hall⟩
  refine awp_seq ?_
  refine awpF_region ?_; intro K hK; simp only [push_cast, seval]; (try simp (disch := omega) only [wrapI]); (repeat ((with_reducible refine And.intro ?_ ?_); (focus (exact ob1)))); refine hK _ ?_; clear hK; clear K
  refine awp_seq ?_
  apply awp_cond; (focus (simp only [push_cast, seval]; rfl))
  · intro h2; (try simp only [decide_eq_true_eq, decide_eq_false_iff_not, Bool.not_eq_true', Bool.not_eq_false', Bool.and_eq_true, Bool.or_eq_true, Bool.not_eq_true] at h2)
    have hlt : i < ps.length := by omega
    obtain ⟨p, hp⟩ : ∃ p, ps[i]? = some p := ⟨_, List.getElem?_eq_getElem hlt⟩
    have hfp := fair_iff.1 (check_fair hc' hp)
    have hnx := sh_next hp x y
    have hrl : (((ps.take i).map (sh x y)).map encP).take i = ((ps.take i).map (sh x y)).map encP := List.take_of_length_le (by simp; omega)
    generalize ((ps.take i).map (sh x y)).map encP = rows at hnx hrl ⊢
    refine awp_skip ?_
    refine awp_seq ?_
    refine awp_block ?_
    refine awp_seq ?_
    refine awpF_region ?_; intro K hK; simp only [push_cast, seval, hp, encP]; (try simp (disch := omega) only [wrapI]); (repeat ((with_reducible refine And.intro ?_ ?_); (focus (exact ob1)))); refine hK _ ?_; clear hK; clear K
    refine awp_seq ?_
    refine awpF_region ?_; intro K hK; simp only [push_cast, seval]; (try simp (disch := omega) only [wrapI]); (repeat ((with_reducible refine And.intro ?_ ?_); (focus (exact ob1)))); refine hK _ ?_; clear hK; clear K
    refine awp_seq ?_
    refine awp_seq ?_
    refine awpF_region ?_; intro K hK; simp only [push_cast, seval]
    (repeat ((with_reducible refine And.intro ?_ ?_); (focus (exact ob1))))
    refine CallK.pd (p59 _ _ _) ?_; simp only [push_cast, seval]; (try simp (disch := omega) only [wrapI]); (repeat ((with_reducible refine And.intro ?_ ?_); (focus (exact ob1))))
    refine CallK.pd (p63 _ _) ?_; simp only [push_cast, seval]; (try simp (disch := omega) only [wrapI]); (repeat ((with_reducible refine And.intro ?_ ?_); (focus (exact ob1))))
    refine hK _ ?_; clear hK; clear K
    apply awp_cond; (focus (simp only [push_cast, seval]; rfl))
    · intro h3; (try simp only [decide_eq_true_eq, decide_eq_false_iff_not, Bool.not_eq_true', Bool.not_eq_false', Bool.and_eq_true, Bool.or_eq_true, Bool.not_eq_true] at h3)
      refine awp_seq ?_
      refine awpF_region ?_; intro K hK; simp only [push_cast, seval]; (try simp (disch := omega) only [wrapI]); (repeat ((with_reducible refine And.intro ?_ ?_); (focus (exact ob1)))); refine hK _ ?_; clear hK; clear K
      refine awp_ret ?_; (repeat (first | refine then_ret ?_ | refine inblock_ret ?_)); refine fin_of (by simp only [push_cast, seval]; first | done | rfl) ob1 ?_
      have hno : ¬ ps.all (shOk x y) = true := fun h => by
        have := List.all_eq_true.1 h p (List.mem_of_getElem? hp)
        simp [shOk] at this
        simp [this] at h3
      rw [shifts, if_neg (by simp [hc']), if_neg (by simp [hg]), if_neg hno]
      exact deep_tup2 .nil (.d _)
    · intro h3; (try simp only [decide_eq_true_eq, decide_eq_false_iff_not, Bool.not_eq_true', Bool.not_eq_false', Bool.and_eq_true, Bool.or_eq_true, Bool.not_eq_true] at h3)
      have hok : shOk x y p = true := by simpa [shOk] using h3
      refine awp_skip ?_
      refine awpF_region ?_; intro K hK; simp only [push_cast, seval, hrl]
      (repeat ((with_reducible refine And.intro ?_ ?_); (focus (exact ob1))))
      refine hK _ ?_; clear hK; clear K
      refine awpF_region ?_; intro K hK; simp only [push_cast, seval]; (try simp (disch := omega) only [wrapI]); (repeat ((with_reducible refine And.intro ?_ ?_); (focus (exact ob1)))); refine hK _ ?_; clear hK; clear K
      refine round_endG (i + 1) [0, 1] ⟨?_, ⟨hlt, fun j q hj hq => ?_⟩, ?_⟩
      · omega
      · rcases Nat.lt_or_ge j i with h | h
        · exact hall j q h hq
        · have : j = i := by omega
          subst this
          rw [hp] at hq
          cases hq
          exact hok
      · rw [hnx]
        simp only [encP, sh]
        exact ⟨by simp, by simp, by simp [push_cast, seval], by simp [push_cast, seval], by simp [push_cast, seval], by simp [push_cast, seval]⟩
  · intro h2; (try simp only [decide_eq_true_eq, decide_eq_false_iff_not, Bool.not_eq_true', Bool.not_eq_false', Bool.and_eq_true, Bool.or_eq_true, Bool.not_eq_true] at h2)
    have hie : i = ps.length := by omega
    subst hie
    have hok : ps.all (shOk x y) = true := List.all_eq_true.2 fun p hp => by
      obtain ⟨j, hj, rfl⟩ := List.getElem_of_mem hp
      exact hall j _ hj (List.getElem?_eq_getElem hj)
    refine awp_exit ?_; (repeat (first | refine then_exit ?_ | refine inblock_other (by decide) ?_)); refine inblock_same ?_
    refine awp_seq ?_
    refine awpF_region ?_; intro K hK; simp only [push_cast, seval]; (try simp (disch := omega) only [wrapI]); (repeat ((with_reducible refine And.intro ?_ ?_); (focus (exact ob1)))); refine hK _ ?_; clear hK; clear K
    refine awp_ret ?_; (repeat (first | refine then_ret ?_ | refine inblock_ret ?_)); refine fin_of (by simp only [push_cast, seval]; first | done | rfl) ob1 ?_
    rw [shifts, if_neg (by simp [hc']), if_neg (by simp [hg]), if_pos hok]
    refine deep_tup2 ?_ (.d _)
    have h := deep_pts (H := [.cells [.d (.int .i64 x), .d (.int .i64 y)], .data 3 (((ps.take ps.length).map (sh x y)).map encP)]) (id := 1) (l := ps.map (sh x y)) (by rw [List.take_length]; rfl)
    rw [List.length_map] at h
    exact h

end Go.Aw

namespace Go.Aw
set_option linter.unusedSimpArgs false
set_option linter.unusedVariables false
open Go.RowKit Go.Proofs Go.Seg

theorem p105 (x : Int) : PD Tryz.prog 72 [.int .i64 x] (.d (.bool false)) := by
  refine pd_of (fn := Tryz.f72) [.tmp 2] (by kernel_rfl) rfl (by kernel_rfl) (Nat.le_of_ble_eq_true rfl) (by kernel_rfl) rfl rfl ?_
  refine awp_seq ?_
  refine awpF_region ?_; intro K hK; simp only [push_cast, seval]; (try simp (disch := omega) only [wrapI]); (repeat ((with_reducible refine And.intro ?_ ?_); (focus (exact ob1)))); refine hK _ ?_; clear hK; clear K
  refine awp_seq ?_
  refine awpF_region ?_; intro K hK; simp only [push_cast, seval]; (try simp (disch := omega) only [wrapI]); (repeat ((with_reducible refine And.intro ?_ ?_); (focus (exact ob1)))); refine hK _ ?_; clear hK; clear K
  refine awp_ret ?_; (repeat (first | refine then_ret ?_ | refine inblock_ret ?_)); refine fin_of (by simp only [push_cast, seval]; first | done | rfl) ob1 ?_
  simp

def cmp3 (a b : Int) : Int := if a < b then -1 else if a > b then 1 else 0

theorem p69 (a b : Int) : PD Tryz.prog 52 [.int .i64 a, .int .i64 b] (.d (.int .i64 (cmp3 a b))) := by
  refine pd_of (fn := Tryz.f52) [.tmp 4] (by kernel_rfl) rfl (by kernel_rfl) (Nat.le_of_ble_eq_true rfl) (by kernel_rfl) rfl rfl ?_
  refine awp_seq ?_
  refine awpF_region ?_; intro K hK; simp only [push_cast, seval]; (try simp (disch := omega) only [wrapI]); (repeat ((with_reducible refine And.intro ?_ ?_); (focus (exact ob1)))); refine hK _ ?_; clear hK; clear K
  refine awp_seq ?_
  refine awpF_region ?_; intro K hK; simp only [push_cast, seval]
  (repeat ((with_reducible refine And.intro ?_ ?_); (focus (exact ob1))))
  refine CallK.pd (p105 _) ?_; simp only [push_cast, seval]; (try simp (disch := omega) only [wrapI]); (repeat ((with_reducible refine And.intro ?_ ?_); (focus (exact ob1))))
  refine hK _ ?_; clear hK; clear K
  refine awp_seq ?_
  refine awpF_region ?_; intro K hK; simp only [push_cast, seval]
  (repeat ((with_reducible refine And.intro ?_ ?_); (focus (exact ob1))))
  refine CallK.pd (p105 _) ?_; simp only [push_cast, seval]; (try simp (disch := omega) only [wrapI]); (repeat ((with_reducible refine And.intro ?_ ?_); (focus (exact ob1))))
  refine hK _ ?_; clear hK; clear K
  refine awp_seq ?_
  refine awp_seq ?_
  refine awpF_region ?_; intro K hK; simp only [push_cast, seval]; (try simp (disch := omega) only [wrapI]); (repeat ((with_reducible refine And.intro ?_ ?_); (focus (exact ob1)))); refine hK _ ?_; clear hK; clear K
  apply awp_cond; (focus (simp only [push_cast, seval]; rfl))
  · intro h1; (try simp only [decide_eq_true_eq, decide_eq_false_iff_not, Bool.not_eq_true', Bool.not_eq_false', Bool.and_eq_true, Bool.or_eq_true, Bool.not_eq_true] at h1)
    cases h1
  intro h1; (try simp only [decide_eq_true_eq, decide_eq_false_iff_not, Bool.not_eq_true', Bool.not_eq_false', Bool.and_eq_true, Bool.or_eq_true, Bool.not_eq_true] at h1)
  refine awp_skip ?_
  refine awp_seq ?_
  refine awp_seq ?_
  refine awpF_region ?_; intro K hK; simp only [push_cast, seval]; (try simp (disch := omega) only [wrapI]); (repeat ((with_reducible refine And.intro ?_ ?_); (focus (exact ob1)))); refine hK _ ?_; clear hK; clear K
  apply awp_cond; (focus (simp only [push_cast, seval]; rfl))
  · intro h2; (try simp only [decide_eq_true_eq, decide_eq_false_iff_not, Bool.not_eq_true', Bool.not_eq_false', Bool.and_eq_true, Bool.or_eq_true, Bool.not_eq_true] at h2)
    cases h2
  intro h2; (try simp only [decide_eq_true_eq, decide_eq_false_iff_not, Bool.not_eq_true', Bool.not_eq_false', Bool.and_eq_true, Bool.or_eq_true, Bool.not_eq_true] at h2)
  refine awp_skip ?_
  refine awp_seq ?_
  refine awp_seq ?_
  refine awpF_region ?_; intro K hK; simp only [push_cast, seval]; (try simp (disch := omega) only [wrapI]); (repeat ((with_reducible refine And.intro ?_ ?_); (focus (exact ob1)))); refine hK _ ?_; clear hK; clear K
  apply awp_cond; (focus (simp only [push_cast, seval]; rfl))
  · intro h3; (try simp only [decide_eq_true_eq, decide_eq_false_iff_not, Bool.not_eq_true', Bool.not_eq_false', Bool.and_eq_true, Bool.or_eq_true, Bool.not_eq_true] at h3)
    refine awp_seq ?_
    refine awpF_region ?_; intro K hK; simp only [push_cast, seval]; (try simp (disch := omega) only [wrapI]); (repeat ((with_reducible refine And.intro ?_ ?_); (focus (exact ob1)))); refine hK _ ?_; clear hK; clear K
    refine awp_ret ?_; (repeat (first | refine then_ret ?_ | refine inblock_ret ?_)); refine fin_of (by simp only [push_cast, seval]; first | done | rfl) ob1 ?_
    simp [cmp3, h3]
  intro h3; (try simp only [decide_eq_true_eq, decide_eq_false_iff_not, Bool.not_eq_true', Bool.not_eq_false', Bool.and_eq_true, Bool.or_eq_true, Bool.not_eq_true] at h3)
  refine awp_skip ?_
  refine awp_seq ?_
  refine awp_seq ?_
  refine awpF_region ?_; intro K hK; simp only [push_cast, seval]; (try simp (disch := omega) only [wrapI]); (repeat ((with_reducible refine And.intro ?_ ?_); (focus (exact ob1)))); refine hK _ ?_; clear hK; clear K
  apply awp_cond; (focus (simp only [push_cast, seval]; rfl))
  · intro h4; (try simp only [decide_eq_true_eq, decide_eq_false_iff_not, Bool.not_eq_true', Bool.not_eq_false', Bool.and_eq_true, Bool.or_eq_true, Bool.not_eq_true] at h4)
    refine awp_seq ?_
    refine awpF_region ?_; intro K hK; simp only [push_cast, seval]; (try simp (disch := omega) only [wrapI]); (repeat ((with_reducible refine And.intro ?_ ?_); (focus (exact ob1)))); refine hK _ ?_; clear hK; clear K
    refine awp_ret ?_; (repeat (first | refine then_ret ?_ | refine inblock_ret ?_)); refine fin_of (by simp only [push_cast, seval]; first | done | rfl) ob1 ?_
    simp [cmp3, h3]
    omega
  intro h4; (try simp only [decide_eq_true_eq, decide_eq_false_iff_not, Bool.not_eq_true', Bool.not_eq_false', Bool.and_eq_true, Bool.or_eq_true, Bool.not_eq_true] at h4)
  refine awp_skip ?_
  refine awp_seq ?_
  refine awpF_region ?_; intro K hK; simp only [push_cast, seval]; (try simp (disch := omega) only [wrapI]); (repeat ((with_reducible refine And.intro ?_ ?_); (focus (exact ob1)))); refine hK _ ?_; clear hK; clear K
  refine awp_ret ?_; (repeat (first | refine then_ret ?_ | refine inblock_ret ?_)); refine fin_of (by simp only [push_cast, seval]; first | done | rfl) ob1 ?_
  simp [cmp3, h3]
  omega

def cor (l : List Int) : Int := match l with
  | [] => 0
  | x :: r => if x ≠ 0 then x else cor r

theorem cor_all {l : List Int} (h : ∀ x, x ∈ l → x = 0) : cor l = 0 := by
  induction l with
  | nil => rfl
  | cons x r ih => simp [cor, h x (by simp), ih fun y hy => h y (by simp [hy])]
theorem cor_at : ∀ {l : List Int} {i : Nat} {x : Int}, l[i]? = some x → x ≠ 0 → (∀ j y, j < i → l[j]? = some y → y = 0) → cor l = x
  | [], i, x, h, _, _ => by simp at h
  | y :: l, 0, x, h, hx, _ => by simp at h; subst h; simp [cor, hx]
  | y :: l, i + 1, x, h, hx, hz => by
    have h0 := hz 0 y (by omega) rfl
    simp only [cor, h0, ne_eq, not_true, if_false]
    exact cor_at (i := i) (by simpa using h) hx fun j z hj hz' => hz (j + 1) z (by omega) (by simpa using hz')

theorem p68 (l : List Int) (hn : l.length ≤ 1000000) : PD Tryz.prog 51 [.sl (l.map encI)] (.d (.int .i64 (cor l))) := by
  refine pd_of (fn := Tryz.f51) [.tmp 2] (by kernel_rfl) rfl (by kernel_rfl) (Nat.le_of_ble_eq_true rfl) (by kernel_rfl) rfl rfl ?_
  refine awp_seq ?_
  refine awpF_region ?_; intro K hK; simp only [push_cast, seval]; (try simp (disch := omega) only [wrapI]); (repeat ((with_reducible refine And.intro ?_ ?_); (focus (exact ob1)))); refine hK _ ?_; clear hK; clear K
  refine awp_seq ?_
  refine awpF_region ?_; intro K hK; simp only [push_cast, seval]; (try simp (disch := omega) only [wrapI]); (repeat ((with_reducible refine And.intro ?_ ?_); (focus (exact ob1)))); refine hK _ ?_; clear hK; clear K
  refine awp_seq ?_
  refine awp_seq ?_
  refine awpF_region ?_; intro K hK; simp only [push_cast, seval]; (try simp (disch := omega) only [wrapI]); (repeat ((with_reducible refine And.intro ?_ ?_); (focus (exact ob1)))); refine hK _ ?_; clear hK; clear K
  refine awp_block ?_
  refine awp_loopP (st := fun (x : Nat) => ⟨[(3, .d (.int .i64 0)), (6, .d (.sl (l.map encI))), (7, .d (.int .i64 l.length)), (8, .d (.int .i64 x))], []⟩)
    (inv := fun x => x ≤ l.length ∧ ∀ j y, j < x → l[j]? = some y → y = 0) (μ := fun x => l.length - x) (x0 := 0) (r0 := []) ?_ ?_ ?_
  · exact ⟨Nat.zero_le _, fun j p h => by omega⟩
  · exact ⟨by simp, by simp, by simp [push_cast, seval], by simp [push_cast, seval], by simp [push_cast, seval], by simp [push_cast, seval]⟩
  rintro i ⟨hi, hno⟩
  refine awp_seq ?_
  refine awpF_region ?_; intro K hK; simp only [push_cast, seval]; (try simp (disch := omega) only [wrapI]); (repeat ((with_reducible refine And.intro ?_ ?_); (focus (exact ob1)))); refine hK _ ?_; clear hK; clear K
  refine awp_seq ?_
  apply awp_cond; (focus (simp only [push_cast, seval]; rfl))
  · intro h1; (try simp only [decide_eq_true_eq, decide_eq_false_iff_not, Bool.not_eq_true', Bool.not_eq_false', Bool.and_eq_true, Bool.or_eq_true, Bool.not_eq_true] at h1)
    have hlt : i < l.length := by omega
    obtain ⟨x, hx⟩ : ∃ x, l[i]? = some x := ⟨_, List.getElem?_eq_getElem hlt⟩
    refine awp_skip ?_
    refine awp_seq ?_
    refine awp_block ?_
    refine awp_seq ?_
    refine awpF_region ?_; intro K hK; simp only [push_cast, seval, hx, encI]; (try simp (disch := omega) only [wrapI]); (repeat ((with_reducible refine And.intro ?_ ?_); (focus (exact ob1)))); refine hK _ ?_; clear hK; clear K
    refine awp_seq ?_
    refine awpF_region ?_; intro K hK; simp only [push_cast, seval]; (try simp (disch := omega) only [wrapI]); (repeat ((with_reducible refine And.intro ?_ ?_); (focus (exact ob1)))); refine hK _ ?_; clear hK; clear K
    apply awp_cond; (focus (simp only [push_cast, seval]; rfl))
    · intro h2; (try simp only [decide_eq_true_eq, decide_eq_false_iff_not, Bool.not_eq_true', Bool.not_eq_false', Bool.and_eq_true, Bool.or_eq_true, Bool.not_eq_true] at h2)
      refine awp_seq ?_
      refine awpF_region ?_; intro K hK; simp only [push_cast, seval]; (try simp (disch := omega) only [wrapI]); (repeat ((with_reducible refine And.intro ?_ ?_); (focus (exact ob1)))); refine hK _ ?_; clear hK; clear K
      refine awp_ret ?_; (repeat (first | refine then_ret ?_ | refine inblock_ret ?_)); refine fin_of (by simp only [push_cast, seval]; first | done | rfl) ob1 ?_
      rw [cor_at hx (by simpa using h2) hno]
    · intro h2; (try simp only [decide_eq_true_eq, decide_eq_false_iff_not, Bool.not_eq_true', Bool.not_eq_false', Bool.and_eq_true, Bool.or_eq_true, Bool.not_eq_true] at h2)
      refine awp_skip ?_
      refine awpF_region ?_; intro K hK; simp only [push_cast, seval]; (try simp (disch := omega) only [wrapI]); (repeat ((with_reducible refine And.intro ?_ ?_); (focus (exact ob1)))); refine hK _ ?_; clear hK; clear K
      refine round_endG (i + 1) [] ⟨?_, ⟨hlt, fun j y hj hy => ?_⟩, ?_⟩
      · omega
      · rcases Nat.lt_or_ge j i with h | h
        · exact hno j y h hy
        · have : j = i := by omega
          subst this
          rw [hx] at hy
          cases hy
          simpa using h2
      · exact ⟨by simp, by simp, by simp [push_cast, seval], by simp [push_cast, seval], by simp [push_cast, seval], by simp [push_cast, seval]⟩
  · intro h1; (try simp only [decide_eq_true_eq, decide_eq_false_iff_not, Bool.not_eq_true', Bool.not_eq_false', Bool.and_eq_true, Bool.or_eq_true, Bool.not_eq_true] at h1)
    have hie : i = l.length := by omega
    subst hie
    refine awp_exit ?_; (repeat (first | refine then_exit ?_ | refine inblock_other (by decide) ?_)); refine inblock_same ?_
    refine awp_seq ?_
    refine awpF_region ?_; intro K hK; simp only [push_cast, seval]; (try simp (disch := omega) only [wrapI]); (repeat ((with_reducible refine And.intro ?_ ?_); (focus (exact ob1)))); refine hK _ ?_; clear hK; clear K
    refine awp_ret ?_; (repeat (first | refine then_ret ?_ | refine inblock_ret ?_)); refine fin_of (by simp only [push_cast, seval]; first | done | rfl) ob1 ?_
    rw [cor_all fun x hx => by
      obtain ⟨j, hj, rfl⟩ := List.getElem_of_mem hx
      exact hno j _ hj (List.getElem?_eq_getElem hj)]

def ord (a b c d : Int) : Int := cor [cmp3 a c, cmp3 b d]

theorem p70 (a b c d : Int) : PD Tryz.prog 30 [.agg [.int .i64 a, .int .i64 b], .agg [.int .i64 c, .int .i64 d]] (.d (.int .i64 (ord a b c d))) := by
  have h68 := p68 [cmp3 a c, cmp3 b d] (by simp)
  simp only [List.map_cons, List.map_nil, encI] at h68
  refine pd_of (fn := Tryz.f30) [.tmp 4] (by kernel_rfl) rfl (by kernel_rfl) (Nat.le_of_ble_eq_true rfl) (by kernel_rfl) rfl rfl ?_
  refine awp_seq ?_
  refine awpF_region ?_; intro K hK; simp only [push_cast, seval]; (try simp (disch := omega) only [wrapI]); (repeat ((with_reducible refine And.intro ?_ ?_); (focus (exact ob1)))); refine hK _ ?_; clear hK; clear K
  refine awp_seq ?_
  refine awpF_draw [0,1,2,3,5,6,7,8,4,9,10,11,12] (by kernel_rfl) (by kernel_rfl) rfl ?_; intro K hK; simp only [push_cast, seval]
  (repeat ((with_reducible refine And.intro ?_ ?_); (focus (exact ob1))))
  refine CallK.pd (p69 _ _) ?_; simp only [push_cast, seval]; (try simp (disch := omega) only [wrapI]); (repeat ((with_reducible refine And.intro ?_ ?_); (focus (exact ob1))))
  refine CallK.pd (p69 _ _) ?_; simp only [push_cast, seval]; (try simp (disch := omega) only [wrapI]); (repeat ((with_reducible refine And.intro ?_ ?_); (focus (exact ob1))))
  refine CallK.pd (h68) ?_; simp only [push_cast, seval]; (try simp (disch := omega) only [wrapI]); (repeat ((with_reducible refine And.intro ?_ ?_); (focus (exact ob1))))
  refine hK _ ?_; clear hK; clear K
  refine awp_ret ?_; (repeat (first | refine then_ret ?_ | refine inblock_ret ?_)); refine fin_of (by simp only [push_cast, seval]; first | done | rfl) ob1 ?_
  rfl

def far0 (x y : Int) : Int := max x (-x) + max y (-y)

theorem p66 (x y : Int) (hx : -100000000 ≤ x ∧ x ≤ 100000000) (hy : -100000000 ≤ y ∧ y ≤ 100000000) : PD Tryz.prog 49 [.agg [.int .i64 x, .int .i64 y]] (.d (.int .i64 (far0 x y))) := by
  refine pd_of (fn := Tryz.f49) [.tmp 2] (by kernel_rfl) rfl (by kernel_rfl) (Nat.le_of_ble_eq_true rfl) (by kernel_rfl) rfl rfl ?_
  refine awp_seq ?_
  refine awpF_region ?_; intro K hK; simp only [push_cast, seval]; (try simp (disch := omega) only [wrapI]); (repeat ((with_reducible refine And.intro ?_ ?_); (focus (exact ob1)))); refine hK _ ?_; clear hK; clear K
  refine awp_seq ?_
  refine awpF_region ?_; intro K hK; simp only [push_cast, seval]
  rw [wrapI (0 - x) (by omega), wrapI (0 - y) (by omega), wrapI _ (by omega)]
  (repeat ((with_reducible refine And.intro ?_ ?_); (focus (exact ob1))))
  refine hK _ ?_; clear hK; clear K
  refine awp_ret ?_; (repeat (first | refine then_ret ?_ | refine inblock_ret ?_)); refine fin_of (by simp only [push_cast, seval]; first | done | rfl) ob1 ?_
  simp [far0]
end Go.Aw

namespace Go.Rg
set_option linter.unusedSimpArgs false
set_option linter.unusedVariables false
open Go.Aw

abbrev Sp := Int × Int

def better (n : Int) (d : Sp) (m : Int) (e : Sp) : Prop := n > m ∨ n = m ∧ (far0 d.1 d.2 < far0 e.1 e.2 ∨ far0 d.1 d.2 = far0 e.1 e.2 ∧ (d.1 < e.1 ∨ d.1 = e.1 ∧ d.2 < e.2))

instance (n : Int) (d : Sp) (m : Int) (e : Sp) : Decidable (better n d m e) := by unfold better; infer_instance

theorem better_irrefl (n : Int) (d : Sp) : ¬ better n d n d := by unfold better; omega
theorem better_trans {n m k : Int} {d e f : Sp} (h1 : better n d m e) (h2 : better m e k f) : better n d k f := by
  unfold better at *; omega
theorem better_total {n m : Int} {d e : Sp} (h1 : ¬ better n d m e) (h2 : ¬ better m e n d) : n = m ∧ d = e := by
  unfold better at *
  have h3 : d.1 = e.1 := by omega
  have h4 : d.2 = e.2 := by omega
  exact ⟨by omega, Prod.ext h3 h4⟩

def Best (c : Sp → Int) (l : List Sp) (d : Sp) : Prop := d ∈ l ∧ ∀ e, e ∈ l → ¬ better (c e) e (c d) d

theorem Best.unique {c : Sp → Int} {l l' : List Sp} {d e : Sp} (h1 : Best c l d) (h2 : Best c l' e) (h : ∀ x, x ∈ l ↔ x ∈ l') : d = e :=
  (better_total (h2.2 d ((h d).1 h1.1)) (h1.2 e ((h e).2 h2.1))).2
theorem Best.one (c : Sp → Int) (d : Sp) : Best c [d] d := ⟨by simp, fun e he => by simp at he; subst he; exact better_irrefl _ _⟩
theorem Best.same {c : Sp → Int} {l l' : List Sp} {d : Sp} (h1 : Best c l d) (h : ∀ x, x ∈ l' ↔ x ∈ l) : Best c l' d := ⟨(h d).2 h1.1, fun e he => h1.2 e ((h e).1 he)⟩
theorem Best.snoc_new {c : Sp → Int} {l : List Sp} {d e : Sp} (h : Best c l d) (hb : better (c e) e (c d) d) : Best c (l ++ [e]) e := by
  refine ⟨by simp, fun x hx => ?_⟩
  rcases List.mem_append.1 hx with hx | hx
  · exact fun hn => h.2 x hx (better_trans hn hb)
  · simp at hx; subst hx; exact better_irrefl _ _
theorem Best.snoc_old {c : Sp → Int} {l : List Sp} {d e : Sp} (h : Best c l d) (hb : ¬ better (c e) e (c d) d) : Best c (l ++ [e]) d := by
  refine ⟨by simp [h.1], fun x hx => ?_⟩
  rcases List.mem_append.1 hx with hx | hx
  · exact h.2 x hx
  · simp at hx; subst hx; exact hb

def bestOf (c : Sp → Int) : List Sp → Sp → Sp
  | [], d => d
  | e :: l, d => bestOf c l (if better (c e) e (c d) d then e else d)
theorem bestOf_best (c : Sp → Int) : ∀ (l s : List Sp) (d : Sp), Best c s d → Best c (s ++ l) (bestOf c l d)
  | [], s, d, h => by simpa [bestOf] using h
  | e :: l, s, d, h => by
    have : s ++ e :: l = (s ++ [e]) ++ l := by simp
    rw [this, bestOf]
    apply bestOf_best
    split
    · rename_i hb; exact h.snoc_new hb
    · rename_i hb; exact h.snoc_old hb

def inW (w : Int) (d : Sp) : Prop := -w ≤ d.1 ∧ d.1 ≤ w ∧ -w ≤ d.2 ∧ d.2 ≤ w
instance (w : Int) (d : Sp) : Decidable (inW w d) := by unfold inW; infer_instance
def diff (p q : Pt) : Sp := (p.1 - q.1, p.2.1 - q.2.1)
def row (w : Int) (p : Pt) (b : List Pt) : List Sp := (b.map (diff p)).filter fun d => decide (inW w d)
def cands (w : Int) (a b : List Pt) : List Sp := (0, 0) :: a.flatMap fun p => row w p b

theorem row_snoc (w : Int) (p q : Pt) (b : List Pt) : row w p (b ++ [q]) = row w p b ++ (if inW w (diff p q) then [diff p q] else []) := by
  simp only [row, List.map_append, List.filter_append, List.map_cons, List.map_nil, List.filter_cons, List.filter_nil]
  congr 1
  by_cases h : inW w (diff p q) <;> simp [h]
theorem cands_snoc (w : Int) (a b : List Pt) (p : Pt) : cands w (a ++ [p]) b = cands w a b ++ row w p b := by
  simp [cands, List.flatMap_append]

def upto (w : Int) (a b : List Pt) (i k : Nat) : List Sp := cands w (a.take i) b ++ (match a[i]? with | some p => row w p (b.take k) | none => [])
theorem upto_zero (w : Int) (a b : List Pt) (i : Nat) : upto w a b i 0 = cands w (a.take i) b := by
  unfold upto
  split <;> simp [row]
theorem upto_end {w : Int} {a b : List Pt} {i : Nat} (h : i < a.length) : upto w a b i b.length = cands w (a.take (i + 1)) b := by
  unfold upto
  rw [List.getElem?_eq_getElem h, List.take_length, List.take_add_one, List.getElem?_eq_getElem h]
  simp only [Option.toList]
  rw [cands_snoc]
theorem upto_in {w : Int} {a b : List Pt} {i k : Nat} {p q : Pt} (hp : a[i]? = some p) (hq : b[k]? = some q) (h : inW w (diff p q)) : upto w a b i (k + 1) = upto w a b i k ++ [diff p q] := by
  simp only [upto, hp, List.take_add_one, hq, Option.toList]
  rw [row_snoc, if_pos h, List.append_assoc]
theorem upto_out {w : Int} {a b : List Pt} {i k : Nat} {p q : Pt} (hp : a[i]? = some p) (hq : b[k]? = some q) (h : ¬ inW w (diff p q)) : upto w a b i (k + 1) = upto w a b i k := by
  simp only [upto, hp, List.take_add_one, hq, Option.toList]
  rw [row_snoc, if_neg h, List.append_nil]
theorem cands_bnd {w : Int} (hw : 0 ≤ w) {a b : List Pt} {d : Sp} (h : d ∈ cands w a b) : inW w d := by
  simp only [cands, List.mem_cons, List.mem_flatMap, row, List.mem_filter] at h
  rcases h with rfl | ⟨p, _, _, h⟩
  · unfold inW; omega
  · exact of_decide_eq_true h
theorem upto_bnd {w : Int} (hw : 0 ≤ w) {a b : List Pt} {i k : Nat} {d : Sp} (h : d ∈ upto w a b i k) : inW w d := by
  unfold upto at h
  rcases List.mem_append.1 h with h | h
  · exact cands_bnd hw h
  · split at h
    · simp only [row, List.mem_filter] at h; exact of_decide_eq_true h.2
    · cases h

def ins (l : List Sp) (d : Sp) : List Sp := if d ∈ l then l else l ++ [d]
theorem mem_ins {l : List Sp} {d e : Sp} : e ∈ ins l d ↔ e ∈ l ∨ e = d := by
  unfold ins
  split
  · rename_i h; constructor
    · exact .inl
    · rintro (h1 | rfl)
      · exact h1
      · exact h
  · simp
theorem nd_ins {l : List Sp} {d : Sp} (h : l.Nodup) : (ins l d).Nodup := by
  unfold ins
  split
  · exact h
  · rename_i hd
    rw [List.nodup_append]
    exact ⟨h, by simp, fun a ha b hb => by simp at hb; subst hb; rintro rfl; exact hd ha⟩
def setOf (l : List Sp) : List Sp := l.foldl ins []
theorem setOf_snoc (l : List Sp) (d : Sp) : setOf (l ++ [d]) = ins (setOf l) d := by simp [setOf]
theorem mem_setOf (d : Sp) : ∀ (l : List Sp), d ∈ setOf l ↔ d ∈ l := by
  have key : ∀ (l s : List Sp), d ∈ l.foldl ins s ↔ d ∈ s ∨ d ∈ l := by
    intro l
    induction l with
    | nil => intro s; simp
    | cons x l ih => intro s; simp only [List.foldl_cons, ih, mem_ins, List.mem_cons, or_assoc]
  intro l
  simp [setOf, key]
theorem nd_setOf (l : List Sp) : (setOf l).Nodup := by
  have key : ∀ (l s : List Sp), s.Nodup → (l.foldl ins s).Nodup := by
    intro l
    induction l with
    | nil => intro s h; exact h
    | cons x l ih => intro s h; exact ih _ (nd_ins h)
  exact key l [] List.nodup_nil
theorem len_setOf (l : List Sp) : (setOf l).length ≤ l.length := by
  have key : ∀ (l s : List Sp), (l.foldl ins s).length ≤ s.length + l.length := by
    intro l
    induction l with
    | nil => intro s; simp
    | cons x l ih =>
      intro s
      have := ih (ins s x)
      have h2 : (ins s x).length ≤ s.length + 1 := by unfold ins; split <;> simp
      simp only [List.foldl_cons, List.length_cons]
      omega
  simpa [setOf] using key l []

end Go.Rg

namespace Go.Aw
set_option linter.unusedSimpArgs false
set_option linter.unusedVariables false
open Go.RowKit Go.Proofs Go.Seg

def hit (x y slack : Int) (p q : Pt) : Bool := decide (p.1 + x - q.1 ≤ slack ∧ -slack ≤ p.1 + x - q.1 ∧ p.2.1 + y - q.2.1 ≤ slack ∧ -slack ≤ p.2.1 + y - q.2.1)

theorem p104 (p q : Pt) (x y slack : Int) (hp : fair p.1 p.2.1 = true) (hq : fair q.1 q.2.1 = true) (hf : farV x y = false) :
    PD Tryz.prog 71 [.agg (encP q), .cp (encP p) 0, .cp [.int .i64 x, .int .i64 y] 0, .cp [.int .i64 slack] 0] (.d (.bool (hit x y slack p q))) := by
  have h1 := fair_iff.1 hp
  have h2 := fair_iff.1 hq
  have h3 : -33554432 ≤ x ∧ x ≤ 33554432 ∧ -33554432 ≤ y ∧ y ≤ 33554432 := by simp [farV] at hf; omega
  simp only [encP]
  refine pd_of (fn := Tryz.f71) [.tmp 5] (by kernel_rfl) rfl (by kernel_rfl) (Nat.le_of_ble_eq_true rfl) (by kernel_rfl) rfl rfl ?_
  refine awp_seq ?_
  refine awpF_region ?_; intro K hK; simp only [push_cast, seval]; (try simp (disch := omega) only [wrapI]); (repeat ((with_reducible refine And.intro ?_ ?_); (focus (exact ob1)))); refine hK _ ?_; clear hK; clear K
  refine awp_seq ?_
  refine awpF_draw [0,1,2,3,4,5,6,7,8,9,10,11,12,13,14,15,16,17] (by kernel_rfl) (by kernel_rfl) rfl ?_; intro K hK; simp only [push_cast, seval]
  (try simp (disch := omega) only [wrapI])
  (repeat ((with_reducible refine And.intro ?_ ?_); (focus (exact ob1))))
  refine hK _ ?_; clear hK; clear K
  refine awp_seq ?_
  refine awpF_region ?_; intro K hK; simp only [push_cast, seval]; (try simp (disch := omega) only [wrapI]); (repeat ((with_reducible refine And.intro ?_ ?_); (focus (exact ob1)))); refine hK _ ?_; clear hK; clear K
  refine awp_ret ?_; (repeat (first | refine then_ret ?_ | refine inblock_ret ?_)); refine fin_of (by simp only [push_cast, seval]; first | done | rfl) ob1 ?_
  congr 2
  unfold hit
  rw [Bool.eq_iff_iff]
  simp
  omega

theorem p121 (ps : List Pt) (f : FuncId) (caps : List D) (is : Pt → Bool) (hn : ps.length ≤ 1000000) (hf : ∀ (i : Nat) (p : Pt), ps[i]? = some p → PD Tryz.prog f (.agg (encP p) :: caps) (.d (.bool (is p)))) :
    PD Tryz.prog 92 [.sl (ps.map encP), .fn (.func f) caps] (.d (.int .i64 (match ps.findIdx? is with | some i => (i : Int) | none => -1))) := by
  refine pd_of (fn := Tryz.f92) [.tmp 4] (by kernel_rfl) rfl (by kernel_rfl) (Nat.le_of_ble_eq_true rfl) (by kernel_rfl) rfl rfl ?_
  refine awp_seq ?_
  refine awpF_region ?_; intro K hK; simp only [push_cast, seval]; (try simp (disch := omega) only [wrapI]); (repeat ((with_reducible refine And.intro ?_ ?_); (focus (exact ob1)))); refine hK _ ?_; clear hK; clear K
  refine awp_seq ?_
  refine awp_seq ?_
  refine awpF_region ?_; intro K hK; simp only [push_cast, seval]; (try simp (disch := omega) only [wrapI]); (repeat ((with_reducible refine And.intro ?_ ?_); (focus (exact ob1)))); refine hK _ ?_; clear hK; clear K
  refine awp_block ?_
  refine awp_loopP (st := fun (x : Nat) => ⟨[(0, .d (.sl (ps.map encP))), (1, .d (.fn (.func f) caps)), (7, .d (.int .i64 ps.length)), (8, .d (.int .i64 x))], []⟩)
    (inv := fun x => x ≤ ps.length ∧ ∀ j p, j < x → ps[j]? = some p → is p = false) (μ := fun x => ps.length - x) (x0 := 0) (r0 := []) ?_ ?_ ?_
  · exact ⟨Nat.zero_le _, fun j p h => by omega⟩
  · exact ⟨by simp, by simp, by simp [push_cast, seval], by simp [push_cast, seval], by simp [push_cast, seval], by simp [push_cast, seval]⟩
  rintro i ⟨hi, hno⟩
  refine awp_seq ?_
  refine awpF_region ?_; intro K hK; simp only [push_cast, seval]; (try simp (disch := omega) only [wrapI]); (repeat ((with_reducible refine And.intro ?_ ?_); (focus (exact ob1)))); refine hK _ ?_; clear hK; clear K
  refine awp_seq ?_
  apply awp_cond; (focus (simp only [push_cast, seval]; rfl))
  · intro h1; (try simp only [decide_eq_true_eq, decide_eq_false_iff_not, Bool.not_eq_true', Bool.not_eq_false', Bool.and_eq_true, Bool.or_eq_true, Bool.not_eq_true] at h1)
    have hlt : i < ps.length := by omega
    obtain ⟨p, hp⟩ : ∃ p, ps[i]? = some p := ⟨_, List.getElem?_eq_getElem hlt⟩
    have h121 := hf i p hp
    rw [encP] at h121
    refine awp_skip ?_
    refine awp_seq ?_
    refine awp_block ?_
    refine awp_seq ?_
    refine awpF_region ?_; intro K hK; simp only [push_cast, seval]; (try simp (disch := omega) only [wrapI]); (repeat ((with_reducible refine And.intro ?_ ?_); (focus (exact ob1)))); refine hK _ ?_; clear hK; clear K
    refine awp_seq ?_
    refine awpF_region ?_; intro K hK; simp only [push_cast, seval, dVs_map, hp, encP]
    (repeat ((with_reducible refine And.intro ?_ ?_); (focus (exact ob1))))
    refine CallK.pd (h121) ?_; simp only [push_cast, seval]; (try simp (disch := omega) only [wrapI]); (repeat ((with_reducible refine And.intro ?_ ?_); (focus (exact ob1))))
    refine hK _ ?_; clear hK; clear K
    apply awp_cond; (focus (simp only [push_cast, seval]; rfl))
    · intro h2; (try simp only [decide_eq_true_eq, decide_eq_false_iff_not, Bool.not_eq_true', Bool.not_eq_false', Bool.and_eq_true, Bool.or_eq_true, Bool.not_eq_true] at h2)
      refine awp_seq ?_
      refine awpF_region ?_; intro K hK; simp only [push_cast, seval]; (try simp (disch := omega) only [wrapI]); (repeat ((with_reducible refine And.intro ?_ ?_); (focus (exact ob1)))); refine hK _ ?_; clear hK; clear K
      refine awp_ret ?_; (repeat (first | refine then_ret ?_ | refine inblock_ret ?_)); refine fin_of (by simp only [push_cast, seval]; first | done | rfl) ob1 ?_
      have : ps.findIdx? is = some i := by
        rw [List.findIdx?_eq_some_iff_getElem]
        refine ⟨hlt, ?_, fun j hj => ?_⟩
        · rw [List.getElem?_eq_getElem hlt] at hp
          cases hp
          exact h2
        · have := hno j _ hj (List.getElem?_eq_getElem (by omega))
          simp [this]
      rw [this]
    · intro h2; (try simp only [decide_eq_true_eq, decide_eq_false_iff_not, Bool.not_eq_true', Bool.not_eq_false', Bool.and_eq_true, Bool.or_eq_true, Bool.not_eq_true] at h2)
      refine awp_skip ?_
      refine awpF_region ?_; intro K hK; simp only [push_cast, seval]; (try simp (disch := omega) only [wrapI]); (repeat ((with_reducible refine And.intro ?_ ?_); (focus (exact ob1)))); refine hK _ ?_; clear hK; clear K
      refine round_endG (i + 1) [] ⟨?_, ⟨hlt, fun j q hj hq => ?_⟩, ?_⟩
      · omega
      · rcases Nat.lt_or_ge j i with h | h
        · exact hno j q h hq
        · have : j = i := by omega
          subst this
          rw [hp] at hq
          cases hq
          simpa using h2
      · exact ⟨by simp, by simp, by simp [push_cast, seval], by simp [push_cast, seval], by simp [push_cast, seval], by simp [push_cast, seval]⟩
  · intro h1; (try simp only [decide_eq_true_eq, decide_eq_false_iff_not, Bool.not_eq_true', Bool.not_eq_false', Bool.and_eq_true, Bool.or_eq_true, Bool.not_eq_true] at h1)
    have hie : i = ps.length := by omega
    subst hie
    refine awp_exit ?_; (repeat (first | refine then_exit ?_ | refine inblock_other (by decide) ?_)); refine inblock_same ?_
    refine awp_seq ?_
    refine awpF_region ?_; intro K hK; simp only [push_cast, seval]; (try simp (disch := omega) only [wrapI]); (repeat ((with_reducible refine And.intro ?_ ?_); (focus (exact ob1)))); refine hK _ ?_; clear hK; clear K
    refine awp_ret ?_; (repeat (first | refine then_ret ?_ | refine inblock_ret ?_)); refine fin_of (by simp only [push_cast, seval]; first | done | rfl) ob1 ?_
    have : ps.findIdx? is = none := by
      rw [List.findIdx?_eq_none_iff]
      intro p hp
      obtain ⟨j, hj, rfl⟩ := List.getElem_of_mem hp
      exact hno j _ hj (List.getElem?_eq_getElem hj)
    rw [this]

theorem p103 (ps : List Pt) (f : FuncId) (caps : List D) (is : Pt → Bool) (hn : ps.length ≤ 1000000) (hf : ∀ (i : Nat) (p : Pt), ps[i]? = some p → PD Tryz.prog f (.agg (encP p) :: caps) (.d (.bool (is p)))) :
    PD Tryz.prog 70 [.sl (ps.map encP), .fn (.func f) caps] (.d (.bool (ps.any is))) := by
  have h121 := p121 ps f caps is hn hf
  refine pd_of (fn := Tryz.f70) [.tmp 4] (by kernel_rfl) rfl (by kernel_rfl) (Nat.le_of_ble_eq_true rfl) (by kernel_rfl) rfl rfl ?_
  refine awp_seq ?_
  refine awpF_region ?_; intro K hK; simp only [push_cast, seval]; (try simp (disch := omega) only [wrapI]); (repeat ((with_reducible refine And.intro ?_ ?_); (focus (exact ob1)))); refine hK _ ?_; clear hK; clear K
  refine awp_seq ?_
  refine awpF_region ?_; intro K hK; simp only [push_cast, seval, dVs_map]
  (repeat ((with_reducible refine And.intro ?_ ?_); (focus (exact ob1))))
  refine CallK.pd (h121) ?_; simp only [push_cast, seval]; (try simp (disch := omega) only [wrapI]); (repeat ((with_reducible refine And.intro ?_ ?_); (focus (exact ob1))))
  refine hK _ ?_; clear hK; clear K
  refine awp_ret ?_; (repeat (first | refine then_ret ?_ | refine inblock_ret ?_)); refine fin_of (by simp only [push_cast, seval]; first | done | rfl) ob1 ?_
  congr 2
  cases h : ps.findIdx? is with
  | none =>
    rw [List.findIdx?_eq_none_iff] at h
    have : ps.any is = false := by
      rw [List.any_eq_false]
      intro p hp
      simp [h p hp]
    rw [this]
    simp
  | some i =>
    rw [List.findIdx?_eq_some_iff_getElem] at h
    obtain ⟨h1, h2, _⟩ := h
    have : ps.any is = true := List.any_eq_true.2 ⟨_, List.getElem_mem h1, h2⟩
    rw [this]
    simp

theorem p102 (a : List Pt) (p : Pt) (x y slack : Int) (ha : check a = 0) (hp : fair p.1 p.2.1 = true) (hf : farV x y = false) :
    PD Tryz.prog 69 [.agg (encP p), .cp [.sl (a.map encP)] 0, .cp [.int .i64 x, .int .i64 y] 0, .cp [.int .i64 slack] 0] (.d (.bool (a.any (hit x y slack p)))) := by
  have h103 := p103 a 71 [.cp (encP p) 0, .cp [.int .i64 x, .int .i64 y] 0, .cp [.int .i64 slack] 0] (hit x y slack p) (by have := check_len ha; omega) (fun i q hq => p104 p q x y slack hp (check_fair ha hq) hf)
  simp only [encP] at h103 ⊢
  refine pd_of (fn := Tryz.f69) [.tmp 5] (by kernel_rfl) rfl (by kernel_rfl) (Nat.le_of_ble_eq_true rfl) (by kernel_rfl) rfl rfl ?_
  refine awp_seq ?_
  refine awpF_region ?_; intro K hK; simp only [push_cast, seval]; (try simp (disch := omega) only [wrapI]); (repeat ((with_reducible refine And.intro ?_ ?_); (focus (exact ob1)))); refine hK _ ?_; clear hK; clear K
  refine awp_seq ?_
  refine awpF_region ?_; intro K hK; simp only [push_cast, seval]
  (repeat ((with_reducible refine And.intro ?_ ?_); (focus (exact ob1))))
  refine CallK.pd (h103) ?_; simp only [push_cast, seval]; (try simp (disch := omega) only [wrapI]); (repeat ((with_reducible refine And.intro ?_ ?_); (focus (exact ob1))))
  refine hK _ ?_; clear hK; clear K
  refine awp_ret ?_; (repeat (first | refine then_ret ?_ | refine inblock_ret ?_)); refine fin_of (by simp only [push_cast, seval]; first | done | rfl) ob1 ?_
  rfl

def cnt (a b : List Pt) (x y slack : Int) : Nat := (yes b (fun p => a.any (hit x y slack p)) b.length).length

theorem p67 (a b : List Pt) (x y slack : Int) (ha : check a = 0) (hb : check b = 0) (hf : farV x y = false) :
    PD Tryz.prog 50 [.sl (a.map encP), .sl (b.map encP), .agg [.int .i64 x, .int .i64 y], .int .i64 slack] (.d (.int .i64 (cnt a b x y slack))) := by
  have h74 := p74 b 69 [.cp [.sl (a.map encP)] 0, .cp [.int .i64 x, .int .i64 y] 0, .cp [.int .i64 slack] 0] (fun p => a.any (hit x y slack p)) (by have := check_len hb; omega) (fun i p hp => p102 a p x y slack ha (check_fair hb hp) hf)
  refine pd_of (fn := Tryz.f50) [.tmp 8] (by kernel_rfl) rfl (by kernel_rfl) (Nat.le_of_ble_eq_true rfl) (by kernel_rfl) rfl rfl ?_
  refine awp_seq ?_
  refine awpF_region ?_; intro K hK; simp only [push_cast, seval]; (try simp (disch := omega) only [wrapI]); (repeat ((with_reducible refine And.intro ?_ ?_); (focus (exact ob1)))); refine hK _ ?_; clear hK; clear K
  refine awp_seq ?_
  refine awpF_region ?_; intro K hK; simp only [push_cast, seval]
  (repeat ((with_reducible refine And.intro ?_ ?_); (focus (exact ob1))))
  refine CallK.pd h74 ?_; simp only [push_cast, seval, ofD]; (repeat ((with_reducible refine And.intro ?_ ?_); (focus (exact ob1))))
  refine hK _ ?_; clear hK; clear K
  refine awp_ret ?_; (repeat (first | refine then_ret ?_ | refine inblock_ret ?_)); refine fin_of (by simp only [push_cast, seval]; first | done | rfl) ob1 ?_
  rfl

def matchOk (a b : List Pt) (x y slack : Int) : Bool := decide (check a = 0) && decide (check b = 0) && decide (0 ≤ slack) && decide (slack ≤ 2000) && !farV x y
def matchV (a b : List Pt) (x y slack : Int) : Nat := if matchOk a b x y slack then cnt a b x y slack else 0

theorem p29 (a b : List Pt) (x y slack : Int) : PD Tryz.prog 24 [.sl (a.map encP), .sl (b.map encP), .agg [.int .i64 x, .int .i64 y], .int .i64 slack] (.d (.int .i64 (matchV a b x y slack))) := by
  refine pd_of (fn := Tryz.f24) [.tmp 8] (by kernel_rfl) rfl (by kernel_rfl) (Nat.le_of_ble_eq_true rfl) (by kernel_rfl) rfl rfl ?_
  refine awp_seq ?_
  refine awpF_region ?_; intro K hK; simp only [push_cast, seval]; (try simp (disch := omega) only [wrapI]); (repeat ((with_reducible refine And.intro ?_ ?_); (focus (exact ob1)))); refine hK _ ?_; clear hK; clear K
  refine awp_seq ?_
  refine awp_seq ?_
  refine awpF_region ?_; intro K hK; simp only [push_cast, seval]
  (repeat ((with_reducible refine And.intro ?_ ?_); (focus (exact ob1))))
  refine CallK.pd (p25 _) ?_; simp only [push_cast, seval]; (try simp (disch := omega) only [wrapI]); (repeat ((with_reducible refine And.intro ?_ ?_); (focus (exact ob1))))
  refine CallK.pg (fun _ => p25 _) ?_; simp only [push_cast, seval]; (try simp (disch := omega) only [wrapI]); (repeat ((with_reducible refine And.intro ?_ ?_); (focus (exact ob1))))
  refine CallK.pg (fun _ => p62 _ _) ?_; simp only [push_cast, seval]; (try simp (disch := omega) only [wrapI]); (repeat ((with_reducible refine And.intro ?_ ?_); (focus (exact ob1))))
  refine hK _ ?_; clear hK; clear K
  apply awp_cond; (focus (simp only [push_cast, seval]; rfl))
  · intro h1; (try simp only [decide_eq_true_eq, decide_eq_false_iff_not, Bool.not_eq_true', Bool.not_eq_false', Bool.and_eq_true, Bool.or_eq_true, Bool.not_eq_true] at h1)
    refine awp_seq ?_
    refine awpF_region ?_; intro K hK; simp only [push_cast, seval]; (try simp (disch := omega) only [wrapI]); (repeat ((with_reducible refine And.intro ?_ ?_); (focus (exact ob1)))); refine hK _ ?_; clear hK; clear K
    refine awp_ret ?_; (repeat (first | refine then_ret ?_ | refine inblock_ret ?_)); refine fin_of (by simp only [push_cast, seval]; first | done | rfl) ob1 ?_
    have : matchOk a b x y slack = false := by
      cases hk : matchOk a b x y slack with
      | false => rfl
      | true =>
        exfalso
        simp only [matchOk, Bool.and_eq_true, decide_eq_true_eq, Bool.not_eq_true'] at hk
        have e1 : ¬ slack < 0 := by omega
        have e2 : ¬ slack > 2000 := by omega
        simp [hk.1.1.1.1, hk.1.1.1.2, hk.2, e1, e2] at h1
    simp [matchV, this]
  · intro h1; (try simp only [decide_eq_true_eq, decide_eq_false_iff_not, Bool.not_eq_true', Bool.not_eq_false', Bool.and_eq_true, Bool.or_eq_true, Bool.not_eq_true] at h1)
    have hk : check a = 0 ∧ check b = 0 ∧ 0 ≤ slack ∧ slack ≤ 2000 ∧ farV x y = false := by
      by_cases h2 : check a = 0
      · by_cases h3 : check b = 0
        · by_cases h4 : slack < 0
          · simp [h2, h3, h4] at h1
          · by_cases h5 : slack > 2000
            · simp [h2, h3, h4, h5] at h1
            · simp [h2, h3, h4, h5] at h1
              exact ⟨h2, h3, by omega, by omega, h1⟩
        · simp [h2, h3] at h1
      · simp [h2] at h1
    have hok : matchOk a b x y slack = true := by simp [matchOk, hk]
    have h67 := p67 a b x y slack hk.1 hk.2.1 hk.2.2.2.2
    refine awp_skip ?_
    refine awp_seq ?_
    refine awpF_region ?_; intro K hK; simp only [push_cast, seval]
    (repeat ((with_reducible refine And.intro ?_ ?_); (focus (exact ob1))))
    refine CallK.pd (h67) ?_; simp only [push_cast, seval]; (try simp (disch := omega) only [wrapI]); (repeat ((with_reducible refine And.intro ?_ ?_); (focus (exact ob1))))
    refine hK _ ?_; clear hK; clear K
    refine awp_ret ?_; (repeat (first | refine then_ret ?_ | refine inblock_ret ?_)); refine fin_of (by simp only [push_cast, seval]; first | done | rfl) ob1 ?_
    simp [matchV, hok]

end Go.Aw

namespace Go.Aw
set_option linter.unusedSimpArgs false
set_option linter.unusedVariables false
open Go.RowKit Go.Proofs Go.Seg

end Go.Aw

namespace Go.Aw
set_option linter.unusedSimpArgs false
set_option linter.unusedVariables false
open Go.RowKit Go.Proofs Go.Rg

def spV (d : Sp) : List V := [.d (.int .i64 d.1), .d (.int .i64 d.2)]
def regErr (a b : List Pt) (w s : Int) : Int :=
  if check a ≠ 0 then check a else if check b ≠ 0 then check b else if 60 < a.length ∨ 60 < b.length then 8 else if w < 0 ∨ 2000 < w ∨ s < 0 ∨ 2000 < s then 2 else 0
def cN (a b : List Pt) (s : Int) (d : Sp) : Int := (cnt a b d.1 d.2 s : Nat)
def regBest (a b : List Pt) (w s : Int) : Sp := bestOf (cN a b s) (a.flatMap fun p => row w p b) (0, 0)
def regOut (a b : List Pt) (w s : Int) : Sp × Int × Int := if regErr a b w s = 0 then (regBest a b w s, cN a b s (regBest a b w s), 0) else ((0, 0), 0, regErr a b w s)
def regV (r : Sp × Int × Int) : V := .tup [.agg (spV r.1), .d (.int .i64 r.2.1), .d (.int .i64 r.2.2)]

theorem regBest_best (a b : List Pt) (w s : Int) : Best (cN a b s) (cands w a b) (regBest a b w s) := bestOf_best _ _ [(0, 0)] _ (Best.one _ _)

structure RegOk (a b : List Pt) (w s : Int) : Prop where
  ha : check a = 0
  hb : check b = 0
  la : a.length ≤ 60
  lb : b.length ≤ 60
  w0 : 0 ≤ w
  w1 : w ≤ 2000
  s0 : 0 ≤ s
  s1 : s ≤ 2000

theorem regOk_of {a b : List Pt} {w s : Int} (ha : check a = 0) (hb : check b = 0) (hl : ¬ (60 < a.length ∨ 60 < b.length)) (hw : ¬ (w < 0 ∨ 2000 < w ∨ s < 0 ∨ 2000 < s)) : RegOk a b w s ∧ regErr a b w s = 0 := by
  refine ⟨⟨ha, hb, by omega, by omega, by omega, by omega, by omega, by omega⟩, ?_⟩
  simp [regErr, ha, hb, hl, hw]
theorem RegOk.far {a b : List Pt} {w s : Int} (h : RegOk a b w s) {d : Sp} (hd : inW w d) : farV d.1 d.2 = false := by
  have := h.w1
  simp only [inW] at hd
  simp [farV]
  omega
theorem RegOk.match {a b : List Pt} {w s : Int} (h : RegOk a b w s) {d : Sp} (hd : inW w d) : (matchV a b d.1 d.2 s : Int) = cN a b s d := by
  have : matchOk a b d.1 d.2 s = true := by simp [matchOk, h.ha, h.hb, h.s0, h.s1, h.far hd]
  simp [matchV, this, cN]

theorem better_iff (n m x y z u : Int) : better n (x, y) m (z, u) ↔ (n > m ∨ n = m ∧ (far0 x y < far0 z u ∨ far0 x y = far0 z u ∧ ord x y z u < 0)) := by
  have : ord x y z u < 0 ↔ (x < z ∨ x = z ∧ y < u) := by
    simp only [ord, cor, cmp3]
    by_cases h1 : x < z <;> by_cases h2 : x > z <;> by_cases h3 : y < u <;> by_cases h4 : y > u <;> simp [h1, h2, h3, h4] <;> omega
  simp only [better, this]

end Go.Aw

namespace Go.Aw
set_option linter.unusedSimpArgs false
set_option linter.unusedVariables false
open Go.RowKit Go.Proofs

theorem int2 : Tryz.prog.underlying 2 = some (.int .i64) := by kernel_rfl
theorem cells2 : Tryz.prog.cellsOf 2 = 1 := by kernel_rfl
theorem und34 : ∃ f0 f1 : Field, Tryz.prog.underlying 33 = some (.struct #[f0, f1]) ∧ f0.type = 2 ∧ f1.type = 2 ∧ f0.offset = 0 ∧ f1.offset = 1 :=
  ⟨_, _, Tryz.underlying33, rfl, rfl, rfl, rfl⟩
theorem cells34 : Tryz.prog.cellsOf 33 = 2 := by kernel_rfl
end Go.Aw
