/-
  What CloudBound answers. Conditions: none.
-/
import Derived.Test.YtecindhbaekncaaPxI15
import Derived.Test.YtecindhbaekncaaPxC18
namespace Go.Aw
set_option linter.unusedSimpArgs false
set_option linter.unusedVariables false
open Go.RowKit Go.Proofs Go.Rg

theorem p47 (x y z : Int) : PD Try.prog 47 [.agg [.int .i64 x, .int .i64 y, .int .i64 z]] (.agg [.d (.int .i64 x), .d (.int .i64 y)]) := by
  refine pd_of (fn := Try.f47) [.cell 2 34] (by kernel_rfl) rfl (by kernel_rfl) (Nat.le_of_ble_eq_true rfl) (by kernel_rfl) rfl rfl ?_
  refine awp_seq ?_
  refine awpF_region ?_; intro K hK; simp only [push_cast, seval]; (try simp (disch := omega) only [wrapI]); (repeat ((with_reducible refine And.intro ?_ ?_); (focus (exact ob1)))); refine hK _ ?_; clear hK; clear K
  refine awp_seq ?_
  refine awpF_region ?_; intro K hK; simp only [push_cast, seval]; (try simp (disch := omega) only [wrapI]); (repeat ((with_reducible refine And.intro ?_ ?_); (focus (exact ob1)))); refine hK _ ?_; clear hK; clear K
  refine awp_ret ?_; (repeat (first | refine then_ret ?_ | refine inblock_ret ?_)); refine fin_of (by simp only [push_cast, seval]; first | done | rfl) ob1 ?_
  rfl
theorem red_check {ps : List Pt} {size : Int} (h : check ps = 0) : check (redS ps size) = 0 := by
  have hl := redS_len ps size
  have hn := check_len h
  unfold check
  rw [if_neg (by omega), if_pos]
  rw [List.all_eq_true]
  intro r hr
  obtain ⟨i, hi, h1, h2, j, hj, h3⟩ := red_from hr
  have a1 := (ok_bd h (List.getElem_mem hi)).1
  have a2 := (ok_bd h (List.getElem_mem hj)).1
  simp only [okP, Bool.and_eq_true, decide_eq_true_eq] at a1 a2 ⊢
  rw [h1, h2, h3]
  exact ⟨a1.1, a2.2⟩
theorem bnd_near {size b : Int} (h1 : 1 ≤ size) (h2 : size ≤ 16777216) (hb : isBnd size b) : size - 1 ≤ b ∧ b ≤ 2 * size ∧ 2 * ((size - 1) * (size - 1)) ≤ b * b := by
  rw [isBnd, if_neg (by omega)] at hb
  obtain ⟨h0, h3, h4⟩ := hb
  have e1 : bndN size = 2 * ((size - 1) * (size - 1)) := by unfold bndN; rw [Int.mul_assoc]
  have h5 : 0 ≤ (size - 1) * (size - 1) := Int.mul_nonneg (by omega) (by omega)
  rw [e1] at h3 h4
  refine ⟨?_, ?_, h3⟩
  · rcases Int.lt_or_le b (size - 1) with h | h
    · have h6 := sq_mono h0 (show b ≤ size - 2 by omega)
      have h7 : (size - 1) * (size - 1) = (size - 2) * (size - 2) + 2 * size - 3 := by
        have : size - 1 = (size - 2) + 1 := by omega
        rw [this, Int.add_mul, Int.mul_add, Int.mul_add]
        omega
      have h8 : 0 ≤ (size - 2) * (size - 2) := Int.mul_nonneg (by omega) (by omega)
      omega
    · exact h
  · rcases Int.lt_or_le (2 * size) b with h | h
    · have h6 := h4 (2 * size) (by omega) h
      have h7 := sq_mono (a := size - 1) (b := size) (by omega) (by omega)
      have e2 : 2 * size * (2 * size) = 4 * (size * size) := by rw [Int.mul_assoc, ← Int.mul_assoc size 2 size, Int.mul_comm size 2, Int.mul_assoc, ← Int.mul_assoc]; rfl
      have h8 : 0 ≤ size * size := Int.mul_nonneg (by omega) (by omega)
      omega
    · exact h
theorem red_dist {l : List Pt} {size : Int} (h1 : 1 ≤ size) {p r : Pt} (h : cellP size r = cellP size p) : dist2 (p.1, p.2.1) (r.1, r.2.1) ≤ 2 * ((size - 1) * (size - 1)) := by
  simp only [cellP, Prod.mk.injEq] at h
  have h2 := sq_near (flD_near h1 h.1)
  have h3 := sq_near (flD_near h1 h.2)
  have h4 : 0 ≤ (size - 1) * (size - 1) := Int.mul_nonneg (by omega) (by omega)
  unfold dist2
  split
  · dsimp only
    omega
  · omega
/-- One of the first k points is near enough and as fast. -/
def hasNear (b : Int) (p : Pt) (r : List Pt) : Bool := r.any fun q => decide (dist2 (p.1, p.2.1) (q.1, q.2.1) ≤ b * b) && decide (q.2.2 ≥ p.2.2)
def hasAt (s : Pt) (l : List Pt) : Bool := l.any fun q => q.1 == s.1 && q.2.1 == s.2.1

theorem p10 (nums : List Int) (s0 : Int) : PD Try.prog 10 [.sl (nums.map encI), .int .i64 s0] (.d (.bool true)) := by
  refine pd_of (fn := Try.f10) [.tmp 4] (by kernel_rfl) rfl (by kernel_rfl) (Nat.le_of_ble_eq_true rfl) (by kernel_rfl) rfl rfl ?_
  refine awp_seq ?_
  refine awpF_region ?_; intro K hK; simp only [push_cast, seval]; (try simp (disch := omega) only [wrapI]); (repeat ((with_reducible refine And.intro ?_ ?_); (focus (exact ob1)))); refine hK _ ?_; clear hK; clear K
  refine awp_seq ?_
  refine awpF_region ?_; intro K hK; simp only [push_cast, seval]
  (repeat ((with_reducible refine And.intro ?_ ?_); (focus (exact ob1))))
  refine CallK.pd (p31 nums 3000 (by omega) (by omega)) ?_; simp only [push_cast, seval, ofD]; (repeat ((with_reducible refine And.intro ?_ ?_); (focus (exact ob1))))
  refine hK _ ?_; clear hK; clear K
  have hla := (cloudOf_len 3000 nums).1
  have hca := cloudOf_check (span := 3000) (by omega) (by omega) nums
  generalize cloudOf 3000 nums = l at hla hca ⊢
  refine awp_seq ?_
  refine awpF_region ?_; intro K hK; simp only [push_cast, seval]
  (repeat ((with_reducible refine And.intro ?_ ?_); (focus (exact ob1))))
  refine CallK.pd (p32 _ _ (by omega) (by omega)) ?_; simp only [push_cast, seval]; (try simp (disch := omega) only [wrapI]); (repeat ((with_reducible refine And.intro ?_ ?_); (focus (exact ob1))))
  have hm0 : 0 ≤ s0 % 4000 := by omega
  have hm1 : s0 % 4000 ≤ 3999 := by omega
  refine hK _ ?_; clear hK; clear K
  have hs1 : 1 ≤ 1 + s0 % 4000 := by omega
  have hs2 : 1 + s0 % 4000 ≤ 4000 := by omega
  generalize 1 + s0 % 4000 = size at hs1 hs2 ⊢
  clear hm0 hm1
  obtain ⟨b, hb'⟩ := bnd_ex size
  obtain ⟨hb0, hb1, hb2⟩ := bnd_near hs1 (by omega) hb'
  have h44 := p44 size b hb'
  have hok : ∀ ps, check ps = 0 → idxErr ps size = 0 := fun ps h => by
    have h3 : 1 ≤ size ∧ size ≤ 16777216 := by omega
    simp [idxErr, h, h3]
  have h42 := p42 l size
  have hcr := red_check (size := size) hca
  have h42r := p42 (redS l size) size
  rw [redOut, hok _ hca, if_pos rfl] at h42
  rw [redOut, hok _ hcr, if_pos rfl, red_again] at h42r
  have hrl := redS_len l size
  have hfrom := fun {r : Pt} => red_from (ps := l) (size := size) (r := r)
  have hnear : ∀ i (hi : i < l.length), hasNear b l[i] (redS l size) = true := fun i hi => by
    obtain ⟨q, h1, h2, h3⟩ := red_near (size := size) hi
    have h4 := red_dist (l := l) hs1 h2
    rw [hasNear, List.any_eq_true]
    refine ⟨q, h1, ?_⟩
    simp only [Bool.and_eq_true, decide_eq_true_eq]
    exact ⟨by omega, h3⟩
  generalize redS l size = r at h42 h42r hrl hfrom hnear hcr
  have hbb : 0 ≤ b * b := Int.mul_nonneg (by omega) (by omega)
  have hbb2 : b * b ≤ 8000 * 8000 := sq_mono (by omega) (by omega)
  have wbb : IntKind.i64.wrap (b * b) = b * b := wrapI _ (by omega)
  refine awp_seq ?_
  refine awpF_region ?_; intro K hK; simp only [push_cast, seval]
  (repeat ((with_reducible refine And.intro ?_ ?_); (focus (exact ob1))))
  refine CallK.pd (h42) ?_; simp only [push_cast, seval]; (try simp (disch := omega) only [wrapI]); (repeat ((with_reducible refine And.intro ?_ ?_); (focus (exact ob1))))
  refine hK _ ?_; clear hK; clear K
  refine awp_seq ?_
  refine awpF_region ?_; intro K hK; simp only [push_cast, seval]
  (repeat ((with_reducible refine And.intro ?_ ?_); (focus (exact ob1))))
  refine CallK.pd (h42r) ?_; simp only [push_cast, seval]; (try simp (disch := omega) only [wrapI]); (repeat ((with_reducible refine And.intro ?_ ?_); (focus (exact ob1))))
  refine hK _ ?_; clear hK; clear K
  refine awp_seq ?_
  refine awpF_region ?_; intro K hK; simp only [push_cast, seval]
  (repeat ((with_reducible refine And.intro ?_ ?_); (focus (exact ob1))))
  refine CallK.pd (h44) ?_; simp only [push_cast, seval]; (try simp (disch := omega) only [wrapI]); (repeat ((with_reducible refine And.intro ?_ ?_); (focus (exact ob1))))
  refine hK _ ?_; clear hK; clear K
  have e1 : decide ((r.length : Int) > (l.length : Int)) = false := by simp; omega
  have e2 : decide (b < size - 1) = false := by simp; omega
  have e3 : decide (b > 2 * size) = false := by simp; omega
  have w1 : IntKind.i64.wrap (size - 1) = size - 1 := wrapI _ (by omega)
  have w2 : IntKind.i64.wrap (2 * size) = 2 * size := wrapI _ (by omega)
  refine awp_seq ?_
  refine awp_seq ?_
  refine awpF_region ?_; intro K hK; simp only [push_cast, seval, bne_self_eq_false, e1, e2, e3, w1, w2]
  (repeat ((with_reducible refine And.intro ?_ ?_); (focus (exact ob1))))
  refine CallK.pg (fun _ => p20 r r (by omega)) ?_; simp only [push_cast, seval, decide_true, bne_self_eq_false, cond_true, cond_false, e1, e2, e3, w1, w2]; (repeat ((with_reducible refine And.intro ?_ ?_); (focus (exact ob1))))
  refine hK _ ?_; clear hK; clear K
  apply awp_cond; (focus (simp only [push_cast, seval]; rfl))
  · intro h2; (try simp only [decide_eq_true_eq, decide_eq_false_iff_not, Bool.not_eq_true', Bool.not_eq_false', Bool.and_eq_true, Bool.or_eq_true, Bool.not_eq_true] at h2)
    cases h2
  intro h2; (try simp only [decide_eq_true_eq, decide_eq_false_iff_not, Bool.not_eq_true', Bool.not_eq_false', Bool.and_eq_true, Bool.or_eq_true, Bool.not_eq_true] at h2)
  refine awp_skip ?_
  refine awp_seq ?_
  refine awp_seq ?_
  refine awpF_region ?_; intro K hK; simp only [push_cast, seval]; (try simp (disch := omega) only [wrapI]); (repeat ((with_reducible refine And.intro ?_ ?_); (focus (exact ob1)))); refine hK _ ?_; clear hK; clear K
  have hq : ∀ ps : List Pt, ∀ row, row ∈ ps.map encP → row.length = 3 := fun ps row hr => by obtain ⟨_, _, rfl⟩ := List.mem_map.1 hr; rfl
  refine awp_block ?_
  refine awp_loopP (α := Nat) (st := fun i => ⟨[(5, .d (.sl (l.map encP))), (6, .d (.sl (r.map encP))), (10, .d (.int .i64 b)), (11, .d (.int .i64 i))], []⟩) (inv := fun i => i ≤ l.length) (μ := fun i => l.length - i) (x0 := 0) (r0 := []) ?_ ?_ ?_
  · exact Nat.zero_le _
  · exact ⟨by simp, by simp, by simp [push_cast, seval], by simp [push_cast, seval], by simp [push_cast, seval], by simp [push_cast, seval]⟩
  intro i hi
  refine awp_seq ?_
  refine awp_seq ?_
  refine awpF_region ?_; intro K hK; simp only [push_cast, seval]; (try simp (disch := omega) only [wrapI]); (repeat ((with_reducible refine And.intro ?_ ?_); (focus (exact ob1)))); refine hK _ ?_; clear hK; clear K
  apply awp_cond; (focus (simp only [push_cast, seval]; rfl))
  · intro h1; (try simp only [decide_eq_true_eq, decide_eq_false_iff_not, Bool.not_eq_true', Bool.not_eq_false', Bool.and_eq_true, Bool.or_eq_true, Bool.not_eq_true] at h1)
    have hlt : i < l.length := by omega
    have g1 : (l.map encP)[i]? = some (encP l[i]) := by rw [List.getElem?_map, List.getElem?_eq_getElem hlt]; rfl
    simp only [encP] at g1
    have hni := hnear i hlt
    generalize l[i] = p at g1 hni
    refine awp_skip ?_
    refine awp_seq ?_
    refine awp_block ?_
    refine awp_seq ?_
    refine awpF_region ?_; intro K hK; simp only [push_cast, seval]; (try simp (disch := omega) only [wrapI]); (repeat ((with_reducible refine And.intro ?_ ?_); (focus (exact ob1)))); refine hK _ ?_; clear hK; clear K
    refine awp_seq ?_
    refine awp_seq ?_
    refine awpF_region ?_; intro K hK; simp only [push_cast, seval]; (try simp (disch := omega) only [wrapI]); (repeat ((with_reducible refine And.intro ?_ ?_); (focus (exact ob1)))); refine hK _ ?_; clear hK; clear K
    refine awp_block ?_
    refine awp_loopP (α := Nat) (st := fun k => ⟨[(5, .d (.sl (l.map encP))), (6, .d (.sl (r.map encP))), (10, .d (.int .i64 b)), (11, .d (.int .i64 i)), (12, .d (.bool (hasNear b p (r.take k)))), (13, .d (.int .i64 k))], []⟩) (inv := fun k => k ≤ r.length) (μ := fun k => r.length - k) (x0 := 0) (r0 := []) ?_ ?_ ?_
    · exact Nat.zero_le _
    · rw [List.take_zero, show hasNear b p [] = false from rfl]
      exact ⟨by simp, by simp, by simp [push_cast, seval], by simp [push_cast, seval], by simp [push_cast, seval], by simp [push_cast, seval]⟩
    intro k hk
    refine awp_seq ?_
    refine awp_seq ?_
    refine awpF_region ?_; intro K hK; simp only [push_cast, seval]; (try simp (disch := omega) only [wrapI]); (repeat ((with_reducible refine And.intro ?_ ?_); (focus (exact ob1)))); refine hK _ ?_; clear hK; clear K
    apply awp_cond; (focus (simp only [push_cast, seval]; rfl))
    · intro h3; (try simp only [decide_eq_true_eq, decide_eq_false_iff_not, Bool.not_eq_true', Bool.not_eq_false', Bool.and_eq_true, Bool.or_eq_true, Bool.not_eq_true] at h3)
      have hklt : k < r.length := by omega
      have g2 : (r.map encP)[k]? = some (encP r[k]) := by rw [List.getElem?_map, List.getElem?_eq_getElem hklt]; rfl
      have hs : hasNear b p (r.take (k + 1)) = (hasNear b p (r.take k) || (decide (dist2 (p.1, p.2.1) (r[k].1, r[k].2.1) ≤ b * b) && decide (r[k].2.2 ≥ p.2.2))) := by
        unfold hasNear
        rw [List.take_add_one, List.getElem?_eq_getElem hklt, List.any_append]
        simp only [Option.toList_some, List.any_cons, List.any_nil, Bool.or_false]
      simp only [encP] at g2
      generalize r[k] = q at g2 hs
      generalize hasNear b p (r.take k) = f at hs
      refine awp_skip ?_
      refine awp_seq ?_
      refine awp_block ?_
      refine awpF_draw [0,1,2,3,4,5,7,8,9,10,13,14,15,6,11,12,16,17,18,19,20,21,22,23,24,25,26,27,28,29,30,31] (by kernel_rfl) (by kernel_rfl) rfl ?_; intro K hK; simp only [push_cast, seval, g1, g2, wbb]
      refine ⟨fun g => ⟨g, g, by omega, by omega, hq l⟩, fun g => ⟨g, g, by omega, by omega, hq r⟩, ?_⟩
      refine CallK.pg (fun _ => p47 _ _ _) ?_; simp only [push_cast, seval]; (try simp (disch := omega) only [wrapI]); (repeat ((with_reducible refine And.intro ?_ ?_); (focus (exact ob1))))
      refine CallK.pg (fun _ => p47 _ _ _) ?_; simp only [push_cast, seval]; (try simp (disch := omega) only [wrapI]); (repeat ((with_reducible refine And.intro ?_ ?_); (focus (exact ob1))))
      refine CallK.pg (fun _ => p46 _ _ _ _) ?_; simp only [push_cast, seval, g1, g2, wbb]; (repeat ((with_reducible refine And.intro ?_ ?_); (focus (exact ob1))))
      refine hK _ ?_; clear hK; clear K
      refine inblock_norm ?_
      refine awpF_region ?_; intro K hK; simp only [push_cast, seval]; (try simp (disch := omega) only [wrapI]); (repeat ((with_reducible refine And.intro ?_ ?_); (focus (exact ob1)))); refine hK _ ?_; clear hK; clear K
      refine round_endG (k + 1) [] ⟨by omega, by omega, ?_⟩
      rw [hs, ← bif_and, ← bif_or]
      exact ⟨by simp, by simp, by simp [push_cast, seval], by simp [push_cast, seval], by simp [push_cast, seval], by simp [push_cast, seval]⟩
    · intro h3; (try simp only [decide_eq_true_eq, decide_eq_false_iff_not, Bool.not_eq_true', Bool.not_eq_false', Bool.and_eq_true, Bool.or_eq_true, Bool.not_eq_true] at h3)
      obtain rfl : k = r.length := by omega
      rw [List.take_length, hni]
      refine awp_exit ?_; (repeat (first | refine then_exit ?_ | refine inblock_other (by decide) ?_)); refine inblock_same ?_
      refine awp_seq ?_
      refine awpF_region ?_; intro K hK; simp only [push_cast, seval]; (try simp (disch := omega) only [wrapI]); (repeat ((with_reducible refine And.intro ?_ ?_); (focus (exact ob1)))); refine hK _ ?_; clear hK; clear K
      apply awp_cond; (focus (simp only [push_cast, seval]; rfl))
      · intro h4; (try simp only [decide_eq_true_eq, decide_eq_false_iff_not, Bool.not_eq_true', Bool.not_eq_false', Bool.and_eq_true, Bool.or_eq_true, Bool.not_eq_true] at h4)
        cases h4
      · intro h4; (try simp only [decide_eq_true_eq, decide_eq_false_iff_not, Bool.not_eq_true', Bool.not_eq_false', Bool.and_eq_true, Bool.or_eq_true, Bool.not_eq_true] at h4)
        refine awp_skip ?_
        refine inblock_norm ?_
        refine awpF_region ?_; intro K hK; simp only [push_cast, seval]; (try simp (disch := omega) only [wrapI]); (repeat ((with_reducible refine And.intro ?_ ?_); (focus (exact ob1)))); refine hK _ ?_; clear hK; clear K
        refine round_endG (i + 1) [] ⟨by omega, by omega, ?_⟩
        exact ⟨by simp, by simp, by simp [push_cast, seval], by simp [push_cast, seval], by simp [push_cast, seval], by simp [push_cast, seval]⟩
  · intro h1; (try simp only [decide_eq_true_eq, decide_eq_false_iff_not, Bool.not_eq_true', Bool.not_eq_false', Bool.and_eq_true, Bool.or_eq_true, Bool.not_eq_true] at h1)
    refine awp_exit ?_; (repeat (first | refine then_exit ?_ | refine inblock_other (by decide) ?_)); refine inblock_same ?_
    refine awp_seq ?_
    refine awp_seq ?_
    refine awpF_region ?_; intro K hK; simp only [push_cast, seval]; (try simp (disch := omega) only [wrapI]); (repeat ((with_reducible refine And.intro ?_ ?_); (focus (exact ob1)))); refine hK _ ?_; clear hK; clear K
    refine awp_block ?_
    refine awp_loopP (α := Nat) (st := fun k => ⟨[(5, .d (.sl (l.map encP))), (6, .d (.sl (r.map encP))), (14, .d (.int .i64 k))], []⟩) (inv := fun k => k ≤ r.length) (μ := fun k => r.length - k) (x0 := 0) (r0 := []) ?_ ?_ ?_
    · exact Nat.zero_le _
    · exact ⟨by simp, by simp, by simp [push_cast, seval], by simp [push_cast, seval], by simp [push_cast, seval], by simp [push_cast, seval]⟩
    intro k hk
    refine awp_seq ?_
    refine awp_seq ?_
    refine awpF_region ?_; intro K hK; simp only [push_cast, seval]; (try simp (disch := omega) only [wrapI]); (repeat ((with_reducible refine And.intro ?_ ?_); (focus (exact ob1)))); refine hK _ ?_; clear hK; clear K
    apply awp_cond; (focus (simp only [push_cast, seval]; rfl))
    · intro h3; (try simp only [decide_eq_true_eq, decide_eq_false_iff_not, Bool.not_eq_true', Bool.not_eq_false', Bool.and_eq_true, Bool.or_eq_true, Bool.not_eq_true] at h3)
      have hlt : k < r.length := by omega
      have g2 : (r.map encP)[k]? = some (encP r[k]) := by rw [List.getElem?_map, List.getElem?_eq_getElem hlt]; rfl
      simp only [encP] at g2
      obtain ⟨i0, hi0, f1, f2, _⟩ := hfrom (List.getElem_mem hlt)
      have hal : hasAt r[k] l = true := by
        rw [hasAt, List.any_eq_true]
        exact ⟨l[i0], List.getElem_mem hi0, by simp [f1, f2]⟩
      clear f1 f2
      generalize r[k] = q at g2 hal
      refine awp_skip ?_
      refine awp_seq ?_
      refine awp_block ?_
      refine awp_seq ?_
      refine awpF_region ?_; intro K hK; simp only [push_cast, seval]; (try simp (disch := omega) only [wrapI]); (repeat ((with_reducible refine And.intro ?_ ?_); (focus (exact ob1)))); refine hK _ ?_; clear hK; clear K
      refine awp_seq ?_
      refine awp_seq ?_
      refine awpF_region ?_; intro K hK; simp only [push_cast, seval]; (try simp (disch := omega) only [wrapI]); (repeat ((with_reducible refine And.intro ?_ ?_); (focus (exact ob1)))); refine hK _ ?_; clear hK; clear K
      refine awp_block ?_
      refine awp_loopP (α := Nat) (st := fun i => ⟨[(5, .d (.sl (l.map encP))), (6, .d (.sl (r.map encP))), (14, .d (.int .i64 k)), (15, .d (.bool (hasAt q (l.take i)))), (16, .d (.int .i64 i))], []⟩) (inv := fun i => i ≤ l.length) (μ := fun i => l.length - i) (x0 := 0) (r0 := []) ?_ ?_ ?_
      · exact Nat.zero_le _
      · rw [List.take_zero, show hasAt q [] = false from rfl]
        exact ⟨by simp, by simp, by simp [push_cast, seval], by simp [push_cast, seval], by simp [push_cast, seval], by simp [push_cast, seval]⟩
      intro i hi
      refine awp_seq ?_
      refine awp_seq ?_
      refine awpF_region ?_; intro K hK; simp only [push_cast, seval]; (try simp (disch := omega) only [wrapI]); (repeat ((with_reducible refine And.intro ?_ ?_); (focus (exact ob1)))); refine hK _ ?_; clear hK; clear K
      apply awp_cond; (focus (simp only [push_cast, seval]; rfl))
      · intro h4; (try simp only [decide_eq_true_eq, decide_eq_false_iff_not, Bool.not_eq_true', Bool.not_eq_false', Bool.and_eq_true, Bool.or_eq_true, Bool.not_eq_true] at h4)
        have hil : i < l.length := by omega
        have g1 : (l.map encP)[i]? = some (encP l[i]) := by rw [List.getElem?_map, List.getElem?_eq_getElem hil]; rfl
        have hs : hasAt q (l.take (i + 1)) = (hasAt q (l.take i) || (l[i].1 == q.1 && l[i].2.1 == q.2.1)) := by
          unfold hasAt
          rw [List.take_add_one, List.getElem?_eq_getElem hil, List.any_append]
          simp only [Option.toList_some, List.any_cons, List.any_nil, Bool.or_false]
        simp only [encP] at g1
        generalize l[i] = p at g1 hs
        generalize hasAt q (l.take i) = f at hs
        refine awp_skip ?_
        refine awp_seq ?_
        refine awp_block ?_
        refine awpF_draw [0,1,2,3,4,5,7,8,9,10,6,11,12,13,14] (by kernel_rfl) (by kernel_rfl) rfl ?_; intro K hK; simp only [push_cast, seval, g1, g2]
        refine ⟨fun g => ⟨g, g, by omega, by omega, hq l⟩, fun g => ⟨g, g, by omega, by omega, hq r⟩, ?_⟩
        refine CallK.pg (fun _ => p47 _ _ _) ?_; simp only [push_cast, seval]; (try simp (disch := omega) only [wrapI]); (repeat ((with_reducible refine And.intro ?_ ?_); (focus (exact ob1))))
        refine CallK.pg (fun _ => p47 _ _ _) ?_; simp only [push_cast, seval]; (try simp (disch := omega) only [wrapI]); (repeat ((with_reducible refine And.intro ?_ ?_); (focus (exact ob1))))
        refine hK _ ?_; clear hK; clear K
        refine inblock_norm ?_
        refine awpF_region ?_; intro K hK; simp only [push_cast, seval]; (try simp (disch := omega) only [wrapI]); (repeat ((with_reducible refine And.intro ?_ ?_); (focus (exact ob1)))); refine hK _ ?_; clear hK; clear K
        refine round_endG (i + 1) [] ⟨by omega, by omega, ?_⟩
        rw [hs, ← bif_or]
        exact ⟨by simp, by simp, by simp [push_cast, seval], by simp [push_cast, seval], by simp [push_cast, seval], by simp [push_cast, seval]⟩
      · intro h4; (try simp only [decide_eq_true_eq, decide_eq_false_iff_not, Bool.not_eq_true', Bool.not_eq_false', Bool.and_eq_true, Bool.or_eq_true, Bool.not_eq_true] at h4)
        obtain rfl : i = l.length := by omega
        rw [List.take_length, hal]
        refine awp_exit ?_; (repeat (first | refine then_exit ?_ | refine inblock_other (by decide) ?_)); refine inblock_same ?_
        refine awp_seq ?_
        refine awpF_region ?_; intro K hK; simp only [push_cast, seval]; (try simp (disch := omega) only [wrapI]); (repeat ((with_reducible refine And.intro ?_ ?_); (focus (exact ob1)))); refine hK _ ?_; clear hK; clear K
        apply awp_cond; (focus (simp only [push_cast, seval]; rfl))
        · intro h5; (try simp only [decide_eq_true_eq, decide_eq_false_iff_not, Bool.not_eq_true', Bool.not_eq_false', Bool.and_eq_true, Bool.or_eq_true, Bool.not_eq_true] at h5)
          cases h5
        · intro h5; (try simp only [decide_eq_true_eq, decide_eq_false_iff_not, Bool.not_eq_true', Bool.not_eq_false', Bool.and_eq_true, Bool.or_eq_true, Bool.not_eq_true] at h5)
          refine awp_skip ?_
          refine inblock_norm ?_
          refine awpF_region ?_; intro K hK; simp only [push_cast, seval]; (try simp (disch := omega) only [wrapI]); (repeat ((with_reducible refine And.intro ?_ ?_); (focus (exact ob1)))); refine hK _ ?_; clear hK; clear K
          refine round_endG (k + 1) [] ⟨by omega, by omega, ?_⟩
          exact ⟨by simp, by simp, by simp [push_cast, seval], by simp [push_cast, seval], by simp [push_cast, seval], by simp [push_cast, seval]⟩
    · intro h3; (try simp only [decide_eq_true_eq, decide_eq_false_iff_not, Bool.not_eq_true', Bool.not_eq_false', Bool.and_eq_true, Bool.or_eq_true, Bool.not_eq_true] at h3)
      refine awp_exit ?_; (repeat (first | refine then_exit ?_ | refine inblock_other (by decide) ?_)); refine inblock_same ?_
      refine awp_seq ?_
      refine awpF_region ?_; intro K hK; simp only [push_cast, seval]
      (repeat ((with_reducible refine And.intro ?_ ?_); (focus (exact ob1))))
      refine CallK.pd (p15) ?_; simp only [push_cast, seval]; (try simp (disch := omega) only [wrapI]); (repeat ((with_reducible refine And.intro ?_ ?_); (focus (exact ob1))))
      refine hK _ ?_; clear hK; clear K
      refine awp_ret ?_; (repeat (first | refine then_ret ?_ | refine inblock_ret ?_)); refine fin_of (by simp only [push_cast, seval]; first | done | rfl) ob1 ?_
      rfl
end Go.Aw
