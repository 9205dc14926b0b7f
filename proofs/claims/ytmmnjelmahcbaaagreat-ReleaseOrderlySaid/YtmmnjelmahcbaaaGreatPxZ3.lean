/-
  Contracts: states are the same. Conditions: stages that are not too many.
-/
import Derived.Test.YtmmnjelmahcbaaaGreatPxZ2
namespace Go.Aw
set_option linter.unusedSimpArgs false
set_option linter.unusedVariables false
open Go.RowKit Go.Proofs Go.Nt Go.Rl

def Stg.tup (s : Stg) : List Int := [s.sh, s.le, s.rn, s.rd, s.an, s.ad, s.bn, s.bd]
theorem Stg.tup_inj {s t : Stg} (h : s.tup = t.tup) : s = t := by
  obtain ⟨⟩ := s
  obtain ⟨⟩ := t
  simp only [Stg.tup, List.cons.injEq, and_true] at h
  obtain ⟨rfl, rfl, rfl, rfl, rfl, rfl, rfl, rfl⟩ := h
  rfl
instance : DecidableEq Stg := fun s t => if h : s.tup = t.tup then .isTrue (Stg.tup_inj h) else .isFalse fun e => h (by rw [e])
def samB (s o : Sta) : Bool := decide (s.ps = o.ps) && decide (s.k = o.k ∧ s.ol = o.ol ∧ s.nw = o.nw ∧ s.ph = o.ph ∧ s.st = o.st ∧ s.gt = o.gt ∧ s.bd = o.bd ∧ s.al = o.al)

theorem stg_cmp (a b : Stg) : (a.sh == b.sh && (a.le == b.le && (a.rn == b.rn && a.rd == b.rd && (a.an == b.an && a.ad == b.ad && (a.bn == b.bn && a.bd == b.bd))))) = decide (a = b) := by
  rw [Bool.eq_iff_iff, decide_eq_true_eq]
  simp only [Bool.and_eq_true, beq_iff_eq]
  constructor
  · rintro ⟨h1, h2, ⟨h3, h4⟩, ⟨h5, h6⟩, h7, h8⟩
    exact Stg.tup_inj (by simp only [Stg.tup, h1, h2, h3, h4, h5, h6, h7, h8])
  · rintro rfl
    exact ⟨rfl, rfl, ⟨rfl, rfl⟩, ⟨rfl, rfl⟩, rfl, rfl⟩
theorem q43 (ss ts : List Stg) (hs : ss.length ≤ 1000000) (ht : ts.length ≤ 1000000) : PD Tryz.prog 43 [.sl (ss.map encG), .sl (ts.map encG)] (.d (.bool (decide (ss = ts)))) := by
  have hqs := encG_len ss
  have hqt := encG_len ts
  refine pd_of (fn := Tryz.f43) [.tmp 4] (by kernel_rfl) rfl (by kernel_rfl) (Nat.le_of_ble_eq_true rfl) (by kernel_rfl) rfl rfl ?_
  refine awp_seq ?_
  refine awpF_region ?_; intro K hK; simp only [push_cast, seval]; (try simp (disch := omega) only [wrapI]); (repeat ((with_reducible refine And.intro ?_ ?_); (focus (exact ob1)))); refine hK _ ?_; clear hK; clear K
  refine awp_seq ?_
  refine awp_seq ?_
  refine awpF_region ?_; intro K hK; simp only [push_cast, seval]; (try simp (disch := omega) only [wrapI]); (repeat ((with_reducible refine And.intro ?_ ?_); (focus (exact ob1)))); refine hK _ ?_; clear hK; clear K
  apply awp_cond; (focus (simp only [push_cast, seval]; rfl))
  · intro h1; (try simp only [decide_eq_true_eq, decide_eq_false_iff_not, Bool.not_eq_true', Bool.not_eq_false', Bool.and_eq_true, Bool.or_eq_true, Bool.not_eq_true] at h1)
    refine awp_seq ?_
    refine awpF_region ?_; intro K hK; simp only [push_cast, seval]; (try simp (disch := omega) only [wrapI]); (repeat ((with_reducible refine And.intro ?_ ?_); (focus (exact ob1)))); refine hK _ ?_; clear hK; clear K
    refine awp_ret ?_; (repeat (first | refine then_ret ?_ | refine inblock_ret ?_)); refine fin_of (by simp only [push_cast, seval]; first | done | rfl) ob1 ?_
    rw [decide_eq_false]
    intro e
    rw [e] at h1
    simp at h1
  intro h1; (try simp only [decide_eq_true_eq, decide_eq_false_iff_not, Bool.not_eq_true', Bool.not_eq_false', Bool.and_eq_true, Bool.or_eq_true, Bool.not_eq_true] at h1)
  have hl : ss.length = ts.length := by
    simp only [bne_iff_ne, ne_eq, Decidable.not_not, bne_eq_false_iff_eq] at h1
    omega
  refine awp_skip ?_
  refine awp_seq ?_
  refine awp_seq ?_
  refine awpF_region ?_; intro K hK; simp only [push_cast, seval]; (try simp (disch := omega) only [wrapI]); (repeat ((with_reducible refine And.intro ?_ ?_); (focus (exact ob1)))); refine hK _ ?_; clear hK; clear K
  refine awp_block ?_
  refine awp_loopP (α := Nat) (st := fun i => ⟨[(0, .d (.sl (ss.map encG))), (1, .d (.sl (ts.map encG))), (12, .d (.int .i64 ss.length)), (13, .d (.int .i64 i))], []⟩) (inv := fun i => i ≤ ss.length ∧ ∀ j (h : j < ss.length), j < i → ss[j] = ts[j]'(by omega)) (μ := fun i => ss.length - i) (x0 := 0) (r0 := []) ?_ ?_ ?_
  · exact ⟨Nat.zero_le _, fun j h h2 => by omega⟩
  · exact ⟨by simp, by simp, by simp [push_cast, seval], by simp [push_cast, seval], by simp [push_cast, seval], by simp [push_cast, seval]⟩
  rintro i ⟨hi, hall⟩
  refine awp_seq ?_
  refine awpF_region ?_; intro K hK; simp only [push_cast, seval]; (try simp (disch := omega) only [wrapI]); (repeat ((with_reducible refine And.intro ?_ ?_); (focus (exact ob1)))); refine hK _ ?_; clear hK; clear K
  refine awp_seq ?_
  apply awp_cond; (focus (simp only [push_cast, seval]; rfl))
  · intro h3; (try simp only [decide_eq_true_eq, decide_eq_false_iff_not, Bool.not_eq_true', Bool.not_eq_false', Bool.and_eq_true, Bool.or_eq_true, Bool.not_eq_true] at h3)
    have hi2 : i < ss.length := by omega
    have hi3 : i < ts.length := by omega
    have wi : IntKind.i64.wrap ((i : Int) + 1) = (i : Int) + 1 := wrapI _ (by omega)
    have g1 : (ss.map encG)[i]? = some (encG ss[i]) := by rw [List.getElem?_map, List.getElem?_eq_getElem hi2]; rfl
    have g2 : (ts.map encG)[i]? = some (encG ts[i]) := by rw [List.getElem?_map, List.getElem?_eq_getElem hi3]; rfl
    simp only [encG] at g1 g2
    refine awp_skip ?_
    refine awp_seq ?_
    refine awp_block ?_
    refine awp_seq ?_
    refine awpF_region ?_; intro K hK; simp only [push_cast, seval]; (try simp (disch := omega) only [wrapI]); (repeat ((with_reducible refine And.intro ?_ ?_); (focus (exact ob1)))); refine hK _ ?_; clear hK; clear K
    refine awp_seq ?_
    refine awpF_draw [0,1,2,3,4,5,6,7,8] (by kernel_rfl) (by kernel_rfl) rfl ?_; intro K hK; simp only [push_cast, seval, g1, g2, Int.toNat_natCast]
    repeat (with_reducible refine And.intro ?_ ?_; (focus (first | exact hqs | exact hqt | omega)))
    refine hK _ ?_; clear hK; clear K
    have hE := stg_cmp ss[i] ts[i]
    apply awp_cond; (focus (simp only [push_cast, seval]; rfl))
    · intro h4
      refine awp_seq ?_
      refine awpF_region ?_; intro K hK; simp only [push_cast, seval]; (try simp (disch := omega) only [wrapI]); (repeat ((with_reducible refine And.intro ?_ ?_); (focus (exact ob1)))); refine hK _ ?_; clear hK; clear K
      refine awp_ret ?_; (repeat (first | refine then_ret ?_ | refine inblock_ret ?_)); refine fin_of (by simp only [push_cast, seval]; first | done | rfl) ob1 ?_
      rw [decide_eq_false]
      intro e
      have : ss[i] = ts[i] := by simp only [e]
      rw [hE, decide_eq_true this] at h4
      exact absurd h4 (by decide)
    · intro h4
      rw [hE] at h4
      have h5 : ss[i] = ts[i] := by
        cases hx : decide (ss[i] = ts[i]) with
        | true => exact of_decide_eq_true hx
        | false => rw [hx] at h4; exact absurd h4 (by decide)
      refine awp_skip ?_
      refine inblock_norm ?_
      refine awpF_region ?_; intro K hK; simp only [push_cast, seval, wi]; (try simp (disch := omega) only [wrapI]); (repeat ((with_reducible refine And.intro ?_ ?_); (focus (exact ob1)))); refine hK _ ?_; clear hK; clear K
      refine round_endG (i + 1) [] ⟨by omega, ⟨by omega, fun j hj h6 => ?_⟩, ?_⟩
      · rcases Nat.lt_or_ge j i with h7 | h7
        · exact hall j hj h7
        · obtain rfl : j = i := by omega
          exact h5
      · exact ⟨by simp, by simp, by simp [push_cast, seval], by simp [push_cast, seval], by simp [push_cast, seval], by simp [push_cast, seval]⟩
  · intro h3; (try simp only [decide_eq_true_eq, decide_eq_false_iff_not, Bool.not_eq_true', Bool.not_eq_false', Bool.and_eq_true, Bool.or_eq_true, Bool.not_eq_true] at h3)
    refine awp_exit ?_; (repeat (first | refine then_exit ?_ | refine inblock_other (by decide) ?_)); refine inblock_same ?_
    refine awp_seq ?_
    refine awpF_region ?_; intro K hK; simp only [push_cast, seval]; (try simp (disch := omega) only [wrapI]); (repeat ((with_reducible refine And.intro ?_ ?_); (focus (exact ob1)))); refine hK _ ?_; clear hK; clear K
    refine awp_ret ?_; (repeat (first | refine then_ret ?_ | refine inblock_ret ?_)); refine fin_of (by simp only [push_cast, seval]; first | done | rfl) ob1 ?_
    rw [decide_eq_true]
    exact List.ext_getElem hl fun j h4 h5 => hall j h4 (by omega)

set_option maxRecDepth 10000 in
set_option maxHeartbeats 1000000 in
theorem q12 (s o : Sta) (hs : s.ps.length ≤ 1000000) (ho : o.ps.length ≤ 1000000) : PD Tryz.prog 12 [.agg (encS s), .agg (encS o)] (.d (.bool (samB s o))) := by
  have h43 := q43 s.ps o.ps hs ho
  unfold samB
  generalize decide (s.ps = o.ps) = b at h43 ⊢
  unfold encS
  refine pd_of (fn := Tryz.f12) [.tmp 4] (by kernel_rfl) rfl (by kernel_rfl) (Nat.le_of_ble_eq_true rfl) (by kernel_rfl) rfl rfl ?_
  refine awp_seq ?_
  refine awpF_region ?_; intro K hK; simp only [push_cast, seval]; (try simp (disch := omega) only [wrapI]); (repeat ((with_reducible refine And.intro ?_ ?_); (focus (exact ob1)))); refine hK _ ?_; clear hK; clear K
  refine awp_seq ?_
  refine awp_seq ?_
  refine awpF_region ?_; intro K hK; simp only [push_cast, seval]
  refine CallK.pd (h43) ?_; simp only [push_cast, seval]; (try simp (disch := omega) only [wrapI]); (repeat ((with_reducible refine And.intro ?_ ?_); (focus (exact ob1))))
  refine hK _ ?_; clear hK; clear K
  apply awp_cond; (focus (simp only [push_cast, seval]; rfl))
  · intro h1
    have h1 : b = false := by cases b <;> simp_all
    refine awp_seq ?_
    refine awpF_region ?_; intro K hK; simp only [push_cast, seval]; (try simp (disch := omega) only [wrapI]); (repeat ((with_reducible refine And.intro ?_ ?_); (focus (exact ob1)))); refine hK _ ?_; clear hK; clear K
    refine awp_ret ?_; (repeat (first | refine then_ret ?_ | refine inblock_ret ?_)); refine fin_of (by simp only [push_cast, seval]; first | done | rfl) ob1 ?_
    rw [h1]
    rfl
  intro h1
  have h1 : b = true := by cases b <;> simp_all
  subst h1
  refine awp_skip ?_
  refine awp_seq ?_
  refine awpF_region ?_; intro K hK; simp only [push_cast, seval, bif_and]
  repeat (refine ⟨fun h => by rw [h]; rfl, ?_⟩)
  refine hK _ ?_; clear hK; clear K
  refine awp_ret ?_; (repeat (first | refine then_ret ?_ | refine inblock_ret ?_)); refine fin_of (by simp only [push_cast, seval]; first | done | rfl) ob1 ?_
  congr 2
  rw [Bool.eq_iff_iff]
  simp [and_assoc]

end Go.Aw
