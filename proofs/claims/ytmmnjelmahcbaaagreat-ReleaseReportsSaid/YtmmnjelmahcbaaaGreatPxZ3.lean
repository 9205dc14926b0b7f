/-
  Contracts: states are the same. Conditions: stages that are not too many.
-/
import Derived.Test.YtmmnjelmahcbaaaGreatPxZ2
namespace Go.Aw
set_option linter.unusedSimpArgs false
set_option linter.unusedVariables false
open Go.RowKit Go.Proofs Go.Nt Go.Rl

def Stg.tup (s : Stg) : List Int := [s.sh, s.le, s.rn, s.rd, s.an, s.ad, s.bn, s.bd]
theorem Stg.tup_inj {s t : Stg} (h : s.tup = t.tup) : s = t := by
  obtain ⟨⟩ := s
  obtain ⟨⟩ := t
  simp only [Stg.tup, List.cons.injEq, and_true] at h
  obtain ⟨rfl, rfl, rfl, rfl, rfl, rfl, rfl, rfl⟩ := h
  rfl
instance : DecidableEq Stg := fun s t => if h : s.tup = t.tup then .isTrue (Stg.tup_inj h) else .isFalse fun e => h (by rw [e])
def samB (s o : Sta) : Bool := decide (s.ps = o.ps) && decide (s.k = o.k ∧ s.ol = o.ol ∧ s.nw = o.nw ∧ s.ph = o.ph ∧ s.st = o.st ∧ s.gt = o.gt ∧ s.bd = o.bd ∧ s.al = o.al)

theorem stg_cmp (a b : Stg) : (a.sh == b.sh && (a.le == b.le && (a.rn == b.rn && a.rd == b.rd && (a.an == b.an && a.ad == b.ad && (a.bn == b.bn && a.bd == b.bd))))) = decide (a = b) := by
  rw [Bool.eq_iff_iff, decide_eq_true_eq]
  simp only [Bool.and_eq_true, beq_iff_eq]
  constructor
  · rintro ⟨h1, h2, ⟨h3, h4⟩, ⟨h5, h6⟩, h7, h8⟩
    exact Stg.tup_inj (by simp only [Stg.tup, h1, h2, h3, h4, h5, h6, h7, h8])
  · rintro rfl
    exact ⟨rfl, rfl, ⟨rfl, rfl⟩, ⟨rfl, rfl⟩, rfl, rfl⟩
set_option maxRecDepth 10000 in
set_option maxHeartbeats 1000000 in
theorem q13 (s o : Sta) (hs : s.ps.length ≤ 1000000) (ho : o.ps.length ≤ 1000000) : PD Tryz.prog 13 [.agg (encS s), .agg (encS o)] (.d (.bool (samB s o))) := by
  have hqs := encG_len s.ps
  have hqt := encG_len o.ps
  unfold encS
  refine pd_of (fn := Tryz.f13) [.tmp 4] (by kernel_rfl) rfl (by kernel_rfl) (Nat.le_of_ble_eq_true rfl) (by kernel_rfl) rfl rfl ?_
  refine awp_seq ?_
  refine awpF_region ?_; intro K hK; simp only [push_cast, seval]; (try simp (disch := omega) only [wrapI]); (repeat ((with_reducible refine And.intro ?_ ?_); (focus (exact ob1)))); refine hK _ ?_; clear hK; clear K
  refine awp_seq ?_
  refine awp_seq ?_
  refine awpF_region ?_; intro K hK; simp only [push_cast, seval, bif_or]
  repeat (refine ⟨fun h => by rw [h]; rfl, ?_⟩)
  refine hK _ ?_; clear hK; clear K
  apply awp_cond; (focus (simp only [push_cast, seval]; rfl))
  · intro h1
    have hf : samB s o = false := by
      rw [Bool.eq_false_iff]
      intro hx
      simp only [samB, Bool.and_eq_true, decide_eq_true_eq] at hx
      obtain ⟨e0, e1, e2, e3, e4, e5, e6, e7, e8⟩ := hx
      rw [e0, e1, e2, e3, e4, e5, e6, e7, e8] at h1
      simp at h1
    refine awp_seq ?_
    refine awpF_region ?_; intro K hK; simp only [push_cast, seval]; (try simp (disch := omega) only [wrapI]); (repeat ((with_reducible refine And.intro ?_ ?_); (focus (exact ob1)))); refine hK _ ?_; clear hK; clear K
    refine awp_ret ?_; (repeat (first | refine then_ret ?_ | refine inblock_ret ?_)); refine fin_of (by simp only [push_cast, seval]; first | done | rfl) ob1 ?_
    rw [hf]
  intro h1
  simp only [Bool.or_eq_false_iff, bne_eq_false_iff_eq] at h1
  obtain ⟨⟨⟨⟨⟨⟨⟨⟨e1, e2⟩, e3⟩, e4⟩, e5⟩, e6⟩, e7⟩, e8⟩, e9⟩ := h1
  have hS : samB s o = decide (s.ps = o.ps) := by
    unfold samB
    rw [decide_eq_true (show s.k = o.k ∧ s.ol = o.ol ∧ s.nw = o.nw ∧ s.ph = o.ph ∧ s.st = o.st ∧ s.gt = o.gt ∧ s.bd = o.bd ∧ s.al = o.al from ⟨e1, e2, e3, e4, e5, e6, e7, e8⟩), Bool.and_true]
  rw [hS]
  have hl : s.ps.length = o.ps.length := by omega
  refine awp_skip ?_
  refine awp_seq ?_
  refine awp_seq ?_
  refine awpF_region ?_; intro K hK; simp only [push_cast, seval]; (try simp (disch := omega) only [wrapI]); (repeat ((with_reducible refine And.intro ?_ ?_); (focus (exact ob1)))); refine hK _ ?_; clear hK; clear K
  refine awp_block ?_
  refine awp_loopP (α := Nat) (st := fun i => ⟨[(2, .ptr 0 0 0), (3, .ptr 1 0 0), (5, .d (.int .i64 i))], [.cells [.d (.int .i64 s.k), .d (.int .i64 s.ol), .d (.int .i64 s.nw), .d (.sl (s.ps.map encG)), .d (.int .i64 s.ph), .d (.int .i64 s.st), .d (.int .i64 s.gt), .d (.int .i64 s.bd), .d (.int .i64 s.al)], .cells [.d (.int .i64 o.k), .d (.int .i64 o.ol), .d (.int .i64 o.nw), .d (.sl (o.ps.map encG)), .d (.int .i64 o.ph), .d (.int .i64 o.st), .d (.int .i64 o.gt), .d (.int .i64 o.bd), .d (.int .i64 o.al)]]⟩) (inv := fun i => i ≤ s.ps.length ∧ ∀ j (h : j < s.ps.length), j < i → s.ps[j] = o.ps[j]'(by omega)) (μ := fun i => s.ps.length - i) (x0 := 0) (r0 := [0, 1]) ?_ ?_ ?_
  · exact ⟨Nat.zero_le _, fun j h h2 => by omega⟩
  · exact ⟨by simp, by simp, by simp [push_cast, seval], by simp [push_cast, seval], by simp [push_cast, seval], by simp [push_cast, seval]⟩
  rintro i ⟨hi, hall⟩
  refine awp_seq ?_
  refine awp_seq ?_
  refine awpF_region ?_; intro K hK; simp only [push_cast, seval]; (try simp (disch := omega) only [wrapI]); (repeat ((with_reducible refine And.intro ?_ ?_); (focus (exact ob1)))); refine hK _ ?_; clear hK; clear K
  apply awp_cond; (focus (simp only [push_cast, seval]; rfl))
  · intro h3; (try simp only [decide_eq_true_eq, decide_eq_false_iff_not, Bool.not_eq_true', Bool.not_eq_false', Bool.and_eq_true, Bool.or_eq_true, Bool.not_eq_true] at h3)
    have hi2 : i < s.ps.length := by omega
    have hi3 : i < o.ps.length := by omega
    have wi : IntKind.i64.wrap ((i : Int) + 1) = (i : Int) + 1 := wrapI _ (by omega)
    have g1 : (s.ps.map encG)[i]? = some (encG s.ps[i]) := by rw [List.getElem?_map, List.getElem?_eq_getElem hi2]; rfl
    have g2 : (o.ps.map encG)[i]? = some (encG o.ps[i]) := by rw [List.getElem?_map, List.getElem?_eq_getElem hi3]; rfl
    simp only [encG] at g1 g2
    refine awp_skip ?_
    refine awp_seq ?_
    refine awp_block ?_
    refine awp_seq ?_
    refine awpF_draw [0,1,2,3,4,5,6,7,8,9,10] (by kernel_rfl) (by kernel_rfl) rfl ?_; intro K hK; simp only [push_cast, seval, g1, g2, Int.toNat_natCast]
    repeat (with_reducible refine And.intro ?_ ?_; (focus (first | exact hqs | exact hqt | omega)))
    refine hK _ ?_; clear hK; clear K
    have hE := stg_cmp s.ps[i] o.ps[i]
    apply awp_cond; (focus (simp only [push_cast, seval]; rfl))
    · intro h4
      refine awp_seq ?_
      refine awpF_region ?_; intro K hK; simp only [push_cast, seval]; (try simp (disch := omega) only [wrapI]); (repeat ((with_reducible refine And.intro ?_ ?_); (focus (exact ob1)))); refine hK _ ?_; clear hK; clear K
      refine awp_ret ?_; (repeat (first | refine then_ret ?_ | refine inblock_ret ?_)); refine fin_of (by simp only [push_cast, seval]; first | done | rfl) ob1 ?_
      rw [decide_eq_false]
      intro e
      have : s.ps[i] = o.ps[i] := by simp only [e]
      rw [hE, decide_eq_true this] at h4
      exact absurd h4 (by decide)
    · intro h4
      rw [hE] at h4
      have h5 : s.ps[i] = o.ps[i] := by
        cases hx : decide (s.ps[i] = o.ps[i]) with
        | true => exact of_decide_eq_true hx
        | false => rw [hx] at h4; exact absurd h4 (by decide)
      refine awp_skip ?_
      refine inblock_norm ?_
      refine awpF_region ?_; intro K hK; simp only [push_cast, seval, wi]; (try simp (disch := omega) only [wrapI]); (repeat ((with_reducible refine And.intro ?_ ?_); (focus (exact ob1)))); refine hK _ ?_; clear hK; clear K
      refine round_endG (i + 1) [0, 1] ⟨by omega, ⟨by omega, fun j hj h6 => ?_⟩, ?_⟩
      · rcases Nat.lt_or_ge j i with h7 | h7
        · exact hall j hj h7
        · obtain rfl : j = i := by omega
          exact h5
      · exact ⟨by simp, by simp, by simp [push_cast, seval], by simp [push_cast, seval], by simp [push_cast, seval], by simp [push_cast, seval]⟩
  · intro h3; (try simp only [decide_eq_true_eq, decide_eq_false_iff_not, Bool.not_eq_true', Bool.not_eq_false', Bool.and_eq_true, Bool.or_eq_true, Bool.not_eq_true] at h3)
    refine awp_exit ?_; (repeat (first | refine then_exit ?_ | refine inblock_other (by decide) ?_)); refine inblock_same ?_
    refine awp_seq ?_
    refine awpF_region ?_; intro K hK; simp only [push_cast, seval]; (try simp (disch := omega) only [wrapI]); (repeat ((with_reducible refine And.intro ?_ ?_); (focus (exact ob1)))); refine hK _ ?_; clear hK; clear K
    refine awp_ret ?_; (repeat (first | refine then_ret ?_ | refine inblock_ret ?_)); refine fin_of (by simp only [push_cast, seval]; first | done | rfl) ob1 ?_
    rw [decide_eq_true]
    exact List.ext_getElem hl fun j h4 h5 => hall j h4 (by omega)
end Go.Aw
