/-
  Contracts: a running release, and what its stage says of it. Conditions: stages that are not too many.
-/
import Derived.Test.YtmmnjelmahcbaaaGreatPxN33
import Derived.Test.YtmmnjelmahcbaaaGreatPkF
namespace Go.Aw
set_option linter.unusedSimpArgs false
set_option linter.unusedVariables false
open Go.RowKit Go.Proofs Go.Nt Go.Rl

def runC (s : Sta) : Int := if chkS s = 0 then (if s.ph = 1 then 0 else 10) else chkS s
theorem p86 (s : Sta) (hn : s.ps.length ≤ 1000000) (hp1 : -9223372036854775808 ≤ s.ph) (hp2 : s.ph ≤ 9223372036854775807) : PD Tryz.prog 45 [.agg (encS s)] (.d (.int .i64 (runC s))) := by
  have h50 := p50 s hn hp1 hp2
  unfold encS at h50 ⊢
  unfold runC
  generalize chkS s = c at h50 ⊢
  refine pd_of (fn := Tryz.f45) [.tmp 2] (by kernel_rfl) rfl (by kernel_rfl) (Nat.le_of_ble_eq_true rfl) (by kernel_rfl) rfl rfl ?_
  refine awp_seq ?_
  refine awpF_region ?_; intro K hK; simp only [push_cast, seval]; (try simp (disch := omega) only [wrapI]); (repeat ((with_reducible refine And.intro ?_ ?_); (focus (exact ob1)))); refine hK _ ?_; clear hK; clear K
  refine awp_seq ?_
  refine awp_seq ?_
  refine awpF_region ?_; intro K hK; simp only [push_cast, seval]
  refine CallK.pd (h50) ?_; simp only [push_cast, seval]; (try simp (disch := omega) only [wrapI]); (repeat ((with_reducible refine And.intro ?_ ?_); (focus (exact ob1))))
  refine hK _ ?_; clear hK; clear K
  refine awp_seq ?_
  refine awpF_region ?_; intro K hK; simp only [push_cast, seval]; (try simp (disch := omega) only [wrapI]); (repeat ((with_reducible refine And.intro ?_ ?_); (focus (exact ob1)))); refine hK _ ?_; clear hK; clear K
  apply awp_cond; (focus (simp only [push_cast, seval]; rfl))
  · intro h1; (try simp only [decide_eq_true_eq, decide_eq_false_iff_not, Bool.not_eq_true', Bool.not_eq_false', Bool.and_eq_true, Bool.or_eq_true, Bool.not_eq_true] at h1)
    have h2 : ¬ c = 0 := by simpa using h1
    refine awp_seq ?_
    refine awpF_region ?_; intro K hK; simp only [push_cast, seval]; (try simp (disch := omega) only [wrapI]); (repeat ((with_reducible refine And.intro ?_ ?_); (focus (exact ob1)))); refine hK _ ?_; clear hK; clear K
    refine awp_ret ?_; (repeat (first | refine then_ret ?_ | refine inblock_ret ?_)); refine fin_of (by simp only [push_cast, seval]; first | done | rfl) ob1 ?_
    rw [if_neg h2]
  · intro h1; (try simp only [decide_eq_true_eq, decide_eq_false_iff_not, Bool.not_eq_true', Bool.not_eq_false', Bool.and_eq_true, Bool.or_eq_true, Bool.not_eq_true] at h1)
    have h2 : c = 0 := by simpa using h1
    refine awp_skip ?_
    refine awp_seq ?_
    refine awp_seq ?_
    refine awpF_region ?_; intro K hK; simp only [push_cast, seval]; (try simp (disch := omega) only [wrapI]); (repeat ((with_reducible refine And.intro ?_ ?_); (focus (exact ob1)))); refine hK _ ?_; clear hK; clear K
    apply awp_cond; (focus (simp only [push_cast, seval]; rfl))
    · intro h3; (try simp only [decide_eq_true_eq, decide_eq_false_iff_not, Bool.not_eq_true', Bool.not_eq_false', Bool.and_eq_true, Bool.or_eq_true, Bool.not_eq_true] at h3)
      have h4 : ¬ s.ph = 1 := by simpa using h3
      refine awp_seq ?_
      refine awpF_region ?_; intro K hK; simp only [push_cast, seval]; (try simp (disch := omega) only [wrapI]); (repeat ((with_reducible refine And.intro ?_ ?_); (focus (exact ob1)))); refine hK _ ?_; clear hK; clear K
      refine awp_ret ?_; (repeat (first | refine then_ret ?_ | refine inblock_ret ?_)); refine fin_of (by simp only [push_cast, seval]; first | done | rfl) ob1 ?_
      rw [if_pos h2, if_neg h4]
    · intro h3; (try simp only [decide_eq_true_eq, decide_eq_false_iff_not, Bool.not_eq_true', Bool.not_eq_false', Bool.and_eq_true, Bool.or_eq_true, Bool.not_eq_true] at h3)
      have h4 : s.ph = 1 := by simpa using h3
      refine awp_skip ?_
      refine awp_seq ?_
      refine awpF_region ?_; intro K hK; simp only [push_cast, seval]; (try simp (disch := omega) only [wrapI]); (repeat ((with_reducible refine And.intro ?_ ?_); (focus (exact ob1)))); refine hK _ ?_; clear hK; clear K
      refine awp_ret ?_; (repeat (first | refine then_ret ?_ | refine inblock_ret ?_)); refine fin_of (by simp only [push_cast, seval]; first | done | rfl) ob1 ?_
      rw [if_pos h2, if_pos h4]

/-- What a stage says. -/
def judS (s : Sta) (g : Stg) : Sta :=
  if failsB s.gt s.bd g.rn g.rd g.bn g.bd then { s with ph := 3 }
  else if holdsB s.gt s.bd g.rn g.rd g.an g.ad then (if s.st + 1 = s.ps.length then { s with ph := 2 } else { s with st := s.st + 1, gt := 0, bd := 0 })
  else if s.gt ≥ g.le then { s with ph := 3 } else s
theorem p87 (s : Sta) (t : Nat) (ht : s.st = t) (hl : t < s.ps.length) (hn : s.ps.length ≤ 1000000) : PD Tryz.prog 46 [.agg (encS s)] (.agg ((encS (judS s (s.ps[t]'hl))).map .d)) := by
  have hq := encG_len s.ps
  have g1 : (s.ps.map encG)[t]? = some (encG (s.ps[t]'hl)) := by rw [List.getElem?_map, List.getElem?_eq_getElem hl]; rfl
  generalize s.ps[t]'hl = g at g1
  have h26 := p26 s.gt s.bd g.rn g.rd g.bn g.bd
  have h23 := p23 s.gt s.bd g.rn g.rd g.an g.ad
  simp only [encG] at g1
  obtain ⟨k, ol, nw, ps, ph, st, gt, bd, al⟩ := s
  dsimp only at ht hl hn hq g1 h26 h23 ⊢
  subst ht
  unfold judS
  dsimp only
  generalize failsB gt bd g.rn g.rd g.bn g.bd = f at h26 ⊢
  generalize holdsB gt bd g.rn g.rd g.an g.ad = h at h23 ⊢
  obtain ⟨z, hz⟩ : ∃ z, z = (if f = true then (⟨k, ol, nw, ps, 3, t, gt, bd, al⟩ : Sta) else if h = true then (if (t : Int) + 1 = ps.length then ⟨k, ol, nw, ps, 2, t, gt, bd, al⟩ else ⟨k, ol, nw, ps, ph, t + 1, 0, 0, al⟩) else if gt ≥ g.le then ⟨k, ol, nw, ps, 3, t, gt, bd, al⟩ else ⟨k, ol, nw, ps, ph, t, gt, bd, al⟩) := ⟨_, rfl⟩
  rw [← hz]
  unfold encS
  refine pd_of (fn := Tryz.f46) [.cell 2 24] (by kernel_rfl) rfl (by kernel_rfl) (Nat.le_of_ble_eq_true rfl) (by kernel_rfl) rfl rfl ?_
  refine awp_seq ?_
  refine awpF_region ?_; intro K hK; simp only [push_cast, seval]; (try simp (disch := omega) only [wrapI]); (repeat ((with_reducible refine And.intro ?_ ?_); (focus (exact ob1)))); refine hK _ ?_; clear hK; clear K
  refine awp_seq ?_
  refine awpF_region ?_; intro K hK; simp only [push_cast, seval, g1, Int.toNat_natCast]
  repeat (with_reducible refine And.intro ?_ ?_; (focus (first | exact hq | omega)))
  refine hK _ ?_; clear hK; clear K
  refine awp_mid (fun u => u = ⟨[(1, .ptr 0 0 0), (2, .ptr 1 0 0)], [.cells [.d (.int .i64 z.k), .d (.int .i64 z.ol), .d (.int .i64 z.nw), .d (.sl (z.ps.map encG)), .d (.int .i64 z.ph), .d (.int .i64 z.st), .d (.int .i64 z.gt), .d (.int .i64 z.bd), .d (.int .i64 z.al)], .cells [.d (.int .i64 0), .d (.int .i64 0), .d (.int .i64 0), .nil, .d (.int .i64 0), .d (.int .i64 0), .d (.int .i64 0), .d (.int .i64 0), .d (.int .i64 0)]]⟩) ?_ ?_
  · refine awp_block ?_
    refine awp_seq ?_
    refine awpF_region ?_; intro K hK; simp only [push_cast, seval]
    refine CallK.pd (h26) ?_; simp only [push_cast, seval]; (try simp (disch := omega) only [wrapI]); (repeat ((with_reducible refine And.intro ?_ ?_); (focus (exact ob1))))
    refine hK _ ?_; clear hK; clear K
    apply awp_cond; (focus (simp only [push_cast, seval]; rfl))
    · intro hf
      have hf : f = true := hf
      rw [if_pos hf] at hz
      subst hz
      refine awpF_region ?_; intro K hK; simp only [push_cast, seval]; (try simp (disch := omega) only [wrapI]); (repeat ((with_reducible refine And.intro ?_ ?_); (focus (exact ob1)))); refine hK _ ?_; clear hK; clear K
      refine inblock_norm (mid_end [0, 1] _ rfl ?_)
      exact ⟨by simp, by simp, by simp [push_cast, seval], by simp [push_cast, seval], by simp [push_cast, seval], by simp [push_cast, seval]⟩
    · intro hf
      have hf : f = false := hf
      rw [if_neg (by rw [hf]; decide)] at hz
      refine awp_seq ?_
      refine awpF_region ?_; intro K hK; simp only [push_cast, seval]
      refine CallK.pd (h23) ?_; simp only [push_cast, seval]; (try simp (disch := omega) only [wrapI]); (repeat ((with_reducible refine And.intro ?_ ?_); (focus (exact ob1))))
      refine hK _ ?_; clear hK; clear K
      apply awp_cond; (focus (simp only [push_cast, seval]; rfl))
      · intro hh
        have hh : h = true := hh
        rw [if_pos hh] at hz
        have hw : IntKind.i64.wrap ((t : Int) + 1) = (t : Int) + 1 := wrapI _ (by omega)
        refine awp_seq ?_
        refine awp_seq ?_
        refine awpF_region ?_; intro K hK; simp only [push_cast, seval, hw]; (try simp (disch := omega) only [wrapI]); (repeat ((with_reducible refine And.intro ?_ ?_); (focus (exact ob1)))); refine hK _ ?_; clear hK; clear K
        apply awp_cond; (focus (simp only [push_cast, seval]; rfl))
        · intro h5; (try simp only [decide_eq_true_eq, decide_eq_false_iff_not, Bool.not_eq_true', Bool.not_eq_false', Bool.and_eq_true, Bool.or_eq_true, Bool.not_eq_true] at h5)
          have h6 : (t : Int) + 1 = ps.length := by simpa using h5
          rw [if_pos h6] at hz
          subst hz
          refine awp_seq ?_
          refine awpF_region ?_; intro K hK; simp only [push_cast, seval]; (try simp (disch := omega) only [wrapI]); (repeat ((with_reducible refine And.intro ?_ ?_); (focus (exact ob1)))); refine hK _ ?_; clear hK; clear K
          refine awp_exit ?_; (repeat (first | refine then_exit ?_ | refine inblock_other (by decide) ?_)); refine inblock_same ?_
          refine mid_end [0, 1] _ rfl ?_
          exact ⟨by simp, by simp, by simp [push_cast, seval], by simp [push_cast, seval], by simp [push_cast, seval], by simp [push_cast, seval]⟩
        · intro h5; (try simp only [decide_eq_true_eq, decide_eq_false_iff_not, Bool.not_eq_true', Bool.not_eq_false', Bool.and_eq_true, Bool.or_eq_true, Bool.not_eq_true] at h5)
          have h6 : ¬ (t : Int) + 1 = ps.length := by simpa using h5
          rw [if_neg h6] at hz
          subst hz
          refine awp_skip ?_
          refine awp_seq ?_
          refine awpF_region ?_; intro K hK; simp only [push_cast, seval, hw]; (try simp (disch := omega) only [wrapI]); (repeat ((with_reducible refine And.intro ?_ ?_); (focus (exact ob1)))); refine hK _ ?_; clear hK; clear K
          refine awpF_region ?_; intro K hK; simp only [push_cast, seval]; (try simp (disch := omega) only [wrapI]); (repeat ((with_reducible refine And.intro ?_ ?_); (focus (exact ob1)))); refine hK _ ?_; clear hK; clear K
          refine inblock_norm (mid_end [0, 1] _ rfl ?_)
          exact ⟨by simp, by simp, by simp [push_cast, seval], by simp [push_cast, seval], by simp [push_cast, seval], by simp [push_cast, seval]⟩
      · intro hh
        have hh : h = false := hh
        rw [if_neg (by rw [hh]; decide)] at hz
        refine awp_seq ?_
        refine awpF_region ?_; intro K hK; simp only [push_cast, seval]; (try simp (disch := omega) only [wrapI]); (repeat ((with_reducible refine And.intro ?_ ?_); (focus (exact ob1)))); refine hK _ ?_; clear hK; clear K
        apply awp_cond; (focus (simp only [push_cast, seval]; rfl))
        · intro h5; (try simp only [decide_eq_true_eq, decide_eq_false_iff_not, Bool.not_eq_true', Bool.not_eq_false', Bool.and_eq_true, Bool.or_eq_true, Bool.not_eq_true] at h5)
          rw [if_pos h5] at hz
          subst hz
          refine awpF_region ?_; intro K hK; simp only [push_cast, seval]; (try simp (disch := omega) only [wrapI]); (repeat ((with_reducible refine And.intro ?_ ?_); (focus (exact ob1)))); refine hK _ ?_; clear hK; clear K
          refine inblock_norm (mid_end [0, 1] _ rfl ?_)
          exact ⟨by simp, by simp, by simp [push_cast, seval], by simp [push_cast, seval], by simp [push_cast, seval], by simp [push_cast, seval]⟩
        · intro h5; (try simp only [decide_eq_true_eq, decide_eq_false_iff_not, Bool.not_eq_true', Bool.not_eq_false', Bool.and_eq_true, Bool.or_eq_true, Bool.not_eq_true] at h5)
          rw [if_neg h5] at hz
          subst hz
          refine awp_skip ?_
          refine inblock_norm (mid_end [0, 1] _ rfl ?_)
          exact ⟨by simp, by simp, by simp [push_cast, seval], by simp [push_cast, seval], by simp [push_cast, seval], by simp [push_cast, seval]⟩
  · rintro _ rfl
    refine awp_seq ?_
    refine awpF_region ?_; intro K hK; simp only [push_cast, seval]; (try simp (disch := omega) only [wrapI]); (repeat ((with_reducible refine And.intro ?_ ?_); (focus (exact ob1)))); refine hK _ ?_; clear hK; clear K
    refine awp_ret ?_; (repeat (first | refine then_ret ?_ | refine inblock_ret ?_)); refine fin_of (by simp only [push_cast, seval]; first | done | rfl) ob1 ?_
    rfl
end Go.Aw
