/-
  Texts of the library, one behind the other. Over any program; no condition.
-/
import Derived.Test.YtmmnjelmahcbaaaGreatPkE
import Derived.Test.YtmmnjelmahcbaaaGreatPkF
import Derived.Test.YtmmnjelmahcbaaaGreatPxB3a
import Derived.Test.YtmmnjelmahcbaaaGreatPxN22
namespace Go.Aw
set_option linter.unusedSimpArgs false
set_option linter.unusedVariables false
open Go.RowKit Go.Proofs Go.Nt

abbrev B32 : Nat := 4294967296
def encU (x : Nat) : List D := [.int .u32 x]
theorem u32w (n : Nat) (h : n < 4294967296) : IntKind.u32.wrap (n : Int) = n := by rw [IntKind.wrap_u32]; omega
/-- How many words. -/
def nu (n : Nat) : Nat := (digs B32 n).length
theorem nu_mul (a b : Nat) : nu (a * b) ≤ nu a + nu b := by
  unfold nu
  have ha := val_lt (B := B32) (by decide) (digs_ok (by decide) a)
  have hb := val_lt (B := B32) (by decide) (digs_ok (by decide) b)
  rw [val_digs (by decide)] at ha hb
  refine digs_len (by decide) _ _ ?_
  rw [Nat.pow_add]
  exact Nat.mul_lt_mul'' ha hb
theorem nu_mono {a b : Nat} (h : a ≤ b) : nu a ≤ nu b := digs_mono (by decide) h

theorem p99 (l : List Nat) (hok : Ok B32 l) (hn : l.length ≤ 1000000) : PD Tryz.prog 128 [.sl (l.map encU)] (.d (.sl ((digs B32 (val B32 l)).map encU))) := by
  refine pd_of (fn := Tryz.f128) [.tmp 2] (by kernel_rfl) rfl (by kernel_rfl) (Nat.le_of_ble_eq_true rfl) (by kernel_rfl) rfl rfl ?_
  refine awp_seq ?_
  refine awpF_region ?_; intro K hK; simp only [push_cast, seval]; (try simp (disch := omega) only [wrapI]); (repeat ((with_reducible refine And.intro ?_ ?_); (focus (exact ob1)))); refine hK _ ?_; clear hK; clear K
  refine awp_seq ?_
  refine awp_block ?_
  refine awp_loopP (st := fun (m : List Nat) => ⟨[(0, .d (.sl (m.map encU)))], []⟩) (inv := fun m => Ok B32 m ∧ val B32 m = val B32 l ∧ m.length ≤ 1000000) (μ := fun m => m.length) (x0 := l) (r0 := []) ?_ ?_ ?_
  · exact ⟨hok, rfl, hn⟩
  · exact ⟨by simp, by simp, by simp [push_cast, seval], by simp [push_cast, seval], by simp [push_cast, seval], by simp [push_cast, seval]⟩
  rintro m ⟨hm, hv, hl⟩
  rcases Nat.eq_zero_or_pos m.length with h0 | h0
  · have hz : ((m.length : Int) > 0) = False := by simp [h0]
    refine awp_seq ?_
    refine awp_seq ?_
    have hx : ∀ i : Nat, m[i]? = none := fun i => by simp; omega
    refine awpF_region ?_; intro K hK; simp only [push_cast, seval, hz, hx]
    refine hK _ ?_; clear hK; clear K
    apply awp_cond; (focus (simp only [push_cast, seval]; rfl))
    · intro h1; (try simp only [decide_eq_true_eq, decide_eq_false_iff_not, Bool.not_eq_true', Bool.not_eq_false', Bool.and_eq_true, Bool.or_eq_true, Bool.not_eq_true] at h1)
      cases h1
    intro h1; (try simp only [decide_eq_true_eq, decide_eq_false_iff_not, Bool.not_eq_true', Bool.not_eq_false', Bool.and_eq_true, Bool.or_eq_true, Bool.not_eq_true] at h1)
    refine awp_exit ?_; (repeat (first | refine then_exit ?_ | refine inblock_other (by decide) ?_)); refine inblock_same ?_
    refine awp_seq ?_
    refine awpF_region ?_; intro K hK; simp only [push_cast, seval]; (try simp (disch := omega) only [wrapI]); (repeat ((with_reducible refine And.intro ?_ ?_); (focus (exact ob1)))); refine hK _ ?_; clear hK; clear K
    refine awp_ret ?_; (repeat (first | refine then_ret ?_ | refine inblock_ret ?_)); refine fin_of (by simp only [push_cast, seval]; first | done | rfl) ob1 ?_
    rw [← hv, List.eq_nil_of_length_eq_zero h0]
    simp [val, digs_zero]
  · obtain ⟨m', x, hmx⟩ : ∃ m' x, m = m' ++ [x] := by
      rcases List.eq_nil_or_concat m with rfl | ⟨m', x, h⟩
      · simp at h0
      · exact ⟨m', x, by simpa using h⟩
    have hml : m'.length + 1 = m.length := by simp [hmx]
    have hz : ((m.length : Int) > 0) = True := by simp; omega
    have hw : IntKind.i64.wrap ((m.length : Int) - 1) = (m'.length : Int) := by rw [wrapI _ (by omega)]; omega
    have hx : m[m'.length]? = some x := by simp [hmx]
    have hs : (m.map encU).take m'.length = m'.map encU := by rw [hmx, List.map_append, List.take_left' (by simp)]
    refine awp_seq ?_
    refine awp_seq ?_
    refine awpF_region ?_; intro K hK; simp only [push_cast, seval, hz, hw, hx, encU, Int.toNat_natCast]
    (repeat ((with_reducible refine And.intro ?_ ?_); (focus (exact ob1))))
    refine hK _ ?_; clear hK; clear K
    apply awp_cond; (focus (simp only [push_cast, seval]; rfl))
    · intro h1; (try simp only [decide_eq_true_eq, decide_eq_false_iff_not, Bool.not_eq_true', Bool.not_eq_false', Bool.and_eq_true, Bool.or_eq_true, Bool.not_eq_true] at h1)
      refine awp_skip ?_
      refine awp_block ?_
      refine awpF_region ?_; intro K hK; simp only [push_cast, seval, hz, hw, hs, encU, Int.toNat_natCast]
      (repeat ((with_reducible refine And.intro ?_ ?_); (focus (exact ob1))))
      refine hK _ ?_; clear hK; clear K
      refine inblock_norm ?_
      refine round_end (y := m') (r := []) (by omega) ⟨(hmx ▸ hm).left, ?_, by omega⟩ ?_
      · have hx0 : x = 0 := by simpa using h1
        rw [← hv, hmx, hx0, digs_snoc_zero]
      · rw [Nat.sub_zero, hs]; exact ⟨by simp, by simp, by simp [push_cast, seval], by simp [push_cast, seval], by simp [push_cast, seval], by simp [push_cast, seval]⟩
    · intro h1; (try simp only [decide_eq_true_eq, decide_eq_false_iff_not, Bool.not_eq_true', Bool.not_eq_false', Bool.and_eq_true, Bool.or_eq_true, Bool.not_eq_true] at h1)
      refine awp_exit ?_; (repeat (first | refine then_exit ?_ | refine inblock_other (by decide) ?_)); refine inblock_same ?_
      refine awp_seq ?_
      refine awpF_region ?_; intro K hK; simp only [push_cast, seval]; (try simp (disch := omega) only [wrapI]); (repeat ((with_reducible refine And.intro ?_ ?_); (focus (exact ob1)))); refine hK _ ?_; clear hK; clear K
      refine awp_ret ?_; (repeat (first | refine then_ret ?_ | refine inblock_ret ?_)); refine fin_of (by simp only [push_cast, seval]; first | done | rfl) ob1 ?_
      rw [← hv, ← trim_last (by decide) hm (.inr ⟨m', x, hmx, by simpa using h1⟩)]

theorem p98 (l : List Nat) (i : Nat) (hok : Ok B32 l) (hn : l.length ≤ 1000000) (hi : i ≤ 1000000) : PD Tryz.prog 127 [.sl (l.map encU), .int .i64 i] (.d (.int .u64 (l[i]?.getD 0 : Nat))) := by
  refine pd_of (fn := Tryz.f127) [.tmp 4] (by kernel_rfl) rfl (by kernel_rfl) (Nat.le_of_ble_eq_true rfl) (by kernel_rfl) rfl rfl ?_
  refine awp_seq ?_
  refine awpF_region ?_; intro K hK; simp only [push_cast, seval]; (try simp (disch := omega) only [wrapI]); (repeat ((with_reducible refine And.intro ?_ ?_); (focus (exact ob1)))); refine hK _ ?_; clear hK; clear K
  refine awp_seq ?_
  refine awp_seq ?_
  refine awpF_region ?_; intro K hK; simp only [push_cast, seval]; (try simp (disch := omega) only [wrapI]); (repeat ((with_reducible refine And.intro ?_ ?_); (focus (exact ob1)))); refine hK _ ?_; clear hK; clear K
  apply awp_cond; (focus (simp only [push_cast, seval]; rfl))
  · intro h1; (try simp only [decide_eq_true_eq, decide_eq_false_iff_not, Bool.not_eq_true', Bool.not_eq_false', Bool.and_eq_true, Bool.or_eq_true, Bool.not_eq_true] at h1)
    have hlt : i < l.length := by omega
    have hg := List.getElem?_eq_getElem (l := l) (i := i) hlt
    have hx : l[i] < B32 := hok _ (List.getElem_mem hlt)
    have hw : IntKind.u64.wrap ((l[i] : Nat) : Int) = l[i] := uwn _ (by simp only [B32] at hx; omega)
    refine awp_seq ?_
    refine awpF_region ?_; intro K hK; simp only [push_cast, seval, hg, encU, Int.toNat_natCast, hw]
    (repeat ((with_reducible refine And.intro ?_ ?_); (focus (exact ob1))))
    refine hK _ ?_; clear hK; clear K
    refine awp_ret ?_; (repeat (first | refine then_ret ?_ | refine inblock_ret ?_)); refine fin_of (by simp only [push_cast, seval]; first | done | rfl) ob1 ?_
    rw [hg]
    rfl
  · intro h1; (try simp only [decide_eq_true_eq, decide_eq_false_iff_not, Bool.not_eq_true', Bool.not_eq_false', Bool.and_eq_true, Bool.or_eq_true, Bool.not_eq_true] at h1)
    have hg : l[i]? = none := List.getElem?_eq_none (by omega)
    refine awp_skip ?_
    refine awp_seq ?_
    refine awpF_region ?_; intro K hK; simp only [push_cast, seval]; (try simp (disch := omega) only [wrapI]); (repeat ((with_reducible refine And.intro ?_ ?_); (focus (exact ob1)))); refine hK _ ?_; clear hK; clear K
    refine awp_ret ?_; (repeat (first | refine then_ret ?_ | refine inblock_ret ?_)); refine fin_of (by simp only [push_cast, seval]; first | done | rfl) ob1 ?_
    rw [hg]
    rfl

theorem split32 (t : Nat) : ∃ s c' : Nat, s < B32 ∧ s + B32 * c' = t ∧ IntKind.u32.wrap (t : Int) = (s : Int) ∧ (t : Int) / 4294967296 = (c' : Int) := by
  refine ⟨t % B32, t / B32, Nat.mod_lt _ (by decide), Nat.mod_add_div _ _, ?_, ?_⟩
  · rw [IntKind.wrap_u32]; simp only [B32]; omega
  · simp only [B32]; omega

theorem p72 (a b : Nat) (ha : nu a ≤ 500000) (hb : nu b ≤ 500000) : PD Tryz.prog 106 [(Go.Aw.D.sl ((digs B32 (a)).map encU)), (Go.Aw.D.sl ((digs B32 (b)).map encU))] (.d ((Go.Aw.D.sl ((digs B32 (a + b)).map encU)))) := by
  unfold nu at *
  have hox := digs_ok (B := B32) (by decide) a
  have hoy := digs_ok (B := B32) (by decide) b
  have hvx := val_digs (B := B32) (by decide) a
  have hvy := val_digs (B := B32) (by decide) b
  generalize digs B32 a = dx at *
  generalize digs B32 b = dy at *
  have h98x := fun i h => p98 dx i hox (by omega) h
  have h98y := fun i h => p98 dy i hoy (by omega) h
  refine pd_of (fn := Tryz.f106) [.tmp 4] (by kernel_rfl) rfl (by kernel_rfl) (Nat.le_of_ble_eq_true rfl) (by kernel_rfl) rfl rfl ?_
  refine awp_seq ?_
  refine awpF_region ?_; intro K hK; simp only [push_cast, seval]; (try simp (disch := omega) only [wrapI]); (repeat ((with_reducible refine And.intro ?_ ?_); (focus (exact ob1)))); refine hK _ ?_; clear hK; clear K
  refine awp_seq ?_
  refine awpF_region ?_; intro K hK; simp only [push_cast, seval]; (try simp (disch := omega) only [wrapI]); (repeat ((with_reducible refine And.intro ?_ ?_); (focus (exact ob1)))); refine hK _ ?_; clear hK; clear K
  refine awp_seq ?_
  refine awpF_region ?_; intro K hK; simp only [push_cast, seval]; (try simp (disch := omega) only [wrapI]); (repeat ((with_reducible refine And.intro ?_ ?_); (focus (exact ob1)))); refine hK _ ?_; clear hK; clear K
  refine awp_seq ?_
  refine awp_seq ?_
  refine awpF_region ?_; intro K hK; simp only [push_cast, seval]; (try simp (disch := omega) only [wrapI]); (repeat ((with_reducible refine And.intro ?_ ?_); (focus (exact ob1)))); refine hK _ ?_; clear hK; clear K
  refine awp_virt 5 1 (by simp only [push_cast, seval]) ?_
  refine awp_block ?_
  refine awp_loopP (st := fun (p : List Nat × Nat) => ⟨[(0, .d (.sl (dx.map encU))), (1, .d (.sl (dy.map encU))), (5, .ref 0 0 p.1.length), (6, .d (.int .u64 p.2)), (7, .d (.int .i64 p.1.length))], [.data 1 (p.1.map encU)]⟩)
    (inv := fun p => Ok B32 p.1 ∧ p.2 ≤ 1 ∧ (p.1.length ≤ max dx.length dy.length ∨ (p.1.length = max dx.length dy.length + 1 ∧ p.2 = 0)) ∧ val B32 p.1 + B32 ^ p.1.length * p.2 = val B32 (padW dx p.1.length) + val B32 (padW dy p.1.length))
    (μ := fun p => max dx.length dy.length + 1 - p.1.length) (x0 := ([], 0)) (r0 := [0]) ?_ ?_ ?_
  · exact ⟨fun x hx => (by cases hx), Nat.zero_le _, .inl (Nat.zero_le _), by simp [padW, val]⟩
  · exact ⟨by simp, by simp, by simp [push_cast, seval], by simp [push_cast, seval], by simp [push_cast, seval], by simp [push_cast, seval]⟩
  rintro ⟨u, c⟩ ⟨hu, hc, hm, hv⟩
  dsimp only at hu hc hm hv
  refine awp_seq ?_
  refine awp_seq ?_
  refine awpF_region ?_; intro K hK; simp only [push_cast, seval]; (try simp (disch := omega) only [wrapI]); (repeat ((with_reducible refine And.intro ?_ ?_); (focus (exact ob1)))); refine hK _ ?_; clear hK; clear K
  apply awp_cond; (focus (simp only [push_cast, seval]; rfl))
  · intro h1
    have hlt : u.length ≤ max dx.length dy.length := by
      rcases hm with hm | ⟨hm, rfl⟩
      · exact hm
      · exfalso
        simp only [cond_eq_ite] at h1
        have e1 : ¬ ((u.length : Int) < dx.length) := by omega
        have e2 : ¬ ((u.length : Int) < dy.length) := by omega
        simp [e1, e2] at h1
    have h98a := h98x u.length (by omega)
    have h98b := h98y u.length (by omega)
    have hla : dx[u.length]?.getD 0 < 4294967296 := getD_lt (by decide) hox u.length
    have hlb : dy[u.length]?.getD 0 < 4294967296 := getD_lt (by decide) hoy u.length
    generalize hxa : dx[u.length]?.getD 0 = xa at *
    generalize hxb : dy[u.length]?.getD 0 = xb at *
    obtain ⟨t, ht⟩ : ∃ t, xa + xb + c = t := ⟨_, rfl⟩
    have e0 : IntKind.u64.wrap (IntKind.u64.wrap ((c : Int) + xa) + xb) = (t : Int) := by
      rw [show (c : Int) + xa = ((c + xa : Nat) : Int) by omega, uwn _ (by omega), show ((c + xa : Nat) : Int) + xb = (t : Int) by omega, uwn _ (by omega)]
    obtain ⟨s, c', hs, hst, e1, e2⟩ := split32 t
    have hadd := add_step (B := B32) (by decide) (by rw [padW_len]) (by rw [padW_len]) hv (hst.trans ht.symm)
    rw [← hxa, ← hxb, ← padW_succ, ← padW_succ] at hadd
    have hc2 : c' ≤ 1 := by simp only [B32] at hst hs; omega
    have hgx : dx.length ≤ u.length → xa = 0 := fun h => by rw [← hxa, List.getElem?_eq_none h]; rfl
    have hgy : dy.length ≤ u.length → xb = 0 := fun h => by rw [← hxb, List.getElem?_eq_none h]; rfl
    have hc3 : max dx.length dy.length ≤ u.length → c' = 0 := fun h => by
      have := hgx (by omega)
      have := hgy (by omega)
      simp only [B32] at hst hs; omega
    have htk : (u.map encU).take u.length = u.map encU := List.take_of_length_le (by simp)
    clear h98x h98y
    refine awp_skip ?_
    refine awp_seq ?_
    refine awp_block ?_
    refine awp_seq ?_
    refine awpF_region ?_; intro K hK; simp only [push_cast, seval]
    refine CallK.pd h98a ?_
    simp only [push_cast, seval]
    refine CallK.pd h98b ?_
    simp only [push_cast, seval, e0]
    refine hK _ ?_; clear hK; clear K
    refine awp_seq ?_
    refine awpF_region ?_; intro K hK; simp only [push_cast, seval, e1, htk]
    (repeat ((with_reducible refine And.intro ?_ ?_); (focus (exact ob1))))
    refine hK _ ?_; clear hK; clear K
    refine awpF_region ?_; intro K hK; simp only [push_cast, seval, e2]; (try simp (disch := omega) only [wrapI]); (repeat ((with_reducible refine And.intro ?_ ?_); (focus (exact ob1)))); refine hK _ ?_; clear hK; clear K
    refine inblock_norm ?_
    refine awpF_region ?_; intro K hK; simp only [push_cast, seval]; (try simp (disch := omega) only [wrapI]); (repeat ((with_reducible refine And.intro ?_ ?_); (focus (exact ob1)))); refine hK _ ?_; clear hK; clear K
    refine round_endG (u ++ [s], c') [0] ⟨?_, ⟨hu.app (.one hs), hc2, ?_, by simpa only [List.length_append, List.length_cons, List.length_nil] using hadd⟩, ?_⟩
    · simp only [List.length_append, List.length_cons, List.length_nil]; omega
    · simp only [List.length_append, List.length_cons, List.length_nil]
      rcases Nat.lt_or_ge u.length (max dx.length dy.length) with h | h
      · exact .inl (by omega)
      · exact .inr ⟨by omega, hc3 h⟩
    · rw [List.map_append, List.length_append, show List.map encU [s] = [[D.int .u32 s]] from rfl]
      exact ⟨by simp, by simp, by simp [push_cast, seval], by simp [push_cast, seval], by simp [push_cast, seval], by simp [push_cast, seval]⟩
  · intro h1
    have h2 : dx.length ≤ u.length ∧ dy.length ≤ u.length ∧ c = 0 := by
      by_cases e1 : (u.length : Int) < dx.length
      · simp [e1] at h1
      · by_cases e2 : (u.length : Int) < dy.length
        · simp [e2] at h1
        · simp [e1, e2] at h1
          omega
    obtain ⟨h2, h3, rfl⟩ := h2
    have h99 := p99 u hu (by omega)
    rw [padW_all B32 dx _ h2, padW_all B32 dy _ h3, hvx, hvy, Nat.mul_zero, Nat.add_zero] at hv
    rw [hv] at h99
    have htk : (u.map encU).take u.length = u.map encU := List.take_of_length_le (by simp)
    refine awp_exit ?_; (repeat (first | refine then_exit ?_ | refine inblock_other (by decide) ?_)); refine inblock_same ?_
    refine awp_seq ?_
    refine awpF_region ?_; intro K hK; simp only [push_cast, seval]
    rw [htk]
    refine CallK.pd h99 ?_
    simp only [push_cast, seval]
    refine hK _ ?_; clear hK; clear K
    refine awp_ret ?_; (repeat (first | refine then_ret ?_ | refine inblock_ret ?_)); refine fin_of (by simp only [push_cast, seval]; first | done | rfl) ob1 ?_
    rfl

theorem p97 (n : Nat) (hn : n < 4294967296) : PD Tryz.prog 107 [.int .u32 n] (.d ((Go.Aw.D.sl ((digs B32 (n)).map encU)))) := by
  show PD Tryz.prog 107 _ (ofD ((Go.Aw.D.sl ((digs B32 (n)).map encU))))
  refine pdd_of (fn := Tryz.f107) [.tmp 2] (by kernel_rfl) rfl (by kernel_rfl) (Nat.le_of_ble_eq_true rfl) (by kernel_rfl) rfl ?_
  refine awp_seq ?_
  refine awpF_region ?_; intro K hK; simp only [push_cast, seval]; (try simp (disch := omega) only [wrapI]); (repeat ((with_reducible refine And.intro ?_ ?_); (focus (exact ob1)))); refine hK _ ?_; clear hK; clear K
  refine awp_seq ?_
  refine awp_seq ?_
  refine awpF_region ?_; intro K hK; simp only [push_cast, seval]; (try simp (disch := omega) only [wrapI]); (repeat ((with_reducible refine And.intro ?_ ?_); (focus (exact ob1)))); refine hK _ ?_; clear hK; clear K
  apply awp_cond; (focus (simp only [push_cast, seval]; rfl))
  · intro h1; (try simp only [decide_eq_true_eq, decide_eq_false_iff_not, Bool.not_eq_true', Bool.not_eq_false', Bool.and_eq_true, Bool.or_eq_true, Bool.not_eq_true] at h1)
    obtain rfl : n = 0 := by simpa using h1
    refine awp_seq ?_
    refine awpF_region ?_; intro K hK; simp only [push_cast, seval]; (try simp (disch := omega) only [wrapI]); (repeat ((with_reducible refine And.intro ?_ ?_); (focus (exact ob1)))); refine hK _ ?_; clear hK; clear K
    refine awp_ret ?_; (repeat (first | refine then_ret ?_ | refine inblock_ret ?_)); refine fin_of (by simp only [push_cast, seval]; first | done | rfl) ob1 ?_
    rw [digs_zero]
    exact Deep.nil
  · intro h1; (try simp only [decide_eq_true_eq, decide_eq_false_iff_not, Bool.not_eq_true', Bool.not_eq_false', Bool.and_eq_true, Bool.or_eq_true, Bool.not_eq_true] at h1)
    have h0 : n ≠ 0 := by simp only [beq_eq_false_iff_ne] at h1; omega
    have e : digs B32 n = [n] := by
      rw [digs_pos (by decide) h0, Nat.mod_eq_of_lt hn, Nat.div_eq_of_lt hn, digs_zero]
    rw [e]
    refine awp_skip ?_
    refine awp_seq ?_
    refine awpF_region ?_; intro K hK; simp only [push_cast, seval]; (try simp (disch := omega) only [wrapI]); (repeat ((with_reducible refine And.intro ?_ ?_); (focus (exact ob1)))); refine hK _ ?_; clear hK; clear K
    refine awp_ret ?_; (repeat (first | refine then_ret ?_ | refine inblock_ret ?_)); refine fin_of (by simp only [push_cast, seval]; first | done | rfl) ob1 ?_
    exact Deep.data 0 0 1 1 [[D.int .u32 n]] rfl (Nat.le_refl _)

theorem p63 (a k : Nat) (ha : nu a ≤ 500000) (hk : k < 4294967296) : PD Tryz.prog 104 [(Go.Aw.D.sl ((digs B32 (a)).map encU)), .int .u32 k] (.d ((Go.Aw.D.sl ((digs B32 (a * k)).map encU)))) := by
  unfold nu at *
  have hox := digs_ok (B := B32) (by decide) a
  have hvx := val_digs (B := B32) (by decide) a
  generalize digs B32 a = dx at *
  have h98x := fun i h => p98 dx i hox (by omega) h
  have wk : IntKind.u64.wrap (k : Int) = k := uwn _ (by omega)
  refine pd_of (fn := Tryz.f104) [.tmp 4] (by kernel_rfl) rfl (by kernel_rfl) (Nat.le_of_ble_eq_true rfl) (by kernel_rfl) rfl rfl ?_
  refine awp_seq ?_
  refine awpF_region ?_; intro K hK; simp only [push_cast, seval]; (try simp (disch := omega) only [wrapI]); (repeat ((with_reducible refine And.intro ?_ ?_); (focus (exact ob1)))); refine hK _ ?_; clear hK; clear K
  refine awp_seq ?_
  refine awpF_region ?_; intro K hK; simp only [push_cast, seval]; (try simp (disch := omega) only [wrapI]); (repeat ((with_reducible refine And.intro ?_ ?_); (focus (exact ob1)))); refine hK _ ?_; clear hK; clear K
  refine awp_seq ?_
  refine awpF_region ?_; intro K hK; simp only [push_cast, seval]; (try simp (disch := omega) only [wrapI]); (repeat ((with_reducible refine And.intro ?_ ?_); (focus (exact ob1)))); refine hK _ ?_; clear hK; clear K
  refine awp_seq ?_
  refine awp_seq ?_
  refine awpF_region ?_; intro K hK; simp only [push_cast, seval]; (try simp (disch := omega) only [wrapI]); (repeat ((with_reducible refine And.intro ?_ ?_); (focus (exact ob1)))); refine hK _ ?_; clear hK; clear K
  refine awp_virt 5 1 (by simp only [push_cast, seval]) ?_
  refine awp_block ?_
  refine awp_loopP (st := fun (p : List Nat × Nat) => ⟨[(0, .d (.sl (dx.map encU))), (1, .d (.int .u32 k)), (5, .ref 0 0 p.1.length), (6, .d (.int .u64 p.2)), (7, .d (.int .i64 p.1.length))], [.data 1 (p.1.map encU)]⟩)
    (inv := fun p => Ok B32 p.1 ∧ p.2 < B32 ∧ (p.1.length ≤ dx.length ∨ (p.1.length = dx.length + 1 ∧ p.2 = 0)) ∧ val B32 p.1 + B32 ^ p.1.length * p.2 = val B32 (padW dx p.1.length) * k)
    (μ := fun p => dx.length + 1 - p.1.length) (x0 := ([], 0)) (r0 := [0]) ?_ ?_ ?_
  · exact ⟨fun x hx => (by cases hx), by decide, .inl (Nat.zero_le _), by simp [padW, val]⟩
  · exact ⟨by simp, by simp, by simp [push_cast, seval], by simp [push_cast, seval], by simp [push_cast, seval], by simp [push_cast, seval]⟩
  rintro ⟨u, c⟩ ⟨hu, hc, hm, hv⟩
  dsimp only at hu hc hm hv
  refine awp_seq ?_
  refine awp_seq ?_
  refine awpF_region ?_; intro K hK; simp only [push_cast, seval]; (try simp (disch := omega) only [wrapI]); (repeat ((with_reducible refine And.intro ?_ ?_); (focus (exact ob1)))); refine hK _ ?_; clear hK; clear K
  apply awp_cond; (focus (simp only [push_cast, seval]; rfl))
  · intro h1
    have hlt : u.length ≤ dx.length := by
      rcases hm with hm | ⟨hm, rfl⟩
      · exact hm
      · exfalso
        have e1 : ¬ ((u.length : Int) < dx.length) := by omega
        simp [e1] at h1
    have h98a := h98x u.length (by omega)
    have hla : dx[u.length]?.getD 0 < 4294967296 := getD_lt (by decide) hox u.length
    generalize hxa : dx[u.length]?.getD 0 = xa at *
    have hxk : xa * k ≤ 4294967295 * 4294967295 := Nat.mul_le_mul (by omega) (by omega)
    simp only [B32] at hc
    obtain ⟨t, ht⟩ : ∃ t, xa * k + c = t := ⟨_, rfl⟩
    have e0 : IntKind.u64.wrap ((c : Int) + IntKind.u64.wrap ((xa : Int) * k)) = (t : Int) := by
      rw [← Int.natCast_mul, uwn _ (by omega), show (c : Int) + ((xa * k : Nat) : Int) = (t : Int) by omega, uwn _ (by omega)]
    obtain ⟨s, c', hs, hst, e1, e2⟩ := split32 t
    have hadd := mul_step (B := B32) (k := k) (by rw [padW_len]) hv (hst.trans ht.symm)
    rw [← hxa, ← padW_succ] at hadd
    have hc2 : c' < B32 := by
      simp only [B32] at hst hs ⊢
      omega
    have hgx : dx.length ≤ u.length → c' = 0 := fun h => by
      have : xa = 0 := by rw [← hxa, List.getElem?_eq_none h]; rfl
      subst this
      simp only [B32] at hst hs; omega
    have htk : (u.map encU).take u.length = u.map encU := List.take_of_length_le (by simp)
    clear h98x
    refine awp_skip ?_
    refine awp_seq ?_
    refine awp_block ?_
    refine awp_seq ?_
    refine awpF_region ?_; intro K hK; simp only [push_cast, seval, wk]
    refine CallK.pd h98a ?_
    simp only [push_cast, seval, wk, e0]
    refine hK _ ?_; clear hK; clear K
    refine awp_seq ?_
    refine awpF_region ?_; intro K hK; simp only [push_cast, seval, e1, htk]
    (repeat ((with_reducible refine And.intro ?_ ?_); (focus (exact ob1))))
    refine hK _ ?_; clear hK; clear K
    refine awpF_region ?_; intro K hK; simp only [push_cast, seval, e2]; (try simp (disch := omega) only [wrapI]); (repeat ((with_reducible refine And.intro ?_ ?_); (focus (exact ob1)))); refine hK _ ?_; clear hK; clear K
    refine inblock_norm ?_
    refine awpF_region ?_; intro K hK; simp only [push_cast, seval]; (try simp (disch := omega) only [wrapI]); (repeat ((with_reducible refine And.intro ?_ ?_); (focus (exact ob1)))); refine hK _ ?_; clear hK; clear K
    refine round_endG (u ++ [s], c') [0] ⟨?_, ⟨hu.app (.one hs), hc2, ?_, by simpa only [List.length_append, List.length_cons, List.length_nil] using hadd⟩, ?_⟩
    · simp only [List.length_append, List.length_cons, List.length_nil]; omega
    · simp only [List.length_append, List.length_cons, List.length_nil]
      rcases Nat.lt_or_ge u.length dx.length with h | h
      · exact .inl (by omega)
      · exact .inr ⟨by omega, hgx h⟩
    · rw [List.map_append, List.length_append, show List.map encU [s] = [[D.int .u32 s]] from rfl]
      exact ⟨by simp, by simp, by simp [push_cast, seval], by simp [push_cast, seval], by simp [push_cast, seval], by simp [push_cast, seval]⟩
  · intro h1
    have h2 : dx.length ≤ u.length ∧ c = 0 := by
      by_cases e1 : (u.length : Int) < dx.length
      · simp [e1] at h1
      · simp [e1] at h1
        omega
    obtain ⟨h2, rfl⟩ := h2
    have h99 := p99 u hu (by omega)
    rw [padW_all B32 dx _ h2, hvx, Nat.mul_zero, Nat.add_zero] at hv
    rw [hv] at h99
    have htk : (u.map encU).take u.length = u.map encU := List.take_of_length_le (by simp)
    refine awp_exit ?_; (repeat (first | refine then_exit ?_ | refine inblock_other (by decide) ?_)); refine inblock_same ?_
    refine awp_seq ?_
    refine awpF_region ?_; intro K hK; simp only [push_cast, seval]
    rw [htk]
    refine CallK.pd h99 ?_
    simp only [push_cast, seval]
    refine hK _ ?_; clear hK; clear K
    refine awp_ret ?_; (repeat (first | refine then_ret ?_ | refine inblock_ret ?_)); refine fin_of (by simp only [push_cast, seval]; first | done | rfl) ob1 ?_
    rfl
end Go.Aw

namespace Go.Aw
set_option linter.unusedSimpArgs false
set_option linter.unusedVariables false
open Go.RowKit Go.Proofs Go.Nt

theorem p61 (a b : Nat) (ha : nu a ≤ 500000) (hb : nu b ≤ 500000) : PC Tryz.prog 105 [(Go.Aw.D.sl ((digs B32 (a)).map encU)), (Go.Aw.D.sl ((digs B32 (b)).map encU))] fun x H => ∃ c : Int, x = .d (.int .i64 c) ∧ H = [] ∧ (c < 0 ↔ a < b) ∧ (c = 0 ↔ a = b) := by
  unfold nu at *
  have hoy := digs_ok (B := B32) (by decide) b
  have hox := digs_ok (B := B32) (by decide) a
  have hvx := val_digs (B := B32) (by decide) a
  have hvy := val_digs (B := B32) (by decide) b
  generalize digs B32 a = dx at *
  generalize digs B32 b = dy at *
  have h98x := fun i h => p98 dx i hox (by omega) h
  have h98y := fun i h => p98 dy i hoy (by omega) h
  obtain ⟨m, hm⟩ : ∃ m, max dx.length dy.length = m := ⟨_, rfl⟩
  have hvX := padW_all B32 dx m (by omega)
  have hvY := padW_all B32 dy m (by omega)
  have hlX := padW_len dx m
  have hlY := padW_len dy m
  have hgX : ∀ j, j < m → (padW dx m)[j]? = some (dx[j]?.getD 0) := fun j hj => by simp [padW, hj]
  have hgY : ∀ j, j < m → (padW dy m)[j]? = some (dy[j]?.getD 0) := fun j hj => by simp [padW, hj]
  have hoX : Ok B32 (padW dx m) := fun z hz => by
    obtain ⟨j, _, rfl⟩ := List.mem_map.1 hz
    exact getD_lt (by decide) hox j
  have hoY : Ok B32 (padW dy m) := fun z hz => by
    obtain ⟨j, _, rfl⟩ := List.mem_map.1 hz
    exact getD_lt (by decide) hoy j
  generalize padW dx m = X at *
  generalize padW dy m = Y at *
  have hmax : IntKind.i64.wrap (max (dx.length : Int) (dy.length : Int) - 1) = (m : Int) - 1 := (wrapI _ (by omega)).trans (by omega)
  refine pc_of (fn := Tryz.f105) [.tmp 4] (by kernel_rfl) rfl (by kernel_rfl) (Nat.le_of_ble_eq_true rfl) (by kernel_rfl) rfl ?_
  refine awp_seq ?_
  refine awpF_region ?_; intro K hK; simp only [push_cast, seval]; (try simp (disch := omega) only [wrapI]); (repeat ((with_reducible refine And.intro ?_ ?_); (focus (exact ob1)))); refine hK _ ?_; clear hK; clear K
  refine awp_seq ?_
  refine awp_seq ?_
  refine awpF_region ?_; intro K hK; simp only [push_cast, seval, hmax]; (try simp (disch := omega) only [wrapI]); (repeat ((with_reducible refine And.intro ?_ ?_); (focus (exact ob1)))); refine hK _ ?_; clear hK; clear K
  refine awp_block ?_
  refine awp_loopP (st := fun (k : Nat) => ⟨[(0, .d (.sl (dx.map encU))), (1, .d (.sl (dy.map encU))), (5, .d (.int .i64 ((k : Int) - 1)))], []⟩) (inv := fun k => k ≤ m ∧ X.drop k = Y.drop k) (μ := fun k => k) (x0 := m) (r0 := []) ?_ ?_ ?_
  · exact ⟨Nat.le_refl _, by rw [List.drop_of_length_le (by omega), List.drop_of_length_le (by omega)]⟩
  · exact ⟨by simp, by simp, by simp [push_cast, seval], by simp [push_cast, seval], by simp [push_cast, seval], by simp [push_cast, seval]⟩
  rintro k ⟨hk, hd⟩
  rcases Nat.eq_zero_or_pos k with h0 | h0
  · have hz : ((k : Int) - 1 ≥ 0) = False := by simp; omega
    refine awp_seq ?_
    refine awp_seq ?_
    refine awpF_region ?_; intro K hK; simp only [push_cast, seval, hz]; (try simp (disch := omega) only [wrapI]); (repeat ((with_reducible refine And.intro ?_ ?_); (focus (exact ob1)))); refine hK _ ?_; clear hK; clear K
    apply awp_cond; (focus (simp only [push_cast, seval]; rfl))
    · intro h2; (try simp only [decide_eq_true_eq, decide_eq_false_iff_not, Bool.not_eq_true', Bool.not_eq_false', Bool.and_eq_true, Bool.or_eq_true, Bool.not_eq_true] at h2)
      cases h2
    intro h2; (try simp only [decide_eq_true_eq, decide_eq_false_iff_not, Bool.not_eq_true', Bool.not_eq_false', Bool.and_eq_true, Bool.or_eq_true, Bool.not_eq_true] at h2)
    refine awp_exit ?_; (repeat (first | refine then_exit ?_ | refine inblock_other (by decide) ?_)); refine inblock_same ?_
    refine awp_seq ?_
    refine awpF_region ?_; intro K hK; simp only [push_cast, seval]; (try simp (disch := omega) only [wrapI]); (repeat ((with_reducible refine And.intro ?_ ?_); (focus (exact ob1)))); refine hK _ ?_; clear hK; clear K
    refine awp_ret ?_; (repeat (first | refine then_ret ?_ | refine inblock_ret ?_)); refine fin_of (by simp only [push_cast, seval]; first | done | rfl) ob1 ?_
    have e : a = b := by rw [h0, List.drop_zero, List.drop_zero] at hd; rw [← hvx, ← hvy, ← hvX, ← hvY, hd]
    exact ⟨0, rfl, rfl, by omega, by omega⟩
  · obtain ⟨j, rfl⟩ : ∃ j, k = j + 1 := ⟨k - 1, by omega⟩
    have hi : (((j + 1 : Nat) : Int) - 1) = (j : Int) := by omega
    have hi2 : (((j : Int) + 1) - 1) = (j : Int) := by omega
    have hz : ((j : Int) ≥ 0) = True := by simp
    have h98a := h98x j (by omega)
    have h98b := h98y j (by omega)
    have gx := hgX j (by omega)
    have gy := hgY j (by omega)
    have sx := split_at (l := X) (k := j) (by omega)
    have sy := split_at (l := Y) (k := j) (by omega)
    rw [gx, Option.getD_some] at sx
    rw [gy, Option.getD_some] at sy
    have lx : (X.take j).length = (Y.take j).length := by simp; omega
    have ox : Ok B32 (X.take j) := fun z hz => hoX z (List.mem_of_mem_take hz)
    have oy : Ok B32 (Y.take j) := fun z hz => hoY z (List.mem_of_mem_take hz)
    generalize dx[j]?.getD 0 = x at gx sx h98a
    generalize dy[j]?.getD 0 = y at gy sy h98b
    clear h98x h98y
    refine awp_seq ?_
    refine awp_seq ?_
    refine awpF_region ?_; intro K hK; simp only [push_cast, seval, hi, hi2, hz]; (try simp (disch := omega) only [wrapI]); (repeat ((with_reducible refine And.intro ?_ ?_); (focus (exact ob1)))); refine hK _ ?_; clear hK; clear K
    apply awp_cond; (focus (simp only [push_cast, seval]; rfl))
    · intro h2; (try simp only [decide_eq_true_eq, decide_eq_false_iff_not, Bool.not_eq_true', Bool.not_eq_false', Bool.and_eq_true, Bool.or_eq_true, Bool.not_eq_true] at h2)
      refine awp_skip ?_
      refine awp_seq ?_
      refine awp_block ?_
      refine awp_seq ?_
      refine awpF_region ?_; intro K hK; simp only [push_cast, seval, hi, hi2]
      refine CallK.pd h98a ?_
      simp only [push_cast, seval, hi, hi2]
      refine CallK.pd h98b ?_
      simp only [push_cast, seval, hi, hi2]
      refine hK _ ?_; clear hK; clear K
      apply awp_cond; (focus (simp only [push_cast, seval]; rfl))
      · intro h3; (try simp only [decide_eq_true_eq, decide_eq_false_iff_not, Bool.not_eq_true', Bool.not_eq_false', Bool.and_eq_true, Bool.or_eq_true, Bool.not_eq_true] at h3)
        have hxy : x ≠ y := by simp only [bne_iff_ne] at h3; omega
        refine awp_seq ?_
        refine awp_seq ?_
        refine awpF_region ?_; intro K hK; simp only [push_cast, seval, hi, hi2]
        refine CallK.pd h98a ?_
        simp only [push_cast, seval, hi, hi2]
        refine CallK.pd h98b ?_
        simp only [push_cast, seval, hi, hi2]
        refine hK _ ?_; clear hK; clear K
        apply awp_cond; (focus (simp only [push_cast, seval]; rfl))
        · intro h4; (try simp only [decide_eq_true_eq, decide_eq_false_iff_not, Bool.not_eq_true', Bool.not_eq_false', Bool.and_eq_true, Bool.or_eq_true, Bool.not_eq_true] at h4)
          refine awp_seq ?_
          refine awpF_region ?_; intro K hK; simp only [push_cast, seval]; (try simp (disch := omega) only [wrapI]); (repeat ((with_reducible refine And.intro ?_ ?_); (focus (exact ob1)))); refine hK _ ?_; clear hK; clear K
          refine awp_ret ?_; (repeat (first | refine then_ret ?_ | refine inblock_ret ?_)); refine fin_of (by simp only [push_cast, seval]; first | done | rfl) ob1 ?_
          have := val_cmp (B := B32) (w := X.drop (j + 1)) (by decide) ox lx (show x < y by omega)
          rw [← sx, hd, ← sy, hvX, hvY, hvx, hvy] at this
          exact ⟨-1, rfl, rfl, by omega, by omega⟩
        · intro h4; (try simp only [decide_eq_true_eq, decide_eq_false_iff_not, Bool.not_eq_true', Bool.not_eq_false', Bool.and_eq_true, Bool.or_eq_true, Bool.not_eq_true] at h4)
          refine awp_skip ?_
          refine awp_seq ?_
          refine awpF_region ?_; intro K hK; simp only [push_cast, seval]; (try simp (disch := omega) only [wrapI]); (repeat ((with_reducible refine And.intro ?_ ?_); (focus (exact ob1)))); refine hK _ ?_; clear hK; clear K
          refine awp_ret ?_; (repeat (first | refine then_ret ?_ | refine inblock_ret ?_)); refine fin_of (by simp only [push_cast, seval]; first | done | rfl) ob1 ?_
          have := val_cmp (B := B32) (w := Y.drop (j + 1)) (by decide) oy lx.symm (show y < x by omega)
          rw [← sy, ← hd, ← sx, hvX, hvY, hvx, hvy] at this
          exact ⟨1, rfl, rfl, by omega, by omega⟩
      · intro h3; (try simp only [decide_eq_true_eq, decide_eq_false_iff_not, Bool.not_eq_true', Bool.not_eq_false', Bool.and_eq_true, Bool.or_eq_true, Bool.not_eq_true] at h3)
        have hxy : x = y := by simp only [bne_eq_false_iff_eq] at h3; omega
        refine awp_skip ?_
        refine inblock_norm ?_
        refine awpF_region ?_; intro K hK; simp only [push_cast, seval, hi, hi2]; (try simp (disch := omega) only [wrapI]); (repeat ((with_reducible refine And.intro ?_ ?_); (focus (exact ob1)))); refine hK _ ?_; clear hK; clear K
        refine round_end (y := j) (r := []) (by omega) ⟨by omega, ?_⟩ ?_
        · rw [List.drop_eq_getElem_cons (by omega : j < X.length), List.drop_eq_getElem_cons (by omega : j < Y.length), hd]
          have e1 : X[j]'(by omega) = x := by
            have := List.getElem?_eq_getElem (l := X) (i := j) (by omega)
            rw [gx] at this; simpa using this.symm
          have e2 : Y[j]'(by omega) = y := by
            have := List.getElem?_eq_getElem (l := Y) (i := j) (by omega)
            rw [gy] at this; simpa using this.symm
          rw [e1, e2, hxy]
        · exact ⟨by simp, by simp, by simp [push_cast, seval], by simp [push_cast, seval], by simp [push_cast, seval], by simp [push_cast, seval]⟩
    · intro h2; (try simp only [decide_eq_true_eq, decide_eq_false_iff_not, Bool.not_eq_true', Bool.not_eq_false', Bool.and_eq_true, Bool.or_eq_true, Bool.not_eq_true] at h2)
      cases h2

end Go.Aw

namespace Go.Aw
set_option linter.unusedSimpArgs false
set_option linter.unusedVariables false
open Go.RowKit Go.Proofs Go.Nt Go.Rl

theorem nu_pow {b n : Nat} (hb : b ≤ 1000) (hn : n ≤ 60) : nu (b ^ n) ≤ 19 := by
  refine digs_len (by decide) _ _ (Nat.lt_of_le_of_lt (Nat.pow_le_pow_left hb n) (Nat.lt_of_le_of_lt (Nat.pow_le_pow_right (by decide) hn) (by decide)))

theorem p57 (n k : Int) : PD Tryz.prog 80 [.int .i64 n, .int .i64 k] (.d (.bool (fairB n k))) := by
  refine pd_of (fn := Tryz.f80) [.tmp 4] (by kernel_rfl) rfl (by kernel_rfl) (Nat.le_of_ble_eq_true rfl) (by kernel_rfl) rfl rfl ?_
  refine awp_seq ?_
  refine awpF_region ?_; intro K hK; simp only [push_cast, seval]; (try simp (disch := omega) only [wrapI]); (repeat ((with_reducible refine And.intro ?_ ?_); (focus (exact ob1)))); refine hK _ ?_; clear hK; clear K
  refine awp_seq ?_
  refine awpF_region ?_; intro K hK; simp only [push_cast, seval]; (try simp (disch := omega) only [wrapI]); (repeat ((with_reducible refine And.intro ?_ ?_); (focus (exact ob1)))); refine hK _ ?_; clear hK; clear K
  refine awp_ret ?_; (repeat (first | refine then_ret ?_ | refine inblock_ret ?_)); refine fin_of (by simp only [push_cast, seval]; first | done | rfl) ob1 ?_
  congr 2
  simp only [bif_and, fairB]
  rw [Bool.eq_iff_iff]
  simp only [Bool.and_eq_true, decide_eq_true_eq]
  omega

theorem p60 (n f d : Nat) (hn : n ≤ 60) (hd : d ≤ 1000) : PD Tryz.prog 84 [.int .i64 n, .agg [.int .i64 f, .int .i64 d]] (.d (Go.Aw.D.sl ((digs B32 (d ^ n)).map encU))) := by
  have h97 := p97 1 (by decide)
  have wd : IntKind.u32.wrap (d : Int) = d := u32w d (by omega)
  obtain ⟨pw, hpw⟩ : ∃ f : Nat → Nat, f = fun i => d ^ i := ⟨_, rfl⟩
  have pw0 : pw 0 = 1 := by rw [hpw]; rfl
  have pws : ∀ i, pw i * d = pw (i + 1) := fun i => by rw [hpw]; exact (Nat.pow_succ ..).symm
  have pwb : ∀ i, i ≤ 60 → nu (pw i) ≤ 19 := fun i hi => by rw [hpw]; exact nu_pow hd hi
  rw [show d ^ n = pw n by rw [hpw]]
  refine pd_of (fn := Tryz.f84) [.tmp 4] (by kernel_rfl) rfl (by kernel_rfl) (Nat.le_of_ble_eq_true rfl) (by kernel_rfl) rfl rfl ?_
  refine awp_seq ?_
  refine awpF_region ?_; intro K hK; simp only [push_cast, seval]; (try simp (disch := omega) only [wrapI]); (repeat ((with_reducible refine And.intro ?_ ?_); (focus (exact ob1)))); refine hK _ ?_; clear hK; clear K
  refine awp_seq ?_
  refine awpF_region ?_; intro K hK; simp only [push_cast, seval]
  refine CallK.pd (h97) ?_; simp only [push_cast, seval]; (try simp (disch := omega) only [wrapI]); (repeat ((with_reducible refine And.intro ?_ ?_); (focus (exact ob1))))
  refine hK _ ?_; clear hK; clear K
  refine awp_seq ?_
  refine awp_seq ?_
  refine awpF_region ?_; intro K hK; simp only [push_cast, seval]; (try simp (disch := omega) only [wrapI]); (repeat ((with_reducible refine And.intro ?_ ?_); (focus (exact ob1)))); refine hK _ ?_; clear hK; clear K
  refine awp_block ?_
  refine awp_loopP (st := fun (i : Nat) => ⟨[(0, .d (.int .i64 n)), (3, .ptr 0 0 0), (5, .d (Go.Aw.D.sl ((digs B32 (pw i)).map encU))), (6, .d (.int .i64 i))], [.cells [.d (.int .i64 f), .d (.int .i64 d)]]⟩) (inv := fun i => i ≤ n) (μ := fun i => n - i) (x0 := 0) (r0 := [0]) ?_ ?_ ?_
  · exact Nat.zero_le _
  · rw [pw0]; exact ⟨by simp, by simp, by simp [push_cast, seval], by simp [push_cast, seval], by simp [push_cast, seval], by simp [push_cast, seval]⟩
  intro i hi
  refine awp_seq ?_
  refine awp_seq ?_
  refine awpF_region ?_; intro K hK; simp only [push_cast, seval]; (try simp (disch := omega) only [wrapI]); (repeat ((with_reducible refine And.intro ?_ ?_); (focus (exact ob1)))); refine hK _ ?_; clear hK; clear K
  apply awp_cond; (focus (simp only [push_cast, seval]; rfl))
  · intro h1; (try simp only [decide_eq_true_eq, decide_eq_false_iff_not, Bool.not_eq_true', Bool.not_eq_false', Bool.and_eq_true, Bool.or_eq_true, Bool.not_eq_true] at h1)
    have h63 := p63 (pw i) d (Nat.le_trans (pwb i (by omega)) (by decide)) (by omega)
    rw [pws] at h63
    have hwi : IntKind.i64.wrap ((i : Int) + 1) = (i : Int) + 1 := wrapI _ (by omega)
    refine awp_skip ?_
    refine awp_seq ?_
    refine awp_block ?_
    refine awpF_region ?_; intro K hK; simp only [push_cast, seval, wd]
    refine CallK.pd (h63) ?_; simp only [push_cast, seval]; (try simp (disch := omega) only [wrapI]); (repeat ((with_reducible refine And.intro ?_ ?_); (focus (exact ob1))))
    refine hK _ ?_; clear hK; clear K
    refine inblock_norm ?_
    refine awpF_region ?_; intro K hK; simp only [push_cast, seval, hwi]; (try simp (disch := omega) only [wrapI]); (repeat ((with_reducible refine And.intro ?_ ?_); (focus (exact ob1)))); refine hK _ ?_; clear hK; clear K
    refine round_end (y := i + 1) (r := [0]) (by omega) (by omega) ?_
    exact ⟨by simp, by simp, by simp [push_cast, seval], by simp [push_cast, seval], by simp [push_cast, seval], by simp [push_cast, seval]⟩
  · intro h1; (try simp only [decide_eq_true_eq, decide_eq_false_iff_not, Bool.not_eq_true', Bool.not_eq_false', Bool.and_eq_true, Bool.or_eq_true, Bool.not_eq_true] at h1)
    obtain rfl : i = n := by omega
    refine awp_exit ?_; (repeat (first | refine then_exit ?_ | refine inblock_other (by decide) ?_)); refine inblock_same ?_
    refine awp_seq ?_
    refine awpF_region ?_; intro K hK; simp only [push_cast, seval]; (try simp (disch := omega) only [wrapI]); (repeat ((with_reducible refine And.intro ?_ ?_); (focus (exact ob1)))); refine hK _ ?_; clear hK; clear K
    refine awp_ret ?_; (repeat (first | refine then_ret ?_ | refine inblock_ret ?_)); refine fin_of (by simp only [push_cast, seval]; first | done | rfl) ob1 ?_
    rfl

def rowU (g : Nat → Nat) (m : Nat) : List (List D) := (List.range m).map fun k => [(Go.Aw.D.sl ((digs B32 (g k)).map encU))]
theorem rowU_len (g : Nat → Nat) (m : Nat) : (rowU g m).length = m := by simp [rowU]
theorem rowU_get (g : Nat → Nat) {m j : Nat} (h : j < m) : (rowU g m)[j]? = some [(Go.Aw.D.sl ((digs B32 (g j)).map encU))] := by simp [rowU, h]
theorem rowU_set (g : Nat → Nat) (m j v : Nat) : (rowU g m).set j [(Go.Aw.D.sl ((digs B32 (v)).map encU))] = rowU (fun k => if k = j then v else g k) m := by
  apply List.ext_getElem
  · simp [rowU]
  · intro i h1 h2
    simp only [rowU, List.getElem_set, List.getElem_map, List.getElem_range]
    split
    · rename_i h; subst h; simp
    · rename_i h; rw [if_neg (Ne.symm h)]
theorem rowU_zero (m : Nat) : List.replicate m [D.sl []] = rowU (fun _ => 0) m := by
  apply List.ext_getElem
  · simp [rowU]
  · intro i h1 h2
    simp [rowU, digs_zero]
theorem rowU_congr {g g' : Nat → Nat} {m : Nat} (h : ∀ k, k < m → g k = g' k) : rowU g m = rowU g' m := by
  apply List.map_congr_left
  intro k hk
  rw [h k (List.mem_range.1 hk)]
theorem mkU_next (p q n j m : Nat) : rowU (fun k => if k = j + 1 then cs p q n j * p else if k = j then cs p q (n + 1) j else mk p q n j k) m = rowU (mk p q n (j + 1)) m := by
  apply rowU_congr
  intro k _
  unfold mk
  by_cases h1 : k = j + 1
  · subst h1; simp [Nat.mul_comm]
  · rw [if_neg h1]
    by_cases h2 : k = j
    · subst h2; simp
    · rw [if_neg h2]
      by_cases h3 : k < j
      · rw [if_pos h3, if_pos (by omega)]
      · rw [if_neg h3, if_neg (by omega), if_neg (by omega), if_neg (by omega)]
theorem mkU_all (p q n : Nat) : rowU (mk p q n (n + 1)) (n + 2) = rowU (cs p q (n + 1)) (n + 2) := by
  apply rowU_congr
  intro k hk
  unfold mk
  by_cases h : k < n + 1
  · rw [if_pos h]
  · obtain rfl : k = n + 1 := by omega
    rw [if_neg h, if_pos rfl]
    simp only [cs]
    rw [cs_big p q n (n + 1) (by omega)]; simp

set_option maxRecDepth 10000 in
theorem p59 (n f d : Nat) (hn : n ≤ 60) (hf : f ≤ d) (hd : d ≤ 1000) : PD Tryz.prog 83 [.int .i64 n, .agg [.int .i64 f, .int .i64 d]] (.d (.sl (rowU (cs f (d - f) n) (n + 1)))) := by
  have h97 := p97 1 (by decide)
  obtain ⟨q, hq⟩ : ∃ q, d - f = q := ⟨_, rfl⟩
  rw [hq]
  have hwq : IntKind.u32.wrap (IntKind.i64.wrap ((d : Int) - f)) = q := by rw [wrapI _ (by omega), show (d : Int) - f = q by omega]; exact u32w q (by omega)
  have hwf : IntKind.u32.wrap (f : Int) = f := u32w f (by omega)
  have hfit : ∀ a b : Nat, a ≤ 60 → nu (cs f q a b) ≤ 19 := fun a b ha => Nat.le_trans (nu_mono (cs_le f q a b)) (nu_pow (by omega) ha)
  show PD Tryz.prog 83 _ (ofD (.sl (rowU (cs f (q) n) (n + 1))))
  refine pdd_of (fn := Tryz.f83) [.tmp 4] (by kernel_rfl) rfl (by kernel_rfl) (Nat.le_of_ble_eq_true rfl) (by kernel_rfl) rfl ?_
  refine awp_seq ?_
  refine awpF_region ?_; intro K hK; simp only [push_cast, seval]; (try simp (disch := omega) only [wrapI]); (repeat ((with_reducible refine And.intro ?_ ?_); (focus (exact ob1)))); refine hK _ ?_; clear hK; clear K
  refine awp_seq ?_
  refine awpF_region ?_; intro K hK; simp only [push_cast, seval]
  refine CallK.pd (h97) ?_; simp only [push_cast, seval]; (try simp (disch := omega) only [wrapI]); (repeat ((with_reducible refine And.intro ?_ ?_); (focus (exact ob1))))
  (repeat ((with_reducible refine And.intro ?_ ?_); (focus (exact ob1))))
  refine hK _ ?_; clear hK; clear K
  refine awp_seq ?_
  refine awp_seq ?_
  refine awpF_region ?_; intro K hK; simp only [push_cast, seval]; (try simp (disch := omega) only [wrapI]); (repeat ((with_reducible refine And.intro ?_ ?_); (focus (exact ob1)))); refine hK _ ?_; clear hK; clear K
  refine awp_block ?_
  refine awp_loopP (st := fun (m : Nat) => ⟨[(0, .d (.int .i64 n)), (3, .ptr 0 0 0), (5, .ref 1 0 (m + 1)), (6, .d (.int .i64 m))], [.cells [.d (.int .i64 f), .d (.int .i64 d)], .data 1 (rowU (cs f (q) m) (m + 1))]⟩) (inv := fun m => m ≤ n) (μ := fun m => n - m) (x0 := 0) (r0 := [0, 1]) ?_ ?_ ?_
  · exact Nat.zero_le _
  · rw [show rowU (cs f (q) 0) (0 + 1) = [[(Go.Aw.D.sl ((digs B32 (1)).map encU))]] from rfl]
    exact ⟨by simp, by simp, by simp [push_cast, seval], by simp [push_cast, seval], by simp [push_cast, seval], by simp [push_cast, seval]⟩
  intro m hm
  refine awp_seq ?_
  refine awp_seq ?_
  refine awpF_region ?_; intro K hK; simp only [push_cast, seval]; (try simp (disch := omega) only [wrapI]); (repeat ((with_reducible refine And.intro ?_ ?_); (focus (exact ob1)))); refine hK _ ?_; clear hK; clear K
  apply awp_cond; (focus (simp only [push_cast, seval]; rfl))
  · intro h1; (try simp only [decide_eq_true_eq, decide_eq_false_iff_not, Bool.not_eq_true', Bool.not_eq_false', Bool.and_eq_true, Bool.or_eq_true, Bool.not_eq_true] at h1)
    refine awp_skip ?_
    refine awp_seq ?_
    refine awp_block ?_
    refine awp_seq ?_
    have hw : IntKind.i64.wrap ((m : Int) + 2) = (m : Int) + 2 := wrapI _ (by omega)
    have htn : ((m : Int) + 2).toNat = m + 2 := by omega
    refine awpF_region ?_; intro K hK; simp only [push_cast, seval, rowU_len, hw, htn]
    (repeat ((with_reducible refine And.intro ?_ ?_); (focus (exact ob1))))
    rw [rowU_zero]
    refine hK _ ?_; clear hK; clear K
    refine awp_seq ?_
    refine awp_seq ?_
    refine awpF_region ?_; intro K hK; simp only [push_cast, seval]; (try simp (disch := omega) only [wrapI]); (repeat ((with_reducible refine And.intro ?_ ?_); (focus (exact ob1)))); refine hK _ ?_; clear hK; clear K
    refine awp_block ?_
    refine awp_loopP (st := fun (j : Nat) => ⟨[(0, .d (.int .i64 n)), (3, .ptr 0 0 0), (5, .ref 1 0 (m + 1)), (6, .d (.int .i64 m)), (7, .ref 2 0 (m + 2)), (8, .d (.int .i64 j))],
      [.cells [.d (.int .i64 f), .d (.int .i64 d)], .data 1 (rowU (cs f (q) m) (m + 1)), .data 1 (rowU (mk f (q) m j) (m + 2))]⟩) (inv := fun j => j ≤ m + 1) (μ := fun j => m + 1 - j) (x0 := 0) (r0 := [0, 1, 2]) ?_ ?_ ?_
    · exact Nat.zero_le _
    · rw [rowU_congr (g := fun _ => 0) (g' := mk f (q) m 0) (fun k _ => by unfold mk; cases k <;> simp)]
      exact ⟨by simp, by simp, by simp [push_cast, seval], by simp [push_cast, seval], by simp [push_cast, seval], by simp [push_cast, seval]⟩
    intro j hj
    refine awp_seq ?_
    refine awp_seq ?_
    refine awpF_region ?_; intro K hK; simp only [push_cast, seval, rowU_len]; (try simp (disch := omega) only [wrapI]); (repeat ((with_reducible refine And.intro ?_ ?_); (focus (exact ob1)))); refine hK _ ?_; clear hK; clear K
    apply awp_cond; (focus (simp only [push_cast, seval]; rfl))
    · intro h2; (try simp only [decide_eq_true_eq, decide_eq_false_iff_not, Bool.not_eq_true', Bool.not_eq_false', Bool.and_eq_true, Bool.or_eq_true, Bool.not_eq_true] at h2)
      refine awp_skip ?_
      have hlt : j < m + 1 := by omega
      have g1 := rowU_get (cs f (q) m) hlt
      have g2 := rowU_get (mk f (q) m j) (m := m + 2) (j := j) (by omega)
      have g3 := rowU_get (fun k => if k = j then cs f q (m + 1) j else mk f q m j k) (m := m + 2) (j := j + 1) (by omega)
      have g4 : (if j + 1 = j then cs f q (m + 1) j else mk f q m j (j + 1)) = 0 := by
        rw [if_neg (by omega)]; unfold mk; rw [if_neg (by omega), if_neg (by omega)]
      simp only [g4] at g3
      have hst := mk_step f q m j
      have h56 := p63 (cs f q m j) q (Nat.le_trans (hfit m j (by omega)) (by decide)) (by omega)
      have h57 := p63 (cs f q m j) f (Nat.le_trans (hfit m j (by omega)) (by decide)) (by omega)
      have h67 := p72 (mk f q m j j) (cs f q m j * q) (Nat.le_trans (nu_mono (show mk f q m j j ≤ cs f q (m + 1) j by omega)) (Nat.le_trans (hfit (m + 1) j (by omega)) (by decide))) (Nat.le_trans (nu_mono (show cs f q m j * q ≤ cs f q (m + 1) j by omega)) (Nat.le_trans (hfit (m + 1) j (by omega)) (by decide)))
      rw [hst] at h67
      have h68 := p72 0 (cs f q m j * f) (by rw [nu, digs_zero]; exact Nat.zero_le _) (Nat.le_trans (nu_mul _ _) (by have := hfit m j (by omega); have : nu f ≤ 1 := digs_len (by decide) 1 f (by simp only [B32]; omega); omega))
      rw [Nat.zero_add] at h68
      have hwj : IntKind.i64.wrap ((j : Int) + 1) = (j : Int) + 1 := wrapI _ (by omega)
      have htj : ((j : Int) + 1).toNat = j + 1 := by omega
      refine awp_seq ?_
      refine awp_block ?_
      refine awp_seq ?_
      refine awpF_draw [0,1,2,3,4,5,6,7,8,9,10,11,12,13,14,15,16,17,18,19] (by kernel_rfl) (by kernel_rfl) rfl ?_; intro K hK; simp only [push_cast, seval, rowU_len, g1, g2, hwq, Int.toNat_natCast]
      (repeat ((with_reducible refine And.intro ?_ ?_); (focus (exact ob1))))
      refine CallK.pd (h56) ?_; simp only [push_cast, seval]; (try simp (disch := omega) only [wrapI]); (repeat ((with_reducible refine And.intro ?_ ?_); (focus (exact ob1))))
      refine CallK.pd (h67) ?_; simp only [push_cast, seval]; (try simp (disch := omega) only [wrapI]); (repeat ((with_reducible refine And.intro ?_ ?_); (focus (exact ob1))))
      refine hK _ ?_; clear hK; clear K
      rw [rowU_set]
      refine awpF_draw [0,1,2,3,4,5,6,7,8,9,10,11,12,13,14,15,16,17,18] (by kernel_rfl) (by kernel_rfl) rfl ?_; intro K hK; simp only [push_cast, seval, rowU_len, g1, g3, hwf, hwj, htj, Int.toNat_natCast]
      (repeat ((with_reducible refine And.intro ?_ ?_); (focus (exact ob1))))
      refine CallK.pd h57 ?_
      simp only [push_cast, seval, rowU_len, hwj, htj]
      refine CallK.pd h68 ?_
      simp only [push_cast, seval, rowU_len, hwj, htj]
      (repeat ((with_reducible refine And.intro ?_ ?_); (focus (exact ob1))))
      rw [rowU_set, mkU_next]
      refine hK _ ?_; clear hK; clear K
      refine inblock_norm ?_
      refine awpF_region ?_; intro K hK; simp only [push_cast, seval, hwj]; (try simp (disch := omega) only [wrapI]); (repeat ((with_reducible refine And.intro ?_ ?_); (focus (exact ob1)))); refine hK _ ?_; clear hK; clear K
      refine round_end (y := j + 1) (r := [0, 1, 2]) (by omega) (by omega) ?_
      exact ⟨by simp, by simp, by simp [push_cast, seval], by simp [push_cast, seval], by simp [push_cast, seval], by simp [push_cast, seval]⟩
    · intro h2; (try simp only [decide_eq_true_eq, decide_eq_false_iff_not, Bool.not_eq_true', Bool.not_eq_false', Bool.and_eq_true, Bool.or_eq_true, Bool.not_eq_true] at h2)
      have hwm : IntKind.i64.wrap ((m : Int) + 1) = (m : Int) + 1 := wrapI _ (by omega)
      refine awp_exit ?_; (repeat (first | refine then_exit ?_ | refine inblock_other (by decide) ?_)); refine inblock_same ?_
      rw [show j = m + 1 by omega, mkU_all]
      refine awpF_region ?_; intro K hK; simp only [push_cast, seval]; (try simp (disch := omega) only [wrapI]); (repeat ((with_reducible refine And.intro ?_ ?_); (focus (exact ob1)))); refine hK _ ?_; clear hK; clear K
      refine inblock_norm ?_
      refine awpF_region ?_; intro K hK; simp only [push_cast, seval, hwm]; (try simp (disch := omega) only [wrapI]); (repeat ((with_reducible refine And.intro ?_ ?_); (focus (exact ob1)))); refine hK _ ?_; clear hK; clear K
      refine round_end (y := m + 1) (r := [0, 2]) (by omega) (by omega) ?_
      exact ⟨by simp, by simp, by simp [push_cast, seval], by simp [push_cast, seval], by simp [push_cast, seval], by simp [push_cast, seval]⟩
  · intro h1; (try simp only [decide_eq_true_eq, decide_eq_false_iff_not, Bool.not_eq_true', Bool.not_eq_false', Bool.and_eq_true, Bool.or_eq_true, Bool.not_eq_true] at h1)
    refine awp_exit ?_; (repeat (first | refine then_exit ?_ | refine inblock_other (by decide) ?_)); refine inblock_same ?_
    refine awp_seq ?_
    refine awpF_region ?_; intro K hK; simp only [push_cast, seval]; (try simp (disch := omega) only [wrapI]); (repeat ((with_reducible refine And.intro ?_ ?_); (focus (exact ob1)))); refine hK _ ?_; clear hK; clear K
    refine awp_ret ?_; (repeat (first | refine then_ret ?_ | refine inblock_ret ?_)); refine fin_of (by simp only [push_cast, seval]; first | done | rfl) ob1 ?_
    have := Deep.data (H := [Blk.cells [V.d (D.int IntKind.i64 ↑f), V.d (D.int IntKind.i64 ↑d)], Blk.data 1 (rowU (cs f (q) m) (m + 1))]) 1 0 (m + 1) 1 (rowU (cs f (q) m) (m + 1)) rfl (by rw [rowU_len]; omega)
    rw [List.drop_zero, List.take_of_length_le (by rw [rowU_len]; exact Nat.le_refl _)] at this
    rw [show n = m by omega]
    exact this
end Go.Aw

namespace Go.Aw
set_option linter.unusedSimpArgs false
set_option linter.unusedVariables false
open Go.RowKit Go.Proofs Go.Nt Go.Rl

theorem p58 (g : Nat → Nat) (m a c : Nat) (hac : a + c ≤ m) (hm : m ≤ 100) (hfit : ∀ i, i ≤ c → nu (sumN g a i) ≤ 1000) (hg : ∀ i, i < m → nu (g i) ≤ 1000) :
    PD Tryz.prog 82 [.sl (rowU g m), .int .i64 a, .int .i64 ((a : Int) + c - 1)] (.d (Go.Aw.D.sl ((digs B32 (sumN g a c)).map encU))) := by
  refine pd_of (fn := Tryz.f82) [.tmp 6] (by kernel_rfl) rfl (by kernel_rfl) (Nat.le_of_ble_eq_true rfl) (by kernel_rfl) rfl rfl ?_
  refine awp_seq ?_
  refine awpF_region ?_; intro K hK; simp only [push_cast, seval]; (try simp (disch := omega) only [wrapI]); (repeat ((with_reducible refine And.intro ?_ ?_); (focus (exact ob1)))); refine hK _ ?_; clear hK; clear K
  refine awp_seq ?_
  refine awpF_region ?_; intro K hK; simp only [push_cast, seval]; (try simp (disch := omega) only [wrapI]); (repeat ((with_reducible refine And.intro ?_ ?_); (focus (exact ob1)))); refine hK _ ?_; clear hK; clear K
  refine awp_seq ?_
  refine awp_seq ?_
  refine awpF_region ?_; intro K hK; simp only [push_cast, seval]; (try simp (disch := omega) only [wrapI]); (repeat ((with_reducible refine And.intro ?_ ?_); (focus (exact ob1)))); refine hK _ ?_; clear hK; clear K
  refine awp_virt 7 1 (by simp only [push_cast, seval]) ?_
  simp only [push_cast, seval]
  refine awp_frz 0 ?_
  simp only [push_cast, seval]
  refine awp_block ?_
  refine awp_loopP (st := fun (i : Nat) => ⟨[(0, .d (.sl (rowU g m))), (2, .d (.int .i64 ((a : Int) + c - 1))), (7, .d (Go.Aw.D.sl ((digs B32 (sumN g a i)).map encU))), (8, .d (.int .i64 ((a : Int) + i)))], []⟩) (inv := fun i => i ≤ c) (μ := fun i => c - i) (x0 := 0) (r0 := []) ?_ ?_ ?_
  · exact Nat.zero_le _
  · rw [show (digs B32 (sumN g a 0)).map encU = [] by simp [sumN, digs_zero]]
    exact ⟨by simp, by simp, by simp [push_cast, seval], by simp [push_cast, seval], by simp [push_cast, seval], by simp [push_cast, seval]⟩
  intro i hi
  refine awp_seq ?_
  refine awp_seq ?_
  refine awpF_region ?_; intro K hK; simp only [push_cast, seval]; (try simp (disch := omega) only [wrapI]); (repeat ((with_reducible refine And.intro ?_ ?_); (focus (exact ob1)))); refine hK _ ?_; clear hK; clear K
  apply awp_cond; (focus (simp only [push_cast, seval]; rfl))
  · intro h1; (try simp only [decide_eq_true_eq, decide_eq_false_iff_not, Bool.not_eq_true', Bool.not_eq_false', Bool.and_eq_true, Bool.or_eq_true, Bool.not_eq_true] at h1)
    have h72 := p72 (sumN g a i) (g (a + i)) (Nat.le_trans (hfit i hi) (by decide)) (Nat.le_trans (hg _ (by omega)) (by decide))
    rw [show sumN g a i + g (a + i) = sumN g a (i + 1) from rfl] at h72
    have g1 := rowU_get g (m := m) (j := a + i) (by omega)
    have hwi : IntKind.i64.wrap ((a : Int) + i + 1) = (a : Int) + i + 1 := wrapI _ (by omega)
    have ht : ((a : Int) + i).toNat = a + i := by omega
    refine awp_skip ?_
    refine awp_seq ?_
    refine awp_block ?_
    refine awpF_region ?_; intro K hK; simp only [push_cast, seval, rowU_len, g1, ht]
    (repeat ((with_reducible refine And.intro ?_ ?_); (focus (exact ob1))))
    refine CallK.pd (h72) ?_; simp only [push_cast, seval]; (try simp (disch := omega) only [wrapI]); (repeat ((with_reducible refine And.intro ?_ ?_); (focus (exact ob1))))
    refine hK _ ?_; clear hK; clear K
    refine inblock_norm ?_
    refine awpF_region ?_; intro K hK; simp only [push_cast, seval, hwi]; (try simp (disch := omega) only [wrapI]); (repeat ((with_reducible refine And.intro ?_ ?_); (focus (exact ob1)))); refine hK _ ?_; clear hK; clear K
    refine round_end (y := i + 1) (r := []) (by omega) (by omega) ?_
    rw [show ((a : Int) + ((i + 1 : Nat) : Int)) = (a : Int) + i + 1 by omega]
    exact ⟨by simp, by simp, by simp [push_cast, seval], by simp [push_cast, seval], by simp [push_cast, seval], by simp [push_cast, seval]⟩
  · intro h1; (try simp only [decide_eq_true_eq, decide_eq_false_iff_not, Bool.not_eq_true', Bool.not_eq_false', Bool.and_eq_true, Bool.or_eq_true, Bool.not_eq_true] at h1)
    obtain rfl : i = c := by omega
    refine awp_exit ?_; (repeat (first | refine then_exit ?_ | refine inblock_other (by decide) ?_)); refine inblock_same ?_
    refine awp_seq ?_
    refine awpF_region ?_; intro K hK; simp only [push_cast, seval]; (try simp (disch := omega) only [wrapI]); (repeat ((with_reducible refine And.intro ?_ ?_); (focus (exact ob1)))); refine hK _ ?_; clear hK; clear K
    refine awp_ret ?_; (repeat (first | refine then_ret ?_ | refine inblock_ret ?_)); refine fin_of (by simp only [push_cast, seval]; first | done | rfl) ob1 ?_
    rfl

theorem nu_lo {p q n k : Nat} (h : p + q ≤ 1000) (hn : n ≤ 60) : nu (lo p q n k) ≤ 100 := Nat.le_trans (nu_mono (lo_le p q n k)) (Nat.le_trans (nu_pow h hn) (by decide))
theorem nu_sumN {p q n a m : Nat} (h : p + q ≤ 1000) (hn : n ≤ 60) : nu (sumN (cs p q n) a m) ≤ 100 := Nat.le_trans (nu_mono (sumN_le p q n a m)) (Nat.le_trans (nu_pow h hn) (by decide))
theorem nu_cs {p q n k : Nat} (h : p + q ≤ 1000) (hn : n ≤ 60) : nu (cs p q n k) ≤ 100 := Nat.le_trans (nu_mono (cs_le p q n k)) (Nat.le_trans (nu_pow h hn) (by decide))

theorem p59i (n k rn rd : Int) (hr : rateB rn rd = true) (hf : fairB n k = true) : PD Tryz.prog 83 [.int .i64 n, .agg [.int .i64 rn, .int .i64 rd]] (.d (.sl (rowU (cs rn.toNat (rd - rn).toNat n.toNat) (n.toNat + 1)))) := by
  obtain ⟨h1, h2, h3, h4⟩ := rateB_iff.1 hr
  obtain ⟨h5, h6, h7⟩ := fairB_iff.1 hf
  have h := p59 n.toNat rn.toNat rd.toNat (by omega) (by omega) (by omega)
  rw [Int.toNat_of_nonneg (by omega), Int.toNat_of_nonneg (by omega), Int.toNat_of_nonneg (by omega), show rd.toNat - rn.toNat = (rd - rn).toNat by omega] at h
  exact h
theorem p58l (n k rn rd : Int) (hr : rateB rn rd = true) (hf : fairB n k = true) : PD Tryz.prog 82 [.sl (rowU (cs rn.toNat (rd - rn).toNat n.toNat) (n.toNat + 1)), .int .i64 0, .int .i64 k] (.d (Go.Aw.D.sl ((digs B32 (lo rn.toNat (rd - rn).toNat n.toNat (k.toNat + 1))).map encU))) := by
  obtain ⟨h1, h2, h3, h4⟩ := rateB_iff.1 hr
  obtain ⟨h5, h6, h7⟩ := fairB_iff.1 hf
  have h := p58 (cs rn.toNat (rd - rn).toNat n.toNat) (n.toNat + 1) 0 (k.toNat + 1) (by omega) (by omega) (fun i _ => Nat.le_trans (nu_sumN (by omega) (by omega)) (by decide)) (fun i _ => Nat.le_trans (nu_cs (by omega) (by omega)) (by decide))
  rw [sumN_zero, show (((0 : Nat) : Int) + ((k.toNat + 1 : Nat) : Int) - 1) = k by omega] at h
  exact h
theorem p58u (n k rn rd : Int) (hr : rateB rn rd = true) (hf : fairB n k = true) : PD Tryz.prog 82 [.sl (rowU (cs rn.toNat (rd - rn).toNat n.toNat) (n.toNat + 1)), .int .i64 k, .int .i64 n] (.d (Go.Aw.D.sl ((digs B32 (sumN (cs rn.toNat (rd - rn).toNat n.toNat) k.toNat (n.toNat - k.toNat + 1))).map encU))) := by
  obtain ⟨h1, h2, h3, h4⟩ := rateB_iff.1 hr
  obtain ⟨h5, h6, h7⟩ := fairB_iff.1 hf
  have h := p58 (cs rn.toNat (rd - rn).toNat n.toNat) (n.toNat + 1) k.toNat (n.toNat - k.toNat + 1) (by omega) (by omega) (fun i _ => Nat.le_trans (nu_sumN (by omega) (by omega)) (by decide)) (fun i _ => Nat.le_trans (nu_cs (by omega) (by omega)) (by decide))
  rw [show ((k.toNat : Int) + ((n.toNat - k.toNat + 1 : Nat) : Int) - 1) = n by omega, Int.toNat_of_nonneg (by omega)] at h
  exact h
theorem p60i (n k rn rd : Int) (hr : rateB rn rd = true) (hf : fairB n k = true) : PD Tryz.prog 84 [.int .i64 n, .agg [.int .i64 rn, .int .i64 rd]] (.d (Go.Aw.D.sl ((digs B32 (rd.toNat ^ n.toNat)).map encU))) := by
  obtain ⟨h1, h2, h3, h4⟩ := rateB_iff.1 hr
  obtain ⟨h5, h6, h7⟩ := fairB_iff.1 hf
  have h := p60 n.toNat rn.toNat rd.toNat (by omega) (by omega)
  rw [Int.toNat_of_nonneg (by omega), Int.toNat_of_nonneg (by omega), Int.toNat_of_nonneg (by omega)] at h
  exact h

theorem p68 (part whole : Nat) (an ad : Int) (ha : rateB an ad = true) (hp : nu part ≤ 100) (hw : nu whole ≤ 100) : PD Tryz.prog 81 [(Go.Aw.D.sl ((digs B32 (part)).map encU)), (Go.Aw.D.sl ((digs B32 (whole)).map encU)), .agg [.int .i64 an, .int .i64 ad]] (.d (.bool (decide (part * ad.toNat ≤ whole * an.toNat)))) := by
  obtain ⟨h1, h2, h3, h4⟩ := rateB_iff.1 ha
  obtain ⟨n, rfl⟩ : ∃ n : Nat, an = n := ⟨an.toNat, by omega⟩
  obtain ⟨d, rfl⟩ : ∃ d : Nat, ad = d := ⟨ad.toNat, by omega⟩
  rw [Int.toNat_natCast, Int.toNat_natCast]
  have hn : IntKind.u32.wrap (n : Int) = n := u32w n (by omega)
  have hd : IntKind.u32.wrap (d : Int) = d := u32w d (by omega)
  have nwn : nu n ≤ 1 := digs_len (by decide) 1 n (by simp only [B32]; omega)
  have nwd : nu d ≤ 1 := digs_len (by decide) 1 d (by simp only [B32]; omega)
  have h56a := p63 part d (by omega) (by omega)
  have h56b := p63 whole n (by omega) (by omega)
  have h54 := p61 (part * d) (whole * n) (by have := nu_mul part d; omega) (by have := nu_mul whole n; omega)
  refine pd_of (fn := Tryz.f81) [.tmp 6] (by kernel_rfl) rfl (by kernel_rfl) (Nat.le_of_ble_eq_true rfl) (by kernel_rfl) rfl rfl ?_
  refine awp_seq ?_
  refine awpF_region ?_; intro K hK; simp only [push_cast, seval]; (try simp (disch := omega) only [wrapI]); (repeat ((with_reducible refine And.intro ?_ ?_); (focus (exact ob1)))); refine hK _ ?_; clear hK; clear K
  refine awp_seq ?_
  refine awpF_draw [0,1,2,3,5,6,7,8,4,9,10,11,12] (by kernel_rfl) (by kernel_rfl) rfl ?_; intro K hK; simp only [push_cast, seval, hn, hd]
  refine CallK.pd (h56a) ?_; simp only [push_cast, seval]; (try simp (disch := omega) only [wrapI]); (repeat ((with_reducible refine And.intro ?_ ?_); (focus (exact ob1))))
  refine CallK.pd (h56b) ?_; simp only [push_cast, seval]; (try simp (disch := omega) only [wrapI]); (repeat ((with_reducible refine And.intro ?_ ?_); (focus (exact ob1))))
  refine CallK.rel h54 ?_
  intro x' H' hR
  obtain ⟨c, hx', hH', hc1, hc2⟩ := hR
  subst hx'
  subst hH'
  simp only [push_cast, seval]
  refine hK _ ?_; clear hK; clear K
  refine awp_ret ?_; (repeat (first | refine then_ret ?_ | refine inblock_ret ?_)); refine fin_of (by simp only [push_cast, seval]; first | done | rfl) ob1 ?_
  have : decide (part * d ≤ whole * n) = decide (c ≤ 0) := by
    simp only [decide_eq_decide]
    omega
  rw [this]

theorem p27 (n k rn rd an ad : Int) : PD Tryz.prog 48 [.int .i64 n, .int .i64 k, .agg [.int .i64 rn, .int .i64 rd], .agg [.int .i64 an, .int .i64 ad]] (.d (.bool (holdsB n k rn rd an ad))) := by
  refine pd_of (fn := Tryz.f48) [.tmp 8] (by kernel_rfl) rfl (by kernel_rfl) (Nat.le_of_ble_eq_true rfl) (by kernel_rfl) rfl rfl ?_
  refine awp_seq ?_
  refine awpF_region ?_; intro K hK; simp only [push_cast, seval]; (try simp (disch := omega) only [wrapI]); (repeat ((with_reducible refine And.intro ?_ ?_); (focus (exact ob1)))); refine hK _ ?_; clear hK; clear K
  refine awp_seq ?_
  refine awp_seq ?_
  refine awpF_region ?_; intro K hK; simp only [push_cast, seval]
  refine CallK.pd (p18 rn rd) ?_
  simp only [push_cast, seval, rate_ne, bif_or]
  refine CallK.pg (fun _ => p18 an ad) ?_
  simp only [push_cast, seval, rate_ne, bif_or, Bool.not_not]
  (try refine ⟨by simp, ?_⟩)
  refine CallK.pg (fun _ => p57 n k) ?_
  simp only [push_cast, seval, bif_or, Bool.not_not]
  (try refine ⟨by simp, ?_⟩)
  refine hK _ ?_; clear hK; clear K
  apply awp_cond; (focus (simp only [push_cast, seval]; rfl))
  · intro h1; (try simp only [decide_eq_true_eq, decide_eq_false_iff_not, Bool.not_eq_true', Bool.not_eq_false', Bool.and_eq_true, Bool.or_eq_true, Bool.not_eq_true] at h1)
    refine awp_seq ?_
    refine awpF_region ?_; intro K hK; simp only [push_cast, seval]; (try simp (disch := omega) only [wrapI]); (repeat ((with_reducible refine And.intro ?_ ?_); (focus (exact ob1)))); refine hK _ ?_; clear hK; clear K
    refine awp_ret ?_; (repeat (first | refine then_ret ?_ | refine inblock_ret ?_)); refine fin_of (by simp only [push_cast, seval]; first | done | rfl) ob1 ?_
    have : holdsB n k rn rd an ad = false := by
      unfold holdsB
      revert h1
      cases rateB rn rd <;> cases rateB an ad <;> cases fairB n k <;> simp
    rw [this]
  · intro h1; (try simp only [decide_eq_true_eq, decide_eq_false_iff_not, Bool.not_eq_true', Bool.not_eq_false', Bool.and_eq_true, Bool.or_eq_true, Bool.not_eq_true] at h1)
    have hh : rateB rn rd = true ∧ rateB an ad = true ∧ fairB n k = true := by
      revert h1
      cases rateB rn rd <;> cases rateB an ad <;> cases fairB n k <;> simp
    obtain ⟨hr, ha, hf⟩ := hh
    obtain ⟨x1, x2, x3, x4⟩ := rateB_iff.1 hr
    obtain ⟨b1, b2, b3⟩ := fairB_iff.1 hf
    refine awp_skip ?_
    refine awp_seq ?_
    refine awpF_draw [0,1,3,5,6,8,2,4,7,9,10] (by kernel_rfl) (by kernel_rfl) rfl ?_; intro K hK; simp only [push_cast, seval]
    refine CallK.pd (p59i n k rn rd hr hf) ?_
    simp only [push_cast, seval]
    refine CallK.pd (p58l n k rn rd hr hf) ?_
    simp only [push_cast, seval]
    refine CallK.pd (p60i n k rn rd hr hf) ?_
    simp only [push_cast, seval]
    refine CallK.pd (p68 _ _ an ad ha (nu_lo (by omega) (by omega)) (Nat.le_trans (nu_pow (by omega) (by omega)) (by decide))) ?_
    simp only [push_cast, seval]
    refine hK _ ?_; clear hK; clear K
    refine awp_ret ?_; (repeat (first | refine then_ret ?_ | refine inblock_ret ?_)); refine fin_of (by simp only [push_cast, seval]; first | done | rfl) ob1 ?_
    unfold holdsB
    rw [hr, ha, hf]; rfl

theorem p28 (n k rn rd an ad : Int) : PD Tryz.prog 47 [.int .i64 n, .int .i64 k, .agg [.int .i64 rn, .int .i64 rd], .agg [.int .i64 an, .int .i64 ad]] (.d (.bool (failsB n k rn rd an ad))) := by
  refine pd_of (fn := Tryz.f47) [.tmp 8] (by kernel_rfl) rfl (by kernel_rfl) (Nat.le_of_ble_eq_true rfl) (by kernel_rfl) rfl rfl ?_
  refine awp_seq ?_
  refine awpF_region ?_; intro K hK; simp only [push_cast, seval]; (try simp (disch := omega) only [wrapI]); (repeat ((with_reducible refine And.intro ?_ ?_); (focus (exact ob1)))); refine hK _ ?_; clear hK; clear K
  refine awp_seq ?_
  refine awp_seq ?_
  refine awpF_region ?_; intro K hK; simp only [push_cast, seval]
  refine CallK.pd (p18 rn rd) ?_
  simp only [push_cast, seval, rate_ne, bif_or]
  refine CallK.pg (fun _ => p18 an ad) ?_
  simp only [push_cast, seval, rate_ne, bif_or, Bool.not_not]
  (try refine ⟨by simp, ?_⟩)
  refine CallK.pg (fun _ => p57 n k) ?_
  simp only [push_cast, seval, bif_or, Bool.not_not]
  (try refine ⟨by simp, ?_⟩)
  refine hK _ ?_; clear hK; clear K
  apply awp_cond; (focus (simp only [push_cast, seval]; rfl))
  · intro h1; (try simp only [decide_eq_true_eq, decide_eq_false_iff_not, Bool.not_eq_true', Bool.not_eq_false', Bool.and_eq_true, Bool.or_eq_true, Bool.not_eq_true] at h1)
    refine awp_seq ?_
    refine awpF_region ?_; intro K hK; simp only [push_cast, seval]; (try simp (disch := omega) only [wrapI]); (repeat ((with_reducible refine And.intro ?_ ?_); (focus (exact ob1)))); refine hK _ ?_; clear hK; clear K
    refine awp_ret ?_; (repeat (first | refine then_ret ?_ | refine inblock_ret ?_)); refine fin_of (by simp only [push_cast, seval]; first | done | rfl) ob1 ?_
    have : failsB n k rn rd an ad = false := by
      unfold failsB
      revert h1
      cases rateB rn rd <;> cases rateB an ad <;> cases fairB n k <;> simp
    rw [this]
  · intro h1; (try simp only [decide_eq_true_eq, decide_eq_false_iff_not, Bool.not_eq_true', Bool.not_eq_false', Bool.and_eq_true, Bool.or_eq_true, Bool.not_eq_true] at h1)
    have hh : rateB rn rd = true ∧ rateB an ad = true ∧ fairB n k = true := by
      revert h1
      cases rateB rn rd <;> cases rateB an ad <;> cases fairB n k <;> simp
    obtain ⟨hr, ha, hf⟩ := hh
    obtain ⟨x1, x2, x3, x4⟩ := rateB_iff.1 hr
    obtain ⟨b1, b2, b3⟩ := fairB_iff.1 hf
    refine awp_skip ?_
    refine awp_seq ?_
    refine awpF_draw [0,1,3,4,6,7,9,2,5,8,10,11] (by kernel_rfl) (by kernel_rfl) rfl ?_; intro K hK; simp only [push_cast, seval]
    refine CallK.pd (p59i n k rn rd hr hf) ?_
    simp only [push_cast, seval]
    refine CallK.pd (p58u n k rn rd hr hf) ?_
    simp only [push_cast, seval]
    refine CallK.pd (p60i n k rn rd hr hf) ?_
    simp only [push_cast, seval]
    refine CallK.pd (p68 _ _ an ad ha (nu_sumN (by omega) (by omega)) (Nat.le_trans (nu_pow (by omega) (by omega)) (by decide))) ?_
    simp only [push_cast, seval]
    refine hK _ ?_; clear hK; clear K
    refine awp_ret ?_; (repeat (first | refine then_ret ?_ | refine inblock_ret ?_)); refine fin_of (by simp only [push_cast, seval]; first | done | rfl) ob1 ?_
    unfold failsB
    rw [hr, ha, hf]; rfl

end Go.Aw
