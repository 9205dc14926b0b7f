/-
  The number that a word is, on the reference's side. Conditions: lengths that fit.
-/
import Derived.Test.YtlimahhonfckdaaDoorRuM
import Derived.Test.YtlimahhonfckdaaDoorPxU50
namespace Go.Aw
set_option linter.unusedSimpArgs false
set_option linter.unusedVariables false
open Go.RowKit Go.Proofs
set_option maxRecDepth 100000

theorem ds_get {l : List UInt8} {j : Nat} (h : j < (dsW l).length) : (dsW l)[j]? = some (l.getD (frW l + j) 0) := by
  have hl : (dsW l).length = min 18 (l.length - frW l) := by simp [dsW]
  have h1 : frW l + j < l.length := by omega
  rw [List.getElem?_eq_getElem h, List.getD_eq_getElem?_getD, List.getElem?_eq_getElem h1, Option.getD_some]
  congr 1
  simp [dsW]
set_option maxHeartbeats 2000000 in
theorem p68 (l : List UInt8) (hl : l.length ≤ 1000000) : PD Tryd.prog 68 [.str (bs l)] (.tup [.d (.int .i64 (readV l).1), .d (.bool (readV l).2)]) := by
  have hf01 : frW l = 0 ∨ frW l = 1 := by unfold frW; split <;> simp
  have hlen : (dsW l).length = min 18 (l.length - frW l) := by simp [dsW]
  have e0 : (⟨#[]⟩ : ByteArray) = bs [] := rfl
  refine pd_of (fn := Tryd.f68) [.tmp 2, .tmp 3] (by kernel_rfl) rfl (by kernel_rfl) (Nat.le_of_ble_eq_true rfl) (by kernel_rfl) rfl rfl ?_
  refine awp_seq ?_
  refine awpF_region ?_; intro K hK; simp only [push_cast, seval]; (try simp (disch := omega) only [wrapI]); (repeat ((with_reducible refine And.intro ?_ ?_); (focus (exact ob1)))); refine hK _ ?_; clear hK K
  refine awp_seq ?_
  refine awpF_region ?_; intro K hK; simp only [push_cast, seval]; (try simp (disch := omega) only [wrapI]); (repeat ((with_reducible refine And.intro ?_ ?_); (focus (exact ob1)))); refine hK _ ?_; clear hK K
  refine awp_mid (fun u => u = ⟨[(0, .d (.str (bs l))), (4, .d (.int .i64 0)), (5, .d (.int .i64 (frW l : Nat)))], []⟩) ?_ ?_
  · cases l with
    | nil =>
      have e : frW [] = 0 := rfl
      have e1 : (bs [] != bs []) = false := by unfold bne; rw [bs_inj]; rfl
      rw [e]
      refine awp_seq ?_
      refine awpF_region ?_; intro K hK; simp only [push_cast, seval, e0, e1]; (try simp (disch := omega) only [wrapI]); (repeat ((with_reducible refine And.intro ?_ ?_); (focus (exact ob1)))); refine hK _ ?_; clear hK K
      apply awp_cond; (focus (simp only [push_cast, seval]; rfl))
      · intro h
        cases h
      intro _
      refine awp_skip ?_
      refine mid_end [] _ rfl ?_
      exact ⟨by simp, by simp, by simp [push_cast, seval], by simp [push_cast, seval], by simp [push_cast, seval], by simp [push_cast, seval]⟩
    | cons b l =>
      have e1 : (bs (b :: l) != bs []) = true := by unfold bne; rw [bs_inj]; simp
      have eg : (b :: l).getD 0 0 = b := rfl
      have hsz : 0 < (b :: l).length := by simp
      by_cases h45 : b = 45
      · have e : frW (b :: l) = 1 := by unfold frW; rw [if_pos (by rw [h45]; rfl)]
        have e2 : ((b.toNat : Int) == 45) = true := by rw [h45]; rfl
        rw [e]
        refine awp_seq ?_
        refine awpF_region ?_; intro K hK; simp only [push_cast, seval, e0, e1, bs_get, eg, e2, bs_size]; (try simp (disch := omega) only [wrapI]); (repeat ((with_reducible refine And.intro ?_ ?_); (focus (exact ob1)))); refine hK _ ?_; clear hK K
        apply awp_cond; (focus (simp only [push_cast, seval]; rfl))
        rotate_left
        · intro h
          cases h
        intro _
        refine awpF_region ?_; intro K hK; simp only [push_cast, seval]; (try simp (disch := omega) only [wrapI]); (repeat ((with_reducible refine And.intro ?_ ?_); (focus (exact ob1)))); refine hK _ ?_; clear hK K
        refine mid_end [] _ rfl ?_
        exact ⟨by simp, by simp, by simp [push_cast, seval], by simp [push_cast, seval], by simp [push_cast, seval], by simp [push_cast, seval]⟩
      · have e : frW (b :: l) = 0 := by
          unfold frW
          rw [if_neg]
          intro h
          exact h45 (Option.some.inj h)
        have e2 : ((b.toNat : Int) == 45) = false := beq_eq_false_iff_ne.2 fun h => h45 (UInt8.toNat_inj.1 (show b.toNat = 45 by omega))
        rw [e]
        refine awp_seq ?_
        refine awpF_region ?_; intro K hK; simp only [push_cast, seval, e0, e1, bs_get, eg, e2, bs_size]; (try simp (disch := omega) only [wrapI]); (repeat ((with_reducible refine And.intro ?_ ?_); (focus (exact ob1)))); refine hK _ ?_; clear hK K
        apply awp_cond; (focus (simp only [push_cast, seval]; rfl))
        · intro h
          cases h
        intro _
        refine awp_skip ?_
        refine mid_end [] _ rfl ?_
        exact ⟨by simp, by simp, by simp [push_cast, seval], by simp [push_cast, seval], by simp [push_cast, seval], by simp [push_cast, seval]⟩
  rintro _ rfl
  have hdg := fun (j : Nat) (h : j < (dsW l).length) => ds_get h
  generalize hfr : frW l = fr at *
  refine awp_seq ?_
  refine awp_seq ?_
  refine awpF_region ?_; intro K hK; simp only [push_cast, seval]; (try simp (disch := omega) only [wrapI]); (repeat ((with_reducible refine And.intro ?_ ?_); (focus (exact ob1)))); refine hK _ ?_; clear hK K
  refine awp_block ?_
  refine awp_loopP (α := Nat) (st := fun j => ⟨[(0, .d (.str (bs l))), (4, .d (.int .i64 (dgv ((dsW l).take j) 0 : Nat))), (5, .d (.int .i64 fr)), (6, .d (.int .i64 ((fr : Int) + (j : Int))))], []⟩)
    (inv := fun j => j ≤ (dsW l).length ∧ ((dsW l).take j).all digB = true) (μ := fun j => (dsW l).length - j) (x0 := 0) (r0 := []) ⟨Nat.zero_le _, by simp⟩ ?_ ?_
  · have e : dgv ((dsW l).take 0) 0 = 0 := by simp [dgv]
    rw [e]
    simp only [Int.natCast_zero, Int.add_zero]
    exact ⟨by simp, by simp, by simp [push_cast, seval], by simp [push_cast, seval], by simp [push_cast, seval], by simp [push_cast, seval]⟩
  rintro j ⟨hj, hall⟩
  have hlt18 := dsW_len l
  have hbd := dgv_lt ((dsW l).take j) 0 fun c hc => List.all_eq_true.1 hall c hc
  have hbd2 : dgv ((dsW l).take j) 0 < 1000000000000000000 := by
    have h1 : ((dsW l).take j).length ≤ 18 := by rw [List.length_take]; omega
    have h2 := Nat.pow_le_pow_right (show 0 < 10 by decide) h1
    have h3 : (10 : Nat) ^ 18 = 1000000000000000000 := by decide
    omega
  clear hbd
  refine awp_seq ?_
  refine awp_seq ?_
  refine awpF_region ?_; intro K hK; simp only [push_cast, seval, bs_size]; (try simp (disch := omega) only [wrapI]); (repeat ((with_reducible refine And.intro ?_ ?_); (focus (exact ob1)))); refine hK _ ?_; clear hK K
  apply awp_cond; (focus (simp only [push_cast, seval]; rfl))
  · intro h1
    have h1' : fr + j < l.length ∧ j < 18 := by
      simp at h1
      omega
    clear h1
    have hjl : j < (dsW l).length := by omega
    have hg := hdg j hjl
    have hstep : (dsW l).take (j + 1) = (dsW l).take j ++ [l.getD (fr + j) 0] := by rw [List.take_add_one, hg]; rfl
    have hv := dgv_app ((dsW l).take j) (l.getD (fr + j) 0) 0
    rw [← hstep] at hv
    have hall2 : ((dsW l).take (j + 1)).all digB = (digB (l.getD (fr + j) 0) : Bool) := by rw [hstep, List.all_append, hall]; simp
    have hc0 : ((fr : Int) + (j : Int)).toNat = fr + j := by omega
    have hbd3 : dgv ((dsW l).take j) 0 < 100000000000000000 := by
      have hbd := dgv_lt ((dsW l).take j) 0 fun c hc => List.all_eq_true.1 hall c hc
      have h1 : ((dsW l).take j).length ≤ 17 := by rw [List.length_take]; omega
      have h2 := Nat.pow_le_pow_right (show 0 < 10 by decide) h1
      have h3 : (10 : Nat) ^ 17 = 100000000000000000 := by decide
      omega
    generalize dgv ((dsW l).take j) 0 = n at *
    have hc256 := (l.getD (fr + j) 0).toNat_lt
    generalize hcg : l.getD (fr + j) 0 = c at *
    by_cases hd : digB c = true
    · have hd' := hd
      simp only [digB, decide_eq_true_eq] at hd'
      refine awp_skip ?_
      refine awp_seq ?_
      refine awp_block ?_
      refine awp_seq ?_
      have d1 : decide ((c.toNat : Int) < 48) = false := decide_eq_false (by omega)
      have d2 : decide ((c.toNat : Int) > 57) = false := decide_eq_false (by omega)
      refine awp_seq ?_
      refine awpF_region ?_; intro K hK; simp only [push_cast, seval, bs_size, bs_get, hc0, hcg, d1, d2]; (try simp (disch := omega) only [wrapI]); (repeat ((with_reducible refine And.intro ?_ ?_); (focus (exact ob1)))); refine hK _ ?_; clear hK K
      apply awp_cond; (focus (simp only [push_cast, seval]; rfl))
      · intro h
        cases h
      intro _
      refine awp_skip ?_
      have w8 : IntKind.u8.wrap ((c.toNat : Int) - 48) = (c.toNat : Int) - 48 := by
        simp only [IntKind.wrap, IntKind.bits, IntKind.signed]
        simp
        omega
      have w1 : IntKind.i64.wrap (10 * (n : Int)) = 10 * (n : Int) := wrapI _ (by omega)
      have w2 : IntKind.i64.wrap ((c.toNat : Int) - 48) = (c.toNat : Int) - 48 := wrapI _ (by omega)
      have w3 : IntKind.i64.wrap (10 * (n : Int) + ((c.toNat : Int) - 48)) = 10 * (n : Int) + ((c.toNat : Int) - 48) := wrapI _ (by omega)
      refine awpF_region ?_; intro K hK; simp only [push_cast, seval, bs_size, bs_get, hc0, hcg, w8, w1, w2, w3]; (try simp (disch := omega) only [wrapI]); (repeat ((with_reducible refine And.intro ?_ ?_); (focus (exact ob1)))); refine hK _ ?_; clear hK K
      refine inblock_norm ?_
      refine awpF_region ?_; intro K hK; simp only [push_cast, seval]; (try simp (disch := omega) only [wrapI]); (repeat ((with_reducible refine And.intro ?_ ?_); (focus (exact ob1)))); refine hK _ ?_; clear hK K
      have e9 : ((dgv ((dsW l).take (j + 1)) 0 : Nat) : Int) = 10 * (n : Int) + ((c.toNat : Int) - 48) := by rw [hv]; omega
      refine round_endG (j + 1) [] ⟨by omega, ⟨by omega, by rw [hall2, hd]⟩, ?_⟩
      have e8 : (fr : Int) + ((j + 1 : Nat) : Int) = (fr : Int) + (j : Int) + 1 := by omega
      rw [e9, e8]
      exact ⟨by simp, by simp, by simp [push_cast, seval], by simp [push_cast, seval], by simp [push_cast, seval], by simp [push_cast, seval]⟩
    · have hd2 : c.toNat < 48 ∨ 57 < c.toNat := by
        simp only [digB, decide_eq_true_eq] at hd
        omega
      have hb : (bif decide ((c.toNat : Int) < 48) then true else decide ((c.toNat : Int) > 57)) = true := by
        rcases hd2 with h | h
        · rw [decide_eq_true (by omega : (c.toNat : Int) < 48)]; rfl
        · rw [decide_eq_true (by omega : (c.toNat : Int) > 57)]; cases decide ((c.toNat : Int) < 48) <;> rfl
      refine awp_skip ?_
      refine awp_seq ?_
      refine awp_block ?_
      refine awp_seq ?_
      refine awp_seq ?_
      refine awpF_region ?_; intro K hK; simp only [push_cast, seval, bs_size, bs_get, hc0, hcg]
      generalize decide ((c.toNat : Int) < 48) = b1 at *
      generalize decide ((c.toNat : Int) > 57) = b2 at *
      refine ⟨by omega, by omega, fun h => ⟨h, h, by omega, by omega⟩, fun h => by rw [h]; rfl, ?_⟩
      refine hK _ ?_; clear hK K
      apply awp_cond; (focus (simp only [push_cast, seval]; rfl))
      · intro _
        refine awp_seq ?_
        refine awpF_region ?_; intro K hK; simp only [push_cast, seval]; (try simp (disch := omega) only [wrapI]); (repeat ((with_reducible refine And.intro ?_ ?_); (focus (exact ob1)))); refine hK _ ?_; clear hK K
        refine awp_ret ?_; (repeat (first | refine then_ret ?_ | refine inblock_ret ?_ | refine nogoto_ret ?_)); refine fin_of (by simp only [push_cast, seval]; first | done | rfl) ob1 ?_
        have hr : readV l = (0, false) := by
          unfold readV
          rw [if_neg]
          intro hh
          have := List.all_eq_true.1 hh c (List.mem_of_getElem? hg)
          exact hd this
        rw [hr]
      · intro h
        rw [hb] at h
        cases h
  · intro h1
    have hjd : j = (dsW l).length := by
      simp at h1
      omega
    subst hjd
    rw [List.take_length] at *
    have hvr : readV l = (valW l, decide (Lib.itoa (valW l) = l)) := by unfold readV; rw [if_pos hall]
    have hval : valW l = if fr = 1 then 0 - ((dgv (dsW l) 0 : Nat) : Int) else ((dgv (dsW l) 0 : Nat) : Int) := by unfold valW; rw [hfr]
    rw [hvr]
    generalize dgv (dsW l) 0 = n at *
    have h64 := p64 (valW l) (by rw [hval]; split <;> omega) (by rw [hval]; split <;> omega)
    generalize valW l = v at *
    refine awp_exit ?_; (repeat (first | refine then_exit ?_ | refine inblock_other (by decide) ?_)); refine inblock_same ?_
    rcases hf01 with rfl | rfl
    · have hval : v = n := by rw [hval, if_neg (by decide)]
      subst hval
      refine awp_seq ?_
      refine awp_seq ?_
      refine awpF_region ?_; intro K hK; simp only [push_cast, seval]; (try simp (disch := omega) only [wrapI]); (repeat ((with_reducible refine And.intro ?_ ?_); (focus (exact ob1)))); refine hK _ ?_; clear hK K
      apply awp_cond; (focus (simp only [push_cast, seval]; rfl))
      · intro h
        cases h
      intro _
      refine awp_skip ?_
      refine awp_seq ?_
      refine awpF_region ?_; intro K hK; simp only [push_cast, seval]
      refine CallK.pd (h64) ?_; simp only [push_cast, seval]; (try simp (disch := omega) only [wrapI]); (repeat ((with_reducible refine And.intro ?_ ?_); (focus (exact ob1))))
      simp only [push_cast, seval, bs_inj]
      (repeat ((with_reducible refine And.intro ?_ ?_); (focus (exact ob1))))
      refine hK _ ?_; clear hK K
      refine awp_ret ?_; (repeat (first | refine then_ret ?_ | refine inblock_ret ?_ | refine nogoto_ret ?_)); refine fin_of (by simp only [push_cast, seval]; first | done | rfl) ob1 ?_
      rfl
    · have hval : v = 0 - (n : Int) := by rw [hval, if_pos rfl]
      subst hval
      refine awp_seq ?_
      refine awp_seq ?_
      refine awpF_region ?_; intro K hK; simp only [push_cast, seval]; (try simp (disch := omega) only [wrapI]); (repeat ((with_reducible refine And.intro ?_ ?_); (focus (exact ob1)))); refine hK _ ?_; clear hK K
      apply awp_cond; (focus (simp only [push_cast, seval]; rfl))
      rotate_left
      · intro h
        cases h
      intro _
      refine awpF_region ?_; intro K hK; simp only [push_cast, seval]; (try simp (disch := omega) only [wrapI]); (repeat ((with_reducible refine And.intro ?_ ?_); (focus (exact ob1)))); refine hK _ ?_; clear hK K
      refine awp_seq ?_
      refine awpF_region ?_; intro K hK; simp only [push_cast, seval]
      refine CallK.pd (h64) ?_; simp only [push_cast, seval]; (try simp (disch := omega) only [wrapI]); (repeat ((with_reducible refine And.intro ?_ ?_); (focus (exact ob1))))
      simp only [push_cast, seval, bs_inj]
      (repeat ((with_reducible refine And.intro ?_ ?_); (focus (exact ob1))))
      refine hK _ ?_; clear hK K
      refine awp_ret ?_; (repeat (first | refine then_ret ?_ | refine inblock_ret ?_ | refine nogoto_ret ?_)); refine fin_of (by simp only [push_cast, seval]; first | done | rfl) ob1 ?_
      rfl
end Go.Aw
