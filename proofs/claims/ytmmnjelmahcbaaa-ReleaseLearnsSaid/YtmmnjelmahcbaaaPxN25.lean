/-
  Contracts: what is learned from numbers, the reference's side; ReleaseLearns. Conditions: lengths that fit.
-/
import Derived.Test.YtmmnjelmahcbaaaPxN24
import Derived.Test.YtmmnjelmahcbaaaPkG
import Derived.Test.YtmmnjelmahcbaaaPxAwOm
namespace Go.Aw
set_option linter.unusedSimpArgs false
set_option linter.unusedVariables false
open Go.RowKit Go.Proofs Go.Nt Go.Rl

theorem p37 (xs : List Int) (rn rd an ad : Int) (hl : xs.length ≤ 1000000) : PD Try.prog 37 [.sl (xs.map encI), .agg [.int .i64 rn, .int .i64 rd], .agg [.int .i64 an, .int .i64 ad]] (.tup [.d (.int .i64 (learnI xs rn rd an ad)), .d (.bool (learnB xs rn rd an ad))]) := by
  have h30 := p30 xs.length rn rd an ad
  have hsl := sortI_len xs
  unfold learnI learnB
  generalize mostI xs.length rn rd an ad = k at h30 ⊢
  refine pd_of (fn := Try.f37) [.tmp 6, .tmp 7] (by kernel_rfl) rfl (by kernel_rfl) (Nat.le_of_ble_eq_true rfl) (by kernel_rfl) rfl rfl ?_
  refine awp_seq ?_
  refine awpF_region ?_; intro K hK; simp only [push_cast, seval]; (try simp (disch := omega) only [wrapI]); (repeat ((with_reducible refine And.intro ?_ ?_); (focus (first | omega | trivial | assumption | (intro _ hrow; obtain ⟨_, _, rfl⟩ := List.mem_map.1 hrow; rfl) | ((intros; repeat' apply And.intro) <;> first | omega | trivial | assumption | (intro _ hrow; obtain ⟨_, _, rfl⟩ := List.mem_map.1 hrow; rfl) | (simp_all; done) | (simp_all; omega)))))); refine hK _ ?_; clear hK; clear K
  refine awp_seq ?_
  refine awp_seq ?_
  refine awpF_region ?_; intro K hK; simp only [push_cast, seval]; (try simp (disch := omega) only [wrapI]); (repeat ((with_reducible refine And.intro ?_ ?_); (focus (first | omega | trivial | assumption | (intro _ hrow; obtain ⟨_, _, rfl⟩ := List.mem_map.1 hrow; rfl) | ((intros; repeat' apply And.intro) <;> first | omega | trivial | assumption | (intro _ hrow; obtain ⟨_, _, rfl⟩ := List.mem_map.1 hrow; rfl) | (simp_all; done) | (simp_all; omega)))))); refine hK _ ?_; clear hK; clear K
  apply awp_cond; (focus (simp only [push_cast, seval]; rfl))
  · intro h1; (try simp only [decide_eq_true_eq, decide_eq_false_iff_not, Bool.not_eq_true', Bool.not_eq_false', Bool.and_eq_true, Bool.or_eq_true, Bool.not_eq_true] at h1)
    refine awp_seq ?_
    refine awpF_region ?_; intro K hK; simp only [push_cast, seval]; (try simp (disch := omega) only [wrapI]); (repeat ((with_reducible refine And.intro ?_ ?_); (focus (first | omega | trivial | assumption | (intro _ hrow; obtain ⟨_, _, rfl⟩ := List.mem_map.1 hrow; rfl) | ((intros; repeat' apply And.intro) <;> first | omega | trivial | assumption | (intro _ hrow; obtain ⟨_, _, rfl⟩ := List.mem_map.1 hrow; rfl) | (simp_all; done) | (simp_all; omega)))))); refine hK _ ?_; clear hK; clear K
    refine awp_ret ?_; (repeat (first | refine then_ret ?_ | refine inblock_ret ?_)); refine fin_of (by simp only [push_cast, seval]; first | done | rfl) (by first | trivial | first | omega | trivial | assumption | (intro _ hrow; obtain ⟨_, _, rfl⟩ := List.mem_map.1 hrow; rfl) | ((intros; repeat' apply And.intro) <;> first | omega | trivial | assumption | (intro _ hrow; obtain ⟨_, _, rfl⟩ := List.mem_map.1 hrow; rfl) | (simp_all; done) | (simp_all; omega))) ?_
    rw [decide_eq_false (by omega : ¬ xs.length ≤ 60)]
    rfl
  · intro h1; (try simp only [decide_eq_true_eq, decide_eq_false_iff_not, Bool.not_eq_true', Bool.not_eq_false', Bool.and_eq_true, Bool.or_eq_true, Bool.not_eq_true] at h1)
    refine awp_skip ?_
    refine awp_seq ?_
    refine awpF_region ?_; intro K hK; simp only [push_cast, seval]
    refine CallK.pd (h30) ?_; simp only [push_cast, seval]; (try simp (disch := omega) only [wrapI]); (repeat ((with_reducible refine And.intro ?_ ?_); (focus (first | omega | trivial | assumption | (intro _ hrow; obtain ⟨_, _, rfl⟩ := List.mem_map.1 hrow; rfl) | ((intros; repeat' apply And.intro) <;> first | omega | trivial | assumption | (intro _ hrow; obtain ⟨_, _, rfl⟩ := List.mem_map.1 hrow; rfl) | (simp_all; done) | (simp_all; omega))))))
    refine hK _ ?_; clear hK; clear K
    refine awp_seq ?_
    refine awp_seq ?_
    refine awpF_region ?_; intro K hK; simp only [push_cast, seval, bif_or]; (try simp (disch := omega) only [wrapI]); (repeat ((with_reducible refine And.intro ?_ ?_); (focus (first | omega | trivial | assumption | (intro _ hrow; obtain ⟨_, _, rfl⟩ := List.mem_map.1 hrow; rfl) | ((intros; repeat' apply And.intro) <;> first | omega | trivial | assumption | (intro _ hrow; obtain ⟨_, _, rfl⟩ := List.mem_map.1 hrow; rfl) | (simp_all; done) | (simp_all; omega)))))); refine hK _ ?_; clear hK; clear K
    apply awp_cond; (focus (simp only [push_cast, seval]; rfl))
    · intro h2; (try simp only [decide_eq_true_eq, decide_eq_false_iff_not, Bool.not_eq_true', Bool.not_eq_false', Bool.and_eq_true, Bool.or_eq_true, Bool.not_eq_true] at h2)
      refine awp_seq ?_
      refine awpF_region ?_; intro K hK; simp only [push_cast, seval]; (try simp (disch := omega) only [wrapI]); (repeat ((with_reducible refine And.intro ?_ ?_); (focus (first | omega | trivial | assumption | (intro _ hrow; obtain ⟨_, _, rfl⟩ := List.mem_map.1 hrow; rfl) | ((intros; repeat' apply And.intro) <;> first | omega | trivial | assumption | (intro _ hrow; obtain ⟨_, _, rfl⟩ := List.mem_map.1 hrow; rfl) | (simp_all; done) | (simp_all; omega)))))); refine hK _ ?_; clear hK; clear K
      refine awp_ret ?_; (repeat (first | refine then_ret ?_ | refine inblock_ret ?_)); refine fin_of (by simp only [push_cast, seval]; first | done | rfl) (by first | trivial | first | omega | trivial | assumption | (intro _ hrow; obtain ⟨_, _, rfl⟩ := List.mem_map.1 hrow; rfl) | ((intros; repeat' apply And.intro) <;> first | omega | trivial | assumption | (intro _ hrow; obtain ⟨_, _, rfl⟩ := List.mem_map.1 hrow; rfl) | (simp_all; done) | (simp_all; omega))) ?_
      have : (decide (0 ≤ k) && decide (k < (xs.length : Int))) = false := by
        simp only [Bool.and_eq_false_iff, decide_eq_false_iff_not]; omega
      rw [this, Bool.and_false]
      rfl
    · intro h2; (try simp only [decide_eq_true_eq, decide_eq_false_iff_not, Bool.not_eq_true', Bool.not_eq_false', Bool.and_eq_true, Bool.or_eq_true, Bool.not_eq_true] at h2)
      simp only [Bool.or_eq_false_iff, decide_eq_false_iff_not] at h2
      obtain ⟨k, rfl⟩ : ∃ x : Nat, k = x := ⟨k.toNat, by omega⟩
      have hk : k < xs.length := by omega
      refine awp_skip ?_
      refine awp_seq ?_
      refine awpF_region ?_; intro K hK; simp only [push_cast, seval]; (try simp (disch := omega) only [wrapI]); (repeat ((with_reducible refine And.intro ?_ ?_); (focus (first | omega | trivial | assumption | (intro _ hrow; obtain ⟨_, _, rfl⟩ := List.mem_map.1 hrow; rfl) | ((intros; repeat' apply And.intro) <;> first | omega | trivial | assumption | (intro _ hrow; obtain ⟨_, _, rfl⟩ := List.mem_map.1 hrow; rfl) | (simp_all; done) | (simp_all; omega)))))); refine hK _ ?_; clear hK; clear K
      refine awp_seq ?_
      refine awp_seq ?_
      refine awpF_region ?_; intro K hK; simp only [push_cast, seval]; (try simp (disch := omega) only [wrapI]); (repeat ((with_reducible refine And.intro ?_ ?_); (focus (first | omega | trivial | assumption | (intro _ hrow; obtain ⟨_, _, rfl⟩ := List.mem_map.1 hrow; rfl) | ((intros; repeat' apply And.intro) <;> first | omega | trivial | assumption | (intro _ hrow; obtain ⟨_, _, rfl⟩ := List.mem_map.1 hrow; rfl) | (simp_all; done) | (simp_all; omega)))))); refine hK _ ?_; clear hK; clear K
      refine awp_virt 9 1 (by simp only [push_cast, seval]) ?_
      refine awp_block ?_
      refine awp_loopP (α := Nat × List Int) (st := fun x => ⟨[(0, .d (.sl (xs.map encI))), (8, .d (.int .i64 k)), (9, .ref 0 0 x.2.length), (10, .d (.int .i64 x.1))], [.data 1 (x.2.map encI)]⟩) (inv := fun x => x.1 ≤ xs.length ∧ descL x.2 ∧ x.2.Perm (xs.take x.1)) (μ := fun x => xs.length - x.1) (x0 := (0, [])) (r0 := [2]) ?_ ?_ ?_
      · exact ⟨Nat.zero_le _, List.Pairwise.nil, by simp⟩
      · exact ⟨by simp, by simp, by simp [push_cast, seval], by simp [push_cast, seval], by simp [push_cast, seval], by simp [push_cast, seval]⟩
      rintro ⟨i, l⟩ ⟨hi, hd, hp⟩
      dsimp only at hi hd hp ⊢
      have hll : l.length = i := by rw [hp.length_eq, List.length_take]; omega
      refine awp_seq ?_
      refine awp_seq ?_
      refine awpF_region ?_; intro K hK; simp only [push_cast, seval]; (try simp (disch := omega) only [wrapI]); (repeat ((with_reducible refine And.intro ?_ ?_); (focus (first | omega | trivial | assumption | (intro _ hrow; obtain ⟨_, _, rfl⟩ := List.mem_map.1 hrow; rfl) | ((intros; repeat' apply And.intro) <;> first | omega | trivial | assumption | (intro _ hrow; obtain ⟨_, _, rfl⟩ := List.mem_map.1 hrow; rfl) | (simp_all; done) | (simp_all; omega)))))); refine hK _ ?_; clear hK; clear K
      apply awp_cond; (focus (simp only [push_cast, seval]; rfl))
      · intro h3; (try simp only [decide_eq_true_eq, decide_eq_false_iff_not, Bool.not_eq_true', Bool.not_eq_false', Bool.and_eq_true, Bool.or_eq_true, Bool.not_eq_true] at h3)
        have hi2 : i < xs.length := by omega
        have g1 := List.getElem?_eq_getElem hi2
        refine awp_skip ?_
        refine awp_mid (fun u => ∃ l2 : List Int, descL l2 ∧ l2.Perm (xs.take (i + 1)) ∧ u = ⟨[(0, .d (.sl (xs.map encI))), (8, .d (.int .i64 k)), (9, .ref 0 0 l2.length), (10, .d (.int .i64 i))], [.data 1 (l2.map encI)]⟩) ?_ ?_
        · refine awp_block ?_
          refine awp_seq ?_
          refine awpF_region ?_; intro K hK; simp only [push_cast, seval]; (try simp (disch := omega) only [wrapI]); (repeat ((with_reducible refine And.intro ?_ ?_); (focus (first | omega | trivial | assumption | (intro _ hrow; obtain ⟨_, _, rfl⟩ := List.mem_map.1 hrow; rfl) | ((intros; repeat' apply And.intro) <;> first | omega | trivial | assumption | (intro _ hrow; obtain ⟨_, _, rfl⟩ := List.mem_map.1 hrow; rfl) | (simp_all; done) | (simp_all; omega)))))); refine hK _ ?_; clear hK; clear K
          refine awp_mid (fun u => ∃ t : Nat, t ≤ l.length ∧ (∀ j (hj : j < l.length), t ≤ j → l[j] < xs[i]) ∧ (t = 0 ∨ ∃ h : t - 1 < l.length, xs[i] ≤ l[t - 1]) ∧ u = ⟨[(0, .d (.sl (xs.map encI))), (8, .d (.int .i64 k)), (9, .ref 0 0 l.length), (10, .d (.int .i64 i)), (11, .d (.int .i64 t))], [.data 1 (l.map encI)]⟩) ?_ ?_
          · refine awp_block ?_
            refine awp_loopP (α := Nat) (st := fun t => ⟨[(0, .d (.sl (xs.map encI))), (8, .d (.int .i64 k)), (9, .ref 0 0 l.length), (10, .d (.int .i64 i)), (11, .d (.int .i64 t))], [.data 1 (l.map encI)]⟩) (inv := fun t => t ≤ l.length ∧ ∀ j (hj : j < l.length), t ≤ j → l[j] < xs[i]) (μ := fun t => t) (x0 := l.length) (r0 := [0]) ?_ ?_ ?_
            · exact ⟨Nat.le_refl _, fun j hj h => by omega⟩
            · exact ⟨by simp, by simp, by simp [push_cast, seval], by simp [push_cast, seval], by simp [push_cast, seval], by simp [push_cast, seval]⟩
            rintro t ⟨ht, hlow⟩
            rcases Nat.eq_zero_or_pos t with h0 | h0
            · subst h0
              have e0 : (IntKind.i64.wrap (-1)).toNat = 0 := by decide
              refine awp_seq ?_
              refine awp_seq ?_
              cases g0 : l[0]?
              all_goals (refine awpF_draw [0,1,2,3,4,5,6,7,8,9,10,11,12,13] (by kernel_rfl) (by kernel_rfl) rfl ?_; intro K hK; simp only [push_cast, seval, Int.lt_irrefl, decide_false, bif_and, e0, g1, g0, encI]; (repeat ((with_reducible refine And.intro ?_ ?_); (focus (first | omega | trivial | assumption | (intro _ hrow; obtain ⟨_, _, rfl⟩ := List.mem_map.1 hrow; rfl) | ((intros; repeat' apply And.intro) <;> first | omega | trivial | assumption | (intro _ hrow; obtain ⟨_, _, rfl⟩ := List.mem_map.1 hrow; rfl) | (simp_all; done) | (simp_all; omega)))))); refine hK _ ?_; clear hK; clear K; apply awp_cond; (focus (simp only [push_cast, seval]; rfl)))
              all_goals first | (intro hb; exact absurd hb (by decide)) | (intro hb; refine awp_exit ?_; (repeat (first | refine then_exit ?_ | refine inblock_other (by decide) ?_)); refine inblock_same ?_; refine mid_end [0] _ ⟨0, by omega, hlow, .inl rfl, rfl⟩ ?_; exact ⟨by simp, by simp, by simp [push_cast, seval], by simp [push_cast, seval], by simp [push_cast, seval], by simp [push_cast, seval]⟩)
            · obtain ⟨u, rfl⟩ : ∃ u, t = u + 1 := ⟨t - 1, by omega⟩
              have hw : IntKind.i64.wrap ((u : Int) + 1 - 1) = (u : Int) := by rw [wrapI _ (by omega)]; omega
              have hpos : ((u : Int) + 1 > 0) = True := eq_true (by omega)
              have g2 := List.getElem?_eq_getElem (l := l) (i := u) (by omega)
              refine awp_seq ?_
              refine awp_seq ?_
              refine awpF_draw [0,1,2,3,4,5,6,7,8,9,10,11,12,13] (by kernel_rfl) (by kernel_rfl) rfl ?_; intro K hK; simp only [push_cast, seval, hpos, decide_true, hw, Int.toNat_natCast, g1, g2, encI]
              (repeat ((with_reducible refine And.intro ?_ ?_); (focus (first | omega | trivial | assumption | (intro _ hrow; obtain ⟨_, _, rfl⟩ := List.mem_map.1 hrow; rfl) | ((intros; repeat' apply And.intro) <;> first | omega | trivial | assumption | (intro _ hrow; obtain ⟨_, _, rfl⟩ := List.mem_map.1 hrow; rfl) | (simp_all; done) | (simp_all; omega))))))
              refine hK _ ?_; clear hK; clear K
              apply awp_cond; (focus (simp only [push_cast, seval]; rfl))
              · intro h4; (try simp only [decide_eq_true_eq, decide_eq_false_iff_not, Bool.not_eq_true', Bool.not_eq_false', Bool.and_eq_true, Bool.or_eq_true, Bool.not_eq_true] at h4)
                refine awp_skip ?_
                refine awp_block ?_
                refine awpF_region ?_; intro K hK; simp only [push_cast, seval, hw]; (try simp (disch := omega) only [wrapI]); (repeat ((with_reducible refine And.intro ?_ ?_); (focus (first | omega | trivial | assumption | (intro _ hrow; obtain ⟨_, _, rfl⟩ := List.mem_map.1 hrow; rfl) | ((intros; repeat' apply And.intro) <;> first | omega | trivial | assumption | (intro _ hrow; obtain ⟨_, _, rfl⟩ := List.mem_map.1 hrow; rfl) | (simp_all; done) | (simp_all; omega)))))); refine hK _ ?_; clear hK; clear K
                refine inblock_norm ?_
                refine round_end (y := u) (r := [0]) (by omega) ⟨by omega, fun j hj hju => ?_⟩ ?_
                · rcases Nat.eq_or_lt_of_le hju with rfl | h5
                  · omega
                  · exact hlow j hj h5
                · exact ⟨by simp, by simp, by simp [push_cast, seval], by simp [push_cast, seval], by simp [push_cast, seval], by simp [push_cast, seval]⟩
              · intro h4; (try simp only [decide_eq_true_eq, decide_eq_false_iff_not, Bool.not_eq_true', Bool.not_eq_false', Bool.and_eq_true, Bool.or_eq_true, Bool.not_eq_true] at h4)
                refine awp_exit ?_; (repeat (first | refine then_exit ?_ | refine inblock_other (by decide) ?_)); refine inblock_same ?_
                refine mid_end [0] _ ⟨u + 1, by omega, hlow, .inr (Exists.intro (by omega) (by simpa using h4)), rfl⟩ ?_
                exact ⟨by simp, by simp, by simp [push_cast, seval], by simp [push_cast, seval], by simp [push_cast, seval], by simp [push_cast, seval]⟩
          · rintro _ ⟨t, ht, hlow, hup, rfl⟩
            have e1 : (l.map encI).take (t - 0) = (l.take t).map encI := by rw [Nat.sub_zero, List.map_take]
            have e2 : ((l.map encI).drop t).take (l.length - t) = (l.drop t).map encI := by rw [← List.map_drop]; exact List.take_of_length_le (by simp)
            have e3 : (l.take t).length = t := by rw [List.length_take]; omega
            have e4 : (l.drop t).length = l.length - t := List.length_drop
            have e5 : ((l.take t).map encI).take t = (l.take t).map encI := List.take_of_length_le (by simp; omega)
            have e6 : ((l.take t).map encI ++ [[D.int .i64 xs[i]]]).take (t + 1) = (l.take t).map encI ++ [[D.int .i64 xs[i]]] := List.take_of_length_le (by simp; omega)
            have hd2 := ins_desc hd ht hlow hup
            have hp2 : (l.take t ++ xs[i] :: l.drop t).Perm (xs.take (i + 1)) := by
              rw [← List.take_append_getElem hi2]
              exact ins_perm hp
            have hl2 : (l.take t ++ xs[i] :: l.drop t).length = t + 1 + (l.length - t) := by simp only [List.length_append, List.length_cons, e3, e4]; omega
            have hm2 : (l.take t ++ xs[i] :: l.drop t).map encI = (l.take t).map encI ++ [[D.int .i64 xs[i]]] ++ (l.drop t).map encI := by simp [encI]
            generalize l.take t ++ xs[i] :: l.drop t = l2 at hd2 hp2 hl2 hm2
            refine awpF_drawM [1, 2, 3, 5, 6, 7, 11, 12, 13] [] (DT.or (DT.op 0 (DT.or (DT.op 4 (DT.op 8 (DT.op 9 (DT.op 10 (DT.op 14 (DT.op 15 DT.nil)))))) (DT.op 8 (DT.or (DT.op 4 (DT.op 9 (DT.op 10 (DT.op 14 (DT.op 15 DT.nil))))) (DT.op 9 (DT.op 4 (DT.op 10 (DT.op 14 (DT.op 15 DT.nil))))))))) (DT.op 8 (DT.or (DT.op 0 (DT.or (DT.op 4 (DT.op 9 (DT.op 10 (DT.op 14 (DT.op 15 DT.nil))))) (DT.op 9 (DT.op 4 (DT.op 10 (DT.op 14 (DT.op 15 DT.nil))))))) (DT.op 9 (DT.op 0 (DT.op 4 (DT.op 10 (DT.op 14 (DT.op 15 DT.nil))))))))) (by kernel_rfl) (by kernel_rfl) (by kernel_rfl) ?_; intro K hK; simp only [push_cast, seval, g1, encI, Int.toNat_natCast, e1, e2, e3, e4, e5, e6, List.length_map]
            repeat' (first | (with_reducible refine And.intro ?_ ?_) | omega | trivial | (intro row hr; rcases List.mem_map.1 hr with ⟨_, _, rfl⟩; rfl))
            all_goals rw [← hm2, ← hl2]
            all_goals first | (refine hK _ (inblock_norm (mid_end [1] _ ⟨l2, hd2, hp2, rfl⟩ ?_)); refine ⟨?_, ?_, ?_, ?_, ?_, ?_⟩ <;> (simp [push_cast, seval]; done)) | (refine hK _ (inblock_norm (mid_end [2] _ ⟨l2, hd2, hp2, rfl⟩ ?_)); refine ⟨?_, ?_, ?_, ?_, ?_, ?_⟩ <;> (simp [push_cast, seval]; done))
        · rintro _ ⟨l2, hd2, hp2, rfl⟩
          refine awpF_region ?_; intro K hK; simp only [push_cast, seval]; (try simp (disch := omega) only [wrapI]); (repeat ((with_reducible refine And.intro ?_ ?_); (focus (first | omega | trivial | assumption | (intro _ hrow; obtain ⟨_, _, rfl⟩ := List.mem_map.1 hrow; rfl) | ((intros; repeat' apply And.intro) <;> first | omega | trivial | assumption | (intro _ hrow; obtain ⟨_, _, rfl⟩ := List.mem_map.1 hrow; rfl) | (simp_all; done) | (simp_all; omega)))))); refine hK _ ?_; clear hK; clear K
          refine round_endG (i + 1, l2) [0] ⟨(by dsimp only; omega), ⟨(by dsimp only; omega), hd2, hp2⟩, ?_⟩
          exact ⟨by simp, by simp, by simp [push_cast, seval], by simp [push_cast, seval], by simp [push_cast, seval], by simp [push_cast, seval]⟩
      · intro h3; (try simp only [decide_eq_true_eq, decide_eq_false_iff_not, Bool.not_eq_true', Bool.not_eq_false', Bool.and_eq_true, Bool.or_eq_true, Bool.not_eq_true] at h3)
        refine awp_exit ?_; (repeat (first | refine then_exit ?_ | refine inblock_other (by decide) ?_)); refine inblock_same ?_
        have hi2 : i = xs.length := by omega
        subst hi2
        have hu : l = (sortI xs).reverse := desc_uniq hd (by rw [List.take_length] at hp; exact hp)
        have g1 : l[k]? = some (l[k]'(by omega)) := List.getElem?_eq_getElem (by omega)
        refine awp_seq ?_
        refine awpF_region ?_; intro K hK; simp only [push_cast, seval, g1, encI, Int.toNat_natCast]; (try simp (disch := omega) only [wrapI]); (repeat ((with_reducible refine And.intro ?_ ?_); (focus (first | omega | trivial | assumption | (intro _ hrow; obtain ⟨_, _, rfl⟩ := List.mem_map.1 hrow; rfl) | ((intros; repeat' apply And.intro) <;> first | omega | trivial | assumption | (intro _ hrow; obtain ⟨_, _, rfl⟩ := List.mem_map.1 hrow; rfl) | (simp_all; done) | (simp_all; omega)))))); refine hK _ ?_; clear hK; clear K
        refine awp_ret ?_; (repeat (first | refine then_ret ?_ | refine inblock_ret ?_)); refine fin_of (by simp only [push_cast, seval]; first | done | rfl) (by first | trivial | first | omega | trivial | assumption | (intro _ hrow; obtain ⟨_, _, rfl⟩ := List.mem_map.1 hrow; rfl) | ((intros; repeat' apply And.intro) <;> first | omega | trivial | assumption | (intro _ hrow; obtain ⟨_, _, rfl⟩ := List.mem_map.1 hrow; rfl) | (simp_all; done) | (simp_all; omega))) ?_
        rw [decide_eq_true (by omega : xs.length ≤ 60), decide_eq_true (by omega : (0 : Int) ≤ k), decide_eq_true (by omega : (k : Int) < xs.length)]
        subst hu
        simp only [Int.toNat_natCast, Bool.and_self, if_true]
        rw [List.getElem_reverse, List.getElem?_eq_getElem (l := sortI xs) (i := xs.length - 1 - k) (by omega)]
        simp only [Option.getD_some, hsl]

theorem p10 (xs : List Int) (rn rd an ad : Int) : PD Try.prog 10 [.sl (xs.map encI), .agg [.int .i64 rn, .int .i64 rd], .agg [.int .i64 an, .int .i64 ad]] (.d (.bool true)) := by
  have h19 := p19
  refine pd_of (fn := Try.f10) [.tmp 6] (by kernel_rfl) rfl (by kernel_rfl) (Nat.le_of_ble_eq_true rfl) (by kernel_rfl) rfl rfl ?_
  refine awp_seq ?_
  refine awpF_region ?_; intro K hK; simp only [push_cast, seval]; (try simp (disch := omega) only [wrapI]); (repeat ((with_reducible refine And.intro ?_ ?_); (focus (first | omega | trivial | assumption | (intro _ hrow; obtain ⟨_, _, rfl⟩ := List.mem_map.1 hrow; rfl) | ((intros; repeat' apply And.intro) <;> first | omega | trivial | assumption | (intro _ hrow; obtain ⟨_, _, rfl⟩ := List.mem_map.1 hrow; rfl) | (simp_all; done) | (simp_all; omega)))))); refine hK _ ?_; clear hK; clear K
  refine awp_seq ?_
  refine awp_seq ?_
  refine awpF_region ?_; intro K hK; simp only [push_cast, seval]; (try simp (disch := omega) only [wrapI]); (repeat ((with_reducible refine And.intro ?_ ?_); (focus (first | omega | trivial | assumption | (intro _ hrow; obtain ⟨_, _, rfl⟩ := List.mem_map.1 hrow; rfl) | ((intros; repeat' apply And.intro) <;> first | omega | trivial | assumption | (intro _ hrow; obtain ⟨_, _, rfl⟩ := List.mem_map.1 hrow; rfl) | (simp_all; done) | (simp_all; omega)))))); refine hK _ ?_; clear hK; clear K
  apply awp_cond; (focus (simp only [push_cast, seval]; rfl))
  · intro h1; (try simp only [decide_eq_true_eq, decide_eq_false_iff_not, Bool.not_eq_true', Bool.not_eq_false', Bool.and_eq_true, Bool.or_eq_true, Bool.not_eq_true] at h1)
    refine awp_seq ?_
    refine awpF_region ?_; intro K hK; simp only [push_cast, seval]
    refine CallK.pd (h19) ?_; simp only [push_cast, seval]; (try simp (disch := omega) only [wrapI]); (repeat ((with_reducible refine And.intro ?_ ?_); (focus (first | omega | trivial | assumption | (intro _ hrow; obtain ⟨_, _, rfl⟩ := List.mem_map.1 hrow; rfl) | ((intros; repeat' apply And.intro) <;> first | omega | trivial | assumption | (intro _ hrow; obtain ⟨_, _, rfl⟩ := List.mem_map.1 hrow; rfl) | (simp_all; done) | (simp_all; omega))))))
    refine hK _ ?_; clear hK; clear K
    refine awp_ret ?_; (repeat (first | refine then_ret ?_ | refine inblock_ret ?_)); refine fin_of (by simp only [push_cast, seval]; first | done | rfl) (by first | trivial | first | omega | trivial | assumption | (intro _ hrow; obtain ⟨_, _, rfl⟩ := List.mem_map.1 hrow; rfl) | ((intros; repeat' apply And.intro) <;> first | omega | trivial | assumption | (intro _ hrow; obtain ⟨_, _, rfl⟩ := List.mem_map.1 hrow; rfl) | (simp_all; done) | (simp_all; omega))) ?_
    rfl
  · intro h1; (try simp only [decide_eq_true_eq, decide_eq_false_iff_not, Bool.not_eq_true', Bool.not_eq_false', Bool.and_eq_true, Bool.or_eq_true, Bool.not_eq_true] at h1)
    have hl : xs.length ≤ 1000000 := by omega
    have h36 := p36 xs rn rd an ad hl
    have h37 := p37 xs rn rd an ad hl
    have h38 := p38 xs xs hl hl
    rw [decide_eq_true (rfl : xs = xs)] at h38
    have ht : (xs.map encI).take xs.length = xs.map encI := List.take_of_length_le (by simp)
    generalize learnI xs rn rd an ad = v at h36 h37
    generalize learnB xs rn rd an ad = b at h36 h37
    refine awp_skip ?_
    refine awp_seq ?_
    refine awpF_region ?_; intro K hK; simp only [push_cast, seval]
    (repeat ((with_reducible refine And.intro ?_ ?_); (focus (first | omega | trivial | assumption | (intro _ hrow; obtain ⟨_, _, rfl⟩ := List.mem_map.1 hrow; rfl) | ((intros; repeat' apply And.intro) <;> first | omega | trivial | assumption | (intro _ hrow; obtain ⟨_, _, rfl⟩ := List.mem_map.1 hrow; rfl) | (simp_all; done) | (simp_all; omega))))))
    refine ⟨fun row hr => by rcases List.mem_map.1 hr with ⟨_, _, rfl⟩; exact ⟨rfl, rfl⟩, ?_⟩
    refine hK _ ?_; clear hK; clear K
    refine awp_seq ?_
    refine awpF_region ?_; intro K hK; simp only [push_cast, seval, ht]
    refine CallK.pd (h36) ?_; simp only [push_cast, seval]; (try simp (disch := omega) only [wrapI]); (repeat ((with_reducible refine And.intro ?_ ?_); (focus (first | omega | trivial | assumption | (intro _ hrow; obtain ⟨_, _, rfl⟩ := List.mem_map.1 hrow; rfl) | ((intros; repeat' apply And.intro) <;> first | omega | trivial | assumption | (intro _ hrow; obtain ⟨_, _, rfl⟩ := List.mem_map.1 hrow; rfl) | (simp_all; done) | (simp_all; omega))))))
    refine hK _ ?_; clear hK; clear K
    refine awp_seq ?_
    refine awpF_region ?_; intro K hK; simp only [push_cast, seval, ht]
    refine CallK.pd (h37) ?_; simp only [push_cast, seval]; (try simp (disch := omega) only [wrapI]); (repeat ((with_reducible refine And.intro ?_ ?_); (focus (first | omega | trivial | assumption | (intro _ hrow; obtain ⟨_, _, rfl⟩ := List.mem_map.1 hrow; rfl) | ((intros; repeat' apply And.intro) <;> first | omega | trivial | assumption | (intro _ hrow; obtain ⟨_, _, rfl⟩ := List.mem_map.1 hrow; rfl) | (simp_all; done) | (simp_all; omega))))))
    refine hK _ ?_; clear hK; clear K
    refine awp_seq ?_
    refine awpF_region ?_; intro K hK; simp only [push_cast, seval, ht, bif_and, beq_self_eq_true, decide_true]
    refine CallK.pg (fun _ => h38) ?_
    simp only [push_cast, seval, decide_true, bif_and]
    (repeat ((with_reducible refine And.intro ?_ ?_); (focus (first | omega | trivial | assumption | (intro _ hrow; obtain ⟨_, _, rfl⟩ := List.mem_map.1 hrow; rfl) | ((intros; repeat' apply And.intro) <;> first | omega | trivial | assumption | (intro _ hrow; obtain ⟨_, _, rfl⟩ := List.mem_map.1 hrow; rfl) | (simp_all; done) | (simp_all; omega))))))
    refine CallK.pg (fun _ => h19) ?_
    simp only [push_cast, seval, decide_true, bif_and]
    (repeat ((with_reducible refine And.intro ?_ ?_); (focus (first | omega | trivial | assumption | (intro _ hrow; obtain ⟨_, _, rfl⟩ := List.mem_map.1 hrow; rfl) | ((intros; repeat' apply And.intro) <;> first | omega | trivial | assumption | (intro _ hrow; obtain ⟨_, _, rfl⟩ := List.mem_map.1 hrow; rfl) | (simp_all; done) | (simp_all; omega))))))
    refine hK _ ?_; clear hK; clear K
    refine awp_ret ?_; (repeat (first | refine then_ret ?_ | refine inblock_ret ?_)); refine fin_of (by simp only [push_cast, seval]; first | done | rfl) (by first | trivial | first | omega | trivial | assumption | (intro _ hrow; obtain ⟨_, _, rfl⟩ := List.mem_map.1 hrow; rfl) | ((intros; repeat' apply And.intro) <;> first | omega | trivial | assumption | (intro _ hrow; obtain ⟨_, _, rfl⟩ := List.mem_map.1 hrow; rfl) | (simp_all; done) | (simp_all; omega))) ?_
    rfl
end Go.Aw
