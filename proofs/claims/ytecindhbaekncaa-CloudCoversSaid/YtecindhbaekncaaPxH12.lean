/-
  What CloudCovers answers. Conditions: none.
-/
import Derived.Test.YtecindhbaekncaaPxH11
namespace Go.Aw
set_option linter.unusedSimpArgs false
set_option linter.unusedVariables false
open Go.RowKit Go.Proofs Go.Rg

theorem p12 (nums : List Int) (span : Int) : PD Try.prog 12 [.sl (nums.map encI), .int .i64 span] (.d (.bool true)) := by
  have hm1 := Int.emod_nonneg span (show (3000 : Int) ≠ 0 by omega)
  have hm2 := Int.emod_lt_of_pos span (show (0 : Int) < 3000 by omega)
  refine pd_of (fn := Try.f12) [.tmp 4] (by kernel_rfl) rfl (by kernel_rfl) (Nat.le_of_ble_eq_true rfl) (by kernel_rfl) rfl rfl ?_
  refine awp_seq ?_
  refine awpF_region ?_; intro K hK; simp only [push_cast, seval]; (try simp (disch := omega) only [wrapI]); (repeat ((with_reducible refine And.intro ?_ ?_); (focus (exact ob1)))); refine hK _ ?_; clear hK; clear K
  refine awp_seq ?_
  refine awpF_region ?_; intro K hK; simp only [push_cast, seval]
  (repeat ((with_reducible refine And.intro ?_ ?_); (focus (exact ob1))))
  refine CallK.pd (p32 span 3000 (by omega) (by omega)) ?_; simp only [push_cast, seval, ofD]; (try simp (disch := omega) only [wrapI]); (repeat ((with_reducible refine And.intro ?_ ?_); (focus (exact ob1))))
  refine CallK.pd (p31 nums (1 + span % 3000) (by omega) (by omega)) ?_; simp only [push_cast, seval, ofD]; (repeat ((with_reducible refine And.intro ?_ ?_); (focus (exact ob1))))
  refine hK _ ?_; clear hK; clear K
  have hla := (cloudOf_len (1 + span % 3000) nums).1
  have hca := cloudOf_check (span := 1 + span % 3000) (by omega) (by omega) nums
  generalize cloudOf (1 + span % 3000) nums = l at hla hca ⊢
  obtain ⟨H, hH⟩ := isHull_ex (l.map ptS)
  have h49 := p49 l H hH
  have hHl := isHull_len hH
  have hf := cloud_fairS hca
  rw [List.length_map] at hHl
  have hins := fun p hp => hull_inside hH hf (by omega) (p := p) hp
  have hrev := p49 l.reverse H (isHull_mem (fun r => by simp) hH)
  have hself := isHull_self hH
  rw [← ptS_corn H] at hself
  have hcor := p49 (H.map cornP) H (by rw [ptS_corn]; exact isHull_self hH)
  have hpos := hull_pos hH
  have har := hull_areaV hH hf (by omega)
  have hsub := isHull_sub hH
  rw [if_pos hca] at h49
  rw [if_pos (check_rev hca)] at hrev
  rw [if_pos (check_corn (by omega) fun q hq => hf q (hsub q hq))] at hcor
  clear hself
  refine awp_seq ?_
  refine awpF_region ?_; intro K hK; simp only [push_cast, seval]
  (repeat ((with_reducible refine And.intro ?_ ?_); (focus (exact ob1))))
  refine CallK.pd h49 ?_; simp only [push_cast, seval, ofD]; (repeat ((with_reducible refine And.intro ?_ ?_); (focus (exact ob1))))
  refine hK _ ?_; clear hK; clear K
  refine awp_seq ?_
  refine awpF_region ?_; intro K hK; simp only [push_cast, seval]; (try simp (disch := omega) only [wrapI]); (repeat ((with_reducible refine And.intro ?_ ?_); (focus (exact ob1)))); refine hK _ ?_; clear hK; clear K
  refine awp_virt 7 3 rfl ?_
  simp only [push_cast, seval]
  refine awp_seq ?_
  refine awp_seq ?_
  refine awpF_region ?_; intro K hK; simp only [push_cast, seval]; (try simp (disch := omega) only [wrapI]); (repeat ((with_reducible refine And.intro ?_ ?_); (focus (exact ob1)))); refine hK _ ?_; clear hK; clear K
  refine awp_block ?_
  refine awp_loopP (α := Nat) (st := fun j => ⟨[(5, .d (.sl (l.map encP))), (6, .d (.sl (H.map encS))), (7, .ref 0 0 (l.length - j)), (8, .nil), (9, .d (.int .i64 ((j : Int) - 1)))], [.data 3 ((l.drop j).reverse.map encP)]⟩)
    (inv := fun j => j ≤ l.length) (μ := fun j => j) (x0 := l.length) (r0 := [0]) ?_ ?_ ?_
  · exact Nat.le_refl _
  · rw [List.drop_length, Nat.sub_self]
    exact ⟨by simp, by simp, by simp [push_cast, seval], by simp [push_cast, seval], by simp [push_cast, seval], by simp [push_cast, seval]⟩
  intro j hj
  refine awp_seq ?_
  refine awp_seq ?_
  refine awpF_region ?_; intro K hK; simp only [push_cast, seval]; (try simp (disch := omega) only [wrapI]); (repeat ((with_reducible refine And.intro ?_ ?_); (focus (exact ob1)))); refine hK _ ?_; clear hK; clear K
  apply awp_cond; (focus (simp only [push_cast, seval]; rfl))
  · intro h1; (try simp only [decide_eq_true_eq, decide_eq_false_iff_not, Bool.not_eq_true', Bool.not_eq_false', Bool.and_eq_true, Bool.or_eq_true, Bool.not_eq_true] at h1)
    obtain ⟨i, rfl⟩ : ∃ i, j = i + 1 := ⟨j - 1, by omega⟩
    have hlt : i < l.length := by omega
    have e1 : ((i + 1 : Nat) : Int) - 1 = i := by omega
    have g1 : (l.map encP)[i]? = some (encP l[i]) := by rw [List.getElem?_map, List.getElem?_eq_getElem hlt]; rfl
    have hq3 : ∀ row, row ∈ l.map encP → row.length = 3 := fun row hr => by obtain ⟨_, _, rfl⟩ := List.mem_map.1 hr; rfl
    have hrow : (l.drop i).reverse.map encP = (l.drop (i + 1)).reverse.map encP ++ [encP l[i]] := by
      rw [List.drop_eq_getElem_cons hlt, List.reverse_cons, List.map_append]
      rfl
    have hrl : ((l.drop (i + 1)).reverse.map encP).length = l.length - (i + 1) := by simp
    have htk : ((l.drop (i + 1)).reverse.map encP).take (l.length - (i + 1)) = (l.drop (i + 1)).reverse.map encP := List.take_of_length_le (by omega)
    have hin := hins (ptS l[i]) (List.mem_map.2 ⟨_, List.getElem_mem hlt, rfl⟩)
    have h54 := p54 H (ptS l[i]) (by omega)
    have hsb : l.length - (i + 1) + 1 = l.length - i := by omega
    have hni : (i : Int) - 1 = ((i : Nat) : Int) - 1 := rfl
    rw [hin] at h54
    simp only [encP, ptS, encS] at g1 hrow h54
    rw [e1]
    generalize l[i] = p at g1 hrow hin h54
    generalize (l.drop (i + 1)).reverse.map encP = Y at hrow hrl htk ⊢
    refine awp_skip ?_
    refine awp_seq ?_
    refine awp_block ?_
    refine awp_seq ?_
    refine awpF_region ?_; intro K hK; simp only [push_cast, seval, g1, htk, hsb, Int.toNat_natCast]
    (repeat ((with_reducible refine And.intro ?_ ?_); (focus (exact ob1))))
    refine hK _ ?_; clear hK; clear K
    refine awp_seq ?_
    refine awpF_region ?_; intro K hK; simp only [push_cast, seval, g1, Int.toNat_natCast]
    (repeat ((with_reducible refine And.intro ?_ ?_); (focus (exact ob1))))
    refine CallK.pd (q47 _ _ _) ?_; simp only [push_cast, seval]; (try simp (disch := omega) only [wrapI]); (repeat ((with_reducible refine And.intro ?_ ?_); (focus (exact ob1))))
    refine CallK.pd (h54) ?_; simp only [push_cast, seval]; (try simp (disch := omega) only [wrapI]); (repeat ((with_reducible refine And.intro ?_ ?_); (focus (exact ob1))))
    refine hK _ ?_; clear hK; clear K
    apply awp_cond; (focus (simp only [push_cast, seval]; rfl))
    · intro h2; (try simp only [decide_eq_true_eq, decide_eq_false_iff_not, Bool.not_eq_true', Bool.not_eq_false', Bool.and_eq_true, Bool.or_eq_true, Bool.not_eq_true] at h2)
      cases h2
    intro h2; (try simp only [decide_eq_true_eq, decide_eq_false_iff_not, Bool.not_eq_true', Bool.not_eq_false', Bool.and_eq_true, Bool.or_eq_true, Bool.not_eq_true] at h2)
    refine awp_skip ?_
    refine inblock_norm ?_
    refine awpF_region ?_; intro K hK; simp only [push_cast, seval]; (try simp (disch := omega) only [wrapI]); (repeat ((with_reducible refine And.intro ?_ ?_); (focus (exact ob1)))); refine hK _ ?_; clear hK; clear K
    refine round_endG i [0] ⟨by omega, by omega, ?_⟩
    rw [hrow]
    exact ⟨by simp, by simp, by simp [push_cast, seval], by simp [push_cast, seval], by simp [push_cast, seval], by simp [push_cast, seval]⟩
  intro h1; (try simp only [decide_eq_true_eq, decide_eq_false_iff_not, Bool.not_eq_true', Bool.not_eq_false', Bool.and_eq_true, Bool.or_eq_true, Bool.not_eq_true] at h1)
  obtain rfl : j = 0 := by omega
  refine awp_exit ?_; (repeat (first | refine then_exit ?_ | refine inblock_other (by decide) ?_)); refine inblock_same ?_
  rw [List.drop_zero, Nat.sub_zero]
  refine awp_fz (.ref 0 0 l.length) ?_
  have htk0 : (l.reverse.map encP).take l.length = l.reverse.map encP := List.take_of_length_le (by simp)
  simp only [push_cast, seval, htk0]
  refine awp_virt 8 3 rfl ?_
  simp only [push_cast, seval]
  refine awp_seq ?_
  refine awp_seq ?_
  refine awpF_region ?_; intro K hK; simp only [push_cast, seval]; (try simp (disch := omega) only [wrapI]); (repeat ((with_reducible refine And.intro ?_ ?_); (focus (exact ob1)))); refine hK _ ?_; clear hK; clear K
  refine awp_block ?_
  have hq2 : ∀ row, row ∈ H.map encS → row.length = 2 := fun row hr => by obtain ⟨_, _, rfl⟩ := List.mem_map.1 hr; rfl
  have hq3 : ∀ row, row ∈ l.map encP → row.length = 3 := fun row hr => by obtain ⟨_, _, rfl⟩ := List.mem_map.1 hr; rfl
  refine awp_loopP (α := Nat) (st := fun k => ⟨[(5, .d (.sl (l.map encP))), (6, .d (.sl (H.map encS))), (7, .d (.sl (l.reverse.map encP))), (8, .ref 0 0 k), (10, .d (.int .i64 k))], [.data 3 (((H.take k).map cornP).map encP)]⟩)
    (inv := fun k => k ≤ H.length) (μ := fun k => H.length - k) (x0 := 0) (r0 := [1]) ?_ ?_ ?_
  · exact Nat.zero_le _
  · exact ⟨by simp, by simp, by simp [push_cast, seval], by simp [push_cast, seval], by simp [push_cast, seval], by simp [push_cast, seval]⟩
  intro k hk
  refine awp_seq ?_
  refine awp_seq ?_
  refine awpF_region ?_; intro K hK; simp only [push_cast, seval]; (try simp (disch := omega) only [wrapI]); (repeat ((with_reducible refine And.intro ?_ ?_); (focus (exact ob1)))); refine hK _ ?_; clear hK; clear K
  apply awp_cond; (focus (simp only [push_cast, seval]; rfl))
  · intro h2; (try simp only [decide_eq_true_eq, decide_eq_false_iff_not, Bool.not_eq_true', Bool.not_eq_false', Bool.and_eq_true, Bool.or_eq_true, Bool.not_eq_true] at h2)
    have hlt : k < H.length := by omega
    have g1 := get_at hlt
    have hrow : ((H.take (k + 1)).map cornP).map encP = ((H.take k).map cornP).map encP ++ [[.int .i64 (atS H k).1, .int .i64 (atS H k).2, .int .i64 0]] := by
      rw [take_at hlt, List.map_append, List.map_append]
      rfl
    have hrl : (((H.take k).map cornP).map encP).length = k := by simp; omega
    have htk : (((H.take k).map cornP).map encP).take k = ((H.take k).map cornP).map encP := List.take_of_length_le (by omega)
    have hal : atSpot (atS H k) l = true := by
      have := hsub (atS H k) (by rw [atS_get hlt]; exact List.getElem_mem hlt)
      obtain ⟨p, hp, he⟩ := List.mem_map.1 this
      rw [atSpot, List.any_eq_true]
      exact ⟨p, hp, by simp [he]⟩
    generalize atS H k = q at g1 hrow hal
    generalize ((H.take k).map cornP).map encP = Y at hrow hrl htk ⊢
    refine awp_skip ?_
    refine awp_seq ?_
    refine awp_block ?_
    refine awp_seq ?_
    refine awpF_draw [0,1,2,3,4,5,6,7,8,9,10,11,12,13,14] (by kernel_rfl) (by kernel_rfl) rfl ?_; intro K hK; simp only [push_cast, seval, g1, htk, Int.toNat_natCast]
    (repeat ((with_reducible refine And.intro ?_ ?_); (focus (exact ob1))))
    refine hK _ ?_; clear hK; clear K
    refine awp_seq ?_
    refine awpF_region ?_; intro K hK; simp only [push_cast, seval]; (try simp (disch := omega) only [wrapI]); (repeat ((with_reducible refine And.intro ?_ ?_); (focus (exact ob1)))); refine hK _ ?_; clear hK; clear K
    refine awp_seq ?_
    refine awp_seq ?_
    refine awpF_region ?_; intro K hK; simp only [push_cast, seval]; (try simp (disch := omega) only [wrapI]); (repeat ((with_reducible refine And.intro ?_ ?_); (focus (exact ob1)))); refine hK _ ?_; clear hK; clear K
    refine awp_block ?_
    refine awp_loopP (α := Nat) (st := fun i => ⟨[(5, .d (.sl (l.map encP))), (6, .d (.sl (H.map encS))), (7, .d (.sl (l.reverse.map encP))), (8, .ref 0 0 (k + 1)), (10, .d (.int .i64 k)), (11, .d (.bool (atSpot q (l.take i)))), (12, .d (.int .i64 i))], [.data 3 (Y ++ [[.int .i64 q.1, .int .i64 q.2, .int .i64 0]])]⟩)
      (inv := fun i => i ≤ l.length) (μ := fun i => l.length - i) (x0 := 0) (r0 := [0]) ?_ ?_ ?_
    · exact Nat.zero_le _
    · rw [List.take_zero, show atSpot q [] = false from rfl]
      exact ⟨by simp, by simp, by simp [push_cast, seval], by simp [push_cast, seval], by simp [push_cast, seval], by simp [push_cast, seval]⟩
    intro i hi
    refine awp_seq ?_
    refine awp_seq ?_
    refine awpF_region ?_; intro K hK; simp only [push_cast, seval]; (try simp (disch := omega) only [wrapI]); (repeat ((with_reducible refine And.intro ?_ ?_); (focus (exact ob1)))); refine hK _ ?_; clear hK; clear K
    apply awp_cond; (focus (simp only [push_cast, seval]; rfl))
    · intro h3; (try simp only [decide_eq_true_eq, decide_eq_false_iff_not, Bool.not_eq_true', Bool.not_eq_false', Bool.and_eq_true, Bool.or_eq_true, Bool.not_eq_true] at h3)
      have hil : i < l.length := by omega
      have g2 : (l.map encP)[i]? = some (encP l[i]) := by rw [List.getElem?_map, List.getElem?_eq_getElem hil]; rfl
      have hs := atSpot_take (s := q) hil
      rw [← spEq] at hs
      simp only [encP, ptS] at g2 hs
      generalize l[i] = p at g2 hs
      generalize atSpot q (l.take i) = f at hs
      refine awp_skip ?_
      refine awp_seq ?_
      refine awp_block ?_
      refine awpF_draw [0,1,2,3,4,5,7,8,9,10,6,11,12,13] (by kernel_rfl) (by kernel_rfl) rfl ?_; intro K hK; simp only [push_cast, seval, g1, g2, Int.toNat_natCast]
      refine ⟨fun g => ⟨g, g, by omega, by omega, hq3⟩, fun g => ⟨g, g, by omega, by omega, hq2⟩, ?_⟩
      refine CallK.pg (fun _ => q47 _ _ _) ?_; simp only [push_cast, seval]; (try simp (disch := omega) only [wrapI]); (repeat ((with_reducible refine And.intro ?_ ?_); (focus (exact ob1))))
      refine hK _ ?_; clear hK; clear K
      refine inblock_norm ?_
      refine awpF_region ?_; intro K hK; simp only [push_cast, seval]; (try simp (disch := omega) only [wrapI]); (repeat ((with_reducible refine And.intro ?_ ?_); (focus (exact ob1)))); refine hK _ ?_; clear hK; clear K
      refine round_endG (i + 1) [0] ⟨by omega, by omega, ?_⟩
      rw [hs, ← bif_or]
      exact ⟨by simp, by simp, by simp [push_cast, seval], by simp [push_cast, seval], by simp [push_cast, seval], by simp [push_cast, seval]⟩
    intro h3; (try simp only [decide_eq_true_eq, decide_eq_false_iff_not, Bool.not_eq_true', Bool.not_eq_false', Bool.and_eq_true, Bool.or_eq_true, Bool.not_eq_true] at h3)
    obtain rfl : i = l.length := by omega
    rw [List.take_length, hal]
    refine awp_exit ?_; (repeat (first | refine then_exit ?_ | refine inblock_other (by decide) ?_)); refine inblock_same ?_
    refine awp_seq ?_
    refine awpF_region ?_; intro K hK; simp only [push_cast, seval]; (try simp (disch := omega) only [wrapI]); (repeat ((with_reducible refine And.intro ?_ ?_); (focus (exact ob1)))); refine hK _ ?_; clear hK; clear K
    apply awp_cond; (focus (simp only [push_cast, seval]; rfl))
    · intro h4; (try simp only [decide_eq_true_eq, decide_eq_false_iff_not, Bool.not_eq_true', Bool.not_eq_false', Bool.and_eq_true, Bool.or_eq_true, Bool.not_eq_true] at h4)
      cases h4
    intro h4; (try simp only [decide_eq_true_eq, decide_eq_false_iff_not, Bool.not_eq_true', Bool.not_eq_false', Bool.and_eq_true, Bool.or_eq_true, Bool.not_eq_true] at h4)
    refine awp_skip ?_
    refine inblock_norm ?_
    refine awpF_region ?_; intro K hK; simp only [push_cast, seval]; (try simp (disch := omega) only [wrapI]); (repeat ((with_reducible refine And.intro ?_ ?_); (focus (exact ob1)))); refine hK _ ?_; clear hK; clear K
    refine round_endG (k + 1) [0] ⟨by omega, by omega, ?_⟩
    rw [hrow]
    exact ⟨by simp, by simp, by simp [push_cast, seval], by simp [push_cast, seval], by simp [push_cast, seval], by simp [push_cast, seval]⟩
  intro h2; (try simp only [decide_eq_true_eq, decide_eq_false_iff_not, Bool.not_eq_true', Bool.not_eq_false', Bool.and_eq_true, Bool.or_eq_true, Bool.not_eq_true] at h2)
  obtain rfl : k = H.length := by omega
  rw [List.take_length]
  refine awp_exit ?_; (repeat (first | refine then_exit ?_ | refine inblock_other (by decide) ?_)); refine inblock_same ?_
  refine awp_fz (.ref 0 0 H.length) ?_
  have htk1 : ((H.map cornP).map encP).take H.length = (H.map cornP).map encP := List.take_of_length_le (by simp)
  simp only [push_cast, seval, htk1]
  have heq : (decide ((H.length : Int) > 0) == decide ((l.length : Int) > 0)) = true := by
    rw [List.length_map] at hpos
    rw [beq_iff_eq, decide_eq_decide]
    omega
  refine awp_seq ?_
  refine awpF_region ?_; intro K hK; simp only [push_cast, seval, heq]
  (repeat ((with_reducible refine And.intro ?_ ?_); (focus (exact ob1))))
  refine CallK.pd hrev ?_; simp only [push_cast, seval, ofD, decide_true, beq_self_eq_true, bne_self_eq_false, cond_true, cond_false]; (repeat ((with_reducible refine And.intro ?_ ?_); (focus (exact ob1))))
  refine CallK.pd (p51 H H (by omega)) ?_; simp only [push_cast, seval, decide_true, beq_self_eq_true, bne_self_eq_false, cond_true, cond_false]; (repeat ((with_reducible refine And.intro ?_ ?_); (focus (exact ob1))))
  refine CallK.pd hcor ?_; simp only [push_cast, seval, ofD, decide_true, beq_self_eq_true, bne_self_eq_false, cond_true, cond_false]; (repeat ((with_reducible refine And.intro ?_ ?_); (focus (exact ob1))))
  refine CallK.pd (p51 H H (by omega)) ?_; simp only [push_cast, seval, decide_true, beq_self_eq_true, bne_self_eq_false, cond_true, cond_false]; (repeat ((with_reducible refine And.intro ?_ ?_); (focus (exact ob1))))
  refine CallK.pg (fun _ => p52 H (by omega)) ?_; simp only [push_cast, seval, decide_true, beq_self_eq_true, bne_self_eq_false, cond_true, cond_false]
  have hfin : (bif decide ((H.length : Int) < 3) then true else decide (area2V H > 0)) = true := by
    by_cases h5 : 3 ≤ H.length
    · have := har h5
      simp [this]
    · have : (H.length : Int) < 3 := by omega
      simp [this]
  simp only [push_cast, seval, hfin, decide_true, beq_self_eq_true, bne_self_eq_false, cond_true, cond_false]
  refine ⟨fun h => by rw [h]; rfl, ?_⟩
  refine CallK.pd p15 ?_; simp only [push_cast, seval, decide_true, beq_self_eq_true, bne_self_eq_false, cond_true, cond_false]; (repeat ((with_reducible refine And.intro ?_ ?_); (focus (exact ob1))))
  refine hK _ ?_; clear hK; clear K
  refine awp_ret ?_; (repeat (first | refine then_ret ?_ | refine inblock_ret ?_)); refine fin_of (by simp only [push_cast, seval]; first | done | rfl) ob1 ?_
  rfl
end Go.Aw
