/-
  RulesBack answers true. Conditions: lengths and numbers that a call can have.
-/
import Derived.Test.YtlimahhonfckdaaDoorPxU56
import Derived.Test.YtlimahhonfckdaaDoorPxU44a
import Derived.Test.YtlimahhonfckdaaDoorPxU45
namespace Go.Aw
set_option linter.unusedSimpArgs false
set_option linter.unusedVariables false
open Go.RowKit Go.Proofs
set_option maxRecDepth 100000

theorem prs_tree (l : List UInt8) : ∃ t : Fm, ∀ f, parseL l = some f → shE f 12 = 0 → t.wf ∧ f = t.flat := by
  cases h : parseL l with
  | none => exact ⟨.z ⟨1, 0, 0, 0, 0, 0⟩, fun f hf => by cases hf⟩
  | some f =>
    obtain ⟨t, ht⟩ := tree_ex f 12
    exact ⟨t, fun g hg hs => by obtain rfl := Option.some.inj hg; exact ht hs⟩
theorem prs_sh {l : List UInt8} {t : Fm} (ht : ∀ f, parseL l = some f → shE f 12 = 0 → t.wf ∧ f = t.flat) : shE (prsV l t).1 12 = 0 → t.wf ∧ (prsV l t).1 = t.flat := by
  intro hs
  unfold prsV at hs ⊢
  split at hs
  · exact absurd hs (by decide)
  · rename_i f hf
    split at hs
    · rename_i h1
      rw [if_pos h1]
      exact ht f hf hs
    · exact absurd (show shE [] 12 = 0 from hs) (by decide)
theorem prs_len {l : List UInt8} {t : Fm} : (prsV l t).1.length ≤ 40 := by
  unfold prsV
  split
  · simp
  · split
    · rename_i h1
      have := (sh_facts (chk_sh h1)).1
      omega
    · simp
theorem prs_zero {l : List UInt8} {t : Fm} (h : (prsV l t).2 = 0) : parseL l = some (prsV l t).1 ∧ chkE (prsV l t).1 12 t = 0 := by
  unfold prsV at h ⊢
  split at h
  · cases h
  · rename_i f hf
    split at h
    · rename_i h1
      simp only [h1, if_true]
      exact ⟨hf, by first | trivial | exact h1⟩
    · rename_i h1
      exact absurd h h1
theorem prs_bad {l : List UInt8} {t : Fm} (h : (prsV l t).2 ≠ 0) : (prsV l t).1 = [] := by
  unfold prsV at h ⊢
  split at h
  · rfl
  · rename_i f hf
    split at h
    · exact absurd rfl h
    · rename_i h1
      rw [if_neg h1]
set_option maxHeartbeats 2000000 in
theorem p9 (nums : List Int) (s : List UInt8) (hn : numsOk nums) (hs : s.length ≤ 1000000000000000) : PD Tryd.prog 9 [.sl (nums.map encI), .str (bs s)] (.d (.bool true)) := by
  have h13 := p13
  by_cases h1 : 400 < s.length
  · have hd : decide ((s.length : Int) > 400) = true := decide_eq_true (by omega)
    refine pd_of (fn := Tryd.f9) [.tmp 4] (by kernel_rfl) rfl (by kernel_rfl) (Nat.le_of_ble_eq_true rfl) (by kernel_rfl) rfl rfl ?_
    (repeat' (first | refine awp_seq ?_ | refine awp_skip ?_ | refine awp_block ?_ | ((first | (refine awpF_region ?_; intro K hK) | refine CallK.pd (h13) ?_ | refine CallK.pg (fun _ => h13) ?_); simp only [push_cast, seval, bs_size, hd]; (try simp (disch := omega) only [wrapI]); (repeat ((with_reducible refine And.intro ?_ ?_); (focus (exact ob1))))) | (refine hK _ ?_; clear hK K) | (apply awp_cond; (focus (simp only [push_cast, seval]; rfl))) | (with_reducible intro hb; exfalso; revert hb; simp [bs_size, hd]; done) | (with_reducible intro hb; exfalso; (try simp only [decide_eq_true_eq, decide_eq_false_iff_not, Bool.not_eq_true', Bool.not_eq_false', Bool.and_eq_true, Bool.or_eq_true, Bool.not_eq_true] at hb); omega; done) | (with_reducible intro hb; (try simp only [decide_eq_true_eq, decide_eq_false_iff_not, Bool.not_eq_true', Bool.not_eq_false', Bool.and_eq_true, Bool.or_eq_true, Bool.not_eq_true] at hb)) | (refine awp_exit ?_; (repeat (first | refine then_exit ?_ | refine inblock_other (by decide) ?_)); refine inblock_same ?_) | (refine awp_ret ?_; (repeat (first | refine then_ret ?_ | refine inblock_ret ?_ | refine nogoto_ret ?_)); refine fin_of (by simp only [push_cast, seval, bs_size, hd]; first | done | rfl) ob1 ?_) | (refine inblock_norm ?_)))
    rfl
  have hd : decide ((s.length : Int) > 400) = false := decide_eq_false (by omega)
  have hw : (1 : Int) ≤ 12 ∧ (12 : Int) ≤ 12 := ⟨by decide, by decide⟩
  have hm : (0 : Int) ≤ 9 ∧ (9 : Int) ≤ 20 := ⟨by decide, by decide⟩
  have h26 := p26 nums 12 9 hn.1 hn.2 hw hm
  rw [show (partT nums 12 9 3 0).1 = ruleT nums 12 9 from rfl] at h26
  have hchk := rule_chk nums hw hm
  have hlen := rule_len nums hw hm
  have hW := rule_W nums hw hm
  generalize ruleT nums 12 9 = t at *
  have hne : t.flat ≠ [] := by have := t.len_pos; intro h; rw [h] at this; simp at this
  have hpt := parse_text hne fun n hn => writN_of (hW.nodes n hn)
  have h35 := p35 t.flat t (by omega) fun _ => ⟨hW.wf, rfl⟩
  have hprs : prsV (textL t.flat) t = (t.flat, 0) := prs_of hW.wf hchk hW.nodes
  have htl := textL_len fun n hn => fitN_of (n := n) (w := 12) (by decide) (hW.nodes n hn)
  have h37 := p37 (textL t.flat) t (by omega) fun f hf _ => by
    rw [hpt] at hf
    exact ⟨hW.wf, (Option.some.inj hf).symm⟩
  have h22 := p22 t.flat t.flat (by omega)
  rw [decide_eq_true rfl] at h22
  have etx : txV t.flat t = textL t.flat := by rw [txV, if_pos hchk]
  rw [hprs] at h37
  rw [etx, hchk] at h35
  dsimp only at h37
  obtain ⟨u, hu⟩ := prs_tree s
  have s37 := p37 s u (by omega) hu
  have hpl := prs_len (l := s) (t := u)
  generalize textL t.flat = tt at *
  generalize t.flat.map encNd = F at *
  by_cases h0 : (prsV s u).2 = 0
  · obtain ⟨q1, q2⟩ := prs_zero h0
    have s35 := p35 (prsV s u).1 u (by omega) (prs_sh hu)
    have e2 : txV (prsV s u).1 u = s := by rw [txV, if_pos q2, text_parse q1]
    rw [e2, q2] at s35
    rw [h0] at s37
    generalize (prsV s u).1.map encNd = G at *
    refine pd_of (fn := Tryd.f9) [.tmp 4] (by kernel_rfl) rfl (by kernel_rfl) (Nat.le_of_ble_eq_true rfl) (by kernel_rfl) rfl rfl ?_
    (repeat' (first | refine awp_seq ?_ | refine awp_skip ?_ | refine awp_block ?_ | ((first | (refine awpF_region ?_; intro K hK) | refine CallK.pd (h13) ?_ | refine CallK.pg (fun _ => h13) ?_ | refine CallK.pd (h26) ?_ | refine CallK.pg (fun _ => h26) ?_ | refine CallK.pd (h35) ?_ | refine CallK.pg (fun _ => h35) ?_ | refine CallK.pd (h37) ?_ | refine CallK.pg (fun _ => h37) ?_ | refine CallK.pd (h22) ?_ | refine CallK.pg (fun _ => h22) ?_ | refine CallK.pd (s37) ?_ | refine CallK.pg (fun _ => s37) ?_ | refine CallK.pd (s35) ?_ | refine CallK.pg (fun _ => s35) ?_); simp only [push_cast, seval, bs_size, hd, bne_self_eq_false, beq_self_eq_true]; (try simp (disch := omega) only [wrapI]); (repeat ((with_reducible refine And.intro ?_ ?_); (focus (exact ob1))))) | (refine hK _ ?_; clear hK K) | (apply awp_cond; (focus (simp only [push_cast, seval]; rfl))) | (with_reducible intro hb; exfalso; revert hb; simp [bs_size, hd, bne_self_eq_false, beq_self_eq_true]; done) | (with_reducible intro hb; exfalso; (try simp only [decide_eq_true_eq, decide_eq_false_iff_not, Bool.not_eq_true', Bool.not_eq_false', Bool.and_eq_true, Bool.or_eq_true, Bool.not_eq_true] at hb); omega; done) | (with_reducible intro hb; (try simp only [decide_eq_true_eq, decide_eq_false_iff_not, Bool.not_eq_true', Bool.not_eq_false', Bool.and_eq_true, Bool.or_eq_true, Bool.not_eq_true] at hb)) | (refine awp_exit ?_; (repeat (first | refine then_exit ?_ | refine inblock_other (by decide) ?_)); refine inblock_same ?_) | (refine awp_ret ?_; (repeat (first | refine then_ret ?_ | refine inblock_ret ?_ | refine nogoto_ret ?_)); refine fin_of (by simp only [push_cast, seval, bs_size, hd, bne_self_eq_false, beq_self_eq_true]; first | done | rfl) ob1 ?_) | (refine inblock_norm ?_)))
    have : (bs s == bs s) = true := by rw [bs_inj]; simp
    first | exact this | (rw [this]; rfl)
  · have e2 := prs_bad h0
    rw [e2] at s37
    have hb1 : ((prsV s u).2 != 0) = true := by simpa using h0
    generalize (prsV s u).2 = ee at *
    simp only [List.map_nil] at s37
    refine pd_of (fn := Tryd.f9) [.tmp 4] (by kernel_rfl) rfl (by kernel_rfl) (Nat.le_of_ble_eq_true rfl) (by kernel_rfl) rfl rfl ?_
    (repeat' (first | refine awp_seq ?_ | refine awp_skip ?_ | refine awp_block ?_ | ((first | (refine awpF_region ?_; intro K hK) | refine CallK.pd (h13) ?_ | refine CallK.pg (fun _ => h13) ?_ | refine CallK.pd (h26) ?_ | refine CallK.pg (fun _ => h26) ?_ | refine CallK.pd (h35) ?_ | refine CallK.pg (fun _ => h35) ?_ | refine CallK.pd (h37) ?_ | refine CallK.pg (fun _ => h37) ?_ | refine CallK.pd (h22) ?_ | refine CallK.pg (fun _ => h22) ?_ | refine CallK.pd (s37) ?_ | refine CallK.pg (fun _ => s37) ?_); simp only [push_cast, seval, bs_size, hd, hb1, bne_self_eq_false, beq_self_eq_true]; (try simp (disch := omega) only [wrapI]); (repeat ((with_reducible refine And.intro ?_ ?_); (focus (exact ob1))))) | (refine hK _ ?_; clear hK K) | (apply awp_cond; (focus (simp only [push_cast, seval]; rfl))) | (with_reducible intro hb; exfalso; revert hb; simp [bs_size, hd, hb1, bne_self_eq_false, beq_self_eq_true]; done) | (with_reducible intro hb; exfalso; (try simp only [decide_eq_true_eq, decide_eq_false_iff_not, Bool.not_eq_true', Bool.not_eq_false', Bool.and_eq_true, Bool.or_eq_true, Bool.not_eq_true] at hb); omega; done) | (with_reducible intro hb; (try simp only [decide_eq_true_eq, decide_eq_false_iff_not, Bool.not_eq_true', Bool.not_eq_false', Bool.and_eq_true, Bool.or_eq_true, Bool.not_eq_true] at hb)) | (refine awp_exit ?_; (repeat (first | refine then_exit ?_ | refine inblock_other (by decide) ?_)); refine inblock_same ?_) | (refine awp_ret ?_; (repeat (first | refine then_ret ?_ | refine inblock_ret ?_ | refine nogoto_ret ?_)); refine fin_of (by simp only [push_cast, seval, bs_size, hd, hb1, bne_self_eq_false, beq_self_eq_true]; first | done | rfl) ob1 ?_) | (refine inblock_norm ?_)))
    rfl
end Go.Aw
