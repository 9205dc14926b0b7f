/-
  Contracts: the share of a release, the reference's side. No condition.
-/
import Derived.Test.YtmmnjelmahcbaaaGreatPxN28
namespace Go.Aw
set_option linter.unusedSimpArgs false
set_option linter.unusedVariables false
open Go.RowKit Go.Proofs Go.Nt Go.Rl

/-- How many a share is. -/
def partN (k p : Nat) : Nat := (k * p + 99) / 100
theorem partN_le {k p : Nat} (h : p ≤ 100) : partN k p ≤ k := by
  unfold partN
  have : k * p ≤ k * 100 := Nat.mul_le_mul_left _ h
  omega
def shareB (n k p : Int) : Bool := ordB n k && decide (0 ≤ p ∧ p ≤ 100)
def shareD (n k p : Int) : List Int := if shareB n k p then sortI ((sortK n (upto k.toNat)).take (partN k.toNat p.toNat)) else []
theorem upto_nodup (k : Nat) : (upto k).Nodup := by
  unfold upto
  exact List.Pairwise.map _ (fun a b h e => h (by exact_mod_cast e)) List.nodup_range
theorem upto_asc (k : Nat) : (upto k).Pairwise (fun a b => a ≤ b) := by
  unfold upto
  refine List.pairwise_map.2 ?_
  exact (List.pairwise_lt_range (n := k)).imp fun h => by omega
theorem sortK_nodup (n : Int) (k : Nat) : (sortK n (upto k)).Nodup := (sortK_perm n _).nodup_iff.2 (upto_nodup k)
theorem sortK_len (n : Int) (xs : List Int) : (sortK n xs).length = xs.length := (sortK_perm n xs).length_eq
theorem sortK_mem {n : Int} {k : Nat} {x : Int} : x ∈ sortK n (upto k) ↔ 0 ≤ x ∧ x < k := by rw [(sortK_perm n _).mem_iff, upto_mem]
theorem asc_uniq {xs l : List Int} (hd : l.Pairwise fun a b => a ≤ b) (hp : l.Perm xs) : l = sortI xs :=
  List.Perm.eq_of_pairwise (le := fun a b : Int => a ≤ b) (fun a b _ _ h1 h2 => by omega) hd (sortI_asc xs) (hp.trans (sortI_perm xs).symm)
theorem filter_upto {ys : List Int} {k : Nat} (hn : ys.Nodup) (hy : ∀ x, x ∈ ys → 0 ≤ x ∧ x < k) : (upto k).filter (fun x => decide (x ∈ ys)) = sortI ys := by
  refine asc_uniq ((upto_asc k).sublist List.filter_sublist) ?_
  refine (List.perm_ext_iff_of_nodup ((upto_nodup k).sublist List.filter_sublist) hn).2 fun x => ?_
  simp only [List.mem_filter, decide_eq_true_eq, upto_mem]
  exact ⟨fun h => h.2, fun h => ⟨hy x h, h⟩⟩
/-- The marks of those that are taken. -/
def marks (k : Nat) (ys : List Int) : List (List D) := (List.range k).map fun (x : Nat) => [.bool (decide ((x : Int) ∈ ys))]
theorem marks_len (k : Nat) (ys : List Int) : (marks k ys).length = k := by simp [marks]
theorem marks_at {k : Nat} {ys : List Int} {x : Nat} (h : x < k) : (marks k ys)[x]? = some [.bool (decide ((x : Int) ∈ ys))] := by simp [marks, h]
theorem marks_nil (k : Nat) : marks k [] = List.replicate k [.bool false] := by
  apply List.ext_getElem?
  intro i
  unfold marks
  rcases Nat.lt_or_ge i k with h | h
  · simp [h]
  · simp [h]
theorem marks_set {k : Nat} {ys : List Int} {o : Nat} : (marks k ys).set o [.bool true] = marks k (ys ++ [(o : Int)]) := by
  apply List.ext_getElem?
  intro i
  rw [List.getElem?_set]
  unfold marks
  by_cases h : o = i
  · subst h
    rcases Nat.lt_or_ge o k with h | h
    · simp [h]
    · simp [h]
  · have : ¬ (i : Int) = o := by omega
    rcases Nat.lt_or_ge i k with h2 | h2
    · simp [h, this, h2]
    · simp [h, h2]

theorem p43 (n k p : Int) : PD Tryz.prog 79 [.int .i64 n, .int .i64 k, .int .i64 p] (.d (.sl ((shareD n k p).map encI))) := by
  have h41 := p41 n k
  show PD Tryz.prog 79 _ (ofD (.sl ((shareD n k p).map encI)))
  refine pdd_of (fn := Tryz.f79) [.tmp 6] (by kernel_rfl) rfl (by kernel_rfl) (Nat.le_of_ble_eq_true rfl) (by kernel_rfl) rfl ?_
  refine awp_seq ?_
  refine awpF_region ?_; intro K hK; simp only [push_cast, seval]; (try simp (disch := omega) only [wrapI]); (repeat ((with_reducible refine And.intro ?_ ?_); (focus (exact ob1)))); refine hK _ ?_; clear hK; clear K
  refine awp_seq ?_
  refine awpF_region ?_; intro K hK; simp only [push_cast, seval]
  refine CallK.pd (h41) ?_; simp only [push_cast, seval]; (try simp (disch := omega) only [wrapI]); (repeat ((with_reducible refine And.intro ?_ ?_); (focus (exact ob1))))
  refine hK _ ?_; clear hK; clear K
  refine awp_seq ?_
  refine awp_seq ?_
  refine awpF_region ?_; intro K hK; simp only [push_cast, seval, bif_or]; (try simp (disch := omega) only [wrapI]); (repeat ((with_reducible refine And.intro ?_ ?_); (focus (exact ob1)))); refine hK _ ?_; clear hK; clear K
  apply awp_cond; (focus (simp only [push_cast, seval]; rfl))
  · intro h1
    simp only [Bool.or_eq_true, decide_eq_true_eq, beq_iff_eq] at h1
    have : shareD n k p = [] := by
      unfold shareD shareB
      rw [if_neg]
      intro h2
      simp only [Bool.and_eq_true, decide_eq_true_eq] at h2
      have h3 := h2.1
      simp only [ordB, decide_eq_true_eq] at h3
      have : (ordD n k).length = k.toNat := by unfold ordD; rw [if_pos h2.1, sortK_len, upto_len]
      omega
    refine awp_seq ?_
    refine awpF_region ?_; intro K hK; simp only [push_cast, seval]; (try simp (disch := omega) only [wrapI]); (repeat ((with_reducible refine And.intro ?_ ?_); (focus (exact ob1)))); refine hK _ ?_; clear hK; clear K
    refine awp_ret ?_; (repeat (first | refine then_ret ?_ | refine inblock_ret ?_)); refine fin_of (by simp only [push_cast, seval]; first | done | rfl) ob1 ?_
    rw [this]
    exact Deep.nil
  · intro h1
    simp only [Bool.or_eq_false_iff, decide_eq_false_iff_not, beq_eq_false_iff_ne] at h1
    have hb : ordB n k = true := by
      rcases hbb : ordB n k with _ | _
      · have : ordD n k = [] := by unfold ordD; rw [hbb]; rfl
        rw [this] at h1
        simp at h1
      · rfl
    have hb2 := hb
    simp only [ordB, decide_eq_true_eq] at hb2
    obtain ⟨k, rfl⟩ : ∃ m : Nat, k = m := ⟨k.toNat, by omega⟩
    obtain ⟨p, rfl⟩ : ∃ m : Nat, p = m := ⟨p.toNat, by omega⟩
    have hD : ordD n k = sortK n (upto k) := by unfold ordD; rw [if_pos hb]; rfl
    have hS : shareD n k p = sortI ((sortK n (upto k)).take (partN k p)) := by unfold shareD shareB; rw [if_pos (by rw [hb]; simp; omega)]; rfl
    have hp : p ≤ 100 := by omega
    rw [hS, hD]
    have hm := partN_le (k := k) hp
    have hlo := sortK_len n (upto k)
    have hno := sortK_nodup n k
    have hmo := fun x => sortK_mem (n := n) (k := k) (x := x)
    rw [upto_len] at hlo
    generalize sortK n (upto k) = o at hlo hno hmo ⊢
    have hkp : k * p ≤ 6400 := Nat.le_trans (Nat.mul_le_mul_left _ hp) (by omega)
    have v1 : IntKind.i64.wrap ((k : Int) * p) = (k : Int) * p := by rw [← Int.natCast_mul]; exact wrapI _ (by omega)
    have v2 : IntKind.i64.wrap ((k : Int) * p + 99) = (k : Int) * p + 99 := by rw [← Int.natCast_mul]; exact wrapI _ (by omega)
    have v3 : ((k : Int) * p + 99).tdiv 100 = ((partN k p : Nat) : Int) := by rw [← Int.natCast_mul]; rfl
    generalize partN k p = m at hm v3 ⊢
    have hm0 := marks_nil k
    refine awp_skip ?_
    refine awp_seq ?_
    refine awpF_region ?_; intro K hK; simp only [push_cast, seval]
    (repeat ((with_reducible refine And.intro ?_ ?_); (focus (exact ob1))))
    rw [← hm0]
    refine hK _ ?_; clear hK; clear K
    refine awp_seq ?_
    refine awp_seq ?_
    refine awpF_region ?_; intro K hK; simp only [push_cast, seval]; (try simp (disch := omega) only [wrapI]); (repeat ((with_reducible refine And.intro ?_ ?_); (focus (exact ob1)))); refine hK _ ?_; clear hK; clear K
    refine awp_block ?_
    refine awp_loopP (α := Nat) (st := fun i => ⟨[(1, .d (.int .i64 k)), (2, .d (.int .i64 p)), (7, .d (.sl (o.map encI))), (8, .ref 0 0 k), (9, .d (.int .i64 i))], [.data 1 (marks k (o.take i))]⟩) (inv := fun i => i ≤ m) (μ := fun i => m - i) (x0 := 0) (r0 := [0]) ?_ ?_ ?_
    · exact Nat.zero_le _
    · rw [List.take_zero]
      exact ⟨by simp, by simp, by simp [push_cast, seval], by simp [push_cast, seval], by simp [push_cast, seval], by simp [push_cast, seval]⟩
    intro i hi
    refine awp_seq ?_
    refine awp_seq ?_
    refine awpF_region ?_; intro K hK; simp only [push_cast, seval, v1, v2, v3]; (try simp (disch := omega) only [wrapI]); (repeat ((with_reducible refine And.intro ?_ ?_); (focus (exact ob1)))); refine hK _ ?_; clear hK; clear K
    apply awp_cond; (focus (simp only [push_cast, seval]; rfl))
    · intro h2; (try simp only [decide_eq_true_eq, decide_eq_false_iff_not, Bool.not_eq_true', Bool.not_eq_false', Bool.and_eq_true, Bool.or_eq_true, Bool.not_eq_true] at h2)
      have hi2 : i < o.length := by omega
      have g1 := List.getElem?_eq_getElem (l := o) (i := i) hi2
      have hox := (hmo o[i]).1 (List.getElem_mem hi2)
      have hset : (marks k (o.take i)).set (o[i]).toNat [.bool true] = marks k (o.take (i + 1)) := by
        rw [marks_set, ← List.take_append_getElem hi2, show (((o[i]).toNat : Nat) : Int) = o[i] by omega]
      have hml := marks_len k (o.take i)
      have hga : (marks k (o.take i))[(o[i]).toNat]? = some [.bool (decide (((o[i]).toNat : Int) ∈ o.take i))] := marks_at (by omega)
      generalize o[i] = x at g1 hox hset hga
      refine awp_skip ?_
      refine awp_seq ?_
      refine awp_block ?_
      refine awpF_region ?_; intro K hK; simp only [push_cast, seval, g1, encI, Int.toNat_natCast, hml, hga]
      (repeat ((with_reducible refine And.intro ?_ ?_); (focus (exact ob1))))
      rw [hset]
      refine hK _ ?_; clear hK; clear K
      refine inblock_norm ?_
      refine awpF_region ?_; intro K hK; simp only [push_cast, seval]; (try simp (disch := omega) only [wrapI]); (repeat ((with_reducible refine And.intro ?_ ?_); (focus (exact ob1)))); refine hK _ ?_; clear hK; clear K
      refine round_endG (i + 1) [0] ⟨by omega, by omega, ?_⟩
      exact ⟨by simp, by simp, by simp [push_cast, seval], by simp [push_cast, seval], by simp [push_cast, seval], by simp [push_cast, seval]⟩
    · intro h2; (try simp only [decide_eq_true_eq, decide_eq_false_iff_not, Bool.not_eq_true', Bool.not_eq_false', Bool.and_eq_true, Bool.or_eq_true, Bool.not_eq_true] at h2)
      refine awp_exit ?_; (repeat (first | refine then_exit ?_ | refine inblock_other (by decide) ?_)); refine inblock_same ?_
      have him : i = m := by omega
      subst him
      have hys : ∀ x, x ∈ o.take i → 0 ≤ x ∧ x < k := fun x hx => (hmo x).1 (List.mem_of_mem_take hx)
      have hfin := filter_upto (hno.sublist (List.take_sublist i o)) hys
      generalize o.take i = ys at hfin ⊢
      have hml := marks_len k ys
      refine awp_seq ?_
      refine awpF_region ?_; intro K hK; simp only [push_cast, seval]; (try simp (disch := omega) only [wrapI]); (repeat ((with_reducible refine And.intro ?_ ?_); (focus (exact ob1)))); refine hK _ ?_; clear hK; clear K
      refine awp_seq ?_
      refine awp_seq ?_
      refine awpF_region ?_; intro K hK; simp only [push_cast, seval]; (try simp (disch := omega) only [wrapI]); (repeat ((with_reducible refine And.intro ?_ ?_); (focus (exact ob1)))); refine hK _ ?_; clear hK; clear K
      refine awp_virt 10 1 (by simp only [push_cast, seval]) ?_
      refine awp_block ?_
      refine awp_loopP (α := Nat) (st := fun j => ⟨[(1, .d (.int .i64 k)), (8, .ref 0 0 k), (10, .ref 1 0 ((upto j).filter (fun x => decide (x ∈ ys))).length), (11, .d (.int .i64 j))], [.data 1 (marks k ys), .data 1 (((upto j).filter (fun x => decide (x ∈ ys))).map encI)]⟩) (inv := fun j => j ≤ k) (μ := fun j => k - j) (x0 := 0) (r0 := [0, 1]) ?_ ?_ ?_
      · exact Nat.zero_le _
      · rw [show upto 0 = [] from rfl]
        simp only [List.filter_nil, List.map_nil, List.length_nil]
        exact ⟨by simp, by simp, by simp [push_cast, seval], by simp [push_cast, seval], by simp [push_cast, seval], by simp [push_cast, seval]⟩
      intro j hj
      refine awp_seq ?_
      refine awp_seq ?_
      refine awpF_region ?_; intro K hK; simp only [push_cast, seval]; (try simp (disch := omega) only [wrapI]); (repeat ((with_reducible refine And.intro ?_ ?_); (focus (exact ob1)))); refine hK _ ?_; clear hK; clear K
      apply awp_cond; (focus (simp only [push_cast, seval]; rfl))
      · intro h3; (try simp only [decide_eq_true_eq, decide_eq_false_iff_not, Bool.not_eq_true', Bool.not_eq_false', Bool.and_eq_true, Bool.or_eq_true, Bool.not_eq_true] at h3)
        have hjk : j < k := by omega
        have hga := marks_at (ys := ys) hjk
        have hsu : (upto (j + 1)).filter (fun x => decide (x ∈ ys)) = (upto j).filter (fun x => decide (x ∈ ys)) ++ if decide ((j : Int) ∈ ys) then [(j : Int)] else [] := by
          rw [upto_succ, List.filter_append]
          congr 1
          by_cases hjy : (j : Int) ∈ ys <;> simp [hjy]
        have hfl : ((upto j).filter (fun x => decide (x ∈ ys))).length ≤ j := Nat.le_trans (List.length_filter_le _ _) (by rw [upto_len]; exact Nat.le_refl _)
        generalize (upto j).filter (fun x => decide (x ∈ ys)) = l at hsu hfl ⊢
        refine awp_skip ?_
        refine awp_mid (fun u => ∃ l2 : List Int, l2 = (upto (j + 1)).filter (fun x => decide (x ∈ ys)) ∧ u = ⟨[(1, .d (.int .i64 k)), (8, .ref 0 0 k), (10, .ref 1 0 l2.length), (11, .d (.int .i64 j))], [.data 1 (marks k ys), .data 1 (l2.map encI)]⟩) ?_ ?_
        · refine awp_block ?_
          refine awp_seq ?_
          refine awpF_region ?_; intro K hK; simp only [push_cast, seval, hga, hml, Int.toNat_natCast]; (try simp (disch := omega) only [wrapI]); (repeat ((with_reducible refine And.intro ?_ ?_); (focus (exact ob1)))); refine hK _ ?_; clear hK; clear K
          apply awp_cond; (focus (simp only [push_cast, seval]; rfl))
          · intro hb1
            have hb2 : decide ((j : Int) ∈ ys) = true := hb1
            rw [hb2] at hsu
            have htk : (l.map encI).take l.length = l.map encI := List.take_of_length_le (by simp)
            refine awpF_region ?_; intro K hK; simp only [push_cast, seval, htk]; (try simp (disch := omega) only [wrapI]); (repeat ((with_reducible refine And.intro ?_ ?_); (focus (exact ob1)))); refine hK _ ?_; clear hK; clear K
            refine inblock_norm (mid_end [0, 1] _ ⟨_, hsu.symm, rfl⟩ ?_)
            simp only [if_true, List.map_append, List.length_append, List.map_cons, List.map_nil, encI, List.length_cons, List.length_nil]
            exact ⟨by simp, by simp, by simp [push_cast, seval], by simp [push_cast, seval], by simp [push_cast, seval], by simp [push_cast, seval]⟩
          · intro hb1
            have hb2 : decide ((j : Int) ∈ ys) = false := hb1
            rw [hb2] at hsu
            refine awp_skip ?_
            refine inblock_norm (mid_end [0, 1] _ ⟨_, hsu.symm, rfl⟩ ?_)
            simp only [Bool.false_eq_true, if_false, List.append_nil]
            exact ⟨by simp, by simp, by simp [push_cast, seval], by simp [push_cast, seval], by simp [push_cast, seval], by simp [push_cast, seval]⟩
        · rintro _ ⟨l2, hl2, rfl⟩
          subst hl2
          refine awpF_region ?_; intro K hK; simp only [push_cast, seval]; (try simp (disch := omega) only [wrapI]); (repeat ((with_reducible refine And.intro ?_ ?_); (focus (exact ob1)))); refine hK _ ?_; clear hK; clear K
          refine round_endG (j + 1) [0, 1] ⟨by omega, by omega, ?_⟩
          exact ⟨by simp, by simp, by simp [push_cast, seval], by simp [push_cast, seval], by simp [push_cast, seval], by simp [push_cast, seval]⟩
      · intro h3; (try simp only [decide_eq_true_eq, decide_eq_false_iff_not, Bool.not_eq_true', Bool.not_eq_false', Bool.and_eq_true, Bool.or_eq_true, Bool.not_eq_true] at h3)
        refine awp_exit ?_; (repeat (first | refine then_exit ?_ | refine inblock_other (by decide) ?_)); refine inblock_same ?_
        have hjk : j = k := by omega
        subst hjk
        rw [hfin]
        refine awp_seq ?_
        refine awpF_region ?_; intro K hK; simp only [push_cast, seval]; (try simp (disch := omega) only [wrapI]); (repeat ((with_reducible refine And.intro ?_ ?_); (focus (exact ob1)))); refine hK _ ?_; clear hK; clear K
        refine awp_ret ?_; (repeat (first | refine then_ret ?_ | refine inblock_ret ?_)); refine fin_of (by simp only [push_cast, seval]; first | done | rfl) ob1 ?_
        have := Deep.data (H := [Blk.data 1 (marks j ys), Blk.data 1 ((sortI ys).map encI)]) 1 0 (sortI ys).length 1 ((sortI ys).map encI) rfl (by simp)
        rw [List.drop_zero, List.take_of_length_le (by simp)] at this
        exact this
end Go.Aw
