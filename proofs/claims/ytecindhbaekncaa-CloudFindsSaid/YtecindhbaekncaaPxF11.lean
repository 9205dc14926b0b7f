/-
  The contract of the reference's Nearest. Conditions: none (what is not valid is refused).
-/
import Derived.Test.YtecindhbaekncaaPxF10
namespace Go.Aw
set_option linter.unusedSimpArgs false
set_option linter.unusedVariables false
open Go.RowKit Go.Proofs Go.Heap

/-- What is marked as taken. -/
def tkn (o : List Nat) (n : Nat) : List (List D) := (List.range n).map fun i => [.bool (decide (i ∈ o))]
theorem tkn_get {o : List Nat} {n i : Nat} (hi : i < n) : (tkn o n)[i]? = some [.bool (decide (i ∈ o))] := by
  simp [tkn, hi]
theorem tkn_len (o : List Nat) (n : Nat) : (tkn o n).length = n := by simp [tkn]
theorem tkn_nil (n : Nat) : tkn [] n = List.replicate n [.bool false] := by
  simp [tkn, List.map_const']
theorem tkn_set {o : List Nat} {n b : Nat} (hb : b < n) : (tkn o n).set b [.bool true] = tkn (o ++ [b]) n := by
  refine List.ext_getElem? fun i => ?_
  rw [List.getElem?_set, tkn_len]
  by_cases h : i < n
  · by_cases e : b = i
    · subst e
      rw [if_pos rfl, if_pos h, tkn_get h]
      simp
    · rw [if_neg e, tkn_get h, tkn_get h]
      simp [Ne.symm e]
  · rw [if_neg (by omega), List.getElem?_eq_none (by rw [tkn_len]; omega), List.getElem?_eq_none (by rw [tkn_len]; omega)]

theorem p39 (ps : List Pt) (x y k : Int) : PD Try.prog 39 [.sl (ps.map encP), .agg [.int .i64 x, .int .i64 y], .int .i64 k] (ofD (.sl ((nearestL ps x y k).map encN))) := by
  have h26 := p26 ps
  have h65 := p65 x y
  refine pdd_of (fn := Try.f39) [.tmp 6] (by kernel_rfl) rfl (by kernel_rfl) (Nat.le_of_ble_eq_true rfl) (by kernel_rfl) rfl ?_
  refine awp_seq ?_
  refine awpF_region ?_; intro K hK; simp only [push_cast, seval]; (try simp (disch := omega) only [wrapI]); (repeat ((with_reducible refine And.intro ?_ ?_); (focus (exact ob1)))); refine hK _ ?_; clear hK; clear K
  refine awp_seq ?_
  refine awp_seq ?_
  refine awpF_region ?_; intro K hK; simp only [push_cast, seval]
  (repeat ((with_reducible refine And.intro ?_ ?_); (focus (exact ob1))))
  refine CallK.pd (h26) ?_; simp only [push_cast, seval]; (try simp (disch := omega) only [wrapI]); (repeat ((with_reducible refine And.intro ?_ ?_); (focus (exact ob1))))
  refine CallK.pg (fun _ => h65) ?_; simp only [push_cast, seval]; (try simp (disch := omega) only [wrapI]); (repeat ((with_reducible refine And.intro ?_ ?_); (focus (exact ob1))))
  refine hK _ ?_; clear hK; clear K
  apply awp_cond; (focus (simp only [push_cast, seval]; rfl))
  · intro h1; (try simp only [decide_eq_true_eq, decide_eq_false_iff_not, Bool.not_eq_true', Bool.not_eq_false', Bool.and_eq_true, Bool.or_eq_true, Bool.not_eq_true] at h1)
    have hok : ¬ (check ps = 0 ∧ fair x y = true ∧ 1 ≤ k) := fun ⟨q1, q2, q3⟩ => by
      rw [q1, q2] at h1
      simp at h1
    rw [nearestL, if_neg hok]
    refine awp_seq ?_
    refine awpF_region ?_; intro K hK; simp only [push_cast, seval]; (try simp (disch := omega) only [wrapI]); (repeat ((with_reducible refine And.intro ?_ ?_); (focus (exact ob1)))); refine hK _ ?_; clear hK; clear K
    refine awp_ret ?_; (repeat (first | refine then_ret ?_ | refine inblock_ret ?_)); refine fin_of (by simp only [push_cast, seval]; first | done | rfl) ob1 ?_
    exact .nil
  intro h1; (try simp only [decide_eq_true_eq, decide_eq_false_iff_not, Bool.not_eq_true', Bool.not_eq_false', Bool.and_eq_true, Bool.or_eq_true, Bool.not_eq_true] at h1)
  have hok : check ps = 0 ∧ fair x y = true := by
    by_cases q1 : check ps = 0
    · rw [q1] at h1
      cases q2 : fair x y with
      | false => rw [q2] at h1; simp at h1
      | true => exact ⟨q1, rfl⟩
    · have hb : (check ps != 0) = true := by simpa using q1
      rw [hb] at h1
      simp at h1
  clear h1
  obtain ⟨hc, hf⟩ := hok
  have hn := check_len hc
  rw [← sel_nearest ps x y k hc hf]
  have hq : ∀ row, row ∈ ps.map encP → row.length = 3 := fun row hr => by obtain ⟨_, _, rfl⟩ := List.mem_map.1 hr; rfl
  generalize hD : distP ps (x, y) = D
  have hDp : ∀ i p, ps[i]? = some p → D i = dist2 (x, y) (ptS p) := fun i p hp => by rw [← hD, distP_of hp]
  refine awp_skip ?_
  refine awp_seq ?_
  refine awpF_region ?_; intro K hK; simp only [push_cast, seval]; (try simp (disch := omega) only [wrapI]); (repeat ((with_reducible refine And.intro ?_ ?_); (focus (exact ob1)))); refine hK _ ?_; clear hK; clear K
  refine awp_seq ?_
  refine awpF_region ?_; intro K hK; simp only [push_cast, seval]; (try simp (disch := omega) only [wrapI]); (repeat ((with_reducible refine And.intro ?_ ?_); (focus (exact ob1)))); refine hK _ ?_; clear hK; clear K
  refine awp_virt 8 1 rfl ?_
  simp only [push_cast, seval]
  refine awp_seq ?_
  refine awp_block ?_
  refine awp_loopP (α := Nat) (st := fun m => ⟨[(0, .d (.sl (ps.map encP))), (2, .d (.int .i64 k)), (4, .ptr 0 0 0), (7, .ref 1 0 ps.length), (8, .ref 2 0 m)], [.cells [.d (.int .i64 x), .d (.int .i64 y)], .data 1 (tkn (sel D ps.length m) ps.length), .data 1 ((sel D ps.length m).map encN)]⟩)
    (inv := fun m => m ≤ min k.toNat ps.length) (μ := fun m => ps.length - m) (x0 := 0) (r0 := [0, 1, 2]) (Nat.zero_le _) ?_ ?_
  · rw [sel, tkn_nil]
    exact ⟨by simp, by simp, by simp [push_cast, seval], by simp [push_cast, seval], by simp [push_cast, seval], by simp [push_cast, seval]⟩
  intro m hm
  have hsl := sel_len D ps.length m
  have hss : sel D ps.length (m + 1) = sel D ps.length m ++ [(bst D (sel D ps.length m) ps.length).toNat] := rfl
  have hbl := bst_lt D ps.length m
  have hbs := bst_spec D (sel D ps.length m)
  refine awp_seq ?_
  refine awp_seq ?_
  refine awpF_region ?_; intro K hK; simp only [push_cast, seval]; (try simp (disch := omega) only [wrapI]); (repeat ((with_reducible refine And.intro ?_ ?_); (focus (exact ob1)))); refine hK _ ?_; clear hK; clear K
  apply awp_cond; (focus (simp only [push_cast, seval]; rfl))
  · intro h2; (try simp only [decide_eq_true_eq, decide_eq_false_iff_not, Bool.not_eq_true', Bool.not_eq_false', Bool.and_eq_true, Bool.or_eq_true, Bool.not_eq_true] at h2)
    have hlt : m < ps.length ∧ (m : Int) < k := by
      rw [bif_and] at h2
      simp at h2
      omega
    obtain ⟨hlt, hlk⟩ := hlt
    clear h2
    have hm1 : m + 1 ≤ min k.toNat ps.length ∧ ps.length - (m + 1) < ps.length - m := by
      clear hbl hbs hss hsl
      omega
    have hbl := hbl hlt
    generalize hO : sel D ps.length m = o at *
    refine awp_skip ?_
    refine awp_block ?_
    refine awp_seq ?_
    refine awpF_region ?_; intro K hK; simp only [push_cast, seval]; (try simp (disch := omega) only [wrapI]); (repeat ((with_reducible refine And.intro ?_ ?_); (focus (exact ob1)))); refine hK _ ?_; clear hK; clear K
    refine awp_seq ?_
    refine awp_seq ?_
    refine awpF_region ?_; intro K hK; simp only [push_cast, seval]; (try simp (disch := omega) only [wrapI]); (repeat ((with_reducible refine And.intro ?_ ?_); (focus (exact ob1)))); refine hK _ ?_; clear hK; clear K
    refine awp_block ?_
    refine awp_loopP (α := Nat) (st := fun i => ⟨[(0, .d (.sl (ps.map encP))), (2, .d (.int .i64 k)), (4, .ptr 0 0 0), (7, .ref 1 0 ps.length), (8, .ref 2 0 m), (9, .d (.int .i64 (bst D o i))), (10, .d (.int .i64 i))], [.cells [.d (.int .i64 x), .d (.int .i64 y)], .data 1 (tkn o ps.length), .data 1 (o.map encN)]⟩)
      (inv := fun i => i ≤ ps.length) (μ := fun i => ps.length - i) (x0 := 0) (r0 := [0, 1, 2]) (Nat.zero_le _) ?_ ?_
    · rw [bst]
      exact ⟨by simp, by simp, by simp [push_cast, seval], by simp [push_cast, seval], by simp [push_cast, seval], by simp [push_cast, seval]⟩
    intro i hi
    have hbi := hbs i
    have hbe : bst D o (i + 1) = if i ∉ o ∧ (bst D o i < 0 ∨ D i < D (bst D o i).toNat) then (i : Int) else bst D o i := rfl
    refine awp_seq ?_
    refine awp_seq ?_
    refine awpF_region ?_; intro K hK; simp only [push_cast, seval]; (try simp (disch := omega) only [wrapI]); (repeat ((with_reducible refine And.intro ?_ ?_); (focus (exact ob1)))); refine hK _ ?_; clear hK; clear K
    apply awp_cond; (focus (simp only [push_cast, seval]; rfl))
    · intro h2; (try simp only [decide_eq_true_eq, decide_eq_false_iff_not, Bool.not_eq_true', Bool.not_eq_false', Bool.and_eq_true, Bool.or_eq_true, Bool.not_eq_true] at h2)
      have hlt2 : i < ps.length := by omega
      obtain ⟨p, hp⟩ : ∃ p, ps[i]? = some p := ⟨_, List.getElem?_eq_getElem hlt2⟩
      have hDi := hDp i p hp
      have htg := tkn_get (o := o) hlt2
      obtain ⟨b, hb⟩ : ∃ b : Nat, bst D o i = -1 ∨ bst D o i = b ∧ b < ps.length := by
        rcases hbi with ⟨e, _⟩ | ⟨b, e, q, _⟩
        · exact ⟨0, .inl e⟩
        · exact ⟨b, .inr ⟨e, by omega⟩⟩
      refine awp_skip ?_
      refine awp_mid (fun u => u = ⟨[(0, .d (.sl (ps.map encP))), (2, .d (.int .i64 k)), (4, .ptr 0 0 0), (7, .ref 1 0 ps.length), (8, .ref 2 0 m), (9, .d (.int .i64 (bst D o (i + 1)))), (10, .d (.int .i64 i))], [.cells [.d (.int .i64 x), .d (.int .i64 y)], .data 1 (tkn o ps.length), .data 1 (o.map encN)]⟩) ?_ ?_
      · refine awp_block ?_
        generalize bst D o (i + 1) = B2 at *
        generalize bst D o i = B at *
        refine awp_seq ?_
        obtain ⟨p2, hp2⟩ : ∃ p, ps[B.toNat]? = some p := ⟨_, List.getElem?_eq_getElem (show B.toNat < ps.length by omega)⟩
        have hD2 := hDp B.toNat p2 hp2
        refine awpF_draw [0,1,2,3,4,5,6,7,8,9,10,11,12,13,16,17,18,19,20,14,15,21,22,23,24,25] (by kernel_rfl) (by kernel_rfl) rfl ?_; intro K hK; simp only [push_cast, seval, hp, hp2, htg, encP, Int.toNat_natCast, Option.map_some, Option.getD_some]
        have hG : (!decide (i ∈ o) && !decide (B < 0)) = true → 0 ≤ B ∧ B < ps.length := fun g => by
          simp at g
          omega
        refine ⟨by omega, by omega, fun g => ⟨g, g, by omega, by omega, hq⟩, fun g => ⟨g, g, (hG g).1, (hG g).2, hq⟩, ?_⟩
        refine CallK.pg (fun _ => p61 _ _ _) ?_; simp only [push_cast, seval]; (try simp (disch := omega) only [wrapI]); (repeat ((with_reducible refine And.intro ?_ ?_); (focus (exact ob1))))
        refine CallK.pg (fun _ => p46 _ _ _ _) ?_; simp only [push_cast, seval]; (try simp (disch := omega) only [wrapI]); (repeat ((with_reducible refine And.intro ?_ ?_); (focus (exact ob1))))
        refine CallK.pg (fun _ => p61 _ _ _) ?_; simp only [push_cast, seval]; (try simp (disch := omega) only [wrapI]); (repeat ((with_reducible refine And.intro ?_ ?_); (focus (exact ob1))))
        refine CallK.pg (fun _ => p46 _ _ _ _) ?_; simp only [push_cast, seval]; (try simp (disch := omega) only [wrapI]); (repeat ((with_reducible refine And.intro ?_ ?_); (focus (exact ob1))))
        refine hK _ ?_; clear hK; clear K
        rw [show dist2 (x, y) (p.1, p.2.1) = D i from hDi.symm, show dist2 (x, y) (p2.1, p2.2.1) = D B.toNat from hD2.symm]
        apply awp_cond; (focus (simp only [push_cast, seval]; rfl))
        · intro h6
          rw [if_pos (by
            by_cases q1 : i ∈ o
            · rw [decide_eq_true q1] at h6
              cases h6
            · refine ⟨q1, ?_⟩
              rw [decide_eq_false q1] at h6
              by_cases q2 : B < 0
              · exact .inl q2
              · rw [decide_eq_false q2] at h6
                simp at h6
                exact .inr h6)] at hbe
          refine awpF_region ?_; intro K hK; simp only [push_cast, seval]; (try simp (disch := omega) only [wrapI]); (repeat ((with_reducible refine And.intro ?_ ?_); (focus (exact ob1)))); refine hK _ ?_; clear hK; clear K
          refine inblock_norm ?_
          refine mid_end [0, 1, 2] _ rfl ?_
          rw [hbe]
          exact ⟨by simp, by simp, by simp [push_cast, seval], by simp [push_cast, seval], by simp [push_cast, seval], by simp [push_cast, seval]⟩
        · intro h6
          rw [if_neg (by
            rintro ⟨q1, q2⟩
            rw [decide_eq_false q1] at h6
            by_cases q3 : B < 0
            · rw [decide_eq_true q3] at h6
              cases h6
            · rw [decide_eq_false q3] at h6
              simp at h6
              omega)] at hbe
          refine awp_skip ?_
          refine inblock_norm ?_
          refine mid_end [0, 1, 2] _ rfl ?_
          rw [hbe]
          exact ⟨by simp, by simp, by simp [push_cast, seval], by simp [push_cast, seval], by simp [push_cast, seval], by simp [push_cast, seval]⟩
      rintro _ rfl
      refine awpF_region ?_; intro K hK; simp only [push_cast, seval]; (try simp (disch := omega) only [wrapI]); (repeat ((with_reducible refine And.intro ?_ ?_); (focus (exact ob1)))); refine hK _ ?_; clear hK; clear K
      refine round_endG (i + 1) [0, 1, 2] ⟨by omega, hlt2, ?_⟩
      exact ⟨by simp, by simp, by simp [push_cast, seval], by simp [push_cast, seval], by simp [push_cast, seval], by simp [push_cast, seval]⟩
    · intro h2; (try simp only [decide_eq_true_eq, decide_eq_false_iff_not, Bool.not_eq_true', Bool.not_eq_false', Bool.and_eq_true, Bool.or_eq_true, Bool.not_eq_true] at h2)
      obtain rfl : i = ps.length := by omega
      obtain ⟨b, eb, hb, _⟩ := hbl
      have htk : (o.map encN).take m = o.map encN := List.take_of_length_le (by simp; omega)
      have hts := tkn_set (o := o) hb
      rw [eb, Int.toNat_natCast] at hss
      rw [eb]
      refine awp_exit ?_; (repeat (first | refine then_exit ?_ | refine inblock_other (by decide) ?_)); refine inblock_same ?_
      refine awp_seq ?_
      refine awpF_region ?_; intro K hK; simp only [push_cast, seval, Int.toNat_natCast, hts]
      (repeat ((with_reducible refine And.intro ?_ ?_); (focus (exact ob1))))
      refine hK _ ?_; clear hK; clear K
      refine awpF_region ?_; intro K hK; simp only [push_cast, seval, htk]; (try simp (disch := omega) only [wrapI]); (repeat ((with_reducible refine And.intro ?_ ?_); (focus (exact ob1)))); refine hK _ ?_; clear hK; clear K
      refine inblock_norm ?_
      refine round_endG (m + 1) [0, 1, 2] ⟨hm1.2, hm1.1, ?_⟩
      rw [hss, List.map_append]
      simp only [List.map_cons, List.map_nil, encN]
      exact ⟨by simp, by simp, by simp [push_cast, seval], by simp [push_cast, seval], by simp [push_cast, seval], by simp [push_cast, seval]⟩
  · intro h2; (try simp only [decide_eq_true_eq, decide_eq_false_iff_not, Bool.not_eq_true', Bool.not_eq_false', Bool.and_eq_true, Bool.or_eq_true, Bool.not_eq_true] at h2)
    have hmk : m = min k.toNat ps.length := by
      rw [bif_and] at h2
      simp at h2
      clear hbl hbs hss hsl
      omega
    refine awp_exit ?_; (repeat (first | refine then_exit ?_ | refine inblock_other (by decide) ?_)); refine inblock_same ?_
    refine awp_seq ?_
    refine awpF_region ?_; intro K hK; simp only [push_cast, seval]; (try simp (disch := omega) only [wrapI]); (repeat ((with_reducible refine And.intro ?_ ?_); (focus (exact ob1)))); refine hK _ ?_; clear hK; clear K
    refine awp_ret ?_; (repeat (first | refine then_ret ?_ | refine inblock_ret ?_)); refine fin_of (by simp only [push_cast, seval]; first | done | rfl) ob1 ?_
    rw [hmk] at hsl ⊢
    generalize sel D ps.length (min k.toNat ps.length) = o at *
    rw [← hsl]
    exact deep_ints rfl
end Go.Aw
