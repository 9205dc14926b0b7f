/-
  Contracts: a plan out of pairs of numbers. No condition.
-/
import Derived.Test.YtmmnjelmahcbaaaGreatPxN33
import Derived.Test.YtmmnjelmahcbaaaGreatPkG
import Derived.Test.YtmmnjelmahcbaaaGreatPkD
namespace Go.Aw
set_option linter.unusedSimpArgs false
set_option linter.unusedVariables false
open Go.RowKit Go.Proofs Go.Nt Go.Rl

def enc2 (r : Int × Int) : List D := [.int .i64 r.1, .int .i64 r.2]
theorem enc2_len (rs : List (Int × Int)) (row : List D) (h : row ∈ rs.map enc2) : row.length = 2 := by
  obtain ⟨_, _, rfl⟩ := List.mem_map.1 h; rfl
def planW (rs : List (Int × Int)) : Nat := max 2 (min rs.length 5)
def shW (w i : Nat) : Nat := 100 * i / (w - 1)
def stI (w i : Nat) (r : Int × Int) : Stg := ⟨(shW w i : Int), 1 + modI r.1 12, 1 + modI r.2 5, 6, 1 + modI (IntKind.i64.wrap (r.1.tdiv 12)) 4, 8, 1 + modI (IntKind.i64.wrap (r.2.tdiv 5)) 4, 8⟩
def planI (rs : List (Int × Int)) (k : Nat) : List Stg := (List.range k).map fun i => stI (planW rs) i (rs.getD i (3, 7))
def planL (rs : List (Int × Int)) : List Stg := planI rs (planW rs)
theorem planI_len (rs : List (Int × Int)) (k : Nat) : (planI rs k).length = k := by simp [planI]
theorem planI_succ (rs : List (Int × Int)) (k : Nat) : planI rs (k + 1) = planI rs k ++ [stI (planW rs) k (rs.getD k (3, 7))] := by simp [planI, List.range_succ]

set_option maxRecDepth 10000 in
set_option maxHeartbeats 1000000 in
theorem p46 (rs : List (Int × Int)) : PD Tryz.prog 22 [.sl (rs.map enc2)] (.d (.sl ((planL rs).map encG))) := by
  have hq := enc2_len rs
  obtain ⟨w, hw⟩ : ∃ w, planW rs = w := ⟨_, rfl⟩
  have hw2 : 2 ≤ w ∧ w ≤ 5 := by rw [← hw]; unfold planW; omega
  have hwi : max 2 (min (rs.length : Int) 5) = (w : Int) := by rw [← hw]; unfold planW; omega
  have hL : planL rs = planI rs w := by unfold planL; rw [hw]
  rw [hL]
  show PD Tryz.prog 22 _ (ofD (.sl ((planI rs w).map encG)))
  refine pdd_of (fn := Tryz.f22) [.tmp 2] (by kernel_rfl) rfl (by kernel_rfl) (Nat.le_of_ble_eq_true rfl) (by kernel_rfl) rfl ?_
  refine awp_seq ?_
  refine awpF_region ?_; intro K hK; simp only [push_cast, seval]; (try simp (disch := omega) only [wrapI]); (repeat ((with_reducible refine And.intro ?_ ?_); (focus (exact ob1)))); refine hK _ ?_; clear hK; clear K
  refine awp_seq ?_
  refine awpF_region ?_; intro K hK; simp only [push_cast, seval]; (try simp (disch := omega) only [wrapI]); (repeat ((with_reducible refine And.intro ?_ ?_); (focus (exact ob1)))); refine hK _ ?_; clear hK; clear K
  refine awp_seq ?_
  refine awpF_region ?_; intro K hK; simp only [push_cast, seval, hwi]
  (repeat ((with_reducible refine And.intro ?_ ?_); (focus (exact ob1))))
  refine hK _ ?_; clear hK; clear K
  refine awp_seq ?_
  refine awp_seq ?_
  refine awpF_region ?_; intro K hK; simp only [push_cast, seval]; (try simp (disch := omega) only [wrapI]); (repeat ((with_reducible refine And.intro ?_ ?_); (focus (exact ob1)))); refine hK _ ?_; clear hK; clear K
  refine awp_virt 3 8 (by simp only [push_cast, seval]) ?_
  refine awp_block ?_
  refine awp_loopP (α := Nat) (st := fun i => ⟨[(0, .d (.sl (rs.map enc2))), (3, .ref 0 0 i), (4, .d (.int .i64 w)), (5, .d (.int .i64 i))], [.data 8 ((planI rs i).map encG)]⟩) (inv := fun i => i ≤ w) (μ := fun i => w - i) (x0 := 0) (r0 := [0]) ?_ ?_ ?_
  · exact Nat.zero_le _
  · rw [show planI rs 0 = [] from rfl]
    exact ⟨by simp, by simp, by simp [push_cast, seval], by simp [push_cast, seval], by simp [push_cast, seval], by simp [push_cast, seval]⟩
  intro i hi
  refine awp_seq ?_
  refine awp_seq ?_
  refine awpF_region ?_; intro K hK; simp only [push_cast, seval]; (try simp (disch := omega) only [wrapI]); (repeat ((with_reducible refine And.intro ?_ ?_); (focus (exact ob1)))); refine hK _ ?_; clear hK; clear K
  apply awp_cond; (focus (simp only [push_cast, seval]; rfl))
  · intro h1; (try simp only [decide_eq_true_eq, decide_eq_false_iff_not, Bool.not_eq_true', Bool.not_eq_false', Bool.and_eq_true, Bool.or_eq_true, Bool.not_eq_true] at h1)
    have hil := planI_len rs i
    have hsu := planI_succ rs i
    rw [hw] at hsu
    refine awp_skip ?_
    refine awp_seq ?_
    refine awp_block ?_
    refine awp_seq ?_
    refine awpF_region ?_; intro K hK; simp only [push_cast, seval]; (try simp (disch := omega) only [wrapI]); (repeat ((with_reducible refine And.intro ?_ ?_); (focus (exact ob1)))); refine hK _ ?_; clear hK; clear K
    refine awp_mid (fun u => u = ⟨[(0, .d (.sl (rs.map enc2))), (3, .ref 0 0 i), (4, .d (.int .i64 w)), (5, .d (.int .i64 i)), (6, .ptr 1 0 0)], [.data 8 ((planI rs i).map encG), .cells [.d (.int .i64 (rs.getD i (3, 7)).1), .d (.int .i64 (rs.getD i (3, 7)).2)]]⟩) ?_ ?_
    · refine awp_seq ?_
      refine awpF_region ?_; intro K hK; simp only [push_cast, seval]; (try simp (disch := omega) only [wrapI]); (repeat ((with_reducible refine And.intro ?_ ?_); (focus (exact ob1)))); refine hK _ ?_; clear hK; clear K
      apply awp_cond; (focus (simp only [push_cast, seval]; rfl))
      · intro h2; (try simp only [decide_eq_true_eq, decide_eq_false_iff_not, Bool.not_eq_true', Bool.not_eq_false', Bool.and_eq_true, Bool.or_eq_true, Bool.not_eq_true] at h2)
        have hlt : i < rs.length := by omega
        have g1 : (rs.map enc2)[i]? = some (enc2 rs[i]) := by rw [List.getElem?_map, List.getElem?_eq_getElem hlt]; rfl
        have g2 : rs.getD i (3, 7) = rs[i] := by simp [hlt]
        simp only [enc2] at g1
        rw [g2]
        refine awpF_region ?_; intro K hK; simp only [push_cast, seval, g1, Int.toNat_natCast]
        repeat (with_reducible refine And.intro ?_ ?_; (focus (first | exact hq | omega)))
        refine hK _ ?_; clear hK; clear K
        refine mid_end [0, 1] _ rfl ?_
        exact ⟨by simp, by simp, by simp [push_cast, seval], by simp [push_cast, seval], by simp [push_cast, seval], by simp [push_cast, seval]⟩
      · intro h2; (try simp only [decide_eq_true_eq, decide_eq_false_iff_not, Bool.not_eq_true', Bool.not_eq_false', Bool.and_eq_true, Bool.or_eq_true, Bool.not_eq_true] at h2)
        have g2 : rs.getD i (3, 7) = (3, 7) := by
          rw [List.getD_eq_getElem?_getD, List.getElem?_eq_none (by omega)]; rfl
        rw [g2]
        refine awp_skip ?_
        refine mid_end [0, 1] _ rfl ?_
        exact ⟨by simp, by simp, by simp [push_cast, seval], by simp [push_cast, seval], by simp [push_cast, seval], by simp [push_cast, seval]⟩
    · rintro _ rfl
      generalize rs.getD i (3, 7) = r at hsu ⊢
      have b1 := modI_bounds (n := r.1) (m := 12) (by decide)
      have b2 := modI_bounds (n := r.2) (m := 5) (by decide)
      have b3 := modI_bounds (n := IntKind.i64.wrap (r.1.tdiv 12)) (m := 4) (by decide)
      have b4 := modI_bounds (n := IntKind.i64.wrap (r.2.tdiv 5)) (m := 4) (by decide)
      have c1 := p21 r.1 12 (by decide) (by decide)
      have c2 := p21 r.2 5 (by decide) (by decide)
      have c3 := p21 (IntKind.i64.wrap (r.1.tdiv 12)) 4 (by decide) (by decide)
      have c4 := p21 (IntKind.i64.wrap (r.2.tdiv 5)) 4 (by decide) (by decide)
      have d1 := p24 (1 + modI r.2 5) 6
      have d2 := p24 (1 + modI (IntKind.i64.wrap (r.1.tdiv 12)) 4) 8
      have d3 := p24 (1 + modI (IntKind.i64.wrap (r.2.tdiv 5)) 4) 8
      have w1 : IntKind.i64.wrap (100 * (i : Int)) = 100 * (i : Int) := wrapI _ (by omega)
      have w2 : IntKind.i64.wrap ((w : Int) - 1) = (w : Int) - 1 := wrapI _ (by omega)
      have hsh : shW w i ≤ 100 * i := Nat.div_le_self _ _
      have w3 : IntKind.i64.wrap ((100 * (i : Int)).tdiv ((w : Int) - 1)) = (shW w i : Int) := by
        have e : (100 * (i : Int)).tdiv ((w : Int) - 1) = (shW w i : Int) := by
          rw [show (w : Int) - 1 = ((w - 1 : Nat) : Int) by omega]; rfl
        rw [e]
        exact wrapI _ (by omega)
      have w4 : IntKind.i64.wrap (1 + modI r.1 12) = 1 + modI r.1 12 := wrapI _ (by omega)
      have w5 : IntKind.i64.wrap (1 + modI r.2 5) = 1 + modI r.2 5 := wrapI _ (by omega)
      have w6 : IntKind.i64.wrap (1 + modI (IntKind.i64.wrap (r.1.tdiv 12)) 4) = 1 + modI (IntKind.i64.wrap (r.1.tdiv 12)) 4 := wrapI _ (by omega)
      have w7 : IntKind.i64.wrap (1 + modI (IntKind.i64.wrap (r.2.tdiv 5)) 4) = 1 + modI (IntKind.i64.wrap (r.2.tdiv 5)) 4 := wrapI _ (by omega)
      refine awp_seq ?_
      refine awpF_drawT (DT.op 0 (DT.op 1 (DT.op 2 (DT.op 3 (DT.op 4 (DT.op 5 (DT.op 6 (DT.op 9 (DT.op 10 (DT.op 14 (DT.op 15 (DT.op 16 (DT.op 20 (DT.op 21 (DT.op 22 (DT.or (DT.op 7 (DT.op 8 (DT.or (DT.op 11 (DT.op 12 (DT.or (DT.op 13 (DT.or (DT.op 17 (DT.op 18 (DT.or (DT.op 19 (DT.or (DT.op 23 (DT.op 24 (DT.or (DT.op 25 (DT.op 26 (DT.op 27 (DT.op 28 DT.nil)))) (DT.op 27 (DT.op 25 (DT.op 26 (DT.op 28 DT.nil))))))) (DT.op 27 (DT.op 23 (DT.op 24 (DT.op 25 (DT.op 26 (DT.op 28 DT.nil)))))))) (DT.op 27 (DT.op 19 (DT.op 23 (DT.op 24 (DT.op 25 (DT.op 26 (DT.op 28 DT.nil)))))))))) (DT.op 27 (DT.op 17 (DT.op 18 (DT.op 19 (DT.op 23 (DT.op 24 (DT.op 25 (DT.op 26 (DT.op 28 DT.nil))))))))))) (DT.op 27 (DT.op 13 (DT.op 17 (DT.op 18 (DT.op 19 (DT.op 23 (DT.op 24 (DT.op 25 (DT.op 26 (DT.op 28 DT.nil))))))))))))) (DT.op 27 (DT.op 11 (DT.op 12 (DT.op 13 (DT.op 17 (DT.op 18 (DT.op 19 (DT.op 23 (DT.op 24 (DT.op 25 (DT.op 26 (DT.op 28 DT.nil))))))))))))))) (DT.op 27 (DT.op 7 (DT.op 8 (DT.op 11 (DT.op 12 (DT.op 13 (DT.op 17 (DT.op 18 (DT.op 19 (DT.op 23 (DT.op 24 (DT.op 25 (DT.op 26 (DT.op 28 DT.nil)))))))))))))))))))))))))))))) (by kernel_rfl) (by kernel_rfl) (by kernel_rfl) ?_; intro K hK; apply dt_close; (rotate_left; (intro fin; (focus (simp only [push_cast, seval, w1, w2, w3, w4, w5, w6, w7]; (try simp (disch := omega) only [wrapI]); (repeat' (first | exact fin | (with_reducible refine And.intro ?_ ?_) | (refine CallK.pd (c1) ?_; simp only [push_cast, seval, w1, w2, w3, w4, w5, w6, w7]; (try simp (disch := omega) only [wrapI])) | (refine CallK.pd (c2) ?_; simp only [push_cast, seval, w1, w2, w3, w4, w5, w6, w7]; (try simp (disch := omega) only [wrapI])) | (refine CallK.pd (c3) ?_; simp only [push_cast, seval, w1, w2, w3, w4, w5, w6, w7]; (try simp (disch := omega) only [wrapI])) | (refine CallK.pd (c4) ?_; simp only [push_cast, seval, w1, w2, w3, w4, w5, w6, w7]; (try simp (disch := omega) only [wrapI])) | (refine CallK.pd (d1) ?_; simp only [push_cast, seval, w1, w2, w3, w4, w5, w6, w7]; (try simp (disch := omega) only [wrapI])) | (refine CallK.pd (d2) ?_; simp only [push_cast, seval, w1, w2, w3, w4, w5, w6, w7]; (try simp (disch := omega) only [wrapI])) | (refine CallK.pd (d3) ?_; simp only [push_cast, seval, w1, w2, w3, w4, w5, w6, w7]; (try simp (disch := omega) only [wrapI])) | (refine CallK.pg (fun _ => c1) ?_; simp only [push_cast, seval, w1, w2, w3, w4, w5, w6, w7]; (try simp (disch := omega) only [wrapI])) | (refine CallK.pg (fun _ => c2) ?_; simp only [push_cast, seval, w1, w2, w3, w4, w5, w6, w7]; (try simp (disch := omega) only [wrapI])) | (refine CallK.pg (fun _ => c3) ?_; simp only [push_cast, seval, w1, w2, w3, w4, w5, w6, w7]; (try simp (disch := omega) only [wrapI])) | (refine CallK.pg (fun _ => c4) ?_; simp only [push_cast, seval, w1, w2, w3, w4, w5, w6, w7]; (try simp (disch := omega) only [wrapI])) | (refine CallK.pg (fun _ => d1) ?_; simp only [push_cast, seval, w1, w2, w3, w4, w5, w6, w7]; (try simp (disch := omega) only [wrapI])) | (refine CallK.pg (fun _ => d2) ?_; simp only [push_cast, seval, w1, w2, w3, w4, w5, w6, w7]; (try simp (disch := omega) only [wrapI])) | (refine CallK.pg (fun _ => d3) ?_; simp only [push_cast, seval, w1, w2, w3, w4, w5, w6, w7]; (try simp (disch := omega) only [wrapI])) | exact ob1)))))); refine hK _ ?_; clear hK; clear K
      have htk : ((planI rs i).map encG).take i = (planI rs i).map encG := List.take_of_length_le (by simp [hil])
      refine awpF_region ?_; intro K hK; simp only [push_cast, seval, htk]
      (repeat ((with_reducible refine And.intro ?_ ?_); (focus (exact ob1))))
      refine hK _ ?_; clear hK; clear K
      refine inblock_norm ?_
      refine awpF_region ?_; intro K hK; simp only [push_cast, seval]; (try simp (disch := omega) only [wrapI]); (repeat ((with_reducible refine And.intro ?_ ?_); (focus (exact ob1)))); refine hK _ ?_; clear hK; clear K
      refine round_endG (i + 1) [0] ⟨by omega, by omega, ?_⟩
      rw [hsu]
      simp only [List.map_append, List.map_cons, List.map_nil, encG, stI]
      exact ⟨by simp, by simp, by simp [push_cast, seval], by simp [push_cast, seval], by simp [push_cast, seval], by simp [push_cast, seval]⟩
  · intro h1; (try simp only [decide_eq_true_eq, decide_eq_false_iff_not, Bool.not_eq_true', Bool.not_eq_false', Bool.and_eq_true, Bool.or_eq_true, Bool.not_eq_true] at h1)
    refine awp_exit ?_; (repeat (first | refine then_exit ?_ | refine inblock_other (by decide) ?_)); refine inblock_same ?_
    have hiw : i = w := by omega
    subst hiw
    refine awp_seq ?_
    refine awpF_region ?_; intro K hK; simp only [push_cast, seval]; (try simp (disch := omega) only [wrapI]); (repeat ((with_reducible refine And.intro ?_ ?_); (focus (exact ob1)))); refine hK _ ?_; clear hK; clear K
    refine awp_ret ?_; (repeat (first | refine then_ret ?_ | refine inblock_ret ?_)); refine fin_of (by simp only [push_cast, seval]; first | done | rfl) ob1 ?_
    have := Deep.data (H := [Blk.data 8 ((planI rs i).map encG)]) 0 0 i 8 ((planI rs i).map encG) rfl (by simp [planI_len])
    rw [List.drop_zero, List.take_of_length_le (by simp [planI_len])] at this
    exact this
end Go.Aw
