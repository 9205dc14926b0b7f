/-
  Contracts of the program's great numbers: products. Conditions: lengths that fit.
-/
import Derived.Test.YtmmnjelmahcbaaaN4
namespace Go.Aw
set_option linter.unusedSimpArgs false
set_option linter.unusedVariables false
open Go.RowKit Go.Proofs Go.Nt

theorem nw_mul (a b : Nat) : nw (a * b) ≤ nw a + nw b := by
  unfold nw
  have ha := val_lt (B := B64) (by decide) (digs_ok (by decide) a)
  have hb := val_lt (B := B64) (by decide) (digs_ok (by decide) b)
  rw [val_digs (by decide)] at ha hb
  refine digs_len (by decide) _ _ ?_
  rw [Nat.pow_add]
  exact Nat.mul_lt_mul'' ha hb
theorem nw_mono {a b : Nat} (h : a ≤ b) : nw a ≤ nw b := digs_mono (by decide) h

theorem val_take {B : Nat} : ∀ (k : Nat) (l : List Nat), val B (l.take k) ≤ val B l
  | 0, l => by simp [val]
  | k + 1, [] => by simp
  | k + 1, x :: l => by
    simp only [List.take_succ_cons, val]
    have := Nat.mul_le_mul_left B (val_take (B := B) k l)
    omega

set_option maxRecDepth 10000 in
theorem p66 (a b : Nat) (ha : nw a ≤ 100000) (hb : nw b ≤ 100000) : PD Try.prog 66 [(Go.Aw.D.sl ((digs B64 (a)).map encW)), (Go.Aw.D.sl ((digs B64 (b)).map encW))] (.d ((Go.Aw.D.sl ((digs B64 (a * b)).map encW)))) := by
  have hoy := digs_ok (B := B64) (by decide) b
  have hvy := val_digs (B := B64) (by decide) b
  have hby : (digs B64 b).length = nw b := rfl
  generalize digs B64 b = dy at *
  refine pd_of (fn := Try.f66) [.tmp 4] (by kernel_rfl) rfl (by kernel_rfl) (Nat.le_of_ble_eq_true rfl) (by kernel_rfl) rfl rfl ?_
  refine awp_seq ?_
  refine awpF_region ?_; intro K hK; simp only [push_cast, seval]; (try simp (disch := omega) only [wrapI]); (repeat ((with_reducible refine And.intro ?_ ?_); (focus (first | omega | trivial | assumption | (intro _ hrow; obtain ⟨_, _, rfl⟩ := List.mem_map.1 hrow; rfl) | ((intros; repeat' apply And.intro) <;> first | omega | trivial | assumption | (intro _ hrow; obtain ⟨_, _, rfl⟩ := List.mem_map.1 hrow; rfl) | (simp_all; done) | (simp_all; omega)))))); refine hK _ ?_; clear hK; clear K
  refine awp_seq ?_
  refine awpF_region ?_; intro K hK; simp only [push_cast, seval]; (try simp (disch := omega) only [wrapI]); (repeat ((with_reducible refine And.intro ?_ ?_); (focus (first | omega | trivial | assumption | (intro _ hrow; obtain ⟨_, _, rfl⟩ := List.mem_map.1 hrow; rfl) | ((intros; repeat' apply And.intro) <;> first | omega | trivial | assumption | (intro _ hrow; obtain ⟨_, _, rfl⟩ := List.mem_map.1 hrow; rfl) | (simp_all; done) | (simp_all; omega)))))); refine hK _ ?_; clear hK; clear K
  refine awp_seq ?_
  refine awp_seq ?_
  refine awpF_region ?_; intro K hK; simp only [push_cast, seval]; (try simp (disch := omega) only [wrapI]); (repeat ((with_reducible refine And.intro ?_ ?_); (focus (first | omega | trivial | assumption | (intro _ hrow; obtain ⟨_, _, rfl⟩ := List.mem_map.1 hrow; rfl) | ((intros; repeat' apply And.intro) <;> first | omega | trivial | assumption | (intro _ hrow; obtain ⟨_, _, rfl⟩ := List.mem_map.1 hrow; rfl) | (simp_all; done) | (simp_all; omega)))))); refine hK _ ?_; clear hK; clear K
  refine awp_virt 5 1 rfl ?_
  simp only [push_cast, seval]
  refine awp_frz 0 ?_
  simp only [push_cast, seval]
  refine awp_block ?_
  refine awp_loopP (st := fun (k : Nat) => ⟨[(0, .d ((Go.Aw.D.sl ((digs B64 (a)).map encW)))), (5, .d ((Go.Aw.D.sl ((digs B64 (a * val B64 (dy.take k))).map encW)))), (8, .d (.sl (dy.map encW))), (9, .d (.int .i64 dy.length)), (10, .d (.int .i64 k))], []⟩) (inv := fun k => k ≤ dy.length) (μ := fun k => dy.length - k) (x0 := 0) (r0 := []) ?_ ?_ ?_
  · exact Nat.zero_le _
  · have e : (digs B64 (a * val B64 (dy.take 0))).map encW = [] := by simp [val, digs_zero]
    rw [e]
    exact ⟨by simp, by simp, by simp [push_cast, seval], by simp [push_cast, seval], by simp [push_cast, seval], by simp [push_cast, seval]⟩
  intro k hk
  refine awp_seq ?_
  refine awpF_region ?_; intro K hK; simp only [push_cast, seval]; (try simp (disch := omega) only [wrapI]); (repeat ((with_reducible refine And.intro ?_ ?_); (focus (first | omega | trivial | assumption | (intro _ hrow; obtain ⟨_, _, rfl⟩ := List.mem_map.1 hrow; rfl) | ((intros; repeat' apply And.intro) <;> first | omega | trivial | assumption | (intro _ hrow; obtain ⟨_, _, rfl⟩ := List.mem_map.1 hrow; rfl) | (simp_all; done) | (simp_all; omega)))))); refine hK _ ?_; clear hK; clear K
  refine awp_seq ?_
  apply awp_cond; (focus (simp only [push_cast, seval]; rfl))
  · intro h1; (try simp only [decide_eq_true_eq, decide_eq_false_iff_not, Bool.not_eq_true', Bool.not_eq_false', Bool.and_eq_true, Bool.or_eq_true, Bool.not_eq_true] at h1)
    refine awp_skip ?_
    have hlt : k < dy.length := by omega
    have gy := List.getElem?_eq_getElem (l := dy) (i := k) hlt
    have hw := hoy _ (List.getElem_mem hlt)
    have ht : dy.take (k + 1) = dy.take k ++ [dy[k]] := (List.take_append_getElem hlt).symm
    generalize dy[k] = w at gy hw ht
    have h56 := p56 a w (by omega) hw
    have hlw : (digs B64 (a * w)).length ≤ 100001 := by have h1 := nw_mul a w; have h2 := digs_len (B := B64) (by decide) 1 w (by simpa using hw); simp only [nw] at h1 ha; omega
    have hk1 : k ≤ 100000 := by omega
    have ok0 : Ok B64 (List.replicate k 0 ++ digs B64 (a * w)) := (Ok.rep (by decide) k).app (digs_ok (by decide) _)
    have h95 := p95 _ ok0 (by simp only [List.length_append, List.length_replicate]; omega)
    rw [List.map_append, List.map_replicate, show encW 0 = [D.int .u64 0] from rfl, show (digs B64 (a * w)).map encW = (digs B64 (a * w)).map encW from rfl] at h95
    have hval : val B64 (List.replicate k 0 ++ digs B64 (a * w)) = B64 ^ k * (a * w) := by rw [val_append, val_rep, List.length_replicate, Nat.zero_add, val_digs (by decide)]
    rw [hval] at h95
    have hsum : a * val B64 (dy.take k) + B64 ^ k * (a * w) = a * val B64 (dy.take (k + 1)) := by
      rw [ht, val_one, List.length_take, Nat.min_eq_left hk, Nat.mul_add, Nat.mul_left_comm a]
    have hfit := nw_mono (Nat.mul_le_mul_left a (val_take (B := B64) (k + 1) dy))
    have hmul := nw_mul a b
    rw [hvy] at hfit
    have h67 := p67 (a * val B64 (dy.take k)) (B64 ^ k * (a * w)) (by have := nw_mono (show a * val B64 (dy.take k) ≤ a * val B64 (dy.take (k + 1)) by omega); omega) (by have := nw_mono (show B64 ^ k * (a * w) ≤ a * val B64 (dy.take (k + 1)) by omega); omega)
    rw [hsum] at h67
    clear hsum hval
    generalize hq : B64 ^ k * (a * w) = q at h95 h67
    generalize hp : a * val B64 (dy.take k) = p at h67 ⊢
    clear hq ok0
    generalize digs B64 (a * w) = dw at h56 h95 hlw
    have hrw : ∀ row : List D, row ∈ dw.map encW → row.length = 1 ∧ row.all D.leaf = true := fun r h => encW_row h
    have hdw : List.take (k + dw.length) (List.take k (List.replicate k [D.int .u64 0]) ++ dw.map encW) = List.replicate k [D.int .u64 0] ++ dw.map encW := by rw [List.take_of_length_le (i := k) (by simp), List.take_of_length_le (by simp)]
    refine awp_seq ?_
    refine awp_block ?_
    refine awp_seq ?_
    refine awpF_region ?_; intro K hK; simp only [push_cast, seval, gy, encW, Int.toNat_natCast]; (try simp (disch := omega) only [wrapI]); (repeat ((with_reducible refine And.intro ?_ ?_); (focus (first | omega | trivial | assumption | (intro _ hrow; obtain ⟨_, _, rfl⟩ := List.mem_map.1 hrow; rfl) | ((intros; repeat' apply And.intro) <;> first | omega | trivial | assumption | (intro _ hrow; obtain ⟨_, _, rfl⟩ := List.mem_map.1 hrow; rfl) | (simp_all; done) | (simp_all; omega)))))); refine hK _ ?_; clear hK; clear K
    refine awpF_drawT (DT.op 1 (DT.op 3 (DT.op 4 (DT.or (DT.op 0 (DT.or (DT.op 2 (DT.op 5 (DT.op 6 (DT.op 7 (DT.op 8 (DT.op 9 DT.nil)))))) (DT.op 5 (DT.op 2 (DT.op 6 (DT.op 7 (DT.op 8 (DT.op 9 DT.nil)))))))) (DT.or (DT.op 2 (DT.or (DT.op 0 (DT.op 5 (DT.op 6 (DT.op 7 (DT.op 8 (DT.op 9 DT.nil)))))) (DT.op 5 (DT.or (DT.op 0 (DT.op 6 (DT.op 7 (DT.op 8 (DT.op 9 DT.nil))))) (DT.op 6 (DT.op 0 (DT.op 7 (DT.op 8 (DT.op 9 DT.nil))))))))) (DT.op 5 (DT.or (DT.op 0 (DT.op 2 (DT.op 6 (DT.op 7 (DT.op 8 (DT.op 9 DT.nil)))))) (DT.op 2 (DT.or (DT.op 0 (DT.op 6 (DT.op 7 (DT.op 8 (DT.op 9 DT.nil))))) (DT.op 6 (DT.op 0 (DT.op 7 (DT.op 8 (DT.op 9 DT.nil)))))))))))))) (by kernel_rfl) (by kernel_rfl) (by kernel_rfl) ?_; intro K hK; apply dt_close; (rotate_left; (intro fin; (focus (simp only [push_cast, seval, Int.toNat_natCast, hdw]; (try simp (disch := omega) only [wrapI]); (repeat' (first | exact fin | (with_reducible refine And.intro ?_ ?_) | (refine CallK.pd (h56) ?_; simp only [push_cast, seval, Int.toNat_natCast, hdw]; (try simp (disch := omega) only [wrapI])) | (refine CallK.pd (h95) ?_; simp only [push_cast, seval, Int.toNat_natCast, hdw]; (try simp (disch := omega) only [wrapI])) | (refine CallK.pd (h67) ?_; simp only [push_cast, seval, Int.toNat_natCast, hdw]; (try simp (disch := omega) only [wrapI])) | (refine CallK.pg (fun _ => h56) ?_; simp only [push_cast, seval, Int.toNat_natCast, hdw]; (try simp (disch := omega) only [wrapI])) | (refine CallK.pg (fun _ => h95) ?_; simp only [push_cast, seval, Int.toNat_natCast, hdw]; (try simp (disch := omega) only [wrapI])) | (refine CallK.pg (fun _ => h67) ?_; simp only [push_cast, seval, Int.toNat_natCast, hdw]; (try simp (disch := omega) only [wrapI])) | first | omega | trivial | assumption | (intro _ hrow; obtain ⟨_, _, rfl⟩ := List.mem_map.1 hrow; rfl) | ((intros; repeat' apply And.intro) <;> first | omega | trivial | assumption | (intro _ hrow; obtain ⟨_, _, rfl⟩ := List.mem_map.1 hrow; rfl) | (simp_all; done) | (simp_all; omega)))))))); refine hK _ ?_; clear hK; clear K
    refine inblock_norm ?_
    refine awpF_region ?_; intro K hK; simp only [push_cast, seval]; (try simp (disch := omega) only [wrapI]); (repeat ((with_reducible refine And.intro ?_ ?_); (focus (first | omega | trivial | assumption | (intro _ hrow; obtain ⟨_, _, rfl⟩ := List.mem_map.1 hrow; rfl) | ((intros; repeat' apply And.intro) <;> first | omega | trivial | assumption | (intro _ hrow; obtain ⟨_, _, rfl⟩ := List.mem_map.1 hrow; rfl) | (simp_all; done) | (simp_all; omega)))))); refine hK _ ?_; clear hK; clear K
    refine round_end (y := k + 1) (r := []) (by omega) (by omega) ?_
    exact ⟨by simp, by simp, by simp [push_cast, seval], by simp [push_cast, seval], by simp [push_cast, seval], by simp [push_cast, seval]⟩
  · intro h1; (try simp only [decide_eq_true_eq, decide_eq_false_iff_not, Bool.not_eq_true', Bool.not_eq_false', Bool.and_eq_true, Bool.or_eq_true, Bool.not_eq_true] at h1)
    refine awp_exit ?_; (repeat (first | refine then_exit ?_ | refine inblock_other (by decide) ?_)); refine inblock_same ?_
    refine awp_seq ?_
    refine awpF_region ?_; intro K hK; simp only [push_cast, seval]; (try simp (disch := omega) only [wrapI]); (repeat ((with_reducible refine And.intro ?_ ?_); (focus (first | omega | trivial | assumption | (intro _ hrow; obtain ⟨_, _, rfl⟩ := List.mem_map.1 hrow; rfl) | ((intros; repeat' apply And.intro) <;> first | omega | trivial | assumption | (intro _ hrow; obtain ⟨_, _, rfl⟩ := List.mem_map.1 hrow; rfl) | (simp_all; done) | (simp_all; omega)))))); refine hK _ ?_; clear hK; clear K
    refine awp_ret ?_; (repeat (first | refine then_ret ?_ | refine inblock_ret ?_)); refine fin_of (by simp only [push_cast, seval]; first | done | rfl) (by first | trivial | first | omega | trivial | assumption | (intro _ hrow; obtain ⟨_, _, rfl⟩ := List.mem_map.1 hrow; rfl) | ((intros; repeat' apply And.intro) <;> first | omega | trivial | assumption | (intro _ hrow; obtain ⟨_, _, rfl⟩ := List.mem_map.1 hrow; rfl) | (simp_all; done) | (simp_all; omega))) ?_
    rw [show k = dy.length by omega, List.take_length, hvy]

end Go.Aw
