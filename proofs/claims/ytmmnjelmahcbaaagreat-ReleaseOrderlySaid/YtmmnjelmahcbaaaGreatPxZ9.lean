/-
  ReleaseOrderly: its plain laws, its walk. No condition.
-/
import Derived.Test.YtmmnjelmahcbaaaGreatPxZ3
import Derived.Test.YtmmnjelmahcbaaaGreatPxN38
import Derived.Test.YtmmnjelmahcbaaaGreatPkG
import Derived.Test.YtmmnjelmahcbaaaGreatPkD
namespace Go.Aw
set_option linter.unusedSimpArgs false
set_option linter.unusedVariables false
open Go.RowKit Go.Proofs Go.Nt Go.Rl

/-- How many of the first i, turned by m, failed. -/
def cntN (fs : List Bool) (m i : Nat) : Nat := ((List.range i).filter fun j => fs.getD ((j + m) % fs.length) false).length
theorem cntN_succ (fs : List Bool) (m i : Nat) : cntN fs m (i + 1) = cntN fs m i + if fs.getD ((i + m) % fs.length) false = true then 1 else 0 := by
  unfold cntN
  rw [List.range_succ, List.filter_append, List.length_append]
  congr 1
  rw [show (List.filter (fun j => fs.getD ((j + m) % fs.length) false) [i]) = if fs.getD ((i + m) % fs.length) false = true then [i] else [] from by rw [List.filter_cons, List.filter_nil]]
  split <;> rfl
theorem rot {n m : Nat} (h : m < n) : (List.range n).map (fun j => (j + m) % n) = (List.range n).drop m ++ (List.range n).take m := by
  apply List.ext_getElem
  · simp; omega
  · intro i h1 h2
    simp only [List.length_map, List.length_range] at h1
    rw [List.getElem_map, List.getElem_range]
    by_cases h3 : i < n - m
    · rw [List.getElem_append_left (by simp; omega), List.getElem_drop, List.getElem_range, Nat.mod_eq_of_lt (by omega)]
      omega
    · rw [List.getElem_append_right (by simp; omega), List.getElem_take, List.getElem_range, Nat.mod_eq_sub_mod (by omega), Nat.mod_eq_of_lt (by omega)]
      simp
      omega
theorem cntN_full (fs : List Bool) {m : Nat} (h : m < fs.length) : cntN fs m fs.length = cntN fs 0 fs.length := by
  have key : ∀ k, k < fs.length → cntN fs k fs.length = ((List.range fs.length).filter fun j => fs.getD j false).length := fun k hk => by
    have h1 : cntN fs k fs.length = (((List.range fs.length).map fun j => (j + k) % fs.length).filter fun j => fs.getD j false).length := by
      rw [List.filter_map, List.length_map]
      rfl
    rw [h1, rot hk]
    refine (List.Perm.filter _ ?_).length_eq
    exact List.perm_append_comm.trans (by rw [List.take_append_drop])
  rw [key m h, key 0 (by omega)]
def staO (rs : List (Int × Int)) (i c : Nat) : Sta := ⟨5, 3, 4, planL rs, 1, 0, i, c, i⟩
theorem jud_stay {s : Sta} {bad : Bool} {g : Stg} (h1 : (judS (cntS s bad) g).st = s.st) (h2 : (judS (cntS s bad) g).ph = 1) : judS (cntS s bad) g = cntS s bad := by
  unfold judS at h1 h2 ⊢
  split at h2
  · cases h2
  · rename_i q1
    rw [if_neg q1] at h1 ⊢
    split at h2
    · rename_i q2
      rw [if_pos q2] at h1 ⊢
      split at h2
      · cases h2
      · rename_i q3
        rw [if_neg q3] at h1
        exact absurd (show s.st + 1 = s.st from h1) (by omega)
    · rename_i q2
      rw [if_neg q2] at h1 ⊢
      split at h2
      · cases h2
      · rename_i q3
        rw [if_neg q3]
theorem rep_zero {s : Sta} {c : Int} (hc : chkS s = 0) (hp : s.ph = 1) (hs : s.st = 0) (h0 : 0 ≤ c) (h1 : c < s.k) (ha : s.al < 1099511627776) : repC s c = 0 := by
  have hr : runC s = 0 := by unfold runC; rw [if_pos hc, if_pos hp]
  have ho : outB s c = false := by
    unfold outB
    rw [decide_eq_true h0, decide_eq_true h1, hs]
    rfl
  rw [repC_on c hr, ho, if_neg (by decide), if_neg (by omega)]
theorem cntS_staO (rs : List (Int × Int)) (i c : Nat) (b : Bool) : cntS (staO rs i c) b = staO rs (i + 1) (c + if b = true then 1 else 0) := by
  cases b <;> rfl
theorem samB_self (s : Sta) : samB s s = true := by
  unfold samB
  simp
def encT (b : Bool) : List D := [.bool b]

set_option maxRecDepth 10000 in
set_option maxHeartbeats 2000000 in
theorem q5 (rs : List (Int × Int)) (fs : List Bool) (tn : Int) (hfl : fs.length ≤ maxLen) : PD Tryz.prog 5 [.sl (rs.map enc2), .sl (fs.map encT), .int .i64 tn] (.d (.bool true)) := by
  have h7 := p19
  by_cases hl : fs.length ≤ 12 ∧ fs.length ≠ 0
  · obtain ⟨hl1, hl2⟩ := hl
    have h22 := p46 rs
    have hpw := planW_b rs
    have hpl : (planL rs).length = planW rs := plan_len rs
    have hpn : (planL rs).length ≤ 1000000 := by omega
    have h14 := p45 5 3 4 (planL rs) hpn
    have hck : chkS (sta0 5 3 4 (planL rs)) = 0 := by
      have := sta_ok (k := 5) (ol := 3) (nw := 4) (ph := 1) (st := 0) (rs := rs) (by omega) (by omega) (by omega) (.inl rfl) (by omega)
      rw [if_neg (by decide)] at this
      exact this
    have h17 := p48 (sta0 5 3 4 (planL rs)) hpn
    rw [hck, if_pos rfl] at h14
    unfold encS sta0 at h14 h17
    dsimp only at h14 h17
    have h23 := p20 tn fs.length (by omega) (by omega)
    have bm := modI_bounds (n := tn) (m := fs.length) (by omega)
    generalize modI tn fs.length = mI at h23 bm
    obtain ⟨m, rfl⟩ : ∃ m : Nat, mI = m := ⟨mI.toNat, by omega⟩
    have hqT : ∀ row, row ∈ fs.map encT → row.length = 1 := fun row hr => by
      obtain ⟨_, _, rfl⟩ := List.mem_map.1 hr; rfl
    have v0 : ((fs.length : Int) > 12) = False := eq_false (by omega)
    have v1 : ((fs.length : Int) == 0) = false := beq_eq_false_iff_ne.2 (by omega)
    have hnz : ((fs.length : Int) = 0) = False := eq_false (by omega)
    refine pd_of (fn := Tryz.f5) [.tmp 6] (by kernel_rfl) rfl (by kernel_rfl) (Nat.le_of_ble_eq_true rfl) (by kernel_rfl) rfl rfl ?_
    refine awp_seq ?_
    refine awpF_region ?_; intro K hK; simp only [push_cast, seval]; (try simp (disch := omega) only [wrapI]); (repeat ((with_reducible refine And.intro ?_ ?_); (focus (exact ob1)))); refine hK _ ?_; clear hK; clear K
    refine awp_seq ?_
    refine awp_seq ?_
    refine awpF_region ?_; intro K hK; simp only [push_cast, seval, v0, v1, decide_false, Bool.not_false]
    (repeat ((with_reducible refine And.intro ?_ ?_); (focus (exact ob1))))
    refine hK _ ?_; clear hK; clear K
    apply awp_cond; (focus (simp only [push_cast, seval]; rfl))
    · intro h1
      exact absurd h1 (by decide)
    intro h1
    clear h1
    refine awp_skip ?_
    refine awp_seq ?_
    refine awpF_region ?_; intro K hK; simp only [push_cast, seval]
    refine CallK.pd (h22) ?_; simp only [push_cast, seval]; (try simp (disch := omega) only [wrapI]); (repeat ((with_reducible refine And.intro ?_ ?_); (focus (exact ob1))))
    refine CallK.pd (h14) ?_; simp only [push_cast, seval]; (try simp (disch := omega) only [wrapI]); (repeat ((with_reducible refine And.intro ?_ ?_); (focus (exact ob1))))
    refine hK _ ?_; clear hK; clear K
    refine awp_seq ?_
    refine awp_seq ?_
    refine awpF_region ?_; intro K hK; simp only [push_cast, seval]; (try simp (disch := omega) only [wrapI]); (repeat ((with_reducible refine And.intro ?_ ?_); (focus (exact ob1)))); refine hK _ ?_; clear hK; clear K
    apply awp_cond; (focus (simp only [push_cast, seval]; rfl))
    · intro h1
      exact absurd h1 (by decide)
    intro h1
    clear h1
    refine awp_skip ?_
    refine awp_seq ?_
    refine awpF_region ?_; intro K hK; simp only [push_cast, seval]
    refine CallK.pd (h17) ?_; simp only [push_cast, seval]; (try simp (disch := omega) only [wrapI]); (repeat ((with_reducible refine And.intro ?_ ?_); (focus (exact ob1))))
    refine hK _ ?_; clear hK; clear K
    refine awp_seq ?_
    refine awpF_region ?_; intro K hK; simp only [push_cast, seval]; (try simp (disch := omega) only [wrapI]); (repeat ((with_reducible refine And.intro ?_ ?_); (focus (exact ob1)))); refine hK _ ?_; clear hK; clear K
    refine awp_seq ?_
    refine awp_seq ?_
    refine awpF_region ?_; intro K hK; simp only [push_cast, seval]; (try simp (disch := omega) only [wrapI]); (repeat ((with_reducible refine And.intro ?_ ?_); (focus (exact ob1)))); refine hK _ ?_; clear hK; clear K
    refine awp_block ?_
    refine awp_loopP (α := Nat) (st := fun i => ⟨[(1, .d (.sl (fs.map encT))), (2, .d (.int .i64 tn)), (7, .ptr 0 0 0), (9, .ptr 1 0 0), (10, .d (.bool true)), (11, .d (.int .i64 i))], [.cells [.d (.int .i64 (staO rs i (cntN fs 0 i)).k), .d (.int .i64 (staO rs i (cntN fs 0 i)).ol), .d (.int .i64 (staO rs i (cntN fs 0 i)).nw), .d (.sl ((staO rs i (cntN fs 0 i)).ps.map encG)), .d (.int .i64 (staO rs i (cntN fs 0 i)).ph), .d (.int .i64 (staO rs i (cntN fs 0 i)).st), .d (.int .i64 (staO rs i (cntN fs 0 i)).gt), .d (.int .i64 (staO rs i (cntN fs 0 i)).bd), .d (.int .i64 (staO rs i (cntN fs 0 i)).al)], .cells [.d (.int .i64 (staO rs i (cntN fs m i)).k), .d (.int .i64 (staO rs i (cntN fs m i)).ol), .d (.int .i64 (staO rs i (cntN fs m i)).nw), .d (.sl ((staO rs i (cntN fs m i)).ps.map encG)), .d (.int .i64 (staO rs i (cntN fs m i)).ph), .d (.int .i64 (staO rs i (cntN fs m i)).st), .d (.int .i64 (staO rs i (cntN fs m i)).gt), .d (.int .i64 (staO rs i (cntN fs m i)).bd), .d (.int .i64 (staO rs i (cntN fs m i)).al)]]⟩) (inv := fun i => i ≤ fs.length ∧ chkS (staO rs i (cntN fs 0 i)) = 0 ∧ chkS (staO rs i (cntN fs m i)) = 0) (μ := fun i => fs.length - i) (x0 := 0) (r0 := [0, 1]) ?_ ?_ ?_
    · exact ⟨Nat.zero_le _, hck, hck⟩
    · rw [show cntN fs 0 0 = 0 from rfl, show cntN fs m 0 = 0 from rfl]
      unfold staO
      exact ⟨by simp, by simp, by simp [push_cast, seval], by simp [push_cast, seval], by simp [push_cast, seval], by simp [push_cast, seval]⟩
    rintro i ⟨hi, hca, hcb⟩
    refine awp_seq ?_
    refine awp_seq ?_
    refine awpF_region ?_; intro K hK; simp only [push_cast, seval]; (try simp (disch := omega) only [wrapI]); (repeat ((with_reducible refine And.intro ?_ ?_); (focus (exact ob1)))); refine hK _ ?_; clear hK; clear K
    apply awp_cond; (focus (simp only [push_cast, seval]; rfl))
    · intro h3; (try simp only [decide_eq_true_eq, decide_eq_false_iff_not, Bool.not_eq_true', Bool.not_eq_false', Bool.and_eq_true, Bool.or_eq_true, Bool.not_eq_true] at h3)
      have hi2 : i < fs.length := by omega
      have hk2 : (i + m) % fs.length < fs.length := Nat.mod_lt _ (by omega)
      have wa : IntKind.i64.wrap ((i : Int) + (m : Int)) = ((i + m : Nat) : Int) := by rw [wrapI _ (by omega)]; omega
      have wb : ((i + m : Nat) : Int).tmod (fs.length : Int) = (((i + m) % fs.length : Nat) : Int) := rfl
      have wc : IntKind.i64.wrap ((((i + m) % fs.length : Nat) : Int)) = (((i + m) % fs.length : Nat) : Int) := wrapI _ (by omega)
      refine awp_skip ?_
      refine awp_seq ?_
      refine awp_block ?_
      refine awp_seq ?_
      refine awpF_region ?_; intro K hK; simp only [push_cast, seval]; (try simp (disch := omega) only [wrapI]); (repeat ((with_reducible refine And.intro ?_ ?_); (focus (exact ob1)))); refine hK _ ?_; clear hK; clear K
      refine awp_seq ?_
      refine awpF_region ?_; intro K hK; simp only [push_cast, seval]
      refine CallK.pd (h23) ?_; simp only [push_cast, seval]; (try simp (disch := omega) only [wrapI]); (repeat ((with_reducible refine And.intro ?_ ?_); (focus (exact ob1))))
      have wt : ((i : Int) + (m : Int)).tmod (fs.length : Int) = (((i + m) % fs.length : Nat) : Int) := by
        rw [← Int.natCast_add]; rfl
      rw [wt]
      clear wt wa wb wc
      refine hK _ ?_; clear hK; clear K
      have w5 : (i : Int).tmod 5 = ((i % 5 : Nat) : Int) := rfl
      have w6 : ((((i + m) % fs.length : Nat)) : Int).tmod 5 = ((((i + m) % fs.length) % 5 : Nat) : Int) := rfl
      have w5b := Nat.mod_lt i (show 5 > 0 by decide)
      have w6b := Nat.mod_lt ((i + m) % fs.length) (show 5 > 0 by decide)
      have w5c : IntKind.i64.wrap ((i % 5 : Nat) : Int) = ((i % 5 : Nat) : Int) := wrapI _ (by omega)
      have w6c : IntKind.i64.wrap ((((i + m) % fs.length) % 5 : Nat) : Int) = ((((i + m) % fs.length) % 5 : Nat) : Int) := wrapI _ (by omega)
      have gfa : (fs.map encT)[i]? = some (encT fs[i]) := by rw [List.getElem?_map, List.getElem?_eq_getElem hi2]; rfl
      have gfb : (fs.map encT)[(i + m) % fs.length]? = some (encT fs[(i + m) % fs.length]) := by rw [List.getElem?_map, List.getElem?_eq_getElem hk2]; rfl
      have ca := cntN_succ fs 0 i
      have cb := cntN_succ fs m i
      rw [show fs.getD ((i + 0) % fs.length) false = fs[i] by rw [Nat.add_zero, Nat.mod_eq_of_lt hi2, List.getD_eq_getElem?_getD, List.getElem?_eq_getElem hi2]; rfl] at ca
      rw [show fs.getD ((i + m) % fs.length) false = fs[(i + m) % fs.length] by rw [List.getD_eq_getElem?_getD, List.getElem?_eq_getElem hk2]; rfl] at cb
      generalize fs[i] = ba at gfa ca
      generalize fs[(i + m) % fs.length] = bb at gfb cb
      have ea := cntS_staO rs i (cntN fs 0 i) ba
      have eb := cntS_staO rs i (cntN fs m i) bb
      rw [← ca] at ea
      rw [← cb] at eb
      generalize cntN fs 0 i = Ca at hca ea ⊢
      generalize cntN fs m i = Cb at hcb eb ⊢
      clear ca cb
      generalize (i + m) % fs.length = kk at hk2 w6 w6b w6c gfb ⊢
      simp only [encT] at gfa gfb
      have h0l : 0 < (planL rs).length := by omega
      have ga : (staO rs i Ca).ps[(staO rs i Ca).st.toNat]?.getD (planL rs)[0] = (planL rs)[0] := by
        show (planL rs)[0]?.getD _ = _
        rw [List.getElem?_eq_getElem h0l]; rfl
      have gb : (staO rs i Cb).ps[(staO rs i Cb).st.toNat]?.getD (planL rs)[0] = (planL rs)[0] := ga
      have h49a := p49 (staO rs i Ca) ((i % 5 : Nat) : Int) ba (planL rs)[0] ga hpn (by show (-9223372036854775808 : Int) ≤ 1; decide) (by show (1 : Int) ≤ 9223372036854775807; decide)
      have h49b := p49 (staO rs i Cb) ((kk % 5 : Nat) : Int) bb (planL rs)[0] gb hpn (by show (-9223372036854775808 : Int) ≤ 1; decide) (by show (1 : Int) ≤ 9223372036854775807; decide)
      have ra : repC (staO rs i Ca) ((i % 5 : Nat) : Int) = 0 := rep_zero hca rfl rfl (by omega) (by show ((i % 5 : Nat) : Int) < 5; omega) (by show (i : Int) < 1099511627776; omega)
      have rb : repC (staO rs i Cb) ((kk % 5 : Nat) : Int) = 0 := rep_zero hcb rfl rfl (by omega) (by show ((kk % 5 : Nat) : Int) < 5; omega) (by show (i : Int) < 1099511627776; omega)
      rw [ra, if_pos rfl] at h49a
      rw [rb, if_pos rfl] at h49b
      have ja := jud_ok (t := 0) hca rfl rfl h0l (by show (i : Int) < 1099511627776; omega) ba
      have jb := jud_ok (t := 0) hcb rfl rfl h0l (by show (i : Int) < 1099511627776; omega) bb
      have sa := fun h1 h2 => (jud_stay (s := staO rs i Ca) (bad := ba) (g := (planL rs)[0]'h0l) h1 h2).trans ea
      have sb := fun h1 h2 => (jud_stay (s := staO rs i Cb) (bad := bb) (g := (planL rs)[0]'h0l) h1 h2).trans eb
      have ja : chkS (judS (cntS (staO rs i Ca) ba) (planL rs)[0]) = 0 := ja
      have jb : chkS (judS (cntS (staO rs i Cb) bb) (planL rs)[0]) = 0 := jb
      generalize judS (cntS (staO rs i Ca) ba) (planL rs)[0] = y at h49a ja sa
      generalize judS (cntS (staO rs i Cb) bb) (planL rs)[0] = z at h49b jb sb
      unfold encS at h49a h49b
      refine awp_seq ?_
      refine awpF_drawT (DT.op 0 (DT.op 1 (DT.op 2 (DT.op 3 (DT.op 4 (DT.op 5 (DT.op 6 (DT.op 7 (DT.op 8 (DT.op 9 (DT.or (DT.op 10 (DT.op 11 (DT.op 12 DT.nil))) (DT.op 11 (DT.op 10 (DT.op 12 DT.nil)))))))))))))) (by kernel_rfl) (by kernel_rfl) (by kernel_rfl) ?_; intro K hK; apply dt_close; (rotate_left; (intro fin; (focus (simp only [push_cast, seval, gfa, w5, w5c, Int.toNat_natCast]; (try simp (disch := omega) only [wrapI]); (repeat' (first | exact fin | (with_reducible refine And.intro ?_ ?_) | (refine CallK.pd (h49a) ?_; simp only [push_cast, seval, gfa, w5, w5c, Int.toNat_natCast]; (try simp (disch := omega) only [wrapI])) | (refine CallK.pg (fun _ => h49a) ?_; simp only [push_cast, seval, gfa, w5, w5c, Int.toNat_natCast]; (try simp (disch := omega) only [wrapI])) | exact ob1)))))); refine hK _ ?_; clear hK; clear K
      refine awp_seq ?_
      refine awpF_drawT (DT.op 0 (DT.op 1 (DT.op 2 (DT.op 3 (DT.op 4 (DT.op 5 (DT.op 6 (DT.op 7 (DT.op 8 (DT.op 9 (DT.or (DT.op 10 (DT.op 11 (DT.op 12 DT.nil))) (DT.op 11 (DT.op 10 (DT.op 12 DT.nil)))))))))))))) (by kernel_rfl) (by kernel_rfl) (by kernel_rfl) ?_; intro K hK; apply dt_close; (rotate_left; (intro fin; (focus (simp only [push_cast, seval, gfb, w6, w6c, Int.toNat_natCast]; (try simp (disch := omega) only [wrapI]); (repeat' (first | exact fin | (with_reducible refine And.intro ?_ ?_) | (refine CallK.pd (h49b) ?_; simp only [push_cast, seval, gfb, w6, w6c, Int.toNat_natCast]; (try simp (disch := omega) only [wrapI])) | (refine CallK.pg (fun _ => h49b) ?_; simp only [push_cast, seval, gfb, w6, w6c, Int.toNat_natCast]; (try simp (disch := omega) only [wrapI])) | exact ob1)))))); refine hK _ ?_; clear hK; clear K
      refine awp_seq ?_
      refine awpF_region ?_; intro K hK; simp only [push_cast, seval, bif_and, beq_self_eq_true, Bool.true_and]
      repeat (refine ⟨fun h => by rw [h]; rfl, ?_⟩)
      refine hK _ ?_; clear hK; clear K
      refine awp_seq ?_
      refine awpF_region ?_; intro K hK; simp only [push_cast, seval]; (try simp (disch := omega) only [wrapI]); (repeat ((with_reducible refine And.intro ?_ ?_); (focus (exact ob1)))); refine hK _ ?_; clear hK; clear K
      apply awp_cond; (focus (simp only [push_cast, seval]; rfl))
      · intro h9
        refine awp_seq ?_
        refine awpF_region ?_; intro K hK; simp only [push_cast, seval]
        refine CallK.pd (h7) ?_; simp only [push_cast, seval]; (try simp (disch := omega) only [wrapI]); (repeat ((with_reducible refine And.intro ?_ ?_); (focus (exact ob1))))
        refine hK _ ?_; clear hK; clear K
        refine awp_ret ?_; (repeat (first | refine then_ret ?_ | refine inblock_ret ?_)); refine fin_of (by simp only [push_cast, seval]; first | done | rfl) ob1 ?_
        rfl
      · intro h9
        rw [Bool.not_eq_false'] at h9
        rw [h9]
        simp only [Bool.and_eq_true, beq_iff_eq] at h9
        have h10 := h9
        obtain rfl := sa h10.1.1.1 h10.1.2
        obtain rfl := sb h10.1.1.2 h10.2
        have wi : IntKind.i64.wrap ((i : Int) + 1) = (i : Int) + 1 := wrapI _ (by omega)
        refine awp_skip ?_
        refine inblock_norm ?_
        refine awpF_region ?_; intro K hK; simp only [push_cast, seval, wi]; (try simp (disch := omega) only [wrapI]); (repeat ((with_reducible refine And.intro ?_ ?_); (focus (exact ob1)))); refine hK _ ?_; clear hK; clear K
        refine round_endG (i + 1) [0, 1] ⟨by omega, ⟨by omega, ja, jb⟩, ?_⟩
        exact ⟨by simp, by simp, by simp [push_cast, seval], by simp [push_cast, seval], by simp [push_cast, seval], by simp [push_cast, seval]⟩
    · intro h3; (try simp only [decide_eq_true_eq, decide_eq_false_iff_not, Bool.not_eq_true', Bool.not_eq_false', Bool.and_eq_true, Bool.or_eq_true, Bool.not_eq_true] at h3)
      refine awp_exit ?_; (repeat (first | refine then_exit ?_ | refine inblock_other (by decide) ?_)); refine inblock_same ?_
      obtain rfl : i = fs.length := by omega
      rw [cntN_full fs (show m < fs.length by omega)]
      generalize cntN fs 0 fs.length = C at hca ⊢
      have h12 := q12 (staO rs fs.length C) (staO rs fs.length C) hpn hpn
      have h9 := q9 (staO rs fs.length C) hpn
      rw [samB_self] at h12
      rw [hca] at h9
      unfold encS at h12 h9
      have vg : (staO rs fs.length C).gt = (fs.length : Int) := rfl
      refine awp_seq ?_
      refine awpF_region ?_; intro K hK; simp only [push_cast, seval]
      refine CallK.pd (h12) ?_; simp only [push_cast, seval]; (try simp (disch := omega) only [wrapI]); (repeat ((with_reducible refine And.intro ?_ ?_); (focus (exact ob1))))
      refine CallK.pg (fun _ => h9) ?_
      simp only [push_cast, seval, beq_self_eq_true, bif_and, vg]
      (repeat ((with_reducible refine And.intro ?_ ?_); (focus (exact ob1))))
      refine CallK.pg (fun _ => h7) ?_
      simp only [push_cast, seval, beq_self_eq_true, bif_and]
      (repeat ((with_reducible refine And.intro ?_ ?_); (focus (exact ob1))))
      refine hK _ ?_; clear hK; clear K
      refine awp_ret ?_; (repeat (first | refine then_ret ?_ | refine inblock_ret ?_)); refine fin_of (by simp only [push_cast, seval]; first | done | rfl) ob1 ?_
      rfl
  · refine pd_of (fn := Tryz.f5) [.tmp 6] (by kernel_rfl) rfl (by kernel_rfl) (Nat.le_of_ble_eq_true rfl) (by kernel_rfl) rfl rfl ?_
    refine awp_seq ?_
    refine awpF_region ?_; intro K hK; simp only [push_cast, seval]; (try simp (disch := omega) only [wrapI]); (repeat ((with_reducible refine And.intro ?_ ?_); (focus (exact ob1)))); refine hK _ ?_; clear hK; clear K
    refine awp_seq ?_
    refine awp_seq ?_
    refine awpF_region ?_; intro K hK; simp only [push_cast, seval, bif_or]
    repeat (refine ⟨fun h => by rw [h]; rfl, ?_⟩)
    refine hK _ ?_; clear hK; clear K
    apply awp_cond; (focus (simp only [push_cast, seval]; rfl))
    · intro h1
      refine awp_seq ?_
      refine awpF_region ?_; intro K hK; simp only [push_cast, seval]
      refine CallK.pd (h7) ?_; simp only [push_cast, seval]; (try simp (disch := omega) only [wrapI]); (repeat ((with_reducible refine And.intro ?_ ?_); (focus (exact ob1))))
      refine hK _ ?_; clear hK; clear K
      refine awp_ret ?_; (repeat (first | refine then_ret ?_ | refine inblock_ret ?_)); refine fin_of (by simp only [push_cast, seval]; first | done | rfl) ob1 ?_
      rfl
    intro h1
    exfalso
    simp only [Bool.or_eq_false_iff, decide_eq_false_iff_not, beq_eq_false_iff_ne, ne_eq] at h1
    omega
theorem fit_bools {x : D} (h : FitA (.sl .bool) x) : ∃ l : List Bool, x = .sl (l.map encT) ∧ l.length ≤ maxLen := by
  obtain ⟨rows, h1, h2, h3⟩ := fits_sl h
  simp at h1
  subst h1
  obtain ⟨l, rfl⟩ := rows_map (f := encT) fun row hr => fits_bool (h3 row hr)
  exact ⟨l, rfl, by simpa using h2⟩
end Go.Aw
