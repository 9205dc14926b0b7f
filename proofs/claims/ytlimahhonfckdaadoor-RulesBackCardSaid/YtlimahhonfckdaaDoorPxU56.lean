/-
  The text of a formula, on the program's side. Conditions: lengths that fit.
-/
import Derived.Test.YtlimahhonfckdaaDoorPxL1
import Derived.Test.YtlimahhonfckdaaDoorRuE
import Derived.Test.YtlimahhonfckdaaDoorPxU50
import Derived.Test.YtlimahhonfckdaaDoorPxU41
namespace Go.Aw
set_option linter.unusedSimpArgs false
set_option linter.unusedVariables false
open Go.RowKit Go.Proofs
set_option maxRecDepth 100000

def vsN (n : Nd) : List Int := if n.op = 2 then [n.l, n.r, n.k] else if n.op = 6 ∨ n.op = 7 ∨ n.op = 8 then [n.lo, n.hi] else []
theorem nodeW_vs (n : Nd) : nodeW n = wordL.getD (n.op.toNat - 1) [] :: (vsN n).map Lib.itoa := by
  unfold nodeW vsN
  split
  · rfl
  · split <;> rfl
def lrN (n : Nd) : List Int := if n.op = 2 then [n.l, n.r, n.k] else [n.lo, n.hi]
theorem lr_take (n : Nd) : (lrN n).take (vsN n).length = vsN n := by
  unfold lrN vsN
  split
  · rfl
  · split <;> rfl
theorem vs_len (n : Nd) : ((vsN n).length : Int) = if n.op = 2 then 3 else if n.op = 6 ∨ n.op = 7 ∨ n.op = 8 then 2 else 0 := by
  unfold vsN
  split
  · rfl
  · split <;> rfl
theorem vs_len3 (n : Nd) : (vsN n).length ≤ (lrN n).length ∧ (lrN n).length ≤ 3 := by
  unfold lrN vsN
  split
  · simp
  · split <;> simp
theorem flatW_take {f : List Nd} {i : Nat} {n : Nd} (h : f[i]? = some n) : (f.take (i + 1)).flatMap nodeW = (f.take i).flatMap nodeW ++ nodeW n := by
  rw [List.take_add_one, h, List.flatMap_append]
  simp
theorem flatW_len : ∀ f : List Nd, (f.flatMap nodeW).length ≤ 4 * f.length
  | [] => by simp
  | n :: f => by
    have := flatW_len f
    have h3 := vs_len3 n
    rw [List.flatMap_cons, List.length_append, nodeW_vs, List.length_cons, List.length_map, List.length_cons]
    omega
theorem itoa_len {v : Int} (h : -9223372036854775808 ≤ v ∧ v ≤ 9223372036854775807) : (Lib.itoa v).length ≤ 21 := by
  unfold Lib.itoa
  split
  · rw [List.length_cons, Lib.decDigits_length]
    have := Lib.nDigits_le20 v.natAbs (by omega)
    omega
  · rw [Lib.decDigits_length]
    have := Lib.nDigits_le20 v.toNat (by omega)
    omega
theorem word_len (i : Nat) : (wordL.getD i []).length ≤ 21 := by
  rw [List.getD_eq_getElem?_getD]
  cases h : wordL[i]? with
  | none => simp
  | some w =>
    have : ∀ w, w ∈ wordL → w.length ≤ 21 := by decide
    simpa using this w (List.mem_of_getElem? h)
def fitN (n : Nd) : Prop := ∀ v, v ∈ vsN n → -9223372036854775808 ≤ v ∧ v ≤ 9223372036854775807
theorem joinW_len : ∀ (ws : List (List UInt8)) (M : Nat), (∀ w, w ∈ ws → w.length ≤ M) → (joinW ws).length ≤ (M + 1) * ws.length
  | [], M, _ => by simp [joinW]
  | [w], M, h => by
    have := h w (by simp)
    simp only [joinW, List.length_cons, List.length_nil]
    omega
  | w :: x :: ws, M, h => by
    have h1 := h w (by simp)
    have ih := joinW_len (x :: ws) M fun y hy => h y (List.mem_cons_of_mem _ hy)
    rw [joinW, List.length_append, List.length_cons, List.length_cons]
    rw [Nat.mul_succ]
    omega
theorem textL_len {f : List Nd} (h : ∀ n, n ∈ f → fitN n) : (textL f).length ≤ 88 * f.length := by
  have h1 := joinW_len (f.flatMap nodeW) 21 fun w hw => by
    obtain ⟨n, hn, hw⟩ := List.mem_flatMap.1 hw
    rw [nodeW_vs] at hw
    rcases List.mem_cons.1 hw with rfl | hw
    · exact word_len _
    · obtain ⟨v, hv, rfl⟩ := List.mem_map.1 hw
      exact itoa_len (h n hn v hv)
  have h2 := flatW_len f
  unfold textL
  have h3 : 22 * (f.flatMap nodeW).length ≤ 22 * (4 * f.length) := Nat.mul_le_mul_left _ h2
  omega
theorem fitN_of {n : Nd} {w : Int} (hw : w ≤ 12) (h : nodeE n w = 0) : fitN n := by
  have hwr := writN_of (n := n) (by
    obtain ⟨op, l, r, k, lo, hi⟩ := n
    unfold nodeE at h ⊢
    split at h
    · cases h
    · rename_i h1
      rw [if_neg h1]
      split at h
      · cases h
      · rename_i h2
        rw [if_neg h2]
        split at h
        · rename_i h3
          have : fairN ⟨op, l, r, k, lo, hi⟩ 12 = true := by
            simp only [fairN] at h3 ⊢
            split
            · rename_i h4
              rw [if_pos h4] at h3
              simp at h3 ⊢
              omega
            · rename_i h4
              rw [if_neg h4] at h3
              exact h3
          rw [if_pos this]
        · cases h)
  obtain ⟨_, _, s1, s2, s3, s4, s5⟩ := hwr
  unfold smallI at s1 s2 s3 s4 s5
  intro v hv
  unfold vsN at hv
  split at hv
  · simp at hv; rcases hv with rfl | rfl | rfl <;> omega
  · split at hv
    · simp at hv; rcases hv with rfl | rfl <;> omega
    · simp at hv
def txV (f : List Nd) (t : Fm) : List UInt8 := if chkE f 12 t = 0 then textL f else []
def wlV : List V := wordL.map fun l => .d (.str (bs l))
theorem wlV_sh (k : Nat) : V.shL k wlV = wlV := rfl
theorem wlV_get {o : Nat} (h : o < 8) : wlV.getD o V.junk = .d (.str (bs (wordL.getD o []))) := by
  have hl : o < wordL.length := h
  rw [wlV, List.getD_eq_getElem?_getD, List.getD_eq_getElem?_getD, List.getElem?_map, List.getElem?_eq_getElem hl]
  rfl
theorem p59' : PD Tryd.prog 59 [] (.agg wlV) := p59
set_option maxHeartbeats 4000000 in
theorem p35 (f : List Nd) (t : Fm) (hf : f.length ≤ 1000000) (ht : shE f 12 = 0 → t.wf ∧ f = t.flat) : PD Tryd.prog 35 [.sl (f.map encNd)] (.tup [.d (.str (bs (txV f t))), .d (.int .i64 (chkE f 12 t))]) := by
  have h16 := p16 f 12 t hf ht
  by_cases hc : chkE f 12 t = 0
  · have e1 : txV f t = textL f := by rw [txV, if_pos hc]
    have hs := chk_sh hc
    obtain ⟨hf40, hno, _⟩ := sh_facts hs
    have hfit : ∀ n, n ∈ f → fitN n := fun n hn => fitN_of (by decide) (firstE_mem hs n hn)
    have htl := textL_len hfit
    have hwl := flatW_len f
    have hjoin := pd_join (f.flatMap nodeW) (by omega) (by have : (joinW (f.flatMap nodeW)).length ≤ 88 * f.length := htl; omega)
    rw [e1]
    rw [hc] at h16 ⊢
    have hq : ∀ row, row ∈ f.map encNd → row.length = 6 := fun row hr => by obtain ⟨_, _, rfl⟩ := List.mem_map.1 hr; rfl
    have h59 := p59'
    refine pd_of (fn := Tryd.f35) [.tmp 2, .tmp 3] (by kernel_rfl) rfl (by kernel_rfl) (Nat.le_of_ble_eq_true rfl) (by kernel_rfl) rfl rfl ?_
    (repeat' (first | refine awp_seq ?_ | refine awp_skip ?_ | refine awp_block ?_ | ((first | ((fail_if_success refine awpF_region (id := 4) ?_); refine awpF_region ?_; intro K hK) | (refine awpF_draw (id := 8) [0,2,3,4,1,5,6,7,8] (by kernel_rfl) (by kernel_rfl) rfl ?_; intro K hK) | refine CallK.pd (h16) ?_ | refine CallK.pg (fun _ => h16) ?_); simp only [push_cast, seval, bne_self_eq_false]; (try simp (disch := omega) only [wrapI]); (repeat ((with_reducible refine And.intro ?_ ?_); (focus (exact ob1))))) | (refine hK _ ?_; clear hK K) | (apply awp_cond; (focus (simp only [push_cast, seval]; rfl))) | (with_reducible intro hb; exfalso; revert hb; simp [bne_self_eq_false]; done) | (with_reducible intro hb; exfalso; (try simp only [decide_eq_true_eq, decide_eq_false_iff_not, Bool.not_eq_true', Bool.not_eq_false', Bool.and_eq_true, Bool.or_eq_true, Bool.not_eq_true] at hb); omega; done) | (with_reducible intro hb; (try simp only [decide_eq_true_eq, decide_eq_false_iff_not, Bool.not_eq_true', Bool.not_eq_false', Bool.and_eq_true, Bool.or_eq_true, Bool.not_eq_true] at hb)) | (refine awp_exit ?_; (repeat (first | refine then_exit ?_ | refine inblock_other (by decide) ?_)); refine inblock_same ?_) | (refine awp_ret ?_; (repeat (first | refine then_ret ?_ | refine inblock_ret ?_ | refine nogoto_ret ?_)); refine fin_of (by simp only [push_cast, seval, bne_self_eq_false]; first | done | rfl) ob1 ?_) | (refine inblock_norm ?_)))
    refine awpF_region ?_; intro K hK; simp only [push_cast, seval]; (try simp (disch := omega) only [wrapI]); (repeat ((with_reducible refine And.intro ?_ ?_); (focus (exact ob1)))); refine hK _ ?_; clear hK K
    refine awp_seq ?_
    refine awp_seq ?_
    refine awpF_region ?_; intro K hK; simp only [push_cast, seval]; (try simp (disch := omega) only [wrapI]); (repeat ((with_reducible refine And.intro ?_ ?_); (focus (exact ob1)))); refine hK _ ?_; clear hK K
    refine awp_virt 5 1 (by simp only [push_cast, seval]) ?_
    refine awp_block ?_
    refine awp_loopP (α := Nat) (st := fun i => ⟨[(5, .ref 0 0 ((f.take i).flatMap nodeW).length), (16, .d (.sl (f.map encNd))), (17, .d (.int .i64 f.length)), (18, .d (.int .i64 i))], [.data 1 (((f.take i).flatMap nodeW).map encS)]⟩)
      (inv := fun i => i ≤ f.length) (μ := fun i => f.length - i) (x0 := 0) (r0 := [0]) (Nat.zero_le _) ?_ ?_
    · simp only [List.take_zero, List.flatMap_nil, List.map_nil, List.length_nil]
      exact ⟨by simp, by simp, by simp [push_cast, seval], by simp [push_cast, seval], by simp [push_cast, seval], by simp [push_cast, seval]⟩
    intro i hi
    refine awp_seq ?_
    refine awpF_region ?_; intro K hK; simp only [push_cast, seval]; (try simp (disch := omega) only [wrapI]); (repeat ((with_reducible refine And.intro ?_ ?_); (focus (exact ob1)))); refine hK _ ?_; clear hK K
    refine awp_seq ?_
    apply awp_cond; (focus (simp only [push_cast, seval]; rfl))
    · intro h1; (try simp only [decide_eq_true_eq, decide_eq_false_iff_not, Bool.not_eq_true', Bool.not_eq_false', Bool.and_eq_true, Bool.or_eq_true, Bool.not_eq_true] at h1)
      have hlt : i < f.length := by omega
      obtain ⟨n, hn⟩ : ∃ n, f[i]? = some n := ⟨_, List.getElem?_eq_getElem hlt⟩
      have hmem := List.mem_of_getElem? hn
      have hok := (hno n hmem).1
      have hfn := hfit n hmem
      have hnw := flatW_take hn
      have hwi := flatW_len (f.take i)
      rw [List.length_take] at hwi
      generalize (f.take i).flatMap nodeW = W at *
      have htW : List.take W.length (W.map encS) = W.map encS := List.take_of_length_le (by simp)
      have hqW : ∀ row, row ∈ W.map encS → row.length = 1 := fun row hr => by obtain ⟨_, _, rfl⟩ := List.mem_map.1 hr; rfl
      obtain ⟨o, ho, ho8⟩ : ∃ o : Nat, n.op = ((o + 1 : Nat) : Int) ∧ o < 8 := ⟨n.op.toNat - 1, by unfold opOk at hok; omega, by unfold opOk at hok; omega⟩
      have h60 := p60 n.op
      rw [← vs_len] at h60
      refine awp_skip ?_
      refine awp_seq ?_
      refine awp_block ?_
      refine awp_seq ?_
      refine awpF_region ?_; intro K hK; simp only [push_cast, seval, hn, encNd, Int.toNat_natCast]; (try simp (disch := omega) only [wrapI]); (repeat ((with_reducible refine And.intro ?_ ?_); (focus (exact ob1)))); refine hK _ ?_; clear hK K
      refine awp_seq ?_
      have hgt : wlV.getD (n.op - 1).toNat V.junk = .d (.str (bs (wordL.getD (n.op.toNat - 1) []))) := by
        have h1 := wlV_get ho8
        have e2 : (n.op - 1).toNat = o := by omega
        have e3 : n.op.toNat - 1 = o := by omega
        rw [e2, e3]
        exact h1
      have hlen8 : wlV.length = 8 := rfl
      have hwr : IntKind.i64.wrap (n.op - 1) = n.op - 1 := wrapI _ (by omega)
      rw [nodeW_vs] at hnw
      generalize wordL.getD (n.op.toNat - 1) [] = w0 at *
      refine awpF_draw [0,2,3,4,1,5,6,7,8] (by kernel_rfl) (by kernel_rfl) rfl ?_; intro K hK; simp only [push_cast, seval, htW]
      (repeat ((with_reducible refine And.intro ?_ ?_); (focus (exact ob1))))
      refine CallK.pd h59 ?_
      simp only [push_cast, seval, wlV_sh, hgt, htW, hlen8, hwr]
      (repeat ((with_reducible refine And.intro ?_ ?_); (focus (exact ob1))))
      refine hK _ ?_; clear hK K
      have hlr := lr_take n
      have hv3 := vs_len3 n
      have hfv : ∀ v, v ∈ vsN n → -9223372036854775808 ≤ v ∧ v ≤ 9223372036854775807 := hfn
      refine awp_seq ?_
      refine awpF_region ?_; intro K hK; simp only [push_cast, seval]; (try simp (disch := omega) only [wrapI]); (repeat ((with_reducible refine And.intro ?_ ?_); (focus (exact ob1)))); refine hK _ ?_; clear hK K
      refine awp_mid (fun u => u = ⟨[(5, .ref 0 0 (W.length + 1)), (7, .ptr 1 0 0), (8, .ref 2 0 (lrN n).length), (16, .d (.sl (f.map encNd))), (17, .d (.int .i64 f.length)), (18, .d (.int .i64 i))],
        [.data 1 ((W ++ [w0]).map encS), .cells [.d (.int .i64 n.op), .d (.int .i64 n.l), .d (.int .i64 n.r), .d (.int .i64 n.k), .d (.int .i64 n.lo), .d (.int .i64 n.hi)], .data 1 ((lrN n).map encI)]⟩) ?_ ?_
      · by_cases h2 : n.op = 2
        · have hb2 : (n.op == 2) = true := by rw [h2]; rfl
          have el : lrN n = [n.l, n.r, n.k] := by rw [lrN, if_pos h2]
          rw [el]
          refine awp_seq ?_
          refine awpF_region ?_; intro K hK; simp only [push_cast, seval, hb2]; (try simp (disch := omega) only [wrapI]); (repeat ((with_reducible refine And.intro ?_ ?_); (focus (exact ob1)))); refine hK _ ?_; clear hK K
          apply awp_cond; (focus (simp only [push_cast, seval]; rfl))
          rotate_left
          · intro h
            cases h
          intro _
          refine awpF_region ?_; intro K hK; simp only [push_cast, seval]; (try simp (disch := omega) only [wrapI]); (repeat ((with_reducible refine And.intro ?_ ?_); (focus (exact ob1)))); refine hK _ ?_; clear hK K
          refine mid_end [0, 1, 4] _ rfl ?_
          simp only [List.map_append, List.map_cons, List.map_nil, encS, encI]
          exact ⟨by simp, by simp, by simp [push_cast, seval], by simp [push_cast, seval], by simp [push_cast, seval], by simp [push_cast, seval]⟩
        · have hb2 : (n.op == 2) = false := beq_eq_false_iff_ne.2 h2
          have el : lrN n = [n.lo, n.hi] := by rw [lrN, if_neg h2]
          rw [el]
          refine awp_seq ?_
          refine awpF_region ?_; intro K hK; simp only [push_cast, seval, hb2]; (try simp (disch := omega) only [wrapI]); (repeat ((with_reducible refine And.intro ?_ ?_); (focus (exact ob1)))); refine hK _ ?_; clear hK K
          apply awp_cond; (focus (simp only [push_cast, seval]; rfl))
          · intro h
            cases h
          intro _
          refine awp_skip ?_
          refine mid_end [0, 1, 3] _ rfl ?_
          simp only [List.map_append, List.map_cons, List.map_nil, encS, encI]
          exact ⟨by simp, by simp, by simp [push_cast, seval], by simp [push_cast, seval], by simp [push_cast, seval], by simp [push_cast, seval]⟩
      rintro _ rfl
      generalize lrN n = lr at *
      generalize vsN n = vs at *
      refine awp_seq ?_
      refine awpF_region ?_; intro K hK; simp only [push_cast, seval]
      (repeat ((with_reducible refine And.intro ?_ ?_); (focus (exact ob1))))
      refine CallK.pd (h60) ?_; simp only [push_cast, seval]; (try simp (disch := omega) only [wrapI]); (repeat ((with_reducible refine And.intro ?_ ?_); (focus (exact ob1))))
      (repeat ((with_reducible refine And.intro ?_ ?_); (focus (exact ob1))))
      refine hK _ ?_; clear hK K
      refine awp_block ?_
      refine awp_loopP (α := Nat) (st := fun j => ⟨[(5, .ref 0 0 (W ++ [w0] ++ (vs.take j).map Lib.itoa).length), (16, .d (.sl (f.map encNd))), (17, .d (.int .i64 f.length)), (18, .d (.int .i64 i)), (49, .ref 1 0 vs.length), (50, .d (.int .i64 vs.length)), (51, .d (.int .i64 j))],
          [.data 1 ((W ++ [w0] ++ (vs.take j).map Lib.itoa).map encS), .data 1 (lr.map encI)]⟩)
        (inv := fun j => j ≤ vs.length) (μ := fun j => vs.length - j) (x0 := 0) (r0 := [0, 2]) (Nat.zero_le _) ?_ ?_
      · simp only [List.take_zero, List.map_nil, List.append_nil, List.length_append, List.length_cons, List.length_nil]
        exact ⟨by simp, by simp, by simp [push_cast, seval], by simp [push_cast, seval], by simp [push_cast, seval], by simp [push_cast, seval]⟩
      intro j hj
      generalize hWj : W ++ [w0] ++ (vs.take j).map Lib.itoa = Wj at *
      have hWl : Wj.length ≤ 1000000 := by
        rw [← hWj, List.length_append, List.length_append, List.length_map, List.length_take]
        simp only [List.length_cons, List.length_nil]
        omega
      have htj : List.take Wj.length (Wj.map encS) = Wj.map encS := List.take_of_length_le (by simp)
      have hqj : ∀ row, row ∈ Wj.map encS → row.length = 1 := fun row hr => by obtain ⟨_, _, rfl⟩ := List.mem_map.1 hr; rfl
      refine awp_seq ?_
      refine awpF_region ?_; intro K hK; simp only [push_cast, seval]; (try simp (disch := omega) only [wrapI]); (repeat ((with_reducible refine And.intro ?_ ?_); (focus (exact ob1)))); refine hK _ ?_; clear hK K
      refine awp_seq ?_
      apply awp_cond; (focus (simp only [push_cast, seval]; rfl))
      · intro h3; (try simp only [decide_eq_true_eq, decide_eq_false_iff_not, Bool.not_eq_true', Bool.not_eq_false', Bool.and_eq_true, Bool.or_eq_true, Bool.not_eq_true] at h3)
        have hjl : j < vs.length := by omega
        obtain ⟨v, hv⟩ : ∃ v, vs[j]? = some v := ⟨_, List.getElem?_eq_getElem hjl⟩
        have hlv : lr[j]? = some v := by
          rw [← hlr, List.getElem?_take_of_lt hjl] at hv
          exact hv
        obtain ⟨hv1, hv2⟩ := hfv v (List.mem_of_getElem? hv)
        have h61 := pd_format v hv1 hv2
        have hWj2 : W ++ [w0] ++ (vs.take (j + 1)).map Lib.itoa = Wj ++ [Lib.itoa v] := by
          rw [List.take_add_one, hv, List.map_append, ← List.append_assoc, hWj]
          rfl
        generalize Lib.itoa v = iv at *
        refine awp_skip ?_
        refine awp_seq ?_
        refine awp_block ?_
        refine awp_seq ?_
        refine awpF_region ?_; intro K hK; simp only [push_cast, seval, hlv, encI, Int.toNat_natCast]; (try simp (disch := omega) only [wrapI]); (repeat ((with_reducible refine And.intro ?_ ?_); (focus (exact ob1)))); refine hK _ ?_; clear hK K
        refine awpF_region ?_; intro K hK; simp only [push_cast, seval]
        refine CallK.pd (h61) ?_; simp only [push_cast, seval]; (try simp (disch := omega) only [wrapI]); (repeat ((with_reducible refine And.intro ?_ ?_); (focus (exact ob1))))
        simp only [push_cast, seval, htj]
        (repeat ((with_reducible refine And.intro ?_ ?_); (focus (exact ob1))))
        refine hK _ ?_; clear hK K
        refine inblock_norm ?_
        refine awpF_region ?_; intro K hK; simp only [push_cast, seval]; (try simp (disch := omega) only [wrapI]); (repeat ((with_reducible refine And.intro ?_ ?_); (focus (exact ob1)))); refine hK _ ?_; clear hK K
        refine round_endG (j + 1) ([0, 1]) ⟨by omega, by omega, ?_⟩
        rw [hWj2]
        simp only [List.map_append, List.map_cons, List.map_nil, encS, List.length_append, List.length_cons, List.length_nil]
        push_cast
        exact ⟨by simp, by simp, by simp [push_cast, seval], by simp [push_cast, seval], by simp [push_cast, seval], by simp [push_cast, seval]⟩
      · intro h3; (try simp only [decide_eq_true_eq, decide_eq_false_iff_not, Bool.not_eq_true', Bool.not_eq_false', Bool.and_eq_true, Bool.or_eq_true, Bool.not_eq_true] at h3)
        obtain rfl : j = vs.length := by omega
        rw [List.take_length] at hWj
        refine awp_exit ?_; (repeat (first | refine then_exit ?_ | refine inblock_other (by decide) ?_)); refine inblock_same ?_
        refine inblock_norm ?_
        refine awpF_region ?_; intro K hK; simp only [push_cast, seval]; (try simp (disch := omega) only [wrapI]); (repeat ((with_reducible refine And.intro ?_ ?_); (focus (exact ob1)))); refine hK _ ?_; clear hK K
        refine round_endG (i + 1) ([0]) ⟨by omega, by omega, ?_⟩
        have e : W ++ w0 :: vs.map Lib.itoa = Wj := by rw [← hWj]; simp
        rw [hnw, e]
        push_cast
        exact ⟨by simp, by simp, by simp [push_cast, seval], by simp [push_cast, seval], by simp [push_cast, seval], by simp [push_cast, seval]⟩
    · intro h1; (try simp only [decide_eq_true_eq, decide_eq_false_iff_not, Bool.not_eq_true', Bool.not_eq_false', Bool.and_eq_true, Bool.or_eq_true, Bool.not_eq_true] at h1)
      obtain rfl : i = f.length := by omega
      rw [List.take_length]
      have htW : List.take (f.flatMap nodeW).length ((f.flatMap nodeW).map encS) = (f.flatMap nodeW).map encS := List.take_of_length_le (by simp)
      have e32 : (⟨#[32]⟩ : ByteArray) = bs [32] := rfl
      have et : bs (textL f) = bs (joinW (f.flatMap nodeW)) := rfl
      rw [et]
      generalize joinW (f.flatMap nodeW) = J at *
      generalize f.flatMap nodeW = W at *
      refine awp_exit ?_; (repeat (first | refine then_exit ?_ | refine inblock_other (by decide) ?_)); refine inblock_same ?_
      refine awp_fz (.ref 0 0 W.length) ?_
      simp only [push_cast, seval, St.fz, St.frz, htW]
      refine awp_seq ?_
      refine awpF_region ?_; intro K hK; simp only [push_cast, seval, e32]
      refine CallK.pd (hjoin) ?_; simp only [push_cast, seval]; (try simp (disch := omega) only [wrapI]); (repeat ((with_reducible refine And.intro ?_ ?_); (focus (exact ob1))))
      (repeat ((with_reducible refine And.intro ?_ ?_); (focus (exact ob1))))
      refine hK _ ?_; clear hK K
      refine awp_ret ?_; (repeat (first | refine then_ret ?_ | refine inblock_ret ?_ | refine nogoto_ret ?_)); refine fin_of (by simp only [push_cast, seval]; first | done | rfl) ob1 ?_
      rfl
  · have e1 : txV f t = [] := by rw [txV, if_neg hc]
    have hb1 : (chkE f 12 t != 0) = true := by simpa using hc
    rw [e1]
    generalize chkE f 12 t = e at *
    refine pd_of (fn := Tryd.f35) [.tmp 2, .tmp 3] (by kernel_rfl) rfl (by kernel_rfl) (Nat.le_of_ble_eq_true rfl) (by kernel_rfl) rfl rfl ?_
    (repeat' (first | refine awp_seq ?_ | refine awp_skip ?_ | refine awp_block ?_ | ((first | (refine awpF_region ?_; intro K hK) | (refine awpF_draw (id := 8) [0,2,3,4,1,5,6,7,8] (by kernel_rfl) (by kernel_rfl) rfl ?_; intro K hK) | refine CallK.pd (h16) ?_ | refine CallK.pg (fun _ => h16) ?_); simp only [push_cast, seval, hb1]; (try simp (disch := omega) only [wrapI]); (repeat ((with_reducible refine And.intro ?_ ?_); (focus (exact ob1))))) | (refine hK _ ?_; clear hK K) | (apply awp_cond; (focus (simp only [push_cast, seval]; rfl))) | (with_reducible intro hb; exfalso; revert hb; simp [hb1]; done) | (with_reducible intro hb; exfalso; (try simp only [decide_eq_true_eq, decide_eq_false_iff_not, Bool.not_eq_true', Bool.not_eq_false', Bool.and_eq_true, Bool.or_eq_true, Bool.not_eq_true] at hb); omega; done) | (with_reducible intro hb; (try simp only [decide_eq_true_eq, decide_eq_false_iff_not, Bool.not_eq_true', Bool.not_eq_false', Bool.and_eq_true, Bool.or_eq_true, Bool.not_eq_true] at hb)) | (refine awp_exit ?_; (repeat (first | refine then_exit ?_ | refine inblock_other (by decide) ?_)); refine inblock_same ?_) | (refine awp_ret ?_; (repeat (first | refine then_ret ?_ | refine inblock_ret ?_ | refine nogoto_ret ?_)); refine fin_of (by simp only [push_cast, seval, hb1]; first | done | rfl) ob1 ?_) | (refine inblock_norm ?_)))
    rfl
end Go.Aw
