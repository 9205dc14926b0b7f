/-
  The text of a formula, on the reference's side. Conditions: lengths that fit.
-/
import Derived.Test.YtlimahhonfckdaaDoorPxU56
namespace Go.Aw
set_option linter.unusedSimpArgs false
set_option linter.unusedVariables false
open Go.RowKit Go.Proofs
set_option maxRecDepth 100000

theorem joinW_app : ∀ (xs ys : List (List UInt8)), xs ≠ [] → ys ≠ [] → joinW (xs ++ ys) = joinW xs ++ 32 :: joinW ys
  | [], _, h, _ => absurd rfl h
  | [w], [], _, h => absurd rfl h
  | [w], y :: ys, _, _ => rfl
  | w :: x :: xs, ys, _, h => by
    have ih := joinW_app (x :: xs) ys (by simp) h
    rw [List.cons_append] at ih
    rw [List.cons_append, List.cons_append, joinW, ih, joinW, List.append_assoc, List.cons_append]
theorem nodeW_ne (n : Nd) : nodeW n ≠ [] := by simp [nodeW]
theorem textL_step {f : List Nd} {i : Nat} {n : Nd} (h : f[i]? = some n) : textL (f.take (i + 1)) = (if i = 0 then [] else textL (f.take i) ++ [32]) ++ joinW (nodeW n) := by
  have hlt : i < f.length := (List.getElem?_eq_some_iff.1 h).1
  unfold textL
  rw [flatW_take h]
  by_cases h0 : i = 0
  · subst h0
    simp
  · rw [if_neg h0, joinW_app _ _ (flatW_ne (by
      intro h2
      have := congrArg List.length h2
      rw [List.length_take, List.length_nil] at this
      omega)) (nodeW_ne n)]
    simp
theorem wordsR_get {o : Nat} (h : o < 8) : wordsR[o]? = some [.str (bs (wordL.getD o []))] := by
  have hl : o < wordL.length := h
  rw [wordsR, List.getElem?_map, List.getD_eq_getElem?_getD, List.getElem?_eq_getElem hl]
  rfl
set_option maxHeartbeats 8000000 in
theorem p36 (f : List Nd) (t : Fm) (hf : f.length ≤ 1000000) (ht : shE f 12 = 0 → t.wf ∧ f = t.flat) : PD Tryd.prog 36 [.sl (f.map encNd)] (.tup [.d (.str (bs (txV f t))), .d (.int .i64 (chkE f 12 t))]) := by
  have h17 := p17 f 12 t hf ht
  by_cases hc : chkE f 12 t = 0
  · have e1 : txV f t = textL f := by rw [txV, if_pos hc]
    have hs := chk_sh hc
    obtain ⟨hf40, hno, _⟩ := sh_facts hs
    have hfit : ∀ n, n ∈ f → nodeE n 12 = 0 := fun n hn => firstE_mem hs n hn
    rw [e1]
    rw [hc] at h17 ⊢
    have hq : ∀ row, row ∈ f.map encNd → row.length = 6 := fun row hr => by obtain ⟨_, _, rfl⟩ := List.mem_map.1 hr; rfl
    have h63 := p63
    have e0 : (⟨#[]⟩ : ByteArray) = bs [] := rfl
    have e32 : (⟨#[32]⟩ : ByteArray) = bs [32] := rfl
    refine pd_of (fn := Tryd.f36) [.tmp 2, .tmp 3] (by kernel_rfl) rfl (by kernel_rfl) (Nat.le_of_ble_eq_true rfl) (by kernel_rfl) rfl rfl ?_
    (repeat' (first | refine awp_seq ?_ | refine awp_skip ?_ | refine awp_block ?_ | ((first | ((fail_if_success refine awpF_region (id := 4) ?_); refine awpF_region ?_; intro K hK) | (refine awpF_draw (id := 11) [0,2,3,4,1,5,6,7,8] (by kernel_rfl) (by kernel_rfl) rfl ?_; intro K hK) | (refine awpF_draw (id := 14) [0,1,2,3,7,8,12,13,4,5,6,9,10,11,14,15,16] (by kernel_rfl) (by kernel_rfl) rfl ?_; intro K hK) | (refine awpF_draw (id := 18) [0,1,2,3,7,8,4,5,6,9,10,11] (by kernel_rfl) (by kernel_rfl) rfl ?_; intro K hK) | refine CallK.pd (h17) ?_ | refine CallK.pg (fun _ => h17) ?_); simp only [push_cast, seval, bne_self_eq_false]; (try simp (disch := omega) only [wrapI]); (repeat ((with_reducible refine And.intro ?_ ?_); (focus (exact ob1))))) | (refine hK _ ?_; clear hK K) | (apply awp_cond; (focus (simp only [push_cast, seval]; rfl))) | (with_reducible intro hb; exfalso; revert hb; simp [bne_self_eq_false]; done) | (with_reducible intro hb; exfalso; (try simp only [decide_eq_true_eq, decide_eq_false_iff_not, Bool.not_eq_true', Bool.not_eq_false', Bool.and_eq_true, Bool.or_eq_true, Bool.not_eq_true] at hb); omega; done) | (with_reducible intro hb; (try simp only [decide_eq_true_eq, decide_eq_false_iff_not, Bool.not_eq_true', Bool.not_eq_false', Bool.and_eq_true, Bool.or_eq_true, Bool.not_eq_true] at hb)) | (refine awp_exit ?_; (repeat (first | refine then_exit ?_ | refine inblock_other (by decide) ?_)); refine inblock_same ?_) | (refine awp_ret ?_; (repeat (first | refine then_ret ?_ | refine inblock_ret ?_ | refine nogoto_ret ?_)); refine fin_of (by simp only [push_cast, seval, bne_self_eq_false]; first | done | rfl) ob1 ?_) | (refine inblock_norm ?_)))
    refine awpF_region ?_; intro K hK; simp only [push_cast, seval, e0]; (try simp (disch := omega) only [wrapI]); (repeat ((with_reducible refine And.intro ?_ ?_); (focus (exact ob1)))); refine hK _ ?_; clear hK K
    refine awp_seq ?_
    refine awp_seq ?_
    refine awpF_region ?_; intro K hK; simp only [push_cast, seval]; (try simp (disch := omega) only [wrapI]); (repeat ((with_reducible refine And.intro ?_ ?_); (focus (exact ob1)))); refine hK _ ?_; clear hK K
    refine awp_block ?_
    refine awp_loopP (α := Nat) (st := fun i => ⟨[(0, .d (.sl (f.map encNd))), (5, .d (.str (bs (textL (f.take i))))), (6, .d (.int .i64 i))], []⟩)
      (inv := fun i => i ≤ f.length) (μ := fun i => f.length - i) (x0 := 0) (r0 := []) (Nat.zero_le _) ?_ ?_
    · have e : textL (f.take 0) = [] := rfl
      simp only [e]
      exact ⟨by simp, by simp, by simp [push_cast, seval], by simp [push_cast, seval], by simp [push_cast, seval], by simp [push_cast, seval]⟩
    intro i hi
    refine awp_seq ?_
    refine awp_seq ?_
    refine awpF_region ?_; intro K hK; simp only [push_cast, seval]; (try simp (disch := omega) only [wrapI]); (repeat ((with_reducible refine And.intro ?_ ?_); (focus (exact ob1)))); refine hK _ ?_; clear hK K
    apply awp_cond; (focus (simp only [push_cast, seval]; rfl))
    · intro h1; (try simp only [decide_eq_true_eq, decide_eq_false_iff_not, Bool.not_eq_true', Bool.not_eq_false', Bool.and_eq_true, Bool.or_eq_true, Bool.not_eq_true] at h1)
      have hlt : i < f.length := by omega
      obtain ⟨n, hn⟩ : ∃ n, f[i]? = some n := ⟨_, List.getElem?_eq_getElem hlt⟩
      have hmem := List.mem_of_getElem? hn
      have hok := (hno n hmem).1
      have hw := writN_of (hfit n hmem)
      have hst := textL_step hn
      have htl : (textL (f.take i)).length ≤ 88 * 40 := by
        have h2 := textL_len (f := f.take i) fun m hm => fitN_of (n := m) (w := 12) (by decide) (hfit m (List.mem_of_mem_take hm))
        have h3 : (f.take i).length ≤ 40 := by rw [List.length_take]; omega
        omega
      have hT0 : i = 0 → textL (f.take i) = [] := by rintro rfl; rfl
      generalize textL (f.take i) = T0 at *
      rw [nodeW_vs] at hst
      obtain ⟨o, ho, ho8⟩ : ∃ o : Nat, n.op = ((o + 1 : Nat) : Int) ∧ o < 8 := ⟨n.op.toNat - 1, by unfold opOk at hok; omega, by unfold opOk at hok; omega⟩
      obtain ⟨op, l, r, k, lo, hi'⟩ := n
      dsimp only at ho
      subst ho
      obtain ⟨_, _, s1, s2, s3, s4, s5⟩ := hw
      unfold smallI at s1 s2 s3 s4 s5
      dsimp only at s1 s2 s3 s4 s5
      have a1 := p64 l (by omega) (by omega)
      have a2 := p64 r (by omega) (by omega)
      have a3 := p64 k (by omega) (by omega)
      have a4 := p64 lo (by omega) (by omega)
      have a5 := p64 hi' (by omega) (by omega)
      have l1 := itoa_len (v := l) (by omega)
      have l2 := itoa_len (v := r) (by omega)
      have l3 := itoa_len (v := k) (by omega)
      have l4 := itoa_len (v := lo) (by omega)
      have l5 := itoa_len (v := hi') (by omega)
      have hwg := wordsR_get ho8
      have hwl := word_len o
      have eo : (((o + 1 : Nat) : Int)).toNat - 1 = o := by omega
      simp only [eo] at hst
      have hqw : ∀ row, row ∈ wordsR → row.length = 1 := by
        intro row hr
        obtain ⟨_, _, rfl⟩ := List.mem_map.1 hr
        rfl
      have hwrl : wordsR.length = 8 := rfl
      generalize wordsR = WR at *
      generalize wordL.getD o [] = w0 at *
      have fin : ∀ (x : List UInt8) (u : St), textL (f.take (i + 1)) = x → Ren [] [] ⟨[(0, .d (.sl (f.map encNd))), (5, .d (.str (bs x))), (6, .d (.int .i64 ((i + 1 : Nat) : Int)))], []⟩ u → Ren [] [] ⟨[(0, .d (.sl (f.map encNd))), (5, .d (.str (bs (textL (f.take (i + 1)))))), (6, .d (.int .i64 ((i + 1 : Nat) : Int)))], []⟩ u := fun x u e h => by rw [e]; exact h
      refine awp_skip ?_
      refine awp_seq ?_
      by_cases h0 : i = 0
      · have hd : decide ((i : Int) > 0) = false := decide_eq_false (by omega)
        rw [if_pos h0] at hst
        have hT0 := hT0 h0
        subst hT0
        rcases show o = 0 ∨ o = 1 ∨ o = 2 ∨ o = 3 ∨ o = 4 ∨ o = 5 ∨ o = 6 ∨ o = 7 by omega with rfl | rfl | rfl | rfl | rfl | rfl | rfl | rfl
        all_goals
          simp [vsN, joinW] at hst
          (repeat' (first | refine awp_seq ?_ | refine awp_skip ?_ | refine awp_block ?_ | ((first | (refine awpF_region ?_; intro K hK) | (refine awpF_draw (id := 11) [0,2,3,4,1,5,6,7,8] (by kernel_rfl) (by kernel_rfl) rfl ?_; intro K hK) | (refine awpF_draw (id := 14) [0,1,2,3,7,8,12,13,4,5,6,9,10,11,14,15,16] (by kernel_rfl) (by kernel_rfl) rfl ?_; intro K hK) | (refine awpF_draw (id := 18) [0,1,2,3,7,8,4,5,6,9,10,11] (by kernel_rfl) (by kernel_rfl) rfl ?_; intro K hK) | refine CallK.pd (h63) ?_ | refine CallK.pg (fun _ => h63) ?_ | refine CallK.pd (a1) ?_ | refine CallK.pg (fun _ => a1) ?_ | refine CallK.pd (a2) ?_ | refine CallK.pg (fun _ => a2) ?_ | refine CallK.pd (a3) ?_ | refine CallK.pg (fun _ => a3) ?_ | refine CallK.pd (a4) ?_ | refine CallK.pg (fun _ => a4) ?_ | refine CallK.pd (a5) ?_ | refine CallK.pg (fun _ => a5) ?_); simp only [push_cast, seval, hd, hn, hwg, encNd, Int.toNat_natCast, e32, bs_app, bs_size, hwrl, List.length_append, List.length_cons, List.length_nil]; (try simp (disch := omega) only [wrapI]); (repeat ((with_reducible refine And.intro ?_ ?_); (focus (exact ob1))))) | (refine hK _ ?_; clear hK K) | (apply awp_cond; (focus (simp only [push_cast, seval]; rfl))) | (with_reducible intro hb; exfalso; revert hb; simp [hd, hn, hwg, encNd, Int.toNat_natCast, e32, bs_app, bs_size, hwrl, List.length_append, List.length_cons, List.length_nil]; done) | (with_reducible intro hb; exfalso; (try simp only [decide_eq_true_eq, decide_eq_false_iff_not, Bool.not_eq_true', Bool.not_eq_false', Bool.and_eq_true, Bool.or_eq_true, Bool.not_eq_true] at hb); omega; done) | (with_reducible intro hb; (try simp only [decide_eq_true_eq, decide_eq_false_iff_not, Bool.not_eq_true', Bool.not_eq_false', Bool.and_eq_true, Bool.or_eq_true, Bool.not_eq_true] at hb)) | (refine awp_exit ?_; (repeat (first | refine then_exit ?_ | refine inblock_other (by decide) ?_)); refine inblock_same ?_) | (refine awp_ret ?_; (repeat (first | refine then_ret ?_ | refine inblock_ret ?_ | refine nogoto_ret ?_)); refine fin_of (by simp only [push_cast, seval, hd, hn, hwg, encNd, Int.toNat_natCast, e32, bs_app, bs_size, hwrl, List.length_append, List.length_cons, List.length_nil]; first | done | rfl) ob1 ?_) | (refine inblock_norm ?_)))
          refine round_endG (i + 1) [] ⟨by omega, by omega, ?_⟩
          refine fin _ _ hst ?_
          try simp only [List.append_assoc, List.cons_append, List.nil_append, List.append_nil]
          push_cast
          exact ⟨by simp, by simp, by simp [push_cast, seval], by simp [push_cast, seval], by simp [push_cast, seval], by simp [push_cast, seval]⟩
      · have hd : decide ((i : Int) > 0) = true := decide_eq_true (by omega)
        rw [if_neg h0] at hst
        rcases show o = 0 ∨ o = 1 ∨ o = 2 ∨ o = 3 ∨ o = 4 ∨ o = 5 ∨ o = 6 ∨ o = 7 by omega with rfl | rfl | rfl | rfl | rfl | rfl | rfl | rfl
        all_goals
          simp [vsN, joinW] at hst
          (repeat' (first | refine awp_seq ?_ | refine awp_skip ?_ | refine awp_block ?_ | ((first | (refine awpF_region ?_; intro K hK) | (refine awpF_draw (id := 11) [0,2,3,4,1,5,6,7,8] (by kernel_rfl) (by kernel_rfl) rfl ?_; intro K hK) | (refine awpF_draw (id := 14) [0,1,2,3,7,8,12,13,4,5,6,9,10,11,14,15,16] (by kernel_rfl) (by kernel_rfl) rfl ?_; intro K hK) | (refine awpF_draw (id := 18) [0,1,2,3,7,8,4,5,6,9,10,11] (by kernel_rfl) (by kernel_rfl) rfl ?_; intro K hK) | refine CallK.pd (h63) ?_ | refine CallK.pg (fun _ => h63) ?_ | refine CallK.pd (a1) ?_ | refine CallK.pg (fun _ => a1) ?_ | refine CallK.pd (a2) ?_ | refine CallK.pg (fun _ => a2) ?_ | refine CallK.pd (a3) ?_ | refine CallK.pg (fun _ => a3) ?_ | refine CallK.pd (a4) ?_ | refine CallK.pg (fun _ => a4) ?_ | refine CallK.pd (a5) ?_ | refine CallK.pg (fun _ => a5) ?_); simp only [push_cast, seval, hd, hn, hwg, encNd, Int.toNat_natCast, e32, bs_app, bs_size, hwrl, List.length_append, List.length_cons, List.length_nil]; (try simp (disch := omega) only [wrapI]); (repeat ((with_reducible refine And.intro ?_ ?_); (focus (exact ob1))))) | (refine hK _ ?_; clear hK K) | (apply awp_cond; (focus (simp only [push_cast, seval]; rfl))) | (with_reducible intro hb; exfalso; revert hb; simp [hd, hn, hwg, encNd, Int.toNat_natCast, e32, bs_app, bs_size, hwrl, List.length_append, List.length_cons, List.length_nil]; done) | (with_reducible intro hb; exfalso; (try simp only [decide_eq_true_eq, decide_eq_false_iff_not, Bool.not_eq_true', Bool.not_eq_false', Bool.and_eq_true, Bool.or_eq_true, Bool.not_eq_true] at hb); omega; done) | (with_reducible intro hb; (try simp only [decide_eq_true_eq, decide_eq_false_iff_not, Bool.not_eq_true', Bool.not_eq_false', Bool.and_eq_true, Bool.or_eq_true, Bool.not_eq_true] at hb)) | (refine awp_exit ?_; (repeat (first | refine then_exit ?_ | refine inblock_other (by decide) ?_)); refine inblock_same ?_) | (refine awp_ret ?_; (repeat (first | refine then_ret ?_ | refine inblock_ret ?_ | refine nogoto_ret ?_)); refine fin_of (by simp only [push_cast, seval, hd, hn, hwg, encNd, Int.toNat_natCast, e32, bs_app, bs_size, hwrl, List.length_append, List.length_cons, List.length_nil]; first | done | rfl) ob1 ?_) | (refine inblock_norm ?_)))
          refine round_endG (i + 1) [] ⟨by omega, by omega, ?_⟩
          refine fin _ _ hst ?_
          try simp only [List.append_assoc, List.cons_append, List.nil_append, List.append_nil]
          push_cast
          exact ⟨by simp, by simp, by simp [push_cast, seval], by simp [push_cast, seval], by simp [push_cast, seval], by simp [push_cast, seval]⟩
    · intro h1; (try simp only [decide_eq_true_eq, decide_eq_false_iff_not, Bool.not_eq_true', Bool.not_eq_false', Bool.and_eq_true, Bool.or_eq_true, Bool.not_eq_true] at h1)
      obtain rfl : i = f.length := by omega
      rw [List.take_length]
      refine awp_exit ?_; (repeat (first | refine then_exit ?_ | refine inblock_other (by decide) ?_)); refine inblock_same ?_
      refine awp_seq ?_
      refine awpF_region ?_; intro K hK; simp only [push_cast, seval]; (try simp (disch := omega) only [wrapI]); (repeat ((with_reducible refine And.intro ?_ ?_); (focus (exact ob1)))); refine hK _ ?_; clear hK K
      refine awp_ret ?_; (repeat (first | refine then_ret ?_ | refine inblock_ret ?_ | refine nogoto_ret ?_)); refine fin_of (by simp only [push_cast, seval]; first | done | rfl) ob1 ?_
      rfl
  · have e1 : txV f t = [] := by rw [txV, if_neg hc]
    have hb1 : (chkE f 12 t != 0) = true := by simpa using hc
    rw [e1]
    generalize chkE f 12 t = e at *
    refine pd_of (fn := Tryd.f36) [.tmp 2, .tmp 3] (by kernel_rfl) rfl (by kernel_rfl) (Nat.le_of_ble_eq_true rfl) (by kernel_rfl) rfl rfl ?_
    (repeat' (first | refine awp_seq ?_ | refine awp_skip ?_ | refine awp_block ?_ | ((first | (refine awpF_region ?_; intro K hK) | (refine awpF_draw (id := 11) [0,2,3,4,1,5,6,7,8] (by kernel_rfl) (by kernel_rfl) rfl ?_; intro K hK) | (refine awpF_draw (id := 14) [0,1,2,3,7,8,12,13,4,5,6,9,10,11,14,15,16] (by kernel_rfl) (by kernel_rfl) rfl ?_; intro K hK) | (refine awpF_draw (id := 18) [0,1,2,3,7,8,4,5,6,9,10,11] (by kernel_rfl) (by kernel_rfl) rfl ?_; intro K hK) | refine CallK.pd (h17) ?_ | refine CallK.pg (fun _ => h17) ?_); simp only [push_cast, seval, hb1]; (try simp (disch := omega) only [wrapI]); (repeat ((with_reducible refine And.intro ?_ ?_); (focus (exact ob1))))) | (refine hK _ ?_; clear hK K) | (apply awp_cond; (focus (simp only [push_cast, seval]; rfl))) | (with_reducible intro hb; exfalso; revert hb; simp [hb1]; done) | (with_reducible intro hb; exfalso; (try simp only [decide_eq_true_eq, decide_eq_false_iff_not, Bool.not_eq_true', Bool.not_eq_false', Bool.and_eq_true, Bool.or_eq_true, Bool.not_eq_true] at hb); omega; done) | (with_reducible intro hb; (try simp only [decide_eq_true_eq, decide_eq_false_iff_not, Bool.not_eq_true', Bool.not_eq_false', Bool.and_eq_true, Bool.or_eq_true, Bool.not_eq_true] at hb)) | (refine awp_exit ?_; (repeat (first | refine then_exit ?_ | refine inblock_other (by decide) ?_)); refine inblock_same ?_) | (refine awp_ret ?_; (repeat (first | refine then_ret ?_ | refine inblock_ret ?_ | refine nogoto_ret ?_)); refine fin_of (by simp only [push_cast, seval, hb1]; first | done | rfl) ob1 ?_) | (refine inblock_norm ?_)))
    rfl
end Go.Aw
