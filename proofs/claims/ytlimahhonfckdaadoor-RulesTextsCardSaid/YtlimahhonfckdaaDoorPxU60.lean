/-
  A text that is read by the reference. Conditions: lengths that fit.
-/
import Derived.Test.YtlimahhonfckdaaDoorPxU59
import Derived.Test.YtlimahhonfckdaaDoorPxU57
import Derived.Test.YtlimahhonfckdaaDoorPxU58
namespace Go.Aw
set_option linter.unusedSimpArgs false
set_option linter.unusedVariables false
open Go.RowKit Go.Proofs
set_option maxRecDepth 100000

def pw (ws : List (List UInt8)) : Option (List Nd) := parseW (ws.length + 1) ws
theorem pw_fuel {ws : List (List UInt8)} {k : Nat} (h : ws.length < k) : parseW k ws = pw ws := by
  obtain ⟨j, rfl⟩ : ∃ j, k = ws.length + 1 + j := ⟨k - (ws.length + 1), by omega⟩
  exact parseW_any (Nat.lt_succ_self _) j
theorem pw_cons (w : List UInt8) (ws : List (List UInt8)) : pw (w :: ws) = match wordIx w with
    | none => none
    | some i => match rdW (numsN (i + 1)) ws with
      | none => none
      | some r => (pw r.2).map (mkNd (i + 1) r.1 :: ·) := by
  rw [pw, List.length_cons, parseW]
  cases wordIx w with
  | none => rfl
  | some i =>
    dsimp only
    cases hr : rdW (numsN (i + 1)) ws with
    | none => rfl
    | some r =>
      dsimp only
      obtain ⟨_, h2, _⟩ := rdW_len _ _ _ hr
      rw [pw_fuel (by rw [h2, List.length_drop]; omega)]
theorem split_len : ∀ t : List UInt8, (splitW t).length ≤ t.length + 1
  | [] => by simp [splitW]
  | b :: l => by
    have ih := split_len l
    simp only [splitW]
    split
    · simp; omega
    · cases hq : splitW l with
      | nil => simp
      | cons w ws => rw [hq] at ih; simp at ih ⊢; omega
theorem split_mem : ∀ (t w : List UInt8), w ∈ splitW t → w.length ≤ t.length
  | [], w, h => by simp [splitW] at h; simp [h]
  | b :: l, w, h => by
    have ih := split_mem l
    simp only [splitW] at h
    split at h
    · rcases List.mem_cons.1 h with rfl | h
      · simp
      · have := ih w h; simp; omega
    · cases hq : splitW l with
      | nil => rw [hq] at h; simp at h; simp [h]
      | cons x ws =>
        rw [hq] at h ih
        rcases List.mem_cons.1 h with rfl | h
        · have := ih x (by simp); simp; omega
        · have := ih w (by simp [h]); simp; omega
theorem parseL_pw (l : List UInt8) : parseL l = pw (splitW l) := by
  rw [parseL_W]
  exact pw_fuel (by have := split_len l; omega)
def opJ (w : List UInt8) (k : Nat) : Int := match (wordL.take k).findIdx? (· == w) with
  | some j => (j : Int) + 1
  | none => 0
theorem opJ_step {w : List UInt8} {k : Nat} (h : k < 8) : opJ w (k + 1) = if wordL.getD k [] = w then (k : Int) + 1 else opJ w k := by
  have hl : k < wordL.length := h
  have hg : wordL[k]? = some (wordL.getD k []) := by rw [List.getD_eq_getElem?_getD, List.getElem?_eq_getElem hl]; rfl
  by_cases hw : wordL.getD k [] = w
  · rw [if_pos hw, ← hw]
    have : ∀ k : _root_.Fin 8, opJ (wordL.getD k.val []) (k.val + 1) = (k.val : Int) + 1 := by decide
    exact this ⟨k, h⟩
  · rw [if_neg hw]
    unfold opJ
    rw [List.take_add_one, hg, Option.toList_some, List.findIdx?_append]
    have : List.findIdx? (fun x => x == w) [wordL.getD k []] = none := by
      rw [List.findIdx?_eq_none_iff]
      intro x hx
      rw [List.mem_singleton] at hx
      subst hx
      exact beq_eq_false_iff_ne.2 hw
    rw [this]
    cases (wordL.take k).findIdx? (fun x => x == w) <;> rfl
theorem opJ_all (w : List UInt8) : opJ w 8 = match wordIx w with
    | some j => (j : Int) + 1
    | none => 0 := rfl
theorem rdW_step {n : Nat} {w : List UInt8} {ws : List (List UInt8)} : rdW (n + 1) (w :: ws) = match numO w with
    | none => none
    | some v => (rdW n ws).map fun r => (v :: r.1, r.2) := rfl
def nodeC (n : Nd) : List V := [.d (.int .i64 n.op), .d (.int .i64 n.l), .d (.int .i64 n.r), .d (.int .i64 n.k), .d (.int .i64 n.lo), .d (.int .i64 n.hi)]
def threeC (vs : List Int) : List V := [.d (.int .i64 (vs.getD 0 0)), .d (.int .i64 (vs.getD 1 0)), .d (.int .i64 (vs.getD 2 0))]
set_option maxHeartbeats 8000000 in
theorem p38 (l : List UInt8) (t : Fm) (hl : l.length ≤ 100000) (ht : ∀ f, parseL l = some f → shE f 12 = 0 → t.wf ∧ f = t.flat) :
    PD Tryd.prog 38 [.str (bs l)] (.tup [.d (.sl ((prsV l t).1.map encNd)), .d (.int .i64 (prsV l t).2)]) := by
  have h67 := p67 l hl
  have hpl := parseL_pw l
  have hsl := split_len l
  have hwd : ∀ w, w ∈ splitW l → w.length ≤ 1000000 := fun w h => by have := split_mem l w h; omega
  generalize splitW l = ws at *
  have h63 := p63
  have hqw : ∀ row, row ∈ wordsR → row.length = 1 := by
    intro row hr
    obtain ⟨_, _, rfl⟩ := List.mem_map.1 hr
    rfl
  have hwrl : wordsR.length = 8 := rfl
  have hq : ∀ row, row ∈ ws.map encS → row.length = 1 := fun row hr => by obtain ⟨_, _, rfl⟩ := List.mem_map.1 hr; rfl
  have hnone := fun (H : List Blk) (h : parseL l = none) => prs_none h t H
  refine pdv_of (fn := Tryd.f38) [.tmp 2, .tmp 3] (by kernel_rfl) rfl (by kernel_rfl) (Nat.le_of_ble_eq_true rfl) (by kernel_rfl) rfl ?_
  refine awp_seq ?_
  refine awpF_region ?_; intro K hK; simp only [push_cast, seval]; (try simp (disch := omega) only [wrapI]); (repeat ((with_reducible refine And.intro ?_ ?_); (focus (exact ob1)))); refine hK _ ?_; clear hK K
  refine awp_seq ?_
  refine awpF_region ?_; intro K hK; simp only [push_cast, seval]
  refine CallK.pd (h67) ?_; simp only [push_cast, seval]; (try simp (disch := omega) only [wrapI]); (repeat ((with_reducible refine And.intro ?_ ?_); (focus (exact ob1))))
  refine hK _ ?_; clear hK K
  refine awp_seq ?_
  refine awpF_region ?_; intro K hK; simp only [push_cast, seval]; (try simp (disch := omega) only [wrapI]); (repeat ((with_reducible refine And.intro ?_ ?_); (focus (exact ob1)))); refine hK _ ?_; clear hK K
  refine awp_seq ?_
  refine awp_seq ?_
  refine awpF_region ?_; intro K hK; simp only [push_cast, seval]; (try simp (disch := omega) only [wrapI]); (repeat ((with_reducible refine And.intro ?_ ?_); (focus (exact ob1)))); refine hK _ ?_; clear hK K
  refine awp_virt 5 6 (by simp only [push_cast, seval]) ?_
  refine awp_block ?_
  refine awp_loopP (α := Nat × List Nd) (st := fun x => ⟨[(4, .d (.sl (ws.map encS))), (5, .ref 0 0 x.2.length), (6, .d (.int .i64 x.1))], [.data 6 (x.2.map encNd)]⟩)
    (inv := fun x => x.1 ≤ ws.length ∧ x.2.length ≤ x.1 ∧ pw ws = (pw (ws.drop x.1)).map (x.2 ++ ·)) (μ := fun x => ws.length - x.1) (x0 := (0, [])) (r0 := [0]) ⟨Nat.zero_le _, Nat.le_refl _, by simp⟩ ?_ ?_
  · exact ⟨by simp, by simp, by simp [push_cast, seval], by simp [push_cast, seval], by simp [push_cast, seval], by simp [push_cast, seval]⟩
  rintro ⟨i, out⟩ ⟨hi, hol, hinv⟩
  dsimp only at hi hol hinv ⊢
  have hqo : ∀ row, row ∈ out.map encNd → row.length = 6 := fun row hr => by obtain ⟨_, _, rfl⟩ := List.mem_map.1 hr; rfl
  have hto : List.take out.length (out.map encNd) = out.map encNd := List.take_of_length_le (by simp)
  refine awp_seq ?_
  refine awp_seq ?_
  refine awpF_region ?_; intro K hK; simp only [push_cast, seval]; (try simp (disch := omega) only [wrapI]); (repeat ((with_reducible refine And.intro ?_ ?_); (focus (exact ob1)))); refine hK _ ?_; clear hK K
  apply awp_cond; (focus (simp only [push_cast, seval]; rfl))
  · intro h1; (try simp only [decide_eq_true_eq, decide_eq_false_iff_not, Bool.not_eq_true', Bool.not_eq_false', Bool.and_eq_true, Bool.or_eq_true, Bool.not_eq_true] at h1)
    have hlt : i < ws.length := by omega
    obtain ⟨w, hw⟩ : ∃ w, ws[i]? = some w := ⟨_, List.getElem?_eq_getElem hlt⟩
    rw [List.drop_eq_getElem_cons hlt, show ws[i] = w from (List.getElem?_eq_some_iff.1 hw).2, pw_cons] at hinv
    have hgw := fun (k : Nat) (h : k < 8) => wordsR_get h
    have hoj := fun (k : Nat) (h : k < 8) => opJ_step (w := w) h
    have hoa := opJ_all w
    generalize wordsR = WR at *
    refine awp_skip ?_
    refine awp_block ?_
    refine awp_seq ?_
    refine awpF_region ?_; intro K hK; simp only [push_cast, seval]; (try simp (disch := omega) only [wrapI]); (repeat ((with_reducible refine And.intro ?_ ?_); (focus (exact ob1)))); refine hK _ ?_; clear hK K
    refine awp_seq ?_
    refine awp_seq ?_
    refine awpF_region ?_; intro K hK; simp only [push_cast, seval]; (try simp (disch := omega) only [wrapI]); (repeat ((with_reducible refine And.intro ?_ ?_); (focus (exact ob1)))); refine hK _ ?_; clear hK K
    refine awp_block ?_
    refine awp_loopP (α := Nat) (st := fun k => ⟨[(4, .d (.sl (ws.map encS))), (5, .ref 0 0 out.length), (6, .d (.int .i64 i)), (7, .ptr 1 0 0), (8, .d (.int .i64 k))], [.data 6 (out.map encNd), .cells (nodeC ⟨opJ w k, 0, 0, 0, 0, 0⟩)]⟩) (inv := fun k => k ≤ 8) (μ := fun k => 8 - k) (x0 := 0) (r0 := [0, 1]) (Nat.zero_le _) ?_ ?_
    · have e : opJ w 0 = 0 := rfl
      simp only [e, nodeC]
      exact ⟨by simp, by simp, by simp [push_cast, seval], by simp [push_cast, seval], by simp [push_cast, seval], by simp [push_cast, seval]⟩
    intro k hk
    have hstep := hoj k
    generalize hoj2 : opJ w k = oj at *
    simp only [nodeC]
    refine awp_seq ?_
    refine awp_seq ?_
    refine awpF_region ?_; intro K hK; simp only [push_cast, seval]; (try simp (disch := omega) only [wrapI]); (repeat ((with_reducible refine And.intro ?_ ?_); (focus (exact ob1)))); refine hK _ ?_; clear hK K
    apply awp_cond; (focus (simp only [push_cast, seval]; rfl))
    · intro h2; (try simp only [decide_eq_true_eq, decide_eq_false_iff_not, Bool.not_eq_true', Bool.not_eq_false', Bool.and_eq_true, Bool.or_eq_true, Bool.not_eq_true] at h2)
      have hk8 : k < 8 := by omega
      have hstep := hstep hk8
      have hg := hgw k hk8
      generalize wordL.getD k [] = wk at *
      refine awp_skip ?_
      refine awp_seq ?_
      refine awp_block ?_
      refine awp_seq ?_
      refine awpF_draw [1,4,5,6,7,0,2,3,8] (by kernel_rfl) (by kernel_rfl) rfl ?_; intro K hK; simp only [push_cast, seval, hw, encS, Int.toNat_natCast]
      (repeat ((with_reducible refine And.intro ?_ ?_); (focus (exact ob1))))
      refine CallK.pd h63 ?_
      simp only [push_cast, seval, hg, hw, encS, Int.toNat_natCast, hwrl, bs_inj]
      (repeat ((with_reducible refine And.intro ?_ ?_); (focus (exact ob1))))
      refine hK _ ?_; clear hK K
      apply awp_cond; (focus (simp only [push_cast, seval]; rfl))
      · intro h3
        have h3' : wk = w := by simpa using h3
        rw [if_pos h3'] at hstep
        refine awpF_region ?_; intro K hK; simp only [push_cast, seval]; (try simp (disch := omega) only [wrapI]); (repeat ((with_reducible refine And.intro ?_ ?_); (focus (exact ob1)))); refine hK _ ?_; clear hK K
        refine inblock_norm ?_
        refine awpF_region ?_; intro K hK; simp only [push_cast, seval]; (try simp (disch := omega) only [wrapI]); (repeat ((with_reducible refine And.intro ?_ ?_); (focus (exact ob1)))); refine hK _ ?_; clear hK K
        refine round_endG (k + 1) ([0, 1]) ⟨by omega, by omega, ?_⟩
        rw [hstep]
        push_cast
        exact ⟨by simp, by simp, by simp [push_cast, seval], by simp [push_cast, seval], by simp [push_cast, seval], by simp [push_cast, seval]⟩
      · intro h3
        have h3' : ¬ wk = w := by simpa using h3
        rw [if_neg h3'] at hstep
        refine awp_skip ?_
        refine inblock_norm ?_
        refine awpF_region ?_; intro K hK; simp only [push_cast, seval]; (try simp (disch := omega) only [wrapI]); (repeat ((with_reducible refine And.intro ?_ ?_); (focus (exact ob1)))); refine hK _ ?_; clear hK K
        refine round_endG (k + 1) ([0, 1]) ⟨by omega, by omega, ?_⟩
        rw [hstep]
        push_cast
        exact ⟨by simp, by simp, by simp [push_cast, seval], by simp [push_cast, seval], by simp [push_cast, seval], by simp [push_cast, seval]⟩
    · intro h2; (try simp only [decide_eq_true_eq, decide_eq_false_iff_not, Bool.not_eq_true', Bool.not_eq_false', Bool.and_eq_true, Bool.or_eq_true, Bool.not_eq_true] at h2)
      obtain rfl : k = 8 := by omega
      rw [hoj2] at hoa
      clear hoj2 hstep
      cases hx : wordIx w with
      | none =>
        rw [hx] at hoa hinv
        dsimp only at hoa hinv
        have hpn : parseL l = none := by rw [hpl, hinv]; rfl
        subst hoa
        refine awp_exit ?_; (repeat (first | refine then_exit ?_ | refine inblock_other (by decide) ?_)); refine inblock_same ?_
        (repeat' (first | refine awp_seq ?_ | refine awp_skip ?_ | refine awp_block ?_ | ((first | (refine awpF_region ?_; intro K hK) | (refine awpF_draw (id := 9) [1,4,5,6,7,0,2,3,8] (by kernel_rfl) (by kernel_rfl) rfl ?_; intro K hK) | (refine awpF_drawM (id := 33) [0, 1, 2, 4, 6] [] (DT.or (DT.op 3 (DT.or (DT.op 5 (DT.op 7 (DT.op 8 (DT.op 9 (DT.op 10 (DT.op 11 DT.nil)))))) (DT.op 7 (DT.op 8 (DT.or (DT.op 5 (DT.op 9 (DT.op 10 (DT.op 11 DT.nil)))) (DT.op 9 (DT.op 5 (DT.op 10 (DT.op 11 DT.nil))))))))) (DT.or (DT.op 5 (DT.or (DT.op 3 (DT.op 7 (DT.op 8 (DT.op 9 (DT.op 10 (DT.op 11 DT.nil)))))) (DT.op 7 (DT.op 3 (DT.op 8 (DT.op 9 (DT.op 10 (DT.op 11 DT.nil)))))))) (DT.op 7 (DT.op 3 (DT.op 8 (DT.or (DT.op 5 (DT.op 9 (DT.op 10 (DT.op 11 DT.nil)))) (DT.op 9 (DT.op 5 (DT.op 10 (DT.op 11 DT.nil)))))))))) (by kernel_rfl) (by kernel_rfl) (by kernel_rfl) ?_; intro K hK) | (refine awpF_drawM (id := 34) [0, 1, 2, 4] [] (DT.or (DT.op 3 (DT.op 5 (DT.op 6 (DT.op 7 DT.nil)))) (DT.op 5 (DT.op 3 (DT.op 6 (DT.op 7 DT.nil))))) (by kernel_rfl) (by kernel_rfl) (by kernel_rfl) ?_; intro K hK)); simp only [push_cast, seval, beq_self_eq_true]; (try simp (disch := omega) only [wrapI]); (repeat ((with_reducible refine And.intro ?_ ?_); (focus (exact ob1))))) | (refine hK _ ?_; clear hK K) | (apply awp_cond; (focus (simp only [push_cast, seval]; rfl))) | (with_reducible intro hb; exfalso; revert hb; simp [beq_self_eq_true]; done) | (with_reducible intro hb; exfalso; (try simp only [decide_eq_true_eq, decide_eq_false_iff_not, Bool.not_eq_true', Bool.not_eq_false', Bool.and_eq_true, Bool.or_eq_true, Bool.not_eq_true] at hb); omega; done) | (with_reducible intro hb; (try simp only [decide_eq_true_eq, decide_eq_false_iff_not, Bool.not_eq_true', Bool.not_eq_false', Bool.and_eq_true, Bool.or_eq_true, Bool.not_eq_true] at hb)) | (refine awp_exit ?_; (repeat (first | refine then_exit ?_ | refine inblock_other (by decide) ?_)); refine inblock_same ?_) | (refine awp_ret ?_; (repeat (first | refine then_ret ?_ | refine inblock_ret ?_ | refine nogoto_ret ?_)); refine fin_of (by simp only [push_cast, seval, beq_self_eq_true]; first | done | rfl) ob1 ?_) | (refine inblock_norm ?_)))
        exact hnone _ hpn
      | some j =>
        rw [hx] at hoa hinv
        dsimp only at hoa hinv
        subst hoa
        have hj8 := (wordIx_of hx).1
        have hm3 := numsN_le (j + 1)
        refine awp_exit ?_; (repeat (first | refine then_exit ?_ | refine inblock_other (by decide) ?_)); refine inblock_same ?_
        refine awp_seq ?_
        refine awpF_region ?_; intro K hK; simp only [push_cast, seval]; (try simp (disch := omega) only [wrapI]); (repeat ((with_reducible refine And.intro ?_ ?_); (focus (exact ob1)))); refine hK _ ?_; clear hK K
        refine awp_mid (fun u => u = ⟨[(4, .d (.sl (ws.map encS))), (5, .ref 0 0 out.length), (6, .d (.int .i64 i)), (7, .ptr 1 0 0), (9, .d (.int .i64 (numsN (j + 1) : Nat)))], [.data 6 (out.map encNd), .cells (nodeC ⟨(j : Int) + 1, 0, 0, 0, 0, 0⟩)]⟩) ?_ ?_
        · simp only [nodeC]
          clear hinv
          rcases show j = 0 ∨ j = 1 ∨ j = 2 ∨ j = 3 ∨ j = 4 ∨ j = 5 ∨ j = 6 ∨ j = 7 by omega with rfl | rfl | rfl | rfl | rfl | rfl | rfl | rfl
          all_goals
            (repeat' (first | refine awp_seq ?_ | refine awp_skip ?_ | refine awp_block ?_ | ((first | (refine awpF_region ?_; intro K hK) | (refine awpF_draw (id := 9) [1,4,5,6,7,0,2,3,8] (by kernel_rfl) (by kernel_rfl) rfl ?_; intro K hK) | (refine awpF_drawM (id := 33) [0, 1, 2, 4, 6] [] (DT.or (DT.op 3 (DT.or (DT.op 5 (DT.op 7 (DT.op 8 (DT.op 9 (DT.op 10 (DT.op 11 DT.nil)))))) (DT.op 7 (DT.op 8 (DT.or (DT.op 5 (DT.op 9 (DT.op 10 (DT.op 11 DT.nil)))) (DT.op 9 (DT.op 5 (DT.op 10 (DT.op 11 DT.nil))))))))) (DT.or (DT.op 5 (DT.or (DT.op 3 (DT.op 7 (DT.op 8 (DT.op 9 (DT.op 10 (DT.op 11 DT.nil)))))) (DT.op 7 (DT.op 3 (DT.op 8 (DT.op 9 (DT.op 10 (DT.op 11 DT.nil)))))))) (DT.op 7 (DT.op 3 (DT.op 8 (DT.or (DT.op 5 (DT.op 9 (DT.op 10 (DT.op 11 DT.nil)))) (DT.op 9 (DT.op 5 (DT.op 10 (DT.op 11 DT.nil)))))))))) (by kernel_rfl) (by kernel_rfl) (by kernel_rfl) ?_; intro K hK) | (refine awpF_drawM (id := 34) [0, 1, 2, 4] [] (DT.or (DT.op 3 (DT.op 5 (DT.op 6 (DT.op 7 DT.nil)))) (DT.op 5 (DT.op 3 (DT.op 6 (DT.op 7 DT.nil))))) (by kernel_rfl) (by kernel_rfl) (by kernel_rfl) ?_; intro K hK)); simp only [push_cast, seval, beq_self_eq_true]; (try simp (disch := omega) only [wrapI]); (repeat ((with_reducible refine And.intro ?_ ?_); (focus (exact ob1))))) | (refine hK _ ?_; clear hK K) | (apply awp_cond; (focus (simp only [push_cast, seval]; rfl))) | (with_reducible intro hb; exfalso; revert hb; simp [beq_self_eq_true]; done) | (with_reducible intro hb; exfalso; (try simp only [decide_eq_true_eq, decide_eq_false_iff_not, Bool.not_eq_true', Bool.not_eq_false', Bool.and_eq_true, Bool.or_eq_true, Bool.not_eq_true] at hb); omega; done) | (with_reducible intro hb; (try simp only [decide_eq_true_eq, decide_eq_false_iff_not, Bool.not_eq_true', Bool.not_eq_false', Bool.and_eq_true, Bool.or_eq_true, Bool.not_eq_true] at hb)) | (refine awp_exit ?_; (repeat (first | refine then_exit ?_ | refine inblock_other (by decide) ?_)); refine inblock_same ?_) | (refine awp_ret ?_; (repeat (first | refine then_ret ?_ | refine inblock_ret ?_ | refine nogoto_ret ?_)); refine fin_of (by simp only [push_cast, seval, beq_self_eq_true]; first | done | rfl) ob1 ?_) | (refine inblock_norm ?_)))
            refine mid_end [0, 1] _ rfl ?_
            try rw [show numsN (0 + 1) = 0 from rfl]
            try rw [show numsN (1 + 1) = 3 from rfl]
            try rw [show numsN (2 + 1) = 0 from rfl]
            try rw [show numsN (3 + 1) = 0 from rfl]
            try rw [show numsN (4 + 1) = 0 from rfl]
            try rw [show numsN (5 + 1) = 2 from rfl]
            try rw [show numsN (6 + 1) = 2 from rfl]
            try rw [show numsN (7 + 1) = 2 from rfl]
            exact ⟨by simp, by simp, by simp [push_cast, seval], by simp [push_cast, seval], by simp [push_cast, seval], by simp [push_cast, seval]⟩
        rintro _ rfl
        generalize hmj : numsN (j + 1) = m at *
        simp only [nodeC]
        refine awp_seq ?_
        refine awpF_region ?_; intro K hK; simp only [push_cast, seval]; (try simp (disch := omega) only [wrapI]); (repeat ((with_reducible refine And.intro ?_ ?_); (focus (exact ob1)))); refine hK _ ?_; clear hK K
        refine awp_seq ?_
        refine awp_seq ?_
        refine awpF_region ?_; intro K hK; simp only [push_cast, seval]; (try simp (disch := omega) only [wrapI]); (repeat ((with_reducible refine And.intro ?_ ?_); (focus (exact ob1)))); refine hK _ ?_; clear hK K
        have hdl : (ws.drop (i + 1)).length = ws.length - (i + 1) := List.length_drop
        generalize hR : ws.drop (i + 1) = R at *
        have hRg : ∀ k : Nat, R[k]? = ws[i + 1 + k]? := fun k => by rw [← hR, List.getElem?_drop]
        refine awp_block ?_
        refine awp_loopP (α := Nat × List Int) (st := fun x => ⟨[(4, .d (.sl (ws.map encS))), (5, .ref 0 0 out.length), (6, .d (.int .i64 (i + x.1 : Nat))), (7, .ptr 1 0 0), (9, .d (.int .i64 m)), (10, .ptr 2 0 0), (11, .d (.int .i64 x.1))],
            [.data 6 (out.map encNd), .cells (nodeC ⟨(j : Int) + 1, 0, 0, 0, 0, 0⟩), .cells (threeC x.2)]⟩)
          (inv := fun x => x.1 ≤ m ∧ x.2.length = x.1 ∧ i + x.1 < ws.length ∧ rdW m R = (rdW (m - x.1) (R.drop x.1)).map fun r => (x.2 ++ r.1, r.2)) (μ := fun x => m - x.1) (x0 := (0, [])) (r0 := [0, 1, 2]) ⟨Nat.zero_le _, rfl, hlt, by simp⟩ ?_ ?_
        · simp only [nodeC, threeC, List.getD_nil, Nat.add_zero]
          exact ⟨by simp, by simp, by simp [push_cast, seval], by simp [push_cast, seval], by simp [push_cast, seval], by simp [push_cast, seval]⟩
        rintro ⟨q, vs⟩ ⟨hq1, hq2, hq3, hq4⟩
        dsimp only at hq1 hq2 hq3 hq4 ⊢
        simp only [nodeC]
        refine awp_seq ?_
        refine awp_seq ?_
        refine awpF_region ?_; intro K hK; simp only [push_cast, seval]; (try simp (disch := omega) only [wrapI]); (repeat ((with_reducible refine And.intro ?_ ?_); (focus (exact ob1)))); refine hK _ ?_; clear hK K
        apply awp_cond; (focus (simp only [push_cast, seval]; rfl))
        · intro h3; (try simp only [decide_eq_true_eq, decide_eq_false_iff_not, Bool.not_eq_true', Bool.not_eq_false', Bool.and_eq_true, Bool.or_eq_true, Bool.not_eq_true] at h3)
          have hqm : q < m := by omega
          obtain ⟨p, hp⟩ : ∃ p, m - q = p + 1 := ⟨m - q - 1, by omega⟩
          rw [hp] at hq4
          refine awp_skip ?_
          refine awp_seq ?_
          refine awp_block ?_
          refine awp_seq ?_
          refine awpF_region ?_; intro K hK; simp only [push_cast, seval]; (try simp (disch := omega) only [wrapI]); (repeat ((with_reducible refine And.intro ?_ ?_); (focus (exact ob1)))); refine hK _ ?_; clear hK K
          refine awp_seq ?_
          refine awp_seq ?_
          refine awpF_region ?_; intro K hK; simp only [push_cast, seval]; (try simp (disch := omega) only [wrapI]); (repeat ((with_reducible refine And.intro ?_ ?_); (focus (exact ob1)))); refine hK _ ?_; clear hK K
          apply awp_cond; (focus (simp only [push_cast, seval]; rfl))
          · intro h4
            have h4' : i + q + 1 = ws.length := by
              simp at h4
              omega
            have e : R.drop q = [] := List.drop_of_length_le (by rw [hdl]; omega)
            rw [e] at hq4
            have e2 : rdW m R = none := by rw [hq4]; rfl
            rw [e2] at hinv
            refine awp_seq ?_
            refine awpF_region ?_; intro K hK; simp only [push_cast, seval]; (try simp (disch := omega) only [wrapI]); (repeat ((with_reducible refine And.intro ?_ ?_); (focus (exact ob1)))); refine hK _ ?_; clear hK K
            refine awp_ret ?_; (repeat (first | refine then_ret ?_ | refine inblock_ret ?_ | refine nogoto_ret ?_)); refine fin_of (by simp only [push_cast, seval]; first | done | rfl) ob1 ?_
            exact hnone _ (by rw [hpl, hinv]; rfl)
          intro h4
          have h4' : i + q + 1 < ws.length := by
            simp at h4
            omega
          obtain ⟨w2, hw2⟩ : ∃ w2, ws[i + q + 1]? = some w2 := ⟨_, List.getElem?_eq_getElem h4'⟩
          have e : R.drop q = w2 :: R.drop (q + 1) := by
            have hRq : R[q]? = some w2 := by rw [hRg, ← hw2]; congr 1; omega
            rw [List.drop_eq_getElem_cons (List.getElem?_eq_some_iff.1 hRq).1, (List.getElem?_eq_some_iff.1 hRq).2]
          rw [e, rdW_step, read_numO] at hq4
          have h68 := p68 w2 (hwd w2 (List.mem_of_getElem? hw2))
          have hc1 : ((i : Int) + (q : Int) + 1).toNat = i + q + 1 := by omega
          generalize readV w2 = rv at *
          obtain ⟨v, ok⟩ := rv
          dsimp only at hq4 h68
          refine awp_skip ?_
          refine awp_seq ?_
          push_cast
          refine awpF_region ?_; intro K hK; simp only [push_cast, seval, hc1, hw2, encS]
          (repeat ((with_reducible refine And.intro ?_ ?_); (focus (exact ob1))))
          refine CallK.pd (h68) ?_; simp only [push_cast, seval]; (try simp (disch := omega) only [wrapI]); (repeat ((with_reducible refine And.intro ?_ ?_); (focus (exact ob1))))
          refine hK _ ?_; clear hK K
          refine awp_seq ?_
          refine awp_seq ?_
          refine awpF_region ?_; intro K hK; simp only [push_cast, seval]; (try simp (disch := omega) only [wrapI]); (repeat ((with_reducible refine And.intro ?_ ?_); (focus (exact ob1)))); refine hK _ ?_; clear hK K
          apply awp_cond; (focus (simp only [push_cast, seval]; rfl))
          · intro h5
            have h5' : ok = false := by simpa using h5
            subst h5'
            have e2 : rdW m R = none := by rw [hq4]; rfl
            rw [e2] at hinv
            refine awp_seq ?_
            refine awpF_region ?_; intro K hK; simp only [push_cast, seval]; (try simp (disch := omega) only [wrapI]); (repeat ((with_reducible refine And.intro ?_ ?_); (focus (exact ob1)))); refine hK _ ?_; clear hK K
            refine awp_ret ?_; (repeat (first | refine then_ret ?_ | refine inblock_ret ?_ | refine nogoto_ret ?_)); refine fin_of (by simp only [push_cast, seval]; first | done | rfl) ob1 ?_
            exact hnone _ (by rw [hpl, hinv]; rfl)
          · intro h5
            have h5' : ok = true := by simpa using h5
            subst h5'
            refine awp_skip ?_
            have hpq : m - (q + 1) = p := by omega
            have hq5 : rdW m R = (rdW (m - (q + 1)) (R.drop (q + 1))).map fun r => ((vs ++ [v]) ++ r.1, r.2) := by
              rw [hpq, hq4]
              simp only [if_true, Option.map_map]
              congr 1
              funext r
              simp
            have g1 : m - (q + 1) < m - q := by omega
            have g2 : q + 1 ≤ m := by omega
            have g3 : (vs ++ [v]).length = q + 1 := by simp [hq2]
            have g4 : i + (q + 1) < ws.length := by omega
            have hq3' : q = 0 ∨ q = 1 ∨ q = 2 := by omega
            clear hq4 hinv
            rcases hq3' with rfl | rfl | rfl
            · obtain rfl : vs = [] := List.eq_nil_of_length_eq_zero hq2
              simp only [threeC, List.getD_nil]
              refine awpF_region ?_; intro K hK; simp only [push_cast, seval]; (try simp (disch := omega) only [wrapI]); (repeat ((with_reducible refine And.intro ?_ ?_); (focus (exact ob1)))); refine hK _ ?_; clear hK K
              refine inblock_norm ?_
              refine awpF_region ?_; intro K hK; simp only [push_cast, seval]; (try simp (disch := omega) only [wrapI]); (repeat ((with_reducible refine And.intro ?_ ?_); (focus (exact ob1)))); refine hK _ ?_; clear hK K
              refine round_endG (_, _) ([0, 1, 2]) ⟨g1, g2, g3, g4, hq5, ?_⟩
              simp only [nodeC, threeC, List.nil_append, List.getD_cons_zero, List.getD_cons_succ, List.getD_nil]
              push_cast
              exact ⟨by simp, by simp, by simp [push_cast, seval], by simp [push_cast, seval], by simp [push_cast, seval], by simp [push_cast, seval]⟩
            · obtain ⟨a, rfl⟩ : ∃ a, vs = [a] := by
                match vs, hq2 with
                | [a], _ => exact ⟨a, rfl⟩
              simp only [threeC, List.getD_nil, List.getD_cons_zero, List.getD_cons_succ]
              refine awpF_region ?_; intro K hK; simp only [push_cast, seval]; (try simp (disch := omega) only [wrapI]); (repeat ((with_reducible refine And.intro ?_ ?_); (focus (exact ob1)))); refine hK _ ?_; clear hK K
              refine inblock_norm ?_
              refine awpF_region ?_; intro K hK; simp only [push_cast, seval]; (try simp (disch := omega) only [wrapI]); (repeat ((with_reducible refine And.intro ?_ ?_); (focus (exact ob1)))); refine hK _ ?_; clear hK K
              refine round_endG (_, _) ([0, 1, 2]) ⟨g1, g2, g3, g4, hq5, ?_⟩
              simp only [nodeC, threeC, List.nil_append, List.cons_append, List.getD_cons_zero, List.getD_cons_succ, List.getD_nil]
              push_cast
              rw [show (i : Int) + 1 + 1 = (i : Int) + 2 by omega]
              exact ⟨by simp, by simp, by simp [push_cast, seval], by simp [push_cast, seval], by simp [push_cast, seval], by simp [push_cast, seval]⟩
            · obtain ⟨a, b, rfl⟩ : ∃ a b, vs = [a, b] := by
                match vs, hq2 with
                | [a, b], _ => exact ⟨a, b, rfl⟩
              simp only [threeC, List.getD_nil, List.getD_cons_zero, List.getD_cons_succ]
              refine awpF_region ?_; intro K hK; simp only [push_cast, seval]; (try simp (disch := omega) only [wrapI]); (repeat ((with_reducible refine And.intro ?_ ?_); (focus (exact ob1)))); refine hK _ ?_; clear hK K
              refine inblock_norm ?_
              refine awpF_region ?_; intro K hK; simp only [push_cast, seval]; (try simp (disch := omega) only [wrapI]); (repeat ((with_reducible refine And.intro ?_ ?_); (focus (exact ob1)))); refine hK _ ?_; clear hK K
              refine round_endG (_, _) ([0, 1, 2]) ⟨g1, g2, g3, g4, hq5, ?_⟩
              simp only [nodeC, threeC, List.nil_append, List.cons_append, List.getD_cons_zero, List.getD_cons_succ, List.getD_nil]
              push_cast
              rw [show (i : Int) + 2 + 1 = (i : Int) + 3 by omega]
              exact ⟨by simp, by simp, by simp [push_cast, seval], by simp [push_cast, seval], by simp [push_cast, seval], by simp [push_cast, seval]⟩
        · intro h3; (try simp only [decide_eq_true_eq, decide_eq_false_iff_not, Bool.not_eq_true', Bool.not_eq_false', Bool.and_eq_true, Bool.or_eq_true, Bool.not_eq_true] at h3)
          obtain rfl : q = m := by omega
          have e2 : rdW q R = some (vs, R.drop q) := by rw [hq4, Nat.sub_self]; simp [rdW]
          rw [e2] at hinv
          dsimp only at hinv
          have hRd : R.drop q = ws.drop (i + (q + 1)) := by rw [← hR, List.drop_drop]; congr 1; omega
          have hinv2 : pw ws = (pw (ws.drop (i + (q + 1)))).map ((out ++ [mkNd (j + 1) vs]) ++ ·) := by
            rw [hinv, hRd, Option.map_map]
            congr 1
            funext r
            simp
          clear hinv hq4 e2
          refine awp_exit ?_; (repeat (first | refine then_exit ?_ | refine inblock_other (by decide) ?_)); refine inblock_same ?_
          refine awp_mid (fun u => u = ⟨[(4, .d (.sl (ws.map encS))), (5, .ref 0 0 out.length), (6, .d (.int .i64 (i + q : Nat))), (7, .ptr 1 0 0)], [.data 6 (out.map encNd), .cells (nodeC (mkNd (j + 1) vs))]⟩) ?_ ?_
          · by_cases hj1 : j = 1
            · subst hj1
              have hq3 : q = 3 := by rw [← hmj]; rfl
              subst hq3
              obtain ⟨a, b, c, rfl⟩ : ∃ a b c, vs = [a, b, c] := by
                match vs, hq2 with
                | [a, b, c], _ => exact ⟨a, b, c, rfl⟩
              have en : mkNd (1 + 1) [a, b, c] = ⟨2, a, b, c, 0, 0⟩ := rfl
              rw [en]
              simp only [threeC, nodeC, List.getD_nil, List.getD_cons_zero, List.getD_cons_succ]
              (repeat' (first | refine awp_seq ?_ | refine awp_skip ?_ | refine awp_block ?_ | ((first | (refine awpF_region ?_; intro K hK) | (refine awpF_draw (id := 9) [1,4,5,6,7,0,2,3,8] (by kernel_rfl) (by kernel_rfl) rfl ?_; intro K hK) | (refine awpF_drawM (id := 33) [0, 1, 2, 4, 6] [] (DT.or (DT.op 3 (DT.or (DT.op 5 (DT.op 7 (DT.op 8 (DT.op 9 (DT.op 10 (DT.op 11 DT.nil)))))) (DT.op 7 (DT.op 8 (DT.or (DT.op 5 (DT.op 9 (DT.op 10 (DT.op 11 DT.nil)))) (DT.op 9 (DT.op 5 (DT.op 10 (DT.op 11 DT.nil))))))))) (DT.or (DT.op 5 (DT.or (DT.op 3 (DT.op 7 (DT.op 8 (DT.op 9 (DT.op 10 (DT.op 11 DT.nil)))))) (DT.op 7 (DT.op 3 (DT.op 8 (DT.op 9 (DT.op 10 (DT.op 11 DT.nil)))))))) (DT.op 7 (DT.op 3 (DT.op 8 (DT.or (DT.op 5 (DT.op 9 (DT.op 10 (DT.op 11 DT.nil)))) (DT.op 9 (DT.op 5 (DT.op 10 (DT.op 11 DT.nil)))))))))) (by kernel_rfl) (by kernel_rfl) (by kernel_rfl) ?_; intro K hK) | (refine awpF_drawM (id := 34) [0, 1, 2, 4] [] (DT.or (DT.op 3 (DT.op 5 (DT.op 6 (DT.op 7 DT.nil)))) (DT.op 5 (DT.op 3 (DT.op 6 (DT.op 7 DT.nil))))) (by kernel_rfl) (by kernel_rfl) (by kernel_rfl) ?_; intro K hK)); simp only [push_cast, seval, beq_self_eq_true]; (try simp (disch := omega) only [wrapI]); (repeat ((with_reducible refine And.intro ?_ ?_); (focus (exact ob1))))) | (refine hK _ ?_; clear hK K) | (apply awp_cond; (focus (simp only [push_cast, seval]; rfl))) | (with_reducible intro hb; exfalso; revert hb; simp [beq_self_eq_true]; done) | (with_reducible intro hb; exfalso; (try simp only [decide_eq_true_eq, decide_eq_false_iff_not, Bool.not_eq_true', Bool.not_eq_false', Bool.and_eq_true, Bool.or_eq_true, Bool.not_eq_true] at hb); omega; done) | (with_reducible intro hb; (try simp only [decide_eq_true_eq, decide_eq_false_iff_not, Bool.not_eq_true', Bool.not_eq_false', Bool.and_eq_true, Bool.or_eq_true, Bool.not_eq_true] at hb)) | (refine awp_exit ?_; (repeat (first | refine then_exit ?_ | refine inblock_other (by decide) ?_)); refine inblock_same ?_) | (refine awp_ret ?_; (repeat (first | refine then_ret ?_ | refine inblock_ret ?_ | refine nogoto_ret ?_)); refine fin_of (by simp only [push_cast, seval, beq_self_eq_true]; first | done | rfl) ob1 ?_) | (refine inblock_norm ?_)))
              refine mid_end [0, 1] _ rfl ?_
              exact ⟨by simp, by simp, by simp [push_cast, seval], by simp [push_cast, seval], by simp [push_cast, seval], by simp [push_cast, seval]⟩
            · have en : mkNd (j + 1) vs = ⟨(j : Int) + 1, 0, 0, 0, vs.getD 0 0, vs.getD 1 0⟩ := by
                unfold mkNd
                rw [if_neg (by omega)]
                rfl
              have hq3 : ((q : Int) == 3) = false := by
                refine beq_eq_false_iff_ne.2 fun h => ?_
                rw [← hmj] at h
                unfold numsN at h
                rw [if_neg (by omega)] at h
                split at h <;> simp at h
              rw [en]
              simp only [threeC, nodeC]
              (repeat' (first | refine awp_seq ?_ | refine awp_skip ?_ | refine awp_block ?_ | ((first | (refine awpF_region ?_; intro K hK) | (refine awpF_draw (id := 9) [1,4,5,6,7,0,2,3,8] (by kernel_rfl) (by kernel_rfl) rfl ?_; intro K hK) | (refine awpF_drawM (id := 33) [0, 1, 2, 4, 6] [] (DT.or (DT.op 3 (DT.or (DT.op 5 (DT.op 7 (DT.op 8 (DT.op 9 (DT.op 10 (DT.op 11 DT.nil)))))) (DT.op 7 (DT.op 8 (DT.or (DT.op 5 (DT.op 9 (DT.op 10 (DT.op 11 DT.nil)))) (DT.op 9 (DT.op 5 (DT.op 10 (DT.op 11 DT.nil))))))))) (DT.or (DT.op 5 (DT.or (DT.op 3 (DT.op 7 (DT.op 8 (DT.op 9 (DT.op 10 (DT.op 11 DT.nil)))))) (DT.op 7 (DT.op 3 (DT.op 8 (DT.op 9 (DT.op 10 (DT.op 11 DT.nil)))))))) (DT.op 7 (DT.op 3 (DT.op 8 (DT.or (DT.op 5 (DT.op 9 (DT.op 10 (DT.op 11 DT.nil)))) (DT.op 9 (DT.op 5 (DT.op 10 (DT.op 11 DT.nil)))))))))) (by kernel_rfl) (by kernel_rfl) (by kernel_rfl) ?_; intro K hK) | (refine awpF_drawM (id := 34) [0, 1, 2, 4] [] (DT.or (DT.op 3 (DT.op 5 (DT.op 6 (DT.op 7 DT.nil)))) (DT.op 5 (DT.op 3 (DT.op 6 (DT.op 7 DT.nil))))) (by kernel_rfl) (by kernel_rfl) (by kernel_rfl) ?_; intro K hK)); simp only [push_cast, seval, hq3]; (try simp (disch := omega) only [wrapI]); (repeat ((with_reducible refine And.intro ?_ ?_); (focus (exact ob1))))) | (refine hK _ ?_; clear hK K) | (apply awp_cond; (focus (simp only [push_cast, seval]; rfl))) | (with_reducible intro hb; exfalso; revert hb; simp [hq3]; done) | (with_reducible intro hb; exfalso; (try simp only [decide_eq_true_eq, decide_eq_false_iff_not, Bool.not_eq_true', Bool.not_eq_false', Bool.and_eq_true, Bool.or_eq_true, Bool.not_eq_true] at hb); omega; done) | (with_reducible intro hb; (try simp only [decide_eq_true_eq, decide_eq_false_iff_not, Bool.not_eq_true', Bool.not_eq_false', Bool.and_eq_true, Bool.or_eq_true, Bool.not_eq_true] at hb)) | (refine awp_exit ?_; (repeat (first | refine then_exit ?_ | refine inblock_other (by decide) ?_)); refine inblock_same ?_) | (refine awp_ret ?_; (repeat (first | refine then_ret ?_ | refine inblock_ret ?_ | refine nogoto_ret ?_)); refine fin_of (by simp only [push_cast, seval, hq3]; first | done | rfl) ob1 ?_) | (refine inblock_norm ?_)))
              refine mid_end [0, 1] _ rfl ?_
              exact ⟨by simp, by simp, by simp [push_cast, seval], by simp [push_cast, seval], by simp [push_cast, seval], by simp [push_cast, seval]⟩
          rintro _ rfl
          have hel : nodeC (mkNd (j + 1) vs) = (encNd (mkNd (j + 1) vs)).map .d := rfl
          generalize hnd : mkNd (j + 1) vs = nd at *
          simp only [nodeC]
          refine awp_seq ?_
          refine awpF_region ?_; intro K hK; simp only [push_cast, seval, hto]; (try simp (disch := omega) only [wrapI]); (repeat ((with_reducible refine And.intro ?_ ?_); (focus (exact ob1)))); refine hK _ ?_; clear hK K
          refine awpF_region ?_; intro K hK; simp only [push_cast, seval]; (try simp (disch := omega) only [wrapI]); (repeat ((with_reducible refine And.intro ?_ ?_); (focus (exact ob1)))); refine hK _ ?_; clear hK K
          refine inblock_norm ?_
          refine round_endG (i + (q + 1), out ++ [nd]) ([0]) ⟨by show ws.length - (i + (q + 1)) < ws.length - i; omega, ⟨by show i + (q + 1) ≤ ws.length; omega, by show (out ++ [nd]).length ≤ i + (q + 1); rw [List.length_append]; simp; omega, hinv2⟩, ?_⟩
          have e9 : ((i + (q + 1) : Nat) : Int) = (i : Int) + (q : Int) + 1 := by push_cast; omega
          dsimp only
          rw [e9]
          simp only [List.map_append, List.map_cons, List.map_nil, List.length_append, List.length_cons, List.length_nil, encNd]
          exact ⟨by simp, by simp, by simp [push_cast, seval], by simp [push_cast, seval], by simp [push_cast, seval], by simp [push_cast, seval]⟩
  · intro h1; (try simp only [decide_eq_true_eq, decide_eq_false_iff_not, Bool.not_eq_true', Bool.not_eq_false', Bool.and_eq_true, Bool.or_eq_true, Bool.not_eq_true] at h1)
    obtain rfl : i = ws.length := by omega
    have e : pw (ws.drop ws.length) = some [] := by rw [List.drop_length]; rfl
    rw [e] at hinv
    have hps : parseL l = some out := by rw [hpl, hinv]; simp
    have h17 := p17 out 12 t (by omega) (ht out hps)
    have hpv : prsV l t = if chkE out 12 t = 0 then (out, 0) else ([], chkE out 12 t) := by unfold prsV; rw [hps]
    rw [hpv]
    generalize chkE out 12 t = ce at *
    refine awp_exit ?_; (repeat (first | refine then_exit ?_ | refine inblock_other (by decide) ?_)); refine inblock_same ?_
    by_cases hce : ce = 0
    · subst hce
      rw [if_pos rfl]
      refine awp_seq ?_
      refine awp_fz (.ref 0 0 out.length) ?_
      simp only [push_cast, seval, St.fz, St.frz, hto]
      (repeat' (first | refine awp_seq ?_ | refine awp_skip ?_ | refine awp_block ?_ | ((first | (refine awpF_region ?_; intro K hK) | (refine awpF_draw (id := 9) [1,4,5,6,7,0,2,3,8] (by kernel_rfl) (by kernel_rfl) rfl ?_; intro K hK) | (refine awpF_drawM (id := 33) [0, 1, 2, 4, 6] [] (DT.or (DT.op 3 (DT.or (DT.op 5 (DT.op 7 (DT.op 8 (DT.op 9 (DT.op 10 (DT.op 11 DT.nil)))))) (DT.op 7 (DT.op 8 (DT.or (DT.op 5 (DT.op 9 (DT.op 10 (DT.op 11 DT.nil)))) (DT.op 9 (DT.op 5 (DT.op 10 (DT.op 11 DT.nil))))))))) (DT.or (DT.op 5 (DT.or (DT.op 3 (DT.op 7 (DT.op 8 (DT.op 9 (DT.op 10 (DT.op 11 DT.nil)))))) (DT.op 7 (DT.op 3 (DT.op 8 (DT.op 9 (DT.op 10 (DT.op 11 DT.nil)))))))) (DT.op 7 (DT.op 3 (DT.op 8 (DT.or (DT.op 5 (DT.op 9 (DT.op 10 (DT.op 11 DT.nil)))) (DT.op 9 (DT.op 5 (DT.op 10 (DT.op 11 DT.nil)))))))))) (by kernel_rfl) (by kernel_rfl) (by kernel_rfl) ?_; intro K hK) | (refine awpF_drawM (id := 34) [0, 1, 2, 4] [] (DT.or (DT.op 3 (DT.op 5 (DT.op 6 (DT.op 7 DT.nil)))) (DT.op 5 (DT.op 3 (DT.op 6 (DT.op 7 DT.nil))))) (by kernel_rfl) (by kernel_rfl) (by kernel_rfl) ?_; intro K hK) | refine CallK.pd (h17) ?_ | refine CallK.pg (fun _ => h17) ?_); simp only [push_cast, seval, bne_self_eq_false]; (try simp (disch := omega) only [wrapI]); (repeat ((with_reducible refine And.intro ?_ ?_); (focus (exact ob1))))) | (refine hK _ ?_; clear hK K) | (apply awp_cond; (focus (simp only [push_cast, seval]; rfl))) | (with_reducible intro hb; exfalso; revert hb; simp [bne_self_eq_false]; done) | (with_reducible intro hb; exfalso; (try simp only [decide_eq_true_eq, decide_eq_false_iff_not, Bool.not_eq_true', Bool.not_eq_false', Bool.and_eq_true, Bool.or_eq_true, Bool.not_eq_true] at hb); omega; done) | (with_reducible intro hb; (try simp only [decide_eq_true_eq, decide_eq_false_iff_not, Bool.not_eq_true', Bool.not_eq_false', Bool.and_eq_true, Bool.or_eq_true, Bool.not_eq_true] at hb)) | (refine awp_exit ?_; (repeat (first | refine then_exit ?_ | refine inblock_other (by decide) ?_)); refine inblock_same ?_) | (refine awp_ret ?_; (repeat (first | refine then_ret ?_ | refine inblock_ret ?_ | refine nogoto_ret ?_)); refine fin_of (by simp only [push_cast, seval, bne_self_eq_false]; first | done | rfl) ob1 ?_) | (refine inblock_norm ?_)))
      exact DeepV.tups (DeepV.cons (DeepV.dd _) (DeepV.cons (DeepV.dd _) DeepV.nils))
    · rw [if_neg hce]
      have hb1 : (ce != 0) = true := by simpa using hce
      refine awp_seq ?_
      refine awp_fz (.ref 0 0 out.length) ?_
      simp only [push_cast, seval, St.fz, St.frz, hto]
      (repeat' (first | refine awp_seq ?_ | refine awp_skip ?_ | refine awp_block ?_ | ((first | (refine awpF_region ?_; intro K hK) | (refine awpF_draw (id := 9) [1,4,5,6,7,0,2,3,8] (by kernel_rfl) (by kernel_rfl) rfl ?_; intro K hK) | (refine awpF_drawM (id := 33) [0, 1, 2, 4, 6] [] (DT.or (DT.op 3 (DT.or (DT.op 5 (DT.op 7 (DT.op 8 (DT.op 9 (DT.op 10 (DT.op 11 DT.nil)))))) (DT.op 7 (DT.op 8 (DT.or (DT.op 5 (DT.op 9 (DT.op 10 (DT.op 11 DT.nil)))) (DT.op 9 (DT.op 5 (DT.op 10 (DT.op 11 DT.nil))))))))) (DT.or (DT.op 5 (DT.or (DT.op 3 (DT.op 7 (DT.op 8 (DT.op 9 (DT.op 10 (DT.op 11 DT.nil)))))) (DT.op 7 (DT.op 3 (DT.op 8 (DT.op 9 (DT.op 10 (DT.op 11 DT.nil)))))))) (DT.op 7 (DT.op 3 (DT.op 8 (DT.or (DT.op 5 (DT.op 9 (DT.op 10 (DT.op 11 DT.nil)))) (DT.op 9 (DT.op 5 (DT.op 10 (DT.op 11 DT.nil)))))))))) (by kernel_rfl) (by kernel_rfl) (by kernel_rfl) ?_; intro K hK) | (refine awpF_drawM (id := 34) [0, 1, 2, 4] [] (DT.or (DT.op 3 (DT.op 5 (DT.op 6 (DT.op 7 DT.nil)))) (DT.op 5 (DT.op 3 (DT.op 6 (DT.op 7 DT.nil))))) (by kernel_rfl) (by kernel_rfl) (by kernel_rfl) ?_; intro K hK) | refine CallK.pd (h17) ?_ | refine CallK.pg (fun _ => h17) ?_); simp only [push_cast, seval, hb1]; (try simp (disch := omega) only [wrapI]); (repeat ((with_reducible refine And.intro ?_ ?_); (focus (exact ob1))))) | (refine hK _ ?_; clear hK K) | (apply awp_cond; (focus (simp only [push_cast, seval]; rfl))) | (with_reducible intro hb; exfalso; revert hb; simp [hb1]; done) | (with_reducible intro hb; exfalso; (try simp only [decide_eq_true_eq, decide_eq_false_iff_not, Bool.not_eq_true', Bool.not_eq_false', Bool.and_eq_true, Bool.or_eq_true, Bool.not_eq_true] at hb); omega; done) | (with_reducible intro hb; (try simp only [decide_eq_true_eq, decide_eq_false_iff_not, Bool.not_eq_true', Bool.not_eq_false', Bool.and_eq_true, Bool.or_eq_true, Bool.not_eq_true] at hb)) | (refine awp_exit ?_; (repeat (first | refine then_exit ?_ | refine inblock_other (by decide) ?_)); refine inblock_same ?_) | (refine awp_ret ?_; (repeat (first | refine then_ret ?_ | refine inblock_ret ?_ | refine nogoto_ret ?_)); refine fin_of (by simp only [push_cast, seval, hb1]; first | done | rfl) ob1 ?_) | (refine inblock_norm ?_)))
      exact DeepV.tups (DeepV.cons .nil (DeepV.cons (DeepV.dd _) DeepV.nils))
end Go.Aw
