/-
  The reference's CheckBook, Costs and Better. Conditions: lengths that fit.
-/
import Derived.Test.YtlimahhonfckdaaGreatDoorPxU65
import Derived.Test.YtlimahhonfckdaaGreatDoorRuH
namespace Go.Aw
set_option linter.unusedSimpArgs false
set_option linter.unusedVariables false
open Go.RowKit Go.Proofs
set_option maxRecDepth 100000

theorem q22 (b : List Lw) (w : Int) (ht : treesOk b w) (hbl : b.length ≤ 1000000) : PD Tryz.prog 22 [.sl (b.map encLw), .int .i64 w] (.d (.int .i64 (bkE b w))) := by
  have hq : ∀ row, row ∈ b.map encLw → row.length = 2 := fun row hr => by obtain ⟨_, _, rfl⟩ := List.mem_map.1 hr; rfl
  refine pd_of (fn := Tryz.f22) [.tmp 4] (by kernel_rfl) rfl (by kernel_rfl) (Nat.le_of_ble_eq_true rfl) (by kernel_rfl) rfl rfl ?_
  refine awp_seq ?_
  refine awpF_region ?_; intro K hK; simp only [push_cast, seval]; (try simp (disch := omega) only [wrapI]); (repeat ((with_reducible refine And.intro ?_ ?_); (focus (exact ob1)))); refine hK _ ?_; clear hK K
  refine awp_seq ?_
  refine awp_seq ?_
  refine awpF_region ?_; intro K hK; simp only [push_cast, seval]; (try simp (disch := omega) only [wrapI]); (repeat ((with_reducible refine And.intro ?_ ?_); (focus (exact ob1)))); refine hK _ ?_; clear hK K
  apply awp_cond; (focus (simp only [push_cast, seval]; rfl))
  · intro h1; (try simp only [decide_eq_true_eq, decide_eq_false_iff_not, Bool.not_eq_true', Bool.not_eq_false', Bool.and_eq_true, Bool.or_eq_true, Bool.not_eq_true] at h1)
    refine awp_seq ?_
    refine awpF_region ?_; intro K hK; simp only [push_cast, seval]; (try simp (disch := omega) only [wrapI]); (repeat ((with_reducible refine And.intro ?_ ?_); (focus (exact ob1)))); refine hK _ ?_; clear hK K
    refine awp_ret ?_; (repeat (first | refine then_ret ?_ | refine inblock_ret ?_ | refine nogoto_ret ?_)); refine fin_of (by simp only [push_cast, seval]; first | done | rfl) ob1 ?_
    rw [bkE, if_pos (by omega)]
  intro h1; (try simp only [decide_eq_true_eq, decide_eq_false_iff_not, Bool.not_eq_true', Bool.not_eq_false', Bool.and_eq_true, Bool.or_eq_true, Bool.not_eq_true] at h1)
  refine awp_skip ?_
  have hbk : bkE b w = if lwsE w b ≠ 0 then lwsE w b else if w < 1 ∨ 12 < w then 2 else 0 := by rw [bkE, if_neg (by omega)]
  refine awp_seq ?_
  refine awp_seq ?_
  refine awpF_region ?_; intro K hK; simp only [push_cast, seval]; (try simp (disch := omega) only [wrapI]); (repeat ((with_reducible refine And.intro ?_ ?_); (focus (exact ob1)))); refine hK _ ?_; clear hK K
  refine awp_block ?_
  refine awp_loopP (α := Nat) (st := fun i => ⟨[(0, .d (.sl (b.map encLw))), (1, .d (.int .i64 w)), (5, .d (.int .i64 i))], []⟩)
    (inv := fun i => i ≤ b.length ∧ ∀ l, l ∈ b.take i → lwE l w = 0) (μ := fun i => b.length - i) (x0 := 0) (r0 := []) ⟨Nat.zero_le _, by simp⟩ ?_ ?_
  · exact ⟨by simp, by simp, by simp [push_cast, seval], by simp [push_cast, seval], by simp [push_cast, seval], by simp [push_cast, seval]⟩
  rintro i ⟨hi, hall⟩
  have hdr := lwsE_drop hall
  refine awp_seq ?_
  refine awp_seq ?_
  refine awpF_region ?_; intro K hK; simp only [push_cast, seval]; (try simp (disch := omega) only [wrapI]); (repeat ((with_reducible refine And.intro ?_ ?_); (focus (exact ob1)))); refine hK _ ?_; clear hK K
  apply awp_cond; (focus (simp only [push_cast, seval]; rfl))
  · intro h2; (try simp only [decide_eq_true_eq, decide_eq_false_iff_not, Bool.not_eq_true', Bool.not_eq_false', Bool.and_eq_true, Bool.or_eq_true, Bool.not_eq_true] at h2)
    have hlt : i < b.length := by omega
    obtain ⟨l, hl⟩ : ∃ l, b[i]? = some l := ⟨_, List.getElem?_eq_getElem hlt⟩
    have hmem := List.mem_of_getElem? hl
    rw [List.drop_eq_getElem_cons hlt, show b[i] = l from (List.getElem?_eq_some_iff.1 hl).2, lwsE] at hdr
    obtain ⟨rk, nodes, tree⟩ := l
    have h16 := p17 nodes w tree (ht _ hmem).1 (ht _ hmem).2
    have hbad : lwE ⟨rk, nodes, tree⟩ w ≠ 0 → bkE b w = lwE ⟨rk, nodes, tree⟩ w := fun h => by
      rw [if_neg h] at hdr
      rw [hbk, hdr, if_pos h]
    have hle : lwE ⟨rk, nodes, tree⟩ w = if rk < 0 ∨ 9 < rk then 2 else chkE nodes w tree := rfl
    generalize chkE nodes w tree = ce at *
    refine awp_skip ?_
    refine awp_seq ?_
    refine awp_block ?_
    refine awp_seq ?_
    refine awp_seq ?_
    refine awpF_region ?_; intro K hK; simp only [push_cast, seval, hl, encLw, Int.toNat_natCast]
    generalize e1 : decide (rk < 0) = b1
    generalize e2 : decide (rk > 9) = b2
    repeat ((with_reducible refine And.intro ?_ ?_); (focus (first | (exact ob1) | (cases b1 <;> simp; done))))
    refine hK _ ?_; clear hK K
    have hr : (rk < 0 ∨ 9 < rk) ↔ (bif b1 then true else b2) = true := by
      rw [← e1, ← e2]
      by_cases h : rk < 0 <;> by_cases h' : 9 < rk <;> simp [h, h']
    clear e1 e2
    apply awp_cond; (focus (simp only [push_cast, seval]; rfl))
    · intro h3
      rw [if_pos (hr.2 h3)] at hle
      refine awp_seq ?_
      refine awpF_region ?_; intro K hK; simp only [push_cast, seval]; (try simp (disch := omega) only [wrapI]); (repeat ((with_reducible refine And.intro ?_ ?_); (focus (exact ob1)))); refine hK _ ?_; clear hK K
      refine awp_ret ?_; (repeat (first | refine then_ret ?_ | refine inblock_ret ?_ | refine nogoto_ret ?_)); refine fin_of (by simp only [push_cast, seval]; first | done | rfl) ob1 ?_
      rw [hbad (by rw [hle]; decide), hle]
    · intro h3
      rw [if_neg (fun h => by rw [hr.1 h] at h3; cases h3)] at hle
      refine awp_skip ?_
      refine awp_seq ?_
      refine awpF_region ?_; intro K hK; simp only [push_cast, seval, hl, encLw, Int.toNat_natCast]
      (repeat ((with_reducible refine And.intro ?_ ?_); (focus (exact ob1))))
      refine CallK.pd (h16) ?_; simp only [push_cast, seval]; (try simp (disch := omega) only [wrapI]); (repeat ((with_reducible refine And.intro ?_ ?_); (focus (exact ob1))))
      refine hK _ ?_; clear hK K
      refine awp_seq ?_
      refine awpF_region ?_; intro K hK; simp only [push_cast, seval]; (try simp (disch := omega) only [wrapI]); (repeat ((with_reducible refine And.intro ?_ ?_); (focus (exact ob1)))); refine hK _ ?_; clear hK K
      apply awp_cond; (focus (simp only [push_cast, seval]; rfl))
      · intro h4
        have h4' : ce ≠ 0 := by simpa using h4
        refine awp_seq ?_
        refine awpF_region ?_; intro K hK; simp only [push_cast, seval]; (try simp (disch := omega) only [wrapI]); (repeat ((with_reducible refine And.intro ?_ ?_); (focus (exact ob1)))); refine hK _ ?_; clear hK K
        refine awp_ret ?_; (repeat (first | refine then_ret ?_ | refine inblock_ret ?_ | refine nogoto_ret ?_)); refine fin_of (by simp only [push_cast, seval]; first | done | rfl) ob1 ?_
        rw [hbad (by rw [hle]; exact h4'), hle]
      · intro h4
        have h4' : ce = 0 := by simpa using h4
        refine awp_skip ?_
        refine inblock_norm ?_
        refine awpF_region ?_; intro K hK; simp only [push_cast, seval]; (try simp (disch := omega) only [wrapI]); (repeat ((with_reducible refine And.intro ?_ ?_); (focus (exact ob1)))); refine hK _ ?_; clear hK K
        refine round_endG (i + 1) [] ⟨by omega, ⟨by omega, fun m hm => ?_⟩, ?_⟩
        · rw [List.take_add_one, hl] at hm
          simp only [Option.toList_some, List.mem_append, List.mem_singleton] at hm
          rcases hm with hm | rfl
          · exact hall m hm
          · rw [hle, h4']
        · push_cast
          exact ⟨by simp, by simp, by simp [push_cast, seval], by simp [push_cast, seval], by simp [push_cast, seval], by simp [push_cast, seval]⟩
  · intro h2; (try simp only [decide_eq_true_eq, decide_eq_false_iff_not, Bool.not_eq_true', Bool.not_eq_false', Bool.and_eq_true, Bool.or_eq_true, Bool.not_eq_true] at h2)
    obtain rfl : i = b.length := by omega
    rw [List.take_length] at hall
    rw [lwsE_none hall, if_neg (by simp)] at hbk
    rw [hbk]
    refine awp_exit ?_; (repeat (first | refine then_exit ?_ | refine inblock_other (by decide) ?_)); refine inblock_same ?_
    refine awp_seq ?_
    refine awp_seq ?_
    refine awpF_region ?_; intro K hK; simp only [push_cast, seval]; (try simp (disch := omega) only [wrapI]); (repeat ((with_reducible refine And.intro ?_ ?_); (focus (exact ob1)))); refine hK _ ?_; clear hK K
    apply awp_cond; (focus (simp only [push_cast, seval]; rfl))
    · intro h3
      refine awp_seq ?_
      refine awpF_region ?_; intro K hK; simp only [push_cast, seval]; (try simp (disch := omega) only [wrapI]); (repeat ((with_reducible refine And.intro ?_ ?_); (focus (exact ob1)))); refine hK _ ?_; clear hK K
      refine awp_ret ?_; (repeat (first | refine then_ret ?_ | refine inblock_ret ?_ | refine nogoto_ret ?_)); refine fin_of (by simp only [push_cast, seval]; first | done | rfl) ob1 ?_
      rw [if_pos (by
        rw [bif_or] at h3
        simp at h3
        omega)]
    · intro h3
      refine awp_skip ?_
      refine awp_seq ?_
      refine awpF_region ?_; intro K hK; simp only [push_cast, seval]; (try simp (disch := omega) only [wrapI]); (repeat ((with_reducible refine And.intro ?_ ?_); (focus (exact ob1)))); refine hK _ ?_; clear hK K
      refine awp_ret ?_; (repeat (first | refine then_ret ?_ | refine inblock_ret ?_ | refine nogoto_ret ?_)); refine fin_of (by simp only [push_cast, seval]; first | done | rfl) ob1 ?_
      rw [if_neg (by
        rw [bif_or] at h3
        simp at h3
        omega)]
theorem costs_get (c : List Int) (r : Nat) (hr : r < c.length) : c[r]? = some (c.getD r 0) := by
  simp [List.getD_eq_getElem?_getD, hr]
theorem costs_set (c : List Int) (r : Nat) (x : Int) : (c.map encI).set r [.int .i64 x] = (c.set r x).map encI := by rw [List.map_set]; rfl
theorem q18 (b : List Lw) (w : Int) (T : List (List Int)) (ht : treesOk b w) (hb : b.length ≤ 1000000) (hT : T.length ≤ 1000000) : PD Tryz.prog 18 [.sl (b.map encLw), .int .i64 w, .sl (T.map encR)] (.tup [.d (.sl ((csV b w T).map encI)), .d (.int .i64 (coE b w T))]) := by
  have h22 := q22 b w ht hb
  have h21 := p21 T w
  have hq : ∀ row, row ∈ b.map encLw → row.length = 2 := fun row hr => by obtain ⟨_, _, rfl⟩ := List.mem_map.1 hr; rfl
  by_cases hbe : bkE b w = 0
  · obtain ⟨hb8, hall, hw⟩ := book_facts hbe
    by_cases htr : trE T w = 0
    · obtain ⟨_, _, hT4, _⟩ := tr_facts htr
      have e1 : coE b w T = 0 := by rw [coE, hbe, if_neg (by simp), htr]
      have e2 : csV b w T = costL T b z10 := by rw [csV, if_pos e1]; rfl
      rw [e1, e2]
      rw [hbe] at h22
      rw [htr] at h21
      refine pdv_of (fn := Tryz.f18) [.tmp 6, .tmp 7] (by kernel_rfl) rfl (by kernel_rfl) (Nat.le_of_ble_eq_true rfl) (by kernel_rfl) rfl ?_
      (repeat' (first | refine awp_seq ?_ | refine awp_skip ?_ | refine awp_block ?_ | ((first | ((fail_if_success refine awpF_region (id := 7) ?_); refine awpF_region ?_; intro K hK) | refine CallK.pd (h22) ?_ | refine CallK.pg (fun _ => h22) ?_ | refine CallK.pd (h21) ?_ | refine CallK.pg (fun _ => h21) ?_); simp only [push_cast, seval, bne_self_eq_false]; (try simp (disch := omega) only [wrapI]); (repeat ((with_reducible refine And.intro ?_ ?_); (focus (exact ob1))))) | (refine hK _ ?_; clear hK K) | (apply awp_cond; (focus (simp only [push_cast, seval]; rfl))) | (with_reducible intro hb; exfalso; revert hb; simp [bne_self_eq_false]; done) | (with_reducible intro hb; exfalso; (try simp only [decide_eq_true_eq, decide_eq_false_iff_not, Bool.not_eq_true', Bool.not_eq_false', Bool.and_eq_true, Bool.or_eq_true, Bool.not_eq_true] at hb); omega; done) | (with_reducible intro hb; (try simp only [decide_eq_true_eq, decide_eq_false_iff_not, Bool.not_eq_true', Bool.not_eq_false', Bool.and_eq_true, Bool.or_eq_true, Bool.not_eq_true] at hb)) | (refine awp_exit ?_; (repeat (first | refine then_exit ?_ | refine inblock_other (by decide) ?_)); refine inblock_same ?_) | (refine awp_ret ?_; (repeat (first | refine then_ret ?_ | refine inblock_ret ?_ | refine nogoto_ret ?_)); refine fin_of (by simp only [push_cast, seval, bne_self_eq_false]; first | done | rfl) ob1 ?_) | (refine inblock_norm ?_)))
      refine awpF_region ?_; intro K hK; simp only [push_cast, seval]; (try simp (disch := omega) only [wrapI]); (repeat ((with_reducible refine And.intro ?_ ?_); (focus (exact ob1)))); refine hK _ ?_; clear hK K
      refine awp_seq ?_
      refine awp_seq ?_
      refine awpF_region ?_; intro K hK; simp only [push_cast, seval]; (try simp (disch := omega) only [wrapI]); (repeat ((with_reducible refine And.intro ?_ ?_); (focus (exact ob1)))); refine hK _ ?_; clear hK K
      refine awp_block ?_
      refine awp_loopP (α := Nat) (st := fun i => ⟨[(0, .d (.sl (b.map encLw))), (2, .d (.sl (T.map encR))), (10, .ref 0 0 10), (11, .d (.int .i64 i))], [.data 1 ((costL T (b.take i) z10).map encI)]⟩)
        (inv := fun i => i ≤ b.length) (μ := fun i => b.length - i) (x0 := 0) (r0 := [0]) (Nat.zero_le _) ?_ ?_
      · rw [List.take_zero, costL_nil, show z10.map encI = [[.int .i64 0], [.int .i64 0], [.int .i64 0], [.int .i64 0], [.int .i64 0], [.int .i64 0], [.int .i64 0], [.int .i64 0], [.int .i64 0], [.int .i64 0]] from rfl]
        exact ⟨by simp, by simp, by simp [push_cast, seval], by simp [push_cast, seval], by simp [push_cast, seval], by simp [push_cast, seval]⟩
      intro i hi
      refine awp_seq ?_
      refine awp_seq ?_
      refine awpF_region ?_; intro K hK; simp only [push_cast, seval]; (try simp (disch := omega) only [wrapI]); (repeat ((with_reducible refine And.intro ?_ ?_); (focus (exact ob1)))); refine hK _ ?_; clear hK K
      apply awp_cond; (focus (simp only [push_cast, seval]; rfl))
      · intro h2; (try simp only [decide_eq_true_eq, decide_eq_false_iff_not, Bool.not_eq_true', Bool.not_eq_false', Bool.and_eq_true, Bool.or_eq_true, Bool.not_eq_true] at h2)
        have hlt : i < b.length := by omega
        obtain ⟨l, hl⟩ : ∃ l, b[i]? = some l := ⟨_, List.getElem?_eq_getElem hlt⟩
        have hmem := List.mem_of_getElem? hl
        have hstep := costL_take T b i l z10 hl
        have hlen : (costL T (b.take i) z10).length = 10 := costL_len T _ _
        obtain ⟨hr0, hr9, hch⟩ := law_facts (hall l hmem)
        obtain ⟨rk, nodes, tree⟩ := l
        simp only at hr0 hr9 hch
        obtain ⟨r, rfl⟩ : ∃ r : Nat, rk = r := ⟨rk.toNat, by omega⟩
        simp only [Int.toNat_natCast] at hstep
        have hs := chk_sh hch
        obtain ⟨t1, t2⟩ := (ht _ hmem).2 hs
        simp only at t1 t2
        obtain ⟨hf40, hno, _⟩ := sh_facts hs
        have h52 := p52 nodes T tree ⟨t1, by rw [List.drop_zero, Nat.zero_add, ← t2, List.drop_length, List.append_nil]⟩ (by rw [t2]) (by omega) (by omega) hno (fun n hn h2 => cols_of (firstE_mem hs n hn) h2 htr)
        have hcs0 : ∀ x, x ∈ costL T (b.take i) z10 → 0 ≤ x ∧ x ≤ 0 + 400 * ((b.take i).length : Int) := costL_bd (by omega) (b.take i) z10 0 (by decide) fun x hx => by
          rw [(List.mem_replicate.1 hx).2]
          decide
        have htl : (b.take i).length ≤ 8 := by rw [List.length_take]; omega
        generalize costL T (b.take i) z10 = cs at *
        have hcb : ∀ j, j ≤ T.length → 0 ≤ (addC cs r (cntV tree T j)).getD r 0 ∧ (addC cs r (cntV tree T j)).getD r 0 ≤ 4000 := fun j hj => by
          have h1 := addC_bd (r := r) (k := cntV tree T j) (M := 3200) (N := 400) (fun x hx => ⟨(hcs0 x hx).1, by have := (hcs0 x hx).2; omega⟩) (by have := cntV_le tree T j; omega) (by decide) (by decide)
          rw [List.getD_eq_getElem?_getD]
          cases hc : (addC cs r (cntV tree T j))[r]? with
          | none => decide
          | some y =>
            have := h1 y (List.mem_of_getElem? hc)
            exact ⟨this.1, by have := this.2; simp only [Option.getD_some]; omega⟩
        refine awp_skip ?_
        refine awp_seq ?_
        refine awp_block ?_
        refine awp_seq ?_
        refine awpF_region ?_; intro K hK; simp only [push_cast, seval, hl, encLw, Int.toNat_natCast]
        (repeat ((with_reducible refine And.intro ?_ ?_); (focus (exact ob1))))
        refine CallK.pd (h52) ?_; simp only [push_cast, seval]; (try simp (disch := omega) only [wrapI]); (repeat ((with_reducible refine And.intro ?_ ?_); (focus (exact ob1))))
        refine hK _ ?_; clear hK K
        refine awp_seq ?_
        refine awpF_region ?_; intro K hK; simp only [push_cast, seval]; (try simp (disch := omega) only [wrapI]); (repeat ((with_reducible refine And.intro ?_ ?_); (focus (exact ob1)))); refine hK _ ?_; clear hK K
        refine awp_block ?_
        refine awp_loopP (α := Nat) (st := fun j => ⟨[(0, .d (.sl (b.map encLw))), (2, .d (.sl (T.map encR))), (10, .ref 0 0 10), (11, .d (.int .i64 i)), (12, .d (.sl ((vdRow T tree).map encI))), (13, .d (.int .i64 j))], [.data 1 ((addC cs r (cntV tree T j)).map encI)]⟩)
          (inv := fun j => j ≤ T.length) (μ := fun j => T.length - j) (x0 := 0) (r0 := [0]) (Nat.zero_le _) ?_ ?_
        · rw [cntV_zero, addC_zero cs r (by omega)]
          exact ⟨by simp, by simp, by simp [push_cast, seval], by simp [push_cast, seval], by simp [push_cast, seval], by simp [push_cast, seval]⟩
        intro j hj
        refine awp_seq ?_
        refine awp_seq ?_
        refine awpF_region ?_; intro K hK; simp only [push_cast, seval]; (try simp (disch := omega) only [wrapI]); (repeat ((with_reducible refine And.intro ?_ ?_); (focus (exact ob1)))); refine hK _ ?_; clear hK K
        apply awp_cond; (focus (simp only [push_cast, seval]; rfl))
        · intro h3; (try simp only [decide_eq_true_eq, decide_eq_false_iff_not, Bool.not_eq_true', Bool.not_eq_false', Bool.and_eq_true, Bool.or_eq_true, Bool.not_eq_true] at h3)
          have hjl : j < T.length := by omega
          have hvr := vdRow_get T tree j
          rw [Nat.min_eq_left (by omega)] at hvr
          have hcst := cntV_step tree T j
          have hvl := vdRow_len T tree
          generalize vd tree T j = v at *
          have hal : (addC cs r (cntV tree T j)).length = 10 := by rw [addC_len, hlen]
          have hset : (addC cs r (cntV tree T j)).set r ((addC cs r (cntV tree T j)).getD r 0 + 1) = addC cs r (cntV tree T j + 1) := addC_set cs r (cntV tree T j) 1 (by omega)
          have hget := costs_get (addC cs r (cntV tree T j)) r (by omega)
          have hbd : 0 ≤ (addC cs r (cntV tree T j)).getD r 0 ∧ (addC cs r (cntV tree T j)).getD r 0 ≤ 4000 := hcb j (by omega)
          generalize (addC cs r (cntV tree T j)).getD r 0 = g at *
          refine awp_skip ?_
          refine awp_seq ?_
          refine awp_block ?_
          refine awp_seq ?_
          refine awpF_region ?_; intro K hK; simp only [push_cast, seval, hvr, encI, Int.toNat_natCast]; (try simp (disch := omega) only [wrapI]); (repeat ((with_reducible refine And.intro ?_ ?_); (focus (exact ob1)))); refine hK _ ?_; clear hK K
          apply awp_cond; (focus (simp only [push_cast, seval]; rfl))
          · intro h4
            have h4' : v = 0 := by simpa using h4
            rw [if_pos h4'] at hcst
            refine awpF_region ?_; intro K hK; simp only [push_cast, seval, hl, encLw, encI, Int.toNat_natCast, hget]; (try simp (disch := omega) only [wrapI]); (repeat ((with_reducible refine And.intro ?_ ?_); (focus (exact ob1)))); refine hK _ ?_; clear hK K
            rw [costs_set, hset]
            refine inblock_norm ?_
            refine awpF_region ?_; intro K hK; simp only [push_cast, seval]; (try simp (disch := omega) only [wrapI]); (repeat ((with_reducible refine And.intro ?_ ?_); (focus (exact ob1)))); refine hK _ ?_; clear hK K
            refine round_endG (j + 1) [0] ⟨by omega, by omega, ?_⟩
            rw [hcst]
            push_cast
            exact ⟨by simp, by simp, by simp [push_cast, seval], by simp [push_cast, seval], by simp [push_cast, seval], by simp [push_cast, seval]⟩
          · intro h4
            have h4' : v ≠ 0 := by simpa using h4
            rw [if_neg h4', Nat.add_zero] at hcst
            refine awp_skip ?_
            refine inblock_norm ?_
            refine awpF_region ?_; intro K hK; simp only [push_cast, seval]; (try simp (disch := omega) only [wrapI]); (repeat ((with_reducible refine And.intro ?_ ?_); (focus (exact ob1)))); refine hK _ ?_; clear hK K
            refine round_endG (j + 1) [0] ⟨by omega, by omega, ?_⟩
            rw [hcst]
            push_cast
            exact ⟨by simp, by simp, by simp [push_cast, seval], by simp [push_cast, seval], by simp [push_cast, seval], by simp [push_cast, seval]⟩
        · intro h3; (try simp only [decide_eq_true_eq, decide_eq_false_iff_not, Bool.not_eq_true', Bool.not_eq_false', Bool.and_eq_true, Bool.or_eq_true, Bool.not_eq_true] at h3)
          obtain rfl : j = T.length := by omega
          refine awp_exit ?_; (repeat (first | refine then_exit ?_ | refine inblock_other (by decide) ?_)); refine inblock_same ?_
          refine awpF_region ?_; intro K hK; simp only [push_cast, seval]; (try simp (disch := omega) only [wrapI]); (repeat ((with_reducible refine And.intro ?_ ?_); (focus (exact ob1)))); refine hK _ ?_; clear hK K
          refine round_endG (i + 1) [0] ⟨by omega, by omega, ?_⟩
          rw [hstep]
          push_cast
          exact ⟨by simp, by simp, by simp [push_cast, seval], by simp [push_cast, seval], by simp [push_cast, seval], by simp [push_cast, seval]⟩
      · intro h2; (try simp only [decide_eq_true_eq, decide_eq_false_iff_not, Bool.not_eq_true', Bool.not_eq_false', Bool.and_eq_true, Bool.or_eq_true, Bool.not_eq_true] at h2)
        obtain rfl : i = b.length := by omega
        rw [List.take_length]
        refine awp_exit ?_; (repeat (first | refine then_exit ?_ | refine inblock_other (by decide) ?_)); refine inblock_same ?_
        refine awp_seq ?_
        refine awpF_region ?_; intro K hK; simp only [push_cast, seval]; (try simp (disch := omega) only [wrapI]); (repeat ((with_reducible refine And.intro ?_ ?_); (focus (exact ob1)))); refine hK _ ?_; clear hK K
        refine awp_ret ?_; (repeat (first | refine then_ret ?_ | refine inblock_ret ?_ | refine nogoto_ret ?_)); refine fin_of (by simp only [push_cast, seval]; first | done | rfl) ob1 ?_
        exact DeepV.tups (DeepV.cons (DeepV.row rfl (by simp [costL_len]; rfl)) (DeepV.cons (.dd _) DeepV.nils))
    · have e1 : coE b w T = trE T w := by rw [coE, hbe, if_neg (by simp)]
      have e2 : csV b w T = [] := by rw [csV, e1, if_neg htr]
      have hb1 : (trE T w != 0) = true := by simpa using htr
      rw [e1, e2]
      rw [hbe] at h22
      generalize trE T w = e at *
      refine pdv_of (fn := Tryz.f18) [.tmp 6, .tmp 7] (by kernel_rfl) rfl (by kernel_rfl) (Nat.le_of_ble_eq_true rfl) (by kernel_rfl) rfl ?_
      (repeat' (first | refine awp_seq ?_ | refine awp_skip ?_ | refine awp_block ?_ | ((first | (refine awpF_region ?_; intro K hK) | refine CallK.pd (h22) ?_ | refine CallK.pg (fun _ => h22) ?_ | refine CallK.pd (h21) ?_ | refine CallK.pg (fun _ => h21) ?_); simp only [push_cast, seval, bne_self_eq_false, hb1]; (try simp (disch := omega) only [wrapI]); (repeat ((with_reducible refine And.intro ?_ ?_); (focus (exact ob1))))) | (refine hK _ ?_; clear hK K) | (apply awp_cond; (focus (simp only [push_cast, seval]; rfl))) | (with_reducible intro hb; exfalso; revert hb; simp [bne_self_eq_false, hb1]; done) | (with_reducible intro hb; exfalso; (try simp only [decide_eq_true_eq, decide_eq_false_iff_not, Bool.not_eq_true', Bool.not_eq_false', Bool.and_eq_true, Bool.or_eq_true, Bool.not_eq_true] at hb); omega; done) | (with_reducible intro hb; (try simp only [decide_eq_true_eq, decide_eq_false_iff_not, Bool.not_eq_true', Bool.not_eq_false', Bool.and_eq_true, Bool.or_eq_true, Bool.not_eq_true] at hb)) | (refine awp_exit ?_; (repeat (first | refine then_exit ?_ | refine inblock_other (by decide) ?_)); refine inblock_same ?_) | (refine awp_ret ?_; (repeat (first | refine then_ret ?_ | refine inblock_ret ?_ | refine nogoto_ret ?_)); refine fin_of (by simp only [push_cast, seval, bne_self_eq_false, hb1]; first | done | rfl) ob1 ?_) | (refine inblock_norm ?_)))
      exact DeepV.tups (DeepV.cons .nil (DeepV.cons (.dd _) DeepV.nils))
  · have e1 : coE b w T = bkE b w := by rw [coE, if_pos hbe]
    have e2 : csV b w T = [] := by rw [csV, e1, if_neg hbe]
    have hb1 : (bkE b w != 0) = true := by simpa using hbe
    rw [e1, e2]
    generalize bkE b w = e at *
    refine pdv_of (fn := Tryz.f18) [.tmp 6, .tmp 7] (by kernel_rfl) rfl (by kernel_rfl) (Nat.le_of_ble_eq_true rfl) (by kernel_rfl) rfl ?_
    (repeat' (first | refine awp_seq ?_ | refine awp_skip ?_ | refine awp_block ?_ | ((first | (refine awpF_region ?_; intro K hK) | refine CallK.pd (h22) ?_ | refine CallK.pg (fun _ => h22) ?_); simp only [push_cast, seval, hb1]; (try simp (disch := omega) only [wrapI]); (repeat ((with_reducible refine And.intro ?_ ?_); (focus (exact ob1))))) | (refine hK _ ?_; clear hK K) | (apply awp_cond; (focus (simp only [push_cast, seval]; rfl))) | (with_reducible intro hb; exfalso; revert hb; simp [hb1]; done) | (with_reducible intro hb; exfalso; (try simp only [decide_eq_true_eq, decide_eq_false_iff_not, Bool.not_eq_true', Bool.not_eq_false', Bool.and_eq_true, Bool.or_eq_true, Bool.not_eq_true] at hb); omega; done) | (with_reducible intro hb; (try simp only [decide_eq_true_eq, decide_eq_false_iff_not, Bool.not_eq_true', Bool.not_eq_false', Bool.and_eq_true, Bool.or_eq_true, Bool.not_eq_true] at hb)) | (refine awp_exit ?_; (repeat (first | refine then_exit ?_ | refine inblock_other (by decide) ?_)); refine inblock_same ?_) | (refine awp_ret ?_; (repeat (first | refine then_ret ?_ | refine inblock_ret ?_ | refine nogoto_ret ?_)); refine fin_of (by simp only [push_cast, seval, hb1]; first | done | rfl) ob1 ?_) | (refine inblock_norm ?_)))
    exact DeepV.tups (DeepV.cons .nil (DeepV.cons (.dd _) DeepV.nils))
theorem q20 (b : List Lw) (w : Int) (S T : List (List Int)) (ht : treesOk b w) (hb : b.length ≤ 1000000) (hS : S.length ≤ 1000000) (hT : T.length ≤ 1000000) : PD Tryz.prog 20 [.sl (b.map encLw), .int .i64 w, .sl (S.map encR), .sl (T.map encR)] (.tup [.d (.int .i64 (btV b w S T)), .d (.int .i64 (btE b w S T))]) := by
  have h1 := q18 b w S ht hb hS
  have h2 := q18 b w T ht hb hT
  by_cases he1 : coE b w S = 0
  · by_cases he2 : coE b w T = 0
    · have eE : btE b w S T = 0 := by rw [btE, if_neg (by simpa using he1), he2]
      have eV : btV b w S T = cmpL (costV b S) (costV b T) := by rw [btV, if_pos eE]
      have l1 := costV_len b S
      have l2 := costV_len b T
      rw [csV, if_pos he1, he1] at h1
      rw [csV, if_pos he2, he2] at h2
      rw [eE, eV]
      generalize costV b S = xs at *
      generalize costV b T = ys at *
      refine pd_of (fn := Tryz.f20) [.tmp 8, .tmp 9] (by kernel_rfl) rfl (by kernel_rfl) (Nat.le_of_ble_eq_true rfl) (by kernel_rfl) rfl rfl ?_
      (repeat' (first | refine awp_seq ?_ | refine awp_skip ?_ | refine awp_block ?_ | ((first | ((fail_if_success refine awpF_region (id := 7) ?_); refine awpF_region ?_; intro K hK) | (refine awpF_draw (id := 10) [0,1,2,3,4,5,6,7,8] (by kernel_rfl) (by kernel_rfl) rfl ?_; intro K hK) | (refine awpF_draw (id := 12) [0,1,2,3,4,5,6,7,8] (by kernel_rfl) (by kernel_rfl) rfl ?_; intro K hK) | refine CallK.pd (h1) ?_ | refine CallK.pg (fun _ => h1) ?_ | refine CallK.pd (h2) ?_ | refine CallK.pg (fun _ => h2) ?_); simp only [push_cast, seval, bne_self_eq_false]; (try simp (disch := omega) only [wrapI]); (repeat ((with_reducible refine And.intro ?_ ?_); (focus (exact ob1))))) | (refine hK _ ?_; clear hK K) | (apply awp_cond; (focus (simp only [push_cast, seval]; rfl))) | (with_reducible intro hb; exfalso; revert hb; simp [bne_self_eq_false]; done) | (with_reducible intro hb; exfalso; (try simp only [decide_eq_true_eq, decide_eq_false_iff_not, Bool.not_eq_true', Bool.not_eq_false', Bool.and_eq_true, Bool.or_eq_true, Bool.not_eq_true] at hb); omega; done) | (with_reducible intro hb; (try simp only [decide_eq_true_eq, decide_eq_false_iff_not, Bool.not_eq_true', Bool.not_eq_false', Bool.and_eq_true, Bool.or_eq_true, Bool.not_eq_true] at hb)) | (refine awp_exit ?_; (repeat (first | refine then_exit ?_ | refine inblock_other (by decide) ?_)); refine inblock_same ?_) | (refine awp_ret ?_; (repeat (first | refine then_ret ?_ | refine inblock_ret ?_ | refine nogoto_ret ?_)); refine fin_of (by simp only [push_cast, seval, bne_self_eq_false]; first | done | rfl) ob1 ?_) | (refine inblock_norm ?_)))
      refine awpF_region ?_; intro K hK; simp only [push_cast, seval]; (try simp (disch := omega) only [wrapI]); (repeat ((with_reducible refine And.intro ?_ ?_); (focus (exact ob1)))); refine hK _ ?_; clear hK K
      refine awp_block ?_
      refine awp_loopP (α := Nat) (st := fun i => ⟨[(10, .d (.sl (xs.map encI))), (12, .d (.sl (ys.map encI))), (13, .d (.int .i64 i))], []⟩)
        (inv := fun i => i ≤ 10 ∧ ∀ j, j < i → xs[j]? = ys[j]?) (μ := fun i => 10 - i) (x0 := 0) (r0 := []) ⟨Nat.zero_le _, fun j hj => absurd hj (Nat.not_lt_zero _)⟩ ?_ ?_
      · exact ⟨by simp, by simp, by simp [push_cast, seval], by simp [push_cast, seval], by simp [push_cast, seval], by simp [push_cast, seval]⟩
      rintro i ⟨hi, he⟩
      have hdr := cmpL_drop he
      refine awp_seq ?_
      refine awp_seq ?_
      refine awpF_region ?_; intro K hK; simp only [push_cast, seval]; (try simp (disch := omega) only [wrapI]); (repeat ((with_reducible refine And.intro ?_ ?_); (focus (exact ob1)))); refine hK _ ?_; clear hK K
      apply awp_cond; (focus (simp only [push_cast, seval]; rfl))
      · intro h3; (try simp only [decide_eq_true_eq, decide_eq_false_iff_not, Bool.not_eq_true', Bool.not_eq_false', Bool.and_eq_true, Bool.or_eq_true, Bool.not_eq_true] at h3)
        have hlt : i < 10 := by omega
        obtain ⟨x, hx⟩ : ∃ x, xs[i]? = some x := ⟨_, List.getElem?_eq_getElem (by omega)⟩
        obtain ⟨y, hy⟩ : ∃ y, ys[i]? = some y := ⟨_, List.getElem?_eq_getElem (by omega)⟩
        rw [List.drop_eq_getElem_cons (show i < xs.length by omega), List.drop_eq_getElem_cons (show i < ys.length by omega), show xs[i] = x from (List.getElem?_eq_some_iff.1 hx).2, show ys[i] = y from (List.getElem?_eq_some_iff.1 hy).2, cmpL] at hdr
        refine awp_skip ?_
        refine awp_seq ?_
        refine awp_block ?_
        refine awp_seq ?_
        refine awp_seq ?_
        refine awpF_draw [0,1,2,3,4,5,6,7,8] (by kernel_rfl) (by kernel_rfl) rfl ?_; intro K hK; simp only [push_cast, seval, hx, hy, encI, Int.toNat_natCast]
        (repeat ((with_reducible refine And.intro ?_ ?_); (focus (exact ob1))))
        refine hK _ ?_; clear hK K
        apply awp_cond; (focus (simp only [push_cast, seval]; rfl))
        · intro h4
          have h4' : x < y := by simpa using h4
          refine awp_seq ?_
          refine awpF_region ?_; intro K hK; simp only [push_cast, seval]; (try simp (disch := omega) only [wrapI]); (repeat ((with_reducible refine And.intro ?_ ?_); (focus (exact ob1)))); refine hK _ ?_; clear hK K
          refine awp_ret ?_; (repeat (first | refine then_ret ?_ | refine inblock_ret ?_ | refine nogoto_ret ?_)); refine fin_of (by simp only [push_cast, seval]; first | done | rfl) ob1 ?_
          rw [hdr, if_pos h4']
        intro h4
        have h4' : ¬ x < y := by simpa using h4
        rw [if_neg h4'] at hdr
        refine awp_skip ?_
        refine awp_seq ?_
        refine awpF_draw [0,1,2,3,4,5,6,7,8] (by kernel_rfl) (by kernel_rfl) rfl ?_; intro K hK; simp only [push_cast, seval, hx, hy, encI, Int.toNat_natCast]
        (repeat ((with_reducible refine And.intro ?_ ?_); (focus (exact ob1))))
        refine hK _ ?_; clear hK K
        apply awp_cond; (focus (simp only [push_cast, seval]; rfl))
        · intro h5
          have h5' : y < x := by simpa using h5
          refine awp_seq ?_
          refine awpF_region ?_; intro K hK; simp only [push_cast, seval]; (try simp (disch := omega) only [wrapI]); (repeat ((with_reducible refine And.intro ?_ ?_); (focus (exact ob1)))); refine hK _ ?_; clear hK K
          refine awp_ret ?_; (repeat (first | refine then_ret ?_ | refine inblock_ret ?_ | refine nogoto_ret ?_)); refine fin_of (by simp only [push_cast, seval]; first | done | rfl) ob1 ?_
          rw [hdr, if_pos h5']
        intro h5
        have h5' : ¬ y < x := by simpa using h5
        refine awp_skip ?_
        refine inblock_norm ?_
        refine awpF_region ?_; intro K hK; simp only [push_cast, seval]; (try simp (disch := omega) only [wrapI]); (repeat ((with_reducible refine And.intro ?_ ?_); (focus (exact ob1)))); refine hK _ ?_; clear hK K
        refine round_endG (i + 1) [] ⟨by omega, ⟨by omega, fun j hj => ?_⟩, ?_⟩
        · rcases Nat.lt_or_ge j i with h | h
          · exact he j h
          · obtain rfl : j = i := by omega
            rw [hx, hy]
            congr 1
            omega
        · push_cast
          exact ⟨by simp, by simp, by simp [push_cast, seval], by simp [push_cast, seval], by simp [push_cast, seval], by simp [push_cast, seval]⟩
      · intro h3; (try simp only [decide_eq_true_eq, decide_eq_false_iff_not, Bool.not_eq_true', Bool.not_eq_false', Bool.and_eq_true, Bool.or_eq_true, Bool.not_eq_true] at h3)
        obtain rfl : i = 10 := by omega
        rw [List.drop_of_length_le (by omega)] at hdr
        refine awp_exit ?_; (repeat (first | refine then_exit ?_ | refine inblock_other (by decide) ?_)); refine inblock_same ?_
        refine awp_seq ?_
        refine awpF_region ?_; intro K hK; simp only [push_cast, seval]; (try simp (disch := omega) only [wrapI]); (repeat ((with_reducible refine And.intro ?_ ?_); (focus (exact ob1)))); refine hK _ ?_; clear hK K
        refine awp_ret ?_; (repeat (first | refine then_ret ?_ | refine inblock_ret ?_ | refine nogoto_ret ?_)); refine fin_of (by simp only [push_cast, seval]; first | done | rfl) ob1 ?_
        rw [hdr]
        rfl
    · have eE : btE b w S T = coE b w T := by rw [btE, if_neg (by simpa using he1)]
      have eV : btV b w S T = 0 := by rw [btV, eE, if_neg he2]
      have hb1 : (coE b w T != 0) = true := by simpa using he2
      rw [eE, eV]
      rw [he1] at h1
      generalize coE b w T = e at *
      refine pd_of (fn := Tryz.f20) [.tmp 8, .tmp 9] (by kernel_rfl) rfl (by kernel_rfl) (Nat.le_of_ble_eq_true rfl) (by kernel_rfl) rfl rfl ?_
      (repeat' (first | refine awp_seq ?_ | refine awp_skip ?_ | refine awp_block ?_ | ((first | (refine awpF_region ?_; intro K hK) | (refine awpF_draw (id := 10) [0,1,2,3,4,5,6,7,8] (by kernel_rfl) (by kernel_rfl) rfl ?_; intro K hK) | (refine awpF_draw (id := 12) [0,1,2,3,4,5,6,7,8] (by kernel_rfl) (by kernel_rfl) rfl ?_; intro K hK) | refine CallK.pd (h1) ?_ | refine CallK.pg (fun _ => h1) ?_ | refine CallK.pd (h2) ?_ | refine CallK.pg (fun _ => h2) ?_); simp only [push_cast, seval, bne_self_eq_false, hb1]; (try simp (disch := omega) only [wrapI]); (repeat ((with_reducible refine And.intro ?_ ?_); (focus (exact ob1))))) | (refine hK _ ?_; clear hK K) | (apply awp_cond; (focus (simp only [push_cast, seval]; rfl))) | (with_reducible intro hb; exfalso; revert hb; simp [bne_self_eq_false, hb1]; done) | (with_reducible intro hb; exfalso; (try simp only [decide_eq_true_eq, decide_eq_false_iff_not, Bool.not_eq_true', Bool.not_eq_false', Bool.and_eq_true, Bool.or_eq_true, Bool.not_eq_true] at hb); omega; done) | (with_reducible intro hb; (try simp only [decide_eq_true_eq, decide_eq_false_iff_not, Bool.not_eq_true', Bool.not_eq_false', Bool.and_eq_true, Bool.or_eq_true, Bool.not_eq_true] at hb)) | (refine awp_exit ?_; (repeat (first | refine then_exit ?_ | refine inblock_other (by decide) ?_)); refine inblock_same ?_) | (refine awp_ret ?_; (repeat (first | refine then_ret ?_ | refine inblock_ret ?_ | refine nogoto_ret ?_)); refine fin_of (by simp only [push_cast, seval, bne_self_eq_false, hb1]; first | done | rfl) ob1 ?_) | (refine inblock_norm ?_)))
      rfl
  · have eE : btE b w S T = coE b w S := by rw [btE, if_pos he1]
    have eV : btV b w S T = 0 := by rw [btV, eE, if_neg he1]
    have hb1 : (coE b w S != 0) = true := by simpa using he1
    rw [eE, eV]
    generalize coE b w S = e at *
    refine pd_of (fn := Tryz.f20) [.tmp 8, .tmp 9] (by kernel_rfl) rfl (by kernel_rfl) (Nat.le_of_ble_eq_true rfl) (by kernel_rfl) rfl rfl ?_
    (repeat' (first | refine awp_seq ?_ | refine awp_skip ?_ | refine awp_block ?_ | ((first | (refine awpF_region ?_; intro K hK) | (refine awpF_draw (id := 10) [0,1,2,3,4,5,6,7,8] (by kernel_rfl) (by kernel_rfl) rfl ?_; intro K hK) | (refine awpF_draw (id := 12) [0,1,2,3,4,5,6,7,8] (by kernel_rfl) (by kernel_rfl) rfl ?_; intro K hK) | refine CallK.pd (h1) ?_ | refine CallK.pg (fun _ => h1) ?_); simp only [push_cast, seval, hb1]; (try simp (disch := omega) only [wrapI]); (repeat ((with_reducible refine And.intro ?_ ?_); (focus (exact ob1))))) | (refine hK _ ?_; clear hK K) | (apply awp_cond; (focus (simp only [push_cast, seval]; rfl))) | (with_reducible intro hb; exfalso; revert hb; simp [hb1]; done) | (with_reducible intro hb; exfalso; (try simp only [decide_eq_true_eq, decide_eq_false_iff_not, Bool.not_eq_true', Bool.not_eq_false', Bool.and_eq_true, Bool.or_eq_true, Bool.not_eq_true] at hb); omega; done) | (with_reducible intro hb; (try simp only [decide_eq_true_eq, decide_eq_false_iff_not, Bool.not_eq_true', Bool.not_eq_false', Bool.and_eq_true, Bool.or_eq_true, Bool.not_eq_true] at hb)) | (refine awp_exit ?_; (repeat (first | refine then_exit ?_ | refine inblock_other (by decide) ?_)); refine inblock_same ?_) | (refine awp_ret ?_; (repeat (first | refine then_ret ?_ | refine inblock_ret ?_ | refine nogoto_ret ?_)); refine fin_of (by simp only [push_cast, seval, hb1]; first | done | rfl) ob1 ?_) | (refine inblock_norm ?_)))
    rfl
end Go.Aw
