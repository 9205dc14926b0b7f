/-
  Contract of the reference's Hull. Conditions: none (what is not valid is refused).
-/
import Derived.Test.YtecindhbaekncaaPxH5i
import Derived.Test.YtecindhbaekncaaPcD
import Derived.Test.YtecindhbaekncaaPxH6a
namespace Go.Aw
set_option linter.unusedSimpArgs false
set_option linter.unusedVariables false
open Go.RowKit Go.Proofs Go.Rg

theorem hullK_len (ks : List Sp) : (hullK ks).length ≤ 2 * ks.length := by
  unfold hullK
  split
  · omega
  · have h1 := chainR_len ks
    have h2 := chainR_len ks.reverse
    simp only [List.length_append, List.length_reverse, List.length_tail] at h2 ⊢
    omega
theorem isHull_len {S H : List Sp} (h : isHull S H) : H.length ≤ 2 * S.length := by
  obtain ⟨ks, hk⟩ := keys_ex S
  have h1 := isHull_uniq h (isHull_mem hk.2 (hullK_law hk.1))
  have h2 := hullK_len ks
  have h3 := keys_len hk
  rw [h1]
  omega
/-- The reference's way around a hull. -/
theorem hull_walk {S H : List Sp} (hH : isHull S H) (hne : S ≠ []) : ∃ h t, H = h :: t ∧ h ∈ S ∧ (∀ r, r ∈ S → ¬ ltS r h) ∧
    (∀ k, k < H.length → S.foldl (nxt1 (atS H k)) (atS H k) = atS (H ++ [h]) (k + 1)) ∧ (∀ k, k + 1 < H.length → atS H (k + 1) ≠ h ∧ atS H (k + 1) ≠ atS H k) := by
  rcases hH with ⟨rfl, rfl⟩ | ⟨p, rfl, a2, a3⟩ | ⟨a, t, rfl, a2, a3, a4, a5, a6⟩
  · exact absurd rfl hne
  · refine ⟨p, [], rfl, a2, fun r hr => by rw [a3 r hr]; exact ltS_irrefl _, fun k hk => ?_, fun k hk => by simp at hk⟩
    obtain rfl : k = 0 := by simpa using hk
    exact nxt1_one a3
  · have hr : ∀ k, k < (a :: t).length → Nx S (atS (a :: t) k) (atS (a :: (t ++ [a])) (k + 1)) := fun k hk => by
      have := pathE_at a5 k (by simpa using hk)
      rwa [(atS_ring hk).1] at this
    refine ⟨a, t, rfl, a3, fun r hr h => ?_, fun k hk => ?_, fun k hk => ?_⟩
    · rcases a4 r hr with rfl | h'
      · exact ltS_irrefl _ h
      · exact ltS_irrefl _ (ltS_trans h h')
    · rw [List.cons_append]
      exact nxt1_law (hr k hk) (fun _ h => h) (.inl rfl) (.inr (hr k hk).1)
    · have hk' : k < (a :: t).length := by omega
      have e : atS (a :: (t ++ [a])) (k + 1) = atS (a :: t) (k + 1) := by
        rw [(atS_ring hk').2, Nat.mod_eq_of_lt hk]
      refine ⟨fun h => a6 ?_, fun h => (hr k hk').2.1 (e.trans h)⟩
      rw [atS_cons, atS_get (by simpa using hk)] at h
      rw [← h]
      exact List.getElem_mem _
theorem nxt1_bool (p x q : Sp) (hp : fairS p = true) (hx : fairS x = true) (hq : fairS q = true) (B : Bool)
    (hB : B = ((q.1 == p.1 && q.2 == p.2) || (!(x.1 == p.1 && x.2 == p.2) && (decide (sideV p x q > 0) || (sideV p x q == 0 && decide (dist2 p q ≤ dist2 p x)))))) : nxt1 p x q = if B = true then x else q := by
  have hs : sideV p x q = sgn (cr p x q) := by rw [sideV, hp, hx, hq]; rfl
  have hd1 : dist2 p q = ddS p q := by
    have h1 : fair p.1 p.2 = true := hp
    have h2 : fair q.1 q.2 = true := hq
    simp [dist2, h1, h2, ddS]
  have hd2 : dist2 p x = ddS p x := by
    have h1 : fair p.1 p.2 = true := hp
    have h2 : fair x.1 x.2 = true := hx
    simp [dist2, h1, h2, ddS]
  have e1 : ∀ a b : Sp, (a.1 == b.1 && a.2 == b.2) = decide (a = b) := fun a b => by
    rw [Bool.eq_iff_iff, decide_eq_true_eq, Bool.and_eq_true, beq_iff_eq, beq_iff_eq]
    exact ⟨fun h => Prod.ext h.1 h.2, fun h => by rw [h]; exact ⟨rfl, rfl⟩⟩
  have e2 : decide (sgn (cr p x q) > 0) = decide (0 < cr p x q) := by
    rw [decide_eq_decide]
    unfold sgn
    split
    · omega
    · split <;> omega
  have e3 : (sgn (cr p x q) == 0) = decide (cr p x q = 0) := by
    rw [Bool.eq_iff_iff, decide_eq_true_eq, beq_iff_eq]
    unfold sgn
    split
    · omega
    · split <;> omega
  rw [hs, hd1, hd2, e1, e1, e2, e3] at hB
  subst hB
  simp only [nxt1, Bool.or_eq_true, Bool.and_eq_true, Bool.not_eq_true', decide_eq_true_eq, decide_eq_false_iff_not]
  by_cases h1 : q = p
  · rw [if_pos h1, if_pos (.inl h1)]
  · rw [if_neg h1]
    by_cases h2 : x ≠ p ∧ (0 < cr p x q ∨ cr p x q = 0 ∧ ddS p q ≤ ddS p x)
    · rw [if_pos h2, if_pos (.inr h2)]
    · rw [if_neg h2, if_neg]
      rintro (h | h)
      · exact h1 h
      · exact h2 h
theorem nxt_mem {S : List Sp} {p : Sp} (hp : p ∈ S) : ∀ (l : List Sp) (x : Sp), x ∈ S → (∀ r, r ∈ l → r ∈ S) → l.foldl (nxt1 p) x ∈ S
  | [], x, hx, _ => hx
  | r :: l, x, hx, h => by
    rw [List.foldl_cons]
    refine nxt_mem hp l _ ?_ fun s hs => h s (List.mem_cons_of_mem _ hs)
    unfold nxt1
    split
    · exact hx
    · split
      · exact hx
      · exact h r (by simp)

theorem p50 (ps : List Pt) (H : List Sp) (hH : isHull (ps.map ptS) H) : PD Try.prog 50 [.sl (ps.map encP)] (ofD (.sl ((if check ps = 0 then H else []).map encS))) := by
  have h26 := p26 ps
  refine pdd_of (fn := Try.f50) [.tmp 2] (by kernel_rfl) rfl (by kernel_rfl) (Nat.le_of_ble_eq_true rfl) (by kernel_rfl) rfl ?_
  refine awp_seq ?_
  refine awpF_region ?_; intro K hK; simp only [push_cast, seval]; (try simp (disch := omega) only [wrapI]); (repeat ((with_reducible refine And.intro ?_ ?_); (focus (exact ob1)))); refine hK _ ?_; clear hK; clear K
  refine awp_seq ?_
  refine awp_seq ?_
  refine awpF_region ?_; intro K hK; simp only [push_cast, seval]
  (repeat ((with_reducible refine And.intro ?_ ?_); (focus (exact ob1))))
  refine CallK.pd (h26) ?_; simp only [push_cast, seval]; (try simp (disch := omega) only [wrapI]); (repeat ((with_reducible refine And.intro ?_ ?_); (focus (exact ob1))))
  refine hK _ ?_; clear hK; clear K
  apply awp_cond; (focus (simp only [push_cast, seval]; rfl))
  · intro h1; (try simp only [decide_eq_true_eq, decide_eq_false_iff_not, Bool.not_eq_true', Bool.not_eq_false', Bool.and_eq_true, Bool.or_eq_true, Bool.not_eq_true] at h1)
    refine awp_seq ?_
    refine awpF_region ?_; intro K hK; simp only [push_cast, seval]; (try simp (disch := omega) only [wrapI]); (repeat ((with_reducible refine And.intro ?_ ?_); (focus (exact ob1)))); refine hK _ ?_; clear hK; clear K
    refine awp_ret ?_; (repeat (first | refine then_ret ?_ | refine inblock_ret ?_)); refine fin_of (by simp only [push_cast, seval]; first | done | rfl) ob1 ?_
    have : (if check ps = 0 then H else []) = [] := by
      by_cases hc : check ps = 0
      · rw [if_pos hc]
        have h0 : ps = [] := by
          simp [hc] at h1
          exact h1
        subst h0
        rcases hH with ⟨_, h⟩ | ⟨p, _, h, _⟩ | ⟨a, t, _, _, h, _⟩
        · exact h
        · cases h
        · cases h
      · rw [if_neg hc]
    rw [this]
    exact .nil
  intro h1; (try simp only [decide_eq_true_eq, decide_eq_false_iff_not, Bool.not_eq_true', Bool.not_eq_false', Bool.and_eq_true, Bool.or_eq_true, Bool.not_eq_true] at h1)
  have h1' : check ps = 0 ∧ ps ≠ [] := by
    by_cases hc : check ps = 0
    · simp [hc] at h1
      exact ⟨hc, h1⟩
    · simp [hc] at h1
  clear h1
  obtain ⟨hc, hne⟩ := h1'
  rw [if_pos hc]
  have hn := check_len hc
  have hf : ∀ (i : Nat) (p : Pt), ps[i]? = some p → fairS (ptS p) = true := fun i p hp => check_fair hc hp
  have hlen := isHull_len hH
  rw [List.length_map] at hlen
  obtain ⟨h, t, hHt, w1, w2, w3, w4⟩ := hull_walk hH (by simpa using hne)
  have hHl : 0 < H.length := by rw [hHt]; simp
  have hH0 : atS H 0 = h := by rw [hHt]; rfl
  have hsub := isHull_sub hH
  have hq : ∀ row, row ∈ ps.map encP → row.length = 3 := fun row hr => by obtain ⟨_, _, rfl⟩ := List.mem_map.1 hr; rfl
  have hSl : (ps.map ptS).length = ps.length := List.length_map ..
  have hSg : ∀ i (hi : i < ps.length), (ps.map ptS)[i]? = some (ptS ps[i]) := fun i hi => by rw [List.getElem?_map, List.getElem?_eq_getElem hi]; rfl
  have hfS : ∀ r, r ∈ ps.map ptS → fairS r = true := fun r hr => by
    obtain ⟨p, hp, rfl⟩ := List.mem_map.1 hr
    obtain ⟨i, hi, rfl⟩ := List.getElem_of_mem hp
    exact hf i _ (List.getElem?_eq_getElem hi)
  clear hHt hf hH
  generalize hS : ps.map ptS = S at *
  refine awp_skip ?_
  have hpos : 0 < ps.length := List.length_pos_iff.2 hne
  have g0 : (ps.map encP)[0]? = some (encP ps[0]) := by rw [List.getElem?_map, List.getElem?_eq_getElem hpos]; rfl
  have hs0 := hSg 0 hpos
  generalize ps[0] = p0 at g0 hs0
  simp only [encP] at g0
  refine awp_seq ?_
  refine awpF_region ?_; intro K hK; simp only [push_cast, seval, g0]
  refine ⟨by omega, hq, ?_⟩
  refine CallK.pd (p61 _ _ _) ?_; simp only [push_cast, seval]; (try simp (disch := omega) only [wrapI]); (repeat ((with_reducible refine And.intro ?_ ?_); (focus (exact ob1))))
  refine hK _ ?_; clear hK; clear K
  refine awp_seq ?_
  refine awp_seq ?_
  refine awpF_region ?_; intro K hK; simp only [push_cast, seval]; (try simp (disch := omega) only [wrapI]); (repeat ((with_reducible refine And.intro ?_ ?_); (focus (exact ob1)))); refine hK _ ?_; clear hK; clear K
  refine awp_block ?_
  refine awp_loopP (α := Nat × Sp) (st := fun x => ⟨[(0, .d (.sl (ps.map encP))), (3, .ptr 0 0 0), (4, .d (.int .i64 x.1))], [.cells [.d (.int .i64 x.2.1), .d (.int .i64 x.2.2)]]⟩)
    (inv := fun x => 1 ≤ x.1 ∧ x.1 ≤ ps.length ∧ x.2 ∈ S ∧ ∀ j r, j < x.1 → S[j]? = some r → ¬ ltS r x.2) (μ := fun x => ps.length - x.1) (x0 := (1, (p0.1, p0.2.1))) (r0 := [0]) ?_ ?_ ?_
  · have hs0 : S[0]? = some (p0.1, p0.2.1) := hs0
    refine ⟨Nat.le_refl _, hpos, List.mem_of_getElem? hs0, fun j r hj hr => ?_⟩
    obtain rfl : j = 0 := by omega
    rw [hs0] at hr
    cases hr
    exact ltS_irrefl _
  · exact ⟨by simp, by simp, by simp [push_cast, seval], by simp [push_cast, seval], by simp [push_cast, seval], by simp [push_cast, seval]⟩
  rintro ⟨i, m⟩ ⟨hi1, hi, hmS, hmin⟩
  dsimp only at hi1 hi hmS hmin ⊢
  refine awp_seq ?_
  refine awp_seq ?_
  refine awpF_region ?_; intro K hK; simp only [push_cast, seval]; (try simp (disch := omega) only [wrapI]); (repeat ((with_reducible refine And.intro ?_ ?_); (focus (exact ob1)))); refine hK _ ?_; clear hK; clear K
  apply awp_cond; (focus (simp only [push_cast, seval]; rfl))
  · intro h2; (try simp only [decide_eq_true_eq, decide_eq_false_iff_not, Bool.not_eq_true', Bool.not_eq_false', Bool.and_eq_true, Bool.or_eq_true, Bool.not_eq_true] at h2)
    have hlt : i < ps.length := by omega
    have g1 : (ps.map encP)[i]? = some (encP ps[i]) := by rw [List.getElem?_map, List.getElem?_eq_getElem hlt]; rfl
    have hsi := hSg i hlt
    generalize ps[i] = p at g1 hsi
    simp only [encP] at g1
    obtain ⟨q, hq0⟩ : ∃ q : Sp, q = ptS p := ⟨_, rfl⟩
    have hq1 : p.1 = q.1 := by rw [hq0]; rfl
    have hq2 : p.2.1 = q.2 := by rw [hq0]; rfl
    rw [← hq0] at hsi
    have h73 := p73 q.1 q.2 m.1 m.2
    have hdec : decide (ord q.1 q.2 m.1 m.2 < 0) = decide (ltS q m) := by rw [decide_eq_decide]; exact ord_neg q m
    rw [hdec] at h73
    refine awp_skip ?_
    refine awp_mid (fun u => u = ⟨[(0, .d (.sl (ps.map encP))), (3, .ptr 0 0 0), (4, .d (.int .i64 i))], [.cells [.d (.int .i64 (if ltS q m then q else m).1), .d (.int .i64 (if ltS q m then q else m).2)]]⟩) ?_ ?_
    · refine awp_block ?_
      refine awp_seq ?_
      refine awpF_draw [0,1,2,3,5,4,6] (by kernel_rfl) (by kernel_rfl) rfl ?_; intro K hK; simp only [push_cast, seval, g1]
      refine ⟨by omega, by omega, hq, ?_⟩
      refine CallK.pd (p61 _ _ _) ?_; simp only [push_cast, seval]; (try simp (disch := omega) only [wrapI]); (repeat ((with_reducible refine And.intro ?_ ?_); (focus (exact ob1))))
      rw [hq1, hq2]
      refine CallK.pd (h73) ?_; simp only [push_cast, seval]; (try simp (disch := omega) only [wrapI]); (repeat ((with_reducible refine And.intro ?_ ?_); (focus (exact ob1))))
      refine hK _ ?_; clear hK; clear K
      apply awp_cond; (focus (simp only [push_cast, seval]; rfl))
      · intro h3; (try simp only [decide_eq_true_eq, decide_eq_false_iff_not, Bool.not_eq_true', Bool.not_eq_false', Bool.and_eq_true, Bool.or_eq_true, Bool.not_eq_true] at h3)
        rw [if_pos h3]
        refine awpF_region ?_; intro K hK; simp only [push_cast, seval, g1]
        refine ⟨by omega, by omega, hq, ?_⟩
        refine CallK.pd (p61 _ _ _) ?_; simp only [push_cast, seval]; (try simp (disch := omega) only [wrapI]); (repeat ((with_reducible refine And.intro ?_ ?_); (focus (exact ob1))))
        rw [hq1, hq2]
        refine hK _ ?_; clear hK; clear K
        refine inblock_norm ?_
        refine mid_end [0] _ rfl ?_
        exact ⟨by simp, by simp, by simp [push_cast, seval], by simp [push_cast, seval], by simp [push_cast, seval], by simp [push_cast, seval]⟩
      · intro h3; (try simp only [decide_eq_true_eq, decide_eq_false_iff_not, Bool.not_eq_true', Bool.not_eq_false', Bool.and_eq_true, Bool.or_eq_true, Bool.not_eq_true] at h3)
        rw [if_neg h3]
        refine awp_skip ?_
        refine inblock_norm ?_
        refine mid_end [0] _ rfl ?_
        exact ⟨by simp, by simp, by simp [push_cast, seval], by simp [push_cast, seval], by simp [push_cast, seval], by simp [push_cast, seval]⟩
    rintro _ rfl
    refine awpF_region ?_; intro K hK; simp only [push_cast, seval]; (try simp (disch := omega) only [wrapI]); (repeat ((with_reducible refine And.intro ?_ ?_); (focus (exact ob1)))); refine hK _ ?_; clear hK; clear K
    refine round_endG (i + 1, if ltS q m then q else m) [0] ⟨by dsimp only; omega, ⟨by dsimp only; omega, by dsimp only; omega, ?_, fun j r hj hr => ?_⟩, ?_⟩
    · dsimp only
      split
      · exact List.mem_of_getElem? hsi
      · exact hmS
    · dsimp only at hj ⊢
      rcases Nat.lt_or_ge j i with h' | h'
      · have := hmin j r h' hr
        split
        · exact fun h4 => this (ltS_trans h4 (by assumption))
        · exact this
      · obtain rfl : j = i := by omega
        rw [hsi] at hr
        cases hr
        split
        · exact ltS_irrefl _
        · assumption
    · exact ⟨by simp, by simp, by simp [push_cast, seval], by simp [push_cast, seval], by simp [push_cast, seval], by simp [push_cast, seval]⟩
  intro h2; (try simp only [decide_eq_true_eq, decide_eq_false_iff_not, Bool.not_eq_true', Bool.not_eq_false', Bool.and_eq_true, Bool.or_eq_true, Bool.not_eq_true] at h2)
  obtain rfl : i = ps.length := by omega
  obtain rfl : m = h := by
    refine ltS_tri (w2 m hmS) ?_
    obtain ⟨j, hj, hje⟩ := List.getElem_of_mem w1
    exact hmin j h (by omega) (by rw [List.getElem?_eq_getElem hj, hje])
  clear hmin hi1 hi
  refine awp_exit ?_; (repeat (first | refine then_exit ?_ | refine inblock_other (by decide) ?_)); refine inblock_same ?_
  refine awp_seq ?_
  refine awpF_region ?_; intro K hK; simp only [push_cast, seval]; (try simp (disch := omega) only [wrapI]); (repeat ((with_reducible refine And.intro ?_ ?_); (focus (exact ob1)))); refine hK _ ?_; clear hK; clear K
  refine awp_block ?_
  refine awp_loopP (α := Nat) (st := fun k => ⟨[(0, .d (.sl (ps.map encP))), (3, .ptr 0 0 0), (5, .ref 1 0 (k + 1))], [.cells [.d (.int .i64 m.1), .d (.int .i64 m.2)], .data 2 ((H.take (k + 1)).map encS)]⟩)
    (inv := fun k => k < H.length) (μ := fun k => H.length - k) (x0 := 0) (r0 := [0, 1]) ?_ ?_ ?_
  · exact hHl
  · have e : (H.take 1).map encS = [[.int .i64 m.1, .int .i64 m.2]] := by
      cases H with
      | nil => simp at hHl
      | cons a u =>
        have : a = m := hH0
        rw [this]
        rfl
    rw [e]
    exact ⟨by simp, by simp, by simp [push_cast, seval], by simp [push_cast, seval], by simp [push_cast, seval], by simp [push_cast, seval]⟩
  intro k hk
  have gk : ((H.take (k + 1)).map encS)[k]? = some [.int .i64 (atS H k).1, .int .i64 (atS H k).2] := by
    rw [List.getElem?_map, List.getElem?_take_of_lt (by omega), List.getElem?_eq_getElem hk, atS_get hk]
    rfl
  have hXl : ((H.take (k + 1)).map encS).length = k + 1 := by rw [List.length_map, List.length_take]; omega
  have hsu : k + 1 < H.length → (H.take (k + 2)).map encS = (H.take (k + 1)).map encS ++ [encS (atS H (k + 1))] := fun h' => by
    rw [List.take_add_one, List.getElem?_eq_getElem h', List.map_append, atS_get h']
    rfl
  have hfull : k + 1 = H.length → (H.take (k + 1)).map encS = H.map encS := fun h' => by rw [h', List.take_length]
  have hpS : atS H k ∈ S := hsub _ (by rw [atS_get hk]; exact List.getElem_mem hk)
  have hw3 := w3 k hk
  have hw4 := w4 k
  have e1 : k + 1 < H.length → atS (H ++ [m]) (k + 1) = atS H (k + 1) := fun h' => by simp only [atS]; rw [List.getElem?_append_left h']
  have e2 : k + 1 = H.length → atS (H ++ [m]) (k + 1) = m := fun h' => by simp only [atS]; rw [h', List.getElem?_append_right (Nat.le_refl _), Nat.sub_self]; rfl
  generalize atS H k = p at gk hpS hw3 hw4
  generalize (H.take (k + 1)).map encS = X at gk hXl hsu hfull ⊢
  have hfp := hfS p hpS
  have hwk : IntKind.i64.wrap ((k : Int) + 1 - 1) = k := by rw [wrapI _ (by omega)]; omega
  refine awp_block ?_
  refine awp_seq ?_
  refine awpF_region ?_; intro K hK; simp only [push_cast, seval, gk, hwk, Int.toNat_natCast]
  refine ⟨by omega, by omega, ?_⟩
  refine hK _ ?_; clear hK; clear K
  refine awp_seq ?_
  refine awpF_region ?_; intro K hK; simp only [push_cast, seval]; (try simp (disch := omega) only [wrapI]); (repeat ((with_reducible refine And.intro ?_ ?_); (focus (exact ob1)))); refine hK _ ?_; clear hK; clear K
  refine awp_seq ?_
  refine awp_seq ?_
  refine awpF_region ?_; intro K hK; simp only [push_cast, seval]; (try simp (disch := omega) only [wrapI]); (repeat ((with_reducible refine And.intro ?_ ?_); (focus (exact ob1)))); refine hK _ ?_; clear hK; clear K
  refine awp_block ?_
  refine awp_loopP (α := Nat) (st := fun i => ⟨[(0, .d (.sl (ps.map encP))), (3, .ptr 0 0 0), (5, .ref 1 0 (k + 1)), (6, .ptr 2 0 0), (7, .ptr 3 0 0), (8, .d (.int .i64 i))],
      [.cells [.d (.int .i64 m.1), .d (.int .i64 m.2)], .data 2 X, .cells [.d (.int .i64 p.1), .d (.int .i64 p.2)], .cells [.d (.int .i64 ((S.take i).foldl (nxt1 p) p).1), .d (.int .i64 ((S.take i).foldl (nxt1 p) p).2)]]⟩)
    (inv := fun i => i ≤ ps.length) (μ := fun i => ps.length - i) (x0 := 0) (r0 := [0, 1, 2, 3]) ?_ ?_ ?_
  · exact Nat.zero_le _
  · rw [List.take_zero, show List.foldl (nxt1 p) p [] = p from rfl]
    exact ⟨by simp, by simp, by simp [push_cast, seval], by simp [push_cast, seval], by simp [push_cast, seval], by simp [push_cast, seval]⟩
  intro i hi
  refine awp_seq ?_
  refine awp_seq ?_
  refine awpF_region ?_; intro K hK; simp only [push_cast, seval]; (try simp (disch := omega) only [wrapI]); (repeat ((with_reducible refine And.intro ?_ ?_); (focus (exact ob1)))); refine hK _ ?_; clear hK; clear K
  apply awp_cond; (focus (simp only [push_cast, seval]; rfl))
  · intro h3; (try simp only [decide_eq_true_eq, decide_eq_false_iff_not, Bool.not_eq_true', Bool.not_eq_false', Bool.and_eq_true, Bool.or_eq_true, Bool.not_eq_true] at h3)
    have hlt : i < ps.length := by omega
    have g1 : (ps.map encP)[i]? = some (encP ps[i]) := by rw [List.getElem?_map, List.getElem?_eq_getElem hlt]; rfl
    have hsi := hSg i hlt
    generalize ps[i] = pt at g1 hsi
    simp only [encP] at g1
    obtain ⟨q, hq0⟩ : ∃ q : Sp, q = ptS pt := ⟨_, rfl⟩
    have hq1 : pt.1 = q.1 := by rw [hq0]; rfl
    have hq2 : pt.2.1 = q.2 := by rw [hq0]; rfl
    rw [← hq0] at hsi
    have hqS : q ∈ S := List.mem_of_getElem? hsi
    have hnx : (S.take (i + 1)).foldl (nxt1 p) p = nxt1 p ((S.take i).foldl (nxt1 p) p) q := by
      rw [List.take_add_one, hsi, List.foldl_append]
      rfl
    have hxS := nxt_mem hpS (S.take i) p hpS fun r hr => List.mem_of_mem_take hr
    generalize (S.take i).foldl (nxt1 p) p = x at hnx hxS ⊢
    have hnb := fun B => nxt1_bool p x q hfp (hfS x hxS) (hfS q hqS) B
    have h92 := p92 p x q
    have h46a := p46 p.1 p.2 q.1 q.2
    have h46b := p46 p.1 p.2 x.1 x.2
    simp only [encS] at h92
    generalize sideV p x q = sd at h92 hnb
    refine awp_skip ?_
    refine awp_mid (fun u => u = ⟨[(0, .d (.sl (ps.map encP))), (3, .ptr 0 0 0), (5, .ref 1 0 (k + 1)), (6, .ptr 2 0 0), (7, .ptr 3 0 0), (8, .d (.int .i64 i))],
      [.cells [.d (.int .i64 m.1), .d (.int .i64 m.2)], .data 2 X, .cells [.d (.int .i64 p.1), .d (.int .i64 p.2)], .cells [.d (.int .i64 (nxt1 p x q).1), .d (.int .i64 (nxt1 p x q).2)]]⟩) ?_ ?_
    · refine awp_block ?_
      refine awp_seq ?_
      refine awpF_region ?_; intro K hK; simp only [push_cast, seval, g1]
      refine ⟨by omega, by omega, hq, ?_⟩
      refine CallK.pd (p61 _ _ _) ?_; simp only [push_cast, seval]; (try simp (disch := omega) only [wrapI]); (repeat ((with_reducible refine And.intro ?_ ?_); (focus (exact ob1))))
      rw [hq1, hq2]
      refine hK _ ?_; clear hK; clear K
      refine awp_seq ?_
      refine awpF_region ?_; intro K hK; simp only [push_cast, seval]
      refine CallK.pd (h92) ?_; simp only [push_cast, seval]; (try simp (disch := omega) only [wrapI]); (repeat ((with_reducible refine And.intro ?_ ?_); (focus (exact ob1))))
      refine hK _ ?_; clear hK; clear K
      refine awp_seq ?_
      refine awp_seq ?_
      refine awpF_draw [0,1,2,3,4,5,6,7,8,9,10,11,12,13,14,15,17,18,16,19,20,21,22,23,24] (by kernel_rfl) (by kernel_rfl) rfl ?_; intro K hK; simp only [push_cast, seval]
      refine CallK.pg (fun _ => h46a) ?_; simp only [push_cast, seval]; (try simp (disch := omega) only [wrapI]); (repeat ((with_reducible refine And.intro ?_ ?_); (focus (exact ob1))))
      refine CallK.pg (fun _ => h46b) ?_; simp only [push_cast, seval]; (try simp (disch := omega) only [wrapI]); (repeat ((with_reducible refine And.intro ?_ ?_); (focus (exact ob1))))
      refine hK _ ?_; clear hK; clear K
      apply awp_cond; (focus (simp only [push_cast, seval]; rfl))
      · intro h4; (try simp only [decide_eq_true_eq, decide_eq_false_iff_not, Bool.not_eq_true', Bool.not_eq_false', Bool.and_eq_true, Bool.or_eq_true, Bool.not_eq_true] at h4)
        simp only [bif_or, bif_and] at h4
        have hx' := hnb _ rfl
        rw [if_pos h4] at hx'
        rw [hx']
        refine awp_exit ?_; (repeat (first | refine then_exit ?_ | refine inblock_other (by decide) ?_)); refine inblock_same ?_
        refine mid_end [0, 1, 2, 3] _ rfl ?_
        exact ⟨by simp, by simp, by simp [push_cast, seval], by simp [push_cast, seval], by simp [push_cast, seval], by simp [push_cast, seval]⟩
      · intro h4; (try simp only [decide_eq_true_eq, decide_eq_false_iff_not, Bool.not_eq_true', Bool.not_eq_false', Bool.and_eq_true, Bool.or_eq_true, Bool.not_eq_true] at h4)
        simp only [bif_or, bif_and] at h4
        have hx' := hnb _ rfl
        rw [if_neg (by rw [h4]; decide)] at hx'
        rw [hx']
        refine awp_skip ?_
        refine awpF_region ?_; intro K hK; simp only [push_cast, seval]; (try simp (disch := omega) only [wrapI]); (repeat ((with_reducible refine And.intro ?_ ?_); (focus (exact ob1)))); refine hK _ ?_; clear hK; clear K
        refine inblock_norm ?_
        refine mid_end [0, 1, 2, 3] _ rfl ?_
        exact ⟨by simp, by simp, by simp [push_cast, seval], by simp [push_cast, seval], by simp [push_cast, seval], by simp [push_cast, seval]⟩
    rintro _ rfl
    refine awpF_region ?_; intro K hK; simp only [push_cast, seval]; (try simp (disch := omega) only [wrapI]); (repeat ((with_reducible refine And.intro ?_ ?_); (focus (exact ob1)))); refine hK _ ?_; clear hK; clear K
    refine round_endG (i + 1) [0, 1, 2, 3] ⟨by omega, by omega, ?_⟩
    rw [hnx]
    exact ⟨by simp, by simp, by simp [push_cast, seval], by simp [push_cast, seval], by simp [push_cast, seval], by simp [push_cast, seval]⟩
  intro h3; (try simp only [decide_eq_true_eq, decide_eq_false_iff_not, Bool.not_eq_true', Bool.not_eq_false', Bool.and_eq_true, Bool.or_eq_true, Bool.not_eq_true] at h3)
  obtain rfl : i = ps.length := by omega
  rw [List.take_of_length_le (by omega), hw3]
  clear hw3
  rcases Nat.lt_or_ge (k + 1) H.length with hk1 | hk1
  · rw [e1 hk1]
    obtain ⟨n1, n2⟩ := hw4 hk1
    have hsu' := hsu hk1
    generalize atS H (k + 1) = nx at n1 n2 hsu' ⊢
    have c1 : (nx.1 == m.1 && nx.2 == m.2) = false := by rw [spEq]; simpa using n1
    have c2 : (nx.1 == p.1 && nx.2 == p.2) = false := by rw [spEq]; simpa using n2
    have htk : List.take (k + 1) X = X := List.take_of_length_le (by omega)
    refine awp_exit ?_; (repeat (first | refine then_exit ?_ | refine inblock_other (by decide) ?_)); refine inblock_same ?_
    refine awp_seq ?_
    refine awp_seq ?_
    refine awpF_region ?_; intro K hK; simp only [push_cast, seval, c1, c2]; (try simp (disch := omega) only [wrapI]); (repeat ((with_reducible refine And.intro ?_ ?_); (focus (exact ob1)))); refine hK _ ?_; clear hK; clear K
    apply awp_cond; (focus (simp only [push_cast, seval]; rfl))
    · intro h4; (try simp only [decide_eq_true_eq, decide_eq_false_iff_not, Bool.not_eq_true', Bool.not_eq_false', Bool.and_eq_true, Bool.or_eq_true, Bool.not_eq_true] at h4)
      cases h4
    intro h4; (try simp only [decide_eq_true_eq, decide_eq_false_iff_not, Bool.not_eq_true', Bool.not_eq_false', Bool.and_eq_true, Bool.or_eq_true, Bool.not_eq_true] at h4)
    refine awp_skip ?_
    refine awpF_region ?_; intro K hK; simp only [push_cast, seval, htk]
    refine ⟨fun h => h, by omega, by omega, ?_⟩
    refine hK _ ?_; clear hK; clear K
    refine inblock_norm ?_
    refine round_endG (k + 1) [0, 1] ⟨by omega, by omega, ?_⟩
    simp only [encS] at hsu'
    rw [hsu']
    exact ⟨by simp, by simp, by simp [push_cast, seval], by simp [push_cast, seval], by simp [push_cast, seval], by simp [push_cast, seval]⟩
  · have hk2 : k + 1 = H.length := by omega
    rw [e2 hk2]
    have hX := hfull hk2
    have c1 : (m.1 == m.1 && m.2 == m.2) = true := by simp
    refine awp_exit ?_; (repeat (first | refine then_exit ?_ | refine inblock_other (by decide) ?_)); refine inblock_same ?_
    refine awp_seq ?_
    refine awp_seq ?_
    refine awpF_region ?_; intro K hK; simp only [push_cast, seval, c1]; (try simp (disch := omega) only [wrapI]); (repeat ((with_reducible refine And.intro ?_ ?_); (focus (exact ob1)))); refine hK _ ?_; clear hK; clear K
    apply awp_cond; (focus (simp only [push_cast, seval]; rfl))
    · intro h4; (try simp only [decide_eq_true_eq, decide_eq_false_iff_not, Bool.not_eq_true', Bool.not_eq_false', Bool.and_eq_true, Bool.or_eq_true, Bool.not_eq_true] at h4)
      refine awp_seq ?_
      refine awpF_region ?_; intro K hK; simp only [push_cast, seval]; (try simp (disch := omega) only [wrapI]); (repeat ((with_reducible refine And.intro ?_ ?_); (focus (exact ob1)))); refine hK _ ?_; clear hK; clear K
      refine awp_ret ?_; (repeat (first | refine then_ret ?_ | refine inblock_ret ?_)); refine fin_of (by simp only [push_cast, seval]; first | done | rfl) ob1 ?_
      have hd : ∀ A B C, Deep [A, Blk.data 2 (H.map encS), B, C] (V.ref 1 0 H.length) (D.sl (H.map encS)) := fun A B C => by
        have h := Deep.data (H := [A, .data 2 (H.map encS), B, C]) 1 0 H.length 2 (H.map encS) rfl (by simp)
        rwa [List.drop_zero, List.take_of_length_le (by simp)] at h
      rw [hk2, hX]
      exact hd _ _ _
    intro h4; (try simp only [decide_eq_true_eq, decide_eq_false_iff_not, Bool.not_eq_true', Bool.not_eq_false', Bool.and_eq_true, Bool.or_eq_true, Bool.not_eq_true] at h4)
    cases h4
end Go.Aw
