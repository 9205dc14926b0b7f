/-
  The contract of Nearest. Conditions: none (what is not valid is refused).
-/
import Derived.Test.YtecindhbaekncaaGreatPxF8
namespace Go.Aw
set_option linter.unusedSimpArgs false
set_option linter.unusedVariables false
open Go.RowKit Go.Proofs Go.Heap

theorem step_cases (k : Nat) (h : List Fa) (x : Fa) : (k < (push befF h x).length → Go.Heap.step befF k h x = (pop befF (push befF h x)).take ((push befF h x).length - 1)) ∧ (¬ k < (push befF h x).length → Go.Heap.step befF k h x = push befF h x) := by
  unfold Go.Heap.step
  exact ⟨fun hh => if_pos hh, fun hh => if_neg hh⟩
theorem push_len (h : List Fa) (x : Fa) : (push befF h x).length = h.length + 1 := by
  unfold push
  rw [up_len _ _ (by simp)]
  simp
theorem pop_eq (l : List Fa) (n : Nat) (hn : l.length = n + 1) : pop befF l = down befF (sw l 0 n) n 0 := by
  unfold pop
  rw [hn]
  rfl
theorem pop_at (l : List Fa) (n : Nat) (hn : l.length = n + 1) : atF (down befF (sw l 0 n) n 0) n = atF l 0 := by
  have hsl := sw_len l 0 n
  rw [down_out _ _ _ (by omega) _ (Nat.le_refl _), sw_at (by omega) (by omega), if_pos rfl]

def emptyL : Nat → List Fa → List Fa → List Fa
  | 0, _, o => o
  | m + 1, h, o => emptyL m ((down befF (sw h 0 m) m 0).take m) (atF h 0 :: o)
theorem emptyL_spec {T : List Fa} (hT : T.Nodup) : ∀ (m : Nat) (h o : List Fa), h.length = m → Empties befF T h o → Empties befF T [] (emptyL m h o)
  | 0, h, o, hm, he => by
    obtain rfl := List.length_eq_zero_iff.1 hm
    exact he
  | m + 1, h, o, hm, he => by
    obtain ⟨h1, h2⟩ := empties_step befF_ord hT he (by omega)
    rw [pop_eq h m hm, hm] at h1 h2
    exact emptyL_spec hT m _ _ h2 h1
def nearestL (ps : List Pt) (x y k : Int) : List Nat := if check ps = 0 ∧ fair x y = true ∧ 1 ≤ k then (emptyL (min k.toNat ps.length) (keepL ps (x, y) k.toNat ps.length) []).map (·.1) else []
theorem nearestL_spec (ps : List Pt) (x y k : Int) : nearestP ps x y k (nearestL ps x y k) := by
  unfold nearestP nearestL
  by_cases h : check ps = 0 ∧ fair x y = true ∧ 1 ≤ k
  · rw [if_pos h, if_pos h]
    have hk := keepL_keeps ps (x, y) (k := k.toNat) (by omega) ps.length (Nat.le_refl _)
    have hl := hk.len
    rw [farL_len (Nat.le_refl _)] at hl
    obtain ⟨q1, q2⟩ := nearest_of hk (emptyL_spec (keeps_nodup (farL_nodup (Nat.le_refl _)) hk) _ _ _ hl (empties_init hk))
    rw [farL_len (Nat.le_refl _)] at q2
    exact ⟨_, rfl, q1, q2⟩
  · rw [if_neg h, if_neg h]

theorem p38 (ps : List Pt) (x y k : Int) : PD Tryz.prog 11 [.sl (ps.map encP), .agg [.int .i64 x, .int .i64 y], .int .i64 k] (ofD (.sl ((nearestL ps x y k).map encN))) := by
  have h25 := p25 ps
  have h63 := p63 x y
  refine pdd_of (fn := Tryz.f11) [.tmp 6] (by kernel_rfl) rfl (by kernel_rfl) (Nat.le_of_ble_eq_true rfl) (by kernel_rfl) rfl ?_
  refine awp_seq ?_
  refine awpF_region ?_; intro K hK; simp only [push_cast, seval]; (try simp (disch := omega) only [wrapI]); (repeat ((with_reducible refine And.intro ?_ ?_); (focus (exact ob1)))); refine hK _ ?_; clear hK; clear K
  refine awp_seq ?_
  refine awp_seq ?_
  refine awpF_region ?_; intro K hK; simp only [push_cast, seval]
  (repeat ((with_reducible refine And.intro ?_ ?_); (focus (exact ob1))))
  refine CallK.pd (h25) ?_; simp only [push_cast, seval]; (try simp (disch := omega) only [wrapI]); (repeat ((with_reducible refine And.intro ?_ ?_); (focus (exact ob1))))
  refine CallK.pg (fun _ => h63) ?_; simp only [push_cast, seval]; (try simp (disch := omega) only [wrapI]); (repeat ((with_reducible refine And.intro ?_ ?_); (focus (exact ob1))))
  refine hK _ ?_; clear hK; clear K
  apply awp_cond; (focus (simp only [push_cast, seval]; rfl))
  · intro h1; (try simp only [decide_eq_true_eq, decide_eq_false_iff_not, Bool.not_eq_true', Bool.not_eq_false', Bool.and_eq_true, Bool.or_eq_true, Bool.not_eq_true] at h1)
    have hok : ¬ (check ps = 0 ∧ fair x y = true ∧ 1 ≤ k) := fun ⟨q1, q2, q3⟩ => by
      rw [q1, q2] at h1
      simp at h1
      omega
    rw [nearestL, if_neg hok]
    refine awp_seq ?_
    refine awpF_region ?_; intro K hK; simp only [push_cast, seval]; (try simp (disch := omega) only [wrapI]); (repeat ((with_reducible refine And.intro ?_ ?_); (focus (exact ob1)))); refine hK _ ?_; clear hK; clear K
    refine awp_ret ?_; (repeat (first | refine then_ret ?_ | refine inblock_ret ?_)); refine fin_of (by simp only [push_cast, seval]; first | done | rfl) ob1 ?_
    exact .nil
  intro h1; (try simp only [decide_eq_true_eq, decide_eq_false_iff_not, Bool.not_eq_true', Bool.not_eq_false', Bool.and_eq_true, Bool.or_eq_true, Bool.not_eq_true] at h1)
  have hok : check ps = 0 ∧ fair x y = true ∧ 1 ≤ k := by
    by_cases q1 : check ps = 0
    · rw [q1] at h1
      cases q2 : fair x y with
      | false => rw [q2] at h1; simp at h1
      | true =>
        rw [q2] at h1
        simp at h1
        exact ⟨q1, rfl, by omega⟩
    · have hb : (check ps != 0) = true := by simpa using q1
      rw [hb] at h1
      simp at h1
  clear h1
  rw [nearestL, if_pos hok]
  obtain ⟨hc, hf, hk⟩ := hok
  have hn := check_len hc
  obtain ⟨kn, rfl⟩ : ∃ kn : Nat, k = kn := ⟨k.toNat, by omega⟩
  rw [Int.toNat_natCast]
  have hk0 : 0 < kn := by omega
  have hq : ∀ row, row ∈ ps.map encP → row.length = 3 := fun row hr => by obtain ⟨_, _, rfl⟩ := List.mem_map.1 hr; rfl
  have hKs := keepL_keeps ps (x, y) hk0
  have hKl : ∀ i, i ≤ ps.length → (keepL ps (x, y) kn i).length = min kn i := fun i hi => by
    have := (hKs i hi).len
    rwa [farL_len hi] at this
  refine awp_skip ?_
  refine awp_seq ?_
  refine awpF_region ?_; intro K hK; simp only [push_cast, seval]; (try simp (disch := omega) only [wrapI]); (repeat ((with_reducible refine And.intro ?_ ?_); (focus (exact ob1)))); refine hK _ ?_; clear hK; clear K
  refine awp_seq ?_
  refine awp_seq ?_
  refine awpF_region ?_; intro K hK; simp only [push_cast, seval]; (try simp (disch := omega) only [wrapI]); (repeat ((with_reducible refine And.intro ?_ ?_); (focus (exact ob1)))); refine hK _ ?_; clear hK; clear K
  refine awp_block ?_
  refine awp_loopP (α := Nat × List (List D)) (st := fun a => ⟨[(0, .d (.sl (ps.map encP))), (2, .d (.int .i64 kn)), (4, .ptr 2 0 0), (7, .ptr 0 0 0), (26, .d (.sl (ps.map encP))), (27, .d (.int .i64 ps.length)), (28, .d (.int .i64 a.1))], HF (keepL ps (x, y) kn a.1) a.2 ++ [.cells [.d (.int .i64 x), .d (.int .i64 y)]]⟩)
    (inv := fun a => a.1 ≤ ps.length) (μ := fun a => ps.length - a.1) (x0 := (0, [])) (r0 := [2, 1, 0]) (Nat.zero_le _) ?_ ?_
  · rw [keepL, HF]
    exact ⟨by simp, by simp, by simp [push_cast, seval], by simp [push_cast, seval], by simp [push_cast, seval], by simp [push_cast, seval]⟩
  rintro ⟨i, X⟩ hi
  dsimp only at hi ⊢
  have hkl := hKl i hi
  have hks := fun p hp => keepL_succ (ps := ps) (x, y) kn (i := i) (p := p) hp
  rw [HF, List.cons_append, List.cons_append, List.nil_append]
  refine awp_seq ?_
  refine awpF_region ?_; intro K hK; simp only [push_cast, seval]; (try simp (disch := omega) only [wrapI]); (repeat ((with_reducible refine And.intro ?_ ?_); (focus (exact ob1)))); refine hK _ ?_; clear hK; clear K
  refine awp_seq ?_
  apply awp_cond; (focus (simp only [push_cast, seval]; rfl))
  · intro h2; (try simp only [decide_eq_true_eq, decide_eq_false_iff_not, Bool.not_eq_true', Bool.not_eq_false', Bool.and_eq_true, Bool.or_eq_true, Bool.not_eq_true] at h2)
    have hlt : i < ps.length := by omega
    obtain ⟨p, hp⟩ : ∃ p, ps[i]? = some p := ⟨_, List.getElem?_eq_getElem hlt⟩
    have hs := hks p hp
    clear hks
    obtain ⟨c1, c2⟩ := step_cases kn (keepL ps (x, y) kn i) (i, dist2 (x, y) (ptS p))
    have hpl := push_len (keepL ps (x, y) kn i) (i, dist2 (x, y) (ptS p))
    have h77 := p77 (keepL ps (x, y) kn i) X (i, dist2 (x, y) (ptS p)) (by omega)
    generalize keepL ps (x, y) kn i = h at *
    refine awp_skip ?_
    refine awp_seq ?_
    refine awp_block ?_
    refine awp_seq ?_
    refine awpF_region ?_; intro K hK; simp only [push_cast, seval, hp, encP]; (try simp (disch := omega) only [wrapI]); (repeat ((with_reducible refine And.intro ?_ ?_); (focus (exact ob1)))); refine hK _ ?_; clear hK; clear K
    refine awp_seq ?_
    refine awp_drawX [0, 1, 2, 3, 4, 5, 6, 7, 8] (m := 9) rfl (by kernel_rfl) (by kernel_rfl) rfl ?_
    intro K hK
    simp only [push_cast, seval]
    (repeat ((with_reducible refine And.intro ?_ ?_); (focus (exact ob1))))
    refine CallK.pd (p59 _ _ _) ?_; simp only [push_cast, seval]; (try simp (disch := omega) only [wrapI]); (repeat ((with_reducible refine And.intro ?_ ?_); (focus (exact ob1))))
    refine CallK.pd (p58 _ _ _ _) ?_; simp only [push_cast, seval]; (try simp (disch := omega) only [wrapI]); (repeat ((with_reducible refine And.intro ?_ ?_); (focus (exact ob1))))
    refine call_Q (H1 := HF h X) (T := [.cells [.d (.int .i64 x), .d (.int .i64 y)], .cells [.d (.int .i64 p.1), .d (.int .i64 p.2.1), .d (.int .i64 p.2.2)]]) 1 (by simp) rfl rfl rfl rfl (by simp only [push_cast, seval]) h77 ?_
    rintro _ _ ⟨rfl, rfl⟩
    refine ⟨rfl, ?_⟩
    simp only [push_cast, seval]
    refine hK _ ?_; clear hK; clear K
    generalize push befF h (i, dist2 (x, y) (ptS p)) = g at *
    rw [HF, List.cons_append, List.cons_append, List.nil_append]
    refine awp_seq ?_
    refine awp_regionF ?_; intro K hK
    refine from_X 3 rfl rfl ?_; simp only [push_cast, seval]; (try simp (disch := omega) only [wrapI]); (repeat ((with_reducible refine And.intro ?_ ?_); (focus (exact ob1))))
    refine call_X (by simp only [push_cast, seval]) (p78 1 g.length _) ?_
    rintro _ _ ⟨rfl, rfl⟩
    simp only [push_cast, seval]
    refine from_end ?_; simp only [push_cast, seval]; (try simp (disch := omega) only [wrapI]); (repeat ((with_reducible refine And.intro ?_ ?_); (focus (exact ob1)))); refine hK _ ?_; clear hK; clear K
    apply awp_cond; (focus (simp only [push_cast, seval]; rfl))
    · intro h3; (try simp only [decide_eq_true_eq, decide_eq_false_iff_not, Bool.not_eq_true', Bool.not_eq_false', Bool.and_eq_true, Bool.or_eq_true, Bool.not_eq_true] at h3)
      have hc1 := c1 (by omega)
      have h79 := p79 g [] (g.length - 1) (by omega) (by omega)
      rw [pop_eq g (g.length - 1) (by omega)] at hc1
      refine awp_regionX 2 rfl ?_; intro K hK; simp only [push_cast, seval]; (try simp (disch := omega) only [wrapI]); (repeat ((with_reducible refine And.intro ?_ ?_); (focus (exact ob1))))
      refine call_Q (H1 := HF g []) (T := [.cells [.d (.int .i64 x), .d (.int .i64 y)], .cells [.d (.int .i64 p.1), .d (.int .i64 p.2.1), .d (.int .i64 p.2.2)]]) 5 (by simp) (by rw [HF, List.append_nil]; rfl) rfl rfl rfl (by simp only [push_cast, seval]) h79 ?_
      rintro _ _ ⟨rfl, X', rfl⟩
      refine ⟨rfl, ?_⟩
      rw [← hc1, ← hs]
      simp only [push_cast, seval]
      refine hK _ ?_; clear hK; clear K
      refine inblock_norm ?_
      refine awpF_region ?_; intro K hK; simp only [push_cast, seval]; (try simp (disch := omega) only [wrapI]); (repeat ((with_reducible refine And.intro ?_ ?_); (focus (exact ob1)))); refine hK _ ?_; clear hK; clear K
      refine round_endG (i + 1, X') [0, 1, 2] ⟨by dsimp only; omega, by dsimp only; omega, ?_⟩
      dsimp only
      generalize keepL ps (x, y) kn (i + 1) = g2
      rw [HF]
      exact ⟨by simp, by simp, by simp [push_cast, seval], by simp [push_cast, seval], by simp [push_cast, seval], by simp [push_cast, seval]⟩
    · intro h3; (try simp only [decide_eq_true_eq, decide_eq_false_iff_not, Bool.not_eq_true', Bool.not_eq_false', Bool.and_eq_true, Bool.or_eq_true, Bool.not_eq_true] at h3)
      rw [c2 (by omega)] at hs
      refine awp_skip ?_
      refine inblock_norm ?_
      refine awpF_region ?_; intro K hK; simp only [push_cast, seval]; (try simp (disch := omega) only [wrapI]); (repeat ((with_reducible refine And.intro ?_ ?_); (focus (exact ob1)))); refine hK _ ?_; clear hK; clear K
      refine round_endG (i + 1, []) [0, 1, 2] ⟨by dsimp only; omega, by dsimp only; omega, ?_⟩
      dsimp only
      rw [hs, HF, List.append_nil]
      exact ⟨by simp, by simp, by simp [push_cast, seval], by simp [push_cast, seval], by simp [push_cast, seval], by simp [push_cast, seval]⟩
  · intro h2; (try simp only [decide_eq_true_eq, decide_eq_false_iff_not, Bool.not_eq_true', Bool.not_eq_false', Bool.and_eq_true, Bool.or_eq_true, Bool.not_eq_true] at h2)
    obtain rfl : i = ps.length := by omega
    rw [← hkl]
    clear hks hKl
    have hKn := hKs ps.length (Nat.le_refl _)
    clear hKs
    generalize keepL ps (x, y) kn ps.length = h at *
    generalize hO : emptyL h.length h [] = O
    refine awp_exit ?_; (repeat (first | refine then_exit ?_ | refine inblock_other (by decide) ?_)); refine inblock_same ?_
    refine awp_seq ?_
    refine awp_regionF ?_; intro K hK
    refine from_X 3 rfl rfl ?_; simp only [push_cast, seval]; (try simp (disch := omega) only [wrapI]); (repeat ((with_reducible refine And.intro ?_ ?_); (focus (exact ob1))))
    refine call_X (by simp only [push_cast, seval]) (p78 1 h.length _) ?_
    rintro _ _ ⟨rfl, rfl⟩
    simp only [push_cast, seval]
    refine from_end ?_; simp only [push_cast, seval]; (try simp (disch := omega) only [wrapI]); (repeat ((with_reducible refine And.intro ?_ ?_); (focus (exact ob1)))); refine hK _ ?_; clear hK; clear K
    refine awp_seq ?_
    refine awp_seq ?_
    refine awpF_region ?_; intro K hK; simp only [push_cast, seval]; (try simp (disch := omega) only [wrapI]); (repeat ((with_reducible refine And.intro ?_ ?_); (focus (exact ob1)))); refine hK _ ?_; clear hK; clear K
    refine awp_block ?_
    refine awp_loopP (α := List Fa × List Fa × List (List D)) (st := fun a => ⟨[(7, .ptr 0 0 0), (10, .ref 2 0 h.length), (11, .d (.int .i64 ((a.1.length : Int) - 1)))], HF a.1 a.2.2 ++ [.data 1 (List.replicate a.1.length [.int .i64 0] ++ (a.2.1.map (·.1)).map encN)]⟩)
      (inv := fun a => emptyL a.1.length a.1 a.2.1 = O ∧ a.1.length + a.2.1.length = h.length) (μ := fun a => a.1.length) (x0 := (h, [], X)) (r0 := [0, 1, 3]) ⟨hO, rfl⟩ ?_ ?_
    · rw [HF]
      exact ⟨by simp, by simp, by simp [push_cast, seval], by simp [push_cast, seval], by simp [push_cast, seval], by simp [push_cast, seval]⟩
    rintro ⟨g, o, X'⟩ ⟨i1, i2⟩
    dsimp only at i1 i2 ⊢
    rw [HF, List.cons_append, List.cons_append, List.nil_append]
    refine awp_seq ?_
    refine awp_seq ?_
    refine awpF_region ?_; intro K hK; simp only [push_cast, seval]; (try simp (disch := omega) only [wrapI]); (repeat ((with_reducible refine And.intro ?_ ?_); (focus (exact ob1)))); refine hK _ ?_; clear hK; clear K
    apply awp_cond; (focus (simp only [push_cast, seval]; rfl))
    · intro h3; (try simp only [decide_eq_true_eq, decide_eq_false_iff_not, Bool.not_eq_true', Bool.not_eq_false', Bool.and_eq_true, Bool.or_eq_true, Bool.not_eq_true] at h3)
      obtain ⟨m, hm⟩ : ∃ m, g.length = m + 1 := ⟨g.length - 1, by omega⟩
      have h79 := p79 g X' m hm (by omega)
      rw [pop_at g m hm] at h79
      rw [hm] at i1
      rw [emptyL] at i1
      have hsl := sw_len g 0 m
      have hdl := down_len (bef := befF) (sw g 0 m) m 0 (by omega)
      have htl : ((down befF (sw g 0 m) m 0).take m).length = m := by rw [List.length_take]; omega
      generalize (down befF (sw g 0 m) m 0).take m = g2 at *
      have hset : (List.replicate g.length [D.int .i64 0] ++ (o.map (·.1)).map encN).set m [.int .i64 ((atF g 0).1 : Int)] = List.replicate m [D.int .i64 0] ++ ((atF g 0 :: o).map (·.1)).map encN := by
        rw [hm, List.set_append_left _ _ (by simp), List.replicate_succ', List.set_append_right _ _ (by simp), List.length_replicate, Nat.sub_self]
        simp [encN]
      have hw : (g.length : Int) - 1 = (m : Int) := by omega
      refine awp_skip ?_
      refine awp_seq ?_
      refine awp_block ?_
      refine awp_regionF ?_; intro K hK
      refine from_X 4 rfl rfl ?_; simp only [push_cast, seval]; (try simp (disch := omega) only [wrapI]); (repeat ((with_reducible refine And.intro ?_ ?_); (focus (exact ob1))))
      refine call_Q (H1 := HF g X') (T := [.data 1 (List.replicate g.length [D.int .i64 0] ++ (o.map (·.1)).map encN)]) 5 (by simp) rfl rfl rfl rfl (by simp only [push_cast, seval]) h79 ?_
      rintro _ _ ⟨rfl, X2, rfl⟩
      refine ⟨rfl, ?_⟩
      rw [HF, List.cons_append, List.cons_append, List.nil_append]
      simp only [push_cast, seval]
      refine from_end ?_
      simp only [push_cast, seval, hw, Int.toNat_natCast, hset]
      (repeat ((with_reducible refine And.intro ?_ ?_); (focus (exact ob1))))
      refine hK _ ?_; clear hK; clear K
      refine inblock_norm ?_
      refine awpF_region ?_; intro K hK; simp only [push_cast, seval]; (try simp (disch := omega) only [wrapI]); (repeat ((with_reducible refine And.intro ?_ ?_); (focus (exact ob1)))); refine hK _ ?_; clear hK; clear K
      refine round_endG (g2, atF g 0 :: o, X2) [0, 1, 2] ⟨by dsimp only; omega, ⟨by dsimp only; rw [htl]; exact i1, by dsimp only; rw [List.length_cons]; omega⟩, ?_⟩
      dsimp only
      rw [HF, htl]
      exact ⟨by simp, by simp, by simp [push_cast, seval], by simp [push_cast, seval], by simp [push_cast, seval], by simp [push_cast, seval]⟩
    · intro h3; (try simp only [decide_eq_true_eq, decide_eq_false_iff_not, Bool.not_eq_true', Bool.not_eq_false', Bool.and_eq_true, Bool.or_eq_true, Bool.not_eq_true] at h3)
      obtain rfl : g = [] := List.length_eq_zero_iff.1 (by omega)
      have hoO : o = O := i1
      subst hoO
      refine awp_exit ?_; (repeat (first | refine then_exit ?_ | refine inblock_other (by decide) ?_)); refine inblock_same ?_
      refine awp_seq ?_
      refine awpF_region ?_; intro K hK; simp only [push_cast, seval]; (try simp (disch := omega) only [wrapI]); (repeat ((with_reducible refine And.intro ?_ ?_); (focus (exact ob1)))); refine hK _ ?_; clear hK; clear K
      refine awp_ret ?_; (repeat (first | refine then_ret ?_ | refine inblock_ret ?_)); refine fin_of (by simp only [push_cast, seval]; first | done | rfl) ob1 ?_
      have hol : h.length = (o.map (·.1)).length := by
        simp at i2
        simp [i2]
      rw [hol]
      exact deep_ints rfl
end Go.Aw
