/-
  Contract of cloud.Hull. Conditions: none (what is not valid is refused).
-/
import Derived.Test.YtecindhbaekncaaGreatPxH8
import Derived.Test.YtecindhbaekncaaGreatPxH6
import Derived.Test.YtecindhbaekncaaGreatPcD
import Derived.Test.YtecindhbaekncaaGreatPxAwRl
namespace Go.Aw
set_option linter.unusedSimpArgs false
set_option linter.unusedVariables false
open Go.RowKit Go.Proofs Go.Rg

theorem enS_eq : (enD enS : Sp → List D) = encS := rfl
theorem sort_le (zs : List Sp) : (sortS zs).Pairwise fun a b => ltS a b ∨ a = b :=
  (sortS_pair zs).imp fun {a b} h => by
    by_cases h1 : ltS a b
    · exact .inl h1
    · exact .inr (ltS_tri h1 h)
def keysS (zs : List Sp) : List Sp := cmpR (sortS zs)
theorem keysS_law (zs : List Sp) : IsKeys zs (keysS zs) := ⟨cmpR_sorted (sort_le zs), fun c => by rw [keysS, cmpR_mem]; exact (sortS_perm zs).mem_iff⟩
theorem hullS (zs : List Sp) : isHull zs (hullK (keysS zs)) := isHull_mem (keysS_law zs).2 (hullK_law (keysS_law zs).1)

theorem agg_vr {E : Env} {F : Nat → Prop} {w : World} {p : Sp} {v : Value} (h : (encV p)[0]? = some v) : VR E F w (.agg [.d (.int .i64 p.1), .d (.int .i64 p.2)]) v := by
  simp [encV] at h
  subst h
  refine .agg _ _ rfl fun j x v hx hv => ?_
  match j with
  | 0 => simp at hx hv; subst hx hv; exact .d _ _ (.int _ _)
  | 1 => simp at hx hv; subst hx hv; exact .d _ _ (.int _ _)
  | j + 2 => simp at hx
theorem take_out {l : List Sp} {k : Nat} (hk : k < l.length) : (l.take (k + 1)).map encS = (l.take k).map encS ++ [[.int .i64 (atS l k).1, .int .i64 (atS l k).2]] := by
  rw [take_at hk, List.map_append]
  rfl
theorem tm36 {x : V} {a b : V} {i : Nat} (h : tget [(3, a), (6, b)] i = some x) : (i = 3 ∧ x = a) ∨ (i = 6 ∧ x = b) := by
  simp only [tget] at h
  split at h
  · rename_i hi; simp at h; exact .inl ⟨hi, h.symm⟩
  · split at h
    · rename_i hi; simp at h; exact .inr ⟨hi, h.symm⟩
    · cases h
theorem p49K (ps : List Pt) : PD Tryz.prog 17 [.sl (ps.map encP)] (ofD (.sl ((if check ps = 0 then hullK (keysS (ps.map ptS)) else []).map encS))) := by
  have h25 := p25 ps
  refine pddR_of (fn := Tryz.f17) [.tmp 2] (by kernel_rfl) rfl (by kernel_rfl) (Nat.le_of_ble_eq_true rfl) rfl ?_
  refine awr_seq ?_
  refine awr_of (by kernel_rfl) ?_
  refine awpF_region ?_; intro K hK; simp only [push_cast, seval]; (try simp (disch := omega) only [wrapI]); (repeat ((with_reducible refine And.intro ?_ ?_); (focus (exact ob1)))); refine hK _ ?_; clear hK; clear K
  show AWR _ _ _ _ _
  refine awr_seq ?_
  refine awr_seq ?_
  refine awr_of (by kernel_rfl) ?_
  refine awpF_region ?_; intro K hK; simp only [push_cast, seval]
  (repeat ((with_reducible refine And.intro ?_ ?_); (focus (exact ob1))))
  refine CallK.pd (h25) ?_; simp only [push_cast, seval]; (try simp (disch := omega) only [wrapI]); (repeat ((with_reducible refine And.intro ?_ ?_); (focus (exact ob1))))
  refine hK _ ?_; clear hK; clear K
  show AWR _ _ _ _ _
  apply awr_cond; (focus (simp only [push_cast, seval]; rfl))
  · intro h1; (try simp only [decide_eq_true_eq, decide_eq_false_iff_not, Bool.not_eq_true', Bool.not_eq_false', Bool.and_eq_true, Bool.or_eq_true, Bool.not_eq_true] at h1)
    have hc : ¬ check ps = 0 := by simpa using h1
    rw [if_neg hc]
    refine awr_of (by kernel_rfl) ?_
    refine awp_seq ?_
    refine awpF_region ?_; intro K hK; simp only [push_cast, seval]; (try simp (disch := omega) only [wrapI]); (repeat ((with_reducible refine And.intro ?_ ?_); (focus (exact ob1)))); refine hK _ ?_; clear hK; clear K
    refine awp_ret ?_; (repeat (first | refine then_ret ?_ | refine inblock_ret ?_)); refine fin_of (by simp only [push_cast, seval]; first | done | rfl) ob1 ?_
    exact .nil
  intro h1; (try simp only [decide_eq_true_eq, decide_eq_false_iff_not, Bool.not_eq_true', Bool.not_eq_false', Bool.and_eq_true, Bool.or_eq_true, Bool.not_eq_true] at h1)
  have hc : check ps = 0 := by simpa using h1
  rw [if_pos hc]
  refine awr_of (by kernel_rfl) (awp_skip ?_)
  show AWR _ _ _ _ _
  have hn := check_len hc
  have hfair : ∀ p, p ∈ ps.map ptS → fairS p = true := fun p hp => by
    obtain ⟨q, hq, rfl⟩ := List.mem_map.1 hp
    obtain ⟨i, hi⟩ := List.getElem?_of_mem hq
    exact check_fair hc hi
  have h59 := fun (p : Pt) => p59 p.1 p.2.1 p.2.2
  have hq3 : ∀ row, row ∈ ps.map encP → row.length = 3 := fun row hr => by obtain ⟨_, _, rfl⟩ := List.mem_map.1 hr; rfl
  refine awr_seq ?_
  refine awr_of (by kernel_rfl) ?_
  refine awpF_region ?_; intro K hK; simp only [push_cast, seval]; (try simp (disch := omega) only [wrapI]); (repeat ((with_reducible refine And.intro ?_ ?_); (focus (exact ob1)))); refine hK _ ?_; clear hK; clear K
  show AWR _ _ _ _ _
  refine awr_seq ?_
  refine awr_of (by kernel_rfl) ?_
  refine awp_virt 3 2 rfl ?_
  simp only [push_cast, seval]
  refine awp_seq ?_
  refine awpF_region ?_; intro K hK; simp only [push_cast, seval]; (try simp (disch := omega) only [wrapI]); (repeat ((with_reducible refine And.intro ?_ ?_); (focus (exact ob1)))); refine hK _ ?_; clear hK; clear K
  refine awp_block ?_
  refine awp_loopP (α := Nat) (st := fun i => ⟨[(3, .ref 0 0 i), (12, .d (.sl (ps.map encP))), (13, .d (.int .i64 ps.length)), (14, .d (.int .i64 i))], [.data 2 (((ps.take i).map ptS).map encS)]⟩)
    (inv := fun i => i ≤ ps.length) (μ := fun i => ps.length - i) (x0 := 0) (r0 := [0]) ?_ ?_ ?_
  · exact Nat.zero_le _
  · rw [List.take_zero]
    exact ⟨by simp, by simp, by simp [push_cast, seval], by simp [push_cast, seval], by simp [push_cast, seval], by simp [push_cast, seval]⟩
  · intro i hi
    refine awp_seq ?_
    refine awpF_region ?_; intro K hK; simp only [push_cast, seval]; (try simp (disch := omega) only [wrapI]); (repeat ((with_reducible refine And.intro ?_ ?_); (focus (exact ob1)))); refine hK _ ?_; clear hK; clear K
    refine awp_seq ?_
    apply awp_cond; (focus (simp only [push_cast, seval]; rfl))
    · intro h2; (try simp only [decide_eq_true_eq, decide_eq_false_iff_not, Bool.not_eq_true', Bool.not_eq_false', Bool.and_eq_true, Bool.or_eq_true, Bool.not_eq_true] at h2)
      have hlt : i < ps.length := by omega
      obtain ⟨p, hp⟩ : ∃ p, ps[i]? = some p := ⟨_, List.getElem?_eq_getElem hlt⟩
      have hsn : ((ps.take (i + 1)).map ptS).map encS = ((ps.take i).map ptS).map encS ++ [[.int .i64 p.1, .int .i64 p.2.1]] := by
        rw [List.take_add_one, hp, List.map_append, List.map_append]
        rfl
      have htl : (((ps.take i).map ptS).map encS).length = i := by simp; omega
      have htk : (((ps.take i).map ptS).map encS).take i = ((ps.take i).map ptS).map encS := List.take_of_length_le (by omega)
      generalize ((ps.take i).map ptS).map encS = X at hsn htl htk ⊢
      refine awp_skip ?_
      refine awp_seq ?_
      refine awp_block ?_
      refine awp_seq ?_
      refine awpF_region ?_; intro K hK; simp only [push_cast, seval, hp, encP]; (try simp (disch := omega) only [wrapI]); (repeat ((with_reducible refine And.intro ?_ ?_); (focus (exact ob1)))); refine hK _ ?_; clear hK; clear K
      refine awpF_region ?_; intro K hK; simp only [push_cast, seval]
      (repeat ((with_reducible refine And.intro ?_ ?_); (focus (exact ob1))))
      refine CallK.pd (h59 p) ?_; simp only [push_cast, seval]; (try simp (disch := omega) only [wrapI]); (repeat ((with_reducible refine And.intro ?_ ?_); (focus (exact ob1))))
      simp only [htk]
      (repeat ((with_reducible refine And.intro ?_ ?_); (focus (exact ob1))))
      refine hK _ ?_; clear hK; clear K
      refine inblock_norm ?_
      refine awpF_region ?_; intro K hK; simp only [push_cast, seval]; (try simp (disch := omega) only [wrapI]); (repeat ((with_reducible refine And.intro ?_ ?_); (focus (exact ob1)))); refine hK _ ?_; clear hK; clear K
      refine round_endG (i + 1) [0] ⟨by omega, by omega, ?_⟩
      rw [hsn]
      exact ⟨by simp, by simp, by simp [push_cast, seval], by simp [push_cast, seval], by simp [push_cast, seval], by simp [push_cast, seval]⟩
    · intro h2; (try simp only [decide_eq_true_eq, decide_eq_false_iff_not, Bool.not_eq_true', Bool.not_eq_false', Bool.and_eq_true, Bool.or_eq_true, Bool.not_eq_true] at h2)
      obtain rfl : i = ps.length := by omega
      rw [List.take_length]
      refine awp_exit ?_; (repeat (first | refine then_exit ?_ | refine inblock_other (by decide) ?_)); refine inblock_same ?_
      show AWR _ _ _ _ _
      have hzl : (ps.map ptS).length = ps.length := by simp
      rw [← hzl]
      rw [← hzl] at hn
      generalize ps.map ptS = zs at *
      refine awr_ren [0] ⟨[(3, .ref 0 0 zs.length)], [.data 2 (zs.map encS)]⟩ (by exact ⟨by simp, by simp, by simp [push_cast, seval], by simp [push_cast, seval], by simp [push_cast, seval], by simp [push_cast, seval]⟩) ?_
      have h82 := a82 zs (by omega) 0 [.data 2 (zs.map encS)] [0] rfl
      rw [enS_eq] at h82
      have hsl := sortS_len zs
      have h89 := p89 (sortS zs) (by omega)
      rw [hsl] at h89
      have hkl : (keysS zs).length ≤ zs.length := by
        have := cmpR_len (sortS zs)
        unfold keysS
        omega
      have hkf : ∀ p, p ∈ keysS zs → fairS p = true := fun p hp => hfair p (((keysS_law zs).2 p).1 hp)
      have hkp := (keysS_law zs).1
      refine awr_seq ?_
      refine awr_of (by kernel_rfl) ?_
      refine awpF_regionH [1] ?_; intro K hK; simp only [push_cast, seval, List.zipIdx_cons, List.zipIdx_nil]
      refine HeapK.mk _ h82 ?_
      intro x' H' hR
      obtain ⟨hx', hH'⟩ := hR
      subst hx'
      subst hH'
      simp only [push_cast, seval]
      refine hK _ ?_; clear hK; clear K
      show AWR _ _ _ _ _
      refine awr_seq ?_
      refine awr_of (by kernel_rfl) ?_
      refine awpF_regionH [1] ?_; intro K hK; simp only [push_cast, seval, List.zipIdx_cons, List.zipIdx_nil]
      refine HeapK.mk _ h89 ?_
      intro x' H' hR
      obtain ⟨X, hx', hH'⟩ := hR
      subst hx'
      subst hH'
      rw [show cmpR (sortS zs) = keysS zs from rfl]
      simp only [push_cast, seval]
      refine hK _ ?_; clear hK; clear K
      show AWR _ _ _ _ _
      generalize keysS zs = ks at hkl hkf hkp ⊢
      refine awr_ren [0] ⟨[(3, .ref 0 0 ks.length)], [.data 2 (ks.map encS ++ X)]⟩ (by exact ⟨by simp, by simp, by simp [push_cast, seval], by simp [push_cast, seval], by simp [push_cast, seval], by simp [push_cast, seval]⟩) ?_
      refine awr_seq ?_
      refine awr_seq ?_
      refine awr_of (by kernel_rfl) ?_
      refine awpF_region ?_; intro K hK; simp only [push_cast, seval]; (try simp (disch := omega) only [wrapI]); (repeat ((with_reducible refine And.intro ?_ ?_); (focus (exact ob1)))); refine hK _ ?_; clear hK; clear K
      show AWR _ _ _ _ _
      apply awr_cond; (focus (simp only [push_cast, seval]; rfl))
      · intro h3; (try simp only [decide_eq_true_eq, decide_eq_false_iff_not, Bool.not_eq_true', Bool.not_eq_false', Bool.and_eq_true, Bool.or_eq_true, Bool.not_eq_true] at h3)
        have h3' : hullK ks = ks := by unfold hullK; rw [if_pos (by omega)]
        rw [h3']
        refine awr_of (by kernel_rfl) ?_
        refine awp_seq ?_
        refine awpF_region ?_; intro K hK; simp only [push_cast, seval]; (try simp (disch := omega) only [wrapI]); (repeat ((with_reducible refine And.intro ?_ ?_); (focus (exact ob1)))); refine hK _ ?_; clear hK; clear K
        refine awp_ret ?_; (repeat (first | refine then_ret ?_ | refine inblock_ret ?_)); refine fin_of (by simp only [push_cast, seval]; first | done | rfl) ob1 ?_
        have hd := Deep.data (H := [Blk.data 2 (ks.map encS ++ X)]) 0 0 ks.length 2 (ks.map encS ++ X) rfl (by simp)
        rw [List.drop_zero, List.take_left' (by simp)] at hd
        exact hd
      intro h3; (try simp only [decide_eq_true_eq, decide_eq_false_iff_not, Bool.not_eq_true', Bool.not_eq_false', Bool.and_eq_true, Bool.or_eq_true, Bool.not_eq_true] at h3)
      have hK : hullK ks = outC ks ++ outC ks.reverse := by unfold hullK outC; rw [if_neg (by omega)]
      rw [hK]
      refine awr_of (by kernel_rfl) (awp_skip ?_)
      show AWR _ _ _ _ _
      have h90 := fun T m => p90 ks.length T m (by omega)
      have h91 := fun m Y => p91 ks (by omega) X m Y
      have hN1 : (outC ks).length ≤ 1000 := by
        have := chainR_len ks
        simp only [outC, List.length_reverse, List.length_tail]
        omega
      have hN2 : (outC ks.reverse).length ≤ 1000 := by
        have := chainR_len ks.reverse
        simp only [outC, List.length_reverse, List.length_tail] at this ⊢
        omega
      have gen1 := fun m l J W F pv hJ hlt hp h0 m' => gen114 ks hkf (by omega) (m := m) (l := l) (J := J) hJ (W := W) (F := F) hlt (pv := pv) hp h0 m'
      have gen2 := fun m l J W F pv hJ hlt hp h0 m' => gen114 ks.reverse (fun p hp => hkf p (List.mem_reverse.1 hp)) (by rw [List.length_reverse]; omega) (m := m) (l := l) (J := J) hJ (W := W) (F := F) hlt (pv := pv) hp h0 m'
      refine awr_seq ?_
      refine awr_of (by kernel_rfl) ?_
      refine awpF_region ?_; intro K hK; simp only [push_cast, seval]; (try simp (disch := omega) only [wrapI]); (repeat ((with_reducible refine And.intro ?_ ?_); (focus (exact ob1)))); refine hK _ ?_; clear hK; clear K
      show AWR _ _ _ _ _
      refine awr_virtC 1 2 rfl ?_
      simp only [push_cast, seval]
      refine awr_seq ?_
      refine awr_seq ?_
      refine awr_of (by kernel_rfl) ?_
      refine awpF_regionH [1] ?_; intro K hK; simp only [push_cast, seval, List.zipIdx_cons, List.zipIdx_nil]
      refine HeapK.mk _ (h90 _ _) ?_
      intro x' H' hR
      obtain ⟨hx', hH'⟩ := hR
      subst hx'
      subst hH'
      simp only [push_cast, seval]
      refine hK _ ?_; clear hK; clear K
      show AWR _ _ _ _ _
      refine awr_block ?_
      refine awr_range (gf := 63) (cap := .cp [.sl (ks.map encS)] 0) [(3, .ref 0 0 ks.length), (6, .ptr 1 0 0)]
        (fun k => [.data 2 (ks.map encS ++ X), .cells [.ref 2 0 (k)], .data 2 (((outC ks).take k).map encS), .cells [.ref 0 0 ks.length]])
        (fun k => .agg [.d (.int .i64 (atS (outC ks) k).1), .d (.int .i64 (atS (outC ks) k).2)]) (fun k => encV (atS (outC ks) k)) (outC ks).length [0, 1] ?_ (enters_of Tryz.func63 (by kernel_rfl) rfl) (by kernel_rfl) gen1 (fun _ => rfl) (fun k hk E F w v h => agg_vr h) ?_ ?_ ?_ ?_ ?_ ?_
      · have htk : (ks.map encS ++ X).take ks.length = ks.map encS := List.take_left' (by simp)
        simp [push_cast, seval, htk]
      · rfl
      · intro i x h
        rcases tm36 h with ⟨rfl, rfl⟩ | ⟨rfl, rfl⟩ <;> rfl
      · intro i x h j hj
        rcases tm36 h with ⟨rfl, rfl⟩ | ⟨rfl, rfl⟩ <;> simp [V.has] at hj <;> simp [← hj]
      · intro i hi
        simp at hi ⊢
        omega
      · intro k hk
        have hto := take_out hk
        have htl : (((outC ks).take k).map encS).length = k := by simp; omega
        
        have htk : (((outC ks).take k).map encS).take k = ((outC ks).take k).map encS := List.take_of_length_le (by omega)
        rw [hto]
        generalize ((outC ks).take k).map encS = Y at htl htk ⊢
        simp only [push_cast, seval, htk]
        refine ⟨fun h => h, by omega, by omega, [0, 1, 2, 3], ?_⟩
        exact ⟨by simp, by simp, by simp [push_cast, seval], by simp [push_cast, seval], by simp [push_cast, seval], by simp [push_cast, seval]⟩
      rw [List.take_length]
      show AWR _ _ _ _ _
      refine awr_ren [0, 1, 2] ⟨[(3, .ref 0 0 ks.length), (6, .ptr 1 0 0)], [.data 2 (ks.map encS ++ X), .cells [.ref 2 0 (outC ks).length], .data 2 ((outC ks).map encS)]⟩ (by exact ⟨by simp, by simp, by simp [push_cast, seval], by simp [push_cast, seval], by simp [push_cast, seval], by simp [push_cast, seval]⟩) ?_
      refine awr_seq ?_
      refine awr_of (by kernel_rfl) ?_
      refine awpF_regionH [1] ?_; intro K hK; simp only [push_cast, seval, List.zipIdx_cons, List.zipIdx_nil]
      refine HeapK.mk _ (h91 _ _) ?_
      intro x' H' hR
      obtain ⟨hx', hH'⟩ := hR
      subst hx'
      subst hH'
      simp only [push_cast, seval]
      refine hK _ ?_; clear hK; clear K
      show AWR _ _ _ _ _
      refine awr_seq ?_
      refine awr_seq ?_
      refine awr_of (by kernel_rfl) ?_
      refine awpF_regionH [1] ?_; intro K hK; simp only [push_cast, seval, List.zipIdx_cons, List.zipIdx_nil]
      refine HeapK.mk _ (h90 _ _) ?_
      intro x' H' hR
      obtain ⟨hx', hH'⟩ := hR
      subst hx'
      subst hH'
      simp only [push_cast, seval]
      refine hK _ ?_; clear hK; clear K
      show AWR _ _ _ _ _
      refine awr_block ?_
      have hO1 : ((outC ks).map encS).length = (outC ks).length := by simp
      have hO1t : ((outC ks).map encS).take (outC ks).length = (outC ks).map encS := List.take_of_length_le (by simp)
      rw [List.map_append]
      generalize (outC ks).map encS = Y1 at hO1 hO1t ⊢
      generalize (outC ks).length = N1 at *
      refine awr_range (gf := 63) (cap := .cp [.sl (ks.reverse.map encS)] 0) [(3, .ref 0 0 ks.length), (6, .ptr 1 0 0)]
        (fun k => [.data 2 (ks.reverse.map encS ++ X), .cells [.ref 2 0 (N1 + k)], .data 2 (Y1 ++ ((outC (ks.reverse)).take k).map encS), .cells [.ref 0 0 ks.length]])
        (fun k => .agg [.d (.int .i64 (atS (outC (ks.reverse)) k).1), .d (.int .i64 (atS (outC (ks.reverse)) k).2)]) (fun k => encV (atS (outC (ks.reverse)) k)) (outC (ks.reverse)).length [0, 1] ?_ (enters_of Tryz.func63 (by kernel_rfl) rfl) (by kernel_rfl) gen2 (fun _ => rfl) (fun k hk E F w v h => agg_vr h) ?_ ?_ ?_ ?_ ?_ ?_
      · have htk : (ks.reverse.map encS ++ X).take ks.length = ks.reverse.map encS := List.take_left' (by simp)
        simp [push_cast, seval, htk]
      · simp
      · intro i x h
        rcases tm36 h with ⟨rfl, rfl⟩ | ⟨rfl, rfl⟩ <;> rfl
      · intro i x h j hj
        rcases tm36 h with ⟨rfl, rfl⟩ | ⟨rfl, rfl⟩ <;> simp [V.has] at hj <;> simp [← hj]
      · intro i hi
        simp at hi ⊢
        omega
      · intro k hk
        have hto := take_out hk
        have htl : (((outC ks.reverse).take k).map encS).length = k := by simp; omega
        
        rw [hto, show N1 + (k + 1) = N1 + k + 1 by omega]
        have htk : (Y1 ++ ((outC ks.reverse).take k).map encS).take (N1 + k) = Y1 ++ ((outC ks.reverse).take k).map encS := List.take_of_length_le (by rw [List.length_append]; omega)
        rw [← List.append_assoc]
        generalize (Y1 ++ ((outC ks.reverse).take k).map encS) = Y at htk ⊢
        simp only [push_cast, seval, htk]
        refine ⟨fun h => h, by omega, by omega, [0, 1, 2, 3], ?_⟩
        exact ⟨by simp, by simp, by simp [push_cast, seval], by simp [push_cast, seval], by simp [push_cast, seval], by simp [push_cast, seval]⟩
      rw [List.take_length]
      show AWR _ _ _ _ _
      refine awr_of (by kernel_rfl) ?_
      refine awp_seq ?_
      refine awpF_region ?_; intro K hK; simp only [push_cast, seval]; (try simp (disch := omega) only [wrapI]); (repeat ((with_reducible refine And.intro ?_ ?_); (focus (exact ob1)))); refine hK _ ?_; clear hK; clear K
      refine awp_ret ?_; (repeat (first | refine then_ret ?_ | refine inblock_ret ?_)); refine fin_of (by simp only [push_cast, seval]; first | done | rfl) ob1 ?_
      have hd := Deep.data (H := [Blk.data 2 (ks.reverse.map encS ++ X), .cells [.ref 2 0 (N1 + (outC ks.reverse).length)], .data 2 (Y1 ++ (outC ks.reverse).map encS), .cells [.ref 0 0 ks.length]]) 2 0 (N1 + (outC ks.reverse).length) 2 (Y1 ++ (outC ks.reverse).map encS) rfl (by simp; omega)
      rw [List.drop_zero, List.take_of_length_le (by simp; omega)] at hd
      exact hd
end Go.Aw
