/-
  Contract of the reference's Reduce. Conditions: none (what is not valid is refused).
-/
import Derived.Test.YtecindhbaekncaaPxI13
namespace Go.Aw
set_option linter.unusedSimpArgs false
set_option linter.unusedVariables false
open Go.RowKit Go.Proofs Go.Rg

/-- No one of the same cell below i, as far as k. -/
def noneBelow (cs : List Sp) (i k : Nat) : Bool := (List.range k).all fun j => decide (j < i → cs[j]? ≠ cs[i]?)
theorem noneBelow_zero (cs : List Sp) (i : Nat) : noneBelow cs i 0 = true := rfl
theorem noneBelow_succ (cs : List Sp) (i k : Nat) : noneBelow cs i (k + 1) = (noneBelow cs i k && decide (k < i → cs[k]? ≠ cs[i]?)) := by
  simp only [noneBelow, List.range_succ, List.all_append, List.all_cons, List.all_nil, Bool.and_true]
theorem noneBelow_end {cs : List Sp} {i : Nat} (hi : i < cs.length) : noneBelow cs i cs.length = decide (∀ k, k < i → cs[k]? ≠ cs[i]?) := by
  rw [Bool.eq_iff_iff]
  simp only [noneBelow, List.all_eq_true, List.mem_range, decide_eq_true_eq]
  exact ⟨fun h k hk => h k (by omega) hk, fun h k _ hk => h k hk⟩

theorem p43 (ps : List Pt) (size : Int) : PD Try.prog 43 [.sl (ps.map encP), .int .i64 size] (.tup [.d (.sl ((redOut ps size).map encP)), .d (.int .i64 (idxErr ps size))]) := by
  have h26 := p26 ps
  have h83 := p83 size
  show PD Try.prog 43 _ (ofD (.tup [.sl ((redOut ps size).map encP), .int .i64 (idxErr ps size)]))
  unfold redOut
  refine pdd_of (fn := Try.f43) [.tmp 4, .tmp 5] (by kernel_rfl) rfl (by kernel_rfl) (Nat.le_of_ble_eq_true rfl) (by kernel_rfl) rfl ?_
  refine awp_seq ?_
  refine awpF_region ?_; intro K hK; simp only [push_cast, seval]; (try simp (disch := omega) only [wrapI]); (repeat ((with_reducible refine And.intro ?_ ?_); (focus (exact ob1)))); refine hK _ ?_; clear hK; clear K
  refine awp_seq ?_
  refine awp_seq ?_
  refine awpF_region ?_; intro K hK; simp only [push_cast, seval]
  (repeat ((with_reducible refine And.intro ?_ ?_); (focus (exact ob1))))
  refine CallK.pd (h26) ?_; simp only [push_cast, seval]; (try simp (disch := omega) only [wrapI]); (repeat ((with_reducible refine And.intro ?_ ?_); (focus (exact ob1))))
  refine hK _ ?_; clear hK; clear K
  refine awp_seq ?_
  refine awpF_region ?_; intro K hK; simp only [push_cast, seval]; (try simp (disch := omega) only [wrapI]); (repeat ((with_reducible refine And.intro ?_ ?_); (focus (exact ob1)))); refine hK _ ?_; clear hK; clear K
  apply awp_cond; (focus (simp only [push_cast, seval]; rfl))
  · intro hc; (try simp only [decide_eq_true_eq, decide_eq_false_iff_not, Bool.not_eq_true', Bool.not_eq_false', Bool.and_eq_true, Bool.or_eq_true, Bool.not_eq_true] at hc)
    have hc' : check ps ≠ 0 := by simpa using hc
    refine awp_seq ?_
    refine awpF_region ?_; intro K hK; simp only [push_cast, seval]; (try simp (disch := omega) only [wrapI]); (repeat ((with_reducible refine And.intro ?_ ?_); (focus (exact ob1)))); refine hK _ ?_; clear hK; clear K
    refine awp_ret ?_; (repeat (first | refine then_ret ?_ | refine inblock_ret ?_)); refine fin_of (by simp only [push_cast, seval]; first | done | rfl) ob1 ?_
    have he : idxErr ps size = check ps := by simp [idxErr, hc']
    rw [he, if_neg hc']
    exact deep_tup2 .nil (.d _)
  intro hc; (try simp only [decide_eq_true_eq, decide_eq_false_iff_not, Bool.not_eq_true', Bool.not_eq_false', Bool.and_eq_true, Bool.or_eq_true, Bool.not_eq_true] at hc)
  have hc' : check ps = 0 := by simpa using hc
  refine awp_skip ?_
  refine awp_seq ?_
  refine awp_seq ?_
  refine awpF_region ?_; intro K hK; simp only [push_cast, seval]
  (repeat ((with_reducible refine And.intro ?_ ?_); (focus (exact ob1))))
  refine CallK.pd (h83) ?_; simp only [push_cast, seval]; (try simp (disch := omega) only [wrapI]); (repeat ((with_reducible refine And.intro ?_ ?_); (focus (exact ob1))))
  refine hK _ ?_; clear hK; clear K
  apply awp_cond; (focus (simp only [push_cast, seval]; rfl))
  · intro hs; (try simp only [decide_eq_true_eq, decide_eq_false_iff_not, Bool.not_eq_true', Bool.not_eq_false', Bool.and_eq_true, Bool.or_eq_true, Bool.not_eq_true] at hs)
    have hs' : ¬ (1 ≤ size ∧ size ≤ 16777216) := by simpa using hs
    refine awp_seq ?_
    refine awpF_region ?_; intro K hK; simp only [push_cast, seval]; (try simp (disch := omega) only [wrapI]); (repeat ((with_reducible refine And.intro ?_ ?_); (focus (exact ob1)))); refine hK _ ?_; clear hK; clear K
    refine awp_ret ?_; (repeat (first | refine then_ret ?_ | refine inblock_ret ?_)); refine fin_of (by simp only [push_cast, seval]; first | done | rfl) ob1 ?_
    have he : idxErr ps size = 2 := by simp [idxErr, hc', hs']
    rw [he, if_neg (by decide)]
    exact deep_tup2 .nil (.d _)
  intro hs; (try simp only [decide_eq_true_eq, decide_eq_false_iff_not, Bool.not_eq_true', Bool.not_eq_false', Bool.and_eq_true, Bool.or_eq_true, Bool.not_eq_true] at hs)
  have hs' : 1 ≤ size ∧ size ≤ 16777216 := by simpa using hs
  have he : idxErr ps size = 0 := by simp [idxErr, hc', hs']
  rw [he, if_pos rfl]
  have hn := check_len hc'
  have h84 := fun (p : Pt) (hp : p ∈ ps) => p84 p size hs' (ok_bd hc' hp).1
  unfold redS
  have hget : ∀ i (hi : i < ps.length), (ps.map (cellP size))[i]? = some (cellP size ps[i]) := fun i hi => by rw [List.getElem?_map, List.getElem?_eq_getElem hi]; rfl
  have hcl : (ps.map (cellP size)).length = ps.length := List.length_map ..
  generalize hcs : ps.map (cellP size) = cs at hget hcl ⊢
  have hff : firstsN cs = firstsTo cs ps.length := by rw [← hcl]; rfl
  have hq : ∀ row, row ∈ ps.map encP → row.length = 3 := fun row hr => by obtain ⟨_, _, rfl⟩ := List.mem_map.1 hr; rfl
  refine awp_skip ?_
  refine awp_seq ?_
  refine awpF_region ?_; intro K hK; simp only [push_cast, seval]; (try simp (disch := omega) only [wrapI]); (repeat ((with_reducible refine And.intro ?_ ?_); (focus (exact ob1)))); refine hK _ ?_; clear hK; clear K
  refine awp_virt 7 3 rfl ?_
  simp only [push_cast, seval]
  refine awp_seq ?_
  refine awp_seq ?_
  refine awpF_region ?_; intro K hK; simp only [push_cast, seval]; (try simp (disch := omega) only [wrapI]); (repeat ((with_reducible refine And.intro ?_ ?_); (focus (exact ob1)))); refine hK _ ?_; clear hK; clear K
  refine awp_block ?_
  refine awp_loopP (α := Nat) (st := fun i => ⟨[(0, .d (.sl (ps.map encP))), (1, .d (.int .i64 size)), (7, .ref 0 0 (firstsTo cs i).length), (8, .d (.int .i64 i))], [.data 3 (((firstsTo cs i).map (redI ps cs)).map encP)]⟩) (inv := fun i => i ≤ ps.length) (μ := fun i => ps.length - i) (x0 := 0) (r0 := [0]) ?_ ?_ ?_
  · exact Nat.zero_le _
  · rw [show firstsTo cs 0 = [] from rfl]
    exact ⟨by simp, by simp, by simp [push_cast, seval], by simp [push_cast, seval], by simp [push_cast, seval], by simp [push_cast, seval]⟩
  intro i hi
  refine awp_seq ?_
  refine awp_seq ?_
  refine awpF_region ?_; intro K hK; simp only [push_cast, seval]; (try simp (disch := omega) only [wrapI]); (repeat ((with_reducible refine And.intro ?_ ?_); (focus (exact ob1)))); refine hK _ ?_; clear hK; clear K
  apply awp_cond; (focus (simp only [push_cast, seval]; rfl))
  · intro h1; (try simp only [decide_eq_true_eq, decide_eq_false_iff_not, Bool.not_eq_true', Bool.not_eq_false', Bool.and_eq_true, Bool.or_eq_true, Bool.not_eq_true] at h1)
    have hlt : i < ps.length := by omega
    have hfl := firstsTo_len cs i
    have g1 : (ps.map encP)[i]? = some (encP ps[i]) := by rw [List.getElem?_map, List.getElem?_eq_getElem hlt]; rfl
    simp only [encP] at g1
    refine awp_skip ?_
    refine awp_mid (fun u => u = ⟨[(0, .d (.sl (ps.map encP))), (1, .d (.int .i64 size)), (7, .ref 0 0 (firstsTo cs (i + 1)).length), (8, .d (.int .i64 i))], [.data 3 (((firstsTo cs (i + 1)).map (redI ps cs)).map encP)]⟩) ?_ ?_
    · refine awp_block ?_
      refine awp_seq ?_
      refine awpF_region ?_; intro K hK; simp only [push_cast, seval]; (try simp (disch := omega) only [wrapI]); (repeat ((with_reducible refine And.intro ?_ ?_); (focus (exact ob1)))); refine hK _ ?_; clear hK; clear K
      refine awp_seq ?_
      refine awpF_region ?_; intro K hK; simp only [push_cast, seval, g1]
      refine ⟨by omega, by omega, hq, ?_⟩
      refine hK _ ?_; clear hK; clear K
      refine awp_seq ?_
      refine awp_seq ?_
      refine awpF_region ?_; intro K hK; simp only [push_cast, seval]; (try simp (disch := omega) only [wrapI]); (repeat ((with_reducible refine And.intro ?_ ?_); (focus (exact ob1)))); refine hK _ ?_; clear hK; clear K
      refine awp_block ?_
      have hc1 := hget i hlt
      generalize hpi : ps[i] = p at hc1 g1
      have hpm : p ∈ ps := hpi ▸ List.getElem_mem hlt
      have hpa : ptAt ps i = p := by simp [ptAt, List.getElem?_eq_getElem hlt, hpi]
      have hpc : cellAt cs i = cellP size p := by simp [cellAt, hc1]
      obtain ⟨c, hc⟩ : ∃ c, c = cellP size p := ⟨_, rfl⟩
      have hi84 := h84 p hpm
      rw [← hc] at hc1 hpc hi84
      refine awp_loopP (α := Nat) (st := fun k => ⟨[(0, .d (.sl (ps.map encP))), (1, .d (.int .i64 size)), (7, .ref 0 0 (firstsTo cs i).length), (8, .d (.int .i64 i)), (9, .d (.bool (noneBelow cs i k))), (10, .ptr 1 0 0), (11, .d (.int .i64 k))],
          [.data 3 (((firstsTo cs i).map (redI ps cs)).map encP), .cells [.d (.int .i64 p.1), .d (.int .i64 p.2.1), .d (.int .i64 (maxV ps (idxS (cs.take k) c) p.2.2))]]⟩)
        (inv := fun k => k ≤ ps.length) (μ := fun k => ps.length - k) (x0 := 0) (r0 := [0, 1]) ?_ ?_ ?_
      · exact Nat.zero_le _
      · rw [noneBelow_zero, List.take_zero, show idxS [] c = [] from rfl, show maxV ps [] p.2.2 = p.2.2 from rfl]
        exact ⟨by simp, by simp, by simp [push_cast, seval], by simp [push_cast, seval], by simp [push_cast, seval], by simp [push_cast, seval]⟩
      intro k hk
      refine awp_seq ?_
      refine awp_seq ?_
      refine awpF_region ?_; intro K hK; simp only [push_cast, seval]; (try simp (disch := omega) only [wrapI]); (repeat ((with_reducible refine And.intro ?_ ?_); (focus (exact ob1)))); refine hK _ ?_; clear hK; clear K
      apply awp_cond; (focus (simp only [push_cast, seval]; rfl))
      · intro h2; (try simp only [decide_eq_true_eq, decide_eq_false_iff_not, Bool.not_eq_true', Bool.not_eq_false', Bool.and_eq_true, Bool.or_eq_true, Bool.not_eq_true] at h2)
        have hklt : k < ps.length := by omega
        have hck := hget k hklt
        have g2 : (ps.map encP)[k]? = some (encP ps[k]) := by rw [List.getElem?_map, List.getElem?_eq_getElem hklt]; rfl
        simp only [encP] at g2
        have hk84 := h84 ps[k] (List.getElem_mem hklt)
        have hqa : ptAt ps k = ps[k] := by simp [ptAt, List.getElem?_eq_getElem hklt]
        generalize ps[k] = q at hck g2 hk84 hqa
        obtain ⟨d, hd⟩ : ∃ d, d = cellP size q := ⟨_, rfl⟩
        rw [← hd] at hck hk84
        have hst : idxS (cs.take (k + 1)) c = idxS (cs.take k) c ++ if d = c then [k] else [] := by
          have := idxS_take c (show k < cs.length by omega)
          rw [(List.getElem?_eq_some_iff.1 hck).2] at this
          exact this
        have hnb := noneBelow_succ cs i k
        rw [hck, hc1] at hnb
        refine awp_skip ?_
        refine awp_mid (fun u => u = ⟨[(0, .d (.sl (ps.map encP))), (1, .d (.int .i64 size)), (7, .ref 0 0 (firstsTo cs i).length), (8, .d (.int .i64 i)), (9, .d (.bool (noneBelow cs i (k + 1)))), (10, .ptr 1 0 0), (11, .d (.int .i64 k))],
          [.data 3 (((firstsTo cs i).map (redI ps cs)).map encP), .cells [.d (.int .i64 p.1), .d (.int .i64 p.2.1), .d (.int .i64 (maxV ps (idxS (cs.take (k + 1)) c) p.2.2))]]⟩) ?_ ?_
        · refine awp_block ?_
          refine awp_seq ?_
          refine awp_seq ?_
          simp only [encP] at hk84 hi84
          refine awpF_draw [0,1,2,3,4,6,7,8,9,10,5,11,12] (by kernel_rfl) (by kernel_rfl) rfl ?_; intro K hK; simp only [push_cast, seval, g1, g2]
          refine ⟨by omega, by omega, hq, by omega, by omega, hq, ?_⟩
          refine CallK.pd (hk84) ?_; simp only [push_cast, seval]; (try simp (disch := omega) only [wrapI]); (repeat ((with_reducible refine And.intro ?_ ?_); (focus (exact ob1))))
          refine CallK.pd (hi84) ?_; simp only [push_cast, seval]; (try simp (disch := omega) only [wrapI]); (repeat ((with_reducible refine And.intro ?_ ?_); (focus (exact ob1))))
          refine hK _ ?_; clear hK; clear K
          apply awp_cond; (focus (simp only [push_cast, seval]; rfl))
          · intro h3; (try simp only [decide_eq_true_eq, decide_eq_false_iff_not, Bool.not_eq_true', Bool.not_eq_false', Bool.and_eq_true, Bool.or_eq_true, Bool.not_eq_true] at h3)
            have hdc : d ≠ c := fun e => by subst e; simp at h3
            rw [if_neg hdc, List.append_nil] at hst
            have hd1 : decide (k < i → some d ≠ some c) = true := by
              rw [decide_eq_true_eq]
              exact fun _ e => hdc (by injection e)
            rw [hd1, Bool.and_true] at hnb
            refine awp_exit ?_; (repeat (first | refine then_exit ?_ | refine inblock_other (by decide) ?_)); refine inblock_same ?_
            refine mid_end [0, 1] _ rfl ?_
            rw [hst, hnb]
            exact ⟨by simp, by simp, by simp [push_cast, seval], by simp [push_cast, seval], by simp [push_cast, seval], by simp [push_cast, seval]⟩
          · intro h3; (try simp only [decide_eq_true_eq, decide_eq_false_iff_not, Bool.not_eq_true', Bool.not_eq_false', Bool.and_eq_true, Bool.or_eq_true, Bool.not_eq_true] at h3)
            have hdc : d = c := by
              have h3' : d.1 = c.1 ∧ d.2 = c.2 := by simpa using h3
              exact Prod.ext h3'.1 h3'.2
            rw [if_pos hdc] at hst
            have hnb' : noneBelow cs i (k + 1) = (noneBelow cs i k && decide ((k : Int) ≥ (i : Int))) := by
              rw [hnb, hdc]
              congr 1
              rw [decide_eq_decide]
              constructor
              · intro h
                rcases Nat.lt_or_ge k i with h4 | h4
                · exact absurd rfl (h h4)
                · omega
              · intro h h4
                omega
            have hms : maxV ps (idxS (cs.take (k + 1)) c) p.2.2 = max (maxV ps (idxS (cs.take k) c) p.2.2) q.2.2 := by
              rw [hst, maxV_snoc, hqa]
            refine awp_skip ?_
            refine awp_seq ?_
            refine awpF_region ?_; intro K hK; simp only [push_cast, seval]; (try simp (disch := omega) only [wrapI]); (repeat ((with_reducible refine And.intro ?_ ?_); (focus (exact ob1)))); refine hK _ ?_; clear hK; clear K
            refine awpF_draw [0,1,2,3,4,5,6,7,8,9] (by kernel_rfl) (by kernel_rfl) rfl ?_; intro K hK; simp only [push_cast, seval, g2]
            refine ⟨by omega, by omega, hq, ?_⟩
            refine hK _ ?_; clear hK; clear K
            refine inblock_norm ?_
            refine mid_end [0, 1] _ rfl ?_
            rw [hnb', hms]
            exact ⟨by simp, by simp, by simp [push_cast, seval], by simp [push_cast, seval], by simp [push_cast, seval], by simp [push_cast, seval]⟩
        rintro _ rfl
        refine awpF_region ?_; intro K hK; simp only [push_cast, seval]; (try simp (disch := omega) only [wrapI]); (repeat ((with_reducible refine And.intro ?_ ?_); (focus (exact ob1)))); refine hK _ ?_; clear hK; clear K
        refine round_endG (k + 1) [0, 1] ⟨by omega, by omega, ?_⟩
        exact ⟨by simp, by simp, by simp [push_cast, seval], by simp [push_cast, seval], by simp [push_cast, seval], by simp [push_cast, seval]⟩
      · intro h2; (try simp only [decide_eq_true_eq, decide_eq_false_iff_not, Bool.not_eq_true', Bool.not_eq_false', Bool.and_eq_true, Bool.or_eq_true, Bool.not_eq_true] at h2)
        obtain rfl : k = ps.length := by omega
        refine awp_exit ?_; (repeat (first | refine then_exit ?_ | refine inblock_other (by decide) ?_)); refine inblock_same ?_
        rw [← hcl, noneBelow_end (by omega), List.take_length]
        have hfs := firstsTo_succ cs i
        have hri : redI ps cs i = (p.1, p.2.1, maxV ps (idxS cs c) p.2.2) := by simp [redI, hpa, hpc]
        refine awp_seq ?_
        refine awpF_region ?_; intro K hK; simp only [push_cast, seval]; (try simp (disch := omega) only [wrapI]); (repeat ((with_reducible refine And.intro ?_ ?_); (focus (exact ob1)))); refine hK _ ?_; clear hK; clear K
        apply awp_cond; (focus (simp only [push_cast, seval]; rfl))
        · intro h3; (try simp only [decide_eq_true_eq, decide_eq_false_iff_not, Bool.not_eq_true', Bool.not_eq_false', Bool.and_eq_true, Bool.or_eq_true, Bool.not_eq_true] at h3)
          rw [if_pos h3] at hfs
          have htk : List.take (firstsTo cs i).length (((firstsTo cs i).map (redI ps cs)).map encP) = ((firstsTo cs i).map (redI ps cs)).map encP := List.take_of_length_le (by simp)
          refine awpF_region ?_; intro K hK; simp only [push_cast, seval, htk]
          refine ⟨fun h => h, by omega, by omega, ?_⟩
          refine hK _ ?_; clear hK; clear K
          refine inblock_norm ?_
          refine mid_end [0] _ rfl ?_
          rw [hfs, List.map_append, List.map_append, List.length_append, List.map_singleton, List.map_singleton, hri, encP]
          exact ⟨by simp, by simp, by simp [push_cast, seval], by simp [push_cast, seval], by simp [push_cast, seval], by simp [push_cast, seval]⟩
        · intro h3; (try simp only [decide_eq_true_eq, decide_eq_false_iff_not, Bool.not_eq_true', Bool.not_eq_false', Bool.and_eq_true, Bool.or_eq_true, Bool.not_eq_true] at h3)
          rw [if_neg h3, List.append_nil] at hfs
          refine awp_skip ?_
          refine inblock_norm ?_
          refine mid_end [0] _ rfl ?_
          rw [hfs]
          exact ⟨by simp, by simp, by simp [push_cast, seval], by simp [push_cast, seval], by simp [push_cast, seval], by simp [push_cast, seval]⟩
    rintro _ rfl
    refine awpF_region ?_; intro K hK; simp only [push_cast, seval]; (try simp (disch := omega) only [wrapI]); (repeat ((with_reducible refine And.intro ?_ ?_); (focus (exact ob1)))); refine hK _ ?_; clear hK; clear K
    refine round_endG (i + 1) [0] ⟨by omega, by omega, ?_⟩
    exact ⟨by simp, by simp, by simp [push_cast, seval], by simp [push_cast, seval], by simp [push_cast, seval], by simp [push_cast, seval]⟩
  · intro h1; (try simp only [decide_eq_true_eq, decide_eq_false_iff_not, Bool.not_eq_true', Bool.not_eq_false', Bool.and_eq_true, Bool.or_eq_true, Bool.not_eq_true] at h1)
    obtain rfl : i = ps.length := by omega
    refine awp_exit ?_; (repeat (first | refine then_exit ?_ | refine inblock_other (by decide) ?_)); refine inblock_same ?_
    refine awp_seq ?_
    refine awpF_region ?_; intro K hK; simp only [push_cast, seval]; (try simp (disch := omega) only [wrapI]); (repeat ((with_reducible refine And.intro ?_ ?_); (focus (exact ob1)))); refine hK _ ?_; clear hK; clear K
    refine awp_ret ?_; (repeat (first | refine then_ret ?_ | refine inblock_ret ?_)); refine fin_of (by simp only [push_cast, seval]; first | done | rfl) ob1 ?_
    rw [hff]
    have := Deep.data (H := [Blk.data 3 (((firstsTo cs ps.length).map (redI ps cs)).map encP)]) 0 0 (firstsTo cs ps.length).length 3 (((firstsTo cs ps.length).map (redI ps cs)).map encP) rfl (by simp)
    rw [List.drop_zero, List.take_of_length_le (by simp)] at this
    exact deep_tup2 this (.d _)
end Go.Aw
