/-
  Contract of cloud.Reduce. Conditions: none (what is not valid is refused).
-/
import Derived.Test.YtecindhbaekncaaGreatPcF
import Derived.Test.YtecindhbaekncaaGreatPxI12
namespace Go.Aw
set_option linter.unusedSimpArgs false
set_option linter.unusedVariables false
open Go.RowKit Go.Proofs Go.Rg

def redOut (ps : List Pt) (size : Int) : List Pt := if idxErr ps size = 0 then redS ps size else []
theorem idx_ok {ps : List Pt} {size : Int} (he : idxErr ps size = 0) : check ps = 0 ∧ 1 ≤ size ∧ size ≤ 16777216 := by
  have hc : check ps = 0 := by
    unfold idxErr at he
    split at he
    · rename_i h; exact absurd he h
    · rename_i h; simpa using h
  refine ⟨hc, ?_⟩
  unfold idxErr at he
  rw [if_neg (by simpa using hc)] at he
  split at he
  · assumption
  · cases he
theorem byFirst_len (cs : List Sp) : (byFirst cs).length ≤ cs.length := by
  simp only [byFirst, List.length_map, firstsN]
  exact Nat.le_trans (List.length_filter_le _ _) (by simp)

theorem p42 (ps : List Pt) (size : Int) : PD Tryz.prog 14 [.sl (ps.map encP), .int .i64 size] (.tup [.d (.sl ((redOut ps size).map encP)), .d (.int .i64 (idxErr ps size))]) := by
  obtain ⟨ks, hk⟩ := keys_ex (ps.map (cellP size))
  have h40 := p40 ps size ks hk
  show PD Tryz.prog 14 _ (ofD (.tup [.sl ((redOut ps size).map encP), .int .i64 (idxErr ps size)]))
  unfold redOut
  by_cases he : idxErr ps size = 0
  · obtain ⟨hc, hs⟩ := idx_ok he
    have hn := check_len hc
    simp only [he, if_true] at h40 ⊢
    have hkl : (bksS (ps.map (cellP size)) ks).length = ks.length := by simp [bksS]
    rw [← hkl] at h40
    have hln := keys_len hk
    rw [List.length_map] at hln
    have hL : ∀ b, b ∈ bksS (ps.map (cellP size)) ks → okBk b := fun b hb => by
      obtain ⟨h1, h2⟩ := bksS_mem hk hb
      obtain ⟨i, t, h3, _⟩ := idxS_first h1
      have h4 := idxS_len (ps.map (cellP size)) b.1
      rw [List.length_map] at h4
      exact ⟨by rw [h2, h3]; simp, by rw [h2]; omega⟩
    have huniq := fun (L : List Bk) h1 h2 => byFirst_uniq (L := L) hk h1 h2
    have hblen := byFirst_len (ps.map (cellP size))
    rw [List.length_map] at hblen
    have hbm := fun b hb => byFirst_mem (cs := ps.map (cellP size)) (b := b) hb
    have hred := red_byFirst ps size
    rw [← hred]
    generalize bksS (ps.map (cellP size)) ks = L at h40 hkl hL huniq
    refine pdd_of (fn := Tryz.f14) [.tmp 4, .tmp 5] (by kernel_rfl) rfl (by kernel_rfl) (Nat.le_of_ble_eq_true rfl) (by kernel_rfl) rfl ?_
    refine awp_seq ?_
    refine awpF_region ?_; intro K hK; simp only [push_cast, seval]; (try simp (disch := omega) only [wrapI]); (repeat ((with_reducible refine And.intro ?_ ?_); (focus (exact ob1)))); refine hK _ ?_; clear hK; clear K
    refine awp_seq ?_
    refine awpF_region ?_; intro K hK; simp only [push_cast, seval]
    refine CallK.rel h40 ?_
    intro x' H' hR
    obtain ⟨hx', hH'⟩ := hR
    subst hx'
    subst hH'
    simp only [push_cast, seval]
    refine hK _ ?_; clear hK; clear K
    refine awp_seq ?_
    refine awp_seq ?_
    refine awpF_region ?_; intro K hK; simp only [push_cast, seval]; (try simp (disch := omega) only [wrapI]); (repeat ((with_reducible refine And.intro ?_ ?_); (focus (exact ob1)))); refine hK _ ?_; clear hK; clear K
    apply awp_cond; (focus (simp only [push_cast, seval]; rfl))
    · intro h1; (try simp only [decide_eq_true_eq, decide_eq_false_iff_not, Bool.not_eq_true', Bool.not_eq_false', Bool.and_eq_true, Bool.or_eq_true, Bool.not_eq_true] at h1)
      cases h1
    intro h1; (try simp only [decide_eq_true_eq, decide_eq_false_iff_not, Bool.not_eq_true', Bool.not_eq_false', Bool.and_eq_true, Bool.or_eq_true, Bool.not_eq_true] at h1)
    refine awp_skip ?_
    refine awp_seq ?_
    refine awpF_regionH [1] ?_; intro K hK; simp only [push_cast, seval, List.zipIdx_cons, List.zipIdx_nil]
    refine HeapK.mk _ (a85 L hL (by omega)) ?_
    intro x' H' hR
    obtain ⟨hx', L', hp, hso, hH'⟩ := hR
    obtain rfl := huniq L' hp hso
    have hll := hp.length_eq
    subst hx'
    subst hH'
    rw [← hll]
    simp only [push_cast, seval]
    refine hK _ ?_; clear hK; clear K
    generalize hF : byFirst (ps.map (cellP size)) = F at hbm hblen ⊢
    refine awp_fz (.ref 0 0 0) ?_
    have htF : List.take F.length (F.map encBk) = F.map encBk := List.take_of_length_le (by simp)
    simp only [push_cast, seval, htF]
    refine awp_seq ?_
    refine awpF_region ?_; intro K hK; simp only [push_cast, seval]; (try simp (disch := omega) only [wrapI]); (repeat ((with_reducible refine And.intro ?_ ?_); (focus (exact ob1)))); refine hK _ ?_; clear hK; clear K
    refine awp_virt 8 3 rfl ?_
    simp only [push_cast, seval]
    refine awp_seq ?_
    refine awp_seq ?_
    refine awpF_region ?_; intro K hK; simp only [push_cast, seval]; (try simp (disch := omega) only [wrapI]); (repeat ((with_reducible refine And.intro ?_ ?_); (focus (exact ob1)))); refine hK _ ?_; clear hK; clear K
    refine awp_block ?_
    refine awp_loopP (α := Nat) (st := fun i => ⟨[(0, .d (.sl (ps.map encP))), (8, .ref 0 0 i), (25, .d (.sl (F.map encBk))), (26, .d (.int .i64 F.length)), (27, .d (.int .i64 i))], [.data 3 (((F.take i).map (redP ps)).map encP)]⟩) (inv := fun i => i ≤ F.length) (μ := fun i => F.length - i) (x0 := 0) (r0 := [1]) ?_ ?_ ?_
    · exact Nat.zero_le _
    · rw [List.take_zero]
      exact ⟨by simp, by simp, by simp [push_cast, seval], by simp [push_cast, seval], by simp [push_cast, seval], by simp [push_cast, seval]⟩
    intro i hi
    refine awp_seq ?_
    refine awpF_region ?_; intro K hK; simp only [push_cast, seval]; (try simp (disch := omega) only [wrapI]); (repeat ((with_reducible refine And.intro ?_ ?_); (focus (exact ob1)))); refine hK _ ?_; clear hK; clear K
    refine awp_seq ?_
    apply awp_cond; (focus (simp only [push_cast, seval]; rfl))
    · intro h2; (try simp only [decide_eq_true_eq, decide_eq_false_iff_not, Bool.not_eq_true', Bool.not_eq_false', Bool.and_eq_true, Bool.or_eq_true, Bool.not_eq_true] at h2)
      have hlt : i < F.length := by omega
      have g1 : (F.map encBk)[i]? = some (encBk F[i]) := by rw [List.getElem?_map, List.getElem?_eq_getElem hlt]; rfl
      have hq1 : ∀ row, row ∈ F.map encBk → row.length = 3 := fun row hr => by obtain ⟨_, _, rfl⟩ := List.mem_map.1 hr; rfl
      have hq2 : ∀ row, row ∈ ps.map encP → row.length = 3 := fun row hr => by obtain ⟨_, _, rfl⟩ := List.mem_map.1 hr; rfl
      obtain ⟨hb1, hb2⟩ := hbm _ (List.getElem_mem hlt)
      have hsu : ((F.take (i + 1)).map (redP ps)).map encP = ((F.take i).map (redP ps)).map encP ++ [encP (redP ps F[i])] := by
        rw [List.take_add_one, List.getElem?_eq_getElem hlt, List.map_append, List.map_append]
        rfl
      obtain ⟨f, t, hft, hff, hcf⟩ := idxS_first hb1
      rw [← hb2] at hft
      have hfl : f < ps.length := by have := (firstsN_mem.1 hff).1; rwa [List.length_map] at this
      have hfn : fstN F[i] = f := by unfold fstN; rw [hft]; rfl
      have hidx : ∀ j, j ∈ F[i].2 → j < ps.length := fun j hj => by
        rw [hb2] at hj
        have := (List.getElem?_eq_some_iff.1 (idxS_mem.1 hj)).1
        rwa [List.length_map] at this
      have hil : F[i].2.length ≤ ps.length := by
        rw [hb2]
        have := idxS_len (ps.map (cellP size)) F[i].1
        rwa [List.length_map] at this
      have hpf : ptAt ps f = ps[f] := by simp [ptAt, List.getElem?_eq_getElem hfl]
      have hrp : redP ps F[i] = (ps[f].1, ps[f].2.1, maxV ps F[i].2 ps[f].2.2) := by simp only [redP, hfn, hpf]
      rw [hrp] at hsu
      have g2 : (ps.map encP)[f]? = some (encP ps[f]) := by rw [List.getElem?_map, List.getElem?_eq_getElem hfl]; rfl
      have g3 : (F[i].2.map encN)[0]? = some [.int .i64 (f : Int)] := by rw [hft]; rfl
      have hq3 : ∀ row, row ∈ F[i].2.map encN → row.length = 1 := fun row hr => by obtain ⟨_, _, rfl⟩ := List.mem_map.1 hr; rfl
      have hpos : 0 < F[i].2.length := by rw [hft]; simp
      generalize ps[f] = p at hsu g2
      simp only [encBk] at g1
      simp only [encP] at g2
      generalize F[i].2 = xs at g1 hsu hidx hil g3 hq3 hpos
      refine awp_skip ?_
      refine awp_seq ?_
      refine awp_block ?_
      refine awp_seq ?_
      refine awpF_region ?_; intro K hK; simp only [push_cast, seval, g1]
      refine ⟨by omega, by omega, hq1, ?_⟩
      refine hK _ ?_; clear hK; clear K
      refine awp_seq ?_
      refine awpF_region ?_; intro K hK; simp only [push_cast, seval, g2, g3, Int.toNat_zero, Int.toNat_natCast]
      refine ⟨by omega, hq3, by omega, by omega, hq2, ?_⟩
      refine hK _ ?_; clear hK; clear K
      refine awp_seq ?_
      refine awp_seq ?_
      refine awpF_region ?_; intro K hK; simp only [push_cast, seval]; (try simp (disch := omega) only [wrapI]); (repeat ((with_reducible refine And.intro ?_ ?_); (focus (exact ob1)))); refine hK _ ?_; clear hK; clear K
      refine awp_block ?_
      refine awp_loopP (α := Nat) (st := fun k => ⟨[(0, .d (.sl (ps.map encP))), (8, .ref 0 0 i), (11, .ptr 1 0 0), (25, .d (.sl (F.map encBk))), (26, .d (.int .i64 F.length)), (27, .d (.int .i64 i)), (39, .d (.sl (xs.map encN))), (40, .d (.int .i64 xs.length)), (41, .d (.int .i64 k))],
          [.data 3 (((F.take i).map (redP ps)).map encP), .cells [.d (.int .i64 p.1), .d (.int .i64 p.2.1), .d (.int .i64 (maxV ps (xs.take k) p.2.2))]]⟩)
        (inv := fun k => k ≤ xs.length) (μ := fun k => xs.length - k) (x0 := 0) (r0 := [0, 2]) ?_ ?_ ?_
      · exact Nat.zero_le _
      · rw [List.take_zero, show maxV ps [] p.2.2 = p.2.2 from rfl]
        exact ⟨by simp, by simp, by simp [push_cast, seval], by simp [push_cast, seval], by simp [push_cast, seval], by simp [push_cast, seval]⟩
      intro k hk
      refine awp_seq ?_
      refine awpF_region ?_; intro K hK; simp only [push_cast, seval]; (try simp (disch := omega) only [wrapI]); (repeat ((with_reducible refine And.intro ?_ ?_); (focus (exact ob1)))); refine hK _ ?_; clear hK; clear K
      refine awp_seq ?_
      apply awp_cond; (focus (simp only [push_cast, seval]; rfl))
      · intro h3; (try simp only [decide_eq_true_eq, decide_eq_false_iff_not, Bool.not_eq_true', Bool.not_eq_false', Bool.and_eq_true, Bool.or_eq_true, Bool.not_eq_true] at h3)
        have hkl : k < xs.length := by omega
        obtain ⟨x, hx⟩ : ∃ x, xs[k]? = some x := ⟨_, List.getElem?_eq_getElem hkl⟩
        have hxl := hidx x (List.mem_of_getElem? hx)
        have g4 : (xs.map encN)[k]? = some [.int .i64 (x : Int)] := by rw [List.getElem?_map, hx]; rfl
        have g5 : (ps.map encP)[x]? = some (encP ps[x]) := by rw [List.getElem?_map, List.getElem?_eq_getElem hxl]; rfl
        have hms : maxV ps (xs.take (k + 1)) p.2.2 = max (maxV ps (xs.take k) p.2.2) ps[x].2.2 := by
          rw [List.take_add_one, hx]
          show maxV ps (xs.take k ++ [x]) p.2.2 = _
          rw [maxV_snoc, show ptAt ps x = ps[x] by simp [ptAt, List.getElem?_eq_getElem hxl]]
        simp only [encP] at g5
        generalize ps[x] = q at g5 hms
        refine awp_skip ?_
        refine awp_seq ?_
        refine awp_block ?_
        refine awp_seq ?_
        refine awpF_region ?_; intro K hK; simp only [push_cast, seval, g4]
        refine ⟨by omega, by omega, hq3, ?_⟩
        refine hK _ ?_; clear hK; clear K
        refine awpF_draw [0,1,2,3,4,5,6,7,8,9] (by kernel_rfl) (by kernel_rfl) rfl ?_; intro K hK; simp only [push_cast, seval, g5, Int.toNat_natCast]
        refine ⟨by omega, by omega, hq2, ?_⟩
        refine hK _ ?_; clear hK; clear K
        refine inblock_norm ?_
        refine awpF_region ?_; intro K hK; simp only [push_cast, seval]; (try simp (disch := omega) only [wrapI]); (repeat ((with_reducible refine And.intro ?_ ?_); (focus (exact ob1)))); refine hK _ ?_; clear hK; clear K
        refine round_endG (k + 1) [0, 1] ⟨by omega, by omega, ?_⟩
        rw [hms]
        exact ⟨by simp, by simp, by simp [push_cast, seval], by simp [push_cast, seval], by simp [push_cast, seval], by simp [push_cast, seval]⟩
      · intro h3; (try simp only [decide_eq_true_eq, decide_eq_false_iff_not, Bool.not_eq_true', Bool.not_eq_false', Bool.and_eq_true, Bool.or_eq_true, Bool.not_eq_true] at h3)
        obtain rfl : k = xs.length := by omega
        refine awp_exit ?_; (repeat (first | refine then_exit ?_ | refine inblock_other (by decide) ?_)); refine inblock_same ?_
        rw [List.take_length]
        have htk : List.take i (((F.take i).map (redP ps)).map encP) = ((F.take i).map (redP ps)).map encP := List.take_of_length_le (by simp; omega)
        refine awpF_region ?_; intro K hK; simp only [push_cast, seval, htk]
        refine ⟨fun h => h, by omega, by omega, ?_⟩
        refine hK _ ?_; clear hK; clear K
        refine inblock_norm ?_
        refine awpF_region ?_; intro K hK; simp only [push_cast, seval]; (try simp (disch := omega) only [wrapI]); (repeat ((with_reducible refine And.intro ?_ ?_); (focus (exact ob1)))); refine hK _ ?_; clear hK; clear K
        refine round_endG (i + 1) [0] ⟨by omega, by omega, ?_⟩
        simp only [encP] at hsu
        rw [hsu]
        exact ⟨by simp, by simp, by simp [push_cast, seval], by simp [push_cast, seval], by simp [push_cast, seval], by simp [push_cast, seval]⟩
    · intro h2; (try simp only [decide_eq_true_eq, decide_eq_false_iff_not, Bool.not_eq_true', Bool.not_eq_false', Bool.and_eq_true, Bool.or_eq_true, Bool.not_eq_true] at h2)
      obtain rfl : i = F.length := by omega
      refine awp_exit ?_; (repeat (first | refine then_exit ?_ | refine inblock_other (by decide) ?_)); refine inblock_same ?_
      refine awp_seq ?_
      refine awpF_region ?_; intro K hK; simp only [push_cast, seval]; (try simp (disch := omega) only [wrapI]); (repeat ((with_reducible refine And.intro ?_ ?_); (focus (exact ob1)))); refine hK _ ?_; clear hK; clear K
      refine awp_ret ?_; (repeat (first | refine then_ret ?_ | refine inblock_ret ?_)); refine fin_of (by simp only [push_cast, seval]; first | done | rfl) ob1 ?_
      rw [List.take_length]
      have := Deep.data (H := [Blk.data 3 ((F.map (redP ps)).map encP)]) 0 0 F.length 3 ((F.map (redP ps)).map encP) rfl (by simp)
      rw [List.drop_zero, List.take_of_length_le (by simp)] at this
      exact deep_tup2 this (.d _)
  · simp only [if_neg he] at h40 ⊢
    generalize idxErr ps size = e at h40 he ⊢
    refine pdd_of (fn := Tryz.f14) [.tmp 4, .tmp 5] (by kernel_rfl) rfl (by kernel_rfl) (Nat.le_of_ble_eq_true rfl) (by kernel_rfl) rfl ?_
    refine awp_seq ?_
    refine awpF_region ?_; intro K hK; simp only [push_cast, seval]; (try simp (disch := omega) only [wrapI]); (repeat ((with_reducible refine And.intro ?_ ?_); (focus (exact ob1)))); refine hK _ ?_; clear hK; clear K
    refine awp_seq ?_
    refine awpF_region ?_; intro K hK; simp only [push_cast, seval]
    refine CallK.rel h40 ?_
    intro x' H' hR
    obtain ⟨hx', hH'⟩ := hR
    subst hx'
    subst hH'
    simp only [push_cast, seval]
    refine hK _ ?_; clear hK; clear K
    refine awp_seq ?_
    refine awp_seq ?_
    refine awpF_region ?_; intro K hK; simp only [push_cast, seval]; (try simp (disch := omega) only [wrapI]); (repeat ((with_reducible refine And.intro ?_ ?_); (focus (exact ob1)))); refine hK _ ?_; clear hK; clear K
    apply awp_cond; (focus (simp only [push_cast, seval]; rfl))
    · intro h1; (try simp only [decide_eq_true_eq, decide_eq_false_iff_not, Bool.not_eq_true', Bool.not_eq_false', Bool.and_eq_true, Bool.or_eq_true, Bool.not_eq_true] at h1)
      refine awp_seq ?_
      refine awpF_region ?_; intro K hK; simp only [push_cast, seval]; (try simp (disch := omega) only [wrapI]); (repeat ((with_reducible refine And.intro ?_ ?_); (focus (exact ob1)))); refine hK _ ?_; clear hK; clear K
      refine awp_ret ?_; (repeat (first | refine then_ret ?_ | refine inblock_ret ?_)); refine fin_of (by simp only [push_cast, seval]; first | done | rfl) ob1 ?_
      exact deep_tup2 .nil (.d _)
    · intro h1; (try simp only [decide_eq_true_eq, decide_eq_false_iff_not, Bool.not_eq_true', Bool.not_eq_false', Bool.and_eq_true, Bool.or_eq_true, Bool.not_eq_true] at h1)
      exact absurd (by simpa using h1) he
end Go.Aw
