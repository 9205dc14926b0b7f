/-
  Texts of the library, one behind the other. Over any program; no condition.
-/
import Derived.Test.YtecindhbaekncaaGreatPcA
namespace Go.Aw
set_option linter.unusedSimpArgs false
set_option linter.unusedVariables false
open Go.RowKit Go.Proofs Go.Seg

theorem p17 (ps : List Pt) (gap : Int) (d0 : D)
    (hd0 : ∀ (f : Nat → Nat), (segErr ps gap = 0 → Lab (near ps gap) ps.length f) → d0 = .tup [.sl (if segErr ps gap = 0 then (groups f ps.length).map fun g => [.sl (g.map encN)] else []), .int .i64 (segErr ps gap)]) :
    PD Tryz.prog 12 [.sl (ps.map encP), .int .i64 gap] (ofD d0) := by
  refine pdd_of (fn := Tryz.f12) [.tmp 4, .tmp 5] (by kernel_rfl) rfl (by kernel_rfl) (Nat.le_of_ble_eq_true rfl) (by kernel_rfl) rfl ?_
  refine awp_seq ?_
  refine awpF_region ?_; intro K hK; simp only [push_cast, seval]; (try simp (disch := omega) only [wrapI]); (repeat ((with_reducible refine And.intro ?_ ?_); (focus (exact ob1)))); refine hK _ ?_; clear hK; clear K
  refine awp_seq ?_
  refine awp_seq ?_
  refine awpF_region ?_; intro K hK; simp only [push_cast, seval]
  (repeat ((with_reducible refine And.intro ?_ ?_); (focus (exact ob1))))
  refine CallK.pd (p25 _) ?_; simp only [push_cast, seval]; (try simp (disch := omega) only [wrapI]); (repeat ((with_reducible refine And.intro ?_ ?_); (focus (exact ob1))))
  refine hK _ ?_; clear hK; clear K
  refine awp_seq ?_
  refine awpF_region ?_; intro K hK; simp only [push_cast, seval]; (try simp (disch := omega) only [wrapI]); (repeat ((with_reducible refine And.intro ?_ ?_); (focus (exact ob1)))); refine hK _ ?_; clear hK; clear K
  apply awp_cond; (focus (simp only [push_cast, seval]; rfl))
  · intro hc; (try simp only [decide_eq_true_eq, decide_eq_false_iff_not, Bool.not_eq_true', Bool.not_eq_false', Bool.and_eq_true, Bool.or_eq_true, Bool.not_eq_true] at hc)
    have hc' : check ps ≠ 0 := by simpa using hc
    refine awp_seq ?_
    refine awpF_region ?_; intro K hK; simp only [push_cast, seval]; (try simp (disch := omega) only [wrapI]); (repeat ((with_reducible refine And.intro ?_ ?_); (focus (exact ob1)))); refine hK _ ?_; clear hK; clear K
    refine awp_ret ?_; (repeat (first | refine then_ret ?_ | refine inblock_ret ?_)); refine fin_of (by simp only [push_cast, seval]; first | done | rfl) ob1 ?_
    have he : segErr ps gap = check ps := by simp [segErr, hc']
    rw [hd0 id (fun h => absurd (he.symm.trans h) hc'), he, if_neg hc']
    exact deep_tup2 .nil (.d _)
  intro hc; (try simp only [decide_eq_true_eq, decide_eq_false_iff_not, Bool.not_eq_true', Bool.not_eq_false', Bool.and_eq_true, Bool.or_eq_true, Bool.not_eq_true] at hc)
  have hc' : check ps = 0 := by simpa using hc
  refine awp_skip ?_
  refine awp_seq ?_
  refine awp_seq ?_
  refine awpF_region ?_; intro K hK; simp only [push_cast, seval]; (try simp (disch := omega) only [wrapI]); (repeat ((with_reducible refine And.intro ?_ ?_); (focus (exact ob1)))); refine hK _ ?_; clear hK; clear K
  apply awp_cond; (focus (simp only [push_cast, seval]; rfl))
  · intro hg; (try simp only [decide_eq_true_eq, decide_eq_false_iff_not, Bool.not_eq_true', Bool.not_eq_false', Bool.and_eq_true, Bool.or_eq_true, Bool.not_eq_true] at hg)
    have hg' : gap < 0 ∨ gap > 33554432 := by simp at hg; omega
    refine awp_seq ?_
    refine awpF_region ?_; intro K hK; simp only [push_cast, seval]; (try simp (disch := omega) only [wrapI]); (repeat ((with_reducible refine And.intro ?_ ?_); (focus (exact ob1)))); refine hK _ ?_; clear hK; clear K
    refine awp_ret ?_; (repeat (first | refine then_ret ?_ | refine inblock_ret ?_)); refine fin_of (by simp only [push_cast, seval]; first | done | rfl) ob1 ?_
    have he : segErr ps gap = 2 := by simp [segErr, hc', hg']
    rw [hd0 id (fun h => by rw [he] at h; cases h), he, if_neg (by decide)]
    exact deep_tup2 .nil (.d _)
  intro hg; (try simp only [decide_eq_true_eq, decide_eq_false_iff_not, Bool.not_eq_true', Bool.not_eq_false', Bool.and_eq_true, Bool.or_eq_true, Bool.not_eq_true] at hg)
  have hg2 : 0 ≤ gap ∧ gap ≤ 33554432 := by simp at hg; omega
  have hn : ps.length ≤ 1000 := by
    simp [check] at hc
    split at hc <;> omega
  refine awp_skip ?_
  refine awp_seq ?_
  refine awpF_region ?_; intro K hK; simp only [push_cast, seval]
  (repeat ((with_reducible refine And.intro ?_ ?_); (focus (exact ob1))))
  refine hK _ ?_; clear hK; clear K
  rw [← fillN_zero]
  refine awp_seq ?_
  refine awp_seq ?_
  refine awpF_region ?_; intro K hK; simp only [push_cast, seval]; (try simp (disch := omega) only [wrapI]); (repeat ((with_reducible refine And.intro ?_ ?_); (focus (exact ob1)))); refine hK _ ?_; clear hK; clear K
  refine awp_block ?_
  refine awp_loopP (st := fun x : Nat => ⟨[(0, .d (.sl (ps.map encP))), (1, .d (.int .i64 gap)), (7, .ptr 1 0 0), (35, .d (.int .i64 ps.length)), (36, .d (.int .i64 x))], [.data 1 (fillN ps.length x), .cells [.ref 0 0 ps.length]]⟩) (inv := fun x => x ≤ ps.length) (μ := fun x => ps.length - x) (x0 := 0) (r0 := [0, 1]) ?_ ?_ ?_
  · simp
  · exact ⟨by simp, by simp, by simp [push_cast, seval], by simp [push_cast, seval], by simp [push_cast, seval], by simp [push_cast, seval]⟩
  intro x hx
  refine awp_seq ?_
  refine awpF_region ?_; intro K hK; simp only [push_cast, seval]; (try simp (disch := omega) only [wrapI]); (repeat ((with_reducible refine And.intro ?_ ?_); (focus (exact ob1)))); refine hK _ ?_; clear hK; clear K
  refine awp_seq ?_
  apply awp_cond; (focus (simp only [push_cast, seval]; rfl))
  · intro h1; (try simp only [decide_eq_true_eq, decide_eq_false_iff_not, Bool.not_eq_true', Bool.not_eq_false', Bool.and_eq_true, Bool.or_eq_true, Bool.not_eq_true] at h1)
    have hlt : x < ps.length := by omega
    refine awp_skip ?_
    refine awp_seq ?_
    refine awp_block ?_
    refine awp_seq ?_
    refine awpF_region ?_; intro K hK; simp only [push_cast, seval]; (try simp (disch := omega) only [wrapI]); (repeat ((with_reducible refine And.intro ?_ ?_); (focus (exact ob1)))); refine hK _ ?_; clear hK; clear K
    refine awpF_region ?_; intro K hK; simp only [push_cast, seval]
    (repeat ((with_reducible refine And.intro ?_ ?_); (focus (exact ob1))))
    refine hK _ ?_; clear hK; clear K
    rw [fillN_set hlt]
    refine awpF_region ?_; intro K hK; simp only [push_cast, seval]; (try simp (disch := omega) only [wrapI]); (repeat ((with_reducible refine And.intro ?_ ?_); (focus (exact ob1)))); refine hK _ ?_; clear hK; clear K
    refine round_end (y := x + 1) (r := [0, 1]) (by omega) hlt ?_
    exact ⟨by simp, by simp, by simp [push_cast, seval], by simp [push_cast, seval], by simp [push_cast, seval], by simp [push_cast, seval]⟩
  intro h1; (try simp only [decide_eq_true_eq, decide_eq_false_iff_not, Bool.not_eq_true', Bool.not_eq_false', Bool.and_eq_true, Bool.or_eq_true, Bool.not_eq_true] at h1)
  have hxe : x = ps.length := by omega
  subst hxe
  rw [fillN_end]
  refine awp_exit ?_; (repeat (first | refine then_exit ?_ | refine inblock_other (by decide) ?_)); refine inblock_same ?_
  refine awp_seq ?_
  refine awpF_region ?_; intro K hK; simp only [push_cast, seval]; (try simp (disch := omega) only [wrapI]); (repeat ((with_reducible refine And.intro ?_ ?_); (focus (exact ob1)))); refine hK _ ?_; clear hK; clear K
  refine awp_seq ?_
  refine awpF_region ?_; intro K hK; simp only [push_cast, seval]; (try simp (disch := omega) only [wrapI]); (repeat ((with_reducible refine And.intro ?_ ?_); (focus (exact ob1)))); refine hK _ ?_; clear hK; clear K
  refine awp_seq ?_
  refine awp_seq ?_
  refine awpF_region ?_; intro K hK; simp only [push_cast, seval]; (try simp (disch := omega) only [wrapI]); (repeat ((with_reducible refine And.intro ?_ ?_); (focus (exact ob1)))); refine hK _ ?_; clear hK; clear K
  refine awp_block ?_
  refine awp_loopP (st := fun (x : Nat × List Nat) => ⟨[(0, .d (.sl (ps.map encP))), (1, .d (.int .i64 gap)), (7, .ptr 1 0 0), (9, .ptr 2 0 0), (46, .d (.int .i64 ps.length)), (47, .d (.int .i64 x.1))], segHeap ps.length x.2 []⟩)
    (inv := fun x => x.1 ≤ ps.length ∧ Mid (near ps gap) ps.length (fun a b => b < a ∧ a < x.1) x.2) (μ := fun x => ps.length - x.1) (x0 := (0, List.range ps.length)) (r0 := [0, 1, 2]) ?_ ?_ ?_
  · exact ⟨Nat.zero_le _, (Mid.start _ _).more fun i j h _ => by omega⟩
  · simp only [segHeap]
    exact ⟨by simp, by simp, by simp [push_cast, seval], by simp [push_cast, seval], by simp [push_cast, seval], by simp [push_cast, seval]⟩
  rintro ⟨i, up⟩ ⟨hi, hm⟩
  simp only [] at hi hm ⊢
  have hul := hm.len
  rw [segHeap]
  refine awp_seq ?_
  refine awpF_region ?_; intro K hK; simp only [push_cast, seval]; (try simp (disch := omega) only [wrapI]); (repeat ((with_reducible refine And.intro ?_ ?_); (focus (exact ob1)))); refine hK _ ?_; clear hK; clear K
  refine awp_seq ?_
  apply awp_cond; (focus (simp only [push_cast, seval]; rfl))
  · intro h2; (try simp only [decide_eq_true_eq, decide_eq_false_iff_not, Bool.not_eq_true', Bool.not_eq_false', Bool.and_eq_true, Bool.or_eq_true, Bool.not_eq_true] at h2)
    have hlt : i < ps.length := by omega
    refine awp_skip ?_
    refine awp_seq ?_
    refine awp_block ?_
    refine awp_seq ?_
    refine awpF_region ?_; intro K hK; simp only [push_cast, seval]; (try simp (disch := omega) only [wrapI]); (repeat ((with_reducible refine And.intro ?_ ?_); (focus (exact ob1)))); refine hK _ ?_; clear hK; clear K
    refine awp_seq ?_
    refine awpF_region ?_; intro K hK; simp only [push_cast, seval]; (try simp (disch := omega) only [wrapI]); (repeat ((with_reducible refine And.intro ?_ ?_); (focus (exact ob1)))); refine hK _ ?_; clear hK; clear K
    refine awp_block ?_
    refine awp_loopP (st := fun (x : Nat × List Nat) => ⟨[(0, .d (.sl (ps.map encP))), (1, .d (.int .i64 gap)), (7, .ptr 1 0 0), (9, .ptr 2 0 0), (10, .d (.int .i64 i)), (46, .d (.int .i64 ps.length)), (47, .d (.int .i64 i)), (50, .d (.int .i64 i)), (51, .d (.int .i64 x.1))], segHeap ps.length x.2 []⟩)
      (inv := fun x => x.1 ≤ i ∧ Mid (near ps gap) ps.length (fun a b => b < a ∧ a < i ∨ a = i ∧ b < x.1) x.2) (μ := fun x => i - x.1) (x0 := (0, up)) (r0 := [0, 1, 2]) ?_ ?_ ?_
    · exact ⟨Nat.zero_le _, hm.more fun a b h _ => by omega⟩
    · simp only [segHeap]
      exact ⟨by simp, by simp, by simp [push_cast, seval], by simp [push_cast, seval], by simp [push_cast, seval], by simp [push_cast, seval]⟩
    clear hm hul
    clear up
    rintro ⟨j, up⟩ ⟨hj, hm⟩
    simp only [] at hj hm ⊢
    have hul := hm.len
    rw [segHeap]
    refine awp_seq ?_
    refine awpF_region ?_; intro K hK; simp only [push_cast, seval]; (try simp (disch := omega) only [wrapI]); (repeat ((with_reducible refine And.intro ?_ ?_); (focus (exact ob1)))); refine hK _ ?_; clear hK; clear K
    refine awp_seq ?_
    apply awp_cond; (focus (simp only [push_cast, seval]; rfl))
    · intro h3; (try simp only [decide_eq_true_eq, decide_eq_false_iff_not, Bool.not_eq_true', Bool.not_eq_false', Bool.and_eq_true, Bool.or_eq_true, Bool.not_eq_true] at h3)
      have hjl : j < i := by omega
      obtain ⟨p, hp⟩ : ∃ p, ps[i]? = some p := ⟨_, List.getElem?_eq_getElem hlt⟩
      obtain ⟨q, hq⟩ : ∃ q, ps[j]? = some q := ⟨_, List.getElem?_eq_getElem (by omega)⟩
      refine awp_skip ?_
      refine awp_seq ?_
      refine awp_block ?_
      refine awp_seq ?_
      refine awpF_region ?_; intro K hK; simp only [push_cast, seval]; (try simp (disch := omega) only [wrapI]); (repeat ((with_reducible refine And.intro ?_ ?_); (focus (exact ob1)))); refine hK _ ?_; clear hK; clear K
      refine awp_seq ?_
      refine awpF_draw [0,1,2,3,5,6,7,8,11,12,13,4,9,10,14] (by kernel_rfl) (by kernel_rfl) rfl ?_; intro K hK; simp only [push_cast, seval, hp, hq, encP]
      (repeat ((with_reducible refine And.intro ?_ ?_); (focus (exact ob1))))
      refine CallK.pd (p59 _ _ _) ?_; simp only [push_cast, seval]; (try simp (disch := omega) only [wrapI]); (repeat ((with_reducible refine And.intro ?_ ?_); (focus (exact ob1))))
      refine CallK.pd (p59 _ _ _) ?_; simp only [push_cast, seval]; (try simp (disch := omega) only [wrapI]); (repeat ((with_reducible refine And.intro ?_ ?_); (focus (exact ob1))))
      refine CallK.pd (p58 _ _ _ _) ?_; simp only [push_cast, seval]; (try simp (disch := omega) only [wrapI]); (repeat ((with_reducible refine And.intro ?_ ?_); (focus (exact ob1))))
      have hgg := sq_le gap (by omega) hg2.2
      rw [wrapI (gap * gap) (by omega)]
      refine hK _ ?_; clear hK; clear K
      apply awp_cond; (focus (simp only [push_cast, seval]; rfl))
      · intro hd; (try simp only [decide_eq_true_eq, decide_eq_false_iff_not, Bool.not_eq_true', Bool.not_eq_false', Bool.and_eq_true, Bool.or_eq_true, Bool.not_eq_true] at hd)
        have hnear : near ps gap i j := ⟨p, q, hp, hq, hd⟩
        have hup1 : i < up.length := by omega
        refine awp_seq ?_
        refine awpF_drawH [2,5] [2] [] [0,1,3,4,2,5,6,7] (by kernel_rfl) (by kernel_rfl) (by simp only [srt, Nat.reduceLT, decide_true, Bool.and_self]) (by kernel_rfl) (by kernel_rfl) ?_; intro K hK; simp only [push_cast, seval]
        (repeat ((with_reducible refine And.intro ?_ ?_); (focus (exact ob1))))
        refine HeapK.mk _ (p57 [] ps.length i up hul hm.down hlt) ?_
        rintro _ _ ⟨rfl, up1, hS1, rfl⟩
        have hul1 : up1.length = ps.length := hS1.len.trans hul
        rw [segHeap]
        simp only [push_cast, seval, RoS, shp, forall_eq_or_imp, forall_eq]
        refine ⟨fun id => by rcases id with _ | id <;> rfl, ?_⟩
        refine HeapK.mk _ (p57 [] ps.length j up1 hul1 hS1.down (by omega)) ?_
        rintro _ _ ⟨rfl, up2, hS2, rfl⟩
        have hul2 : up2.length = ps.length := hS2.len.trans hul1
        rw [segHeap]
        simp only [push_cast, seval, RoS, shp, forall_eq_or_imp, forall_eq]
        refine ⟨fun id => by rcases id with _ | id <;> rfl, ?_⟩
        refine hK _ ?_; clear hK; clear K
        have hS := hS1.trans hS2
        have hm2 := (hm.same_up hS).union near_symm hlt (show j < ps.length by omega) hnear
        rw [hS.root, hS.root] at hm2
        rw [hS1.root]
        have hra := root_le up i
        have hrb := root_le up j
        generalize root up i = a at hm2 hra ⊢
        generalize root up j = b at hm2 hrb ⊢
        have hmx : (max (a : Int) (b : Int)).toNat = max a b := by omega
        refine awpF_region ?_; intro K hK; simp only [push_cast, seval, hmx]
        refine ⟨by omega, by omega, ?_⟩
        refine hK _ ?_; clear hK; clear K
        have hmap : (List.map encN up2).set (max a b) [D.int IntKind.i64 (min (a : Int) (b : Int))] = (up2.set (max a b) (min a b)).map encN := by
          rw [List.map_set]
          congr 1
          simp only [encN]
          congr 2
          omega
        rw [hmap]
        refine awpF_region ?_; intro K hK; simp only [push_cast, seval]; (try simp (disch := omega) only [wrapI]); (repeat ((with_reducible refine And.intro ?_ ?_); (focus (exact ob1)))); refine hK _ ?_; clear hK; clear K
        refine round_endG (j + 1, up2.set (max a b) (min a b)) [0, 1, 2] ⟨?_, ?_, ?_⟩
        · dsimp only; omega
        · refine And.intro hjl (hm2.more fun c d h _ => ?_)
          dsimp only at h
          omega
        simp only [segHeap]
        exact ⟨by simp, by simp, by simp [push_cast, seval], by simp [push_cast, seval], by simp [push_cast, seval], by simp [push_cast, seval]⟩
      · intro hd; (try simp only [decide_eq_true_eq, decide_eq_false_iff_not, Bool.not_eq_true', Bool.not_eq_false', Bool.and_eq_true, Bool.or_eq_true, Bool.not_eq_true] at hd)
        refine awp_skip ?_
        refine awpF_region ?_; intro K hK; simp only [push_cast, seval]; (try simp (disch := omega) only [wrapI]); (repeat ((with_reducible refine And.intro ?_ ?_); (focus (exact ob1)))); refine hK _ ?_; clear hK; clear K
        refine round_endG (j + 1, up) [0, 1, 2] ⟨?_, ?_, ?_⟩
        · dsimp only; omega
        · refine And.intro hjl (hm.more fun a b h hn => ?_)
          dsimp only at h
          by_cases hab : a = i ∧ b = j
          · obtain ⟨rfl, rfl⟩ := hab
            obtain ⟨p', q', h5, h6, h7⟩ := hn
            rw [hp] at h5
            rw [hq] at h6
            cases h5
            cases h6
            exact absurd h7 hd
          · omega
        simp only [segHeap]
        exact ⟨by simp, by simp, by simp [push_cast, seval], by simp [push_cast, seval], by simp [push_cast, seval], by simp [push_cast, seval]⟩
    · intro h3; (try simp only [decide_eq_true_eq, decide_eq_false_iff_not, Bool.not_eq_true', Bool.not_eq_false', Bool.and_eq_true, Bool.or_eq_true, Bool.not_eq_true] at h3)
      have hje : j = i := by omega
      subst hje
      refine awp_exit ?_; (repeat (first | refine then_exit ?_ | refine inblock_other (by decide) ?_)); refine inblock_same ?_
      refine awpF_region ?_; intro K hK; simp only [push_cast, seval]; (try simp (disch := omega) only [wrapI]); (repeat ((with_reducible refine And.intro ?_ ?_); (focus (exact ob1)))); refine hK _ ?_; clear hK; clear K
      refine round_endG (j + 1, up) [0, 1, 2] ⟨?_, ?_, ?_⟩
      · dsimp only; omega
      · refine And.intro hlt (hm.more fun a b h _ => ?_)
        dsimp only at h; omega
      simp only [segHeap]
      exact ⟨by simp, by simp, by simp [push_cast, seval], by simp [push_cast, seval], by simp [push_cast, seval], by simp [push_cast, seval]⟩
  intro h2; (try simp only [decide_eq_true_eq, decide_eq_false_iff_not, Bool.not_eq_true', Bool.not_eq_false', Bool.and_eq_true, Bool.or_eq_true, Bool.not_eq_true] at h2)
  have hie : i = ps.length := by omega
  subst hie
  have hseg : segErr ps gap = 0 := by simp [segErr, hc']; omega
  have hlab := Mid.lab near_symm hm
  have hf := hd0 (root up) fun _ => hlab
  rw [if_pos hseg, hseg] at hf
  have hfix : ∀ k, root up (root up k) = root up k := root_root up
  have hfle : ∀ k, root up k ≤ k := root_le up
  have hS0 : Same up up := .refl hm.down
  clear hd0
  refine awp_exit ?_; (repeat (first | refine then_exit ?_ | refine inblock_other (by decide) ?_)); refine inblock_same ?_
  refine awp_seq ?_
  refine awpF_region ?_; intro K hK; simp only [push_cast, seval]; (try simp (disch := omega) only [wrapI]); (repeat ((with_reducible refine And.intro ?_ ?_); (focus (exact ob1)))); refine hK _ ?_; clear hK; clear K
  refine awp_seq ?_
  refine awpF_region ?_; intro K hK; simp only [push_cast, seval]; (try simp (disch := omega) only [wrapI]); (repeat ((with_reducible refine And.intro ?_ ?_); (focus (exact ob1)))); refine hK _ ?_; clear hK; clear K
  refine awp_seq ?_
  refine awp_seq ?_
  refine awpF_region ?_; intro K hK; simp only [push_cast, seval]; (try simp (disch := omega) only [wrapI]); (repeat ((with_reducible refine And.intro ?_ ?_); (focus (exact ob1)))); refine hK _ ?_; clear hK; clear K
  refine awp_virtV 14 1 (by simp only [push_cast, seval]) ?_
  refine awp_block ?_
  generalize hfe : root up = f at hlab hf hfix hfle
  refine awp_loopP (st := fun (x : Nat × List Nat) => ⟨[(9, .ptr 2 0 0), (14, .ref 4 0 (Seg.part f x.1).length), (15, .map 3), (87, .d (.int .i64 ps.length)), (88, .d (.int .i64 x.1))],
      segHeap ps.length x.2 (.mp (esFrom 0 (roots f x.1)) :: .vrs 1 (refs (Seg.part f x.1)) :: (Seg.part f x.1).map gblk)⟩)
    (inv := fun x => x.1 ≤ ps.length ∧ x.2.length = ps.length ∧ Down x.2 ∧ ∀ k, root x.2 k = f k) (μ := fun x => ps.length - x.1) (x0 := (0, up)) (r0 := [0, 1, 2, 3, 4]) ?_ ?_ ?_
  · exact ⟨Nat.zero_le _, hul, hm.down, fun k => by rw [hfe]⟩
  · simp only [segHeap, Seg.part, roots, List.range_zero, List.filter_nil, List.map_nil, esFrom, refs, List.length_nil]
    exact ⟨by simp, by simp, by simp [push_cast, seval], by simp [push_cast, seval], by simp [push_cast, seval], by simp [push_cast, seval]⟩
  clear hm hS0 hfe hul hi h2
  clear up
  rintro ⟨i, up⟩ ⟨hi, hul, hdn, hrt⟩
  dsimp only at hi hul hdn hrt ⊢
  rw [segHeap]
  refine awp_seq ?_
  refine awpF_region ?_; intro K hK; simp only [push_cast, seval]; (try simp (disch := omega) only [wrapI]); (repeat ((with_reducible refine And.intro ?_ ?_); (focus (exact ob1)))); refine hK _ ?_; clear hK; clear K
  refine awp_seq ?_
  apply awp_cond; (focus (simp only [push_cast, seval]; rfl))
  · intro h4; (try simp only [decide_eq_true_eq, decide_eq_false_iff_not, Bool.not_eq_true', Bool.not_eq_false', Bool.and_eq_true, Bool.or_eq_true, Bool.not_eq_true] at h4)
    have hlt : i < ps.length := by omega
    refine awp_skip ?_
    refine awp_seq ?_
    refine awp_block ?_
    refine awp_seq ?_
    refine awpF_region ?_; intro K hK; simp only [push_cast, seval]; (try simp (disch := omega) only [wrapI]); (repeat ((with_reducible refine And.intro ?_ ?_); (focus (exact ob1)))); refine hK _ ?_; clear hK; clear K
    refine awp_seq ?_
    refine awpF_regionH [2] ?_; intro K hK; simp only [push_cast, seval, List.zipIdx_cons, List.zipIdx_nil]
    have h57 := p57 (.mp (esFrom 0 (roots f i)) :: .vrs 1 (refs (Seg.part f i)) :: (Seg.part f i).map gblk) ps.length i up hul hdn hlt
    rw [segHeap] at h57
    refine HeapK.mk _ h57 ?_
    clear h57
    rintro _ _ ⟨rfl, up', hS, rfl⟩
    rw [segHeap, hrt i]
    simp only [push_cast, seval]
    refine hK _ ?_; clear hK; clear K
    have hul' := hS.len.trans hul
    have hdn' := hS.down
    have hrt' : ∀ k, root up' k = f k := fun k => (hS.root k).trans (hrt k)
    have hmk : MK Tryz.prog 3 (esFrom 0 (roots f i)) := mk3 (n := i) (by omega) (fun r hr => roots_lt hr) (roots_nd f i) 0
    have hkw : kwf Tryz.prog 3 (.d (.int .i64 (f i))) := kwf3 (by omega) (by have := hfle i; omega)
    have hgl := roots_len f i
    have hMs : ∀ j (l : List Nat), Blk.scr j (.mp (esFrom 0 l)) = .mp (esFrom 0 l) := fun j l => by simp only [Blk.scr, esFrom_scr]
    have hGs : ∀ j (X : List Blk), heapScr j ((Seg.part f i).map gblk ++ X) = (Seg.part f i).map gblk ++ heapScr j X := by
      intro j X
      induction Seg.part f i with
      | nil => rfl
      | cons g l ih => simp only [List.map_cons, List.cons_append, heapScr, ih]; rfl
    have hgi : (Seg.part f i).length ≤ i := by
      rw [← hgl]
      have := List.length_filter_le (fun r => f r == r) (List.range i)
      rw [List.length_range] at this
      exact this
    have hGl : ((Seg.part f i).map gblk).length = (Seg.part f i).length := by simp
    have htk : (refs (Seg.part f i)).take (Seg.part f i).length = refs (Seg.part f i) := List.take_of_length_le (by rw [refs_len]; exact Nat.le_refl _)
    have hrs4 : ∀ X : List (List V), ((refs (Seg.part f i) ++ X).map fun r => r.map (scr 4)) = refs (Seg.part f i) ++ X.map fun r => r.map (scr 4) := fun X => by
      rw [List.map_append]
      congr 1
      simp only [refs, List.map_map]
      apply List.map_congr_left
      intro k _
      simp [scr, V.has]
    have hMs' : ∀ j (l : List Nat), List.map (fun p : V × V => (if V.has j p.fst = true then jk j p.fst else p.fst, if V.has j p.snd = true then jk j p.snd else p.snd)) (esFrom 0 l) = esFrom 0 l := fun j l => esFrom_scr j l 0
    have hne : ∀ n : Nat, (n + 1 + 1 + 1 + 1 + 1 == 4) = false := fun n => by simp
    have hA : ∀ (X : Blk) (Y : List Blk), ((Seg.part f i).map gblk ++ X :: Y)[(Seg.part f i).length]? = some X := fun X Y => by
      rw [List.getElem?_append_right (by simp)]; simp
    have hA1 : ∀ (X Y : Blk) (Z : List Blk), ((Seg.part f i).map gblk ++ X :: Y :: Z)[(Seg.part f i).length + 1]? = some Y := fun X Y Z => by
      rw [List.getElem?_append_right (by simp)]; simp
    have hA2 : ∀ (X Y Z : Blk) (W : List Blk), ((Seg.part f i).map gblk ++ X :: Y :: Z :: W)[(Seg.part f i).length + 2]? = some Z := fun X Y Z W => by
      rw [List.getElem?_append_right (by simp)]; simp
    refine awp_seq ?_
    by_cases hfi : f i = i
    · have hpl : mfind (esFrom 0 (roots f i)) (.d (.int .i64 (f i))) = none := by
        rw [esFrom_find, hfi]
        exact place_new
      refine awpF_region ?_; intro K hK; simp only [push_cast, seval, hpl, hmk, hkw]
      (repeat ((with_reducible refine And.intro ?_ ?_); (focus (exact ob1))))
      refine hK _ ?_; clear hK; clear K
      refine awp_seq ?_
      refine awp_seq ?_
      refine awpF_region ?_; intro K hK; simp only [push_cast, seval]; (try simp (disch := omega) only [wrapI]); (repeat ((with_reducible refine And.intro ?_ ?_); (focus (exact ob1)))); refine hK _ ?_; clear hK; clear K
      apply awp_cond; (focus (simp only [push_cast, seval]; rfl))
      · intro h5; (try simp only [decide_eq_true_eq, decide_eq_false_iff_not, Bool.not_eq_true', Bool.not_eq_false', Bool.and_eq_true, Bool.or_eq_true, Bool.not_eq_true] at h5)
        refine awp_seq ?_
        refine awpF_region ?_; intro K hK; simp only [push_cast, seval]; (try simp (disch := omega) only [wrapI]); (repeat ((with_reducible refine And.intro ?_ ?_); (focus (exact ob1)))); refine hK _ ?_; clear hK; clear K
        have hrn : roots f (i + 1) = roots f i ++ [i] := by
          simp only [roots, List.range_succ, List.filter_append]
          simp [hfi]
        have hes : esFrom 0 (roots f i) ++ [(V.d (.int .i64 (f i : Int)), V.d (.int .i64 ((Seg.part f i).length : Int)))] = esFrom 0 (roots f (i + 1)) := by
          rw [hrn, esFrom_append, hfi, hgl, Nat.zero_add]
        refine awp_seq ?_
        refine awpF_region ?_; intro K hK; simp only [push_cast, seval, mput, hpl, hmk, hkw, hes]
        (repeat ((with_reducible refine And.intro ?_ ?_); (focus (exact ob1))))
        refine hK _ ?_; clear hK; clear K
        refine awpF_region ?_; intro K hK; simp only [push_cast, seval, hMs, hMs', hGs, htk, hrs4, hGl, hA, hne, List.length_append, List.append_assoc]
        (repeat ((with_reducible refine And.intro ?_ ?_); (focus (exact ob1))))
        refine hK _ ?_; clear hK; clear K
        have hga : (refs (Seg.part f i) ++ [[V.nil]])[(Seg.part f i).length]? = some [V.nil] := by
          rw [List.getElem?_append_right (by rw [refs_len]; exact Nat.le_refl _), refs_len]
          simp
        refine awpF_region ?_; intro K hK; simp only [push_cast, seval, hMs, hMs', hGs, hGl, hA, hA1, hA2, hga, hne, List.length_append, List.append_assoc]
        (repeat ((with_reducible refine And.intro ?_ ?_); (focus (exact ob1))))
        refine hK _ ?_; clear hK; clear K
        refine awpF_region ?_; intro K hK; simp only [push_cast, seval]; (try simp (disch := omega) only [wrapI]); (repeat ((with_reducible refine And.intro ?_ ?_); (focus (exact ob1)))); refine hK _ ?_; clear hK; clear K
        have hpn := part_new (i := i) (f := f) (fun k _ => hfle k) hfi
        have hrow : (refs (Seg.part f i) ++ [[V.nil]]).set (Seg.part f i).length [V.ref ((Seg.part f i).length + 2 + 1 + 1 + 1 + 1 + 1) 0 1] = refs (Seg.part f i) ++ [[V.ref ((Seg.part f i).length + 2 + 1 + 1 + 1 + 1 + 1) 0 1]] := by
          rw [List.set_append_right _ _ (by rw [refs_len]; exact Nat.le_refl _), refs_len, Nat.sub_self]
          rfl
        rw [hrow]
        have hrj : ∀ j, j < (Seg.part f i).length + 5 → (List.range ((Seg.part f i).length + 5) ++ [(Seg.part f i).length + 7])[j]? = some j := fun j hj => by
          rw [List.getElem?_append_left (by simpa using hj), List.getElem?_range hj]
        have hrg : (List.range ((Seg.part f i).length + 5) ++ [(Seg.part f i).length + 7])[(Seg.part f i).length + 5]? = some ((Seg.part f i).length + 7) := by
          rw [List.getElem?_append_right (by simp)]; simp
        refine round_endG (i + 1, up') (List.range ((Seg.part f i).length + 5) ++ [(Seg.part f i).length + 7]) ⟨?_, ⟨hlt, hul', hdn', hrt'⟩, ?_⟩
        · dsimp only; omega
        dsimp only
        rw [hpn]
        refine seg_ren _ ?_ (fun j hj => hrj j (by omega)) ?_ ?_ ?_ ?_ ?_
        · rw [List.nodup_append]
          refine ⟨List.nodup_range, by simp, fun a ha b hb => ?_⟩
          have := List.mem_range.1 ha
          simp at hb
          omega
        · simp
        · intro j gk hj
          rcases Nat.lt_or_ge j (Seg.part f i).length with h | h
          · rw [List.getElem?_append_left h] at hj
            refine ⟨j, hrj _ (by omega), ?_⟩
            rw [List.getElem?_append_left (by simpa using h), List.getElem?_map, hj]
            rfl
          · have h' := (List.getElem?_eq_some_iff.1 hj).1
            simp at h'
            have : j = (Seg.part f i).length := by omega
            subst this
            rw [List.getElem?_append_right (Nat.le_refl _)] at hj
            simp at hj
            subst hj
            exact ⟨_, hrg, hA2 _ _ _ _⟩
        · rw [refs_snoc, List.map_append, refs_ren_old hrj]
          simp only [List.map_cons, List.map_nil, renL_one, V.ren, List.getD_eq_getElem?_getD]
          rw [show (Seg.part f i).length + 1 + 1 + 1 + 1 + 1 = (Seg.part f i).length + 5 by omega, hrg]
          rfl
        · have e2 := hrj 2 (by omega)
          have e3 := hrj 3 (by omega)
          have e4 := hrj 4 (by omega)
          simp only [renTm, V.ren, List.getD_eq_getElem?_getD, e2, e3, e4]
          simp [push_cast, seval]
        · simp [push_cast, seval]
      · intro h5; (try simp only [decide_eq_true_eq, decide_eq_false_iff_not, Bool.not_eq_true', Bool.not_eq_false', Bool.and_eq_true, Bool.or_eq_true, Bool.not_eq_true] at h5)
        cases h5
    · have hfl : f i < i := by have := hfle i; omega
      obtain ⟨k, hpl0, hrk⟩ := place_old hfl (hfix i)
      have hpl : mfind (esFrom 0 (roots f i)) (.d (.int .i64 (f i))) = some k := by
        rw [esFrom_find]
        exact hpl0
      have hrk' : (roots f i)[k]? = some (f i) := hrk
      have hkl : k < (Seg.part f i).length := by
        rw [← hgl]
        exact (List.getElem?_eq_some_iff.1 hrk').1
      have hek : (esFrom 0 (roots f i))[k]? = some (.d (.int .i64 (f i)), .d (.int .i64 k)) := by
        rw [esFrom_get, hrk', Nat.zero_add]
        rfl
      obtain ⟨gk, hgk⟩ : ∃ gk, (Seg.part f i)[k]? = some gk := ⟨_, List.getElem?_eq_getElem hkl⟩
      have hgkl : gk.length ≤ i := by
        simp only [Seg.part, List.getElem?_map, Option.map_eq_some_iff] at hgk
        obtain ⟨r, _, rfl⟩ := hgk
        have := List.length_filter_le (fun k => f k == r) (List.range i)
        rwa [List.length_range] at this
      have hga := refs_get hgk
      have hsc := refs_scr hkl
      have hGk : ∀ X : List Blk, ((Seg.part f i).map gblk ++ X)[k]? = some (.data 1 (gk.map encN)) := fun X => by
        rw [List.getElem?_append_left (by simpa using hkl), List.getElem?_map, hgk]
        rfl
      have htk2 : (gk.map encN).take gk.length = gk.map encN := List.take_of_length_le (by simp)
      have z0 : ∀ n : Nat, (0 == n + 1 + 1 + 1 + 1 + 1) = false := fun n => by simp
      have z2 : ∀ n : Nat, (2 == n + 1 + 1 + 1 + 1 + 1) = false := fun n => by simp
      have z1 : ∀ n : Nat, (1 == n + 1 + 1 + 1 + 1 + 1) = false := fun n => by simp
      have z3 : ∀ n : Nat, (3 == n + 1 + 1 + 1 + 1 + 1) = false := fun n => by simp
      have z4 : ∀ n : Nat, (4 == n + 1 + 1 + 1 + 1 + 1) = false := fun n => by simp
      have zk : ((Seg.part f i).length + 1 + 1 + 1 + 1 + 1 == k + 1 + 1 + 1 + 1 + 1) = false := by simp; omega
      have hre : roots f (i + 1) = roots f i := by
        simp only [roots, List.range_succ, List.filter_append]
        simp [hfi]
      have hpo := part_old hfl hrk
      refine awpF_region ?_; intro K hK; simp only [push_cast, seval, hpl, hmk, hkw, hek]
      (repeat ((with_reducible refine And.intro ?_ ?_); (focus (exact ob1))))
      refine hK _ ?_; clear hK; clear K
      refine awp_seq ?_
      refine awp_seq ?_
      refine awpF_region ?_; intro K hK; simp only [push_cast, seval]; (try simp (disch := omega) only [wrapI]); (repeat ((with_reducible refine And.intro ?_ ?_); (focus (exact ob1)))); refine hK _ ?_; clear hK; clear K
      apply awp_cond; (focus (simp only [push_cast, seval]; rfl))
      · intro h5; (try simp only [decide_eq_true_eq, decide_eq_false_iff_not, Bool.not_eq_true', Bool.not_eq_false', Bool.and_eq_true, Bool.or_eq_true, Bool.not_eq_true] at h5)
        cases h5
      · intro h5; (try simp only [decide_eq_true_eq, decide_eq_false_iff_not, Bool.not_eq_true', Bool.not_eq_false', Bool.and_eq_true, Bool.or_eq_true, Bool.not_eq_true] at h5)
        refine awp_skip ?_
        refine awpF_region ?_; intro K hK; simp only [push_cast, seval, hMs, hMs', hGs, hGl, hA, hga, hsc, hGk, htk2, z0, z1, z2, z3, z4, zk, beq_self_eq_true, List.set_set, List.length_append]
        (repeat ((with_reducible refine And.intro ?_ ?_); (focus (exact ob1))))
        refine hK _ ?_; clear hK; clear K
        refine awpF_region ?_; intro K hK; simp only [push_cast, seval]; (try simp (disch := omega) only [wrapI]); (repeat ((with_reducible refine And.intro ?_ ?_); (focus (exact ob1)))); refine hK _ ?_; clear hK; clear K
        have hrj : ∀ j, j < (Seg.part f i).length + 5 → (List.range ((Seg.part f i).length + 5))[j]? = some j := fun j hj => List.getElem?_range hj
        have hml : (Seg.part f (i + 1)).length = (Seg.part f i).length := by rw [hpo, List.length_modify]
        refine round_endG (i + 1, up') (List.range ((Seg.part f i).length + 5)) ⟨?_, ⟨hlt, hul', hdn', hrt'⟩, ?_⟩
        · dsimp only; omega
        dsimp only
        rw [hml, hre, hpo]
        refine seg_ren _ List.nodup_range (fun j hj => hrj j (by omega)) ?_ ?_ ?_ ?_ ?_
        · simp
        · intro j gj hj
          have h' := (List.getElem?_eq_some_iff.1 hj).1
          rw [List.length_modify] at h'
          refine ⟨j, hrj _ (by omega), ?_⟩
          rw [List.getElem?_modify] at hj
          rw [List.getElem?_set]
          by_cases hkj : k = j
          · subst hkj
            rw [if_pos rfl, if_pos (by simp; omega)]
            rw [hgk] at hj
            simp only [if_true, Option.map_eq_map, Option.map_some, Option.some.injEq] at hj
            subst hj
            simp [gblk, encN]
          · rw [if_neg hkj]
            simp only [hkj, if_false, Option.map_eq_map, Option.map_id', id] at hj
            have hj : (Seg.part f i)[j]? = some gj := by simpa using hj
            rw [List.getElem?_append_left (by simpa using h'), List.getElem?_map, hj]
            rfl
        · rw [refs_ren_old (by rw [List.length_modify]; exact hrj), refs_modify hgk]
        · have e2 := hrj 2 (by omega)
          have e3 := hrj 3 (by omega)
          have e4 := hrj 4 (by omega)
          simp only [renTm, V.ren, List.getD_eq_getElem?_getD, e2, e3, e4]
          simp [push_cast, seval]
        · simp [push_cast, seval]
  · intro h4; (try simp only [decide_eq_true_eq, decide_eq_false_iff_not, Bool.not_eq_true', Bool.not_eq_false', Bool.and_eq_true, Bool.or_eq_true, Bool.not_eq_true] at h4)
    have hie : i = ps.length := by omega
    subst hie
    refine awp_exit ?_; (repeat (first | refine then_exit ?_ | refine inblock_other (by decide) ?_)); refine inblock_same ?_
    refine awp_seq ?_
    refine awpF_region ?_; intro K hK; simp only [push_cast, seval]; (try simp (disch := omega) only [wrapI]); (repeat ((with_reducible refine And.intro ?_ ?_); (focus (exact ob1)))); refine hK _ ?_; clear hK; clear K
    refine awp_ret ?_; (repeat (first | refine then_ret ?_ | refine inblock_ret ?_)); refine fin_of (by simp only [push_cast, seval]; first | done | rfl) ob1 ?_
    rw [hf]
    refine deep_tup2 (deep_groups rfl fun j g hg => ?_) (.d _)
    show ((Seg.part f ps.length).map gblk)[j]? = _
    simp [hg]

end Go.Aw

namespace Go.Aw
set_option linter.unusedSimpArgs false
set_option linter.unusedVariables false
open Go.RowKit Go.Proofs Go.Seg

theorem inblock_norm {id : Nat} {Q : Exit → St → Prop} {s : St} (h : Q .normal s) : InBlock id Q .normal s := h

theorem check_fair {ps : List Pt} (h : check ps = 0) {i : Nat} {p : Pt} (hp : ps[i]? = some p) : fair p.1 p.2.1 = true := by
  unfold check at h
  split at h
  · cases h
  · split at h
    · rename_i hall
      have := List.all_eq_true.1 hall p (List.mem_of_getElem? hp)
      simp only [okP, Bool.and_eq_true] at this
      exact this.1
    · cases h

structure Lbl (near : Nat → Nat → Prop) (n : Nat) (up : List Nat) : Prop where
  len : up.length = n
  ok : ∀ i x, up[i]? = some x → x ≤ i ∧ Conn near i x

theorem Lbl.set {near : Nat → Nat → Prop} {n : Nat} {up : List Nat} (h : Lbl near n up) {i k x y : Nat} (hi : up[i]? = some y) (hk : up[k]? = some x) (hlt : x < y) (hn : near i k) : Lbl near n (up.set i x) := by
  refine ⟨by simp [h.len], fun j z hj => ?_⟩
  rw [List.getElem?_set] at hj
  split at hj
  · rename_i hij
    subst hij
    split at hj
    · simp at hj; subst hj
      have h1 := h.ok i y hi
      have h2 := h.ok k x hk
      exact ⟨by omega, Conn.trans (.step (.refl _) hn) h2.2⟩
    · cases hj
  · exact h.ok j z hj

theorem Lbl.start (near : Nat → Nat → Prop) (n : Nat) : Lbl near n (List.range n) := by
  refine ⟨by simp, fun i x hx => ?_⟩
  rw [List.getElem?_eq_some_iff] at hx
  obtain ⟨h, hx⟩ := hx
  simp at hx
  subst hx
  exact ⟨Nat.le_refl _, .refl _⟩

theorem Lbl.lab {near : Nat → Nat → Prop} (hs : ∀ i j, near i j → near j i) {n : Nat} {up : List Nat} (h : Lbl near n up) (hf : ∀ i k x y, up[i]? = some y → up[k]? = some x → near i k → ¬ x < y) : Lab near n (fun i => up.getD i i) := by
  have get : ∀ i, i < n → up[i]? = some (up.getD i i) := fun i hi => by
    have : i < up.length := by rw [h.len]; exact hi
    simp [List.getD_eq_getElem?_getD, List.getElem?_eq_getElem this]
  refine ⟨fun i hi => (h.ok i _ (get i hi)).1, fun i hi => (h.ok i _ (get i hi)).2, fun i j hi hj hn => ?_⟩
  have h1 := hf i j _ _ (get i hi) (get j hj) hn
  have h2 := hf j i _ _ (get j hj) (get i hi) (hs _ _ hn)
  show up.getD i i = up.getD j j
  omega

def encG (g : List Nat) : List D := [.sl (g.map encN)]
def grow (f : Nat → Nat) (i k : Nat) : List Nat := (List.range k).filter fun j => f j == i

end Go.Aw

namespace Go.Aw
set_option linter.unusedSimpArgs false
set_option linter.unusedVariables false
open Go.RowKit Go.Proofs Go.Seg

def yes (ps : List Pt) (is : Pt → Bool) (n : Nat) : List Nat := (List.range n).filter fun i => match ps[i]? with | some p => is p | none => false

theorem yes_succ {ps : List Pt} {is : Pt → Bool} {i : Nat} {p : Pt} (hp : ps[i]? = some p) : yes ps is (i + 1) = if is p then yes ps is i ++ [i] else yes ps is i := by
  simp only [yes, List.range_succ, List.filter_append, List.filter_cons, List.filter_nil, hp]
  split <;> simp

theorem yes_len (ps : List Pt) (is : Pt → Bool) (n : Nat) : (yes ps is n).length ≤ n := by
  have := List.length_filter_le (fun i => match ps[i]? with | some p => is p | none => false) (List.range n)
  rwa [List.length_range] at this

theorem deep_ints {H : List Blk} {id : Nat} {l : List Nat} (h : H[id]? = some (.data 1 (l.map encN))) : Deep H (.ref id 0 l.length) (.sl (l.map encN)) := by
  have := Deep.data (H := H) id 0 l.length 1 (l.map encN) h (by simp)
  rwa [List.drop_zero, List.take_of_length_le (by simp)] at this

theorem dVs_map : ∀ l : List D, dVs (l.map V.d) = some l
  | [] => rfl
  | x :: l => by simp only [List.map_cons, dVs, dVs_map l, dV]

theorem p74 (ps : List Pt) (f : FuncId) (caps : List D) (is : Pt → Bool) (hn : ps.length ≤ 1000000) (hf : ∀ (i : Nat) (p : Pt), ps[i]? = some p → PD Tryz.prog f (.agg (encP p) :: caps) (.d (.bool (is p)))) :
    PD Tryz.prog 31 [.sl (ps.map encP), .fn (.func f) caps] (ofD (.sl ((yes ps is ps.length).map encN))) := by
  refine pdd_of (fn := Tryz.f31) [.tmp 4] (by kernel_rfl) rfl (by kernel_rfl) (Nat.le_of_ble_eq_true rfl) (by kernel_rfl) rfl ?_
  refine awp_seq ?_
  refine awpF_region ?_; intro K hK; simp only [push_cast, seval]; (try simp (disch := omega) only [wrapI]); (repeat ((with_reducible refine And.intro ?_ ?_); (focus (exact ob1)))); refine hK _ ?_; clear hK; clear K
  refine awp_seq ?_
  refine awpF_region ?_; intro K hK; simp only [push_cast, seval]; (try simp (disch := omega) only [wrapI]); (repeat ((with_reducible refine And.intro ?_ ?_); (focus (exact ob1)))); refine hK _ ?_; clear hK; clear K
  refine awp_seq ?_
  refine awp_seq ?_
  refine awpF_region ?_; intro K hK; simp only [push_cast, seval]; (try simp (disch := omega) only [wrapI]); (repeat ((with_reducible refine And.intro ?_ ?_); (focus (exact ob1)))); refine hK _ ?_; clear hK; clear K
  refine awp_virt 5 1 (by simp only [push_cast, seval]) ?_
  refine awp_block ?_
  refine awp_loopP (st := fun (x : Nat) => ⟨[(1, .d (.fn (.func f) caps)), (5, .ref 0 0 (yes ps is x).length), (8, .d (.sl (ps.map encP))), (9, .d (.int .i64 ps.length)), (10, .d (.int .i64 x))], [.data 1 ((yes ps is x).map encN)]⟩)
    (inv := fun x => x ≤ ps.length) (μ := fun x => ps.length - x) (x0 := 0) (r0 := [0]) ?_ ?_ ?_
  · exact Nat.zero_le _
  · have hy0 : yes ps is 0 = [] := rfl
    rw [hy0]
    exact ⟨by simp, by simp, by simp [push_cast, seval], by simp [push_cast, seval], by simp [push_cast, seval], by simp [push_cast, seval]⟩
  intro i hi
  have hyl := yes_len ps is i
  refine awp_seq ?_
  refine awpF_region ?_; intro K hK; simp only [push_cast, seval]; (try simp (disch := omega) only [wrapI]); (repeat ((with_reducible refine And.intro ?_ ?_); (focus (exact ob1)))); refine hK _ ?_; clear hK; clear K
  refine awp_seq ?_
  apply awp_cond; (focus (simp only [push_cast, seval]; rfl))
  · intro h1; (try simp only [decide_eq_true_eq, decide_eq_false_iff_not, Bool.not_eq_true', Bool.not_eq_false', Bool.and_eq_true, Bool.or_eq_true, Bool.not_eq_true] at h1)
    have hlt : i < ps.length := by omega
    obtain ⟨p, hp⟩ : ∃ p, ps[i]? = some p := ⟨_, List.getElem?_eq_getElem hlt⟩
    have hys := yes_succ (is := is) hp
    have h74 := hf i p hp
    rw [encP] at h74
    refine awp_skip ?_
    refine awp_seq ?_
    refine awp_block ?_
    refine awp_seq ?_
    refine awpF_region ?_; intro K hK; simp only [push_cast, seval, hp, encP]; (try simp (disch := omega) only [wrapI]); (repeat ((with_reducible refine And.intro ?_ ?_); (focus (exact ob1)))); refine hK _ ?_; clear hK; clear K
    refine awp_seq ?_
    refine awpF_region ?_; intro K hK; simp only [push_cast, seval, dVs_map]
    (repeat ((with_reducible refine And.intro ?_ ?_); (focus (exact ob1))))
    refine CallK.pd (h74) ?_; simp only [push_cast, seval]; (try simp (disch := omega) only [wrapI]); (repeat ((with_reducible refine And.intro ?_ ?_); (focus (exact ob1))))
    refine hK _ ?_; clear hK; clear K
    apply awp_cond; (focus (simp only [push_cast, seval]; rfl))
    · intro h2; (try simp only [decide_eq_true_eq, decide_eq_false_iff_not, Bool.not_eq_true', Bool.not_eq_false', Bool.and_eq_true, Bool.or_eq_true, Bool.not_eq_true] at h2)
      rw [if_pos h2] at hys
      have htk : ((yes ps is i).map encN).take (yes ps is i).length = (yes ps is i).map encN := List.take_of_length_le (by simp)
      refine awpF_region ?_; intro K hK; simp only [push_cast, seval, htk]
      (repeat ((with_reducible refine And.intro ?_ ?_); (focus (exact ob1))))
      refine hK _ ?_; clear hK; clear K
      refine awpF_region ?_; intro K hK; simp only [push_cast, seval]; (try simp (disch := omega) only [wrapI]); (repeat ((with_reducible refine And.intro ?_ ?_); (focus (exact ob1)))); refine hK _ ?_; clear hK; clear K
      refine round_endG (i + 1) [0] ⟨?_, hlt, ?_⟩
      · omega
      · rw [hys, List.map_append, List.length_append]
        simp only [List.map_cons, List.map_nil, encN]
        exact ⟨by simp, by simp, by simp [push_cast, seval], by simp [push_cast, seval], by simp [push_cast, seval], by simp [push_cast, seval]⟩
    · intro h2; (try simp only [decide_eq_true_eq, decide_eq_false_iff_not, Bool.not_eq_true', Bool.not_eq_false', Bool.and_eq_true, Bool.or_eq_true, Bool.not_eq_true] at h2)
      rw [if_neg (by simp [h2])] at hys
      refine awp_skip ?_
      refine awpF_region ?_; intro K hK; simp only [push_cast, seval]; (try simp (disch := omega) only [wrapI]); (repeat ((with_reducible refine And.intro ?_ ?_); (focus (exact ob1)))); refine hK _ ?_; clear hK; clear K
      refine round_endG (i + 1) [0] ⟨?_, hlt, ?_⟩
      · omega
      · rw [hys]
        exact ⟨by simp, by simp, by simp [push_cast, seval], by simp [push_cast, seval], by simp [push_cast, seval], by simp [push_cast, seval]⟩
  · intro h1; (try simp only [decide_eq_true_eq, decide_eq_false_iff_not, Bool.not_eq_true', Bool.not_eq_false', Bool.and_eq_true, Bool.or_eq_true, Bool.not_eq_true] at h1)
    have hie : i = ps.length := by omega
    subst hie
    refine awp_exit ?_; (repeat (first | refine then_exit ?_ | refine inblock_other (by decide) ?_)); refine inblock_same ?_
    refine awp_seq ?_
    refine awpF_region ?_; intro K hK; simp only [push_cast, seval]; (try simp (disch := omega) only [wrapI]); (repeat ((with_reducible refine And.intro ?_ ?_); (focus (exact ob1)))); refine hK _ ?_; clear hK; clear K
    refine awp_ret ?_; (repeat (first | refine then_ret ?_ | refine inblock_ret ?_)); refine fin_of (by simp only [push_cast, seval]; first | done | rfl) ob1 ?_
    exact deep_ints rfl

theorem p76 (p : Pt) (x y reach : Int) : PD Tryz.prog 33 [.agg (encP p), .cp [.int .i64 x, .int .i64 y] 0, .cp [.int .i64 reach] 0] (.d (.bool (decide (dist2 (x, y) (ptS p) ≤ IntKind.i64.wrap (reach * reach))))) := by
  rw [encP]
  refine pd_of (fn := Tryz.f33) [.tmp 4] (by kernel_rfl) rfl (by kernel_rfl) (Nat.le_of_ble_eq_true rfl) (by kernel_rfl) rfl rfl ?_
  refine awp_seq ?_
  refine awpF_region ?_; intro K hK; simp only [push_cast, seval]; (try simp (disch := omega) only [wrapI]); (repeat ((with_reducible refine And.intro ?_ ?_); (focus (exact ob1)))); refine hK _ ?_; clear hK; clear K
  refine awp_seq ?_
  refine awpF_draw [0,1,4,5,6,2,3,7,8] (by kernel_rfl) (by kernel_rfl) rfl ?_; intro K hK; simp only [push_cast, seval]
  (repeat ((with_reducible refine And.intro ?_ ?_); (focus (exact ob1))))
  refine CallK.pd (p59 _ _ _) ?_; simp only [push_cast, seval]; (try simp (disch := omega) only [wrapI]); (repeat ((with_reducible refine And.intro ?_ ?_); (focus (exact ob1))))
  refine CallK.pd (p58 _ _ _ _) ?_; simp only [push_cast, seval]; (repeat ((with_reducible refine And.intro ?_ ?_); (focus (exact ob1))))
  refine hK _ ?_; clear hK; clear K
  refine awp_ret ?_; (repeat (first | refine then_ret ?_ | refine inblock_ret ?_)); refine fin_of (by simp only [push_cast, seval]; first | done | rfl) ob1 ?_
  rfl

def nearOk (ps : List Pt) (x y reach : Int) : Bool := decide (check ps = 0) && fair x y && decide (0 ≤ reach) && decide (reach ≤ 33554432)
def nearL (ps : List Pt) (x y reach : Int) : List Nat := if nearOk ps x y reach then yes ps (fun p => decide (dist2 (x, y) (ptS p) ≤ reach * reach)) ps.length else []

theorem p36 (ps : List Pt) (x y reach : Int) : PD Tryz.prog 10 [.sl (ps.map encP), .agg [.int .i64 x, .int .i64 y], .int .i64 reach] (ofD (.sl ((nearL ps x y reach).map encN))) := by
  refine pdd_of (fn := Tryz.f10) [.tmp 6] (by kernel_rfl) rfl (by kernel_rfl) (Nat.le_of_ble_eq_true rfl) (by kernel_rfl) rfl ?_
  refine awp_seq ?_
  refine awpF_region ?_; intro K hK; simp only [push_cast, seval]; (try simp (disch := omega) only [wrapI]); (repeat ((with_reducible refine And.intro ?_ ?_); (focus (exact ob1)))); refine hK _ ?_; clear hK; clear K
  refine awp_seq ?_
  refine awp_seq ?_
  refine awpF_region ?_; intro K hK; simp only [push_cast, seval]
  (repeat ((with_reducible refine And.intro ?_ ?_); (focus (exact ob1))))
  refine CallK.pd (p25 _) ?_; simp only [push_cast, seval]; (try simp (disch := omega) only [wrapI]); (repeat ((with_reducible refine And.intro ?_ ?_); (focus (exact ob1))))
  refine CallK.pg (fun _ => p63 _ _) ?_; simp only [push_cast, seval]; (try simp (disch := omega) only [wrapI]); (repeat ((with_reducible refine And.intro ?_ ?_); (focus (exact ob1))))
  refine hK _ ?_; clear hK; clear K
  apply awp_cond; (focus (simp only [push_cast, seval]; rfl))
  · intro h1; (try simp only [decide_eq_true_eq, decide_eq_false_iff_not, Bool.not_eq_true', Bool.not_eq_false', Bool.and_eq_true, Bool.or_eq_true, Bool.not_eq_true] at h1)
    have hk : nearOk ps x y reach = false := by
      cases hk : nearOk ps x y reach with
      | false => rfl
      | true =>
        exfalso
        simp only [nearOk, Bool.and_eq_true, decide_eq_true_eq] at hk
        have e1 : ¬ reach < 0 := by omega
        have e2 : ¬ reach > 33554432 := by omega
        simp [hk.1.1.1, hk.1.1.2, e1, e2] at h1
    refine awp_seq ?_
    refine awpF_region ?_; intro K hK; simp only [push_cast, seval]; (try simp (disch := omega) only [wrapI]); (repeat ((with_reducible refine And.intro ?_ ?_); (focus (exact ob1)))); refine hK _ ?_; clear hK; clear K
    refine awp_ret ?_; (repeat (first | refine then_ret ?_ | refine inblock_ret ?_)); refine fin_of (by simp only [push_cast, seval]; first | done | rfl) ob1 ?_
    rw [nearL, hk]
    exact .nil
  · intro h1; (try simp only [decide_eq_true_eq, decide_eq_false_iff_not, Bool.not_eq_true', Bool.not_eq_false', Bool.and_eq_true, Bool.or_eq_true, Bool.not_eq_true] at h1)
    have hk : check ps = 0 ∧ fair x y = true ∧ 0 ≤ reach ∧ reach ≤ 33554432 := by
      by_cases h2 : check ps = 0
      · cases h3 : fair x y with
        | false => simp [h2, h3] at h1
        | true =>
          by_cases h4 : reach < 0
          · simp [h2, h3, h4] at h1
          · simp [h2, h3, h4] at h1
            exact ⟨h2, rfl, by omega, by omega⟩
      · simp [h2] at h1
    have hn : ps.length ≤ 1000 := by
      have := hk.1
      simp [check] at this
      split at this <;> omega
    have hw := sq_le reach (by omega) hk.2.2.2
    have hkk : nearOk ps x y reach = true := by simp [nearOk, hk]
    refine awp_skip ?_
    refine awp_seq ?_
    refine awpF_region ?_; intro K hK; simp only [push_cast, seval]
    (repeat ((with_reducible refine And.intro ?_ ?_); (focus (exact ob1))))
    have h74 := p74 ps 33 [.cp [.int .i64 x, .int .i64 y] 0, .cp [.int .i64 reach] 0] (fun p => decide (dist2 (x, y) (ptS p) ≤ reach * reach)) (by omega) (fun i p _ => by
      have := p76 p x y reach
      rwa [wrapI _ (by omega)] at this)
    rw [show yes ps (fun p => decide (dist2 (x, y) (ptS p) ≤ reach * reach)) ps.length = nearL ps x y reach by simp [nearL, hkk]] at h74
    refine CallK.pd (h74) ?_; simp only [push_cast, seval]; (try simp (disch := omega) only [wrapI]); (repeat ((with_reducible refine And.intro ?_ ?_); (focus (exact ob1))))
    refine hK _ ?_; clear hK; clear K
    refine awp_ret ?_; (repeat (first | refine then_ret ?_ | refine inblock_ret ?_)); refine fin_of (by simp only [push_cast, seval]; first | done | rfl) ob1 ?_
    exact .d _

def bndN (size : Int) : Int := 2 * (size - 1) * (size - 1)
def isBnd (size x : Int) : Prop := if size < 1 ∨ size > 16777216 then x = 0 else 0 ≤ x ∧ bndN size ≤ x * x ∧ ∀ y, 0 ≤ y → y < x → y * y < bndN size

theorem sq_mono {a b : Int} (h0 : 0 ≤ a) (h : a ≤ b) : a * a ≤ b * b := Int.mul_le_mul h h h0 (by omega)

theorem p44 (size x : Int) (hx : isBnd size x) : PD Tryz.prog 16 [.int .i64 size] (.d (.int .i64 x)) := by
  refine pd_of (fn := Tryz.f16) [.tmp 2] (by kernel_rfl) rfl (by kernel_rfl) (Nat.le_of_ble_eq_true rfl) (by kernel_rfl) rfl rfl ?_
  refine awp_seq ?_
  refine awpF_region ?_; intro K hK; simp only [push_cast, seval]; (try simp (disch := omega) only [wrapI]); (repeat ((with_reducible refine And.intro ?_ ?_); (focus (exact ob1)))); refine hK _ ?_; clear hK; clear K
  refine awp_seq ?_
  refine awp_seq ?_
  refine awpF_region ?_; intro K hK; simp only [push_cast, seval]; (try simp (disch := omega) only [wrapI]); (repeat ((with_reducible refine And.intro ?_ ?_); (focus (exact ob1)))); refine hK _ ?_; clear hK; clear K
  apply awp_cond; (focus (simp only [push_cast, seval]; rfl))
  · intro h1; (try simp only [decide_eq_true_eq, decide_eq_false_iff_not, Bool.not_eq_true', Bool.not_eq_false', Bool.and_eq_true, Bool.or_eq_true, Bool.not_eq_true] at h1)
    have h1' : size < 1 ∨ size > 16777216 := by simp at h1; omega
    rw [isBnd, if_pos h1'] at hx
    subst hx
    refine awp_seq ?_
    refine awpF_region ?_; intro K hK; simp only [push_cast, seval]; (try simp (disch := omega) only [wrapI]); (repeat ((with_reducible refine And.intro ?_ ?_); (focus (exact ob1)))); refine hK _ ?_; clear hK; clear K
    refine awp_ret ?_; (repeat (first | refine then_ret ?_ | refine inblock_ret ?_)); refine fin_of (by simp only [push_cast, seval]; first | done | rfl) ob1 ?_
    rfl
  intro h1; (try simp only [decide_eq_true_eq, decide_eq_false_iff_not, Bool.not_eq_true', Bool.not_eq_false', Bool.and_eq_true, Bool.or_eq_true, Bool.not_eq_true] at h1)
  have h1' : ¬ (size < 1 ∨ size > 16777216) := by simp at h1; omega
  rw [isBnd, if_neg h1'] at hx
  have hs1 : 1 ≤ size := by omega
  have hs2 : size ≤ 16777216 := by omega
  have hq := sq_le (size - 1) (by omega) (by omega)
  have hq2 : bndN size = 2 * ((size - 1) * (size - 1)) := by rw [bndN, Int.mul_assoc]
  have hqq := sq_le size (by omega) (by omega)
  have hexp : (size - 1) * (size - 1) = size * size - 2 * size + 1 := by
    rw [Int.sub_mul, Int.mul_sub]; omega
  have hs16 : (size - 1) * (size - 1) ≤ 281474976710656 := by
    have := sq_mono (a := size - 1) (b := 16777216) (by omega) (by omega)
    omega
  refine awp_skip ?_
  refine awp_seq ?_
  refine awpF_region ?_; intro K hK; simp only [push_cast, seval]
  rw [wrapI (size - 1) (by omega), wrapI (2 * (size - 1)) (by omega), wrapI (2 * (size - 1) * (size - 1)) (by have h : 2 * (size - 1) * (size - 1) = 2 * ((size - 1) * (size - 1)) := Int.mul_assoc _ _ _; omega)]
  rw [show 2 * (size - 1) * (size - 1) = bndN size from rfl]
  (repeat ((with_reducible refine And.intro ?_ ?_); (focus (exact ob1))))
  refine hK _ ?_; clear hK; clear K
  refine awp_seq ?_
  refine awpF_region ?_; intro K hK; simp only [push_cast, seval]; (try simp (disch := omega) only [wrapI]); (repeat ((with_reducible refine And.intro ?_ ?_); (focus (exact ob1)))); refine hK _ ?_; clear hK; clear K
  refine awp_seq ?_
  refine awp_block ?_
  refine awp_loopP (st := fun (v : Int × Int) => ⟨[(3, .d (.int .i64 (bndN size))), (4, .d (.int .i64 v.1)), (5, .d (.int .i64 v.2))], []⟩)
    (inv := fun v => 0 ≤ v.1 ∧ v.1 ≤ v.2 ∧ v.2 ≤ 2 * size ∧ bndN size ≤ v.2 * v.2 ∧ ∀ y, 0 ≤ y → y < v.1 → y * y < bndN size) (μ := fun v => (v.2 - v.1).toNat) (x0 := (0, 2 * size)) (r0 := []) ?_ ?_ ?_
  · refine ⟨Int.le_refl _, by dsimp only; omega, by dsimp only; omega, ?_, fun y h2 h3 => by dsimp only at h3; omega⟩
    have : 2 * size * (2 * size) = 4 * (size * size) := by rw [Int.mul_assoc, Int.mul_left_comm size 2 size]; omega
    dsimp only
    omega
  · exact ⟨by simp, by simp, by simp [push_cast, seval], by simp [push_cast, seval], by simp [push_cast, seval], by simp [push_cast, seval]⟩
  rintro ⟨low, high⟩ ⟨h2, h3, h4, h5, h6⟩
  dsimp only at h2 h3 h4 h5 h6 ⊢
  refine awp_seq ?_
  refine awp_seq ?_
  refine awpF_region ?_; intro K hK; simp only [push_cast, seval]; (try simp (disch := omega) only [wrapI]); (repeat ((with_reducible refine And.intro ?_ ?_); (focus (exact ob1)))); refine hK _ ?_; clear hK; clear K
  apply awp_cond; (focus (simp only [push_cast, seval]; rfl))
  · intro h7; (try simp only [decide_eq_true_eq, decide_eq_false_iff_not, Bool.not_eq_true', Bool.not_eq_false', Bool.and_eq_true, Bool.or_eq_true, Bool.not_eq_true] at h7)
    refine awp_skip ?_
    refine awp_block ?_
    have hmid : (low + high).tdiv 2 = (low + high) / 2 := Int.tdiv_eq_ediv_of_nonneg (by omega)
    have hm1 : low ≤ (low + high) / 2 := by omega
    have hm2 : (low + high) / 2 < high := by omega
    have hmq := sq_le ((low + high) / 2) (by omega) (by omega)
    refine awp_seq ?_
    refine awpF_region ?_; intro K hK; simp only [push_cast, seval]
    rw [wrapI (low + high) (by omega), hmid, wrapI ((low + high) / 2) (by omega)]
    generalize (low + high) / 2 = mid at hm1 hm2 hmq ⊢
    (repeat ((with_reducible refine And.intro ?_ ?_); (focus (exact ob1))))
    refine hK _ ?_; clear hK; clear K
    refine awp_seq ?_
    refine awpF_region ?_; intro K hK; simp only [push_cast, seval]; (try simp (disch := omega) only [wrapI]); (repeat ((with_reducible refine And.intro ?_ ?_); (focus (exact ob1)))); refine hK _ ?_; clear hK; clear K
    apply awp_cond; (focus (simp only [push_cast, seval]; rfl))
    · intro h8; (try simp only [decide_eq_true_eq, decide_eq_false_iff_not, Bool.not_eq_true', Bool.not_eq_false', Bool.and_eq_true, Bool.or_eq_true, Bool.not_eq_true] at h8)
      refine awpF_region ?_; intro K hK; simp only [push_cast, seval]; (try simp (disch := omega) only [wrapI]); (repeat ((with_reducible refine And.intro ?_ ?_); (focus (exact ob1)))); refine hK _ ?_; clear hK; clear K
      refine inblock_norm ?_
      refine round_endG (low, mid) [] ⟨?_, ?_, ?_⟩
      · dsimp only; omega
      · exact And.intro h2 (And.intro hm1 (And.intro (by dsimp only; omega) (And.intro h8 h6)))
      · exact ⟨by simp, by simp, by simp [push_cast, seval], by simp [push_cast, seval], by simp [push_cast, seval], by simp [push_cast, seval]⟩
    · intro h8; (try simp only [decide_eq_true_eq, decide_eq_false_iff_not, Bool.not_eq_true', Bool.not_eq_false', Bool.and_eq_true, Bool.or_eq_true, Bool.not_eq_true] at h8)
      refine awpF_region ?_; intro K hK; simp only [push_cast, seval]; (try simp (disch := omega) only [wrapI]); (repeat ((with_reducible refine And.intro ?_ ?_); (focus (exact ob1)))); refine hK _ ?_; clear hK; clear K
      refine inblock_norm ?_
      refine round_endG (mid + 1, high) [] ⟨?_, ?_, ?_⟩
      · dsimp only; omega
      · refine And.intro (by dsimp only; omega) (And.intro (by dsimp only; omega) (And.intro h4 (And.intro h5 fun y h9 h10 => ?_)))
        dsimp only at h10
        have := sq_mono h9 (show y ≤ mid by omega)
        omega
      · exact ⟨by simp, by simp, by simp [push_cast, seval], by simp [push_cast, seval], by simp [push_cast, seval], by simp [push_cast, seval]⟩
  · intro h7; (try simp only [decide_eq_true_eq, decide_eq_false_iff_not, Bool.not_eq_true', Bool.not_eq_false', Bool.and_eq_true, Bool.or_eq_true, Bool.not_eq_true] at h7)
    have he : high = low := by omega
    subst he
    refine awp_exit ?_; (repeat (first | refine then_exit ?_ | refine inblock_other (by decide) ?_)); refine inblock_same ?_
    refine awp_seq ?_
    refine awpF_region ?_; intro K hK; simp only [push_cast, seval]; (try simp (disch := omega) only [wrapI]); (repeat ((with_reducible refine And.intro ?_ ?_); (focus (exact ob1)))); refine hK _ ?_; clear hK; clear K
    refine awp_ret ?_; (repeat (first | refine then_ret ?_ | refine inblock_ret ?_)); refine fin_of (by simp only [push_cast, seval]; first | done | rfl) ob1 ?_
    have : high = x := by
      rcases Int.lt_trichotomy high x with h | h | h
      · have := hx.2.2 high h2 h; omega
      · exact h
      · have := h6 x hx.1 h; omega
    rw [this]

theorem p20 (a b : List Pt) (ha : a.length ≤ 1000000) : PD Tryz.prog 15 [.sl (a.map encP), .sl (b.map encP)] (.d (.bool (decide (a = b)))) := by
  refine pd_of (fn := Tryz.f15) [.tmp 4] (by kernel_rfl) rfl (by kernel_rfl) (Nat.le_of_ble_eq_true rfl) (by kernel_rfl) rfl rfl ?_
  refine awp_seq ?_
  refine awpF_region ?_; intro K hK; simp only [push_cast, seval]; (try simp (disch := omega) only [wrapI]); (repeat ((with_reducible refine And.intro ?_ ?_); (focus (exact ob1)))); refine hK _ ?_; clear hK; clear K
  refine awp_seq ?_
  refine awp_seq ?_
  refine awpF_region ?_; intro K hK; simp only [push_cast, seval]; (try simp (disch := omega) only [wrapI]); (repeat ((with_reducible refine And.intro ?_ ?_); (focus (exact ob1)))); refine hK _ ?_; clear hK; clear K
  apply awp_cond; (focus (simp only [push_cast, seval]; rfl))
  · intro h1; (try simp only [decide_eq_true_eq, decide_eq_false_iff_not, Bool.not_eq_true', Bool.not_eq_false', Bool.and_eq_true, Bool.or_eq_true, Bool.not_eq_true] at h1)
    refine awp_seq ?_
    refine awpF_region ?_; intro K hK; simp only [push_cast, seval]; (try simp (disch := omega) only [wrapI]); (repeat ((with_reducible refine And.intro ?_ ?_); (focus (exact ob1)))); refine hK _ ?_; clear hK; clear K
    refine awp_ret ?_; (repeat (first | refine then_ret ?_ | refine inblock_ret ?_)); refine fin_of (by simp only [push_cast, seval]; first | done | rfl) ob1 ?_
    have : ¬ a = b := by rintro rfl; simp at h1
    simp [this]
  intro h1; (try simp only [decide_eq_true_eq, decide_eq_false_iff_not, Bool.not_eq_true', Bool.not_eq_false', Bool.and_eq_true, Bool.or_eq_true, Bool.not_eq_true] at h1)
  have hl : a.length = b.length := by simp at h1; omega
  refine awp_skip ?_
  refine awp_seq ?_
  refine awp_seq ?_
  refine awpF_region ?_; intro K hK; simp only [push_cast, seval]; (try simp (disch := omega) only [wrapI]); (repeat ((with_reducible refine And.intro ?_ ?_); (focus (exact ob1)))); refine hK _ ?_; clear hK; clear K
  refine awp_block ?_
  refine awp_loopP (st := fun x : Nat => ⟨[(0, .d (.sl (a.map encP))), (1, .d (.sl (b.map encP))), (5, .d (.int .i64 x))], []⟩) (inv := fun x => x ≤ a.length ∧ ∀ i, i < x → a[i]? = b[i]?) (μ := fun x => a.length - x) (x0 := 0) (r0 := []) ?_ ?_ ?_
  · simp
  · exact ⟨by simp, by simp, by simp [push_cast, seval], by simp [push_cast, seval], by simp [push_cast, seval], by simp [push_cast, seval]⟩
  rintro x ⟨hx1, hx3⟩
  refine awp_seq ?_
  refine awp_seq ?_
  refine awpF_region ?_; intro K hK; simp only [push_cast, seval]; (try simp (disch := omega) only [wrapI]); (repeat ((with_reducible refine And.intro ?_ ?_); (focus (exact ob1)))); refine hK _ ?_; clear hK; clear K
  apply awp_cond; (focus (simp only [push_cast, seval]; rfl))
  · intro h2; (try simp only [decide_eq_true_eq, decide_eq_false_iff_not, Bool.not_eq_true', Bool.not_eq_false', Bool.and_eq_true, Bool.or_eq_true, Bool.not_eq_true] at h2)
    have hlt : x < a.length ∧ x < b.length := by omega
    obtain ⟨p, hp⟩ : ∃ p, a[x]? = some p := ⟨_, List.getElem?_eq_getElem hlt.1⟩
    obtain ⟨q, hq⟩ : ∃ p, b[x]? = some p := ⟨_, List.getElem?_eq_getElem hlt.2⟩
    refine awp_skip ?_
    refine awp_seq ?_
    refine awp_block ?_
    refine awp_seq ?_
    refine awpF_draw [0,1,2,3,4,5,6,7,8] (by kernel_rfl) (by kernel_rfl) rfl ?_; intro K hK; simp only [push_cast, seval, hp, hq, encP]
    (repeat ((with_reducible refine And.intro ?_ ?_); (focus (exact ob1))))
    refine hK _ ?_; clear hK; clear K
    apply awp_cond; (focus (simp only [push_cast, seval]; rfl))
    · intro hc; (try simp only [decide_eq_true_eq, decide_eq_false_iff_not, Bool.not_eq_true', Bool.not_eq_false', Bool.and_eq_true, Bool.or_eq_true, Bool.not_eq_true] at hc)
      refine awp_seq ?_
      refine awpF_region ?_; intro K hK; simp only [push_cast, seval]; (try simp (disch := omega) only [wrapI]); (repeat ((with_reducible refine And.intro ?_ ?_); (focus (exact ob1)))); refine hK _ ?_; clear hK; clear K
      refine awp_ret ?_; (repeat (first | refine then_ret ?_ | refine inblock_ret ?_)); refine fin_of (by simp only [push_cast, seval]; first | done | rfl) ob1 ?_
      have : ¬ a = b := by
        rintro rfl
        rw [hp] at hq
        cases hq
        simp at hc
      simp [this]
    · intro hc; (try simp only [decide_eq_true_eq, decide_eq_false_iff_not, Bool.not_eq_true', Bool.not_eq_false', Bool.and_eq_true, Bool.or_eq_true, Bool.not_eq_true] at hc)
      refine awp_skip ?_
      refine awpF_region ?_; intro K hK; simp only [push_cast, seval]; (try simp (disch := omega) only [wrapI]); (repeat ((with_reducible refine And.intro ?_ ?_); (focus (exact ob1)))); refine hK _ ?_; clear hK; clear K
      refine round_endG (x + 1) [] ⟨?_, ⟨hlt.1, fun i hi => ?_⟩, ?_⟩
      · omega
      · rcases Nat.lt_or_ge i x with h | h
        · exact hx3 i h
        · have : i = x := by omega
          subst this
          rw [hp, hq]
          obtain ⟨p1, p2, p3⟩ := p
          obtain ⟨q1, q2, q3⟩ := q
          simp at hc ⊢
          exact hc
      · exact ⟨by simp, by simp, by simp [push_cast, seval], by simp [push_cast, seval], by simp [push_cast, seval], by simp [push_cast, seval]⟩
  · intro h2; (try simp only [decide_eq_true_eq, decide_eq_false_iff_not, Bool.not_eq_true', Bool.not_eq_false', Bool.and_eq_true, Bool.or_eq_true, Bool.not_eq_true] at h2)
    refine awp_exit ?_; (repeat (first | refine then_exit ?_ | refine inblock_other (by decide) ?_)); refine inblock_same ?_
    refine awp_seq ?_
    refine awpF_region ?_; intro K hK; simp only [push_cast, seval]; (try simp (disch := omega) only [wrapI]); (repeat ((with_reducible refine And.intro ?_ ?_); (focus (exact ob1)))); refine hK _ ?_; clear hK; clear K
    refine awp_ret ?_; (repeat (first | refine then_ret ?_ | refine inblock_ret ?_)); refine fin_of (by simp only [push_cast, seval]; first | done | rfl) ob1 ?_
    have : a = b := by
      apply List.ext_getElem?
      intro i
      rcases Nat.lt_or_ge i x with h' | h'
      · exact hx3 i h'
      · rw [List.getElem?_eq_none (by omega), List.getElem?_eq_none (by omega)]
    simp [this]

theorem p33n (a b : List Nat) (ha : a.length ≤ 1000000000) : PD Tryz.prog 8 [.sl (a.map encN), .sl (b.map encN)] (.d (.bool (a == b))) := by
  have h := p33 (a.map fun (x : Nat) => (x : Int)) (b.map fun (x : Nat) => (x : Int)) (by simpa using ha)
  simp only [List.map_map] at h
  have e : (a.map (fun (x : Nat) => (x : Int)) == b.map (fun (x : Nat) => (x : Int))) = (a == b) := by
    rw [Bool.eq_iff_iff, beq_iff_eq, beq_iff_eq]
    constructor
    · intro h
      exact List.map_inj_right (fun x y hxy => by omega) |>.1 h
    · rintro rfl; rfl
  rw [e] at h
  exact h

theorem p19 (a b : List (List Nat)) (ha : a.length ≤ 1000000) (hg : ∀ g, g ∈ a → g.length ≤ 1000000) : PD Tryz.prog 13 [.sl (a.map encG), .sl (b.map encG)] (.d (.bool (decide (a = b)))) := by
  refine pd_of (fn := Tryz.f13) [.tmp 4] (by kernel_rfl) rfl (by kernel_rfl) (Nat.le_of_ble_eq_true rfl) (by kernel_rfl) rfl rfl ?_
  refine awp_seq ?_
  refine awpF_region ?_; intro K hK; simp only [push_cast, seval]; (try simp (disch := omega) only [wrapI]); (repeat ((with_reducible refine And.intro ?_ ?_); (focus (exact ob1)))); refine hK _ ?_; clear hK; clear K
  refine awp_seq ?_
  refine awp_seq ?_
  refine awpF_region ?_; intro K hK; simp only [push_cast, seval]; (try simp (disch := omega) only [wrapI]); (repeat ((with_reducible refine And.intro ?_ ?_); (focus (exact ob1)))); refine hK _ ?_; clear hK; clear K
  apply awp_cond; (focus (simp only [push_cast, seval]; rfl))
  · intro h1; (try simp only [decide_eq_true_eq, decide_eq_false_iff_not, Bool.not_eq_true', Bool.not_eq_false', Bool.and_eq_true, Bool.or_eq_true, Bool.not_eq_true] at h1)
    refine awp_seq ?_
    refine awpF_region ?_; intro K hK; simp only [push_cast, seval]; (try simp (disch := omega) only [wrapI]); (repeat ((with_reducible refine And.intro ?_ ?_); (focus (exact ob1)))); refine hK _ ?_; clear hK; clear K
    refine awp_ret ?_; (repeat (first | refine then_ret ?_ | refine inblock_ret ?_)); refine fin_of (by simp only [push_cast, seval]; first | done | rfl) ob1 ?_
    have : ¬ a = b := by rintro rfl; simp at h1
    simp [this]
  intro h1; (try simp only [decide_eq_true_eq, decide_eq_false_iff_not, Bool.not_eq_true', Bool.not_eq_false', Bool.and_eq_true, Bool.or_eq_true, Bool.not_eq_true] at h1)
  have hl : a.length = b.length := by simp at h1; omega
  refine awp_skip ?_
  refine awp_seq ?_
  refine awp_seq ?_
  refine awpF_region ?_; intro K hK; simp only [push_cast, seval]; (try simp (disch := omega) only [wrapI]); (repeat ((with_reducible refine And.intro ?_ ?_); (focus (exact ob1)))); refine hK _ ?_; clear hK; clear K
  refine awp_block ?_
  refine awp_loopP (st := fun x : Nat => ⟨[(0, .d (.sl (a.map encG))), (1, .d (.sl (b.map encG))), (5, .d (.int .i64 x))], []⟩) (inv := fun x => x ≤ a.length ∧ ∀ i, i < x → a[i]? = b[i]?) (μ := fun x => a.length - x) (x0 := 0) (r0 := []) ?_ ?_ ?_
  · simp
  · exact ⟨by simp, by simp, by simp [push_cast, seval], by simp [push_cast, seval], by simp [push_cast, seval], by simp [push_cast, seval]⟩
  rintro x ⟨hx1, hx3⟩
  refine awp_seq ?_
  refine awp_seq ?_
  refine awpF_region ?_; intro K hK; simp only [push_cast, seval]; (try simp (disch := omega) only [wrapI]); (repeat ((with_reducible refine And.intro ?_ ?_); (focus (exact ob1)))); refine hK _ ?_; clear hK; clear K
  apply awp_cond; (focus (simp only [push_cast, seval]; rfl))
  · intro h2; (try simp only [decide_eq_true_eq, decide_eq_false_iff_not, Bool.not_eq_true', Bool.not_eq_false', Bool.and_eq_true, Bool.or_eq_true, Bool.not_eq_true] at h2)
    have hlt : x < a.length ∧ x < b.length := by omega
    obtain ⟨p, hp⟩ : ∃ p, a[x]? = some p := ⟨_, List.getElem?_eq_getElem hlt.1⟩
    obtain ⟨q, hq⟩ : ∃ p, b[x]? = some p := ⟨_, List.getElem?_eq_getElem hlt.2⟩
    have h33 := p33n p q (by have := hg p (List.mem_of_getElem? hp); omega)
    refine awp_skip ?_
    refine awp_seq ?_
    refine awp_block ?_
    refine awp_seq ?_
    refine awpF_draw [0,1,2,3,4,5,6,7,8,9] (by kernel_rfl) (by kernel_rfl) rfl ?_; intro K hK; simp only [push_cast, seval, hp, hq, encG]
    (repeat ((with_reducible refine And.intro ?_ ?_); (focus (exact ob1))))
    refine CallK.pd (h33) ?_; simp only [push_cast, seval]; (try simp (disch := omega) only [wrapI]); (repeat ((with_reducible refine And.intro ?_ ?_); (focus (exact ob1))))
    refine hK _ ?_; clear hK; clear K
    apply awp_cond; (focus (simp only [push_cast, seval]; rfl))
    · intro hc; (try simp only [decide_eq_true_eq, decide_eq_false_iff_not, Bool.not_eq_true', Bool.not_eq_false', Bool.and_eq_true, Bool.or_eq_true, Bool.not_eq_true] at hc)
      refine awp_seq ?_
      refine awpF_region ?_; intro K hK; simp only [push_cast, seval]; (try simp (disch := omega) only [wrapI]); (repeat ((with_reducible refine And.intro ?_ ?_); (focus (exact ob1)))); refine hK _ ?_; clear hK; clear K
      refine awp_ret ?_; (repeat (first | refine then_ret ?_ | refine inblock_ret ?_)); refine fin_of (by simp only [push_cast, seval]; first | done | rfl) ob1 ?_
      have : ¬ a = b := by
        rintro rfl
        rw [hp] at hq
        cases hq
        simp at hc
      simp [this]
    · intro hc; (try simp only [decide_eq_true_eq, decide_eq_false_iff_not, Bool.not_eq_true', Bool.not_eq_false', Bool.and_eq_true, Bool.or_eq_true, Bool.not_eq_true] at hc)
      refine awp_skip ?_
      refine awpF_region ?_; intro K hK; simp only [push_cast, seval]; (try simp (disch := omega) only [wrapI]); (repeat ((with_reducible refine And.intro ?_ ?_); (focus (exact ob1)))); refine hK _ ?_; clear hK; clear K
      refine round_endG (x + 1) [] ⟨?_, ⟨hlt.1, fun i hi => ?_⟩, ?_⟩
      · omega
      · rcases Nat.lt_or_ge i x with h | h
        · exact hx3 i h
        · have : i = x := by omega
          subst this
          rw [hp, hq]
          simp at hc ⊢
          exact hc
      · exact ⟨by simp, by simp, by simp [push_cast, seval], by simp [push_cast, seval], by simp [push_cast, seval], by simp [push_cast, seval]⟩
  · intro h2; (try simp only [decide_eq_true_eq, decide_eq_false_iff_not, Bool.not_eq_true', Bool.not_eq_false', Bool.and_eq_true, Bool.or_eq_true, Bool.not_eq_true] at h2)
    refine awp_exit ?_; (repeat (first | refine then_exit ?_ | refine inblock_other (by decide) ?_)); refine inblock_same ?_
    refine awp_seq ?_
    refine awpF_region ?_; intro K hK; simp only [push_cast, seval]; (try simp (disch := omega) only [wrapI]); (repeat ((with_reducible refine And.intro ?_ ?_); (focus (exact ob1)))); refine hK _ ?_; clear hK; clear K
    refine awp_ret ?_; (repeat (first | refine then_ret ?_ | refine inblock_ret ?_)); refine fin_of (by simp only [push_cast, seval]; first | done | rfl) ob1 ?_
    have : a = b := by
      apply List.ext_getElem?
      intro i
      rcases Nat.lt_or_ge i x with h' | h'
      · exact hx3 i h'
      · rw [List.getElem?_eq_none (by omega), List.getElem?_eq_none (by omega)]
    simp [this]

def shown : List Pt := [(0, 0, 0), (300, 400, 5), (2000, 0, 0), (2000, 100, 7), (300, 400, 9)]

theorem p56 : PD Tryz.prog 4 [] (ofD (.sl (shown.map encP))) := by
  refine pdd_of (fn := Tryz.f4) [.tmp 0] (by kernel_rfl) rfl (by kernel_rfl) (Nat.le_of_ble_eq_true rfl) (by kernel_rfl) rfl ?_
  refine awp_seq ?_
  refine awpF_region ?_; intro K hK; simp only [push_cast, seval]; (try simp (disch := omega) only [wrapI]); (repeat ((with_reducible refine And.intro ?_ ?_); (focus (exact ob1)))); refine hK _ ?_; clear hK; clear K
  refine awp_seq ?_
  refine awpF_region ?_; intro K hK; simp only [push_cast, seval]; (try simp (disch := omega) only [wrapI]); (repeat ((with_reducible refine And.intro ?_ ?_); (focus (exact ob1)))); refine hK _ ?_; clear hK; clear K
  refine awp_ret ?_; (repeat (first | refine then_ret ?_ | refine inblock_ret ?_)); refine fin_of (by simp only [push_cast, seval]; first | done | rfl) ob1 ?_
  exact Deep.data (H := [.data 3 (shown.map encP)]) 0 0 5 3 (shown.map encP) rfl (Nat.le_refl _)

end Go.Aw

namespace Go.Aw
set_option linter.unusedSimpArgs false
set_option linter.unusedVariables false
open Go.RowKit Go.Proofs Go.Seg

def IsSegs (ps : List Pt) (gap : Int) (gs : List (List Nat)) : Prop := ∀ f : Nat → Nat, (segErr ps gap = 0 → Lab (near ps gap) ps.length f) → gs = if segErr ps gap = 0 then groups f ps.length else []

theorem p17s {ps : List Pt} {gap : Int} {gs : List (List Nat)} (h : IsSegs ps gap gs) : PD Tryz.prog 12 [.sl (ps.map encP), .int .i64 gap] (.tup [.d (.sl (gs.map encG)), .d (.int .i64 (segErr ps gap))]) :=
  p17 ps gap (.tup [.sl (gs.map encG), .int .i64 (segErr ps gap)]) fun f hf => by
    rw [h f hf]
    split <;> rfl
def f0 (i : Nat) : Nat := [0, 0, 2, 2, 0].getD i i
def nearB (i j : Nat) : Bool := match shown[i]?, shown[j]? with
  | some p, some q => decide (dist2 (ptS p) (ptS q) ≤ 250000)
  | _, _ => false
theorem nearB_of {i j : Nat} (h : near shown 500 i j) : nearB i j = true := by
  obtain ⟨p, q, h1, h2, h3⟩ := h
  simp only [nearB, h1, h2]
  exact decide_eq_true h3
theorem near_of {i j : Nat} (h : nearB i j = true) : near shown 500 i j := by
  unfold nearB at h
  split at h
  · rename_i p q h1 h2
    exact ⟨p, q, h1, h2, of_decide_eq_true h⟩
  · cases h

theorem lab0 : Lab (near shown 500) 5 f0 := by
  refine ⟨by decide, fun i hi => ?_, fun i j hi hj hn => ?_⟩
  · match i, hi with
    | 0, _ => exact .refl 0
    | 1, _ => exact .step (.refl 1) (near_of (by decide))
    | 2, _ => exact .refl 2
    | 3, _ => exact .step (.refl 3) (near_of (by decide))
    | 4, _ => exact .step (.refl 4) (near_of (by decide))
  · have h := nearB_of hn
    have key : ∀ i, i < 5 → ∀ j, j < 5 → nearB i j = true → f0 i = f0 j := by decide
    exact key i hi j hj h

theorem segs_shown : IsSegs shown 500 [[0, 1, 4], [2, 3]] := by
  intro f hf
  have h0 : segErr shown 500 = 0 := by decide
  rw [if_pos h0]
  have h1 := groups_congr (lab0.unique (hf h0) near_lt)
  rw [show shown.length = 5 from rfl, ← h1]
  decide

theorem bnd1000 : isBnd 1000 1413 := by
  rw [isBnd, if_neg (by omega)]
  refine ⟨by omega, by decide, fun y h1 h2 => ?_⟩
  have := sq_mono h1 (show y ≤ 1412 by omega)
  have e : bndN 1000 = 1996002 := by decide
  omega

theorem near_shown : nearL shown 0 0 499 = [0] := by decide

theorem p15 : PD Tryz.prog 5 [] (.d (.bool true)) := by
  have h56 := p56
  have h17 : PD Tryz.prog 12 [.sl (shown.map encP), .int .i64 500] (.tup [.d (.sl [[.sl [[.int .i64 0], [.int .i64 1], [.int .i64 4]]], [.sl [[.int .i64 2], [.int .i64 3]]]]), .d (.int .i64 0)]) := p17s segs_shown
  have h19 : PD Tryz.prog 13 [.sl [[.sl [[.int .i64 0], [.int .i64 1], [.int .i64 4]]], [.sl [[.int .i64 2], [.int .i64 3]]]], .sl [[.sl [[.int .i64 0], [.int .i64 1], [.int .i64 4]]], [.sl [[.int .i64 2], [.int .i64 3]]]]] (.d (.bool true)) :=
    p19 [[0, 1, 4], [2, 3]] [[0, 1, 4], [2, 3]] (by decide) (by decide)
  have h36 : PD Tryz.prog 10 [.sl (shown.map encP), .agg [.int .i64 0, .int .i64 0], .int .i64 499] (.d (.sl [[.int .i64 0]])) := by
    have := p36 shown 0 0 499
    rw [near_shown] at this
    exact this
  have h33 : PD Tryz.prog 8 [.sl [[.int .i64 0]], .sl [[.int .i64 0]]] (.d (.bool true)) := p33n [0] [0] (by decide)
  refine pd_of (fn := Tryz.f5) [.tmp 0] (by kernel_rfl) rfl (by kernel_rfl) (Nat.le_of_ble_eq_true rfl) (by kernel_rfl) rfl rfl ?_
  refine awp_seq ?_
  refine awpF_region ?_; intro K hK; simp only [push_cast, seval]; (try simp (disch := omega) only [wrapI]); (repeat ((with_reducible refine And.intro ?_ ?_); (focus (exact ob1)))); refine hK _ ?_; clear hK; clear K
  refine awp_seq ?_
  refine awpF_region ?_; intro K hK; simp only [push_cast, seval]
  (repeat ((with_reducible refine And.intro ?_ ?_); (focus (exact ob1))))
  refine CallK.pd h56 ?_; simp only [push_cast, seval, ofD]
  (repeat ((with_reducible refine And.intro ?_ ?_); (focus (exact ob1))))
  refine CallK.pd (h17) ?_; simp only [push_cast, seval]; (try simp (disch := omega) only [wrapI]); (repeat ((with_reducible refine And.intro ?_ ?_); (focus (exact ob1))))
  refine hK _ ?_; clear hK; clear K
  refine awp_seq ?_
  refine awpF_region ?_; intro K hK; simp only [push_cast, seval, beq_self_eq_true, cond_true, cond_false]
  (repeat ((with_reducible refine And.intro ?_ ?_); (focus (exact ob1))))
  refine CallK.pd h19 ?_; simp only [push_cast, seval, beq_self_eq_true, cond_true, cond_false]; (repeat ((with_reducible refine And.intro ?_ ?_); (focus (exact ob1))))
  refine CallK.pd (p44 _ _ bnd1000) ?_; simp only [push_cast, seval, beq_self_eq_true, cond_true, cond_false]; (repeat ((with_reducible refine And.intro ?_ ?_); (focus (exact ob1))))
  refine CallK.pd h56 ?_; simp only [push_cast, seval, ofD, beq_self_eq_true, cond_true, cond_false]; (repeat ((with_reducible refine And.intro ?_ ?_); (focus (exact ob1))))
  refine CallK.pd h36 ?_; simp only [push_cast, seval, beq_self_eq_true, cond_true, cond_false]; (repeat ((with_reducible refine And.intro ?_ ?_); (focus (exact ob1))))
  refine CallK.pd h33 ?_; simp only [push_cast, seval, beq_self_eq_true, cond_true, cond_false]; (repeat ((with_reducible refine And.intro ?_ ?_); (focus (exact ob1))))
  refine hK _ ?_; clear hK; clear K
  refine awp_ret ?_; (repeat (first | refine then_ret ?_ | refine inblock_ret ?_)); refine fin_of (by simp only [push_cast, seval]; first | done | rfl) ob1 ?_
  rfl

end Go.Aw
