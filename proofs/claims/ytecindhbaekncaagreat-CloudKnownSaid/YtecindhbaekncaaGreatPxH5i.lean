/-
  Contracts of Inside, on both sides. Conditions: lengths that fit.
-/
import Derived.Test.YtecindhbaekncaaGreatPxH5
namespace Go.Aw
set_option linter.unusedSimpArgs false
set_option linter.unusedVariables false
open Go.RowKit Go.Proofs Go.Rg

theorem spEq (a b : Sp) : (a.1 == b.1 && a.2 == b.2) = decide (a = b) := by
  rw [Bool.eq_iff_iff, decide_eq_true_eq, Bool.and_eq_true, beq_iff_eq, beq_iff_eq]
  exact ⟨fun h => Prod.ext h.1 h.2, fun h => by rw [h]; exact ⟨rfl, rfl⟩⟩
theorem blk_one {a p : Sp} (ha : fairS a = true) (hp : fairS p = true) : blkV a a p p = decide (a = p) := by
  have s1 : ∀ x, sideV a a x = 0 := fun x => by
    unfold sideV
    split
    · have : cr a a x = 0 := by unfold cr; grind
      rw [this]
      rfl
    · rfl
  have s2 : ∀ x, sideV p p x = 0 := fun x => by
    unfold sideV
    split
    · have : cr p p x = 0 := by unfold cr; grind
      rw [this]
      rfl
    · rfl
  have b1 : btwV a a p = decide (a = p) := by
    rw [Bool.eq_iff_iff]
    simp only [btwV, Bool.and_eq_true, decide_eq_true_eq]
    constructor
    · intro h
      exact Prod.ext (by omega) (by omega)
    · rintro rfl
      omega
  have b2 : btwV p p a = decide (a = p) := by
    rw [Bool.eq_iff_iff]
    simp only [btwV, Bool.and_eq_true, decide_eq_true_eq]
    constructor
    · intro h
      exact Prod.ext (by omega) (by omega)
    · rintro rfl
      omega
  simp only [blkV, ha, hp, s1, s2, b1, b2, Bool.and_self, Bool.true_and, Bool.or_self, beq_self_eq_true]
  simp
def edgesTo (h : List Sp) (p : Sp) (k : Nat) : Bool := (List.range k).all fun i => decide (0 ≤ sideV (atS h i) (atS h ((i + 1) % h.length)) p)
theorem edges_succ (h : List Sp) (p : Sp) (k : Nat) : edgesTo h p (k + 1) = (edgesTo h p k && decide (0 ≤ sideV (atS h k) (atS h ((k + 1) % h.length)) p)) := by
  simp only [edgesTo, List.range_succ, List.all_append, List.all_cons, List.all_nil, Bool.and_true]
theorem edges_false {h : List Sp} {p : Sp} {k : Nat} (hk : k < h.length) (hf : sideV (atS h k) (atS h ((k + 1) % h.length)) p < 0) : edgesTo h p h.length = false := by
  rw [edgesTo, List.all_eq_false]
  exact ⟨k, List.mem_range.2 hk, by simp; omega⟩

theorem p54 (h : List Sp) (p : Sp) (hn : h.length ≤ 1000000) : PD Tryz.prog 20 [.sl (h.map encS), .agg (encS p)] (.d (.bool (insV h p))) := by
  have h93 := p93 h hn
  have hq : ∀ row, row ∈ h.map encS → row.length = 2 := fun row hr => by obtain ⟨_, _, rfl⟩ := List.mem_map.1 hr; rfl
  have h96 := p96 (atS h 0) (atS h 1) p p
  have h97 := fun a b => p97 a b p
  simp only [encS] at h96 h97 ⊢
  refine pd_of (fn := Tryz.f20) [.tmp 4] (by kernel_rfl) rfl (by kernel_rfl) (Nat.le_of_ble_eq_true rfl) (by kernel_rfl) rfl rfl ?_
  refine awp_seq ?_
  refine awpF_region ?_; intro K hK; simp only [push_cast, seval]; (try simp (disch := omega) only [wrapI]); (repeat ((with_reducible refine And.intro ?_ ?_); (focus (exact ob1)))); refine hK _ ?_; clear hK; clear K
  refine awp_seq ?_
  refine awp_seq ?_
  refine awpF_region ?_; intro K hK; simp only [push_cast, seval]
  (repeat ((with_reducible refine And.intro ?_ ?_); (focus (exact ob1))))
  refine CallK.pg (fun _ => h93) ?_; simp only [push_cast, seval]; (try simp (disch := omega) only [wrapI]); (repeat ((with_reducible refine And.intro ?_ ?_); (focus (exact ob1))))
  refine CallK.pg (fun _ => p63 _ _) ?_; simp only [push_cast, seval]; (try simp (disch := omega) only [wrapI]); (repeat ((with_reducible refine And.intro ?_ ?_); (focus (exact ob1))))
  refine hK _ ?_; clear hK; clear K
  apply awp_cond; (focus (simp only [push_cast, seval]; rfl))
  · intro h1; (try simp only [decide_eq_true_eq, decide_eq_false_iff_not, Bool.not_eq_true', Bool.not_eq_false', Bool.and_eq_true, Bool.or_eq_true, Bool.not_eq_true] at h1)
    refine awp_seq ?_
    refine awpF_region ?_; intro K hK; simp only [push_cast, seval]; (try simp (disch := omega) only [wrapI]); (repeat ((with_reducible refine And.intro ?_ ?_); (focus (exact ob1)))); refine hK _ ?_; clear hK; clear K
    refine awp_ret ?_; (repeat (first | refine then_ret ?_ | refine inblock_ret ?_)); refine fin_of (by simp only [push_cast, seval]; first | done | rfl) ob1 ?_
    have : insV h p = false := by
      cases h with
      | nil => rfl
      | cons a t =>
        have e : (((a :: t).length : Int) == 0) = false := by simp; omega
        rw [e] at h1
        unfold insV fairS
        cases hc : cornersV (a :: t) with
        | false => simp
        | true =>
          rw [hc] at h1
          have h1 : fair p.1 p.2 = false := by simpa using h1
          simp [h1]
    rw [this]
  intro h1; (try simp only [decide_eq_true_eq, decide_eq_false_iff_not, Bool.not_eq_true', Bool.not_eq_false', Bool.and_eq_true, Bool.or_eq_true, Bool.not_eq_true] at h1)
  have e : h ≠ [] ∧ cornersV h = true ∧ fairS p = true := by
    cases h with
    | nil => simp at h1
    | cons a t =>
      have e : (((a :: t).length : Int) == 0) = false := by simp; omega
      rw [e] at h1
      cases hc : cornersV (a :: t) with
      | false => rw [hc] at h1; cases h1
      | true =>
        rw [hc] at h1
        refine ⟨by simp, rfl, ?_⟩
        unfold fairS
        simpa using h1
  clear h1
  obtain ⟨e0, e1, e2⟩ := e
  obtain ⟨hl, hf⟩ := corners_fair e1
  have hpos : 0 < h.length := List.length_pos_iff.2 e0
  have hv : insV h p = if h.length ≤ 2 then blkV (atS h 0) (atS h (h.length - 1)) p p else edgesTo h p h.length := by
    have e3 : h.isEmpty = false := by simpa using e0
    simp only [insV, e1, e2, e3, Bool.not_false, Bool.true_and, edgesTo]
  rw [hv]
  have g0 := get_at hpos
  have hf0 := atS_fair hf 0 hpos
  refine awp_skip ?_
  refine awp_seq ?_
  refine awp_seq ?_
  refine awpF_region ?_; intro K hK; simp only [push_cast, seval]; (try simp (disch := omega) only [wrapI]); (repeat ((with_reducible refine And.intro ?_ ?_); (focus (exact ob1)))); refine hK _ ?_; clear hK; clear K
  refine awp_block ?_
  refine awp_seq ?_
  refine awpF_region ?_; intro K hK; simp only [push_cast, seval]; (try simp (disch := omega) only [wrapI]); (repeat ((with_reducible refine And.intro ?_ ?_); (focus (exact ob1)))); refine hK _ ?_; clear hK; clear K
  apply awp_cond; (focus (simp only [push_cast, seval]; rfl))
  · intro h1; (try simp only [decide_eq_true_eq, decide_eq_false_iff_not, Bool.not_eq_true', Bool.not_eq_false', Bool.and_eq_true, Bool.or_eq_true, Bool.not_eq_true] at h1)
    have h1' : h.length = 1 := by simp at h1; omega
    rw [h1', if_pos (by decide), Nat.sub_self, blk_one hf0 e2, ← spEq]
    refine awp_seq ?_
    refine awpF_draw [0,1,2,3,4,5] (by kernel_rfl) (by kernel_rfl) rfl ?_; intro K hK; simp only [push_cast, seval, g0, Int.toNat_zero]
    refine ⟨by omega, hq, ?_⟩
    refine hK _ ?_; clear hK; clear K
    refine awp_ret ?_; (repeat (first | refine then_ret ?_ | refine inblock_ret ?_)); refine fin_of (by simp only [push_cast, seval]; first | done | rfl) ob1 ?_
    rfl
  intro h1; (try simp only [decide_eq_true_eq, decide_eq_false_iff_not, Bool.not_eq_true', Bool.not_eq_false', Bool.and_eq_true, Bool.or_eq_true, Bool.not_eq_true] at h1)
  have h1' : ¬ h.length = 1 := fun h' => by simp [h'] at h1
  refine awp_seq ?_
  refine awpF_region ?_; intro K hK; simp only [push_cast, seval]; (try simp (disch := omega) only [wrapI]); (repeat ((with_reducible refine And.intro ?_ ?_); (focus (exact ob1)))); refine hK _ ?_; clear hK; clear K
  apply awp_cond; (focus (simp only [push_cast, seval]; rfl))
  · intro h2; (try simp only [decide_eq_true_eq, decide_eq_false_iff_not, Bool.not_eq_true', Bool.not_eq_false', Bool.and_eq_true, Bool.or_eq_true, Bool.not_eq_true] at h2)
    have h2' : h.length = 2 := by simp at h2; omega
    have g1 := get_at (h := h) (i := 1) (by omega)
    rw [h2', if_pos (by decide)]
    refine awp_seq ?_
    refine awpF_draw [0,1,2,3,4,5,6,7,8,9] (by kernel_rfl) (by kernel_rfl) rfl ?_; intro K hK; simp only [push_cast, seval, g0, g1, Int.toNat_zero, Int.toNat_one]
    refine ⟨by omega, hq, by omega, hq, ?_⟩
    refine CallK.pd (h96) ?_; simp only [push_cast, seval]; (try simp (disch := omega) only [wrapI]); (repeat ((with_reducible refine And.intro ?_ ?_); (focus (exact ob1))))
    refine hK _ ?_; clear hK; clear K
    refine awp_ret ?_; (repeat (first | refine then_ret ?_ | refine inblock_ret ?_)); refine fin_of (by simp only [push_cast, seval]; first | done | rfl) ob1 ?_
    rfl
  intro h2; (try simp only [decide_eq_true_eq, decide_eq_false_iff_not, Bool.not_eq_true', Bool.not_eq_false', Bool.and_eq_true, Bool.or_eq_true, Bool.not_eq_true] at h2)
  have h2' : ¬ h.length = 2 := fun h' => by simp [h'] at h2
  rw [if_neg (by omega)]
  refine awp_skip ?_
  refine inblock_norm ?_
  refine awp_seq ?_
  refine awp_seq ?_
  refine awpF_region ?_; intro K hK; simp only [push_cast, seval]; (try simp (disch := omega) only [wrapI]); (repeat ((with_reducible refine And.intro ?_ ?_); (focus (exact ob1)))); refine hK _ ?_; clear hK; clear K
  refine awp_block ?_
  refine awp_loopP (st := fun (k : Nat) => ⟨[(0, .d (.sl (h.map encS))), (3, .ptr 0 0 0), (40, .d (.sl (h.map encS))), (41, .d (.int .i64 h.length)), (42, .d (.int .i64 k))], [.cells [.d (.int .i64 p.1), .d (.int .i64 p.2)]]⟩)
    (inv := fun k => k ≤ h.length ∧ edgesTo h p k = true) (μ := fun k => h.length - k) (x0 := 0) (r0 := [0]) ?_ ?_ ?_
  · exact ⟨Nat.zero_le _, rfl⟩
  · exact ⟨by simp, by simp, by simp [push_cast, seval], by simp [push_cast, seval], by simp [push_cast, seval], by simp [push_cast, seval]⟩
  rintro k ⟨hk, hed⟩
  refine awp_seq ?_
  refine awpF_region ?_; intro K hK; simp only [push_cast, seval]; (try simp (disch := omega) only [wrapI]); (repeat ((with_reducible refine And.intro ?_ ?_); (focus (exact ob1)))); refine hK _ ?_; clear hK; clear K
  refine awp_seq ?_
  apply awp_cond; (focus (simp only [push_cast, seval]; rfl))
  · intro h3; (try simp only [decide_eq_true_eq, decide_eq_false_iff_not, Bool.not_eq_true', Bool.not_eq_false', Bool.and_eq_true, Bool.or_eq_true, Bool.not_eq_true] at h3)
    have hlt : k < h.length := by omega
    have hlt2 : (k + 1) % h.length < h.length := Nat.mod_lt _ (by omega)
    have k1 := get_at hlt
    have k2 := get_at hlt2
    have hs := edges_succ h p k
    have hfl := edges_false (p := p) hlt
    have hsd := sideV_bd (atS h k) (atS h ((k + 1) % h.length)) p
    have h97' := h97 (atS h k) (atS h ((k + 1) % h.length))
    have htm := tmod_nat k h.length
    have hw1 : IntKind.i64.wrap ((k : Int) + 1) = k + 1 := wrapI _ (by omega)
    generalize sideV (atS h k) (atS h ((k + 1) % h.length)) p = sd at *
    generalize hj : (k + 1) % h.length = j at *
    generalize atS h k = a at *
    generalize atS h j = b at *
    refine awp_skip ?_
    refine awp_seq ?_
    refine awp_block ?_
    refine awp_seq ?_
    refine awpF_region ?_; intro K hK; simp only [push_cast, seval, k1]; (try simp (disch := omega) only [wrapI]); (repeat ((with_reducible refine And.intro ?_ ?_); (focus (exact ob1)))); refine hK _ ?_; clear hK; clear K
    refine awp_seq ?_
    refine awpF_draw [0,1,2,3,4,5,6,7,8,9,10,11] (by kernel_rfl) (by kernel_rfl) rfl ?_; intro K hK; simp only [push_cast, seval, k2, hw1, htm, Int.toNat_natCast]
    refine ⟨by omega, by omega, by omega, hq, ?_⟩
    refine CallK.pd (h97') ?_; simp only [push_cast, seval]; (try simp (disch := omega) only [wrapI]); (repeat ((with_reducible refine And.intro ?_ ?_); (focus (exact ob1))))
    refine hK _ ?_; clear hK; clear K
    apply awp_cond; (focus (simp only [push_cast, seval]; rfl))
    · intro h4; (try simp only [decide_eq_true_eq, decide_eq_false_iff_not, Bool.not_eq_true', Bool.not_eq_false', Bool.and_eq_true, Bool.or_eq_true, Bool.not_eq_true] at h4)
      refine awp_seq ?_
      refine awpF_region ?_; intro K hK; simp only [push_cast, seval]; (try simp (disch := omega) only [wrapI]); (repeat ((with_reducible refine And.intro ?_ ?_); (focus (exact ob1)))); refine hK _ ?_; clear hK; clear K
      refine awp_ret ?_; (repeat (first | refine then_ret ?_ | refine inblock_ret ?_)); refine fin_of (by simp only [push_cast, seval]; first | done | rfl) ob1 ?_
      rw [hfl (by simpa using h4)]
    · intro h4; (try simp only [decide_eq_true_eq, decide_eq_false_iff_not, Bool.not_eq_true', Bool.not_eq_false', Bool.and_eq_true, Bool.or_eq_true, Bool.not_eq_true] at h4)
      have h4' : 0 ≤ sd := by simpa using h4
      refine awp_skip ?_
      refine inblock_norm ?_
      refine awpF_region ?_; intro K hK; simp only [push_cast, seval]; (try simp (disch := omega) only [wrapI]); (repeat ((with_reducible refine And.intro ?_ ?_); (focus (exact ob1)))); refine hK _ ?_; clear hK; clear K
      refine round_endG (k + 1) [0] ⟨by omega, ⟨by omega, ?_⟩, ?_⟩
      · rw [hs, hed, decide_eq_true h4']
        rfl
      · exact ⟨by simp, by simp, by simp [push_cast, seval], by simp [push_cast, seval], by simp [push_cast, seval], by simp [push_cast, seval]⟩
  · intro h3; (try simp only [decide_eq_true_eq, decide_eq_false_iff_not, Bool.not_eq_true', Bool.not_eq_false', Bool.and_eq_true, Bool.or_eq_true, Bool.not_eq_true] at h3)
    obtain rfl : k = h.length := by omega
    refine awp_exit ?_; (repeat (first | refine then_exit ?_ | refine inblock_other (by decide) ?_)); refine inblock_same ?_
    refine awp_seq ?_
    refine awpF_region ?_; intro K hK; simp only [push_cast, seval]; (try simp (disch := omega) only [wrapI]); (repeat ((with_reducible refine And.intro ?_ ?_); (focus (exact ob1)))); refine hK _ ?_; clear hK; clear K
    refine awp_ret ?_; (repeat (first | refine then_ret ?_ | refine inblock_ret ?_)); refine fin_of (by simp only [push_cast, seval]; first | done | rfl) ob1 ?_
    rw [hed]
end Go.Aw
