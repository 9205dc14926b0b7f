/-
  Contracts: the state of a release: who has the new version, whether a state is well formed. Conditions: stages that are not too many.
-/
import Derived.Test.YtmmnjelmahcbaaaGreatPxN30
import Derived.Test.YtmmnjelmahcbaaaGreatPxN31
namespace Go.Aw
set_option linter.unusedSimpArgs false
set_option linter.unusedVariables false
open Go.RowKit Go.Proofs Go.Nt Go.Rl

structure Sta where
  k : Int
  ol : Int
  nw : Int
  ps : List Stg
  ph : Int
  st : Int
  gt : Int
  bd : Int
  al : Int
def encS (s : Sta) : List D := [.int .i64 s.k, .int .i64 s.ol, .int .i64 s.nw, .sl (s.ps.map encG), .int .i64 s.ph, .int .i64 s.st, .int .i64 s.gt, .int .i64 s.bd, .int .i64 s.al]

theorem p84 (s : Sta) (c : Int) : PD Tryz.prog 41 [.agg (encS s), .int .i64 c] (.d (.bool (decide (0 ≤ c) && decide (c < s.k)))) := by
  unfold encS
  refine pd_of (fn := Tryz.f41) [.tmp 4] (by kernel_rfl) rfl (by kernel_rfl) (Nat.le_of_ble_eq_true rfl) (by kernel_rfl) rfl rfl ?_
  refine awp_seq ?_
  refine awpF_region ?_; intro K hK; simp only [push_cast, seval]; (try simp (disch := omega) only [wrapI]); (repeat ((with_reducible refine And.intro ?_ ?_); (focus (exact ob1)))); refine hK _ ?_; clear hK; clear K
  refine awp_seq ?_
  refine awpF_region ?_; intro K hK; simp only [push_cast, seval, bif_and]; (try simp (disch := omega) only [wrapI]); (repeat ((with_reducible refine And.intro ?_ ?_); (focus (exact ob1)))); refine hK _ ?_; clear hK; clear K
  refine awp_ret ?_; (repeat (first | refine then_ret ?_ | refine inblock_ret ?_)); refine fin_of (by simp only [push_cast, seval]; first | done | rfl) ob1 ?_
  rfl
theorem p112 (s : Sta) (c : Int) : PD Tryz.prog 76 [.agg (encS s), .int .i64 c] (.d (.bool true)) := by
  unfold encS
  refine pd_of (fn := Tryz.f76) [.tmp 4] (by kernel_rfl) rfl (by kernel_rfl) (Nat.le_of_ble_eq_true rfl) (by kernel_rfl) rfl rfl ?_
  refine awp_seq ?_
  refine awpF_region ?_; intro K hK; simp only [push_cast, seval]; (try simp (disch := omega) only [wrapI]); (repeat ((with_reducible refine And.intro ?_ ?_); (focus (exact ob1)))); refine hK _ ?_; clear hK; clear K
  refine awp_seq ?_
  refine awpF_region ?_; intro K hK; simp only [push_cast, seval]; (try simp (disch := omega) only [wrapI]); (repeat ((with_reducible refine And.intro ?_ ?_); (focus (exact ob1)))); refine hK _ ?_; clear hK; clear K
  refine awp_ret ?_; (repeat (first | refine then_ret ?_ | refine inblock_ret ?_)); refine fin_of (by simp only [push_cast, seval]; first | done | rfl) ob1 ?_
  rfl
theorem p113 (s : Sta) (c : Int) : PD Tryz.prog 77 [.agg (encS s), .int .i64 c] (.d (.bool false)) := by
  unfold encS
  refine pd_of (fn := Tryz.f77) [.tmp 4] (by kernel_rfl) rfl (by kernel_rfl) (Nat.le_of_ble_eq_true rfl) (by kernel_rfl) rfl rfl ?_
  refine awp_seq ?_
  refine awpF_region ?_; intro K hK; simp only [push_cast, seval]; (try simp (disch := omega) only [wrapI]); (repeat ((with_reducible refine And.intro ?_ ?_); (focus (exact ob1)))); refine hK _ ?_; clear hK; clear K
  refine awp_seq ?_
  refine awpF_region ?_; intro K hK; simp only [push_cast, seval]; (try simp (disch := omega) only [wrapI]); (repeat ((with_reducible refine And.intro ?_ ?_); (focus (exact ob1)))); refine hK _ ?_; clear hK; clear K
  refine awp_ret ?_; (repeat (first | refine then_ret ?_ | refine inblock_ret ?_)); refine fin_of (by simp only [push_cast, seval]; first | done | rfl) ob1 ?_
  rfl
theorem p110 (s : Sta) (c : Int) (t : Nat) (ht : s.st = t) (hl : t < s.ps.length) (hn : s.ps.length ≤ 1000000) : PD Tryz.prog 74 [.agg (encS s), .int .i64 c] (.d (.bool (decide (c ∈ shareD s.nw s.k (s.ps[t]'hl).sh)))) := by
  have h42 := p42 s.nw s.k (s.ps[t]'hl).sh
  have h111 := p111 (shareD s.nw s.k (s.ps[t]'hl).sh) c (shareD_len _ _ _)
  have hq := encG_len s.ps
  have g1 : (s.ps.map encG)[t]? = some (encG (s.ps[t]'hl)) := by rw [List.getElem?_map, List.getElem?_eq_getElem hl]; rfl
  simp only [encG] at g1
  unfold encS
  rw [ht]
  refine pd_of (fn := Tryz.f74) [.tmp 4] (by kernel_rfl) rfl (by kernel_rfl) (Nat.le_of_ble_eq_true rfl) (by kernel_rfl) rfl rfl ?_
  refine awp_seq ?_
  refine awpF_region ?_; intro K hK; simp only [push_cast, seval]; (try simp (disch := omega) only [wrapI]); (repeat ((with_reducible refine And.intro ?_ ?_); (focus (exact ob1)))); refine hK _ ?_; clear hK; clear K
  refine awp_seq ?_
  refine awpF_draw [0,1,2,3,4,5,6,7,8,9,10,12,11,13,14] (by kernel_rfl) (by kernel_rfl) rfl ?_; intro K hK; simp only [push_cast, seval, Int.toNat_natCast, g1]
  repeat (with_reducible refine And.intro ?_ ?_; (focus (first | exact hq | omega)))
  refine CallK.pd (h42) ?_; simp only [push_cast, seval]; (try simp (disch := omega) only [wrapI]); (repeat ((with_reducible refine And.intro ?_ ?_); (focus (exact ob1))))
  refine CallK.pd (h111) ?_; simp only [push_cast, seval]; (try simp (disch := omega) only [wrapI]); (repeat ((with_reducible refine And.intro ?_ ?_); (focus (exact ob1))))
  refine hK _ ?_; clear hK; clear K
  refine awp_ret ?_; (repeat (first | refine then_ret ?_ | refine inblock_ret ?_)); refine fin_of (by simp only [push_cast, seval]; first | done | rfl) ob1 ?_
  rfl

theorem key3 : Maps.Keyed Tryz.prog 3 := Maps.int_keyed (q := .i64) (by kernel_rfl)
theorem kwf3 {x : Int} (h0 : -9223372036854775808 ≤ x) (h1 : x ≤ 9223372036854775807) : kwf Tryz.prog 3 (.d (.int .i64 x)) :=
  ⟨_, _, rfl, Maps.keyOf_int_mk (q := .i64) (by kernel_rfl) (by simp only [Lit.wf, IntKind.min, IntKind.max, IntKind.bits, IntKind.signed]; simp; omega)⟩
def k1 (f : V) : V × V := (.d (.int .i64 1), f)
def k2 (f : V) : V × V := (.d (.int .i64 2), f)
def k3 (f : V) : V × V := (.d (.int .i64 3), f)
theorem mkI : ∀ (xs : List (Int × V)), (∀ p, p ∈ xs → -9223372036854775808 ≤ p.1 ∧ p.1 ≤ 9223372036854775807) → (xs.Pairwise fun p q => p.1 ≠ q.1) → MK Tryz.prog 3 (xs.map fun p => (.d (.int .i64 p.1), p.2)) := by
  intro xs h1 h2
  refine ⟨key3, fun p hp => ?_, ?_⟩
  · obtain ⟨q, hq, rfl⟩ := List.mem_map.1 hp
    exact kwf3 (h1 q hq).1 (h1 q hq).2
  · refine List.pairwise_map.2 (h2.imp fun {p q} h => ?_)
    intro e
    simp only [kcells] at e
    simp at e
    exact h e
theorem mput0 (f : V) : mput [] (.d (.int .i64 1)) f = [(.d (.int .i64 1), f)] := rfl
theorem mput1 (f g : V) : mput [(.d (.int .i64 1), f)] (.d (.int .i64 2)) g = [(.d (.int .i64 1), f), (.d (.int .i64 2), g)] := rfl
theorem mput2 (f g h : V) : mput [(.d (.int .i64 1), f), (.d (.int .i64 2), g)] (.d (.int .i64 3)) h = [(.d (.int .i64 1), f), (.d (.int .i64 2), g), (.d (.int .i64 3), h)] := rfl
theorem mk0 : MK Tryz.prog 3 [] := mkI [] (by simp) (by simp)
theorem mk1 (f : V) : MK Tryz.prog 3 [(.d (.int .i64 1), f)] := mkI [(1, f)] (by simp) (by simp)
theorem mk2 (f g : V) : MK Tryz.prog 3 [(.d (.int .i64 1), f), (.d (.int .i64 2), g)] := mkI [(1, f), (2, g)] (by simp) (by simp)
theorem mk3 (f g h : V) : MK Tryz.prog 3 [(.d (.int .i64 1), f), (.d (.int .i64 2), g), (.d (.int .i64 3), h)] := mkI [(1, f), (2, g), (3, h)] (by simp) (by simp)
theorem p85 : PC Tryz.prog 39 [] fun x H => x = .map 0 ∧ H = [.mp [(.d (.int .i64 1), .d (.fn (.func 74) [])), (.d (.int .i64 2), .d (.fn (.func 76) [])), (.d (.int .i64 3), .d (.fn (.func 77) []))]] := by
  refine pc_of (fn := Tryz.f39) [.tmp 0] (by kernel_rfl) rfl (by kernel_rfl) (Nat.le_of_ble_eq_true rfl) (by kernel_rfl) rfl ?_
  refine awp_seq ?_
  refine awpF_region ?_; intro K hK; simp only [push_cast, seval]; (try simp (disch := omega) only [wrapI]); (repeat ((with_reducible refine And.intro ?_ ?_); (focus (exact ob1)))); refine hK _ ?_; clear hK; clear K
  refine awp_seq ?_
  refine awpF_region ?_; intro K hK; simp only [push_cast, seval, mput0, mput1, mput2]
  refine ⟨mk0, kwf3 (by omega) (by omega), mk1 _, kwf3 (by omega) (by omega), mk2 _ _, kwf3 (by omega) (by omega), ?_⟩
  refine hK _ ?_; clear hK; clear K
  refine awp_ret ?_; (repeat (first | refine then_ret ?_ | refine inblock_ret ?_)); refine fin_of (by simp only [push_cast, seval]; first | done | rfl) ob1 ?_
  exact ⟨rfl, rfl⟩

theorem mfA (f g h : V) : mfind [(.d (.int .i64 1), f), (.d (.int .i64 2), g), (.d (.int .i64 3), h)] (.d (.int .i64 1)) = some 0 := rfl
theorem mfB (f g h : V) : mfind [(.d (.int .i64 1), f), (.d (.int .i64 2), g), (.d (.int .i64 3), h)] (.d (.int .i64 2)) = some 1 := rfl
theorem mfC (f g h : V) : mfind [(.d (.int .i64 1), f), (.d (.int .i64 2), g), (.d (.int .i64 3), h)] (.d (.int .i64 3)) = some 2 := rfl
theorem mfN (f g h : V) {x : Int} (h1 : x ≠ 1) (h2 : x ≠ 2) (h3 : x ≠ 3) : mfind [(.d (.int .i64 1), f), (.d (.int .i64 2), g), (.d (.int .i64 3), h)] (.d (.int .i64 x)) = none := by
  unfold mfind
  simp only [List.findIdx?_cons, List.findIdx?_nil, kcells]
  simp [Ne.symm h1, Ne.symm h2, Ne.symm h3]

def inB (x : Int) : Bool := decide (0 ≤ x) && decide (x ≤ 1000000)
def phB (x : Int) : Bool := decide (x = 1 ∨ x = 2 ∨ x = 3)
def cntB (s : Sta) : Bool := decide (0 ≤ s.st ∧ s.st < s.ps.length ∧ 0 ≤ s.bd ∧ s.bd ≤ s.gt ∧ s.gt ≤ s.al ∧ s.al ≤ 1099511627776)
def leO (s : Sta) : Int := (s.ps[s.st.toNat]?.map Stg.le).getD 0
def chkS (s : Sta) : Int := if decide (1 ≤ s.k ∧ s.k ≤ 64) && (inB s.ol && inB s.nw) then (if s.ol = s.nw then 9 else if stgsC s.ps = 0 then (if phB s.ph then (if cntB s then (if s.gt < leO s ∨ (s.gt = leO s ∧ s.ph ≠ 1) then 0 else 10) else 10) else 4) else stgsC s.ps) else 2

theorem stgs_all {ss : List Stg} (h : stgsC ss = 0) : 2 ≤ ss.length ∧ ss.length ≤ 6 ∧ ss.all stgB = true := by
  unfold stgsC at h
  split at h
  · cases h
  · split at h
    · cases h
    · split at h
      · rename_i h3; exact ⟨by omega, by omega, h3⟩
      · cases h
theorem p50 (s : Sta) (hn : s.ps.length ≤ 1000000) (hp1 : -9223372036854775808 ≤ s.ph) (hp2 : s.ph ≤ 9223372036854775807) : PD Tryz.prog 8 [.agg (encS s)] (.d (.int .i64 (chkS s))) := by
  have h88 := p88
  have h89 := p89 s.ps hn
  have h85 := p85
  have hq := encG_len s.ps
  unfold encS
  refine pd_of (fn := Tryz.f8) [.tmp 2] (by kernel_rfl) rfl (by kernel_rfl) (Nat.le_of_ble_eq_true rfl) (by kernel_rfl) rfl rfl ?_
  refine awp_seq ?_
  refine awpF_region ?_; intro K hK; simp only [push_cast, seval]; (try simp (disch := omega) only [wrapI]); (repeat ((with_reducible refine And.intro ?_ ?_); (focus (exact ob1)))); refine hK _ ?_; clear hK; clear K
  refine awp_seq ?_
  refine awpF_region ?_; intro K hK; simp only [push_cast, seval]; (try simp (disch := omega) only [wrapI]); (repeat ((with_reducible refine And.intro ?_ ?_); (focus (exact ob1)))); refine hK _ ?_; clear hK; clear K
  refine awp_seq ?_
  refine awp_seq ?_
  refine awpF_region ?_; intro K hK; simp only [push_cast, seval, bif_or]
  refine ⟨fun h => by rw [h]; rfl, ?_⟩
  refine CallK.pg (fun _ => h88 s.ol) ?_
  simp only [push_cast, seval, bif_or]
  repeat (refine ⟨fun h => by rw [h]; rfl, ?_⟩)
  refine CallK.pg (fun _ => h88 s.nw) ?_
  simp only [push_cast, seval, bif_or]
  repeat (refine ⟨fun h => by rw [h]; rfl, ?_⟩)
  refine hK _ ?_; clear hK; clear K
  apply awp_cond; (focus (simp only [push_cast, seval]; rfl))
  · intro h1
    have e : (decide (1 ≤ s.k ∧ s.k ≤ 64) && (inB s.ol && inB s.nw)) = false := by
      unfold inB
      rw [Bool.eq_false_iff]
      intro h2
      simp only [Bool.and_eq_true, decide_eq_true_eq, Bool.or_eq_true, Bool.not_eq_true', Bool.and_eq_false_iff, decide_eq_false_iff_not] at h1 h2
      omega
    refine awp_seq ?_
    refine awpF_region ?_; intro K hK; simp only [push_cast, seval]; (try simp (disch := omega) only [wrapI]); (repeat ((with_reducible refine And.intro ?_ ?_); (focus (exact ob1)))); refine hK _ ?_; clear hK; clear K
    refine awp_ret ?_; (repeat (first | refine then_ret ?_ | refine inblock_ret ?_)); refine fin_of (by simp only [push_cast, seval]; first | done | rfl) ob1 ?_
    unfold chkS
    rw [e]
    rfl
  · intro h1
    have e : (decide (1 ≤ s.k ∧ s.k ≤ 64) && (inB s.ol && inB s.nw)) = true := by
      unfold inB
      simp only [Bool.and_eq_true, decide_eq_true_eq, Bool.or_eq_false_iff, Bool.not_eq_false', decide_eq_false_iff_not] at h1 ⊢
      omega
    refine awp_skip ?_
    refine awp_seq ?_
    refine awp_seq ?_
    refine awpF_region ?_; intro K hK; simp only [push_cast, seval]; (try simp (disch := omega) only [wrapI]); (repeat ((with_reducible refine And.intro ?_ ?_); (focus (exact ob1)))); refine hK _ ?_; clear hK; clear K
    apply awp_cond; (focus (simp only [push_cast, seval]; rfl))
    · intro h2; (try simp only [decide_eq_true_eq, decide_eq_false_iff_not, Bool.not_eq_true', Bool.not_eq_false', Bool.and_eq_true, Bool.or_eq_true, Bool.not_eq_true] at h2)
      refine awp_seq ?_
      refine awpF_region ?_; intro K hK; simp only [push_cast, seval]; (try simp (disch := omega) only [wrapI]); (repeat ((with_reducible refine And.intro ?_ ?_); (focus (exact ob1)))); refine hK _ ?_; clear hK; clear K
      refine awp_ret ?_; (repeat (first | refine then_ret ?_ | refine inblock_ret ?_)); refine fin_of (by simp only [push_cast, seval]; first | done | rfl) ob1 ?_
      unfold chkS
      rw [e, if_pos rfl, if_pos (by simpa using h2)]
    · intro h2; (try simp only [decide_eq_true_eq, decide_eq_false_iff_not, Bool.not_eq_true', Bool.not_eq_false', Bool.and_eq_true, Bool.or_eq_true, Bool.not_eq_true] at h2)
      have e2 : ¬ s.ol = s.nw := by simpa using h2
      refine awp_skip ?_
      refine awp_seq ?_
      refine awp_seq ?_
      refine awpF_region ?_; intro K hK; simp only [push_cast, seval]
      refine CallK.pd (h89) ?_; simp only [push_cast, seval]; (try simp (disch := omega) only [wrapI]); (repeat ((with_reducible refine And.intro ?_ ?_); (focus (exact ob1))))
      refine hK _ ?_; clear hK; clear K
      refine awp_seq ?_
      refine awpF_region ?_; intro K hK; simp only [push_cast, seval]; (try simp (disch := omega) only [wrapI]); (repeat ((with_reducible refine And.intro ?_ ?_); (focus (exact ob1)))); refine hK _ ?_; clear hK; clear K
      apply awp_cond; (focus (simp only [push_cast, seval]; rfl))
      · intro h3; (try simp only [decide_eq_true_eq, decide_eq_false_iff_not, Bool.not_eq_true', Bool.not_eq_false', Bool.and_eq_true, Bool.or_eq_true, Bool.not_eq_true] at h3)
        refine awp_seq ?_
        refine awpF_region ?_; intro K hK; simp only [push_cast, seval]; (try simp (disch := omega) only [wrapI]); (repeat ((with_reducible refine And.intro ?_ ?_); (focus (exact ob1)))); refine hK _ ?_; clear hK; clear K
        refine awp_ret ?_; (repeat (first | refine then_ret ?_ | refine inblock_ret ?_)); refine fin_of (by simp only [push_cast, seval]; first | done | rfl) ob1 ?_
        unfold chkS
        rw [e, if_pos rfl, if_neg e2, if_neg (by simpa using h3)]
      · intro h3; (try simp only [decide_eq_true_eq, decide_eq_false_iff_not, Bool.not_eq_true', Bool.not_eq_false', Bool.and_eq_true, Bool.or_eq_true, Bool.not_eq_true] at h3)
        have e3 : stgsC s.ps = 0 := by simpa using h3
        have hc : chkS s = (if phB s.ph then (if cntB s then (if s.gt < leO s ∨ (s.gt = leO s ∧ s.ph ≠ 1) then 0 else 10) else 10) else 4) := by
          unfold chkS
          rw [e, if_pos rfl, if_neg e2, if_pos e3]
        rw [hc]
        clear hc
        refine awp_skip ?_
        have hmk := mk3 (.d (.fn (.func 74) [])) (.d (.fn (.func 76) [])) (.d (.fn (.func 77) []))
        have hkw : kwf Tryz.prog 3 (.d (.int .i64 s.ph)) := kwf3 hp1 hp2
        refine awp_mid (fun u => phB s.ph = true ∧ u = ⟨[(1, .ptr 0 0 0)], [.cells [.d (.int .i64 s.k), .d (.int .i64 s.ol), .d (.int .i64 s.nw), .d (.sl (s.ps.map encG)), .d (.int .i64 s.ph), .d (.int .i64 s.st), .d (.int .i64 s.gt), .d (.int .i64 s.bd), .d (.int .i64 s.al)]]⟩) ?_ ?_
        · have hlook : mfind [(.d (.int .i64 1), .d (.fn (.func 74) [])), (.d (.int .i64 2), .d (.fn (.func 76) [])), (.d (.int .i64 3), .d (.fn (.func 77) []))] (.d (.int .i64 s.ph)) = if phB s.ph then some (s.ph - 1).toNat else none := by
            unfold phB
            by_cases q1 : s.ph = 1
            · rw [q1]; rfl
            · by_cases q2 : s.ph = 2
              · rw [q2]; rfl
              · by_cases q3 : s.ph = 3
                · rw [q3]; rfl
                · rw [mfN _ _ _ q1 q2 q3]; simp [q1, q2, q3]
          refine awp_seq ?_
          refine awpF_draw [1,2,0,3,4,5,6,7,8] (by kernel_rfl) (by kernel_rfl) rfl ?_; intro K hK; simp only [push_cast, seval]
          refine CallK.rel h85 ?_
          intro x' H' hR
          have hx' := hR.1
          have hH' := hR.2
          clear hR
          subst hx'
          subst hH'
          simp only [push_cast, seval, hlook]
          refine ⟨hmk, hkw, ?_⟩
          cases hph : phB s.ph
          · simp only [push_cast, seval]
            refine hK _ ?_; clear hK; clear K
            refine awp_seq ?_
            refine awpF_region ?_; intro K hK; simp only [push_cast, seval]; (try simp (disch := omega) only [wrapI]); (repeat ((with_reducible refine And.intro ?_ ?_); (focus (exact ob1)))); refine hK _ ?_; clear hK; clear K
            apply awp_cond; (focus (simp only [push_cast, seval]; rfl))
            · intro h4; (try simp only [decide_eq_true_eq, decide_eq_false_iff_not, Bool.not_eq_true', Bool.not_eq_false', Bool.and_eq_true, Bool.or_eq_true, Bool.not_eq_true] at h4)
              refine awp_seq ?_
              refine awpF_region ?_; intro K hK; simp only [push_cast, seval]; (try simp (disch := omega) only [wrapI]); (repeat ((with_reducible refine And.intro ?_ ?_); (focus (exact ob1)))); refine hK _ ?_; clear hK; clear K
              refine awp_ret ?_; (repeat (first | refine then_ret ?_ | refine inblock_ret ?_)); refine fin_of (by simp only [push_cast, seval]; first | done | rfl) ob1 ?_
              rw [hph]
              rfl
            · intro h4
              exact absurd h4 (by decide)
          · simp only [push_cast, seval]
            refine hK _ ?_; clear hK; clear K
            refine awp_seq ?_
            refine awpF_region ?_; intro K hK; simp only [push_cast, seval]; (try simp (disch := omega) only [wrapI]); (repeat ((with_reducible refine And.intro ?_ ?_); (focus (exact ob1)))); refine hK _ ?_; clear hK; clear K
            apply awp_cond; (focus (simp only [push_cast, seval]; rfl))
            · intro h4
              exact absurd h4 (by decide)
            · intro h4; (try simp only [decide_eq_true_eq, decide_eq_false_iff_not, Bool.not_eq_true', Bool.not_eq_false', Bool.and_eq_true, Bool.or_eq_true, Bool.not_eq_true] at h4)
              refine awp_skip ?_
              refine mid_end [0] _ ⟨hph, rfl⟩ ?_
              exact ⟨by simp, by simp, by simp [push_cast, seval], by simp [push_cast, seval], by simp [push_cast, seval], by simp [push_cast, seval]⟩
        · rintro _ ⟨hph, rfl⟩
          rw [if_pos hph]
          refine awp_seq ?_
          refine awp_seq ?_
          refine awpF_region ?_; intro K hK; simp only [push_cast, seval, bif_or]
          repeat (refine ⟨fun h => by rw [h]; rfl, ?_⟩)
          refine hK _ ?_; clear hK; clear K
          apply awp_cond; (focus (simp only [push_cast, seval]; rfl))
          · intro h4
            have hcn : cntB s = false := by
              unfold cntB
              rw [decide_eq_false_iff_not]
              simp only [Bool.or_eq_true, decide_eq_true_eq] at h4
              omega
            refine awp_seq ?_
            refine awpF_region ?_; intro K hK; simp only [push_cast, seval]; (try simp (disch := omega) only [wrapI]); (repeat ((with_reducible refine And.intro ?_ ?_); (focus (exact ob1)))); refine hK _ ?_; clear hK; clear K
            refine awp_ret ?_; (repeat (first | refine then_ret ?_ | refine inblock_ret ?_)); refine fin_of (by simp only [push_cast, seval]; first | done | rfl) ob1 ?_
            rw [hcn]
            rfl
          · intro h4
            simp only [Bool.or_eq_false_iff, decide_eq_false_iff_not] at h4
            have hcn : cntB s = true := by
              unfold cntB
              rw [decide_eq_true_eq]
              omega
            obtain ⟨t, ht⟩ : ∃ t : Nat, s.st = t := ⟨s.st.toNat, by omega⟩
            have htl : t < s.ps.length := by omega
            have hle : leO s = (s.ps[t]'htl).le := by
              unfold leO
              rw [show s.st.toNat = t by omega, List.getElem?_eq_getElem htl]
              rfl
            have hsg := List.all_eq_true.1 (stgs_all e3).2.2 _ (List.getElem_mem htl)
            unfold stgB at hsg
            simp only [Bool.and_eq_true, decide_eq_true_eq] at hsg
            have g1 : (s.ps.map encG)[t]? = some (encG (s.ps[t]'htl)) := by rw [List.getElem?_map, List.getElem?_eq_getElem htl]; rfl
            simp only [encG] at g1
            rw [hcn, if_pos rfl, hle]
            generalize (s.ps[t]'htl).le = le at g1 hsg
            have hw : IntKind.i64.wrap (le - s.gt) = le - s.gt := wrapI _ (by omega)
            have htz : s.st.toNat = t := by omega
            refine awp_skip ?_
            refine awp_seq ?_
            refine awpF_draw [0,1,2,3,4,5,6,7,8,9,10] (by kernel_rfl) (by kernel_rfl) rfl ?_; intro K hK; simp only [push_cast, seval, htz, g1, hw]
            repeat (with_reducible refine And.intro ?_ ?_; (focus (first | exact hq | omega)))
            refine hK _ ?_; clear hK; clear K
            refine awp_seq ?_
            refine awp_seq ?_
            refine awpF_region ?_; intro K hK; simp only [push_cast, seval, bif_or, bif_and]
            refine ⟨fun h => ⟨h, fun h2 => by rw [h, h2]; rfl⟩, fun h => by rw [h]; rfl, ?_⟩
            refine hK _ ?_; clear hK; clear K
            apply awp_cond; (focus (simp only [push_cast, seval]; rfl))
            · intro h5
              have hne : ¬ (s.gt < le ∨ (s.gt = le ∧ s.ph ≠ 1)) := by
                simp only [Bool.or_eq_true, Bool.and_eq_true, decide_eq_true_eq, beq_iff_eq] at h5
                omega
              refine awp_seq ?_
              refine awpF_region ?_; intro K hK; simp only [push_cast, seval]; (try simp (disch := omega) only [wrapI]); (repeat ((with_reducible refine And.intro ?_ ?_); (focus (exact ob1)))); refine hK _ ?_; clear hK; clear K
              refine awp_ret ?_; (repeat (first | refine then_ret ?_ | refine inblock_ret ?_)); refine fin_of (by simp only [push_cast, seval]; first | done | rfl) ob1 ?_
              rw [if_neg hne]
            · intro h5
              have hne : s.gt < le ∨ (s.gt = le ∧ s.ph ≠ 1) := by
                simp only [Bool.or_eq_false_iff, Bool.and_eq_false_iff, decide_eq_false_iff_not, beq_eq_false_iff_ne] at h5
                omega
              refine awp_skip ?_
              refine awp_seq ?_
              refine awpF_region ?_; intro K hK; simp only [push_cast, seval]; (try simp (disch := omega) only [wrapI]); (repeat ((with_reducible refine And.intro ?_ ?_); (focus (exact ob1)))); refine hK _ ?_; clear hK; clear K
              refine awp_ret ?_; (repeat (first | refine then_ret ?_ | refine inblock_ret ?_)); refine fin_of (by simp only [push_cast, seval]; first | done | rfl) ob1 ?_
              rw [if_pos hne]
end Go.Aw
