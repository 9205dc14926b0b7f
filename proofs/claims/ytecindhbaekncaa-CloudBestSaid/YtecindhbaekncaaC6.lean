/-
  Contract of the reference's Segments. Conditions: none (a cloud that is not valid is refused).
-/
import Derived.Test.YtecindhbaekncaaC5
namespace Go.Aw
set_option linter.unusedSimpArgs false
set_option linter.unusedVariables false
open Go.RowKit Go.Proofs Go.Seg

theorem inblock_norm {id : Nat} {Q : Exit → St → Prop} {s : St} (h : Q .normal s) : InBlock id Q .normal s := h

theorem sum_set : ∀ {l : List Nat} {i x y : Nat}, l[i]? = some y → x < y → (l.set i x).sum < l.sum
  | [], i, x, y, h, _ => by simp at h
  | a :: l, 0, x, y, h, hx => by simp at h; subst h; simp; omega
  | a :: l, i + 1, x, y, h, hx => by
    have := sum_set (l := l) (i := i) (x := x) (y := y) (by simpa using h) hx
    simp; omega

theorem check_fair {ps : List Pt} (h : check ps = 0) {i : Nat} {p : Pt} (hp : ps[i]? = some p) : fair p.1 p.2.1 = true := by
  unfold check at h
  split at h
  · cases h
  · split at h
    · rename_i hall
      have := List.all_eq_true.1 hall p (List.mem_of_getElem? hp)
      simp only [okP, Bool.and_eq_true] at this
      exact this.1
    · cases h

/-- What a row of labels keeps. -/
structure Lbl (near : Nat → Nat → Prop) (n : Nat) (up : List Nat) : Prop where
  len : up.length = n
  ok : ∀ i x, up[i]? = some x → x ≤ i ∧ Conn near i x

theorem Lbl.set {near : Nat → Nat → Prop} {n : Nat} {up : List Nat} (h : Lbl near n up) {i k x y : Nat} (hi : up[i]? = some y) (hk : up[k]? = some x) (hlt : x < y) (hn : near i k) : Lbl near n (up.set i x) := by
  refine ⟨by simp [h.len], fun j z hj => ?_⟩
  rw [List.getElem?_set] at hj
  split at hj
  · rename_i hij
    subst hij
    split at hj
    · simp at hj; subst hj
      have h1 := h.ok i y hi
      have h2 := h.ok k x hk
      exact ⟨by omega, Conn.trans (.step (.refl _) hn) h2.2⟩
    · cases hj
  · exact h.ok j z hj

theorem Lbl.start (near : Nat → Nat → Prop) (n : Nat) : Lbl near n (List.range n) := by
  refine ⟨by simp, fun i x hx => ?_⟩
  rw [List.getElem?_eq_some_iff] at hx
  obtain ⟨h, hx⟩ := hx
  simp at hx
  subst hx
  exact ⟨Nat.le_refl _, .refl _⟩

theorem Lbl.lab {near : Nat → Nat → Prop} (hs : ∀ i j, near i j → near j i) {n : Nat} {up : List Nat} (h : Lbl near n up) (hf : ∀ i k x y, up[i]? = some y → up[k]? = some x → near i k → ¬ x < y) : Lab near n (fun i => up.getD i i) := by
  have get : ∀ i, i < n → up[i]? = some (up.getD i i) := fun i hi => by
    have : i < up.length := by rw [h.len]; exact hi
    simp [List.getD_eq_getElem?_getD, List.getElem?_eq_getElem this]
  refine ⟨fun i hi => (h.ok i _ (get i hi)).1, fun i hi => (h.ok i _ (get i hi)).2, fun i j hi hj hn => ?_⟩
  have h1 := hf i j _ _ (get i hi) (get j hj) hn
  have h2 := hf j i _ _ (get j hj) (get i hi) (hs _ _ hn)
  show up.getD i i = up.getD j j
  omega

/-- The groups whose first points are below i. -/
def partR (f : Nat → Nat) (n i : Nat) : List (List Nat) := (roots f i).map fun r => (List.range n).filter fun k => f k == r
def encG (g : List Nat) : List D := [.sl (g.map encN)]
/-- A group, as it grows. -/
def grow (f : Nat → Nat) (i k : Nat) : List Nat := (List.range k).filter fun j => f j == i

theorem p18 (ps : List Pt) (gap : Int) (d0 : D)
    (hd0 : ∀ (f : Nat → Nat), (segErr ps gap = 0 → Lab (near ps gap) ps.length f) → d0 = .tup [.sl (if segErr ps gap = 0 then (groups f ps.length).map fun g => [.sl (g.map encN)] else []), .int .i64 (segErr ps gap)]) :
    PD Try.prog 18 [.sl (ps.map encP), .int .i64 gap] (ofD d0) := by
  refine pdd_of (fn := Try.f18) [.tmp 4, .tmp 5] (by kernel_rfl) rfl (by kernel_rfl) (Nat.le_of_ble_eq_true rfl) (by kernel_rfl) rfl ?_
  refine awp_seq ?_
  refine awpF_region ?_; intro K hK; simp only [push_cast, seval]; (try simp (disch := omega) only [wrapI]); (repeat ((with_reducible refine And.intro ?_ ?_); (focus (first | trivial | assumption | omega | (intro _ hrow; obtain ⟨_, _, rfl⟩ := List.mem_map.1 hrow; rfl) | ((intros; repeat' apply And.intro) <;> first | trivial | assumption | omega | (intro _ hrow; obtain ⟨_, _, rfl⟩ := List.mem_map.1 hrow; rfl) | (simp_all; done) | (simp_all; omega)))))); refine hK _ ?_; clear hK; clear K
  refine awp_seq ?_
  refine awp_seq ?_
  refine awpF_region ?_; intro K hK; simp only [push_cast, seval]
  (repeat ((with_reducible refine And.intro ?_ ?_); (focus (first | trivial | assumption | omega | (intro _ hrow; obtain ⟨_, _, rfl⟩ := List.mem_map.1 hrow; rfl) | ((intros; repeat' apply And.intro) <;> first | trivial | assumption | omega | (intro _ hrow; obtain ⟨_, _, rfl⟩ := List.mem_map.1 hrow; rfl) | (simp_all; done) | (simp_all; omega))))))
  refine CallK.pd (p26 _) ?_; simp only [push_cast, seval]; (try simp (disch := omega) only [wrapI]); (repeat ((with_reducible refine And.intro ?_ ?_); (focus (first | trivial | assumption | omega | (intro _ hrow; obtain ⟨_, _, rfl⟩ := List.mem_map.1 hrow; rfl) | ((intros; repeat' apply And.intro) <;> first | trivial | assumption | omega | (intro _ hrow; obtain ⟨_, _, rfl⟩ := List.mem_map.1 hrow; rfl) | (simp_all; done) | (simp_all; omega))))))
  refine hK _ ?_; clear hK; clear K
  refine awp_seq ?_
  refine awpF_region ?_; intro K hK; simp only [push_cast, seval]; (try simp (disch := omega) only [wrapI]); (repeat ((with_reducible refine And.intro ?_ ?_); (focus (first | trivial | assumption | omega | (intro _ hrow; obtain ⟨_, _, rfl⟩ := List.mem_map.1 hrow; rfl) | ((intros; repeat' apply And.intro) <;> first | trivial | assumption | omega | (intro _ hrow; obtain ⟨_, _, rfl⟩ := List.mem_map.1 hrow; rfl) | (simp_all; done) | (simp_all; omega)))))); refine hK _ ?_; clear hK; clear K
  apply awp_cond; (focus (simp only [push_cast, seval]; rfl))
  · intro hc; (try simp only [decide_eq_true_eq, decide_eq_false_iff_not, Bool.not_eq_true', Bool.not_eq_false', Bool.and_eq_true, Bool.or_eq_true, Bool.not_eq_true] at hc)
    have hc' : check ps ≠ 0 := by simpa using hc
    refine awp_seq ?_
    refine awpF_region ?_; intro K hK; simp only [push_cast, seval]; (try simp (disch := omega) only [wrapI]); (repeat ((with_reducible refine And.intro ?_ ?_); (focus (first | trivial | assumption | omega | (intro _ hrow; obtain ⟨_, _, rfl⟩ := List.mem_map.1 hrow; rfl) | ((intros; repeat' apply And.intro) <;> first | trivial | assumption | omega | (intro _ hrow; obtain ⟨_, _, rfl⟩ := List.mem_map.1 hrow; rfl) | (simp_all; done) | (simp_all; omega)))))); refine hK _ ?_; clear hK; clear K
    refine awp_ret ?_; (repeat (first | refine then_ret ?_ | refine inblock_ret ?_)); refine fin_of (by simp only [push_cast, seval]; first | done | rfl) (by first | trivial | first | trivial | assumption | omega | (intro _ hrow; obtain ⟨_, _, rfl⟩ := List.mem_map.1 hrow; rfl) | ((intros; repeat' apply And.intro) <;> first | trivial | assumption | omega | (intro _ hrow; obtain ⟨_, _, rfl⟩ := List.mem_map.1 hrow; rfl) | (simp_all; done) | (simp_all; omega))) ?_
    have he : segErr ps gap = check ps := by simp [segErr, hc']
    rw [hd0 id (fun h => absurd (he.symm.trans h) hc'), he, if_neg hc']
    exact deep_tup2 .nil (.d _)
  intro hc; (try simp only [decide_eq_true_eq, decide_eq_false_iff_not, Bool.not_eq_true', Bool.not_eq_false', Bool.and_eq_true, Bool.or_eq_true, Bool.not_eq_true] at hc)
  have hc' : check ps = 0 := by simpa using hc
  refine awp_skip ?_
  refine awp_seq ?_
  refine awp_seq ?_
  refine awpF_region ?_; intro K hK; simp only [push_cast, seval]; (try simp (disch := omega) only [wrapI]); (repeat ((with_reducible refine And.intro ?_ ?_); (focus (first | trivial | assumption | omega | (intro _ hrow; obtain ⟨_, _, rfl⟩ := List.mem_map.1 hrow; rfl) | ((intros; repeat' apply And.intro) <;> first | trivial | assumption | omega | (intro _ hrow; obtain ⟨_, _, rfl⟩ := List.mem_map.1 hrow; rfl) | (simp_all; done) | (simp_all; omega)))))); refine hK _ ?_; clear hK; clear K
  apply awp_cond; (focus (simp only [push_cast, seval]; rfl))
  · intro hg; (try simp only [decide_eq_true_eq, decide_eq_false_iff_not, Bool.not_eq_true', Bool.not_eq_false', Bool.and_eq_true, Bool.or_eq_true, Bool.not_eq_true] at hg)
    have hg' : gap < 0 ∨ gap > 33554432 := by simp at hg; omega
    refine awp_seq ?_
    refine awpF_region ?_; intro K hK; simp only [push_cast, seval]; (try simp (disch := omega) only [wrapI]); (repeat ((with_reducible refine And.intro ?_ ?_); (focus (first | trivial | assumption | omega | (intro _ hrow; obtain ⟨_, _, rfl⟩ := List.mem_map.1 hrow; rfl) | ((intros; repeat' apply And.intro) <;> first | trivial | assumption | omega | (intro _ hrow; obtain ⟨_, _, rfl⟩ := List.mem_map.1 hrow; rfl) | (simp_all; done) | (simp_all; omega)))))); refine hK _ ?_; clear hK; clear K
    refine awp_ret ?_; (repeat (first | refine then_ret ?_ | refine inblock_ret ?_)); refine fin_of (by simp only [push_cast, seval]; first | done | rfl) (by first | trivial | first | trivial | assumption | omega | (intro _ hrow; obtain ⟨_, _, rfl⟩ := List.mem_map.1 hrow; rfl) | ((intros; repeat' apply And.intro) <;> first | trivial | assumption | omega | (intro _ hrow; obtain ⟨_, _, rfl⟩ := List.mem_map.1 hrow; rfl) | (simp_all; done) | (simp_all; omega))) ?_
    have he : segErr ps gap = 2 := by simp [segErr, hc', hg']
    rw [hd0 id (fun h => by rw [he] at h; cases h), he, if_neg (by decide)]
    exact deep_tup2 .nil (.d _)
  intro hg; (try simp only [decide_eq_true_eq, decide_eq_false_iff_not, Bool.not_eq_true', Bool.not_eq_false', Bool.and_eq_true, Bool.or_eq_true, Bool.not_eq_true] at hg)
  have hg2 : 0 ≤ gap ∧ gap ≤ 33554432 := by simp at hg; omega
  have hseg : segErr ps gap = 0 := by simp [segErr, hc']; omega
  have hn : ps.length ≤ 1000 := by
    simp [check] at hc
    split at hc <;> omega
  have hsee : ∀ i k p q, ps[i]? = some p → ps[k]? = some q → (sees (p.1, p.2.1) (q.1, q.2.1) gap = true ↔ near ps gap i k) := fun i k p q hp hq => by
    have f1 := check_fair hc' hp
    have f2 := check_fair hc' hq
    simp only [sees, f1, f2, Bool.true_and, decide_eq_true hg2.1, decide_eq_true hg2.2, decide_eq_true_eq]
    constructor
    · intro h; exact ⟨p, q, hp, hq, h⟩
    · rintro ⟨p', q', h1, h2, h3⟩
      rw [hp] at h1; rw [hq] at h2
      cases h1; cases h2
      exact h3
  refine awp_skip ?_
  refine awp_seq ?_
  refine awpF_region ?_; intro K hK; simp only [push_cast, seval]
  (repeat ((with_reducible refine And.intro ?_ ?_); (focus (first | trivial | assumption | omega | (intro _ hrow; obtain ⟨_, _, rfl⟩ := List.mem_map.1 hrow; rfl) | ((intros; repeat' apply And.intro) <;> first | trivial | assumption | omega | (intro _ hrow; obtain ⟨_, _, rfl⟩ := List.mem_map.1 hrow; rfl) | (simp_all; done) | (simp_all; omega))))))
  refine hK _ ?_; clear hK; clear K
  rw [← fillN_zero]
  refine awp_seq ?_
  refine awp_seq ?_
  refine awpF_region ?_; intro K hK; simp only [push_cast, seval]; (try simp (disch := omega) only [wrapI]); (repeat ((with_reducible refine And.intro ?_ ?_); (focus (first | trivial | assumption | omega | (intro _ hrow; obtain ⟨_, _, rfl⟩ := List.mem_map.1 hrow; rfl) | ((intros; repeat' apply And.intro) <;> first | trivial | assumption | omega | (intro _ hrow; obtain ⟨_, _, rfl⟩ := List.mem_map.1 hrow; rfl) | (simp_all; done) | (simp_all; omega)))))); refine hK _ ?_; clear hK; clear K
  refine awp_block ?_
  refine awp_loopP (st := fun x : Nat => ⟨[(0, .d (.sl (ps.map encP))), (1, .d (.int .i64 gap)), (7, .ref 0 0 ps.length), (8, .d (.int .i64 x))], [.data 1 (fillN ps.length x)]⟩) (inv := fun x => x ≤ ps.length) (μ := fun x => ps.length - x) (x0 := 0) (r0 := [0]) ?_ ?_ ?_
  · simp
  · exact ⟨by simp, by simp, by simp [push_cast, seval], by simp [push_cast, seval], by simp [push_cast, seval], by simp [push_cast, seval]⟩
  intro x hx
  refine awp_seq ?_
  refine awp_seq ?_
  refine awpF_region ?_; intro K hK; simp only [push_cast, seval]; (try simp (disch := omega) only [wrapI]); (repeat ((with_reducible refine And.intro ?_ ?_); (focus (first | trivial | assumption | omega | (intro _ hrow; obtain ⟨_, _, rfl⟩ := List.mem_map.1 hrow; rfl) | ((intros; repeat' apply And.intro) <;> first | trivial | assumption | omega | (intro _ hrow; obtain ⟨_, _, rfl⟩ := List.mem_map.1 hrow; rfl) | (simp_all; done) | (simp_all; omega)))))); refine hK _ ?_; clear hK; clear K
  apply awp_cond; (focus (simp only [push_cast, seval]; rfl))
  · intro h1; (try simp only [decide_eq_true_eq, decide_eq_false_iff_not, Bool.not_eq_true', Bool.not_eq_false', Bool.and_eq_true, Bool.or_eq_true, Bool.not_eq_true] at h1)
    have hlt : x < ps.length := by omega
    refine awp_skip ?_
    refine awp_seq ?_
    refine awp_block ?_
    refine awpF_region ?_; intro K hK; simp only [push_cast, seval]
    (repeat ((with_reducible refine And.intro ?_ ?_); (focus (first | trivial | assumption | omega | (intro _ hrow; obtain ⟨_, _, rfl⟩ := List.mem_map.1 hrow; rfl) | ((intros; repeat' apply And.intro) <;> first | trivial | assumption | omega | (intro _ hrow; obtain ⟨_, _, rfl⟩ := List.mem_map.1 hrow; rfl) | (simp_all; done) | (simp_all; omega))))))
    refine hK _ ?_; clear hK; clear K
    rw [fillN_set hlt]
    refine awpF_region ?_; intro K hK; simp only [push_cast, seval]; (try simp (disch := omega) only [wrapI]); (repeat ((with_reducible refine And.intro ?_ ?_); (focus (first | trivial | assumption | omega | (intro _ hrow; obtain ⟨_, _, rfl⟩ := List.mem_map.1 hrow; rfl) | ((intros; repeat' apply And.intro) <;> first | trivial | assumption | omega | (intro _ hrow; obtain ⟨_, _, rfl⟩ := List.mem_map.1 hrow; rfl) | (simp_all; done) | (simp_all; omega)))))); refine hK _ ?_; clear hK; clear K
    refine round_end (y := x + 1) (r := [0]) (by omega) hlt ?_
    exact ⟨by simp, by simp, by simp [push_cast, seval], by simp [push_cast, seval], by simp [push_cast, seval], by simp [push_cast, seval]⟩
  intro h1; (try simp only [decide_eq_true_eq, decide_eq_false_iff_not, Bool.not_eq_true', Bool.not_eq_false', Bool.and_eq_true, Bool.or_eq_true, Bool.not_eq_true] at h1)
  have hxe : x = ps.length := by omega
  subst hxe
  rw [fillN_end]
  refine awp_exit ?_; (repeat (first | refine then_exit ?_ | refine inblock_other (by decide) ?_)); refine inblock_same ?_
  refine awp_seq ?_
  refine awp_seq ?_
  refine awpF_region ?_; intro K hK; simp only [push_cast, seval]; (try simp (disch := omega) only [wrapI]); (repeat ((with_reducible refine And.intro ?_ ?_); (focus (first | trivial | assumption | omega | (intro _ hrow; obtain ⟨_, _, rfl⟩ := List.mem_map.1 hrow; rfl) | ((intros; repeat' apply And.intro) <;> first | trivial | assumption | omega | (intro _ hrow; obtain ⟨_, _, rfl⟩ := List.mem_map.1 hrow; rfl) | (simp_all; done) | (simp_all; omega)))))); refine hK _ ?_; clear hK; clear K
  refine awp_block ?_
  refine awp_loopP (st := fun (x : Bool × List Nat) => ⟨[(0, .d (.sl (ps.map encP))), (1, .d (.int .i64 gap)), (7, .ref 0 0 ps.length), (9, .d (.bool x.1))], [.data 1 (x.2.map encN)]⟩)
    (inv := fun x => Lbl (near ps gap) ps.length x.2 ∧ (x.1 = false → ∀ i k a b, x.2[i]? = some b → x.2[k]? = some a → near ps gap i k → ¬ a < b))
    (μ := fun x => 2 * x.2.sum + (if x.1 then 1 else 0)) (x0 := (true, List.range ps.length)) (r0 := [0]) ?_ ?_ ?_
  · exact ⟨.start _ _, fun h => by cases h⟩
  · exact ⟨by simp, by simp, by simp [push_cast, seval], by simp [push_cast, seval], by simp [push_cast, seval], by simp [push_cast, seval]⟩
  rintro ⟨c, up⟩ ⟨hl, hfx⟩
  dsimp only at hl hfx ⊢
  refine awp_seq ?_
  refine awp_seq ?_
  refine awpF_region ?_; intro K hK; simp only [push_cast, seval]; (try simp (disch := omega) only [wrapI]); (repeat ((with_reducible refine And.intro ?_ ?_); (focus (first | trivial | assumption | omega | (intro _ hrow; obtain ⟨_, _, rfl⟩ := List.mem_map.1 hrow; rfl) | ((intros; repeat' apply And.intro) <;> first | trivial | assumption | omega | (intro _ hrow; obtain ⟨_, _, rfl⟩ := List.mem_map.1 hrow; rfl) | (simp_all; done) | (simp_all; omega)))))); refine hK _ ?_; clear hK; clear K
  apply awp_cond; (focus (simp only [push_cast, seval]; rfl))
  · intro h2; (try simp only [decide_eq_true_eq, decide_eq_false_iff_not, Bool.not_eq_true', Bool.not_eq_false', Bool.and_eq_true, Bool.or_eq_true, Bool.not_eq_true] at h2)
    subst h2
    clear hfx
    refine awp_skip ?_
    refine awp_block ?_
    refine awp_seq ?_
    refine awpF_region ?_; intro K hK; simp only [push_cast, seval]; (try simp (disch := omega) only [wrapI]); (repeat ((with_reducible refine And.intro ?_ ?_); (focus (first | trivial | assumption | omega | (intro _ hrow; obtain ⟨_, _, rfl⟩ := List.mem_map.1 hrow; rfl) | ((intros; repeat' apply And.intro) <;> first | trivial | assumption | omega | (intro _ hrow; obtain ⟨_, _, rfl⟩ := List.mem_map.1 hrow; rfl) | (simp_all; done) | (simp_all; omega)))))); refine hK _ ?_; clear hK; clear K
    refine awp_seq ?_
    refine awpF_region ?_; intro K hK; simp only [push_cast, seval]; (try simp (disch := omega) only [wrapI]); (repeat ((with_reducible refine And.intro ?_ ?_); (focus (first | trivial | assumption | omega | (intro _ hrow; obtain ⟨_, _, rfl⟩ := List.mem_map.1 hrow; rfl) | ((intros; repeat' apply And.intro) <;> first | trivial | assumption | omega | (intro _ hrow; obtain ⟨_, _, rfl⟩ := List.mem_map.1 hrow; rfl) | (simp_all; done) | (simp_all; omega)))))); refine hK _ ?_; clear hK; clear K
    refine awp_block ?_
    refine awp_loopP (st := fun (x : Nat × Bool × List Nat) => ⟨[(0, .d (.sl (ps.map encP))), (1, .d (.int .i64 gap)), (7, .ref 0 0 ps.length), (9, .d (.bool x.2.1)), (10, .d (.int .i64 x.1))], [.data 1 (x.2.2.map encN)]⟩)
      (inv := fun x => x.1 ≤ ps.length ∧ Lbl (near ps gap) ps.length x.2.2 ∧ (x.2.1 = true → x.2.2.sum < up.sum) ∧ (x.2.1 = false → x.2.2 = up ∧ ∀ i k a b, i < x.1 → up[i]? = some b → up[k]? = some a → near ps gap i k → ¬ a < b))
      (μ := fun x => ps.length - x.1) (x0 := (0, false, up)) (r0 := [0]) ?_ ?_ ?_
    · dsimp only
      exact ⟨Nat.zero_le _, hl, (fun h => by cases h), fun _ => ⟨rfl, fun i k a b h => by omega⟩⟩
    · exact ⟨by simp, by simp, by simp [push_cast, seval], by simp [push_cast, seval], by simp [push_cast, seval], by simp [push_cast, seval]⟩
    rintro ⟨i, c, u⟩ ⟨hi, hlu, hct, hcf⟩
    dsimp only at hi hlu hct hcf ⊢
    refine awp_seq ?_
    refine awp_seq ?_
    refine awpF_region ?_; intro K hK; simp only [push_cast, seval]; (try simp (disch := omega) only [wrapI]); (repeat ((with_reducible refine And.intro ?_ ?_); (focus (first | trivial | assumption | omega | (intro _ hrow; obtain ⟨_, _, rfl⟩ := List.mem_map.1 hrow; rfl) | ((intros; repeat' apply And.intro) <;> first | trivial | assumption | omega | (intro _ hrow; obtain ⟨_, _, rfl⟩ := List.mem_map.1 hrow; rfl) | (simp_all; done) | (simp_all; omega)))))); refine hK _ ?_; clear hK; clear K
    apply awp_cond; (focus (simp only [push_cast, seval]; rfl))
    · intro h3; (try simp only [decide_eq_true_eq, decide_eq_false_iff_not, Bool.not_eq_true', Bool.not_eq_false', Bool.and_eq_true, Bool.or_eq_true, Bool.not_eq_true] at h3)
      have hlt : i < ps.length := by omega
      refine awp_skip ?_
      refine awp_seq ?_
      refine awp_block ?_
      refine awp_seq ?_
      refine awpF_region ?_; intro K hK; simp only [push_cast, seval]; (try simp (disch := omega) only [wrapI]); (repeat ((with_reducible refine And.intro ?_ ?_); (focus (first | trivial | assumption | omega | (intro _ hrow; obtain ⟨_, _, rfl⟩ := List.mem_map.1 hrow; rfl) | ((intros; repeat' apply And.intro) <;> first | trivial | assumption | omega | (intro _ hrow; obtain ⟨_, _, rfl⟩ := List.mem_map.1 hrow; rfl) | (simp_all; done) | (simp_all; omega)))))); refine hK _ ?_; clear hK; clear K
      refine awp_block ?_
      refine awp_loopP (st := fun (x : Nat × Bool × List Nat) => ⟨[(0, .d (.sl (ps.map encP))), (1, .d (.int .i64 gap)), (7, .ref 0 0 ps.length), (9, .d (.bool x.2.1)), (10, .d (.int .i64 i)), (11, .d (.int .i64 x.1))], [.data 1 (x.2.2.map encN)]⟩)
        (inv := fun x => x.1 ≤ ps.length ∧ Lbl (near ps gap) ps.length x.2.2 ∧ (x.2.1 = true → x.2.2.sum < up.sum) ∧ (x.2.1 = false → x.2.2 = up ∧ ∀ a k y z, (a < i ∨ a = i ∧ k < x.1) → up[a]? = some z → up[k]? = some y → near ps gap a k → ¬ y < z))
        (μ := fun x => ps.length - x.1) (x0 := (0, c, u)) (r0 := [0]) ?_ ?_ ?_
      · exact ⟨Nat.zero_le _, hlu, hct, fun h => ⟨(hcf h).1, fun a k y z hh => (hcf h).2 a k y z (by dsimp only at hh; omega)⟩⟩
      · exact ⟨by simp, by simp, by simp [push_cast, seval], by simp [push_cast, seval], by simp [push_cast, seval], by simp [push_cast, seval]⟩
      clear hlu hct hcf
      clear u c
      rintro ⟨k, c, u⟩ ⟨hk, hlu, hct, hcf⟩
      dsimp only at hk hlu hct hcf ⊢
      refine awp_seq ?_
      refine awp_seq ?_
      refine awpF_region ?_; intro K hK; simp only [push_cast, seval]; (try simp (disch := omega) only [wrapI]); (repeat ((with_reducible refine And.intro ?_ ?_); (focus (first | trivial | assumption | omega | (intro _ hrow; obtain ⟨_, _, rfl⟩ := List.mem_map.1 hrow; rfl) | ((intros; repeat' apply And.intro) <;> first | trivial | assumption | omega | (intro _ hrow; obtain ⟨_, _, rfl⟩ := List.mem_map.1 hrow; rfl) | (simp_all; done) | (simp_all; omega)))))); refine hK _ ?_; clear hK; clear K
      apply awp_cond; (focus (simp only [push_cast, seval]; rfl))
      · intro h4; (try simp only [decide_eq_true_eq, decide_eq_false_iff_not, Bool.not_eq_true', Bool.not_eq_false', Bool.and_eq_true, Bool.or_eq_true, Bool.not_eq_true] at h4)
        have hklt : k < ps.length := by omega
        obtain ⟨p, hp⟩ : ∃ p, ps[i]? = some p := ⟨_, List.getElem?_eq_getElem hlt⟩
        obtain ⟨q, hq⟩ : ∃ q, ps[k]? = some q := ⟨_, List.getElem?_eq_getElem hklt⟩
        obtain ⟨y, hy⟩ : ∃ y, u[i]? = some y := ⟨_, List.getElem?_eq_getElem (by rw [hlu.len]; exact hlt)⟩
        obtain ⟨z, hz⟩ : ∃ z, u[k]? = some z := ⟨_, List.getElem?_eq_getElem (by rw [hlu.len]; exact hklt)⟩
        refine awp_skip ?_
        refine awp_seq ?_
        refine awp_block ?_
        refine awp_seq ?_
        refine awpF_draw [0,1,2,3,4,5,6,7,8,9,10,11,12,13,15,16,17,18,20,14,19,21,22] (by kernel_rfl) (by kernel_rfl) rfl ?_; intro K hK; simp only [push_cast, seval, hp, hq, hy, hz, encP, encN]
        (repeat ((with_reducible refine And.intro ?_ ?_); (focus (first | trivial | assumption | omega | (intro _ hrow; obtain ⟨_, _, rfl⟩ := List.mem_map.1 hrow; rfl) | ((intros; repeat' apply And.intro) <;> first | trivial | assumption | omega | (intro _ hrow; obtain ⟨_, _, rfl⟩ := List.mem_map.1 hrow; rfl) | (simp_all; done) | (simp_all; omega))))))
        refine CallK.pg (fun _ => p61 _ _ _) ?_; simp only [push_cast, seval]; (try simp (disch := omega) only [wrapI]); (repeat ((with_reducible refine And.intro ?_ ?_); (focus (first | trivial | assumption | omega | (intro _ hrow; obtain ⟨_, _, rfl⟩ := List.mem_map.1 hrow; rfl) | ((intros; repeat' apply And.intro) <;> first | trivial | assumption | omega | (intro _ hrow; obtain ⟨_, _, rfl⟩ := List.mem_map.1 hrow; rfl) | (simp_all; done) | (simp_all; omega))))))
        refine CallK.pg (fun _ => p61 _ _ _) ?_; simp only [push_cast, seval]; (try simp (disch := omega) only [wrapI]); (repeat ((with_reducible refine And.intro ?_ ?_); (focus (first | trivial | assumption | omega | (intro _ hrow; obtain ⟨_, _, rfl⟩ := List.mem_map.1 hrow; rfl) | ((intros; repeat' apply And.intro) <;> first | trivial | assumption | omega | (intro _ hrow; obtain ⟨_, _, rfl⟩ := List.mem_map.1 hrow; rfl) | (simp_all; done) | (simp_all; omega))))))
        refine CallK.pg (fun _ => p60 _ _ _ _ _) ?_; simp only [push_cast, seval]; (try simp (disch := omega) only [wrapI]); (repeat ((with_reducible refine And.intro ?_ ?_); (focus (first | trivial | assumption | omega | (intro _ hrow; obtain ⟨_, _, rfl⟩ := List.mem_map.1 hrow; rfl) | ((intros; repeat' apply And.intro) <;> first | trivial | assumption | omega | (intro _ hrow; obtain ⟨_, _, rfl⟩ := List.mem_map.1 hrow; rfl) | (simp_all; done) | (simp_all; omega))))))
        refine hK _ ?_; clear hK; clear K
        apply awp_cond; (focus (simp only [push_cast, seval]; rfl))
        · intro h5; (try simp only [decide_eq_true_eq, decide_eq_false_iff_not, Bool.not_eq_true', Bool.not_eq_false', Bool.and_eq_true, Bool.or_eq_true, Bool.not_eq_true] at h5)
          have h5' : z < y ∧ sees (p.1, p.2.1) (q.1, q.2.1) gap = true := by simp at h5; omega
          have hne := (hsee i k p q hp hq).1 h5'.2
          refine awp_seq ?_
          refine awpF_region ?_; intro K hK; simp only [push_cast, seval, hz, encN]
          (repeat ((with_reducible refine And.intro ?_ ?_); (focus (first | trivial | assumption | omega | (intro _ hrow; obtain ⟨_, _, rfl⟩ := List.mem_map.1 hrow; rfl) | ((intros; repeat' apply And.intro) <;> first | trivial | assumption | omega | (intro _ hrow; obtain ⟨_, _, rfl⟩ := List.mem_map.1 hrow; rfl) | (simp_all; done) | (simp_all; omega))))))
          refine hK _ ?_; clear hK; clear K
          have hmap : (List.map encN u).set i [D.int IntKind.i64 z] = (u.set i z).map encN := by rw [List.map_set]; rfl
          rw [hmap]
          refine awpF_region ?_; intro K hK; simp only [push_cast, seval]; (try simp (disch := omega) only [wrapI]); (repeat ((with_reducible refine And.intro ?_ ?_); (focus (first | trivial | assumption | omega | (intro _ hrow; obtain ⟨_, _, rfl⟩ := List.mem_map.1 hrow; rfl) | ((intros; repeat' apply And.intro) <;> first | trivial | assumption | omega | (intro _ hrow; obtain ⟨_, _, rfl⟩ := List.mem_map.1 hrow; rfl) | (simp_all; done) | (simp_all; omega)))))); refine hK _ ?_; clear hK; clear K
          refine awpF_region ?_; intro K hK; simp only [push_cast, seval]; (try simp (disch := omega) only [wrapI]); (repeat ((with_reducible refine And.intro ?_ ?_); (focus (first | trivial | assumption | omega | (intro _ hrow; obtain ⟨_, _, rfl⟩ := List.mem_map.1 hrow; rfl) | ((intros; repeat' apply And.intro) <;> first | trivial | assumption | omega | (intro _ hrow; obtain ⟨_, _, rfl⟩ := List.mem_map.1 hrow; rfl) | (simp_all; done) | (simp_all; omega)))))); refine hK _ ?_; clear hK; clear K
          refine round_endG (k + 1, true, u.set i z) [0] ⟨?_, ⟨hklt, hlu.set hy hz h5'.1 hne, fun _ => ?_, fun h => by cases h⟩, ?_⟩
          · dsimp only; omega
          · have h6 := sum_set hy h5'.1
            cases c with
            | true => have := hct rfl; dsimp only; omega
            | false => have := (hcf rfl).1; subst this; exact h6
          · exact ⟨by simp, by simp, by simp [push_cast, seval], by simp [push_cast, seval], by simp [push_cast, seval], by simp [push_cast, seval]⟩
        · intro h5; (try simp only [decide_eq_true_eq, decide_eq_false_iff_not, Bool.not_eq_true', Bool.not_eq_false', Bool.and_eq_true, Bool.or_eq_true, Bool.not_eq_true] at h5)
          refine awp_skip ?_
          refine awpF_region ?_; intro K hK; simp only [push_cast, seval]; (try simp (disch := omega) only [wrapI]); (repeat ((with_reducible refine And.intro ?_ ?_); (focus (first | trivial | assumption | omega | (intro _ hrow; obtain ⟨_, _, rfl⟩ := List.mem_map.1 hrow; rfl) | ((intros; repeat' apply And.intro) <;> first | trivial | assumption | omega | (intro _ hrow; obtain ⟨_, _, rfl⟩ := List.mem_map.1 hrow; rfl) | (simp_all; done) | (simp_all; omega)))))); refine hK _ ?_; clear hK; clear K
          refine round_endG (k + 1, c, u) [0] ⟨?_, ⟨hklt, hlu, hct, fun h => ⟨(hcf h).1, fun a k' y' z' hh h1 h2 hnr => ?_⟩⟩, ?_⟩
          · dsimp only; omega
          · dsimp only at hh
            by_cases hak : a = i ∧ k' = k
            · obtain ⟨rfl, rfl⟩ := hak
              have hu := (hcf h).1
              subst hu
              rw [hy] at h1
              rw [hz] at h2
              cases h1
              cases h2
              have := (hsee a k' p q hp hq).2 hnr
              intro hlt'
              simp [this, hlt'] at h5
            · exact (hcf h).2 a k' y' z' (by omega) h1 h2 hnr
          · exact ⟨by simp, by simp, by simp [push_cast, seval], by simp [push_cast, seval], by simp [push_cast, seval], by simp [push_cast, seval]⟩
      · intro h4; (try simp only [decide_eq_true_eq, decide_eq_false_iff_not, Bool.not_eq_true', Bool.not_eq_false', Bool.and_eq_true, Bool.or_eq_true, Bool.not_eq_true] at h4)
        have hke : k = ps.length := by omega
        subst hke
        refine awp_exit ?_; (repeat (first | refine then_exit ?_ | refine inblock_other (by decide) ?_)); refine inblock_same ?_
        refine awpF_region ?_; intro K hK; simp only [push_cast, seval]; (try simp (disch := omega) only [wrapI]); (repeat ((with_reducible refine And.intro ?_ ?_); (focus (first | trivial | assumption | omega | (intro _ hrow; obtain ⟨_, _, rfl⟩ := List.mem_map.1 hrow; rfl) | ((intros; repeat' apply And.intro) <;> first | trivial | assumption | omega | (intro _ hrow; obtain ⟨_, _, rfl⟩ := List.mem_map.1 hrow; rfl) | (simp_all; done) | (simp_all; omega)))))); refine hK _ ?_; clear hK; clear K
        refine round_endG (i + 1, c, u) [0] ⟨?_, ?_, ?_⟩
        · dsimp only; omega
        · dsimp only
          refine ⟨hlt, hlu, hct, fun h => ⟨(hcf h).1, fun a k y z hh h1 h2 hnr => ?_⟩⟩
          refine (hcf h).2 a k y z ?_ h1 h2 hnr
          have := (near_lt a k hnr).2
          omega
        · exact ⟨by simp, by simp, by simp [push_cast, seval], by simp [push_cast, seval], by simp [push_cast, seval], by simp [push_cast, seval]⟩
    · intro h3; (try simp only [decide_eq_true_eq, decide_eq_false_iff_not, Bool.not_eq_true', Bool.not_eq_false', Bool.and_eq_true, Bool.or_eq_true, Bool.not_eq_true] at h3)
      have hie : i = ps.length := by omega
      subst hie
      refine awp_exit ?_; (repeat (first | refine then_exit ?_ | refine inblock_other (by decide) ?_)); refine inblock_same ?_
      refine inblock_norm ?_
      refine round_endG (c, u) [0] ⟨?_, ⟨hlu, fun h => ?_⟩, ?_⟩
      · dsimp only
        cases c with
        | true => have := hct rfl; simp; omega
        | false => have := (hcf rfl).1; subst this; simp
      · obtain ⟨rfl, hh⟩ := hcf h
        exact fun i k a b h1 h2 h3 => hh i k a b (near_lt i k h3).1 h1 h2 h3
      · exact ⟨by simp, by simp, by simp [push_cast, seval], by simp [push_cast, seval], by simp [push_cast, seval], by simp [push_cast, seval]⟩
  intro h2; (try simp only [decide_eq_true_eq, decide_eq_false_iff_not, Bool.not_eq_true', Bool.not_eq_false', Bool.and_eq_true, Bool.or_eq_true, Bool.not_eq_true] at h2)
  subst h2
  have hlab := hl.lab near_symm (hfx rfl)
  have hf := hd0 _ fun _ => hlab
  rw [if_pos hseg, hseg] at hf
  have hget : ∀ k, k < ps.length → up[k]? = some (up.getD k k) := fun k hk => by
    have : k < up.length := by rw [hl.len]; exact hk
    simp [List.getD_eq_getElem?_getD, List.getElem?_eq_getElem this]
  have hidem := hlab.idem near_lt
  have hle := hlab.le
  clear hd0 hfx
  refine awp_exit ?_; (repeat (first | refine then_exit ?_ | refine inblock_other (by decide) ?_)); refine inblock_same ?_
  refine awp_seq ?_
  refine awpF_region ?_; intro K hK; simp only [push_cast, seval]; (try simp (disch := omega) only [wrapI]); (repeat ((with_reducible refine And.intro ?_ ?_); (focus (first | trivial | assumption | omega | (intro _ hrow; obtain ⟨_, _, rfl⟩ := List.mem_map.1 hrow; rfl) | ((intros; repeat' apply And.intro) <;> first | trivial | assumption | omega | (intro _ hrow; obtain ⟨_, _, rfl⟩ := List.mem_map.1 hrow; rfl) | (simp_all; done) | (simp_all; omega)))))); refine hK _ ?_; clear hK; clear K
  refine awp_seq ?_
  refine awp_seq ?_
  refine awpF_region ?_; intro K hK; simp only [push_cast, seval]; (try simp (disch := omega) only [wrapI]); (repeat ((with_reducible refine And.intro ?_ ?_); (focus (first | trivial | assumption | omega | (intro _ hrow; obtain ⟨_, _, rfl⟩ := List.mem_map.1 hrow; rfl) | ((intros; repeat' apply And.intro) <;> first | trivial | assumption | omega | (intro _ hrow; obtain ⟨_, _, rfl⟩ := List.mem_map.1 hrow; rfl) | (simp_all; done) | (simp_all; omega)))))); refine hK _ ?_; clear hK; clear K
  refine awp_virt 12 1 (by simp only [push_cast, seval]) ?_
  refine awp_block ?_
  clear hidem hle
  generalize hfe : (fun i => up.getD i i) = f at hlab hf
  have hidem := hlab.idem near_lt
  have hle := hlab.le
  have hget : ∀ k, k < ps.length → up[k]? = some (f k) := fun k hk => by rw [hget k hk, ← hfe]
  refine awp_loopP (st := fun (x : Nat) => ⟨[(0, .d (.sl (ps.map encP))), (7, .ref 0 0 ps.length), (12, .ref 1 0 (partR f ps.length x).length), (13, .d (.int .i64 x))], [.data 1 (up.map encN), .data 1 ((partR f ps.length x).map encG)]⟩)
    (inv := fun x => x ≤ ps.length) (μ := fun x => ps.length - x) (x0 := 0) (r0 := [0, 1]) ?_ ?_ ?_
  · exact Nat.zero_le _
  · simp only [partR, roots, List.range_zero, List.filter_nil, List.map_nil, List.length_nil]
    exact ⟨by simp, by simp, by simp [push_cast, seval], by simp [push_cast, seval], by simp [push_cast, seval], by simp [push_cast, seval]⟩
  intro i hi
  have hpl : (partR f ps.length i).length ≤ i := by
    simp only [partR, List.length_map, roots]
    have := List.length_filter_le (fun r => f r == r) (List.range i)
    rwa [List.length_range] at this
  refine awp_seq ?_
  refine awp_seq ?_
  refine awpF_region ?_; intro K hK; simp only [push_cast, seval]; (try simp (disch := omega) only [wrapI]); (repeat ((with_reducible refine And.intro ?_ ?_); (focus (first | trivial | assumption | omega | (intro _ hrow; obtain ⟨_, _, rfl⟩ := List.mem_map.1 hrow; rfl) | ((intros; repeat' apply And.intro) <;> first | trivial | assumption | omega | (intro _ hrow; obtain ⟨_, _, rfl⟩ := List.mem_map.1 hrow; rfl) | (simp_all; done) | (simp_all; omega)))))); refine hK _ ?_; clear hK; clear K
  apply awp_cond; (focus (simp only [push_cast, seval]; rfl))
  · intro h6; (try simp only [decide_eq_true_eq, decide_eq_false_iff_not, Bool.not_eq_true', Bool.not_eq_false', Bool.and_eq_true, Bool.or_eq_true, Bool.not_eq_true] at h6)
    have hlt : i < ps.length := by omega
    refine awp_skip ?_
    refine awp_seq ?_
    refine awp_block ?_
    refine awp_seq ?_
    refine awpF_region ?_; intro K hK; simp only [push_cast, seval]; (try simp (disch := omega) only [wrapI]); (repeat ((with_reducible refine And.intro ?_ ?_); (focus (first | trivial | assumption | omega | (intro _ hrow; obtain ⟨_, _, rfl⟩ := List.mem_map.1 hrow; rfl) | ((intros; repeat' apply And.intro) <;> first | trivial | assumption | omega | (intro _ hrow; obtain ⟨_, _, rfl⟩ := List.mem_map.1 hrow; rfl) | (simp_all; done) | (simp_all; omega)))))); refine hK _ ?_; clear hK; clear K
    refine awp_seq ?_
    refine awp_seq ?_
    refine awpF_region ?_; intro K hK; simp only [push_cast, seval]; (try simp (disch := omega) only [wrapI]); (repeat ((with_reducible refine And.intro ?_ ?_); (focus (first | trivial | assumption | omega | (intro _ hrow; obtain ⟨_, _, rfl⟩ := List.mem_map.1 hrow; rfl) | ((intros; repeat' apply And.intro) <;> first | trivial | assumption | omega | (intro _ hrow; obtain ⟨_, _, rfl⟩ := List.mem_map.1 hrow; rfl) | (simp_all; done) | (simp_all; omega)))))); refine hK _ ?_; clear hK; clear K
    refine awp_virt 14 1 (by simp only [push_cast, seval]) ?_
    refine awp_block ?_
    refine awp_loopP (st := fun (x : Nat) => ⟨[(0, .d (.sl (ps.map encP))), (7, .ref 0 0 ps.length), (12, .ref 1 0 (partR f ps.length i).length), (13, .d (.int .i64 i)), (14, .ref 2 0 (grow f i x).length), (15, .d (.int .i64 x))], [.data 1 (up.map encN), .data 1 ((partR f ps.length i).map encG), .data 1 ((grow f i x).map encN)]⟩)
      (inv := fun x => i ≤ x ∧ x ≤ ps.length) (μ := fun x => ps.length - x) (x0 := i) (r0 := [0, 1, 2]) ?_ ?_ ?_
    · exact ⟨Nat.le_refl _, hi⟩
    · have hg0 : grow f i i = [] := by
        simp only [grow, List.filter_eq_nil_iff, List.mem_range]
        intro a ha
        have := hle a (by omega)
        simp; omega
      rw [hg0]
      exact ⟨by simp, by simp, by simp [push_cast, seval], by simp [push_cast, seval], by simp [push_cast, seval], by simp [push_cast, seval]⟩
    rintro k ⟨hk1, hk2⟩
    have hgl : (grow f i k).length ≤ k := by
      have := List.length_filter_le (fun j => f j == i) (List.range k)
      rwa [List.length_range] at this
    refine awp_seq ?_
    refine awp_seq ?_
    refine awpF_region ?_; intro K hK; simp only [push_cast, seval]; (try simp (disch := omega) only [wrapI]); (repeat ((with_reducible refine And.intro ?_ ?_); (focus (first | trivial | assumption | omega | (intro _ hrow; obtain ⟨_, _, rfl⟩ := List.mem_map.1 hrow; rfl) | ((intros; repeat' apply And.intro) <;> first | trivial | assumption | omega | (intro _ hrow; obtain ⟨_, _, rfl⟩ := List.mem_map.1 hrow; rfl) | (simp_all; done) | (simp_all; omega)))))); refine hK _ ?_; clear hK; clear K
    apply awp_cond; (focus (simp only [push_cast, seval]; rfl))
    · intro h7; (try simp only [decide_eq_true_eq, decide_eq_false_iff_not, Bool.not_eq_true', Bool.not_eq_false', Bool.and_eq_true, Bool.or_eq_true, Bool.not_eq_true] at h7)
      have hklt : k < ps.length := by omega
      have hu := hget k hklt
      refine awp_skip ?_
      refine awp_seq ?_
      refine awp_block ?_
      refine awp_seq ?_
      refine awpF_region ?_; intro K hK; simp only [push_cast, seval, hu, encN]
      (repeat ((with_reducible refine And.intro ?_ ?_); (focus (first | trivial | assumption | omega | (intro _ hrow; obtain ⟨_, _, rfl⟩ := List.mem_map.1 hrow; rfl) | ((intros; repeat' apply And.intro) <;> first | trivial | assumption | omega | (intro _ hrow; obtain ⟨_, _, rfl⟩ := List.mem_map.1 hrow; rfl) | (simp_all; done) | (simp_all; omega))))))
      refine hK _ ?_; clear hK; clear K
      apply awp_cond; (focus (simp only [push_cast, seval]; rfl))
      · intro h8; (try simp only [decide_eq_true_eq, decide_eq_false_iff_not, Bool.not_eq_true', Bool.not_eq_false', Bool.and_eq_true, Bool.or_eq_true, Bool.not_eq_true] at h8)
        have h8' : f k = i := by simp at h8; omega
        have htk : ((grow f i k).map encN).take (grow f i k).length = (grow f i k).map encN := List.take_of_length_le (by simp)
        have hgr : grow f i (k + 1) = grow f i k ++ [k] := by
          simp only [grow, List.range_succ, List.filter_append]
          simp [h8']
        refine awpF_region ?_; intro K hK; simp only [push_cast, seval, htk]
        (repeat ((with_reducible refine And.intro ?_ ?_); (focus (first | trivial | assumption | omega | (intro _ hrow; obtain ⟨_, _, rfl⟩ := List.mem_map.1 hrow; rfl) | ((intros; repeat' apply And.intro) <;> first | trivial | assumption | omega | (intro _ hrow; obtain ⟨_, _, rfl⟩ := List.mem_map.1 hrow; rfl) | (simp_all; done) | (simp_all; omega))))))
        refine hK _ ?_; clear hK; clear K
        refine awpF_region ?_; intro K hK; simp only [push_cast, seval]; (try simp (disch := omega) only [wrapI]); (repeat ((with_reducible refine And.intro ?_ ?_); (focus (first | trivial | assumption | omega | (intro _ hrow; obtain ⟨_, _, rfl⟩ := List.mem_map.1 hrow; rfl) | ((intros; repeat' apply And.intro) <;> first | trivial | assumption | omega | (intro _ hrow; obtain ⟨_, _, rfl⟩ := List.mem_map.1 hrow; rfl) | (simp_all; done) | (simp_all; omega)))))); refine hK _ ?_; clear hK; clear K
        refine round_endG (k + 1) [0, 1, 2] ⟨?_, ?_, ?_⟩
        · omega
        · exact ⟨by omega, hklt⟩
        · rw [hgr, List.map_append, List.length_append]
          simp only [List.map_cons, List.map_nil, encN]
          exact ⟨by simp, by simp, by simp [push_cast, seval], by simp [push_cast, seval], by simp [push_cast, seval], by simp [push_cast, seval]⟩
      · intro h8; (try simp only [decide_eq_true_eq, decide_eq_false_iff_not, Bool.not_eq_true', Bool.not_eq_false', Bool.and_eq_true, Bool.or_eq_true, Bool.not_eq_true] at h8)
        have h8' : ¬ f k = i := by simp at h8; omega
        have hgr : grow f i (k + 1) = grow f i k := by
          simp only [grow, List.range_succ, List.filter_append]
          simp [h8']
        refine awp_skip ?_
        refine awpF_region ?_; intro K hK; simp only [push_cast, seval]; (try simp (disch := omega) only [wrapI]); (repeat ((with_reducible refine And.intro ?_ ?_); (focus (first | trivial | assumption | omega | (intro _ hrow; obtain ⟨_, _, rfl⟩ := List.mem_map.1 hrow; rfl) | ((intros; repeat' apply And.intro) <;> first | trivial | assumption | omega | (intro _ hrow; obtain ⟨_, _, rfl⟩ := List.mem_map.1 hrow; rfl) | (simp_all; done) | (simp_all; omega)))))); refine hK _ ?_; clear hK; clear K
        refine round_endG (k + 1) [0, 1, 2] ⟨?_, ?_, ?_⟩
        · omega
        · exact ⟨by omega, hklt⟩
        · rw [hgr]
          exact ⟨by simp, by simp, by simp [push_cast, seval], by simp [push_cast, seval], by simp [push_cast, seval], by simp [push_cast, seval]⟩
    · intro h7; (try simp only [decide_eq_true_eq, decide_eq_false_iff_not, Bool.not_eq_true', Bool.not_eq_false', Bool.and_eq_true, Bool.or_eq_true, Bool.not_eq_true] at h7)
      have hke : k = ps.length := by omega
      subst hke
      have htk : ((grow f i ps.length).map encN).take (grow f i ps.length).length = (grow f i ps.length).map encN := List.take_of_length_le (by simp)
      have htk2 : ((partR f ps.length i).map encG).take (partR f ps.length i).length = (partR f ps.length i).map encG := List.take_of_length_le (by simp)
      refine awp_exit ?_; (repeat (first | refine then_exit ?_ | refine inblock_other (by decide) ?_)); refine inblock_same ?_
      refine awp_seq ?_
      refine awpF_region ?_; intro K hK; simp only [push_cast, seval]; (try simp (disch := omega) only [wrapI]); (repeat ((with_reducible refine And.intro ?_ ?_); (focus (first | trivial | assumption | omega | (intro _ hrow; obtain ⟨_, _, rfl⟩ := List.mem_map.1 hrow; rfl) | ((intros; repeat' apply And.intro) <;> first | trivial | assumption | omega | (intro _ hrow; obtain ⟨_, _, rfl⟩ := List.mem_map.1 hrow; rfl) | (simp_all; done) | (simp_all; omega)))))); refine hK _ ?_; clear hK; clear K
      apply awp_cond; (focus (simp only [push_cast, seval]; rfl))
      · intro h9; (try simp only [decide_eq_true_eq, decide_eq_false_iff_not, Bool.not_eq_true', Bool.not_eq_false', Bool.and_eq_true, Bool.or_eq_true, Bool.not_eq_true] at h9)
        have hfi : f i = i := by
          have hpos : 0 < (grow f i ps.length).length := by omega
          obtain ⟨a, ha⟩ := List.exists_mem_of_length_pos hpos
          simp only [grow, List.mem_filter, List.mem_range, beq_iff_eq] at ha
          have := hidem a ha.1
          rw [ha.2] at this
          exact this
        have hpn : partR f ps.length (i + 1) = partR f ps.length i ++ [grow f i ps.length] := by
          simp only [partR, roots, List.range_succ, List.filter_append, List.map_append]
          simp [hfi, grow]
        refine awpF_region ?_; intro K hK; simp only [push_cast, seval, htk, htk2]
        (repeat ((with_reducible refine And.intro ?_ ?_); (focus (first | trivial | assumption | omega | (intro _ hrow; obtain ⟨_, _, rfl⟩ := List.mem_map.1 hrow; rfl) | ((intros; repeat' apply And.intro) <;> first | trivial | assumption | omega | (intro _ hrow; obtain ⟨_, _, rfl⟩ := List.mem_map.1 hrow; rfl) | (simp_all; done) | (simp_all; omega))))))
        refine hK _ ?_; clear hK; clear K
        refine awpF_region ?_; intro K hK; simp only [push_cast, seval]; (try simp (disch := omega) only [wrapI]); (repeat ((with_reducible refine And.intro ?_ ?_); (focus (first | trivial | assumption | omega | (intro _ hrow; obtain ⟨_, _, rfl⟩ := List.mem_map.1 hrow; rfl) | ((intros; repeat' apply And.intro) <;> first | trivial | assumption | omega | (intro _ hrow; obtain ⟨_, _, rfl⟩ := List.mem_map.1 hrow; rfl) | (simp_all; done) | (simp_all; omega)))))); refine hK _ ?_; clear hK; clear K
        refine round_endG (i + 1) [0, 1] ⟨?_, hlt, ?_⟩
        · omega
        · rw [hpn, List.map_append, List.length_append]
          simp only [List.map_cons, List.map_nil, encG]
          exact ⟨by simp, by simp, by simp [push_cast, seval], by simp [push_cast, seval], by simp [push_cast, seval], by simp [push_cast, seval]⟩
      · intro h9; (try simp only [decide_eq_true_eq, decide_eq_false_iff_not, Bool.not_eq_true', Bool.not_eq_false', Bool.and_eq_true, Bool.or_eq_true, Bool.not_eq_true] at h9)
        have hfi : ¬ f i = i := fun hfi => by
          have : i ∈ grow f i ps.length := List.mem_filter.2 ⟨List.mem_range.2 hlt, by simp [hfi]⟩
          have := List.length_pos_of_mem this
          omega
        have hpn : partR f ps.length (i + 1) = partR f ps.length i := by
          simp only [partR, roots, List.range_succ, List.filter_append]
          simp [hfi]
        refine awp_skip ?_
        refine awpF_region ?_; intro K hK; simp only [push_cast, seval]; (try simp (disch := omega) only [wrapI]); (repeat ((with_reducible refine And.intro ?_ ?_); (focus (first | trivial | assumption | omega | (intro _ hrow; obtain ⟨_, _, rfl⟩ := List.mem_map.1 hrow; rfl) | ((intros; repeat' apply And.intro) <;> first | trivial | assumption | omega | (intro _ hrow; obtain ⟨_, _, rfl⟩ := List.mem_map.1 hrow; rfl) | (simp_all; done) | (simp_all; omega)))))); refine hK _ ?_; clear hK; clear K
        refine round_endG (i + 1) [0, 1] ⟨?_, hlt, ?_⟩
        · omega
        · rw [hpn]
          exact ⟨by simp, by simp, by simp [push_cast, seval], by simp [push_cast, seval], by simp [push_cast, seval], by simp [push_cast, seval]⟩
  · intro h6; (try simp only [decide_eq_true_eq, decide_eq_false_iff_not, Bool.not_eq_true', Bool.not_eq_false', Bool.and_eq_true, Bool.or_eq_true, Bool.not_eq_true] at h6)
    have hie : i = ps.length := by omega
    subst hie
    refine awp_exit ?_; (repeat (first | refine then_exit ?_ | refine inblock_other (by decide) ?_)); refine inblock_same ?_
    refine awp_seq ?_
    refine awpF_region ?_; intro K hK; simp only [push_cast, seval]; (try simp (disch := omega) only [wrapI]); (repeat ((with_reducible refine And.intro ?_ ?_); (focus (first | trivial | assumption | omega | (intro _ hrow; obtain ⟨_, _, rfl⟩ := List.mem_map.1 hrow; rfl) | ((intros; repeat' apply And.intro) <;> first | trivial | assumption | omega | (intro _ hrow; obtain ⟨_, _, rfl⟩ := List.mem_map.1 hrow; rfl) | (simp_all; done) | (simp_all; omega)))))); refine hK _ ?_; clear hK; clear K
    refine awp_ret ?_; (repeat (first | refine then_ret ?_ | refine inblock_ret ?_)); refine fin_of (by simp only [push_cast, seval]; first | done | rfl) (by first | trivial | first | trivial | assumption | omega | (intro _ hrow; obtain ⟨_, _, rfl⟩ := List.mem_map.1 hrow; rfl) | ((intros; repeat' apply And.intro) <;> first | trivial | assumption | omega | (intro _ hrow; obtain ⟨_, _, rfl⟩ := List.mem_map.1 hrow; rfl) | (simp_all; done) | (simp_all; omega))) ?_
    rw [hf]
    refine deep_tup2 ?_ (.d _)
    have h := Deep.data (H := [.data 1 (up.map encN), .data 1 ((partR f ps.length ps.length).map encG)]) 1 0 (partR f ps.length ps.length).length 1 ((partR f ps.length ps.length).map encG) rfl (by simp)
    rw [List.drop_zero, List.take_of_length_le (by simp)] at h
    exact h

end Go.Aw
