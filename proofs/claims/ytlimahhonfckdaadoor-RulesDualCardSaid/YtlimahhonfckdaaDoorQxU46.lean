/-
  RulesDual: the pairs of formulas, and the joining of nodes. Conditions: lengths that fit.
-/
import Derived.Test.YtlimahhonfckdaaDoorQxU45
import Derived.Test.YtlimahhonfckdaaDoorQxV2
namespace Go.Aw
set_option linter.unusedSimpArgs false
set_option linter.unusedVariables false
open Go.RowKit Go.Proofs
set_option maxRecDepth 100000

def encF (f : List Nd) : List D := [.sl (f.map encNd)]
theorem p29 (n : List Nd) (l : List (List Nd)) (hn : n.length ≤ 1000) (hl : l.length ≤ 10) (hf : ∀ f, f ∈ l → f.length ≤ 1000) : PD Tryd.prog 29 [.sl (n.map encNd), .sl (l.map encF)] (.d (.sl ((n ++ l.flatten).map encNd))) := by
  have hq : ∀ row, row ∈ l.map encF → row.length = 1 := fun row hr => by obtain ⟨_, _, rfl⟩ := List.mem_map.1 hr; rfl
  have hqn : ∀ row, row ∈ n.map encNd → row.length = 6 ∧ row.all D.leaf = true := fun row hr => by obtain ⟨_, _, rfl⟩ := List.mem_map.1 hr; exact ⟨rfl, rfl⟩
  have htn : List.take n.length (n.map encNd) = n.map encNd := List.take_of_length_le (by simp)
  have hfl : ∀ i : Nat, i ≤ l.length → (l.take i).flatten.length ≤ i * 1000 := by
    intro i
    induction i with
    | zero => intro _; simp
    | succ i ih =>
      intro hi
      have hlt : i < l.length := by omega
      have := ih (by omega)
      have h2 := hf l[i] (List.getElem_mem hlt)
      have e : (some l[i]).toList.flatten.length = l[i].length := by simp
      rw [List.take_add_one, List.getElem?_eq_getElem hlt, List.flatten_append, List.length_append, e]
      omega
  refine pdv_of (fn := Tryd.f29) [.tmp 4] (by kernel_rfl) rfl (by kernel_rfl) (Nat.le_of_ble_eq_true rfl) (by kernel_rfl) rfl ?_
  refine awp_seq ?_
  refine awpF_region ?_; intro K hK; simp only [push_cast, seval]; (try simp (disch := omega) only [wrapI]); (repeat ((with_reducible refine And.intro ?_ ?_); (focus (exact ob1)))); refine hK _ ?_; clear hK K
  refine awp_seq ?_
  refine awpF_region ?_; intro K hK; simp only [push_cast, seval, htn]; (try simp (disch := omega) only [wrapI]); (repeat ((with_reducible refine And.intro ?_ ?_); (focus (exact ob1)))); refine hK _ ?_; clear hK K
  refine awp_seq ?_
  refine awp_seq ?_
  refine awpF_region ?_; intro K hK; simp only [push_cast, seval]; (try simp (disch := omega) only [wrapI]); (repeat ((with_reducible refine And.intro ?_ ?_); (focus (exact ob1)))); refine hK _ ?_; clear hK K
  refine awp_block ?_
  refine awp_loopP (α := Nat) (st := fun i => ⟨[(1, .d (.sl (l.map encF))), (5, .ref 0 0 (n ++ (l.take i).flatten).length), (6, .d (.int .i64 i))], [.data 6 ((n ++ (l.take i).flatten).map encNd)]⟩)
    (inv := fun i => i ≤ l.length) (μ := fun i => l.length - i) (x0 := 0) (r0 := [0]) (Nat.zero_le _) ?_ ?_
  · simp only [List.take_zero, List.flatten_nil, List.append_nil]
    exact ⟨by simp, by simp, by simp [push_cast, seval], by simp [push_cast, seval], by simp [push_cast, seval], by simp [push_cast, seval]⟩
  intro i hi
  have hil := hfl i hi
  generalize hg : n ++ (l.take i).flatten = g at *
  have hgl : g.length ≤ 11000 := by rw [← hg, List.length_append]; omega
  have htg : List.take g.length (g.map encNd) = g.map encNd := List.take_of_length_le (by simp)
  refine awp_seq ?_
  refine awp_seq ?_
  refine awpF_region ?_; intro K hK; simp only [push_cast, seval]; (try simp (disch := omega) only [wrapI]); (repeat ((with_reducible refine And.intro ?_ ?_); (focus (exact ob1)))); refine hK _ ?_; clear hK K
  apply awp_cond; (focus (simp only [push_cast, seval]; rfl))
  · intro h1; (try simp only [decide_eq_true_eq, decide_eq_false_iff_not, Bool.not_eq_true', Bool.not_eq_false', Bool.and_eq_true, Bool.or_eq_true, Bool.not_eq_true] at h1)
    have hlt : i < l.length := by omega
    obtain ⟨f, hfi⟩ : ∃ f, l[i]? = some f := ⟨_, List.getElem?_eq_getElem hlt⟩
    have hfl1 := hf f (List.mem_of_getElem? hfi)
    have hqf : ∀ row, row ∈ f.map encNd → row.length = 6 ∧ row.all D.leaf = true := fun row hr => by obtain ⟨_, _, rfl⟩ := List.mem_map.1 hr; exact ⟨rfl, rfl⟩
    have htf : List.take f.length (f.map encNd) = f.map encNd := List.take_of_length_le (by simp)
    refine awp_skip ?_
    refine awp_seq ?_
    refine awp_block ?_
    refine awpF_region ?_; intro K hK; simp only [push_cast, seval, hfi, encF, Int.toNat_natCast, htg, htf]; (try simp (disch := omega) only [wrapI]); (repeat ((with_reducible refine And.intro ?_ ?_); (focus (exact ob1)))); refine hK _ ?_; clear hK K
    refine inblock_norm ?_
    refine awpF_region ?_; intro K hK; simp only [push_cast, seval]; (try simp (disch := omega) only [wrapI]); (repeat ((with_reducible refine And.intro ?_ ?_); (focus (exact ob1)))); refine hK _ ?_; clear hK K
    refine round_endG (i + 1) ([0]) ⟨by omega, by omega, ?_⟩
    have e : n ++ (l.take (i + 1)).flatten = g ++ f := by
      rw [List.take_add_one, hfi, List.flatten_append, ← List.append_assoc, hg]
      simp
    rw [e, List.map_append, List.length_append]
    push_cast
    exact ⟨by simp, by simp, by simp [push_cast, seval], by simp [push_cast, seval], by simp [push_cast, seval], by simp [push_cast, seval]⟩
  · intro h1; (try simp only [decide_eq_true_eq, decide_eq_false_iff_not, Bool.not_eq_true', Bool.not_eq_false', Bool.and_eq_true, Bool.or_eq_true, Bool.not_eq_true] at h1)
    obtain rfl : i = l.length := by omega
    rw [List.take_length] at hg
    rw [hg]
    refine awp_exit ?_; (repeat (first | refine then_exit ?_ | refine inblock_other (by decide) ?_)); refine inblock_same ?_
    refine awp_seq ?_
    refine awpF_region ?_; intro K hK; simp only [push_cast, seval]; (try simp (disch := omega) only [wrapI]); (repeat ((with_reducible refine And.intro ?_ ?_); (focus (exact ob1)))); refine hK _ ?_; clear hK K
    refine awp_ret ?_; (repeat (first | refine then_ret ?_ | refine inblock_ret ?_ | refine nogoto_ret ?_)); refine fin_of (by simp only [push_cast, seval]; first | done | rfl) ob1 ?_
    exact DeepV.row rfl (by simp)
theorem small_chk {t : Fm} (hw : t.wf) (hn : ∀ n, n ∈ t.flat → nodeE n 2 = 0) (hl : t.flat.length ≤ 40) (hz : t.hz ≤ 60) : chkE t.flat 2 t = 0 := chk_of ⟨by decide, by decide⟩ hw hn hl hz
def evs (t : Fm) (T : List (List Int)) : Prop := ∀ i : Nat, i ≤ 12 → PD Tryd.prog 24 [.sl (t.flat.map encNd), .int .i64 2, .sl (T.map encR), .int .i64 i] (.tup [.d (.int .i64 (vd t T i : Nat)), .d (.int .i64 0)])
theorem evs_of {t : Fm} {T : List (List Int)} (hw : t.wf) (hn : ∀ n, n ∈ t.flat → nodeE n 2 = 0) (hl : t.flat.length ≤ 40) (hz : t.hz ≤ 60) (hT : trE T 2 = 0) : evs t T := by
  intro i hi
  have h := p24 t.flat 2 t T i (by omega) (fun _ => ⟨hw, rfl⟩) (by omega)
  obtain ⟨e1, e2⟩ := ev_ok (small_chk hw hn hl hz) hT i
  rwa [e1, e2] at h
structure Sm (t : Fm) (L Z : Nat) : Prop where
  wf : t.wf
  nodes : ∀ n, n ∈ t.flat → nodeE n 2 = 0
  len : t.flat.length ≤ L
  hz : t.hz ≤ Z
theorem Sm.u {n : Nd} {a : Fm} {L Z h : Nat} (g : Sm a L Z) (ho : n.op = 3 ∨ n.op = 6 ∨ n.op = 7) (hn : nodeE n 2 = 0) (hh : n.hi ≤ h) : Sm (.u n a) (L + 1) (Z + h) := by
  obtain ⟨g1, g2, g3, g4⟩ := g
  refine ⟨⟨ho, g1⟩, fun m hm => ?_, ?_, ?_⟩
  · rcases List.mem_cons.1 hm with rfl | hm
    · exact hn
    · exact g2 m hm
  · simp only [Fm.flat, List.length_cons]; omega
  · simp only [Fm.hz]; push_cast; omega
theorem Sm.b {n : Nd} {a b : Fm} {L Z M Z' h : Nat} (g : Sm a L Z) (g' : Sm b M Z') (ho : n.op = 4 ∨ n.op = 5 ∨ n.op = 8) (hn : nodeE n 2 = 0) (hh : n.hi ≤ h) (h0 : 0 ≤ n.hi) : Sm (.b n a b) (L + M + 1) (max Z Z' + h) := by
  obtain ⟨g1, g2, g3, g4⟩ := g
  obtain ⟨k1, k2, k3, k4⟩ := g'
  refine ⟨⟨ho, g1, k1⟩, fun m hm => ?_, ?_, ?_⟩
  · rcases List.mem_cons.1 hm with rfl | hm
    · exact hn
    · rcases List.mem_append.1 hm with hm | hm
      · exact g2 m hm
      · exact k2 m hm
  · simp only [Fm.flat, List.length_cons, List.length_append]; omega
  · simp only [Fm.hz]
    push_cast
    split
    · split <;> omega
    · omega
theorem Sm.evs {t : Fm} {T : List (List Int)} {L Z : Nat} (g : Sm t L Z) (hL : L ≤ 40) (hZ : Z ≤ 60) (hT : trE T 2 = 0) : evs t T := evs_of g.wf g.nodes (Nat.le_trans g.len hL) (by have := g.hz; omega) hT
def pairD (F G : List (List D)) : List D := [.sl [[.sl F], [.sl G]]]
def rN (op x y : Int) : List D := [.int .i64 op, .int .i64 0, .int .i64 0, .int .i64 0, .int .i64 x, .int .i64 y]
def same2 (F G : List (List D)) (T : List (List Int)) : Prop := ∀ i : Nat, i ≤ 12 → ∃ v : Nat, PD Tryd.prog 24 [.sl F, .int .i64 2, .sl (T.map encR), .int .i64 i] (.tup [.d (.int .i64 v), .d (.int .i64 0)]) ∧ PD Tryd.prog 24 [.sl G, .int .i64 2, .sl (T.map encR), .int .i64 i] (.tup [.d (.int .i64 v), .d (.int .i64 0)])
theorem same2_of {t u : Fm} {T : List (List Int)} (h1 : evs t T) (h2 : evs u T) (h : ∀ i, vd t T i = vd u T i) : same2 (t.flat.map encNd) (u.flat.map encNd) T := fun i hi => ⟨vd t T i, h1 i hi, by rw [h i]; exact h2 i hi⟩
set_option maxHeartbeats 4000000 in
theorem p6 (nums more rows : List Int) (lo hi : Int) (hn : numsOk nums) (hm' : numsOk more) (hrw : numsOk rows) (hlo : -9223372036854775808 ≤ lo ∧ lo ≤ 9223372036854775807) (hhi : -9223372036854775808 ≤ hi ∧ hi ≤ 9223372036854775807) :
    PD Tryd.prog 6 [.sl (nums.map encI), .sl (more.map encI), .sl (rows.map encI), .int .i64 lo, .int .i64 hi] (.d (.bool true)) := by
  have h13 := p13
  have hw : (1 : Int) ≤ 2 ∧ (2 : Int) ≤ 12 := ⟨by decide, by decide⟩
  have hm : (0 : Int) ≤ 2 ∧ (2 : Int) ≤ 20 := ⟨by decide, by decide⟩
  have ha26 := p26 nums 2 2 hn.1 hn.2 hw hm
  have hb26 := p26 more 2 2 hm'.1 hm'.2 hw hm
  have h27 := p27 rows 2 12 hrw.1 hrw.2 (by decide) (by decide)
  have hTl := trace_len rows 2 12
  have hTr := trace_ok (l := rows) (w := 2) (most := 12) ⟨by decide, by decide⟩ (by decide) 12
  rw [List.take_of_length_le hTl] at hTr
  have hWa := rule_W nums hw hm
  have hWb := rule_W more hw hm
  have hla := rule_len nums hw hm
  have hlb := rule_len more hw hm
  have hx28 := p28 lo 5 hlo ⟨by omega, by omega⟩
  have hy28 := p28 hi 5 hhi ⟨by omega, by omega⟩
  rw [show (partT nums 2 2 3 0).1 = ruleT nums 2 2 from rfl] at ha26
  rw [show (partT more 2 2 3 0).1 = ruleT more 2 2 from rfl] at hb26
  generalize traceT rows 2 12 = T at *
  generalize ruleT nums 2 2 = a at *
  generalize ruleT more 2 2 = b at *
  have hx5 : 0 ≤ lo % 5 ∧ lo % 5 < 5 := ⟨Int.emod_nonneg _ (by omega), Int.emod_lt_of_pos _ (by omega)⟩
  have hy5 : 0 ≤ hi % 5 ∧ hi % 5 < 5 := ⟨Int.emod_nonneg _ (by omega), Int.emod_lt_of_pos _ (by omega)⟩
  generalize lo % 5 = x0 at *
  generalize hi % 5 = y0 at *
  have hxy : 0 ≤ min x0 y0 ∧ min x0 y0 ≤ max x0 y0 ∧ max x0 y0 ≤ 4 := by omega
  obtain ⟨wa, na, la, za⟩ := hWa
  obtain ⟨wb, nb, lb, zb⟩ := hWb
  have za' : a.hz ≤ 6 := za
  have zb' : b.hz ≤ 6 := zb
  push_cast at h27
  by_cases h30 : 30 < a.flat.length + b.flat.length
  · have hd : decide (((a.flat.length : Int) + b.flat.length) > 30) = true := decide_eq_true (by omega)
    have hAl : (a.flat.map encNd).length = a.flat.length := by simp
    have hBl : (b.flat.map encNd).length = b.flat.length := by simp
    generalize a.flat.map encNd = A at *
    generalize b.flat.map encNd = B at *
    refine pd_of (fn := Tryd.f6) [.tmp 10] (by kernel_rfl) rfl (by kernel_rfl) (Nat.le_of_ble_eq_true rfl) (by kernel_rfl) rfl rfl ?_
    (repeat' (first | refine awp_seq ?_ | refine awp_skip ?_ | refine awp_block ?_ | ((first | (refine awpF_region ?_; intro K hK) | refine CallK.pd (ha26) ?_ | refine CallK.pg (fun _ => ha26) ?_ | refine CallK.pd (hb26) ?_ | refine CallK.pg (fun _ => hb26) ?_ | refine CallK.pd (h27) ?_ | refine CallK.pg (fun _ => h27) ?_ | refine CallK.pd (h13) ?_ | refine CallK.pg (fun _ => h13) ?_); simp only [push_cast, seval, hAl, hBl, hd]; (try simp (disch := omega) only [wrapI]); (repeat ((with_reducible refine And.intro ?_ ?_); (focus (exact ob1))))) | (refine hK _ ?_; clear hK K) | (apply awp_cond; (focus (simp only [push_cast, seval]; rfl))) | (with_reducible intro hb; exfalso; revert hb; simp [hAl, hBl, hd]; done) | (with_reducible intro hb; exfalso; (try simp only [decide_eq_true_eq, decide_eq_false_iff_not, Bool.not_eq_true', Bool.not_eq_false', Bool.and_eq_true, Bool.or_eq_true, Bool.not_eq_true] at hb); omega; done) | (with_reducible intro hb; (try simp only [decide_eq_true_eq, decide_eq_false_iff_not, Bool.not_eq_true', Bool.not_eq_false', Bool.and_eq_true, Bool.or_eq_true, Bool.not_eq_true] at hb)) | (refine awp_exit ?_; (repeat (first | refine then_exit ?_ | refine inblock_other (by decide) ?_)); refine inblock_same ?_) | (refine awp_ret ?_; (repeat (first | refine then_ret ?_ | refine inblock_ret ?_ | refine nogoto_ret ?_)); refine fin_of (by simp only [push_cast, seval, hAl, hBl, hd]; first | done | rfl) ob1 ?_) | (refine inblock_norm ?_)))
  have n3 : nodeE (nd1 3 0 0) 2 = 0 := node_bare (.inr (.inl rfl))
  have n4 : nodeE (nd1 4 0 0) 2 = 0 := node_bare (.inr (.inr (.inl rfl)))
  have n5 : nodeE (nd1 5 0 0) 2 = 0 := node_bare (.inr (.inr (.inr rfl)))
  have n1 : nodeE (nd1 1 0 0) 2 = 0 := node_bare (.inl rfl)
  have n6 : ∀ lo hi : Int, 0 ≤ lo ∧ lo ≤ hi ∧ hi ≤ 20 → nodeE (nd1 6 lo hi) 2 = 0 := fun lo hi h => node_span (.inl rfl) h
  have n7 : ∀ lo hi : Int, 0 ≤ lo ∧ lo ≤ hi ∧ hi ≤ 20 → nodeE (nd1 7 lo hi) 2 = 0 := fun lo hi h => node_span (.inr (.inl rfl)) h
  have n8 : ∀ lo hi : Int, 0 ≤ lo ∧ lo ≤ hi ∧ hi ≤ 20 → nodeE (nd1 8 lo hi) 2 = 0 := fun lo hi h => node_span (.inr (.inr rfl)) h
  generalize hmin : min x0 y0 = x at *
  generalize hmax : max x0 y0 = y at *
  obtain ⟨La, hLa⟩ : ∃ La, La = a.flat.length := ⟨_, rfl⟩
  obtain ⟨Lb, hLb⟩ : ∃ Lb, Lb = b.flat.length := ⟨_, rfl⟩
  have ga : Sm a La 6 := ⟨wa, na, by omega, za'⟩
  have gb : Sm b Lb 6 := ⟨wb, nb, by omega, zb'⟩
  have hL : La + Lb ≤ 30 := by omega
  have s6 := n6 x y (by omega)
  have s7 := n7 x y (by omega)
  have s8 := n8 x y (by omega)
  have s60 := n6 0 0 (by omega)
  have s70 := n7 0 0 (by omega)
  have o3 : (nd1 3 0 0).op = 3 ∨ (nd1 3 0 0).op = 6 ∨ (nd1 3 0 0).op = 7 := .inl rfl
  have y4 : y ≤ ((4 : Nat) : Int) := by omega
  have z4 : (0 : Int) ≤ ((4 : Nat) : Int) := by omega
  have y0' : 0 ≤ y := by omega
  have ea := ga.evs (by omega) (by omega) hTr
  have eb := gb.evs (by omega) (by omega) hTr
  have E1 := (ga.u (n := nd1 6 x y) (.inr (.inl rfl)) s6 y4).evs (by omega) (by omega) hTr
  have E2 := (((ga.u (n := nd1 3 0 0) o3 n3 z4).u (n := nd1 7 x y) (.inr (.inr rfl)) s7 y4).u (n := nd1 3 0 0) o3 n3 z4).evs (by omega) (by omega) hTr
  have E3 := (ga.b gb (n := nd1 4 0 0) (.inl rfl) n4 z4 (Int.le_refl _)).evs (by omega) (by omega) hTr
  have E4 := (((ga.u (n := nd1 3 0 0) o3 n3 z4).b (gb.u (n := nd1 3 0 0) o3 n3 z4) (n := nd1 5 0 0) (.inr (.inl rfl)) n5 z4 (Int.le_refl _)).u (n := nd1 3 0 0) o3 n3 z4).evs (by omega) (by omega) hTr
  have E5 := (ga.u (n := nd1 6 0 0) (.inr (.inl rfl)) s60 z4).evs (by omega) (by omega) hTr
  have E6 := (gb.u (n := nd1 7 0 0) (.inr (.inr rfl)) s70 z4).evs (by omega) (by omega) hTr
  have g1 : Sm (.z (nd1 1 0 0)) 1 0 := ⟨.inl rfl, fun n hn => by simp only [Fm.flat, List.mem_singleton] at hn; subst hn; exact n1, Nat.le_refl _, Int.le_refl _⟩
  have E7 := (g1.b gb (n := nd1 8 x y) (.inr (.inr rfl)) s8 y4 y0').evs (by omega) (by omega) hTr
  have E8 := (gb.u (n := nd1 7 x y) (.inr (.inr rfl)) s7 y4).evs (by omega) (by omega) hTr
  have Q1 := same2_of E1 E2 (dual1 a x y T)
  have Q2 := same2_of E3 E4 (dual2 a b T)
  have Q3 := same2_of E5 ea (dual3 a T)
  have Q4 := same2_of E6 eb (dual4 b T)
  have Q5 := same2_of E7 E8 (dual5 b x y T)
  have bd : ∀ (l : List (List Nd)), (∀ f, f ∈ l → f.length ≤ 30) → ∀ f, f ∈ l → f.length ≤ 1000 := fun l h f hf => Nat.le_trans (h f hf) (by decide)
  have la' : a.flat.length ≤ 30 := by omega
  have lb' : b.flat.length ≤ 30 := by omega
  have j1 := p29 [nd1 6 x y] [a.flat] (by simp) (by simp) (bd _ (by simp; omega))
  have j2 := p29 [nd1 3 0 0] [[nd1 7 x y], [nd1 3 0 0], a.flat] (by simp) (by simp) (bd _ (by simp; omega))
  have j3 := p29 [nd1 4 0 0] [a.flat, b.flat] (by simp) (by simp) (bd _ (by simp; omega))
  have j4 := p29 [nd1 3 0 0] [[nd1 5 0 0], [nd1 3 0 0], a.flat, [nd1 3 0 0], b.flat] (by simp) (by simp) (bd _ (by simp; omega))
  have j5 := p29 [nd1 6 0 0] [a.flat] (by simp) (by simp) (bd _ (by simp; omega))
  have j6 := p29 [nd1 7 0 0] [b.flat] (by simp) (by simp) (bd _ (by simp; omega))
  have j7 := p29 [nd1 8 x y, nd1 1 0 0] [b.flat] (by simp) (by simp) (bd _ (by simp; omega))
  have j8 := p29 [nd1 7 x y] [b.flat] (by simp) (by simp) (bd _ (by simp; omega))
  simp only [Fm.flat, List.map_cons, List.map_append, List.map_nil, List.flatten_cons, List.flatten_nil, List.append_nil, List.cons_append, List.nil_append, encF, nd1, encNd] at Q1 Q2 Q3 Q4 Q5 j1 j2 j3 j4 j5 j6 j7 j8
  clear E1 E2 E3 E4 E5 E6 E7 E8 ea eb ga gb g1 wa wb na nb bd
  have hd : decide (((a.flat.length : Int) + b.flat.length) > 30) = false := decide_eq_false (by omega)
  have hAl : (a.flat.map encNd).length = a.flat.length := by simp
  have hBl : (b.flat.map encNd).length = b.flat.length := by simp
  generalize a.flat.map encNd = A at *
  generalize b.flat.map encNd = B at *
  refine pd_of (fn := Tryd.f6) [.tmp 10] (by kernel_rfl) rfl (by kernel_rfl) (Nat.le_of_ble_eq_true rfl) (by kernel_rfl) rfl rfl ?_
  (repeat' (first | refine awp_seq ?_ | refine awp_skip ?_ | refine awp_block ?_ | ((first | ((fail_if_success refine awpF_region (id := 6) ?_); refine awpF_region ?_; intro K hK) | refine CallK.pd (ha26) ?_ | refine CallK.pg (fun _ => ha26) ?_ | refine CallK.pd (hb26) ?_ | refine CallK.pg (fun _ => hb26) ?_ | refine CallK.pd (h27) ?_ | refine CallK.pg (fun _ => h27) ?_ | refine CallK.pd (hx28) ?_ | refine CallK.pg (fun _ => hx28) ?_ | refine CallK.pd (hy28) ?_ | refine CallK.pg (fun _ => hy28) ?_); simp only [push_cast, seval, hAl, hBl, hd]; (try simp (disch := omega) only [wrapI]); (repeat ((with_reducible refine And.intro ?_ ?_); (focus (exact ob1))))) | (refine hK _ ?_; clear hK K) | (apply awp_cond; (focus (simp only [push_cast, seval]; rfl))) | (with_reducible intro hb; exfalso; revert hb; simp [hAl, hBl, hd]; done) | (with_reducible intro hb; exfalso; (try simp only [decide_eq_true_eq, decide_eq_false_iff_not, Bool.not_eq_true', Bool.not_eq_false', Bool.and_eq_true, Bool.or_eq_true, Bool.not_eq_true] at hb); omega; done) | (with_reducible intro hb; (try simp only [decide_eq_true_eq, decide_eq_false_iff_not, Bool.not_eq_true', Bool.not_eq_false', Bool.and_eq_true, Bool.or_eq_true, Bool.not_eq_true] at hb)) | (refine awp_exit ?_; (repeat (first | refine then_exit ?_ | refine inblock_other (by decide) ?_)); refine inblock_same ?_) | (refine awp_ret ?_; (repeat (first | refine then_ret ?_ | refine inblock_ret ?_ | refine nogoto_ret ?_)); refine fin_of (by simp only [push_cast, seval, hAl, hBl, hd]; first | done | rfl) ob1 ?_) | (refine inblock_norm ?_)))
  simp only [hmin, hmax]
  refine awpF_region ?_; intro K hK; simp only [push_cast, seval]; (try simp (disch := omega) only [wrapI]); (repeat ((with_reducible refine And.intro ?_ ?_); (focus (exact ob1)))); refine hK _ ?_; clear hK K
  refine awp_seq ?_
  refine awpF_region ?_; intro K hK; simp only [push_cast, seval]; (try simp (disch := omega) only [wrapI]); (repeat ((with_reducible refine And.intro ?_ ?_); (focus (exact ob1)))); refine hK _ ?_; clear hK K
  refine awp_seq ?_
  refine awpF_region ?_; intro K hK; simp only [push_cast, seval]
  refine CallK.pd (j1) ?_; simp only [push_cast, seval]; (try simp (disch := omega) only [wrapI]); (repeat ((with_reducible refine And.intro ?_ ?_); (focus (exact ob1))))
  refine CallK.pd (j2) ?_; simp only [push_cast, seval]; (try simp (disch := omega) only [wrapI]); (repeat ((with_reducible refine And.intro ?_ ?_); (focus (exact ob1))))
  refine CallK.pd (j3) ?_; simp only [push_cast, seval]; (try simp (disch := omega) only [wrapI]); (repeat ((with_reducible refine And.intro ?_ ?_); (focus (exact ob1))))
  refine CallK.pd (j4) ?_; simp only [push_cast, seval]; (try simp (disch := omega) only [wrapI]); (repeat ((with_reducible refine And.intro ?_ ?_); (focus (exact ob1))))
  refine CallK.pd (j5) ?_; simp only [push_cast, seval]; (try simp (disch := omega) only [wrapI]); (repeat ((with_reducible refine And.intro ?_ ?_); (focus (exact ob1))))
  refine CallK.pd (j6) ?_; simp only [push_cast, seval]; (try simp (disch := omega) only [wrapI]); (repeat ((with_reducible refine And.intro ?_ ?_); (focus (exact ob1))))
  refine CallK.pd (j7) ?_; simp only [push_cast, seval]; (try simp (disch := omega) only [wrapI]); (repeat ((with_reducible refine And.intro ?_ ?_); (focus (exact ob1))))
  refine CallK.pd (j8) ?_; simp only [push_cast, seval]; (try simp (disch := omega) only [wrapI]); (repeat ((with_reducible refine And.intro ?_ ?_); (focus (exact ob1))))
  (repeat ((with_reducible refine And.intro ?_ ?_); (focus (exact ob1))))
  refine hK _ ?_; clear hK K
  obtain ⟨PR, hPR⟩ : ∃ PR : List (List D), PR = [pairD (rN 6 x y :: A) (rN 3 0 0 :: rN 7 x y :: rN 3 0 0 :: A), pairD (rN 4 0 0 :: (A ++ B)) (rN 3 0 0 :: rN 5 0 0 :: rN 3 0 0 :: (A ++ rN 3 0 0 :: B)), pairD (rN 6 0 0 :: A) A, pairD (rN 7 0 0 :: B) B, pairD (rN 8 x y :: rN 1 0 0 :: B) (rN 7 x y :: B)] := ⟨_, rfl⟩
  have hPl : PR.length = 5 := by rw [hPR]; rfl
  have hget : ∀ k : Nat, k < 5 → ∃ F G, PR[k]? = some [.sl [[.sl F], [.sl G]]] ∧ same2 F G T := by
    intro k hk
    rw [hPR]
    rcases show k = 0 ∨ k = 1 ∨ k = 2 ∨ k = 3 ∨ k = 4 by omega with rfl | rfl | rfl | rfl | rfl
    · exact ⟨_, _, rfl, Q1⟩
    · exact ⟨_, _, rfl, Q2⟩
    · exact ⟨_, _, rfl, Q3⟩
    · exact ⟨_, _, rfl, Q4⟩
    · exact ⟨_, _, rfl, Q5⟩
  have hqP : ∀ r, r ∈ PR → r.length = 1 := by
    intro r hr
    rw [hPR] at hr
    simp only [List.mem_cons, List.not_mem_nil, or_false] at hr
    rcases hr with rfl | rfl | rfl | rfl | rfl <;> rfl
  clear Q1 Q2 Q3 Q4 Q5 j1 j2 j3 j4 j5 j6 j7 j8
  refine awp_seq ?_
  refine awp_seq ?_
  refine awpF_region ?_; intro K hK; simp only [push_cast, seval]; (try simp (disch := omega) only [wrapI]); (repeat ((with_reducible refine And.intro ?_ ?_); (focus (exact ob1)))); refine hK _ ?_; clear hK K
  refine awp_block ?_
  refine awp_loopP (α := Nat) (st := fun k => ⟨[(13, .d (.sl (T.map encR))), (19, .ref 0 0 5), (20, .d (.int .i64 k))], [.data 1 PR]⟩) (inv := fun k => k ≤ 5) (μ := fun k => 5 - k) (x0 := 0) (r0 := [21]) (Nat.zero_le _) ?_ ?_
  · rw [hPR]
    simp only [pairD, rN]
    exact ⟨by simp, by simp, by simp [push_cast, seval], by simp [push_cast, seval], by simp [push_cast, seval], by simp [push_cast, seval]⟩
  clear hPR
  intro k hk
  refine awp_seq ?_
  refine awp_seq ?_
  refine awpF_region ?_; intro K hK; simp only [push_cast, seval]; (try simp (disch := omega) only [wrapI]); (repeat ((with_reducible refine And.intro ?_ ?_); (focus (exact ob1)))); refine hK _ ?_; clear hK K
  apply awp_cond; (focus (simp only [push_cast, seval]; rfl))
  · intro h3; (try simp only [decide_eq_true_eq, decide_eq_false_iff_not, Bool.not_eq_true', Bool.not_eq_false', Bool.and_eq_true, Bool.or_eq_true, Bool.not_eq_true] at h3)
    obtain ⟨F, G, hFG, hsm⟩ := hget k (by omega)
    refine awp_skip ?_
    refine awp_seq ?_
    refine awp_block ?_
    refine awp_seq ?_
    refine awpF_region ?_; intro K hK; simp only [push_cast, seval]; (try simp (disch := omega) only [wrapI]); (repeat ((with_reducible refine And.intro ?_ ?_); (focus (exact ob1)))); refine hK _ ?_; clear hK K
    refine awp_block ?_
    refine awp_loopP (α := Nat) (st := fun i => ⟨[(13, .d (.sl (T.map encR))), (19, .ref 0 0 5), (20, .d (.int .i64 k)), (21, .d (.int .i64 i))], [.data 1 PR]⟩) (inv := fun i => i ≤ T.length + 1) (μ := fun i => T.length + 1 - i) (x0 := 0) (r0 := [0]) (Nat.zero_le _) ?_ ?_
    · exact ⟨by simp, by simp, by simp [push_cast, seval], by simp [push_cast, seval], by simp [push_cast, seval], by simp [push_cast, seval]⟩
    intro i hi
    refine awp_seq ?_
    refine awp_seq ?_
    refine awpF_region ?_; intro K hK; simp only [push_cast, seval]; (try simp (disch := omega) only [wrapI]); (repeat ((with_reducible refine And.intro ?_ ?_); (focus (exact ob1)))); refine hK _ ?_; clear hK K
    apply awp_cond; (focus (simp only [push_cast, seval]; rfl))
    · intro h4; (try simp only [decide_eq_true_eq, decide_eq_false_iff_not, Bool.not_eq_true', Bool.not_eq_false', Bool.and_eq_true, Bool.or_eq_true, Bool.not_eq_true] at h4)
      obtain ⟨v, k1, k2⟩ := hsm i (by omega)
      refine awp_skip ?_
      refine awp_seq ?_
      refine awp_block ?_
      refine awp_seq ?_
      refine awpF_region ?_; intro K hK; simp only [push_cast, seval, hFG, Int.toNat_natCast]
      (repeat ((with_reducible refine And.intro ?_ ?_); (focus (exact ob1))))
      refine ⟨fun r hr => by rcases hr with rfl | rfl <;> rfl, ?_⟩
      refine CallK.pd (k1) ?_; simp only [push_cast, seval]; (try simp (disch := omega) only [wrapI]); (repeat ((with_reducible refine And.intro ?_ ?_); (focus (exact ob1))))
      refine hK _ ?_; clear hK K
      refine awp_seq ?_
      refine awpF_region ?_; intro K hK; simp only [push_cast, seval, hFG, Int.toNat_natCast]
      (repeat ((with_reducible refine And.intro ?_ ?_); (focus (exact ob1))))
      refine ⟨fun r hr => by rcases hr with rfl | rfl <;> rfl, ?_⟩
      refine CallK.pd (k2) ?_; simp only [push_cast, seval]; (try simp (disch := omega) only [wrapI]); (repeat ((with_reducible refine And.intro ?_ ?_); (focus (exact ob1))))
      refine hK _ ?_; clear hK K
      refine awp_seq ?_
      refine awpF_region ?_; intro K hK; simp only [push_cast, seval, bne_self_eq_false]; (try simp (disch := omega) only [wrapI]); (repeat ((with_reducible refine And.intro ?_ ?_); (focus (exact ob1)))); refine hK _ ?_; clear hK K
      apply awp_cond; (focus (simp only [push_cast, seval]; rfl))
      · intro h
        cases h
      intro _
      refine awp_skip ?_
      refine inblock_norm ?_
      refine awpF_region ?_; intro K hK; simp only [push_cast, seval]; (try simp (disch := omega) only [wrapI]); (repeat ((with_reducible refine And.intro ?_ ?_); (focus (exact ob1)))); refine hK _ ?_; clear hK K
      refine round_endG (i + 1) ([0]) ⟨by omega, by omega, ?_⟩
      push_cast
      exact ⟨by simp, by simp, by simp [push_cast, seval], by simp [push_cast, seval], by simp [push_cast, seval], by simp [push_cast, seval]⟩
    · intro h4; (try simp only [decide_eq_true_eq, decide_eq_false_iff_not, Bool.not_eq_true', Bool.not_eq_false', Bool.and_eq_true, Bool.or_eq_true, Bool.not_eq_true] at h4)
      refine awp_exit ?_; (repeat (first | refine then_exit ?_ | refine inblock_other (by decide) ?_)); refine inblock_same ?_
      refine inblock_norm ?_
      refine awpF_region ?_; intro K hK; simp only [push_cast, seval]; (try simp (disch := omega) only [wrapI]); (repeat ((with_reducible refine And.intro ?_ ?_); (focus (exact ob1)))); refine hK _ ?_; clear hK K
      refine round_endG (k + 1) ([0]) ⟨by omega, by omega, ?_⟩
      push_cast
      exact ⟨by simp, by simp, by simp [push_cast, seval], by simp [push_cast, seval], by simp [push_cast, seval], by simp [push_cast, seval]⟩
  · intro h3; (try simp only [decide_eq_true_eq, decide_eq_false_iff_not, Bool.not_eq_true', Bool.not_eq_false', Bool.and_eq_true, Bool.or_eq_true, Bool.not_eq_true] at h3)
    refine awp_exit ?_; (repeat (first | refine then_exit ?_ | refine inblock_other (by decide) ?_)); refine inblock_same ?_
    refine awp_seq ?_
    refine awpF_region ?_; intro K hK; simp only [push_cast, seval]
    refine CallK.pd (h13) ?_; simp only [push_cast, seval]; (try simp (disch := omega) only [wrapI]); (repeat ((with_reducible refine And.intro ?_ ?_); (focus (exact ob1))))
    refine hK _ ?_; clear hK K
    refine awp_ret ?_; (repeat (first | refine then_ret ?_ | refine inblock_ret ?_ | refine nogoto_ret ?_)); refine fin_of (by simp only [push_cast, seval]; first | done | rfl) ob1 ?_
    rfl
end Go.Aw
