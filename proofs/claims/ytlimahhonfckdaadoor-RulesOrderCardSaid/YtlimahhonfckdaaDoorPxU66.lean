/-
  RulesOrder answers true. Conditions: lengths and numbers that a call can have.
-/
import Derived.Test.YtlimahhonfckdaaDoorPxU65
import Derived.Test.YtlimahhonfckdaaDoorPxU44a
import Derived.Test.YtlimahhonfckdaaDoorPxU41
import Derived.Test.YtlimahhonfckdaaDoorPkD
namespace Go.Aw
set_option linter.unusedSimpArgs false
set_option linter.unusedVariables false
open Go.RowKit Go.Proofs
set_option maxRecDepth 100000

def dvs (ds : List D) : List V := ds.map .d
@[simp] theorem dvs_ren (r : List Nat) : ∀ ds : List D, V.renL r (dvs ds) = dvs ds
  | [] => rfl
  | _ :: l => congrArg (List.cons _) (dvs_ren r l)
@[simp] theorem dvs_bel (n : Nat) : ∀ ds : List D, V.belL n (dvs ds) = true
  | [] => rfl
  | _ :: l => dvs_bel n l
@[simp] theorem dvs_len (ds : List D) : (dvs ds).length = ds.length := List.length_map _
theorem dvs_scr (n : Nat) : ∀ ds : List D, scrL n (dvs ds) = dvs ds
  | [] => rfl
  | _ :: l => congrArg (List.cons _) (dvs_scr n l)
theorem dvs_frz (n : Nat) (rows : List (List D)) : ∀ ds : List D, V.frzL n rows (dvs ds) = dvs ds
  | [] => rfl
  | _ :: l => congrArg (List.cons _) (dvs_frz n rows l)
theorem dvs_get {ds : List D} {i : Nat} {d : D} (h : ds[i]? = some d) : (dvs ds).getD i .junk = .d d := by
  simp [dvs, List.getD_eq_getElem?_getD, h]
def nmD (l : List (List Int)) : List D := l.map fun r => .sl (r.map encI)
theorem nm_leaf : ∀ l : List (List Int), (dvs (nmD l)).all V.leaf = true
  | [] => rfl
  | _ :: l => nm_leaf l
theorem nI_leaf : ∀ l : List Int, (dvs (nI l)).all V.leaf = true
  | [] => rfl
  | _ :: l => nI_leaf l
theorem nm_get {l : List (List Int)} {i : Nat} {x : List Int} (h : l[i]? = some x) : (dvs (nmD l)).getD i .junk = .d (.sl (x.map encI)) := dvs_get (by rw [nmD, List.getElem?_map, h]; rfl)
theorem nI_get {l : List Int} {i : Nat} {x : Int} (h : l[i]? = some x) : (dvs (nI l)).getD i .junk = .d (.int .i64 x) := dvs_get (by rw [nI, List.getElem?_map, h]; rfl)
theorem nm_len (l : List (List Int)) : (nmD l).length = l.length := List.length_map _
def lawO (n : List Int) (r : Int) : Lw := ⟨r % 10, (ruleT n 2 2).flat, ruleT n 2 2⟩
def bkO (nums : List (List Int)) (ranks : List Int) : List Lw := List.zipWith lawO nums ranks
def tsO (rws : List (List Int)) : List (List (List Int)) := rws.map fun l => traceT l 2 10
def encT (T : List (List Int)) : List D := [.sl (T.map encR)]

theorem bk_ok (nums : List (List Int)) (ranks : List Int) (h : nums.length = 3) : bkE (bkO nums ranks) 2 = 0 ∧ treesOk (bkO nums ranks) 2 := by
  have hl : ∀ l, l ∈ bkO nums ranks → ∃ n r, l = lawO n r := fun l hl => by
    obtain ⟨i, hi, rfl⟩ := List.getElem_of_mem hl
    simp only [bkO, List.getElem_zipWith]
    exact ⟨_, _, rfl⟩
  have hlen : (bkO nums ranks).length ≤ 3 := by rw [bkO, List.length_zipWith]; omega
  constructor
  · rw [bkE, if_neg (by omega), lwsE_none fun l h1 => ?_, if_neg (by simp), if_neg (by omega)]
    obtain ⟨n, r, rfl⟩ := hl l h1
    have := Int.emod_nonneg r (show (10 : Int) ≠ 0 by decide)
    have := Int.emod_lt_of_pos r (show (0 : Int) < 10 by decide)
    rw [lwE, if_neg (by simp only [lawO]; omega)]
    exact rule_chk n (by decide) (by decide)
  · intro l h1
    obtain ⟨n, r, rfl⟩ := hl l h1
    have := rule_len n (w := 2) (most := 2) (by decide) (by decide)
    exact ⟨by simp only [lawO]; omega, fun _ => ⟨(rule_W n (by decide) (by decide)).wf, rfl⟩⟩
theorem ts_ok (rws : List (List Int)) : ∀ T, T ∈ tsO rws → trE T 2 = 0 ∧ T.length ≤ 10 := fun T hT => by
  obtain ⟨l, _, rfl⟩ := List.mem_map.1 hT
  have h := trace_ok (l := l) (w := 2) (most := 10) (by decide) (by decide) 10
  rw [List.take_of_length_le (trace_len l 2 10)] at h
  exact ⟨h, trace_len l 2 10⟩
def matV (f : Nat → Nat → Int) (n : Nat) : List Int := (List.range 9).map fun k => if k < n then f (k / 3) (k % 3) else 0
theorem matV_len (f : Nat → Nat → Int) (n : Nat) : (matV f n).length = 9 := by simp [matV]
theorem matV_set (f : Nat → Nat → Int) (i j : Nat) (hi : i < 3) (hj : j < 3) : (matV f (3 * i + j)).set (i * 3 + j) (f i j) = matV f (3 * i + (j + 1)) := by
  apply List.ext_getElem?
  intro k
  have e1 : (3 * i + j) / 3 = i := by omega
  have e2 : (3 * i + j) % 3 = j := by omega
  rw [List.getElem?_set, matV_len]
  simp only [matV, List.getElem?_map]
  rcases Nat.lt_or_ge k 9 with h9 | h9
  · rw [List.getElem?_eq_getElem (by simpa using h9)]
    simp only [List.getElem_range, Option.map_some]
    split
    · rename_i h
      subst h
      rw [if_pos (by omega), if_pos (by omega), show (i * 3 + j) / 3 = i by omega, show (i * 3 + j) % 3 = j by omega]
    · rename_i h
      congr 1
      by_cases hk : k < 3 * i + j
      · rw [if_pos hk, if_pos (by omega)]
      · rw [if_neg hk, if_neg (by omega)]
  · rw [List.getElem?_eq_none (by simpa using h9), if_neg (by omega)]
    rfl
def fO (bk : List Lw) (ts : List (List (List Int))) (i j : Nat) : Int := cmpL (costV bk (ts.getD i [])) (costV bk (ts.getD j []))
theorem coE_ok {b : List Lw} {w : Int} {T : List (List Int)} (h : bkE b w = 0) (ht : trE T w = 0) : coE b w T = 0 := by rw [coE, h, if_neg (by simp), ht]
theorem csV_ok {b : List Lw} {w : Int} {T : List (List Int)} (h : bkE b w = 0) (ht : trE T w = 0) : csV b w T = costV b T := if_pos (coE_ok h ht)
theorem btE_ok {b : List Lw} {w : Int} {S T : List (List Int)} (h : bkE b w = 0) (hs : trE S w = 0) (ht : trE T w = 0) : btE b w S T = 0 := by rw [btE, coE_ok h hs, if_neg (by simp), coE_ok h ht]
theorem btV_ok {b : List Lw} {w : Int} {S T : List (List Int)} (h : bkE b w = 0) (hs : trE S w = 0) (ht : trE T w = 0) : btV b w S T = cmpL (costV b S) (costV b T) := if_pos (btE_ok h hs ht)
theorem cost_pos (b : List Lw) (T : List (List Int)) : ∀ x, x ∈ costV b T → 0 ≤ x := fun x hx => (costL_bd (T := T) (N := (T.length : Int)) (Int.le_refl _) b (List.replicate 10 0) 0 (by decide) (fun y hy => by rw [(List.mem_replicate.1 hy).2]; decide) x hx).1
theorem p11 (nums rws : List (List Int)) (ranks : List Int) (l1 : nums.length = 3) (l2 : ranks.length = 3) (l3 : rws.length = 3) (hn : ∀ l, l ∈ nums → numsOk l) (hr : ∀ l, l ∈ rws → numsOk l) (hk : ∀ x, x ∈ ranks → -9223372036854775808 ≤ x ∧ x ≤ 9223372036854775807) :
    PD Tryd.prog 11 [.agg (nmD nums), .agg (nI ranks), .agg (nmD rws)] (.d (.bool true)) := by
  refine pd_of (fn := Tryd.f11) [.tmp 6] (by kernel_rfl) rfl (by kernel_rfl) (Nat.le_of_ble_eq_true rfl) (by kernel_rfl) rfl rfl ?_
  refine awp_seq ?_
  refine awpF_region ?_; intro K hK; simp only [push_cast, seval]
  rw [show (nmD nums).map V.d = dvs (nmD nums) from rfl, show (nmD rws).map V.d = dvs (nmD rws) from rfl, show (nI ranks).map V.d = dvs (nI ranks) from rfl]
  simp only [nm_leaf, nI_leaf, true_and]
  refine hK _ ?_; clear hK K
  refine awp_seq ?_
  refine awpF_region ?_; intro K hK; simp only [push_cast, seval]; (try simp (disch := omega) only [wrapI]); (repeat ((with_reducible refine And.intro ?_ ?_); (focus (exact ob1)))); refine hK _ ?_; clear hK K
  refine awp_seq ?_
  refine awpF_region ?_; intro K hK; simp only [push_cast, seval]; (try simp (disch := omega) only [wrapI]); (repeat ((with_reducible refine And.intro ?_ ?_); (focus (exact ob1)))); refine hK _ ?_; clear hK K
  refine awp_seq ?_
  refine awp_seq ?_
  refine awpF_region ?_; intro K hK; simp only [push_cast, seval]; (try simp (disch := omega) only [wrapI]); (repeat ((with_reducible refine And.intro ?_ ?_); (focus (exact ob1)))); refine hK _ ?_; clear hK K
  refine awp_virt 7 2 (by simp only [push_cast, seval]) ?_
  refine awp_virt 8 1 (by simp only [push_cast, seval]) ?_
  refine awp_block ?_
  refine awp_loopP (α := Nat) (st := fun i => ⟨[(3, .ptr 0 0 0), (4, .ptr 1 0 0), (5, .ptr 2 0 0), (7, .ref 3 0 i), (8, .ref 4 0 i), (9, .d (.int .i64 i))], [.cells (dvs (nmD nums)), .cells (dvs (nI ranks)), .cells (dvs (nmD rws)), .data 2 (((bkO nums ranks).take i).map encLw), .data 1 (((tsO rws).take i).map encT)]⟩)
    (inv := fun i => i ≤ 3) (μ := fun i => 3 - i) (x0 := 0) (r0 := [0, 1, 2, 3, 4]) (by decide) ?_ ?_
  · rw [List.take_zero, List.take_zero, List.map_nil, List.map_nil]
    exact ⟨by simp, by simp, by simp [push_cast, seval], by simp [push_cast, seval], by simp [push_cast, seval], by simp [push_cast, seval]⟩
  intro i hi
  refine awp_seq ?_
  refine awp_seq ?_
  refine awpF_region ?_; intro K hK; simp only [push_cast, seval]; (try simp (disch := omega) only [wrapI]); (repeat ((with_reducible refine And.intro ?_ ?_); (focus (exact ob1)))); refine hK _ ?_; clear hK K
  apply awp_cond; (focus (simp only [push_cast, seval]; rfl))
  · intro h4; (try simp only [decide_eq_true_eq, decide_eq_false_iff_not, Bool.not_eq_true', Bool.not_eq_false', Bool.and_eq_true, Bool.or_eq_true, Bool.not_eq_true] at h4)
    have hlt : i < 3 := by omega
    obtain ⟨n, en⟩ : ∃ x, nums[i]? = some x := ⟨_, List.getElem?_eq_getElem (by omega)⟩
    obtain ⟨k, ek⟩ : ∃ x, ranks[i]? = some x := ⟨_, List.getElem?_eq_getElem (by omega)⟩
    obtain ⟨w, ew⟩ : ∃ x, rws[i]? = some x := ⟨_, List.getElem?_eq_getElem (by omega)⟩
    have g1 := nm_get en
    have g2 := nI_get ek
    have g3 := nm_get ew
    have eb : (bkO nums ranks)[i]? = some (lawO n k) := by rw [bkO, List.getElem?_zipWith, en, ek]
    have et : (tsO rws)[i]? = some (traceT w 2 10) := by rw [tsO, List.getElem?_map, ew]; rfl
    have q1 := hn n (List.mem_of_getElem? en)
    have q2 := hk k (List.mem_of_getElem? ek)
    have q3 := hr w (List.mem_of_getElem? ew)
    have h26 := p26 n 2 2 q1.1 q1.2 (by decide) (by decide)
    rw [show (partT n 2 2 3 0).1 = ruleT n 2 2 from rfl] at h26
    have h27 := p27 w 2 10 q3.1 q3.2 (by decide) (by decide)
    have h28 := p28 k 10 q2 (by decide)
    have lb : (bkO nums ranks).length = 3 := by rw [bkO, List.length_zipWith, l1, l2]; rfl
    have lt : (tsO rws).length = 3 := by rw [tsO, List.length_map, l3]
    have tb : (((bkO nums ranks).take i).map encLw).take i = ((bkO nums ranks).take i).map encLw := List.take_of_length_le (by simp; omega)
    have tt : (((tsO rws).take i).map encT).take i = ((tsO rws).take i).map encT := List.take_of_length_le (by simp; omega)
    have sb : ((bkO nums ranks).take (i + 1)).map encLw = ((bkO nums ranks).take i).map encLw ++ [[.int .i64 (k % 10), .sl ((ruleT n 2 2).flat.map encNd)]] := by
      rw [List.take_add_one, eb, List.map_append]; rfl
    have st : ((tsO rws).take (i + 1)).map encT = ((tsO rws).take i).map encT ++ [[.sl ((traceT w 2 10).map encR)]] := by
      rw [List.take_add_one, et, List.map_append]; rfl
    refine awp_skip ?_
    refine awp_seq ?_
    refine awp_block ?_
    refine awp_seq ?_
    refine awpF_drawP [0, 1, 2, 3, 5, 6, 7] [4, 8] (DT.op 9 (DT.op 10 (DT.op 11 (DT.op 12 DT.nil)))) (by kernel_rfl) (by kernel_rfl) (by kernel_rfl) ?_; intro K hK; simp only [push_cast, seval, g1, g2, Nat.mul_one, Int.toNat_natCast, dvs_len, dvs_bel, Bool.and_self, nm_len, nI_len, l1, l2, dvs_scr, tb]; (repeat ((with_reducible refine And.intro ?_ ?_); (focus (exact ob1)))); refine ParK.pd (h28) (by first | rfl | simp [V.bel, V.belL]) ?_; simp only [push_cast, seval, g1, g2, Nat.mul_one, Int.toNat_natCast, dvs_len, dvs_bel, Bool.and_self, nm_len, nI_len, l1, l2, dvs_scr, tb]; (try simp (disch := omega) only [wrapI]); (repeat ((with_reducible refine And.intro ?_ ?_); (focus (exact ob1)))); refine ParK.pd (h26) (by first | rfl | simp [V.bel, V.belL]) ?_; simp only [push_cast, seval, g1, g2, Nat.mul_one, Int.toNat_natCast, dvs_len, dvs_bel, Bool.and_self, nm_len, nI_len, l1, l2, dvs_scr, tb]; (try simp (disch := omega) only [wrapI]); (repeat ((with_reducible refine And.intro ?_ ?_); (focus (exact ob1)))); refine hK _ ?_; clear hK K
    refine awpF_region ?_; intro K hK; simp only [push_cast, seval, g3, Nat.mul_one, Int.toNat_natCast, dvs_len, nm_len, l3, dvs_scr]
    (repeat ((with_reducible refine And.intro ?_ ?_); (focus (exact ob1))))
    refine CallK.pd (h27) ?_; simp only [push_cast, seval]; (try simp (disch := omega) only [wrapI]); (repeat ((with_reducible refine And.intro ?_ ?_); (focus (exact ob1))))
    simp only [tt, dvs_scr]
    refine hK _ ?_; clear hK K
    refine awpF_region ?_; intro K hK; simp only [push_cast, seval]; (try simp (disch := omega) only [wrapI]); (repeat ((with_reducible refine And.intro ?_ ?_); (focus (exact ob1)))); refine hK _ ?_; clear hK K
    refine round_endG (i + 1) [0, 1, 2, 3, 4] ⟨by omega, by omega, ?_⟩
    rw [sb, st]
    push_cast
    exact ⟨by simp, by simp, by simp [push_cast, seval], by simp [push_cast, seval], by simp [push_cast, seval], by simp [push_cast, seval]⟩
  · intro h4; (try simp only [decide_eq_true_eq, decide_eq_false_iff_not, Bool.not_eq_true', Bool.not_eq_false', Bool.and_eq_true, Bool.or_eq_true, Bool.not_eq_true] at h4)
    obtain rfl : i = 3 := by omega
    have lb : (bkO nums ranks).length = 3 := by rw [bkO, List.length_zipWith, l1, l2]; rfl
    have lt : (tsO rws).length = 3 := by rw [tsO, List.length_map, l3]
    obtain ⟨hbe, hbt⟩ := bk_ok nums ranks l1
    have hts := ts_ok rws
    generalize bkO nums ranks = bk at *
    generalize tsO rws = ts at *
    rw [List.take_of_length_le (show bk.length ≤ 3 by omega), List.take_of_length_le (show ts.length ≤ 3 by omega)]
    have tb : (bk.map encLw).take 3 = bk.map encLw := List.take_of_length_le (by simp; omega)
    have tt : (ts.map encT).take 3 = ts.map encT := List.take_of_length_le (by simp; omega)
    have hqb : ∀ row, row ∈ bk.map encLw → row.length = 2 := fun row hr => by obtain ⟨_, _, rfl⟩ := List.mem_map.1 hr; rfl
    have hqt : ∀ row, row ∈ ts.map encT → row.length = 1 := fun row hr => by obtain ⟨_, _, rfl⟩ := List.mem_map.1 hr; rfl
    refine awp_exit ?_; (repeat (first | refine then_exit ?_ | refine inblock_other (by decide) ?_)); refine inblock_same ?_
    refine awp_fz (.ref 3 0 3) ?_
    simp only [push_cast, seval, St.fz, St.frz, Blk.rowsD, dvs_frz, List.drop_zero, tb]
    refine awp_fz (.ref 4 0 3) ?_
    simp only [push_cast, seval, St.fz, St.frz, Blk.rowsD, dvs_frz, List.drop_zero, tt]
    refine awp_seq ?_
    refine awpF_region ?_; intro K hK; simp only [push_cast, seval]; (try simp (disch := omega) only [wrapI]); (repeat ((with_reducible refine And.intro ?_ ?_); (focus (exact ob1)))); refine hK _ ?_; clear hK K
    refine awp_seq ?_
    refine awp_seq ?_
    refine awpF_region ?_; intro K hK; simp only [push_cast, seval]; (try simp (disch := omega) only [wrapI]); (repeat ((with_reducible refine And.intro ?_ ?_); (focus (exact ob1)))); refine hK _ ?_; clear hK K
    refine awp_block ?_
    refine awp_loopP (α := Nat) (st := fun i => ⟨[(7, .d (.sl (bk.map encLw))), (8, .d (.sl (ts.map encT))), (10, .ptr 0 0 0), (11, .d (.int .i64 i))], [.cells (cvs (matV (fO bk ts) (3 * i)))]⟩)
      (inv := fun i => i ≤ 3) (μ := fun i => 3 - i) (x0 := 0) (r0 := [5]) (by decide) ?_ ?_
    · rw [show cvs (matV (fO bk ts) (3 * 0)) = [V.d (.int .i64 0), V.d (.int .i64 0), V.d (.int .i64 0), V.d (.int .i64 0), V.d (.int .i64 0), V.d (.int .i64 0), V.d (.int .i64 0), V.d (.int .i64 0), V.d (.int .i64 0)] from rfl]
      exact ⟨by simp, by simp, by simp [push_cast, seval], by simp [push_cast, seval], by simp [push_cast, seval], by simp [push_cast, seval]⟩
    intro i hi
    refine awp_seq ?_
    refine awp_seq ?_
    refine awpF_region ?_; intro K hK; simp only [push_cast, seval]; (try simp (disch := omega) only [wrapI]); (repeat ((with_reducible refine And.intro ?_ ?_); (focus (exact ob1)))); refine hK _ ?_; clear hK K
    apply awp_cond; (focus (simp only [push_cast, seval]; rfl))
    · intro h5; (try simp only [decide_eq_true_eq, decide_eq_false_iff_not, Bool.not_eq_true', Bool.not_eq_false', Bool.and_eq_true, Bool.or_eq_true, Bool.not_eq_true] at h5)
      have hlt : i < 3 := by omega
      obtain ⟨T, eT⟩ : ∃ x, ts[i]? = some x := ⟨_, List.getElem?_eq_getElem (by omega)⟩
      obtain ⟨tr1, tr2⟩ := hts T (List.mem_of_getElem? eT)
      have h41 := p41 bk 2 T hbt (by omega) (by omega)
      have h42 := p42 bk 2 [] T hbt (by omega) (by decide) (by omega)
      rw [coE_ok hbe tr1, csV_ok hbe tr1] at h41
      rw [btE_ok hbe rfl tr1, btV_ok hbe rfl tr1] at h42
      have hle := cmpL_least (costV_nil bk) (cost_pos bk T)
      have hcl := costV_len bk T
      have ef : ∀ (j : Nat) (U : List (List Int)), ts[j]? = some U → fO bk ts i j = cmpL (costV bk T) (costV bk U) := fun j U h => by
        rw [fO, List.getD_eq_getElem?_getD, List.getD_eq_getElem?_getD, eT, h]; rfl
      have hct : ∀ (U : List (List Int)), trE U 2 = 0 → U.length ≤ 10 → PD Tryd.prog 42 [.sl (bk.map encLw), .int .i64 2, .sl (T.map encR), .sl (U.map encR)] (.tup [.d (.int .i64 (cmpL (costV bk T) (costV bk U))), .d (.int .i64 0)]) := fun U u1 u2 => by
        have := p42 bk 2 T U hbt (by omega) (by omega) (by omega)
        rw [btE_ok hbe tr1 u1, btV_ok hbe tr1 u1] at this
        exact this
      have hcl2 : ∀ U, (costV bk U).length = 10 := costV_len bk
      generalize hxs : costV bk T = xs at *
      generalize cmpL (costV bk []) xs = z0 at *
      have hd : decide (z0 > 0) = false := decide_eq_false (by omega)
      refine awp_skip ?_
      refine awp_seq ?_
      refine awp_block ?_
      refine awp_seq ?_
      refine awpF_region ?_; intro K hK; simp only [push_cast, seval, eT, encT, Int.toNat_natCast]
      (repeat ((with_reducible refine And.intro ?_ ?_); (focus (exact ob1))))
      refine CallK.pd (h41) ?_; simp only [push_cast, seval]; (try simp (disch := omega) only [wrapI]); (repeat ((with_reducible refine And.intro ?_ ?_); (focus (exact ob1))))
      refine hK _ ?_; clear hK K
      refine awp_seq ?_
      refine awp_seq ?_
      refine awpF_region ?_; intro K hK; simp only [push_cast, seval, bne_self_eq_false, List.length_map, hcl]; (try simp (disch := omega) only [wrapI]); (repeat ((with_reducible refine And.intro ?_ ?_); (focus (exact ob1)))); refine hK _ ?_; clear hK K
      apply awp_cond; (focus (simp only [push_cast, seval]; rfl))
      · intro h; cases h
      intro _
      refine awp_skip ?_
      refine awp_seq ?_
      refine awpF_region ?_; intro K hK; simp only [push_cast, seval, eT, encT, Int.toNat_natCast]
      (repeat ((with_reducible refine And.intro ?_ ?_); (focus (exact ob1))))
      refine CallK.pd (h42) ?_; simp only [push_cast, seval]; (try simp (disch := omega) only [wrapI]); (repeat ((with_reducible refine And.intro ?_ ?_); (focus (exact ob1))))
      refine hK _ ?_; clear hK K
      refine awp_seq ?_
      refine awp_seq ?_
      refine awpF_region ?_; intro K hK; simp only [push_cast, seval, bne_self_eq_false, hd]; (try simp (disch := omega) only [wrapI]); (repeat ((with_reducible refine And.intro ?_ ?_); (focus (exact ob1)))); refine hK _ ?_; clear hK K
      apply awp_cond; (focus (simp only [push_cast, seval]; rfl))
      · intro h; cases h
      intro _
      refine awp_skip ?_
      refine awp_seq ?_
      refine awpF_region ?_; intro K hK; simp only [push_cast, seval]; (try simp (disch := omega) only [wrapI]); (repeat ((with_reducible refine And.intro ?_ ?_); (focus (exact ob1)))); refine hK _ ?_; clear hK K
      refine awp_block ?_
      refine awp_loopP (α := Nat) (st := fun j => ⟨[(7, .d (.sl (bk.map encLw))), (8, .d (.sl (ts.map encT))), (10, .ptr 0 0 0), (11, .d (.int .i64 i)), (12, .d (.sl (xs.map encI))), (15, .d (.int .i64 j))], [.cells (cvs (matV (fO bk ts) (3 * i + j)))]⟩)
        (inv := fun j => j ≤ 3) (μ := fun j => 3 - j) (x0 := 0) (r0 := [0]) (by decide) ?_ ?_
      · exact ⟨by simp, by simp, by simp [push_cast, seval], by simp [push_cast, seval], by simp [push_cast, seval], by simp [push_cast, seval]⟩
      intro j hj
      refine awp_seq ?_
      refine awp_seq ?_
      refine awpF_region ?_; intro K hK; simp only [push_cast, seval]; (try simp (disch := omega) only [wrapI]); (repeat ((with_reducible refine And.intro ?_ ?_); (focus (exact ob1)))); refine hK _ ?_; clear hK K
      apply awp_cond; (focus (simp only [push_cast, seval]; rfl))
      · intro h6; (try simp only [decide_eq_true_eq, decide_eq_false_iff_not, Bool.not_eq_true', Bool.not_eq_false', Bool.and_eq_true, Bool.or_eq_true, Bool.not_eq_true] at h6)
        have hjt : j < 3 := by omega
        obtain ⟨U, eU⟩ : ∃ x, ts[j]? = some x := ⟨_, List.getElem?_eq_getElem (by omega)⟩
        obtain ⟨u1, u2⟩ := hts U (List.mem_of_getElem? eU)
        have k41 := p41 bk 2 U hbt (by omega) (by omega)
        rw [coE_ok hbe u1, csV_ok hbe u1] at k41
        have k42 := hct U u1 u2
        have hfij := ef j U eU
        have hz := cmpL_zero (a := xs) (b := costV bk U) (by rw [hcl, hcl2])
        have k34 := p34 xs (costV bk U) (by omega)
        generalize costV bk U = ys at *
        generalize cmpL xs ys = v at *
        have hs : (v == 0) = (xs == ys) := by
          by_cases h : v = 0
          · rw [hz.1 h, h]; simp
          · have : ¬ xs = ys := fun e => h (hz.2 e)
            rw [beq_eq_false_iff_ne.2 h, beq_eq_false_iff_ne.2 this]
        have hset := matV_set (fO bk ts) i j hlt hjt
        rw [hfij] at hset
        have hml := matV_len (fO bk ts) (3 * i + j)
        generalize matV (fO bk ts) (3 * i + j) = M at *
        refine awp_skip ?_
        refine awp_seq ?_
        refine awp_block ?_
        refine awp_seq ?_
        refine awpF_region ?_; intro K hK; simp only [push_cast, seval, eU, encT, Int.toNat_natCast]
        (repeat ((with_reducible refine And.intro ?_ ?_); (focus (exact ob1))))
        refine CallK.pd (k41) ?_; simp only [push_cast, seval]; (try simp (disch := omega) only [wrapI]); (repeat ((with_reducible refine And.intro ?_ ?_); (focus (exact ob1))))
        refine hK _ ?_; clear hK K
        refine awp_seq ?_
        refine awpF_draw [0,1,2,3,4,5,6,7,8,9,10,11,12,13,14] (by kernel_rfl) (by kernel_rfl) rfl ?_; intro K hK; simp only [push_cast, seval, eU, eT, encT, Int.toNat_natCast]
        (repeat ((with_reducible refine And.intro ?_ ?_); (focus (exact ob1))))
        refine CallK.pd (k42) ?_; simp only [push_cast, seval]; (try simp (disch := omega) only [wrapI]); (repeat ((with_reducible refine And.intro ?_ ?_); (focus (exact ob1))))
        refine hK _ ?_; clear hK K
        refine awp_seq ?_
        refine awp_seq ?_
        refine awpF_region ?_; intro K hK; simp only [push_cast, seval, bne_self_eq_false, hs]
        refine CallK.pg (fun _ => k34) ?_; simp only [push_cast, seval]; (try simp (disch := omega) only [wrapI]); (repeat ((with_reducible refine And.intro ?_ ?_); (focus (exact ob1))))
        simp only [bne_self_eq_false]
        (repeat ((with_reducible refine And.intro ?_ ?_); (focus (exact ob1))))
        refine hK _ ?_; clear hK K
        apply awp_cond; (focus (simp only [push_cast, seval]; rfl))
        · intro h; cases h
        intro _
        refine awp_skip ?_
        refine awpF_region ?_; intro K hK; simp only [push_cast, seval, Nat.mul_one, Int.toNat_natCast]; (try simp (disch := omega) only [wrapI]); (repeat ((with_reducible refine And.intro ?_ ?_); (focus (exact ob1)))); refine hK _ ?_; clear hK K
        rw [if_neg (by rw [cvs_len, hml]; omega), cvs_put _ _ _ (by rw [hml]; omega), hset]
        refine inblock_norm ?_
        refine awpF_region ?_; intro K hK; simp only [push_cast, seval]; (try simp (disch := omega) only [wrapI]); (repeat ((with_reducible refine And.intro ?_ ?_); (focus (exact ob1)))); refine hK _ ?_; clear hK K
        refine round_endG (j + 1) [0] ⟨by omega, by omega, ?_⟩
        push_cast
        exact ⟨by simp, by simp, by simp [push_cast, seval], by simp [push_cast, seval], by simp [push_cast, seval], by simp [push_cast, seval]⟩
      · intro h6; (try simp only [decide_eq_true_eq, decide_eq_false_iff_not, Bool.not_eq_true', Bool.not_eq_false', Bool.and_eq_true, Bool.or_eq_true, Bool.not_eq_true] at h6)
        obtain rfl : j = 3 := by omega
        refine awp_exit ?_; (repeat (first | refine then_exit ?_ | refine inblock_other (by decide) ?_)); refine inblock_same ?_
        refine awpF_region ?_; intro K hK; simp only [push_cast, seval]; (try simp (disch := omega) only [wrapI]); (repeat ((with_reducible refine And.intro ?_ ?_); (focus (exact ob1)))); refine hK _ ?_; clear hK K
        refine round_endG (i + 1) [0] ⟨by omega, by omega, ?_⟩
        rw [show 3 * (i + 1) = 3 * i + 3 by omega]
        push_cast
        exact ⟨by simp, by simp, by simp [push_cast, seval], by simp [push_cast, seval], by simp [push_cast, seval], by simp [push_cast, seval]⟩
    · intro h5; (try simp only [decide_eq_true_eq, decide_eq_false_iff_not, Bool.not_eq_true', Bool.not_eq_false', Bool.and_eq_true, Bool.or_eq_true, Bool.not_eq_true] at h5)
      obtain rfl : i = 3 := by omega
      refine awp_exit ?_; (repeat (first | refine then_exit ?_ | refine inblock_other (by decide) ?_)); refine inblock_same ?_
      obtain ⟨T0, T1, T2, rfl⟩ : ∃ T0 T1 T2, ts = [T0, T1, T2] := by
        match ts, lt with
        | [a, b, c], _ => exact ⟨a, b, c, rfl⟩
      have h13 := p13
      have c0 := costV_len bk T0
      have c1 := costV_len bk T1
      have c2 := costV_len bk T2
      have n1 := cmpL_neg (costV bk T0) (costV bk T1)
      have n2 := cmpL_neg (costV bk T0) (costV bk T2)
      have n3 := cmpL_neg (costV bk T1) (costV bk T2)
      have n4 := cmpL_tri (costV bk T0) (costV bk T1)
      have n5 := cmpL_tri (costV bk T0) (costV bk T2)
      have n6 := cmpL_tri (costV bk T1) (costV bk T2)
      have tr := cmpL_trans (a := costV bk T0) (b := costV bk T1) (c := costV bk T2) (by rw [c0, c1]) (by rw [c1, c2])
      have hM : cvs (matV (fO bk [T0, T1, T2]) (3 * 3)) = [dI (cmpL (costV bk T0) (costV bk T0)), dI (cmpL (costV bk T0) (costV bk T1)), dI (cmpL (costV bk T0) (costV bk T2)), dI (cmpL (costV bk T1) (costV bk T0)), dI (cmpL (costV bk T1) (costV bk T1)), dI (cmpL (costV bk T1) (costV bk T2)), dI (cmpL (costV bk T2) (costV bk T0)), dI (cmpL (costV bk T2) (costV bk T1)), dI (cmpL (costV bk T2) (costV bk T2))] := rfl
      rw [hM]
      clear hM
      simp only [dI]
      generalize cmpL (costV bk T0) (costV bk T0) = c00 at *
      generalize cmpL (costV bk T0) (costV bk T1) = c01 at *
      generalize cmpL (costV bk T0) (costV bk T2) = c02 at *
      generalize cmpL (costV bk T1) (costV bk T0) = c10 at *
      generalize cmpL (costV bk T1) (costV bk T1) = c11 at *
      generalize cmpL (costV bk T1) (costV bk T2) = c12 at *
      generalize cmpL (costV bk T2) (costV bk T0) = c20 at *
      generalize cmpL (costV bk T2) (costV bk T1) = c21 at *
      generalize cmpL (costV bk T2) (costV bk T2) = c22 at *
      have m1 : (c01 == 0 - c10) = true := by rw [← n1]; exact beq_self_eq_true _
      have m2 : (c02 == 0 - c20) = true := by rw [← n2]; exact beq_self_eq_true _
      have m3 : (c12 == 0 - c21) = true := by rw [← n3]; exact beq_self_eq_true _
      have w1 : IntKind.i64.wrap (0 - c10) = 0 - c10 := wrapI _ (by omega)
      have w2 : IntKind.i64.wrap (0 - c20) = 0 - c20 := wrapI _ (by omega)
      have w3 : IntKind.i64.wrap (0 - c21) = 0 - c21 := wrapI _ (by omega)
      by_cases p1 : 0 < c01
      · have d1 : decide (c01 > 0) = true := decide_eq_true p1
        refine awp_seq ?_
        refine awpF_region ?_; intro K hK; simp only [push_cast, seval, w1, w2, w3, m1, m2, m3, d1]
        refine CallK.pg (fun _ => h13) ?_; simp only [push_cast, seval]; (try simp (disch := omega) only [wrapI]); (repeat ((with_reducible refine And.intro ?_ ?_); (focus (exact ob1))))
        refine hK _ ?_; clear hK K
        refine awp_ret ?_; (repeat (first | refine then_ret ?_ | refine inblock_ret ?_ | refine nogoto_ret ?_)); refine fin_of (by simp only [push_cast, seval]; first | done | rfl) ob1 ?_
        rfl
      have d1 : decide (c01 > 0) = false := decide_eq_false p1
      by_cases p2 : 0 < c12
      · have d2 : decide (c12 > 0) = true := decide_eq_true p2
        refine awp_seq ?_
        refine awpF_region ?_; intro K hK; simp only [push_cast, seval, w1, w2, w3, m1, m2, m3, d1, d2]
        refine CallK.pg (fun _ => h13) ?_; simp only [push_cast, seval]; (try simp (disch := omega) only [wrapI]); (repeat ((with_reducible refine And.intro ?_ ?_); (focus (exact ob1))))
        refine hK _ ?_; clear hK K
        refine awp_ret ?_; (repeat (first | refine then_ret ?_ | refine inblock_ret ?_ | refine nogoto_ret ?_)); refine fin_of (by simp only [push_cast, seval]; first | done | rfl) ob1 ?_
        rfl
      have d2 : decide (c12 > 0) = false := decide_eq_false p2
      have d3 : decide (c02 ≤ 0) = true := decide_eq_true (tr (by omega) (by omega))
      refine awp_seq ?_
      refine awpF_region ?_; intro K hK; simp only [push_cast, seval, w1, w2, w3, m1, m2, m3, d1, d2, d3]
      refine CallK.pg (fun _ => h13) ?_; simp only [push_cast, seval]; (try simp (disch := omega) only [wrapI]); (repeat ((with_reducible refine And.intro ?_ ?_); (focus (exact ob1))))
      refine hK _ ?_; clear hK K
      refine awp_ret ?_; (repeat (first | refine then_ret ?_ | refine inblock_ret ?_ | refine nogoto_ret ?_)); refine fin_of (by simp only [push_cast, seval]; first | done | rfl) ob1 ?_
      rfl
end Go.Aw
