/-
  Texts of the library, one behind the other. Over any program; no condition.
-/
import Derived.Test.YtecindhbaekncaaPcD
import Derived.Test.YtecindhbaekncaaPkT
namespace Go.Proofs
set_option linter.unusedSimpArgs false
set_option linter.unusedVariables false
open Go.RowKit Go.Maps Go.Sort Go.Shelf

end Go.Proofs

namespace Go.Aw
open Go.RowKit Go.Proofs Go.Sort Go.Shelf Go.Rg

end Go.Aw

namespace Go.Aw
set_option linter.unusedSimpArgs false
set_option linter.unusedVariables false
open Go.RowKit Go.Proofs Go.Rg

theorem esG_sh (cs : List Sp) : (esG cs).map (fun p => (V.sh 0 p.1, V.sh 0 p.2)) = esG cs := by
  apply List.ext_getElem?
  intro j
  simp only [List.getElem?_map, esG, List.getElem?_mapIdx]
  cases (setOf cs)[j]? with
  | none => rfl
  | some d => simp [encSp, spV, V.sh, V.shL]
theorem blG_sh (cs : List Sp) : heapSh 0 (blG cs) = blG cs := by
  unfold blG
  induction setOf cs with
  | nil => rfl
  | cons d l ih => simp only [List.map_cons, heapSh, ih]; rfl
/-- The map's entries when the rows of the first i have been given up. -/
def esH (cs : List Sp) (i : Nat) : List (V × V) := (setOf cs).mapIdx fun k d => (encSp d, if k < i then .d (.sl ((idxS cs d).map encN)) else .ref (k + 1) 0 (idxS cs d).length)
def blH (cs : List Sp) (i : Nat) : List Blk := (setOf cs).mapIdx fun k d => if k < i then .gone else rowG cs d
def esF (cs : List Sp) : List (V × V) := (setOf cs).map fun d => (encSp d, .d (.sl ((idxS cs d).map encN)))
theorem esH_zero (cs : List Sp) : esH cs 0 = esG cs := by simp [esH, esG]
theorem blH_zero (cs : List Sp) : blH cs 0 = blG cs := by
  apply List.ext_getElem?
  intro j
  simp only [blH, blG, List.getElem?_mapIdx, List.getElem?_map]
  rfl
theorem esH_end (cs : List Sp) : esH cs (setOf cs).length = esF cs := by
  apply List.ext_getElem?
  intro j
  simp only [esH, esF, List.getElem?_mapIdx, List.getElem?_map]
  cases h : (setOf cs)[j]? with
  | none => rfl
  | some d =>
    have hj := (List.getElem?_eq_some_iff.1 h).1
    simp [hj]
theorem esH_step {cs : List Sp} {i : Nat} {d : Sp} (h : (setOf cs)[i]? = some d) : (esH cs i).map (fun p => (V.frz (i + 1) ((idxS cs d).map encN) p.1, V.frz (i + 1) ((idxS cs d).map encN) p.2)) = esH cs (i + 1) := by
  apply List.ext_getElem?
  intro j
  simp only [List.getElem?_map, esH, List.getElem?_mapIdx]
  cases hj : (setOf cs)[j]? with
  | none => rfl
  | some g =>
    simp only [Option.map_some]
    by_cases h1 : j < i
    · have h2 : j < i + 1 := by omega
      simp [h1, h2, encSp, spV, V.frz, V.frzL]
    · by_cases h3 : j = i
      · subst h3
        rw [h] at hj
        obtain rfl : d = g := by simpa using hj
        have e : List.take (idxS cs d).length (List.map encN (idxS cs d)) = List.map encN (idxS cs d) := List.take_of_length_le (by simp)
        simp [encSp, spV, V.frz, V.frzL, e]
      · have h2 : ¬ j < i + 1 := by omega
        simp [h1, h2, h3, encSp, spV, V.frz, V.frzL]
theorem blH_step (cs : List Sp) (i : Nat) (rows : List (List D)) : (heapFrz (i + 1) rows (blH cs i)).set i .gone = blH cs (i + 1) := by
  apply List.ext_getElem?
  intro j
  rw [heapFrz_eq, List.getElem?_set]
  simp only [List.getElem?_map, blH, List.getElem?_mapIdx, List.length_map, List.length_mapIdx]
  by_cases h3 : i = j
  · subst h3
    cases hj : (setOf cs)[i]? with
    | none =>
      have := List.getElem?_eq_none_iff.1 hj
      simp; omega
    | some g =>
      have := (List.getElem?_eq_some_iff.1 hj).1
      simp [this]
  · rw [if_neg h3]
    cases hj : (setOf cs)[j]? with
    | none => rfl
    | some g =>
      simp only [Option.map_some]
      by_cases h1 : j < i
      · have h2 : j < i + 1 := by omega
        simp [h1, h2, Blk.frz]
      · have h2 : ¬ j < i + 1 := by omega
        simp [h1, h2, rowG, Blk.frz]
theorem fz_data {s : St} {id k off len : Nat} {rows : List (List D)} (h : s.heap[id]? = some (.data k rows)) : s.fz 3 (.ref id off len) = { tm := tmFrz id rows s.tm, heap := (heapFrz id rows s.heap).set id .gone } := by
  simp only [St.fz, h, Option.getD_some, St.frz, Blk.rowsD]
theorem grid_step {cs : List Sp} {P : Program} {kp : List Nat} {n : Nat} {c : Code} {Q : Exit → St → Prop} {tm : List (Nat × V)} (htm : ∀ j rows, tmFrz (j + 1) rows tm = tm) {i : Nat} (hi : i < (setOf cs).length)
    (h : AWP P kp n c ⟨tm, .mp (esH cs (i + 1)) :: blH cs (i + 1)⟩ Q) : AWP P kp n c ⟨tm, .mp (esH cs i) :: blH cs i⟩ Q := by
  obtain ⟨d, hd⟩ : ∃ d, (setOf cs)[i]? = some d := ⟨_, List.getElem?_eq_getElem hi⟩
  refine awp_fz (.ref (i + 1) 0 0) ?_
  have hb : (Blk.mp (esH cs i) :: blH cs i)[i + 1]? = some (.data 1 ((idxS cs d).map encN)) := by
    show (blH cs i)[i]? = _
    simp [blH, hd, rowG]
  rw [fz_data (s := ⟨tm, .mp (esH cs i) :: blH cs i⟩) hb, htm]
  show AWP P kp n c ⟨tm, Blk.frz (i + 1) _ (.mp (esH cs i)) :: (heapFrz (i + 1) _ (blH cs i)).set i .gone⟩ Q
  rw [blH_step, show Blk.frz (i + 1) ((idxS cs d).map encN) (.mp (esH cs i)) = .mp (esH cs (i + 1)) from congrArg Blk.mp (esH_step hd)]
  exact h
theorem grid_all {cs : List Sp} {P : Program} {kp : List Nat} {n : Nat} {c : Code} {Q : Exit → St → Prop} {tm : List (Nat × V)} (htm : ∀ j rows, tmFrz (j + 1) rows tm = tm)
    (h : AWP P kp n c ⟨tm, .mp (esF cs) :: blH cs (setOf cs).length⟩ Q) : AWP P kp n c ⟨tm, .mp (esG cs) :: blG cs⟩ Q := by
  have key : ∀ m i, i + m = (setOf cs).length → AWP P kp n c ⟨tm, .mp (esH cs i) :: blH cs i⟩ Q := by
    intro m
    induction m with
    | zero =>
      intro i hi
      obtain rfl : i = (setOf cs).length := by omega
      rw [esH_end]
      exact h
    | succ m ih =>
      intro i hi
      exact grid_step htm (by omega) (ih (i + 1) (by omega))
  have := key (setOf cs).length 0 (by omega)
  rw [esH_zero, blH_zero] at this
  exact this
theorem esF_bel (cs : List Sp) (n : Nat) : Blk.bel n (.mp (esF cs)) = true := by
  simp only [Blk.bel, esF, List.all_eq_true, List.mem_map]
  rintro p ⟨d, _, rfl⟩
  rfl
theorem esF_belm (cs : List Sp) (n : Nat) (a b : V) (h : (a, b) ∈ esF cs) : V.bel n a = true ∧ V.bel n b = true := by
  simp only [esF, List.mem_map, Prod.mk.injEq] at h
  obtain ⟨d, _, rfl, rfl⟩ := h
  exact ⟨rfl, rfl⟩
theorem esF_keep (cs : List Sp) (r : List Nat) : (esF cs).map (fun p => (V.ren r p.1, V.ren r p.2)) = esF cs := by
  simp only [esF, List.map_map]
  apply List.map_congr_left
  intro d _
  simp [encSp, spV, V.ren, V.renL]
theorem esF_len (cs : List Sp) : (esF cs).length = (setOf cs).length := by simp [esF]
theorem esF_scr (i : Nat) (cs : List Sp) : (esF cs).map (fun p => (scr i p.1, scr i p.2)) = esF cs := by
  simp only [esF, List.map_map]
  apply List.map_congr_left
  intro d _
  simp [scr, encSp, spV, V.has, V.hasL]
theorem esF_get {cs : List Sp} {j : Nat} {p : V × V} (h : (esF cs)[j]? = some p) : ∃ d, (setOf cs)[j]? = some d ∧ p = (encSp d, .d (.sl ((idxS cs d).map encN))) := by
  simp only [esF, List.getElem?_map, Option.map_eq_some_iff] at h
  obtain ⟨d, hd, rfl⟩ := h
  exact ⟨d, hd, rfl⟩
theorem esF_keys (cs : List Sp) : (esF cs).map (·.1) = (setOf cs).map encSp := by simp [esF]
theorem esF_find {cs : List Sp} {c : Sp} (h : c ∈ cs) : ∃ k, mfind (esF cs) (encSp c) = some k ∧ (esF cs)[k]? = some (encSp c, .d (.sl ((idxS cs c).map encN))) := by
  rw [find_keys (esF_keys cs)]
  cases hf : (setOf cs).findIdx? fun x => decide (x = c) with
  | none =>
    rw [List.findIdx?_eq_none_iff] at hf
    have := hf c ((mem_setOf _ _).2 h)
    simp at this
  | some j =>
    rw [List.findIdx?_eq_some_iff_getElem] at hf
    obtain ⟨hj, he, _⟩ := hf
    have he : (setOf cs)[j] = c := by simpa using he
    exact ⟨j, rfl, by simp [esF, List.getElem?_eq_getElem hj, he]⟩
theorem seenL_keys {cs : List Sp} {seen : List Nat} (hn : seen.Nodup) (hall : ∀ j, j < (setOf cs).length → j ∈ seen) : (seenL (setOf cs) seen).Nodup ∧ ∀ c, c ∈ seenL (setOf cs) seen ↔ c ∈ cs := by
  refine ⟨?_, fun c => by rw [seenL_all hall, mem_setOf]⟩
  unfold seenL
  rw [List.nodup_iff_pairwise_ne, List.pairwise_filterMap]
  refine hn.imp fun {a b} hab x hx y hy e => hab ?_
  subst e
  exact nd_get hx hy

theorem p40 (ps : List Pt) (size : Int) (ks : List Sp) (hk : IsKeys (ps.map (cellP size)) ks) : PC Try.prog 40 [.sl (ps.map encP), .int .i64 size] fun x H => if idxErr ps size = 0 then x = .tup [.ref 0 0 ks.length, .d (.int .i64 0)] ∧ H = [.data 3 ((bksS (ps.map (cellP size)) ks).map encBk)] else x = .tup [.nil, .d (.int .i64 (idxErr ps size))] ∧ H = [] := by
  have h80 := p80 ps size
  by_cases he : idxErr ps size = 0
  · have hc : check ps = 0 := by
      unfold idxErr at he
      split at he
      · rename_i h; exact absurd he h
      · rename_i h; simpa using h
    have hs : 1 ≤ size ∧ size ≤ 16777216 := by
      unfold idxErr at he
      rw [if_neg (by simpa using hc)] at he
      split at he
      · assumption
      · cases he
    rw [he] at h80
    simp only [he, if_true]
    have h81 := p81 ps size hs hc
    refine pc_of (fn := Try.f40) [.tmp 4, .tmp 5] (by kernel_rfl) rfl (by kernel_rfl) (Nat.le_of_ble_eq_true rfl) (by kernel_rfl) rfl ?_
    refine awp_seq ?_
    refine awpF_region ?_; intro K hK; simp only [push_cast, seval]; (try simp (disch := omega) only [wrapI]); (repeat ((with_reducible refine And.intro ?_ ?_); (focus (exact ob1)))); refine hK _ ?_; clear hK; clear K
    refine awp_seq ?_
    refine awp_seq ?_
    refine awpF_region ?_; intro K hK; simp only [push_cast, seval]
    refine CallK.pd (h80) ?_; simp only [push_cast, seval]; (try simp (disch := omega) only [wrapI]); (repeat ((with_reducible refine And.intro ?_ ?_); (focus (exact ob1))))
    refine hK _ ?_; clear hK; clear K
    refine awp_seq ?_
    refine awpF_region ?_; intro K hK; simp only [push_cast, seval]; (try simp (disch := omega) only [wrapI]); (repeat ((with_reducible refine And.intro ?_ ?_); (focus (exact ob1)))); refine hK _ ?_; clear hK; clear K
    apply awp_cond; (focus (simp only [push_cast, seval]; rfl))
    · intro h
      exact absurd h (by decide)
    intro h
    clear h
    refine awp_skip ?_
    refine awp_seq ?_
    refine awpF_region ?_; intro K hK; simp only [push_cast, seval]
    refine CallK.rel h81 ?_
    intro x' H' hR
    have hx' := hR.1
    have hH' := hR.2
    clear hR
    subst hx'
    subst hH'
    simp only [push_cast, seval, esG_sh, blG_sh]
    have hcl : (ps.map (cellP size)).length ≤ 100000 := by rw [List.length_map]; have := check_len hc; omega
    have hkb : ∀ d, d ∈ ps.map (cellP size) → -9223372036854775808 ≤ d.1 ∧ d.1 ≤ 9223372036854775807 ∧ -9223372036854775808 ≤ d.2 ∧ d.2 ≤ 9223372036854775807 := fun d hd => cell_bd hc hs.1 hd
    generalize hcs : ps.map (cellP size) = cs at hk hcl hkb ⊢
    refine hK _ ?_; clear hK; clear K
    refine grid_all ?_ ?_
    · intro _ _; rfl
    refine awp_ren [0] _ (ren_keep (H := [.mp (esF cs)]) (tm' := [(0, .d (.sl (ps.map encP))), (1, .d (.int .i64 size)), (7, .map 0)]) ?_ ?_ ?_) ?_
    · simp [esF_bel]
    · simp [push_cast, seval]
    · simp [push_cast, seval]
    refine awp_seq ?_
    refine awpF_region ?_; intro K hK; simp only [push_cast, seval]; (try simp (disch := omega) only [wrapI]); (repeat ((with_reducible refine And.intro ?_ ?_); (focus (exact ob1)))); refine hK _ ?_; clear hK; clear K
    refine awp_virt 8 2 rfl ?_
    simp only [push_cast, seval]
    refine awp_seq ?_
    refine awp_seq ?_
    refine awpF_region ?_; intro K hK; simp only [push_cast, seval]; (try simp (disch := omega) only [wrapI]); (repeat ((with_reducible refine And.intro ?_ ?_); (focus (exact ob1)))); refine hK _ ?_; clear hK; clear K
    refine awp_block ?_
    refine awp_loopP (st := fun (x : List Nat) => ⟨[(7, .map 0), (8, .ref 1 0 (seenL (setOf cs) x).length), (23, .ptr 2 0 0)], [.mp (esF cs), .data 2 ((seenL (setOf cs) x).map (enD enS)), .it (.map 0) x (setOf cs).length]⟩)
      (inv := fun x => x.Nodup ∧ ∀ j, j ∈ x → j < (setOf cs).length) (μ := fun x => (setOf cs).length - x.length) (x0 := []) (r0 := [0, 1, 2]) ?_ ?_ ?_
    · exact ⟨List.nodup_nil, by simp⟩
    · exact ⟨by simp, by simp, by simp [push_cast, seval, esF_keep, esF_len, seenL], by simp [push_cast, seval, seenL], by simp [push_cast, seval], by simp [push_cast, seval]; exact esF_belm cs 3⟩
    rintro seen ⟨hnd, hlt⟩
    refine awp_seq ?_
    refine awpF_region ?_; intro K hK; simp only [push_cast, seval]
    refine ⟨(esF_len cs).symm, fun hall => ?_, fun j pe hj hns => ?_⟩
    · have hall : ∀ j, j < (setOf cs).length → j ∈ seen := fun j hj => hall j (by rw [esF_len]; exact hj)
      obtain ⟨hzn, hzm⟩ := seenL_keys hnd hall
      generalize seenL (setOf cs) seen = zs at hzn hzm ⊢
      have hzl : zs.length ≤ 1000000 := by
        have := nodup_le hzn fun c hc => (hzm c).1 hc
        omega
      have hsk : sortS zs = ks := keys_uniq (sortS_keys hzn hzm) hk
      have hksl : ks.length = zs.length := by rw [← hsk, sortS_len]
      simp only [push_cast, seval]
      (repeat ((with_reducible refine And.intro ?_ ?_); (focus (exact ob1))))
      refine hK _ ?_; clear hK; clear K
      refine awp_seq ?_
      apply awp_cond; (focus (simp only [push_cast, seval]; rfl))
      · intro h9; (try simp only [decide_eq_true_eq, decide_eq_false_iff_not, Bool.not_eq_true', Bool.not_eq_false', Bool.and_eq_true, Bool.or_eq_true, Bool.not_eq_true] at h9)
        cases h9
      intro h9; (try simp only [decide_eq_true_eq, decide_eq_false_iff_not, Bool.not_eq_true', Bool.not_eq_false', Bool.and_eq_true, Bool.or_eq_true, Bool.not_eq_true] at h9)
      refine awp_exit ?_; (repeat (first | refine then_exit ?_ | refine inblock_other (by decide) ?_)); refine inblock_same ?_
      refine awp_seq ?_
      refine awpF_regionH [1] ?_; intro K hK; simp only [push_cast, seval, List.zipIdx_cons, List.zipIdx_nil]
      refine HeapK.mk _ (a82 zs hzl 1 _ _ ?_) ?_
      · rfl
      intro x' H' hR
      obtain ⟨hx', hH'⟩ := hR
      subst hx'
      subst hH'
      rw [hsk]
      simp only [push_cast, seval]
      refine hK _ ?_; clear hK; clear K
      refine awp_seq ?_
      refine awpF_region ?_; intro K hK; simp only [push_cast, seval]; (try simp (disch := omega) only [wrapI]); (repeat ((with_reducible refine And.intro ?_ ?_); (focus (exact ob1)))); refine hK _ ?_; clear hK; clear K
      refine awp_virt 10 3 rfl ?_
      simp only [push_cast, seval]
      refine awp_seq ?_
      refine awp_seq ?_
      refine awpF_region ?_; intro K hK; simp only [push_cast, seval]; (try simp (disch := omega) only [wrapI]); (repeat ((with_reducible refine And.intro ?_ ?_); (focus (exact ob1)))); refine hK _ ?_; clear hK; clear K
      refine awp_block ?_
      refine awp_loopP (α := Nat) (st := fun i => ⟨[(7, .map 0), (10, .ref 2 0 i), (34, .ref 1 0 ks.length), (35, .d (.int .i64 ks.length)), (36, .d (.int .i64 i))], [.mp (esF cs), .data 2 (ks.map (enD enS)), .data 3 ((bksS cs (ks.take i)).map encBk)]⟩)
        (inv := fun i => i ≤ ks.length) (μ := fun i => ks.length - i) (x0 := 0) (r0 := [0, 1, 3]) ?_ ?_ ?_
      · exact Nat.zero_le _
      · rw [← hksl]
        exact ⟨by simp, by simp, by simp [push_cast, seval, esF_keep, bksS], by simp [push_cast, seval], by simp [push_cast, seval], by simp [push_cast, seval]; exact esF_belm cs 3⟩
      intro i hi
      refine awp_seq ?_
      refine awpF_region ?_; intro K hK; simp only [push_cast, seval]; (try simp (disch := omega) only [wrapI]); (repeat ((with_reducible refine And.intro ?_ ?_); (focus (exact ob1)))); refine hK _ ?_; clear hK; clear K
      refine awp_seq ?_
      apply awp_cond; (focus (simp only [push_cast, seval]; rfl))
      · intro h5; (try simp only [decide_eq_true_eq, decide_eq_false_iff_not, Bool.not_eq_true', Bool.not_eq_false', Bool.and_eq_true, Bool.or_eq_true, Bool.not_eq_true] at h5)
        have hlt2 : i < ks.length := by omega
        obtain ⟨c, hc2⟩ : ∃ c, ks[i]? = some c := ⟨_, List.getElem?_eq_getElem hlt2⟩
        have hcm : c ∈ cs := (hk.2 c).1 (List.mem_of_getElem? hc2)
        obtain ⟨k, hf, hget⟩ := esF_find hcm
        have g1 : (ks.map (enD enS))[i]? = some [.int .i64 c.1, .int .i64 c.2] := by rw [List.getElem?_map, hc2]; rfl
        have hmk : MK Try.prog 34 (esF cs) := mkG (esF_keys cs) (fun d hd => hkb d ((mem_setOf _ _).1 hd)) (nd_setOf cs)
        have hkw : kwf Try.prog 34 (.agg [.d (.int .i64 c.1), .d (.int .i64 c.2)]) := kwf34 (d := c) (hkb c hcm)
        simp only [encSp, spV] at hf hget
        have hMs : List.map (fun p : V × V => (if V.has 2 p.1 = true then jk 2 p.1 else p.1, if V.has 2 p.2 = true then jk 2 p.2 else p.2)) (esF cs) = esF cs := esF_scr 2 cs
        have hbl : ((bksS cs (ks.take i)).map encBk).length = i := by simp [bksS]; omega
        have htk : ((bksS cs (ks.take i)).map encBk).take i = (bksS cs (ks.take i)).map encBk := List.take_of_length_le (by omega)
        have hsn : (bksS cs (ks.take (i + 1))).map encBk = (bksS cs (ks.take i)).map encBk ++ [[.int .i64 c.1, .int .i64 c.2, .sl ((idxS cs c).map encN)]] := by
          rw [List.take_add_one, hc2]
          simp [bksS, encBk]
        refine awp_skip ?_
        refine awp_seq ?_
        refine awp_block ?_
        refine awp_seq ?_
        refine awpF_region ?_; intro K hK; simp only [push_cast, seval, g1]
        (repeat ((with_reducible refine And.intro ?_ ?_); (focus (exact ob1))))
        refine hK _ ?_; clear hK; clear K
        refine awpF_draw [0,1,2,3,4,5,6,7,8] (by kernel_rfl) (by kernel_rfl) rfl ?_; intro K hK; simp only [push_cast, seval, hf, hget, hmk, hkw, hMs, htk]
        refine ⟨fun h => h, by omega, by omega, ?_⟩
        refine hK _ ?_; clear hK; clear K
        refine awpF_region ?_; intro K hK; simp only [push_cast, seval]; (try simp (disch := omega) only [wrapI]); (repeat ((with_reducible refine And.intro ?_ ?_); (focus (exact ob1)))); refine hK _ ?_; clear hK; clear K
        refine round_endG (i + 1) [0, 1, 2] ⟨by omega, by omega, ?_⟩
        rw [hsn]
        exact ⟨by simp, by simp, by simp [push_cast, seval, esF_keep], by simp [push_cast, seval], by simp [push_cast, seval], by simp [push_cast, seval]; exact esF_belm cs 3⟩
      · intro h5; (try simp only [decide_eq_true_eq, decide_eq_false_iff_not, Bool.not_eq_true', Bool.not_eq_false', Bool.and_eq_true, Bool.or_eq_true, Bool.not_eq_true] at h5)
        obtain rfl : i = ks.length := by omega
        refine awp_exit ?_; (repeat (first | refine then_exit ?_ | refine inblock_other (by decide) ?_)); refine inblock_same ?_
        rw [List.take_length]
        refine awp_ren [2] ⟨[(10, .ref 0 0 ks.length)], [.data 3 ((bksS cs ks).map encBk)]⟩ ?_ ?_
        · exact ⟨by simp, by simp, by simp [push_cast, seval], by simp [push_cast, seval], by simp [push_cast, seval], by simp [push_cast, seval]⟩
        refine awp_seq ?_
        refine awpF_region ?_; intro K hK; simp only [push_cast, seval]; (try simp (disch := omega) only [wrapI]); (repeat ((with_reducible refine And.intro ?_ ?_); (focus (exact ob1)))); refine hK _ ?_; clear hK; clear K
        refine awp_ret ?_; (repeat (first | refine then_ret ?_ | refine inblock_ret ?_)); refine fin_of (by simp only [push_cast, seval]; first | done | rfl) ob1 ?_
        rw [hcs]
        exact ⟨rfl, rfl⟩
    · obtain ⟨d, hd, rfl⟩ := esF_get hj
      have hjl : j < (setOf cs).length := (List.getElem?_eq_some_iff.1 hd).1
      have hnd' : (seen ++ [j]).Nodup := by
        rw [List.nodup_append]
        exact ⟨hnd, by simp, fun x hx y hy => by simp at hy; subst hy; rintro rfl; exact hns hx⟩
      have hlt' : ∀ x, x ∈ seen ++ [j] → x < (setOf cs).length := fun x hx => by
        rcases List.mem_append.1 hx with hx | hx
        · exact hlt x hx
        · simp at hx; omega
      have hsl : (seen ++ [j]).length ≤ (setOf cs).length := nd_len hnd' hlt'
      rw [List.length_append, List.length_singleton] at hsl
      have hsn := seenL_snoc (seen := seen) hd
      have hsz : (seenL (setOf cs) seen).length ≤ seen.length := List.length_filterMap_le _ _
      have hso := len_setOf cs
      simp only [encSp, spV]
      simp only [push_cast, seval]
      (repeat ((with_reducible refine And.intro ?_ ?_); (focus (exact ob1))))
      refine hK _ ?_; clear hK; clear K
      refine awp_seq ?_
      apply awp_cond; (focus (simp only [push_cast, seval]; rfl))
      · intro h9; (try simp only [decide_eq_true_eq, decide_eq_false_iff_not, Bool.not_eq_true', Bool.not_eq_false', Bool.and_eq_true, Bool.or_eq_true, Bool.not_eq_true] at h9)
        refine awp_skip ?_
        refine awp_block ?_
        refine awp_seq ?_
        refine awpF_region ?_; intro K hK; simp only [push_cast, seval, List.getLast?_concat, hj, encSp, spV]
        refine ⟨(esF_len cs).symm, by rw [esF_len]; exact hjl, ?_⟩
        refine hK _ ?_; clear hK; clear K
        have hMs : List.map (fun p : V × V => (if V.has 1 p.1 = true then jk 1 p.1 else p.1, if V.has 1 p.2 = true then jk 1 p.2 else p.2)) (esF cs) = esF cs := esF_scr 1 cs
        have htk : ((seenL (setOf cs) seen).map (enD enS)).take (seenL (setOf cs) seen).length = (seenL (setOf cs) seen).map (enD enS) := List.take_of_length_le (by simp)
        refine awpF_region ?_; intro K hK; simp only [push_cast, seval, hMs, htk]
        refine ⟨fun h => h, by omega, by omega, ?_⟩
        refine hK _ ?_; clear hK; clear K
        refine inblock_norm ?_
        refine round_endG (seen ++ [j]) [0, 1, 2] ⟨?_, ⟨hnd', hlt'⟩, ?_⟩
        · rw [List.length_append, List.length_singleton]; omega
        · rw [hsn]
          exact ⟨by simp, by simp, by simp [push_cast, seval, esF_keep, enD, enS], by simp [push_cast, seval], by simp [push_cast, seval], by simp [push_cast, seval]; exact esF_belm cs 3⟩
      · intro h9; (try simp only [decide_eq_true_eq, decide_eq_false_iff_not, Bool.not_eq_true', Bool.not_eq_false', Bool.and_eq_true, Bool.or_eq_true, Bool.not_eq_true] at h9)
        cases h9
  · simp only [if_neg he]
    generalize idxErr ps size = e at h80 he ⊢
    refine pc_of (fn := Try.f40) [.tmp 4, .tmp 5] (by kernel_rfl) rfl (by kernel_rfl) (Nat.le_of_ble_eq_true rfl) (by kernel_rfl) rfl ?_
    refine awp_seq ?_
    refine awpF_region ?_; intro K hK; simp only [push_cast, seval]; (try simp (disch := omega) only [wrapI]); (repeat ((with_reducible refine And.intro ?_ ?_); (focus (exact ob1)))); refine hK _ ?_; clear hK; clear K
    refine awp_seq ?_
    refine awp_seq ?_
    refine awpF_region ?_; intro K hK; simp only [push_cast, seval]
    refine CallK.pd (h80) ?_; simp only [push_cast, seval]; (try simp (disch := omega) only [wrapI]); (repeat ((with_reducible refine And.intro ?_ ?_); (focus (exact ob1))))
    refine hK _ ?_; clear hK; clear K
    refine awp_seq ?_
    refine awpF_region ?_; intro K hK; simp only [push_cast, seval]; (try simp (disch := omega) only [wrapI]); (repeat ((with_reducible refine And.intro ?_ ?_); (focus (exact ob1)))); refine hK _ ?_; clear hK; clear K
    apply awp_cond; (focus (simp only [push_cast, seval]; rfl))
    · intro h; (try simp only [decide_eq_true_eq, decide_eq_false_iff_not, Bool.not_eq_true', Bool.not_eq_false', Bool.and_eq_true, Bool.or_eq_true, Bool.not_eq_true] at h)
      refine awp_seq ?_
      refine awpF_region ?_; intro K hK; simp only [push_cast, seval]; (try simp (disch := omega) only [wrapI]); (repeat ((with_reducible refine And.intro ?_ ?_); (focus (exact ob1)))); refine hK _ ?_; clear hK; clear K
      refine awp_ret ?_; (repeat (first | refine then_ret ?_ | refine inblock_ret ?_)); refine fin_of (by simp only [push_cast, seval]; first | done | rfl) ob1 ?_
      exact ⟨rfl, rfl⟩
    · intro h; (try simp only [decide_eq_true_eq, decide_eq_false_iff_not, Bool.not_eq_true', Bool.not_eq_false', Bool.and_eq_true, Bool.or_eq_true, Bool.not_eq_true] at h)
      exact absurd (by simpa using h) he
end Go.Aw

namespace Go.Aw
set_option linter.unusedSimpArgs false
set_option linter.unusedVariables false
open Go.RowKit Go.Proofs Go.Rg

/-- Where a cell was met first, among the cells. -/
def posS (cs : List Sp) (c : Sp) : Nat := ((setOf cs).findIdx? fun x => decide (x = c)).getD 0
theorem posS_get {cs : List Sp} {c : Sp} (h : c ∈ cs) : (setOf cs)[posS cs c]? = some c := by
  unfold posS
  cases hf : (setOf cs).findIdx? fun x => decide (x = c) with
  | none =>
    rw [List.findIdx?_eq_none_iff] at hf
    have := hf c ((mem_setOf _ _).2 h)
    simp at this
  | some j =>
    rw [List.findIdx?_eq_some_iff_getElem] at hf
    obtain ⟨hj, he, _⟩ := hf
    have he : (setOf cs)[j] = c := by simpa using he
    simp [List.getElem?_eq_getElem hj, he]
theorem posS_lt {cs : List Sp} {c : Sp} (h : c ∈ cs) : posS cs c < (setOf cs).length := (List.getElem?_eq_some_iff.1 (posS_get h)).1
theorem posS_old {cs : List Sp} {c : Sp} (h : c ∈ cs) (d : Sp) : posS (cs ++ [c]) d = posS cs d := by
  unfold posS
  rw [setOf_old h]
theorem posS_new {cs : List Sp} {c d : Sp} (h : c ∉ cs) (hd : d ∈ cs) : posS (cs ++ [c]) d = posS cs d := by
  have h1 := posS_get (cs := cs ++ [c]) (c := d) (by simp [hd])
  have h2 := posS_get hd
  refine nd_get h1 ?_
  rw [setOf_new h, List.getElem?_append_left (posS_lt hd)]
  exact h2
theorem posS_self {cs : List Sp} {c : Sp} (h : c ∉ cs) : posS (cs ++ [c]) c = (setOf cs).length := by
  have h1 := posS_get (cs := cs ++ [c]) (c := c) (by simp)
  refine nd_get h1 ?_
  rw [setOf_new h, List.getElem?_append_right (Nat.le_refl _)]
  simp
def rowB (cs : List Sp) (c : Sp) : List V := [.d (.int .i64 c.1), .d (.int .i64 c.2), .ref (posS cs c + 1) 0 (idxS cs c).length]
def rowsB (cs ks : List Sp) : List (List V) := ks.map (rowB cs)
theorem rowsB_len (cs ks : List Sp) : (rowsB cs ks).length = ks.length := by simp [rowsB]
theorem rowsB_get {cs ks : List Sp} {n : Nat} {c : Sp} (h : ks[n]? = some c) : (rowsB cs ks)[n]? = some [.d (.int .i64 c.1), .d (.int .i64 c.2), .ref (posS cs c + 1) 0 (idxS cs c).length] := by
  simp [rowsB, h, rowB]
theorem rowsB_scrL {cs ks : List Sp} {k : Nat} (hk : ∀ d, d ∈ ks → d ∈ cs) (h : (setOf cs).length < k) : (rowsB cs ks).map (fun r => scrL k r) = rowsB cs ks := by
  simp only [rowsB, List.map_map]
  apply List.map_congr_left
  intro d hd
  have := posS_lt (hk d hd)
  have h2 : ¬ posS cs d + 1 = k := by omega
  simp [rowB, scrL, scr, V.has, h2]
theorem rowsB_scr0 (cs ks : List Sp) : (rowsB cs ks).map (fun r => r.map (scr 0)) = rowsB cs ks := by
  simp only [rowsB, List.map_map]
  apply List.map_congr_left
  intro d _
  simp [rowB, scr, V.has]
theorem rowsB_scrHi {cs ks : List Sp} {k : Nat} (hk : ∀ d, d ∈ ks → d ∈ cs) (h : (setOf cs).length < k) : (rowsB cs ks).map (fun r => r.map (scr k)) = rowsB cs ks := by
  simp only [rowsB, List.map_map]
  apply List.map_congr_left
  intro d hd
  have := posS_lt (hk d hd)
  have h2 : ¬ posS cs d + 1 = k := by omega
  simp [rowB, scr, V.has, h2]
theorem rowsB_new {cs ks : List Sp} {c : Sp} (n : Nat) (h : c ∉ cs) (hk : ∀ d, d ∈ ks → d ∈ cs) :
    (rowsB cs ks).take n ++ [.d (.int .i64 c.1), .d (.int .i64 c.2), .ref ((setOf cs).length + 1) 0 1] :: (rowsB cs ks).drop n = rowsB (cs ++ [c]) (ks.take n ++ c :: ks.drop n) := by
  have hi : idxS cs c = [] := List.eq_nil_iff_forall_not_mem.2 fun i hi => h (List.mem_of_getElem? (idxS_mem.1 hi))
  have hr : ∀ d, d ∈ ks → rowB (cs ++ [c]) d = rowB cs d := fun d hd => by
    have hdc : d ≠ c := fun e => h (e ▸ hk d hd)
    simp only [rowB, posS_new h (hk d hd), idxS_other hdc]
  simp only [rowsB, List.map_append, List.map_cons, List.map_take, List.map_drop]
  have e : ks.map (rowB (cs ++ [c])) = ks.map (rowB cs) := List.map_congr_left hr
  rw [e]
  congr 2
  simp [rowB, posS_self h, idxS_same, hi]
theorem rowsB_old {cs ks : List Sp} {c : Sp} {n : Nat} (hn : ks[n]? = some c) (hp : ks.Pairwise ltS) (hk : ∀ d, d ∈ ks → d ∈ cs) :
    ((rowsB cs ks).map fun r => r.map (scr (posS cs c + 1))).set n [.d (.int .i64 c.1), .d (.int .i64 c.2), .ref (posS cs c + 1) 0 ((idxS cs c).length + 1)] = rowsB (cs ++ [c]) ks := by
  have hc : c ∈ cs := hk c (List.mem_of_getElem? hn)
  have hnl := (List.getElem?_eq_some_iff.1 hn).1
  apply List.ext_getElem?
  intro j
  rw [List.getElem?_set]
  by_cases hj : n = j
  · subst hj
    rw [if_pos rfl, if_pos (by simpa [rowsB] using hnl)]
    simp [rowsB, hn, rowB, posS_old hc, idxS_same]
  · rw [if_neg hj]
    simp only [rowsB, List.getElem?_map]
    cases hd : ks[j]? with
    | none => rfl
    | some d =>
      have hdc : d ≠ c := fun e => by
        subst e
        have hjl := (List.getElem?_eq_some_iff.1 hd).1
        have e1 : ks[n] = d := (List.getElem?_eq_some_iff.1 hn).2
        have e2 : ks[j] = d := (List.getElem?_eq_some_iff.1 hd).2
        rcases Nat.lt_or_ge n j with h1 | h1
        · have := List.pairwise_iff_getElem.1 hp n j hnl hjl h1
          rw [e1, e2] at this
          exact ltS_irrefl _ this
        · have := List.pairwise_iff_getElem.1 hp j n hjl hnl (by omega)
          rw [e1, e2] at this
          exact ltS_irrefl _ this
      have hdm : d ∈ cs := hk d (List.mem_of_getElem? hd)
      have hpd : ¬ posS cs d = posS cs c := fun e => hdc (by
        have h1 := posS_get hdm
        rw [e, posS_get hc] at h1
        simpa using h1.symm)
      simp [rowB, posS_old hc, idxS_other hdc, scr, V.has, hpd]
theorem deep_bks {H : List Blk} {cs ks : List Sp} (h0 : H[0]? = some (.vrs 3 (rowsB cs ks))) (hg : ∀ (j : Nat) (d : Sp), (setOf cs)[j]? = some d → H[j + 1]? = some (rowG cs d)) (hk : ∀ d, d ∈ ks → d ∈ cs) : Deep H (.ref 0 0 ks.length) (.sl ((bksS cs ks).map encBk)) := by
  have := Deep.vrs (H := H) 0 3 (rowsB cs ks) ((bksS cs ks).map encBk) h0 (by simp [rowsB_len, bksS]) (fun i row hi => by
    simp only [rowsB, List.getElem?_map, Option.map_eq_some_iff] at hi
    obtain ⟨d, _, rfl⟩ := hi
    rfl) (fun i row drow j x y h1 h2 h3 h5 => by
    simp only [bksS, List.getElem?_map, Option.map_eq_some_iff] at h2
    obtain ⟨_, ⟨d, hgi, rfl⟩, rfl⟩ := h2
    rw [rowsB_get hgi] at h1
    simp only [Option.some.injEq] at h1
    subst h1
    match j with
    | 0 => simp [encBk] at h3 h5; subst h3 h5; exact .d _
    | 1 => simp [encBk] at h3 h5; subst h3 h5; exact .d _
    | 2 =>
      simp [encBk] at h3 h5
      subst h3 h5
      have hc := posS_get (hk d (List.mem_of_getElem? hgi))
      have := Deep.data (H := H) (posS cs d + 1) 0 (idxS cs d).length 1 ((idxS cs d).map encN) (hg _ _ hc) (by simp)
      rw [List.drop_zero, List.take_of_length_le (by simp)] at this
      exact this
    | j + 3 => simp at h3)
  rwa [rowsB_len] at this
theorem rowsB_bel {cs ks : List Sp} {n : Nat} (hk : ∀ d, d ∈ ks → d ∈ cs) (hn : (setOf cs).length + 1 ≤ n) : Blk.bel n (.vrs 3 (rowsB cs ks)) = true := by
  simp only [Blk.bel, rowsB, List.all_eq_true, List.mem_map]
  rintro r ⟨d, hd, rfl⟩
  have := posS_lt (hk d hd)
  simp [rowB, V.belL, V.bel]
  omega
theorem blG_bel (cs : List Sp) (n : Nat) {b : Blk} (hb : b ∈ blG cs) : Blk.bel n b = true := by
  obtain ⟨d, _, rfl⟩ := List.mem_map.1 hb
  rfl
theorem ren_same {H : List Blk} {tm tm' : List (Nat × V)} (hb : ∀ b, b ∈ H → Blk.bel H.length b = true) (bt : belTm H.length tm' = true) (ht : subTm tm' tm) : Ren [] (List.range H.length) ⟨tm', H⟩ ⟨tm, H⟩ := by
  have := ren_keep (X := []) hb bt ht
  rwa [List.append_nil] at this
theorem bks_bel {cs ks : List Sp} {Z : List Blk} (hk : ∀ d, d ∈ ks → d ∈ cs) (hZ : ∀ n b, b ∈ Z → Blk.bel n b = true) : ∀ b, b ∈ (.vrs 3 (rowsB cs ks) :: (blG cs ++ Z)) → Blk.bel (Blk.vrs 3 (rowsB cs ks) :: (blG cs ++ Z)).length b = true := by
  intro b hb
  rcases List.mem_cons.1 hb with rfl | hb
  · exact rowsB_bel hk (by simp [blG_len])
  rcases List.mem_append.1 hb with hb | hb
  · exact blG_bel _ _ hb
  · exact hZ _ _ hb
theorem bks_bel0 {cs ks : List Sp} (hk : ∀ d, d ∈ ks → d ∈ cs) : ∀ b, b ∈ (.vrs 3 (rowsB cs ks) :: blG cs) → Blk.bel (Blk.vrs 3 (rowsB cs ks) :: blG cs).length b = true := by
  intro b hb
  rcases List.mem_cons.1 hb with rfl | hb
  · exact rowsB_bel hk (by simp [blG_len])
  · exact blG_bel _ _ hb
theorem rowsN_bel {cs ks : List Sp} {n m : Nat} {c : Sp} (hk : ∀ d, d ∈ ks → d ∈ cs) (hm : (setOf cs).length + 1 ≤ m) : Blk.bel m (.vrs 3 ((rowsB cs ks).take n ++ [.d (.int .i64 c.1), .d (.int .i64 c.2), .nil] :: (rowsB cs ks).drop n)) = true := by
  have h := rowsB_bel (n := m) hk hm
  simp only [Blk.bel, List.all_eq_true] at h ⊢
  intro r hr
  rcases List.mem_append.1 hr with hr | hr
  · exact h r (List.mem_of_mem_take hr)
  rcases List.mem_cons.1 hr with rfl | hr
  · rfl
  · exact h r (List.mem_of_mem_drop hr)
theorem rowsB_all {cs ks : List Sp} {m : Nat} (hk : ∀ d, d ∈ ks → d ∈ cs) (hm : (setOf cs).length + 1 ≤ m) : (rowsB cs ks).all (V.belL m) = true := rowsB_bel (n := m) hk hm
theorem blG_belH (cs : List Sp) (m : Nat) (X : List Blk) : belHeap m (blG cs ++ X) = belHeap m X := by
  unfold blG
  induction setOf cs with
  | nil => rfl
  | cons d l ih =>
    simp only [List.map_cons, List.cons_append, belHeap, ih]
    rfl
theorem bks_ren {cs ks : List Sp} {tm tm' : List (Nat × V)} {R : List (List V)} {X : List Blk} (r : List Nat) (nd : r.Nodup) (h0 : r[0]? = some 0) (hrl : r.length = (setOf cs).length + 1)
    (hG : ∀ j d, (setOf cs)[j]? = some d → ∃ q, r[j + 1]? = some (q + 1) ∧ X[q]? = some (rowG cs d)) (hk : ∀ d, d ∈ ks → d ∈ cs) (hE : (rowsB cs ks).map (fun q => V.renL r q) = R) (htm : subTm (renTm r tm') tm) (bt : belTm r.length tm' = true) :
    Ren [] r ⟨tm', .vrs 3 (rowsB cs ks) :: blG cs⟩ ⟨tm, .vrs 3 R :: X⟩ := by
  refine ren_of nd ?_ ?_ htm bt ?_
  · simp only [List.length_cons, blG_len, hrl]
  · intro j b hb
    match j with
    | 0 => simp at hb; subst hb; exact ⟨0, h0, by simp only [Blk.ren, hE]; rfl⟩
    | j + 1 =>
      have hb : (blG cs)[j]? = some b := hb
      simp only [blG, List.getElem?_map, Option.map_eq_some_iff] at hb
      obtain ⟨d, h1, rfl⟩ := hb
      obtain ⟨q, h2, h3⟩ := hG j d h1
      exact ⟨q + 1, h2, h3⟩
  · intro b hb
    rcases List.mem_cons.1 hb with rfl | hb
    · exact rowsB_bel hk (by omega)
    · exact blG_bel _ _ hb
theorem rowsB_ren {cs ks : List Sp} {c : Sp} {n q : Nat} {r : List Nat} (h : c ∉ cs) (hk : ∀ d, d ∈ ks → d ∈ cs) (hr : ∀ j, j < (setOf cs).length + 1 → r[j]? = some j) (hq : r[(setOf cs).length + 1]? = some q) :
    (rowsB (cs ++ [c]) (ks.take n ++ c :: ks.drop n)).map (fun x => V.renL r x) = (rowsB cs ks).take n ++ [.d (.int .i64 c.1), .d (.int .i64 c.2), .ref q 0 1] :: (rowsB cs ks).drop n := by
  have key : (rowsB cs ks).map (fun x => V.renL r x) = rowsB cs ks := by
    simp only [rowsB, List.map_map]
    apply List.map_congr_left
    intro d hd
    have := posS_lt (hk d hd)
    simp only [Function.comp, rowB, V.renL, V.ren, List.getD_eq_getElem?_getD]
    rw [hr _ (by omega)]
    rfl
  rw [← rowsB_new n h hk, List.map_append, List.map_cons, List.map_take, List.map_drop, key]
  simp only [V.renL, V.ren, List.getD_eq_getElem?_getD, hq, Option.getD_some]
end Go.Aw

namespace Go.Aw
set_option linter.unusedSimpArgs false
set_option linter.unusedVariables false
open Go.RowKit Go.Proofs Go.Rg

theorem p41 (ps : List Pt) (size : Int) (ks : List Sp) (hk : IsKeys (ps.map (cellP size)) ks) (d0 : D) (hd0 : d0 = .tup [.sl (if idxErr ps size = 0 then (bksS (ps.map (cellP size)) ks).map encBk else []), .int .i64 (idxErr ps size)]) :
    PD Try.prog 41 [.sl (ps.map encP), .int .i64 size] (ofD d0) := by
  have h26 := p26 ps
  have h83 := p83 size
  refine pdd_of (fn := Try.f41) [.tmp 4, .tmp 5] (by kernel_rfl) rfl (by kernel_rfl) (Nat.le_of_ble_eq_true rfl) (by kernel_rfl) rfl ?_
  refine awp_seq ?_
  refine awpF_region ?_; intro K hK; simp only [push_cast, seval]; (try simp (disch := omega) only [wrapI]); (repeat ((with_reducible refine And.intro ?_ ?_); (focus (exact ob1)))); refine hK _ ?_; clear hK; clear K
  refine awp_seq ?_
  refine awp_seq ?_
  refine awpF_region ?_; intro K hK; simp only [push_cast, seval]
  (repeat ((with_reducible refine And.intro ?_ ?_); (focus (exact ob1))))
  refine CallK.pd (h26) ?_; simp only [push_cast, seval]; (try simp (disch := omega) only [wrapI]); (repeat ((with_reducible refine And.intro ?_ ?_); (focus (exact ob1))))
  refine hK _ ?_; clear hK; clear K
  refine awp_seq ?_
  refine awpF_region ?_; intro K hK; simp only [push_cast, seval]; (try simp (disch := omega) only [wrapI]); (repeat ((with_reducible refine And.intro ?_ ?_); (focus (exact ob1)))); refine hK _ ?_; clear hK; clear K
  apply awp_cond; (focus (simp only [push_cast, seval]; rfl))
  · intro hc; (try simp only [decide_eq_true_eq, decide_eq_false_iff_not, Bool.not_eq_true', Bool.not_eq_false', Bool.and_eq_true, Bool.or_eq_true, Bool.not_eq_true] at hc)
    have hc' : check ps ≠ 0 := by simpa using hc
    refine awp_seq ?_
    refine awpF_region ?_; intro K hK; simp only [push_cast, seval]; (try simp (disch := omega) only [wrapI]); (repeat ((with_reducible refine And.intro ?_ ?_); (focus (exact ob1)))); refine hK _ ?_; clear hK; clear K
    refine awp_ret ?_; (repeat (first | refine then_ret ?_ | refine inblock_ret ?_)); refine fin_of (by simp only [push_cast, seval]; first | done | rfl) ob1 ?_
    have he : idxErr ps size = check ps := by simp [idxErr, hc']
    rw [hd0, he, if_neg hc']
    exact deep_tup2 .nil (.d _)
  intro hc; (try simp only [decide_eq_true_eq, decide_eq_false_iff_not, Bool.not_eq_true', Bool.not_eq_false', Bool.and_eq_true, Bool.or_eq_true, Bool.not_eq_true] at hc)
  have hc' : check ps = 0 := by simpa using hc
  refine awp_skip ?_
  refine awp_seq ?_
  refine awp_seq ?_
  refine awpF_region ?_; intro K hK; simp only [push_cast, seval]
  (repeat ((with_reducible refine And.intro ?_ ?_); (focus (exact ob1))))
  refine CallK.pd (h83) ?_; simp only [push_cast, seval]; (try simp (disch := omega) only [wrapI]); (repeat ((with_reducible refine And.intro ?_ ?_); (focus (exact ob1))))
  refine hK _ ?_; clear hK; clear K
  apply awp_cond; (focus (simp only [push_cast, seval]; rfl))
  · intro hs; (try simp only [decide_eq_true_eq, decide_eq_false_iff_not, Bool.not_eq_true', Bool.not_eq_false', Bool.and_eq_true, Bool.or_eq_true, Bool.not_eq_true] at hs)
    have hs' : ¬ (1 ≤ size ∧ size ≤ 16777216) := by simpa using hs
    refine awp_seq ?_
    refine awpF_region ?_; intro K hK; simp only [push_cast, seval]; (try simp (disch := omega) only [wrapI]); (repeat ((with_reducible refine And.intro ?_ ?_); (focus (exact ob1)))); refine hK _ ?_; clear hK; clear K
    refine awp_ret ?_; (repeat (first | refine then_ret ?_ | refine inblock_ret ?_)); refine fin_of (by simp only [push_cast, seval]; first | done | rfl) ob1 ?_
    have he : idxErr ps size = 2 := by simp [idxErr, hc', hs']
    rw [hd0, he, if_neg (by decide)]
    exact deep_tup2 .nil (.d _)
  intro hs; (try simp only [decide_eq_true_eq, decide_eq_false_iff_not, Bool.not_eq_true', Bool.not_eq_false', Bool.and_eq_true, Bool.or_eq_true, Bool.not_eq_true] at hs)
  have hs' : 1 ≤ size ∧ size ≤ 16777216 := by simpa using hs
  have he : idxErr ps size = 0 := by simp [idxErr, hc', hs']
  rw [he, if_pos rfl] at hd0
  have hn := check_len hc'
  refine awp_skip ?_
  refine awp_seq ?_
  refine awpF_region ?_; intro K hK; simp only [push_cast, seval]; (try simp (disch := omega) only [wrapI]); (repeat ((with_reducible refine And.intro ?_ ?_); (focus (exact ob1)))); refine hK _ ?_; clear hK; clear K
  refine awp_virtV 7 3 (by simp only [push_cast, seval]) ?_
  simp only [push_cast, seval]
  refine awp_seq ?_
  refine awp_seq ?_
  refine awpF_region ?_; intro K hK; simp only [push_cast, seval]; (try simp (disch := omega) only [wrapI]); (repeat ((with_reducible refine And.intro ?_ ?_); (focus (exact ob1)))); refine hK _ ?_; clear hK; clear K
  refine awp_block ?_
  refine awp_loopP (α := Nat × List Sp) (st := fun x => ⟨[(0, .d (.sl (ps.map encP))), (1, .d (.int .i64 size)), (7, .ref 0 0 x.2.length), (8, .d (.int .i64 x.1))], .vrs 3 (rowsB ((ps.take x.1).map (cellP size)) x.2) :: blG ((ps.take x.1).map (cellP size))⟩)
    (inv := fun x => x.1 ≤ ps.length ∧ IsKeys ((ps.take x.1).map (cellP size)) x.2) (μ := fun x => ps.length - x.1) (x0 := (0, [])) (r0 := [0]) ?_ ?_ ?_
  · exact ⟨Nat.zero_le _, by simp [IsKeys]⟩
  · rw [List.take_zero, List.map_nil, show blG [] = [] from rfl, show rowsB [] [] = [] from rfl]
    exact ⟨by simp, by simp, by simp [push_cast, seval], by simp [push_cast, seval], by simp [push_cast, seval], by simp [push_cast, seval]⟩
  rintro ⟨i, ls⟩ ⟨hi, hls⟩
  dsimp only at hi hls ⊢
  refine awp_seq ?_
  refine awp_seq ?_
  refine awpF_region ?_; intro K hK; simp only [push_cast, seval]; (try simp (disch := omega) only [wrapI]); (repeat ((with_reducible refine And.intro ?_ ?_); (focus (exact ob1)))); refine hK _ ?_; clear hK; clear K
  apply awp_cond; (focus (simp only [push_cast, seval]; rfl))
  · intro h1; (try simp only [decide_eq_true_eq, decide_eq_false_iff_not, Bool.not_eq_true', Bool.not_eq_false', Bool.and_eq_true, Bool.or_eq_true, Bool.not_eq_true] at h1)
    have hlt : i < ps.length := by omega
    have g1 : (ps.map encP)[i]? = some (encP ps[i]) := by rw [List.getElem?_map, List.getElem?_eq_getElem hlt]; rfl
    have hok := (ok_bd hc' (List.getElem_mem hlt)).1
    have h84 := p84 ps[i] size hs' hok
    have hcl : ((ps.take i).map (cellP size)).length = i := by rw [List.length_map, List.length_take]; omega
    have hsu : (ps.take (i + 1)).map (cellP size) = (ps.take i).map (cellP size) ++ [cellP size ps[i]] := by
      rw [List.take_add_one, List.getElem?_eq_getElem hlt, List.map_append]
      rfl
    have hcb := cell_bd hc' hs'.1 (List.mem_map_of_mem (f := cellP size) (List.getElem_mem hlt))
    generalize hc : cellP size ps[i] = c at h84 hsu hcb
    generalize hcs : (ps.take i).map (cellP size) = cs at hls hcl hsu ⊢
    refine awp_skip ?_
    refine awp_seq ?_
    refine awp_block ?_
    refine awp_seq ?_
    have hq : ∀ row, row ∈ ps.map encP → row.length = 3 := fun row hr => by obtain ⟨_, _, rfl⟩ := List.mem_map.1 hr; rfl
    simp only [encP] at g1 h84
    refine awpF_region ?_; intro K hK; simp only [push_cast, seval, g1]
    refine ⟨by omega, by omega, hq, ?_⟩
    obtain ⟨B, hB⟩ : ∃ B, B = blG cs := ⟨_, rfl⟩
    have hBl : B.length = (setOf cs).length := by rw [hB, blG_len]
    rw [← hB]
    refine CallK.pd h84 ?_; simp only [push_cast, seval, ap0, st0, List.append_assoc, List.cons_append, List.nil_append, List.length_append]; (repeat ((with_reducible refine And.intro ?_ ?_); (focus (exact ob1))))
    refine hK _ ?_; clear hK; clear K
    have hmem : ∀ d, d ∈ ls → d ∈ cs := fun d hd => (hls.2 d).1 hd
    refine awp_seq ?_
    refine awpF_region ?_; intro K hK; simp only [push_cast, seval]; (try simp (disch := omega) only [wrapI]); (repeat ((with_reducible refine And.intro ?_ ?_); (focus (exact ob1)))); refine hK _ ?_; clear hK; clear K
    have hil : cs.length ≤ 1000 := by omega
    have hkl := keys_len hls
    refine awp_mid (fun u => ∃ n, (n ≤ ls.length ∧ (∀ j (hj : j < ls.length), j < n → ltS ls[j] c) ∧ ∀ h : n < ls.length, ¬ ltS ls[n] c) ∧ u = ⟨[(0, .d (.sl (ps.map encP))), (1, .d (.int .i64 size)), (7, .ref 0 0 ls.length), (8, .d (.int .i64 i)), (9, .ptr (B.length + 1) 0 0), (10, .d (.int .i64 n))], .vrs 3 (rowsB cs ls) :: (B ++ [.cells [.d (.int .i64 c.1), .d (.int .i64 c.2)]])⟩) ?_ ?_
    · refine awp_block ?_
      refine awp_loopP (α := Nat) (st := fun n => ⟨[(0, .d (.sl (ps.map encP))), (1, .d (.int .i64 size)), (7, .ref 0 0 ls.length), (8, .d (.int .i64 i)), (9, .ptr ((blG cs).length + 1) 0 0), (10, .d (.int .i64 n))], .vrs 3 (rowsB cs ls) :: (blG cs ++ [.cells [.d (.int .i64 c.1), .d (.int .i64 c.2)]])⟩)
        (inv := fun n => n ≤ ls.length ∧ ∀ j (hj : j < ls.length), j < n → ltS ls[j] c) (μ := fun n => ls.length - n) (x0 := 0) (r0 := List.range (Blk.vrs 3 (rowsB cs ls) :: (blG cs ++ [.cells [.d (.int .i64 c.1), .d (.int .i64 c.2)]])).length) ?_ ?_ ?_
      · exact ⟨Nat.zero_le _, by omega⟩
      · rw [hB]
        refine ren_same (bks_bel hmem ?_) ?_ ?_
        · simp [push_cast, seval]
        · simp [push_cast, seval]
        · simp [push_cast, seval]
      rintro n ⟨hnl, hnb⟩
      rw [← hB]
      refine awp_seq ?_
      refine awp_seq ?_
      by_cases hnn : n < ls.length
      · obtain ⟨d, hd⟩ : ∃ d, ls[n]? = some d := ⟨_, List.getElem?_eq_getElem hnn⟩
        have hdn : ls[n] = d := (List.getElem?_eq_some_iff.1 hd).2
        have hrow := rowsB_get (cs := cs) hd
        have e1 : decide ((n : Int) < (ls.length : Int)) = true := by simpa using hnn
        refine awpF_draw [0,1,2,3,4,5,6,7,8,9,10,11,12,13,14,15,16,17,18,19,20,21,22,23,24,25,26,27,28,29,30,31,32,33,34,35,36] (by kernel_rfl) (by kernel_rfl) rfl ?_; intro K hK; simp only [push_cast, seval, e1, hrow, ap0]
        have q0 : (0 : Int) ≤ (n : Int) := by omega
        have q1 : (n : Int) < (ls.length : Int) := by omega
        refine ⟨q0, q1, fun h => ⟨h, h, q0, q1⟩, fun h => ⟨h, h, q0, q1⟩, fun h => ⟨h, fun h' => by rw [h, h']; rfl⟩, fun h => by rw [h]; rfl, ?_⟩
        refine hK _ ?_; clear hK; clear K
        apply awp_cond; (focus (simp only [push_cast, seval]; rfl))
        · intro h2; (try simp only [decide_eq_true_eq, decide_eq_false_iff_not, Bool.not_eq_true', Bool.not_eq_false', Bool.and_eq_true, Bool.or_eq_true, Bool.not_eq_true] at h2)
          have h2' : ltS d c := by
            simp only [bif_or, bif_and, Bool.or_eq_true, Bool.and_eq_true, decide_eq_true_eq, beq_iff_eq] at h2
            exact h2
          refine awp_skip ?_
          refine awp_block ?_
          refine awpF_region ?_; intro K hK; simp only [push_cast, seval]; (try simp (disch := omega) only [wrapI]); (repeat ((with_reducible refine And.intro ?_ ?_); (focus (exact ob1)))); refine hK _ ?_; clear hK; clear K
          refine inblock_norm ?_
          refine round_endG (n + 1) (List.range (Blk.vrs 3 (rowsB cs ls) :: (blG cs ++ [.cells [.d (.int .i64 c.1), .d (.int .i64 c.2)]])).length) ⟨?_, ?_, ?_⟩
          · omega
          · refine And.intro (by omega) fun j hj hjn => ?_
            rcases Nat.lt_or_ge j n with h3 | h3
            · exact hnb j hj h3
            · obtain rfl : j = n := by omega
              rw [hdn]; exact h2'
          · rw [hB]
            refine ren_same (bks_bel hmem ?_) ?_ ?_
            · simp [push_cast, seval]
            · simp [push_cast, seval]
            · simp [push_cast, seval]
        · intro h2; (try simp only [decide_eq_true_eq, decide_eq_false_iff_not, Bool.not_eq_true', Bool.not_eq_false', Bool.and_eq_true, Bool.or_eq_true, Bool.not_eq_true] at h2)
          have h2' : ¬ ltS d c := by
            intro h
            have : (bif decide (d.1 < c.1) then true else bif d.1 == c.1 then decide (d.2 < c.2) else false) = true := by
              simp only [bif_or, bif_and, Bool.or_eq_true, Bool.and_eq_true, decide_eq_true_eq, beq_iff_eq]
              exact h
            rw [this] at h2
            cases h2
          refine awp_exit ?_; (repeat (first | refine then_exit ?_ | refine inblock_other (by decide) ?_)); refine inblock_same ?_
          refine mid_end (List.range (Blk.vrs 3 (rowsB cs ls) :: (blG cs ++ [.cells [.d (.int .i64 c.1), .d (.int .i64 c.2)]])).length) ⟨[(0, .d (.sl (ps.map encP))), (1, .d (.int .i64 size)), (7, .ref 0 0 ls.length), (8, .d (.int .i64 i)), (9, .ptr (B.length + 1) 0 0), (10, .d (.int .i64 n))], .vrs 3 (rowsB cs ls) :: (B ++ [.cells [.d (.int .i64 c.1), .d (.int .i64 c.2)]])⟩ ?_ ?_
          · exact ⟨n, ⟨hnl, hnb, fun _ => hdn ▸ h2'⟩, rfl⟩
          rw [hB]
          refine ren_same (bks_bel hmem ?_) ?_ ?_
          · simp [push_cast, seval]
          · simp [push_cast, seval]
          · simp [push_cast, seval]
      · have e1 : decide ((n : Int) < (ls.length : Int)) = false := by simpa using hnn
        have hrow : (rowsB cs ls)[n]? = none := List.getElem?_eq_none (by rw [rowsB_len]; omega)
        refine awpF_draw [0,1,2,3,4,5,6,7,8,9,10,11,12,13,14,15,16,17,18,19,20,21,22,23,24,25,26,27,28,29,30,31,32,33,34,35,36] (by kernel_rfl) (by kernel_rfl) rfl ?_; intro K hK; simp only [push_cast, seval, e1, hrow, ap0, Option.getD_none, List.getD_nil]
        refine hK _ ?_; clear hK; clear K
        apply awp_cond; (focus (simp only [push_cast, seval]; rfl))
        · intro h2; (try simp only [decide_eq_true_eq, decide_eq_false_iff_not, Bool.not_eq_true', Bool.not_eq_false', Bool.and_eq_true, Bool.or_eq_true, Bool.not_eq_true] at h2)
          cases h2
        · intro h2; (try simp only [decide_eq_true_eq, decide_eq_false_iff_not, Bool.not_eq_true', Bool.not_eq_false', Bool.and_eq_true, Bool.or_eq_true, Bool.not_eq_true] at h2)
          refine awp_exit ?_; (repeat (first | refine then_exit ?_ | refine inblock_other (by decide) ?_)); refine inblock_same ?_
          refine mid_end (List.range (Blk.vrs 3 (rowsB cs ls) :: (blG cs ++ [.cells [.d (.int .i64 c.1), .d (.int .i64 c.2)]])).length) ⟨[(0, .d (.sl (ps.map encP))), (1, .d (.int .i64 size)), (7, .ref 0 0 ls.length), (8, .d (.int .i64 i)), (9, .ptr (B.length + 1) 0 0), (10, .d (.int .i64 n))], .vrs 3 (rowsB cs ls) :: (B ++ [.cells [.d (.int .i64 c.1), .d (.int .i64 c.2)]])⟩ ?_ ?_
          · exact ⟨n, ⟨hnl, hnb, fun h => absurd h hnn⟩, rfl⟩
          rw [hB]
          refine ren_same (bks_bel hmem ?_) ?_ ?_
          · simp [push_cast, seval]
          · simp [push_cast, seval]
          · simp [push_cast, seval]
    rintro _ ⟨n, ⟨hnl, hnb, hne⟩, rfl⟩
    have hbe : ∀ j (hj : j < ls.length), n ≤ j → ¬ ltS ls[j] c := fun j hj hnj h => by
      have h1 := hne (by omega)
      rcases Nat.lt_or_ge n j with h2 | h2
      · exact h1 (ltS_trans (List.pairwise_iff_getElem.1 hls.1 n j (by omega) hj h2) h)
      · obtain rfl : n = j := by omega
        exact h1 h
    by_cases hcc : c ∈ cs
    · -- the cell is there
      obtain ⟨j, hj, hjc⟩ := List.getElem_of_mem ((hls.2 c).2 hcc)
      have hjn : j = n := by
        rcases Nat.lt_trichotomy j n with h | h | h
        · exact absurd (hjc ▸ hnb j hj h) (ltS_irrefl _)
        · exact h
        · have h2 := List.pairwise_iff_getElem.1 hls.1 n j (by omega) hj h
          rw [hjc] at h2
          exact absurd h2 (hne (by omega))
      subst hjn
      have hget : ls[j]? = some c := by rw [List.getElem?_eq_getElem hj, hjc]
      have hrow := rowsB_get (cs := cs) hget
      have e1 : ((j : Int) == (ls.length : Int)) = false := by simp; omega
      have hpl := posS_lt hcc
      refine awp_seq ?_
      refine awp_seq ?_
      refine awpF_draw [0,1,2,3,4,5,6,7,8,9,10,11,12] (by kernel_rfl) (by kernel_rfl) rfl ?_; intro K hK; simp only [push_cast, seval, e1, hrow, ap0, beq_self_eq_true, bne_self_eq_false]
      refine ⟨by omega, by omega, ?_⟩
      refine hK _ ?_; clear hK; clear K
      apply awp_cond; (focus (simp only [push_cast, seval]; rfl))
      · intro h3; (try simp only [decide_eq_true_eq, decide_eq_false_iff_not, Bool.not_eq_true', Bool.not_eq_false', Bool.and_eq_true, Bool.or_eq_true, Bool.not_eq_true] at h3)
        simp at h3
      intro h3; (try simp only [decide_eq_true_eq, decide_eq_false_iff_not, Bool.not_eq_true', Bool.not_eq_false', Bool.and_eq_true, Bool.or_eq_true, Bool.not_eq_true] at h3)
      refine awp_skip ?_
      have hsc := fun j R => by have := scrG cs j R; rw [← hB] at this; exact this
      have hbg := fun R => by have := blG_get (posS_get hcc) R; rw [← hB] at this; exact this
      have htk : ((idxS cs c).map encN).take (idxS cs c).length = (idxS cs c).map encN := List.take_of_length_le (by simp)
      have hL := idxS_len cs c
      have z0 : (B.length == posS cs c) = false := by simp; omega
      have z1 : (B.length + 1 == posS cs c) = false := by simp; omega
      refine awpF_region ?_; intro K hK; simp only [push_cast, seval, hrow, ap0, ap1, ap2, st0, st1, st2, List.append_assoc, List.cons_append, List.nil_append, List.length_append, hbg, hsc, htk, beq_self_eq_true, z0, z1]
      refine ⟨by omega, by omega, fun h => h, by omega, by omega, by omega, by omega, ?_⟩
      refine hK _ ?_; clear hK; clear K
      have hR := rowsB_old hget hls.1 hmem
      have hM := blG_mod (posS_get hcc)
      simp only [scrL_eq]
      rw [hR, List.set_append_left _ _ (by rw [hBl]; exact hpl)]
      rw [hcl] at hM
      simp only [encN] at hM
      rw [hB, hM]
      refine inblock_norm ?_
      refine awpF_region ?_; intro K hK; simp only [push_cast, seval]; (try simp (disch := omega) only [wrapI]); (repeat ((with_reducible refine And.intro ?_ ?_); (focus (exact ob1)))); refine hK _ ?_; clear hK; clear K
      refine round_endG (i + 1, ls) (List.range (Blk.vrs 3 (rowsB (cs ++ [c]) ls) :: blG (cs ++ [c])).length) ⟨?_, ?_, ?_⟩
      · omega
      · rw [hsu]
        exact ⟨by omega, keys_old hls ((hls.2 c).2 hcc)⟩
      · rw [hsu]
        refine ren_keep ?_ ?_ ?_
        · exact bks_bel0 fun d hd => by simp [hmem d hd]
        · simp [push_cast, seval]
        · simp [push_cast, seval]
    · -- a new one
      have hlow : ∀ j (hj : j < ls.length), j < n → ltS ls[j] c := hnb
      have hupp : ∀ j (hj : j < ls.length), n ≤ j → ltS c ls[j] := fun j hj hnj => by
        by_cases h : ltS c ls[j]
        · exact h
        · exact absurd ((hls.2 c).1 (ltS_tri (hbe j hj hnj) h ▸ List.getElem_mem hj)) hcc
      have hkn := keys_new hls hlow hupp
      have hsc := fun j R => by have := scrG cs j R; rw [← hB] at this; exact this
      have hTD : List.take (ls.length - n) (List.drop n (rowsB cs ls)) = List.drop n (rowsB cs ls) := List.take_of_length_le (by simp [rowsB_len])
      have hdl : (List.drop n (rowsB cs ls)).length = ls.length - n := by simp [rowsB_len]
      have hS1 : List.map (fun r => List.map (scr (B.length + 1 + 1)) r) (List.drop n (rowsB cs ls)) = List.drop n (rowsB cs ls) := by
        rw [List.map_drop, rowsB_scrHi hmem (by omega)]
      have hS2 : List.map (fun r => scrL (B.length + 1 + 1) r) (rowsB cs ls) = rowsB cs ls := rowsB_scrL hmem (by omega)
      have hS3 : List.map (fun r => List.map (scr 0) r) (List.take n (rowsB cs ls)) = List.take n (rowsB cs ls) := by
        rw [List.map_take, rowsB_scr0]
      have hS4 : List.map (fun r => List.map (scr 0) r) (List.drop n (rowsB cs ls)) = List.drop n (rowsB cs ls) := by
        rw [List.map_drop, rowsB_scr0]
      have hte : ∀ X : List V, List.take (1 + (ls.length - n)) (X :: List.drop n (rowsB cs ls)) = X :: List.drop n (rowsB cs ls) := fun X => List.take_of_length_le (by simp [rowsB_len]; omega)
      have z0 : (B.length == B.length + 1) = false := by simp
      have hln : n + (ls.length - n + 1) = ls.length + 1 := by omega
      refine awp_mid (fun u => u = ⟨[(0, .d (.sl (ps.map encP))), (1, .d (.int .i64 size)), (7, .ref 0 0 (ls.length + 1)), (8, .d (.int .i64 i)), (10, .d (.int .i64 n))], .vrs 3 ((rowsB cs ls).take n ++ [.d (.int .i64 c.1), .d (.int .i64 c.2), .nil] :: (rowsB cs ls).drop n) :: B⟩) ?_ ?_
      · refine awp_seq ?_
        by_cases hnn : n < ls.length
        · obtain ⟨d, hd⟩ : ∃ d, ls[n]? = some d := ⟨_, List.getElem?_eq_getElem hnn⟩
          have hdc : d ≠ c := fun e => hcc ((hls.2 c).1 (e ▸ List.mem_of_getElem? hd))
          have hrow := rowsB_get (cs := cs) hd
          have e1 : ((n : Int) == (ls.length : Int)) = false := by simp; omega
          have e2 : (d.1 == c.1 && d.2 == c.2) = false := by
            by_cases h : d.1 = c.1
            · by_cases h' : d.2 = c.2
              · exact absurd (Prod.ext h h') hdc
              · simp [h']
            · simp [h]
          refine awpF_draw [0,1,2,3,4,5,6,7,8,9,10,11,12] (by kernel_rfl) (by kernel_rfl) rfl ?_; intro K hK; simp only [push_cast, seval, e1, hrow, ap0, e2, Bool.not_false]
          refine ⟨by omega, by omega, ?_⟩
          refine hK _ ?_; clear hK; clear K
          apply awp_cond; (focus (simp only [push_cast, seval]; rfl))
          · intro h3; (try simp only [decide_eq_true_eq, decide_eq_false_iff_not, Bool.not_eq_true', Bool.not_eq_false', Bool.and_eq_true, Bool.or_eq_true, Bool.not_eq_true] at h3)
            refine awpF_drawM [0, 1, 2, 3, 4, 6, 7, 8] [] (DT.op 5 (DT.op 9 (DT.op 10 (DT.op 11 DT.nil)))) (by kernel_rfl) (by kernel_rfl) (by kernel_rfl) ?_; intro K hK; simp only [push_cast, seval, hrow, ap0, ap1, ap2, ap3, st0, st1, st2, List.append_assoc, List.cons_append, List.nil_append, List.length_append, hsc, hTD, hdl, hS1, hS2, hS3, hS4, hte, Nat.sub_zero, beq_self_eq_true, z0, List.map_append, List.map_cons]
            refine ⟨by omega, by omega, by omega, by omega, by omega, by simp, ?_, fun h => h, by omega, by omega, fun h => h, by omega, by omega, ?_⟩
            · rw [rowsB_all hmem (by omega), hB, blG_belH]
              simp [push_cast, seval]
            refine hK _ ?_; clear hK; clear K
            rw [hln]
            refine mid_end (List.range (Blk.vrs 3 ((rowsB cs ls).take n ++ [.d (.int .i64 c.1), .d (.int .i64 c.2), .nil] :: (rowsB cs ls).drop n) :: B).length) _ rfl ?_
            refine ren_keep ?_ ?_ ?_
            · intro b hb
              rcases List.mem_cons.1 hb with rfl | hb
              · exact rowsN_bel hmem (by simp [hBl])
              · rw [hB] at hb
                exact blG_bel _ _ hb
            · simp [push_cast, seval]
            · simp [push_cast, seval]
          · intro h3; (try simp only [decide_eq_true_eq, decide_eq_false_iff_not, Bool.not_eq_true', Bool.not_eq_false', Bool.and_eq_true, Bool.or_eq_true, Bool.not_eq_true] at h3)
            cases h3
        · have e1 : ((n : Int) == (ls.length : Int)) = true := by simp; omega
          have hrow : (rowsB cs ls)[n]? = none := List.getElem?_eq_none (by rw [rowsB_len]; omega)
          refine awpF_draw [0,1,2,3,4,5,6,7,8,9,10,11,12] (by kernel_rfl) (by kernel_rfl) rfl ?_; intro K hK; simp only [push_cast, seval, e1, hrow, ap0, Option.getD_none, List.drop_nil, List.take_nil]
          refine hK _ ?_; clear hK; clear K
          apply awp_cond; (focus (simp only [push_cast, seval]; rfl))
          · intro h3; (try simp only [decide_eq_true_eq, decide_eq_false_iff_not, Bool.not_eq_true', Bool.not_eq_false', Bool.and_eq_true, Bool.or_eq_true, Bool.not_eq_true] at h3)
            refine awpF_drawM [0, 1, 2, 3, 4, 6, 7, 8] [] (DT.op 5 (DT.op 9 (DT.op 10 (DT.op 11 DT.nil)))) (by kernel_rfl) (by kernel_rfl) (by kernel_rfl) ?_; intro K hK; simp only [push_cast, seval, hrow, ap0, ap1, ap2, ap3, st0, st1, st2, List.append_assoc, List.cons_append, List.nil_append, List.length_append, hsc, hTD, hdl, hS1, hS2, hS3, hS4, hte, Nat.sub_zero, beq_self_eq_true, z0, List.map_append, List.map_cons]
            refine ⟨by omega, by omega, by omega, by omega, by omega, by simp, ?_, fun h => h, by omega, by omega, fun h => h, by omega, by omega, ?_⟩
            · rw [rowsB_all hmem (by omega), hB, blG_belH]
              simp [push_cast, seval]
            refine hK _ ?_; clear hK; clear K
            rw [hln]
            refine mid_end (List.range (Blk.vrs 3 ((rowsB cs ls).take n ++ [.d (.int .i64 c.1), .d (.int .i64 c.2), .nil] :: (rowsB cs ls).drop n) :: B).length) _ rfl ?_
            refine ren_keep ?_ ?_ ?_
            · intro b hb
              rcases List.mem_cons.1 hb with rfl | hb
              · exact rowsN_bel hmem (by simp [hBl])
              · rw [hB] at hb
                exact blG_bel _ _ hb
            · simp [push_cast, seval]
            · simp [push_cast, seval]
          · intro h3; (try simp only [decide_eq_true_eq, decide_eq_false_iff_not, Bool.not_eq_true', Bool.not_eq_false', Bool.and_eq_true, Bool.or_eq_true, Bool.not_eq_true] at h3)
            cases h3
      rintro _ rfl
      have hrn : ∀ X : List V, (List.take n (rowsB cs ls) ++ X :: List.drop n (rowsB cs ls))[n]? = some X := fun X => by
        rw [List.getElem?_append_right (by simp [rowsB_len]; omega), List.length_take, rowsB_len, Nat.min_eq_left hnl, Nat.sub_self]
        rfl
      have hsn : ∀ X Y : List V, (List.take n (rowsB cs ls) ++ X :: List.drop n (rowsB cs ls)).set n Y = List.take n (rowsB cs ls) ++ Y :: List.drop n (rowsB cs ls) := fun X Y => by
        rw [List.set_append_right _ _ (by simp [rowsB_len]; omega), List.length_take, rowsB_len, Nat.min_eq_left hnl, Nat.sub_self]
        rfl
      refine awpF_region ?_; intro K hK; simp only [push_cast, seval, hrn, hsn, ap0, ap1, ap2, st0, st1, List.append_assoc, List.cons_append, List.nil_append, List.length_append, hsc]
      refine ⟨by omega, by omega, by omega, by omega, ?_⟩
      refine hK _ ?_; clear hK; clear K
      refine inblock_norm ?_
      refine awpF_region ?_; intro K hK; simp only [push_cast, seval]; (try simp (disch := omega) only [wrapI]); (repeat ((with_reducible refine And.intro ?_ ?_); (focus (exact ob1)))); refine hK _ ?_; clear hK; clear K
      have hso := setOf_new hcc
      have hrj : ∀ j, j < (setOf cs).length + 1 → (List.range ((setOf cs).length + 1) ++ [B.length + 1 + 1])[j]? = some j := fun j hj => by
        rw [List.getElem?_append_left (by simpa using hj), List.getElem?_range hj]
      have hrq : (List.range ((setOf cs).length + 1) ++ [B.length + 1 + 1])[(setOf cs).length + 1]? = some (B.length + 1 + 1) := by
        rw [List.getElem?_append_right (by simp)]; simp
      refine round_endG (i + 1, ls.take n ++ c :: ls.drop n) (List.range ((setOf cs).length + 1) ++ [B.length + 1 + 1]) ⟨?_, ?_, ?_⟩
      · omega
      · rw [hsu]
        exact ⟨by omega, hkn⟩
      · rw [hsu]
        have hkm : ∀ d, d ∈ ls.take n ++ c :: ls.drop n → d ∈ cs ++ [c] := fun d hd => (hkn.2 d).1 hd
        have hll : (ls.take n ++ c :: ls.drop n).length = ls.length + 1 := by simp; omega
        dsimp only
        rw [hll]
        refine bks_ren _ ?_ (hrj 0 (by omega)) (by simp [hso]) ?_ hkm (rowsB_ren hcc hmem hrj hrq) ?_ ?_
        · rw [List.nodup_append]
          refine ⟨List.nodup_range, by simp, fun a ha b hb => ?_⟩
          have := List.mem_range.1 ha
          simp at hb
          omega
        · intro j d hj
          rcases Nat.lt_or_ge j (setOf cs).length with h | h
          · refine ⟨j, hrj _ (by omega), ?_⟩
            rw [hso, List.getElem?_append_left h] at hj
            have hd : d ∈ cs := (mem_setOf _ _).1 (List.mem_of_getElem? hj)
            have hdc : d ≠ c := fun e => hcc (e ▸ hd)
            rw [List.getElem?_append_left (by rw [hBl]; exact h), hB]
            simp [blG, hj, rowG, idxS_other hdc]
          · have h' := (List.getElem?_eq_some_iff.1 hj).1
            rw [hso, List.length_append, List.length_singleton] at h'
            obtain rfl : j = (setOf cs).length := by omega
            rw [hso, List.getElem?_append_right (Nat.le_refl _)] at hj
            simp at hj
            subst hj
            refine ⟨_, hrq, ?_⟩
            rw [ap1]
            have hi0 : idxS cs c = [] := List.eq_nil_iff_forall_not_mem.2 fun i hi => hcc (List.mem_of_getElem? (idxS_mem.1 hi))
            simp [rowG, idxS_same, hi0, encN, hcl]
        · simp only [renTm, V.ren, List.getD_eq_getElem?_getD, hrj 0 (by omega)]
          simp [push_cast, seval]
        · simp [push_cast, seval]
  · intro h1; (try simp only [decide_eq_true_eq, decide_eq_false_iff_not, Bool.not_eq_true', Bool.not_eq_false', Bool.and_eq_true, Bool.or_eq_true, Bool.not_eq_true] at h1)
    obtain rfl : i = ps.length := by omega
    rw [List.take_length] at hls ⊢
    obtain rfl := keys_uniq hls hk
    refine awp_exit ?_; (repeat (first | refine then_exit ?_ | refine inblock_other (by decide) ?_)); refine inblock_same ?_
    refine awp_seq ?_
    refine awpF_region ?_; intro K hK; simp only [push_cast, seval]; (try simp (disch := omega) only [wrapI]); (repeat ((with_reducible refine And.intro ?_ ?_); (focus (exact ob1)))); refine hK _ ?_; clear hK; clear K
    refine awp_ret ?_; (repeat (first | refine then_ret ?_ | refine inblock_ret ?_)); refine fin_of (by simp only [push_cast, seval]; first | done | rfl) ob1 ?_
    rw [hd0]
    refine deep_tup2 (deep_bks rfl ?_ fun d hd => (hls.2 d).1 hd) (.d _)
    intro j d hj
    simp [blG, hj]
end Go.Aw

namespace Go.Aw
set_option linter.unusedSimpArgs false
set_option linter.unusedVariables false
open Go.RowKit Go.Proofs Go.Rg

/-- What Index yields. -/
def outBk (ps : List Pt) (size : Int) (ks : List Sp) : List Bk := if idxErr ps size = 0 then bksS (ps.map (cellP size)) ks else []
theorem p40d (ps : List Pt) (size : Int) (ks : List Sp) (hk : IsKeys (ps.map (cellP size)) ks) : PD Try.prog 40 [.sl (ps.map encP), .int .i64 size] (.tup [.d (.sl ((outBk ps size ks).map encBk)), .d (.int .i64 (idxErr ps size))]) := by
  refine AC.deep (p40 ps size ks hk) fun x H hx => ⟨.tup [.sl ((outBk ps size ks).map encBk), .int .i64 (idxErr ps size)], ?_, rfl, rfl⟩
  unfold outBk
  by_cases he : idxErr ps size = 0
  · rw [if_pos he] at hx ⊢
    obtain ⟨h1, h2⟩ := hx
    subst h1
    subst h2
    rw [he]
    have := Deep.data (H := [Blk.data 3 ((bksS (ps.map (cellP size)) ks).map encBk)]) 0 0 ks.length 3 ((bksS (ps.map (cellP size)) ks).map encBk) rfl (by simp [bksS])
    rw [List.drop_zero, List.take_of_length_le (by simp [bksS])] at this
    exact deep_tup2 this (.d _)
  · rw [if_neg he] at hx ⊢
    obtain ⟨h1, h2⟩ := hx
    subst h1
    subst h2
    exact deep_tup2 .nil (.d _)
theorem p41d (ps : List Pt) (size : Int) (ks : List Sp) (hk : IsKeys (ps.map (cellP size)) ks) : PD Try.prog 41 [.sl (ps.map encP), .int .i64 size] (.tup [.d (.sl ((outBk ps size ks).map encBk)), .d (.int .i64 (idxErr ps size))]) := by
  refine p41 ps size ks hk (.tup [.sl ((outBk ps size ks).map encBk), .int .i64 (idxErr ps size)]) ?_
  unfold outBk
  split <;> rfl
theorem outBk_len (ps : List Pt) (size : Int) (ks : List Sp) (hk : IsKeys (ps.map (cellP size)) ks) : (outBk ps size ks).length ≤ ps.length ∧ ∀ b, b ∈ outBk ps size ks → b.2.length ≤ ps.length := by
  unfold outBk
  split
  · have := keys_len hk
    refine ⟨by simpa [bksS] using this, fun b hb => ?_⟩
    obtain ⟨c, _, rfl⟩ := List.mem_map.1 hb
    have := idxS_len (ps.map (cellP size)) c
    simpa using this
  · exact ⟨Nat.zero_le _, by simp⟩

theorem p8 (ps : List Pt) (size : Int) : PD Try.prog 8 [.sl (ps.map encP), .int .i64 size] (.d (.bool true)) := by
  obtain ⟨ks, hk⟩ := keys_ex (ps.map (cellP size))
  have h40 := p40d ps size ks hk
  have h41 := p41d ps size ks hk
  obtain ⟨hl1, hl2⟩ := outBk_len ps size ks hk
  generalize outBk ps size ks = B at h40 h41 hl1 hl2
  generalize idxErr ps size = e at h40 h41
  refine pd_of (fn := Try.f8) [.tmp 4] (by kernel_rfl) rfl (by kernel_rfl) (Nat.le_of_ble_eq_true rfl) (by kernel_rfl) rfl rfl ?_
  refine awp_seq ?_
  refine awpF_region ?_; intro K hK; simp only [push_cast, seval]; (try simp (disch := omega) only [wrapI]); (repeat ((with_reducible refine And.intro ?_ ?_); (focus (exact ob1)))); refine hK _ ?_; clear hK; clear K
  refine awp_seq ?_
  refine awp_seq ?_
  refine awpF_region ?_; intro K hK; simp only [push_cast, seval]
  (repeat ((with_reducible refine And.intro ?_ ?_); (focus (exact ob1))))
  refine CallK.pd (p14 _ _) ?_; simp only [push_cast, seval]; (try simp (disch := omega) only [wrapI]); (repeat ((with_reducible refine And.intro ?_ ?_); (focus (exact ob1))))
  refine hK _ ?_; clear hK; clear K
  apply awp_cond; (focus (simp only [push_cast, seval]; rfl))
  · intro h1; (try simp only [decide_eq_true_eq, decide_eq_false_iff_not, Bool.not_eq_true', Bool.not_eq_false', Bool.and_eq_true, Bool.or_eq_true, Bool.not_eq_true] at h1)
    refine awp_seq ?_
    refine awpF_region ?_; intro K hK; simp only [push_cast, seval]
    (repeat ((with_reducible refine And.intro ?_ ?_); (focus (exact ob1))))
    refine CallK.pd (p15) ?_; simp only [push_cast, seval]; (try simp (disch := omega) only [wrapI]); (repeat ((with_reducible refine And.intro ?_ ?_); (focus (exact ob1))))
    refine hK _ ?_; clear hK; clear K
    refine awp_ret ?_; (repeat (first | refine then_ret ?_ | refine inblock_ret ?_)); refine fin_of (by simp only [push_cast, seval]; first | done | rfl) ob1 ?_
    rfl
  · intro h1; (try simp only [decide_eq_true_eq, decide_eq_false_iff_not, Bool.not_eq_true', Bool.not_eq_false', Bool.and_eq_true, Bool.or_eq_true, Bool.not_eq_true] at h1)
    have hn : ps.length ≤ 1100 := by omega
    refine awp_skip ?_
    refine awp_seq ?_
    refine awpF_region ?_; intro K hK; simp only [push_cast, seval]
    (repeat ((with_reducible refine And.intro ?_ ?_); (focus (exact ob1))))
    refine CallK.pd (p16 ps (by omega)) ?_; simp only [push_cast, seval, ofD]; (repeat ((with_reducible refine And.intro ?_ ?_); (focus (exact ob1))))
    refine hK _ ?_; clear hK; clear K
    refine awp_seq ?_
    refine awpF_region ?_; intro K hK; simp only [push_cast, seval]
    (repeat ((with_reducible refine And.intro ?_ ?_); (focus (exact ob1))))
    refine CallK.pd (h40) ?_; simp only [push_cast, seval]; (try simp (disch := omega) only [wrapI]); (repeat ((with_reducible refine And.intro ?_ ?_); (focus (exact ob1))))
    refine hK _ ?_; clear hK; clear K
    refine awp_seq ?_
    refine awpF_region ?_; intro K hK; simp only [push_cast, seval]
    (repeat ((with_reducible refine And.intro ?_ ?_); (focus (exact ob1))))
    refine CallK.pd (h41) ?_; simp only [push_cast, seval]; (try simp (disch := omega) only [wrapI]); (repeat ((with_reducible refine And.intro ?_ ?_); (focus (exact ob1))))
    refine hK _ ?_; clear hK; clear K
    refine awp_seq ?_
    refine awp_seq ?_
    refine awpF_region ?_; intro K hK; simp only [push_cast, seval, bne_self_eq_false]
    (repeat ((with_reducible refine And.intro ?_ ?_); (focus (exact ob1))))
    refine CallK.pg (fun _ => p20 ps ps (by omega)) ?_; simp only [push_cast, seval, decide_true, bne_self_eq_false, cond_true, cond_false]; (repeat ((with_reducible refine And.intro ?_ ?_); (focus (exact ob1))))
    refine hK _ ?_; clear hK; clear K
    apply awp_cond; (focus (simp only [push_cast, seval]; rfl))
    · intro h2; (try simp only [decide_eq_true_eq, decide_eq_false_iff_not, Bool.not_eq_true', Bool.not_eq_false', Bool.and_eq_true, Bool.or_eq_true, Bool.not_eq_true] at h2)
      cases h2
    intro h2; (try simp only [decide_eq_true_eq, decide_eq_false_iff_not, Bool.not_eq_true', Bool.not_eq_false', Bool.and_eq_true, Bool.or_eq_true, Bool.not_eq_true] at h2)
    refine awp_skip ?_
    refine awp_seq ?_
    refine awp_seq ?_
    refine awpF_region ?_; intro K hK; simp only [push_cast, seval]; (try simp (disch := omega) only [wrapI]); (repeat ((with_reducible refine And.intro ?_ ?_); (focus (exact ob1)))); refine hK _ ?_; clear hK; clear K
    refine awp_block ?_
    refine awp_loopP (α := Nat) (st := fun i => ⟨[(6, .d (.sl (B.map encBk))), (8, .d (.sl (B.map encBk))), (10, .d (.int .i64 i))], []⟩) (inv := fun i => i ≤ B.length) (μ := fun i => B.length - i) (x0 := 0) (r0 := []) ?_ ?_ ?_
    · exact Nat.zero_le _
    · exact ⟨by simp, by simp, by simp [push_cast, seval], by simp [push_cast, seval], by simp [push_cast, seval], by simp [push_cast, seval]⟩
    intro i hi
    refine awp_seq ?_
    refine awp_seq ?_
    refine awpF_region ?_; intro K hK; simp only [push_cast, seval]; (try simp (disch := omega) only [wrapI]); (repeat ((with_reducible refine And.intro ?_ ?_); (focus (exact ob1)))); refine hK _ ?_; clear hK; clear K
    apply awp_cond; (focus (simp only [push_cast, seval]; rfl))
    · intro h3; (try simp only [decide_eq_true_eq, decide_eq_false_iff_not, Bool.not_eq_true', Bool.not_eq_false', Bool.and_eq_true, Bool.or_eq_true, Bool.not_eq_true] at h3)
      have hlt : i < B.length := by omega
      have g1 : (B.map encBk)[i]? = some (encBk B[i]) := by rw [List.getElem?_map, List.getElem?_eq_getElem hlt]; rfl
      simp only [encBk] at g1
      have hbl := hl2 _ (List.getElem_mem hlt)
      have h33 := p33n B[i].2 B[i].2 (by omega)
      refine awp_skip ?_
      refine awp_seq ?_
      refine awp_block ?_
      refine awp_seq ?_
      refine awpF_drawT (DT.op 0 (DT.op 1 (DT.op 2 (DT.op 3 (DT.op 4 (DT.op 5 (DT.op 6 (DT.op 7 (DT.op 8 (DT.op 9 (DT.op 10 (DT.op 11 (DT.op 12 (DT.op 13 (DT.op 14 (DT.op 15 (DT.op 16 (DT.op 17 (DT.op 18 (DT.op 19 (DT.op 20 (DT.op 21 (DT.op 22 (DT.op 23 (DT.op 24 DT.nil))))))))))))))))))))))))) (by kernel_rfl) (by kernel_rfl) (by kernel_rfl) ?_; intro K hK; apply dt_close; (rotate_left; (intro fin; (focus (simp only [push_cast, seval, g1, bne_self_eq_false, cond_true, cond_false]; (try simp (disch := omega) only [wrapI]); (repeat' (first | exact fin | (with_reducible refine And.intro ?_ ?_) | (refine CallK.pd (h33) ?_; simp only [push_cast, seval, g1, bne_self_eq_false, cond_true, cond_false]; (try simp (disch := omega) only [wrapI])) | (refine CallK.pg (fun _ => h33) ?_; simp only [push_cast, seval, g1, bne_self_eq_false, cond_true, cond_false]; (try simp (disch := omega) only [wrapI])) | exact ob1)))))); refine hK _ ?_; clear hK; clear K
      apply awp_cond; (focus (simp only [push_cast, seval]; rfl))
      · intro h4; (try simp only [decide_eq_true_eq, decide_eq_false_iff_not, Bool.not_eq_true', Bool.not_eq_false', Bool.and_eq_true, Bool.or_eq_true, Bool.not_eq_true] at h4)
        simp at h4
      · intro h4; (try simp only [decide_eq_true_eq, decide_eq_false_iff_not, Bool.not_eq_true', Bool.not_eq_false', Bool.and_eq_true, Bool.or_eq_true, Bool.not_eq_true] at h4)
        refine awp_skip ?_
        refine inblock_norm ?_
        refine awpF_region ?_; intro K hK; simp only [push_cast, seval]; (try simp (disch := omega) only [wrapI]); (repeat ((with_reducible refine And.intro ?_ ?_); (focus (exact ob1)))); refine hK _ ?_; clear hK; clear K
        refine round_endG (i + 1) [] ⟨by omega, by omega, ?_⟩
        exact ⟨by simp, by simp, by simp [push_cast, seval], by simp [push_cast, seval], by simp [push_cast, seval], by simp [push_cast, seval]⟩
    · intro h3; (try simp only [decide_eq_true_eq, decide_eq_false_iff_not, Bool.not_eq_true', Bool.not_eq_false', Bool.and_eq_true, Bool.or_eq_true, Bool.not_eq_true] at h3)
      refine awp_exit ?_; (repeat (first | refine then_exit ?_ | refine inblock_other (by decide) ?_)); refine inblock_same ?_
      refine awp_seq ?_
      refine awpF_region ?_; intro K hK; simp only [push_cast, seval]
      (repeat ((with_reducible refine And.intro ?_ ?_); (focus (exact ob1))))
      refine CallK.pd (p15) ?_; simp only [push_cast, seval]; (try simp (disch := omega) only [wrapI]); (repeat ((with_reducible refine And.intro ?_ ?_); (focus (exact ob1))))
      refine hK _ ?_; clear hK; clear K
      refine awp_ret ?_; (repeat (first | refine then_ret ?_ | refine inblock_ret ?_)); refine fin_of (by simp only [push_cast, seval]; first | done | rfl) ob1 ?_
      rfl
end Go.Aw
