/-
  Texts of the library, one behind the other. Over any program; no condition.
-/
import Derived.Test.YtecindhbaekncaaGreatPcD
import Derived.Test.YtecindhbaekncaaGreatPkT
namespace Go.Proofs
set_option linter.unusedSimpArgs false
set_option linter.unusedVariables false
open Go.RowKit Go.Maps Go.Sort Go.Shelf

def Tryz.sortB_ren : Go.Shelf.Ren := ⟨fun | 6 => 39 | 14 => 61 | 15 => 55 | 20 => 83 | 21 => 84 | 22 => 85 | 23 => 86 | 24 => 87 | 25 => 88 | 26 => 89 | 27 => 90 | 28 => 81 | 29 => 82 | 46 => 98 | 47 => 94 | 48 => 95 | 49 => 99 | 50 => 100 | 57 => 102 | n => n, fun | 0 => 0 | 3 => 3 | 4 => 4 | 5 => 5 | 9 => 9 | 22 => 29 | 25 => 85 | 39 => 102 | 45 => 123 | 46 => 124 | 50 => 82 | 53 => 130 | 55 => 132 | 66 => 141 | 70 => 145 | 76 => 149 | 77 => 150 | 24 => 36 | n => n, fun | n => n⟩
theorem Tryz.sortB : Go.Proofs.SlLaysF0.n6 Tryz.prog Tryz.sortB_ren where
  mixed := by kernel_rfl
  f6 := ⟨Tryz.f39.name, by kernel_rfl, Tryz.func39.trans (congrArg some (by kernel_rfl))⟩
  f14 := ⟨Tryz.f61.name, by kernel_rfl, Tryz.func61.trans (congrArg some (by kernel_rfl))⟩
  f15 := Tryz.func55.trans (congrArg some (by kernel_rfl))
  f20 := ⟨Tryz.f83.name, by kernel_rfl, Tryz.func83.trans (congrArg some (by kernel_rfl))⟩
  f21 := ⟨Tryz.f84.name, by kernel_rfl, Tryz.func84.trans (congrArg some (by kernel_rfl))⟩
  f22 := ⟨Tryz.f85.name, by kernel_rfl, Tryz.func85.trans (congrArg some (by kernel_rfl))⟩
  f23 := ⟨Tryz.f86.name, by kernel_rfl, Tryz.func86.trans (congrArg some (by kernel_rfl))⟩
  f24 := ⟨Tryz.f87.name, by kernel_rfl, Tryz.func87.trans (congrArg some (by kernel_rfl))⟩
  f25 := ⟨Tryz.f88.name, by kernel_rfl, Tryz.func88.trans (congrArg some (by kernel_rfl))⟩
  f26 := ⟨Tryz.f89.name, by kernel_rfl, Tryz.func89.trans (congrArg some (by kernel_rfl))⟩
  f27 := ⟨Tryz.f90.name, by kernel_rfl, Tryz.func90.trans (congrArg some (by kernel_rfl))⟩
  f28 := Tryz.func81.trans (congrArg some (by kernel_rfl))
  f29 := Tryz.func82.trans (congrArg some (by kernel_rfl))
  f46 := ⟨Tryz.f98.name, by kernel_rfl, Tryz.func98.trans (congrArg some (by kernel_rfl))⟩
  f47 := Tryz.func94.trans (congrArg some (by kernel_rfl))
  f48 := Tryz.func95.trans (congrArg some (by kernel_rfl))
  f49 := ⟨Tryz.f99.name, by kernel_rfl, Tryz.func99.trans (congrArg some (by kernel_rfl))⟩
  f50 := ⟨Tryz.f100.name, by kernel_rfl, Tryz.func100.trans (congrArg some (by kernel_rfl))⟩
  f57 := ⟨Tryz.f102.name, by kernel_rfl, Tryz.func102.trans (congrArg some (by kernel_rfl))⟩
  t0 := Tryz.underlying0
  a0 := Tryz.isAgg0
  z0 := Tryz.sizeOf0
  v0 := Tryz.zeroValue0
  t3 := Tryz.underlying3
  a3 := Tryz.isAgg3
  z3 := Tryz.sizeOf3
  v3 := Tryz.zeroValue3
  t4 := Tryz.underlying4
  a4 := Tryz.isAgg4
  z4 := Tryz.sizeOf4
  v4 := Tryz.zeroValue4
  t5 := Tryz.underlying5
  a5 := Tryz.isAgg5
  z5 := Tryz.sizeOf5
  v5 := Tryz.zeroValue5
  t9 := Tryz.underlying9
  a9 := Tryz.isAgg9
  z9 := Tryz.sizeOf9
  v9 := Tryz.zeroValue9
  t22 := Tryz.underlying29
  a22 := Tryz.isAgg29
  z22 := Tryz.sizeOf29
  v22 := Tryz.zeroValue29
  t25 := Tryz.underlying85
  a25 := Tryz.isAgg85
  z25 := Tryz.sizeOf85
  v25 := Tryz.zeroValue85
  t39 := Tryz.underlying102
  a39 := Tryz.isAgg102
  z39 := Tryz.sizeOf102
  v39 := Tryz.zeroValue102
  t45 := Tryz.underlying123
  a45 := Tryz.isAgg123
  z45 := Tryz.sizeOf123
  v45 := Tryz.zeroValue123
  t46 := Tryz.underlying124
  a46 := Tryz.isAgg124
  z46 := Tryz.sizeOf124
  v46 := Tryz.zeroValue124
  t50 := Tryz.underlying82
  a50 := Tryz.isAgg82
  z50 := Tryz.sizeOf82
  v50 := Tryz.zeroValue82
  t53 := Tryz.underlying130
  a53 := Tryz.isAgg130
  z53 := Tryz.sizeOf130
  v53 := Tryz.zeroValue130
  t55 := Tryz.underlying132
  a55 := Tryz.isAgg132
  z55 := Tryz.sizeOf132
  v55 := Tryz.zeroValue132
  t66 := Tryz.underlying141
  a66 := Tryz.isAgg141
  z66 := Tryz.sizeOf141
  v66 := Tryz.zeroValue141
  t70 := Tryz.underlying145
  a70 := Tryz.isAgg145
  z70 := Tryz.sizeOf145
  v70 := Tryz.zeroValue145
  t76 := Tryz.underlying149
  a76 := Tryz.isAgg149
  z76 := Tryz.sizeOf149
  v76 := Tryz.zeroValue149
  t77 := Tryz.underlying150
  a77 := Tryz.isAgg150
  z77 := Tryz.sizeOf150
  v77 := Tryz.zeroValue150

end Go.Proofs

namespace Go.Aw
open Go.RowKit Go.Proofs Go.Sort Go.Shelf Go.Rg

theorem perm_map_ex {α β : Type} {f : α → β} {r m : List β} (h : r.Perm m) : ∀ {l : List α}, m = l.map f → ∃ l' : List α, l'.Perm l ∧ r = l'.map f := by
  induction h with
  | nil =>
    intro l e
    have : l = [] := by
      cases l with
      | nil => rfl
      | cons x l => simp at e
    subst this
    exact ⟨[], .nil, rfl⟩
  | cons a h ih =>
    intro l e
    cases l with
    | nil => simp at e
    | cons x l =>
      simp only [List.map_cons, List.cons.injEq] at e
      obtain ⟨l', h1, h2⟩ := ih e.2
      exact ⟨x :: l', .cons x h1, by rw [List.map_cons, ← h2, e.1]⟩
  | swap a b t =>
    intro l e
    match l, e with
    | x :: y :: l, e =>
      simp only [List.map_cons, List.cons.injEq] at e
      exact ⟨y :: x :: l, .swap x y l, by rw [List.map_cons, List.map_cons, ← e.1, ← e.2.1, ← e.2.2]⟩
  | trans h1 h2 ih1 ih2 =>
    intro l e
    obtain ⟨l2, h3, h4⟩ := ih2 e
    obtain ⟨l1, h5, h6⟩ := ih1 h4
    exact ⟨l1, h5.trans h3, h6⟩

def okBk (b : Bk) : Prop := b.2 ≠ [] ∧ b.2.length ≤ 1000000
def goodBk (r : List D) : Prop := ∃ b : Bk, okBk b ∧ r = encBk b
def keyBk : List D → Int
  | [_, _, .sl ([.int _ n] :: _)] => n
  | _ => 0
theorem keyBk_of {b : Bk} (h : okBk b) : keyBk (encBk b) = (fstN b : Int) := by
  obtain ⟨⟨a1, a2⟩, l⟩ := b
  cases l with
  | nil => exact absurd rfl h.1
  | cons i s => rfl
theorem cmp3_neg (a b : Int) : cmp3 a b < 0 ↔ a < b := by
  unfold cmp3
  split
  · simp_all
  · split
    · simp_all
    · simp_all
theorem a85 (L : List Bk) (hL : ∀ b, b ∈ L → okBk b) (hz : L.length ≤ 1000000) : AC Tryz.prog 39 [.ref 0 0 L.length, .d (.fn (.func 40) [])] [.data 3 (L.map encBk)] [0] fun x H => x = .tup [] ∧ ∃ L' : List Bk, L'.Perm L ∧ (L'.Pairwise fun a b => fstN a ≤ fstN b) ∧ H = [.data 3 (L'.map encBk)] := by
  have key := ac_sortD (P := Tryz.prog) (f := 39) (g := 40) (ρ := Tryz.sortB_ren) ⟨Tryz.f39, by kernel_rfl, by kernel_rfl, rfl⟩ Tryz.sortB rfl 3 (by decide) Tryz.isAgg36 Tryz.sizeOf36 (enters_of Tryz.func40 (by kernel_rfl) rfl)
    goodBk keyBk (fun x y => cmp3 (keyBk x) (keyBk y)) (fun x y _ _ => cmp3_neg _ _) (fun x y hx hy => by
      obtain ⟨a, ha, rfl⟩ := hx
      obtain ⟨b, hb, rfl⟩ := hy
      rw [keyBk_of ha, keyBk_of hb]
      obtain ⟨i, s, hi⟩ : ∃ i s, a.2 = i :: s := by
        cases h : a.2 with
        | nil => exact absurd h ha.1
        | cons i s => exact ⟨i, s, rfl⟩
      obtain ⟨j, t, hj⟩ : ∃ j t, b.2 = j :: t := by
        cases h : b.2 with
        | nil => exact absurd h hb.1
        | cons j t => exact ⟨j, t, rfl⟩
      have h := p86 a b i j s t hi hj ha.2 hb.2
      rw [show fstN a = i by unfold fstN; rw [hi]; rfl, show fstN b = j by unfold fstN; rw [hj]; rfl]
      exact h) (L.map encBk) (fun r hr => by
      obtain ⟨b, hb, rfl⟩ := List.mem_map.1 hr
      exact ⟨b, hL b hb, rfl⟩) (by rw [List.length_map]; omega)
  rw [List.length_map] at key
  refine AC.mono key ?_
  rintro x H ⟨hx, rows, hp, hs, rfl⟩
  obtain ⟨L', h1, rfl⟩ := perm_map_ex hp rfl
  refine ⟨hx, L', h1, ?_, rfl⟩
  rw [List.pairwise_map] at hs
  refine List.Pairwise.imp_of_mem (fun {a b} ha hb h => ?_) hs
  rw [keyBk_of (hL a (h1.mem_iff.1 ha)), keyBk_of (hL b (h1.mem_iff.1 hb))] at h
  omega
end Go.Aw

namespace Go.Aw
set_option linter.unusedSimpArgs false
set_option linter.unusedVariables false
open Go.RowKit Go.Proofs Go.Rg

theorem esG_sh (cs : List Sp) : (esG cs).map (fun p => (V.sh 0 p.1, V.sh 0 p.2)) = esG cs := by
  apply List.ext_getElem?
  intro j
  simp only [List.getElem?_map, esG, List.getElem?_mapIdx]
  cases (setOf cs)[j]? with
  | none => rfl
  | some d => simp [encSp, spV, V.sh, V.shL]
theorem blG_sh (cs : List Sp) : heapSh 0 (blG cs) = blG cs := by
  unfold blG
  induction setOf cs with
  | nil => rfl
  | cons d l ih => simp only [List.map_cons, heapSh, ih]; rfl
def esH (cs : List Sp) (i : Nat) : List (V × V) := (setOf cs).mapIdx fun k d => (encSp d, if k < i then .d (.sl ((idxS cs d).map encN)) else .ref (k + 1) 0 (idxS cs d).length)
def blH (cs : List Sp) (i : Nat) : List Blk := (setOf cs).mapIdx fun k d => if k < i then .gone else rowG cs d
def esF (cs : List Sp) : List (V × V) := (setOf cs).map fun d => (encSp d, .d (.sl ((idxS cs d).map encN)))
theorem esH_zero (cs : List Sp) : esH cs 0 = esG cs := by simp [esH, esG]
theorem blH_zero (cs : List Sp) : blH cs 0 = blG cs := by
  apply List.ext_getElem?
  intro j
  simp only [blH, blG, List.getElem?_mapIdx, List.getElem?_map]
  rfl
theorem esH_end (cs : List Sp) : esH cs (setOf cs).length = esF cs := by
  apply List.ext_getElem?
  intro j
  simp only [esH, esF, List.getElem?_mapIdx, List.getElem?_map]
  cases h : (setOf cs)[j]? with
  | none => rfl
  | some d =>
    have hj := (List.getElem?_eq_some_iff.1 h).1
    simp [hj]
theorem esH_step {cs : List Sp} {i : Nat} {d : Sp} (h : (setOf cs)[i]? = some d) : (esH cs i).map (fun p => (V.frz (i + 1) ((idxS cs d).map encN) p.1, V.frz (i + 1) ((idxS cs d).map encN) p.2)) = esH cs (i + 1) := by
  apply List.ext_getElem?
  intro j
  simp only [List.getElem?_map, esH, List.getElem?_mapIdx]
  cases hj : (setOf cs)[j]? with
  | none => rfl
  | some g =>
    simp only [Option.map_some]
    by_cases h1 : j < i
    · have h2 : j < i + 1 := by omega
      simp [h1, h2, encSp, spV, V.frz, V.frzL]
    · by_cases h3 : j = i
      · subst h3
        rw [h] at hj
        obtain rfl : d = g := by simpa using hj
        have e : List.take (idxS cs d).length (List.map encN (idxS cs d)) = List.map encN (idxS cs d) := List.take_of_length_le (by simp)
        simp [encSp, spV, V.frz, V.frzL, e]
      · have h2 : ¬ j < i + 1 := by omega
        simp [h1, h2, h3, encSp, spV, V.frz, V.frzL]
theorem blH_step (cs : List Sp) (i : Nat) (rows : List (List D)) : (heapFrz (i + 1) rows (blH cs i)).set i .gone = blH cs (i + 1) := by
  apply List.ext_getElem?
  intro j
  rw [heapFrz_eq, List.getElem?_set]
  simp only [List.getElem?_map, blH, List.getElem?_mapIdx, List.length_map, List.length_mapIdx]
  by_cases h3 : i = j
  · subst h3
    cases hj : (setOf cs)[i]? with
    | none =>
      have := List.getElem?_eq_none_iff.1 hj
      simp; omega
    | some g =>
      have := (List.getElem?_eq_some_iff.1 hj).1
      simp [this]
  · rw [if_neg h3]
    cases hj : (setOf cs)[j]? with
    | none => rfl
    | some g =>
      simp only [Option.map_some]
      by_cases h1 : j < i
      · have h2 : j < i + 1 := by omega
        simp [h1, h2, Blk.frz]
      · have h2 : ¬ j < i + 1 := by omega
        simp [h1, h2, rowG, Blk.frz]
theorem fz_data {s : St} {id k off len : Nat} {rows : List (List D)} (h : s.heap[id]? = some (.data k rows)) : s.fz 3 (.ref id off len) = { tm := tmFrz id rows s.tm, heap := (heapFrz id rows s.heap).set id .gone } := by
  simp only [St.fz, h, Option.getD_some, St.frz, Blk.rowsD]
theorem grid_step {cs : List Sp} {P : Program} {kp : List Nat} {n : Nat} {c : Code} {Q : Exit → St → Prop} {tm : List (Nat × V)} (htm : ∀ j rows, tmFrz (j + 1) rows tm = tm) {i : Nat} (hi : i < (setOf cs).length)
    (h : AWP P kp n c ⟨tm, .mp (esH cs (i + 1)) :: blH cs (i + 1)⟩ Q) : AWP P kp n c ⟨tm, .mp (esH cs i) :: blH cs i⟩ Q := by
  obtain ⟨d, hd⟩ : ∃ d, (setOf cs)[i]? = some d := ⟨_, List.getElem?_eq_getElem hi⟩
  refine awp_fz (.ref (i + 1) 0 0) ?_
  have hb : (Blk.mp (esH cs i) :: blH cs i)[i + 1]? = some (.data 1 ((idxS cs d).map encN)) := by
    show (blH cs i)[i]? = _
    simp [blH, hd, rowG]
  rw [fz_data (s := ⟨tm, .mp (esH cs i) :: blH cs i⟩) hb, htm]
  show AWP P kp n c ⟨tm, Blk.frz (i + 1) _ (.mp (esH cs i)) :: (heapFrz (i + 1) _ (blH cs i)).set i .gone⟩ Q
  rw [blH_step, show Blk.frz (i + 1) ((idxS cs d).map encN) (.mp (esH cs i)) = .mp (esH cs (i + 1)) from congrArg Blk.mp (esH_step hd)]
  exact h
theorem grid_all {cs : List Sp} {P : Program} {kp : List Nat} {n : Nat} {c : Code} {Q : Exit → St → Prop} {tm : List (Nat × V)} (htm : ∀ j rows, tmFrz (j + 1) rows tm = tm)
    (h : AWP P kp n c ⟨tm, .mp (esF cs) :: blH cs (setOf cs).length⟩ Q) : AWP P kp n c ⟨tm, .mp (esG cs) :: blG cs⟩ Q := by
  have key : ∀ m i, i + m = (setOf cs).length → AWP P kp n c ⟨tm, .mp (esH cs i) :: blH cs i⟩ Q := by
    intro m
    induction m with
    | zero =>
      intro i hi
      obtain rfl : i = (setOf cs).length := by omega
      rw [esH_end]
      exact h
    | succ m ih =>
      intro i hi
      exact grid_step htm (by omega) (ih (i + 1) (by omega))
  have := key (setOf cs).length 0 (by omega)
  rw [esH_zero, blH_zero] at this
  exact this
theorem esF_bel (cs : List Sp) (n : Nat) : Blk.bel n (.mp (esF cs)) = true := by
  simp only [Blk.bel, esF, List.all_eq_true, List.mem_map]
  rintro p ⟨d, _, rfl⟩
  rfl
theorem esF_belm (cs : List Sp) (n : Nat) (a b : V) (h : (a, b) ∈ esF cs) : V.bel n a = true ∧ V.bel n b = true := by
  simp only [esF, List.mem_map, Prod.mk.injEq] at h
  obtain ⟨d, _, rfl, rfl⟩ := h
  exact ⟨rfl, rfl⟩
theorem esF_keep (cs : List Sp) (r : List Nat) : (esF cs).map (fun p => (V.ren r p.1, V.ren r p.2)) = esF cs := by
  simp only [esF, List.map_map]
  apply List.map_congr_left
  intro d _
  simp [encSp, spV, V.ren, V.renL]
theorem esF_len (cs : List Sp) : (esF cs).length = (setOf cs).length := by simp [esF]
theorem esF_scr (i : Nat) (cs : List Sp) : (esF cs).map (fun p => (scr i p.1, scr i p.2)) = esF cs := by
  simp only [esF, List.map_map]
  apply List.map_congr_left
  intro d _
  simp [scr, encSp, spV, V.has, V.hasL]
theorem esF_get {cs : List Sp} {j : Nat} {p : V × V} (h : (esF cs)[j]? = some p) : ∃ d, (setOf cs)[j]? = some d ∧ p = (encSp d, .d (.sl ((idxS cs d).map encN))) := by
  simp only [esF, List.getElem?_map, Option.map_eq_some_iff] at h
  obtain ⟨d, hd, rfl⟩ := h
  exact ⟨d, hd, rfl⟩
theorem esF_keys (cs : List Sp) : (esF cs).map (·.1) = (setOf cs).map encSp := by simp [esF]
theorem esF_find {cs : List Sp} {c : Sp} (h : c ∈ cs) : ∃ k, mfind (esF cs) (encSp c) = some k ∧ (esF cs)[k]? = some (encSp c, .d (.sl ((idxS cs c).map encN))) := by
  rw [find_keys (esF_keys cs)]
  cases hf : (setOf cs).findIdx? fun x => decide (x = c) with
  | none =>
    rw [List.findIdx?_eq_none_iff] at hf
    have := hf c ((mem_setOf _ _).2 h)
    simp at this
  | some j =>
    rw [List.findIdx?_eq_some_iff_getElem] at hf
    obtain ⟨hj, he, _⟩ := hf
    have he : (setOf cs)[j] = c := by simpa using he
    exact ⟨j, rfl, by simp [esF, List.getElem?_eq_getElem hj, he]⟩
theorem seenL_keys {cs : List Sp} {seen : List Nat} (hn : seen.Nodup) (hall : ∀ j, j < (setOf cs).length → j ∈ seen) : (seenL (setOf cs) seen).Nodup ∧ ∀ c, c ∈ seenL (setOf cs) seen ↔ c ∈ cs := by
  refine ⟨?_, fun c => by rw [seenL_all hall, mem_setOf]⟩
  unfold seenL
  rw [List.nodup_iff_pairwise_ne, List.pairwise_filterMap]
  refine hn.imp fun {a b} hab x hx y hy e => hab ?_
  subst e
  exact nd_get hx hy

theorem p40 (ps : List Pt) (size : Int) (ks : List Sp) (hk : IsKeys (ps.map (cellP size)) ks) : PC Tryz.prog 7 [.sl (ps.map encP), .int .i64 size] fun x H => if idxErr ps size = 0 then x = .tup [.ref 0 0 ks.length, .d (.int .i64 0)] ∧ H = [.data 3 ((bksS (ps.map (cellP size)) ks).map encBk)] else x = .tup [.nil, .d (.int .i64 (idxErr ps size))] ∧ H = [] := by
  have h80 := p80 ps size
  by_cases he : idxErr ps size = 0
  · have hc : check ps = 0 := by
      unfold idxErr at he
      split at he
      · rename_i h; exact absurd he h
      · rename_i h; simpa using h
    have hs : 1 ≤ size ∧ size ≤ 16777216 := by
      unfold idxErr at he
      rw [if_neg (by simpa using hc)] at he
      split at he
      · assumption
      · cases he
    rw [he] at h80
    simp only [he, if_true]
    have h81 := p81 ps size hs hc
    refine pc_of (fn := Tryz.f7) [.tmp 4, .tmp 5] (by kernel_rfl) rfl (by kernel_rfl) (Nat.le_of_ble_eq_true rfl) (by kernel_rfl) rfl ?_
    refine awp_seq ?_
    refine awpF_region ?_; intro K hK; simp only [push_cast, seval]; (try simp (disch := omega) only [wrapI]); (repeat ((with_reducible refine And.intro ?_ ?_); (focus (exact ob1)))); refine hK _ ?_; clear hK; clear K
    refine awp_seq ?_
    refine awp_seq ?_
    refine awpF_region ?_; intro K hK; simp only [push_cast, seval]
    refine CallK.pd (h80) ?_; simp only [push_cast, seval]; (try simp (disch := omega) only [wrapI]); (repeat ((with_reducible refine And.intro ?_ ?_); (focus (exact ob1))))
    refine hK _ ?_; clear hK; clear K
    refine awp_seq ?_
    refine awpF_region ?_; intro K hK; simp only [push_cast, seval]; (try simp (disch := omega) only [wrapI]); (repeat ((with_reducible refine And.intro ?_ ?_); (focus (exact ob1)))); refine hK _ ?_; clear hK; clear K
    apply awp_cond; (focus (simp only [push_cast, seval]; rfl))
    · intro h
      exact absurd h (by decide)
    intro h
    clear h
    refine awp_skip ?_
    refine awp_seq ?_
    refine awpF_region ?_; intro K hK; simp only [push_cast, seval]
    refine CallK.rel h81 ?_
    intro x' H' hR
    have hx' := hR.1
    have hH' := hR.2
    clear hR
    subst hx'
    subst hH'
    simp only [push_cast, seval, esG_sh, blG_sh]
    have hcl : (ps.map (cellP size)).length ≤ 100000 := by rw [List.length_map]; have := check_len hc; omega
    have hkb : ∀ d, d ∈ ps.map (cellP size) → -9223372036854775808 ≤ d.1 ∧ d.1 ≤ 9223372036854775807 ∧ -9223372036854775808 ≤ d.2 ∧ d.2 ≤ 9223372036854775807 := fun d hd => cell_bd hc hs.1 hd
    generalize hcs : ps.map (cellP size) = cs at hk hcl hkb ⊢
    refine hK _ ?_; clear hK; clear K
    refine grid_all ?_ ?_
    · intro _ _; rfl
    refine awp_ren [0] _ (ren_keep (H := [.mp (esF cs)]) (tm' := [(0, .d (.sl (ps.map encP))), (1, .d (.int .i64 size)), (7, .map 0)]) ?_ ?_ ?_) ?_
    · simp [esF_bel]
    · simp [push_cast, seval]
    · simp [push_cast, seval]
    refine awp_seq ?_
    refine awpF_region ?_; intro K hK; simp only [push_cast, seval]; (try simp (disch := omega) only [wrapI]); (repeat ((with_reducible refine And.intro ?_ ?_); (focus (exact ob1)))); refine hK _ ?_; clear hK; clear K
    refine awp_virt 8 2 rfl ?_
    simp only [push_cast, seval]
    refine awp_seq ?_
    refine awp_seq ?_
    refine awpF_region ?_; intro K hK; simp only [push_cast, seval]; (try simp (disch := omega) only [wrapI]); (repeat ((with_reducible refine And.intro ?_ ?_); (focus (exact ob1)))); refine hK _ ?_; clear hK; clear K
    refine awp_block ?_
    refine awp_loopP (st := fun (x : List Nat) => ⟨[(7, .map 0), (8, .ref 1 0 (seenL (setOf cs) x).length), (23, .ptr 2 0 0)], [.mp (esF cs), .data 2 ((seenL (setOf cs) x).map (enD enS)), .it (.map 0) x (setOf cs).length]⟩)
      (inv := fun x => x.Nodup ∧ ∀ j, j ∈ x → j < (setOf cs).length) (μ := fun x => (setOf cs).length - x.length) (x0 := []) (r0 := [0, 1, 2]) ?_ ?_ ?_
    · exact ⟨List.nodup_nil, by simp⟩
    · exact ⟨by simp, by simp, by simp [push_cast, seval, esF_keep, esF_len, seenL], by simp [push_cast, seval, seenL], by simp [push_cast, seval], by simp [push_cast, seval]; exact esF_belm cs 3⟩
    rintro seen ⟨hnd, hlt⟩
    refine awp_seq ?_
    refine awpF_region ?_; intro K hK; simp only [push_cast, seval]
    refine ⟨(esF_len cs).symm, fun hall => ?_, fun j pe hj hns => ?_⟩
    · have hall : ∀ j, j < (setOf cs).length → j ∈ seen := fun j hj => hall j (by rw [esF_len]; exact hj)
      obtain ⟨hzn, hzm⟩ := seenL_keys hnd hall
      generalize seenL (setOf cs) seen = zs at hzn hzm ⊢
      have hzl : zs.length ≤ 1000000 := by
        have := nodup_le hzn fun c hc => (hzm c).1 hc
        omega
      have hsk : sortS zs = ks := keys_uniq (sortS_keys hzn hzm) hk
      have hksl : ks.length = zs.length := by rw [← hsk, sortS_len]
      simp only [push_cast, seval]
      (repeat ((with_reducible refine And.intro ?_ ?_); (focus (exact ob1))))
      refine hK _ ?_; clear hK; clear K
      refine awp_seq ?_
      apply awp_cond; (focus (simp only [push_cast, seval]; rfl))
      · intro h9; (try simp only [decide_eq_true_eq, decide_eq_false_iff_not, Bool.not_eq_true', Bool.not_eq_false', Bool.and_eq_true, Bool.or_eq_true, Bool.not_eq_true] at h9)
        cases h9
      intro h9; (try simp only [decide_eq_true_eq, decide_eq_false_iff_not, Bool.not_eq_true', Bool.not_eq_false', Bool.and_eq_true, Bool.or_eq_true, Bool.not_eq_true] at h9)
      refine awp_exit ?_; (repeat (first | refine then_exit ?_ | refine inblock_other (by decide) ?_)); refine inblock_same ?_
      refine awp_seq ?_
      refine awpF_regionH [1] ?_; intro K hK; simp only [push_cast, seval, List.zipIdx_cons, List.zipIdx_nil]
      refine HeapK.mk _ (a82 zs hzl 1 _ _ ?_) ?_
      · rfl
      intro x' H' hR
      obtain ⟨hx', hH'⟩ := hR
      subst hx'
      subst hH'
      rw [hsk]
      simp only [push_cast, seval]
      refine hK _ ?_; clear hK; clear K
      refine awp_seq ?_
      refine awpF_region ?_; intro K hK; simp only [push_cast, seval]; (try simp (disch := omega) only [wrapI]); (repeat ((with_reducible refine And.intro ?_ ?_); (focus (exact ob1)))); refine hK _ ?_; clear hK; clear K
      refine awp_virt 10 3 rfl ?_
      simp only [push_cast, seval]
      refine awp_seq ?_
      refine awp_seq ?_
      refine awpF_region ?_; intro K hK; simp only [push_cast, seval]; (try simp (disch := omega) only [wrapI]); (repeat ((with_reducible refine And.intro ?_ ?_); (focus (exact ob1)))); refine hK _ ?_; clear hK; clear K
      refine awp_block ?_
      refine awp_loopP (α := Nat) (st := fun i => ⟨[(7, .map 0), (10, .ref 2 0 i), (34, .ref 1 0 ks.length), (35, .d (.int .i64 ks.length)), (36, .d (.int .i64 i))], [.mp (esF cs), .data 2 (ks.map (enD enS)), .data 3 ((bksS cs (ks.take i)).map encBk)]⟩)
        (inv := fun i => i ≤ ks.length) (μ := fun i => ks.length - i) (x0 := 0) (r0 := [0, 1, 3]) ?_ ?_ ?_
      · exact Nat.zero_le _
      · rw [← hksl]
        exact ⟨by simp, by simp, by simp [push_cast, seval, esF_keep, bksS], by simp [push_cast, seval], by simp [push_cast, seval], by simp [push_cast, seval]; exact esF_belm cs 3⟩
      intro i hi
      refine awp_seq ?_
      refine awpF_region ?_; intro K hK; simp only [push_cast, seval]; (try simp (disch := omega) only [wrapI]); (repeat ((with_reducible refine And.intro ?_ ?_); (focus (exact ob1)))); refine hK _ ?_; clear hK; clear K
      refine awp_seq ?_
      apply awp_cond; (focus (simp only [push_cast, seval]; rfl))
      · intro h5; (try simp only [decide_eq_true_eq, decide_eq_false_iff_not, Bool.not_eq_true', Bool.not_eq_false', Bool.and_eq_true, Bool.or_eq_true, Bool.not_eq_true] at h5)
        have hlt2 : i < ks.length := by omega
        obtain ⟨c, hc2⟩ : ∃ c, ks[i]? = some c := ⟨_, List.getElem?_eq_getElem hlt2⟩
        have hcm : c ∈ cs := (hk.2 c).1 (List.mem_of_getElem? hc2)
        obtain ⟨k, hf, hget⟩ := esF_find hcm
        have g1 : (ks.map (enD enS))[i]? = some [.int .i64 c.1, .int .i64 c.2] := by rw [List.getElem?_map, hc2]; rfl
        have hmk : MK Tryz.prog 33 (esF cs) := mkG (esF_keys cs) (fun d hd => hkb d ((mem_setOf _ _).1 hd)) (nd_setOf cs)
        have hkw : kwf Tryz.prog 33 (.agg [.d (.int .i64 c.1), .d (.int .i64 c.2)]) := kwf34 (d := c) (hkb c hcm)
        simp only [encSp, spV] at hf hget
        have hMs : List.map (fun p : V × V => (if V.has 2 p.1 = true then jk 2 p.1 else p.1, if V.has 2 p.2 = true then jk 2 p.2 else p.2)) (esF cs) = esF cs := esF_scr 2 cs
        have hbl : ((bksS cs (ks.take i)).map encBk).length = i := by simp [bksS]; omega
        have htk : ((bksS cs (ks.take i)).map encBk).take i = (bksS cs (ks.take i)).map encBk := List.take_of_length_le (by omega)
        have hsn : (bksS cs (ks.take (i + 1))).map encBk = (bksS cs (ks.take i)).map encBk ++ [[.int .i64 c.1, .int .i64 c.2, .sl ((idxS cs c).map encN)]] := by
          rw [List.take_add_one, hc2]
          simp [bksS, encBk]
        refine awp_skip ?_
        refine awp_seq ?_
        refine awp_block ?_
        refine awp_seq ?_
        refine awpF_region ?_; intro K hK; simp only [push_cast, seval, g1]
        (repeat ((with_reducible refine And.intro ?_ ?_); (focus (exact ob1))))
        refine hK _ ?_; clear hK; clear K
        refine awpF_draw [0,1,2,3,4,5,6,7,8] (by kernel_rfl) (by kernel_rfl) rfl ?_; intro K hK; simp only [push_cast, seval, hf, hget, hmk, hkw, hMs, htk]
        refine ⟨fun h => h, by omega, by omega, ?_⟩
        refine hK _ ?_; clear hK; clear K
        refine awpF_region ?_; intro K hK; simp only [push_cast, seval]; (try simp (disch := omega) only [wrapI]); (repeat ((with_reducible refine And.intro ?_ ?_); (focus (exact ob1)))); refine hK _ ?_; clear hK; clear K
        refine round_endG (i + 1) [0, 1, 2] ⟨by omega, by omega, ?_⟩
        rw [hsn]
        exact ⟨by simp, by simp, by simp [push_cast, seval, esF_keep], by simp [push_cast, seval], by simp [push_cast, seval], by simp [push_cast, seval]; exact esF_belm cs 3⟩
      · intro h5; (try simp only [decide_eq_true_eq, decide_eq_false_iff_not, Bool.not_eq_true', Bool.not_eq_false', Bool.and_eq_true, Bool.or_eq_true, Bool.not_eq_true] at h5)
        obtain rfl : i = ks.length := by omega
        refine awp_exit ?_; (repeat (first | refine then_exit ?_ | refine inblock_other (by decide) ?_)); refine inblock_same ?_
        rw [List.take_length]
        refine awp_ren [2] ⟨[(10, .ref 0 0 ks.length)], [.data 3 ((bksS cs ks).map encBk)]⟩ ?_ ?_
        · exact ⟨by simp, by simp, by simp [push_cast, seval], by simp [push_cast, seval], by simp [push_cast, seval], by simp [push_cast, seval]⟩
        refine awp_seq ?_
        refine awpF_region ?_; intro K hK; simp only [push_cast, seval]; (try simp (disch := omega) only [wrapI]); (repeat ((with_reducible refine And.intro ?_ ?_); (focus (exact ob1)))); refine hK _ ?_; clear hK; clear K
        refine awp_ret ?_; (repeat (first | refine then_ret ?_ | refine inblock_ret ?_)); refine fin_of (by simp only [push_cast, seval]; first | done | rfl) ob1 ?_
        rw [hcs]
        exact ⟨rfl, rfl⟩
    · obtain ⟨d, hd, rfl⟩ := esF_get hj
      have hjl : j < (setOf cs).length := (List.getElem?_eq_some_iff.1 hd).1
      have hnd' : (seen ++ [j]).Nodup := by
        rw [List.nodup_append]
        exact ⟨hnd, by simp, fun x hx y hy => by simp at hy; subst hy; rintro rfl; exact hns hx⟩
      have hlt' : ∀ x, x ∈ seen ++ [j] → x < (setOf cs).length := fun x hx => by
        rcases List.mem_append.1 hx with hx | hx
        · exact hlt x hx
        · simp at hx; omega
      have hsl : (seen ++ [j]).length ≤ (setOf cs).length := nd_len hnd' hlt'
      rw [List.length_append, List.length_singleton] at hsl
      have hsn := seenL_snoc (seen := seen) hd
      have hsz : (seenL (setOf cs) seen).length ≤ seen.length := List.length_filterMap_le _ _
      have hso := len_setOf cs
      simp only [encSp, spV]
      simp only [push_cast, seval]
      (repeat ((with_reducible refine And.intro ?_ ?_); (focus (exact ob1))))
      refine hK _ ?_; clear hK; clear K
      refine awp_seq ?_
      apply awp_cond; (focus (simp only [push_cast, seval]; rfl))
      · intro h9; (try simp only [decide_eq_true_eq, decide_eq_false_iff_not, Bool.not_eq_true', Bool.not_eq_false', Bool.and_eq_true, Bool.or_eq_true, Bool.not_eq_true] at h9)
        refine awp_skip ?_
        refine awp_block ?_
        refine awp_seq ?_
        refine awpF_region ?_; intro K hK; simp only [push_cast, seval, List.getLast?_concat, hj, encSp, spV]
        refine ⟨(esF_len cs).symm, by rw [esF_len]; exact hjl, ?_⟩
        refine hK _ ?_; clear hK; clear K
        have hMs : List.map (fun p : V × V => (if V.has 1 p.1 = true then jk 1 p.1 else p.1, if V.has 1 p.2 = true then jk 1 p.2 else p.2)) (esF cs) = esF cs := esF_scr 1 cs
        have htk : ((seenL (setOf cs) seen).map (enD enS)).take (seenL (setOf cs) seen).length = (seenL (setOf cs) seen).map (enD enS) := List.take_of_length_le (by simp)
        refine awpF_region ?_; intro K hK; simp only [push_cast, seval, hMs, htk]
        refine ⟨fun h => h, by omega, by omega, ?_⟩
        refine hK _ ?_; clear hK; clear K
        refine inblock_norm ?_
        refine round_endG (seen ++ [j]) [0, 1, 2] ⟨?_, ⟨hnd', hlt'⟩, ?_⟩
        · rw [List.length_append, List.length_singleton]; omega
        · rw [hsn]
          exact ⟨by simp, by simp, by simp [push_cast, seval, esF_keep, enD, enS], by simp [push_cast, seval], by simp [push_cast, seval], by simp [push_cast, seval]; exact esF_belm cs 3⟩
      · intro h9; (try simp only [decide_eq_true_eq, decide_eq_false_iff_not, Bool.not_eq_true', Bool.not_eq_false', Bool.and_eq_true, Bool.or_eq_true, Bool.not_eq_true] at h9)
        cases h9
  · simp only [if_neg he]
    generalize idxErr ps size = e at h80 he ⊢
    refine pc_of (fn := Tryz.f7) [.tmp 4, .tmp 5] (by kernel_rfl) rfl (by kernel_rfl) (Nat.le_of_ble_eq_true rfl) (by kernel_rfl) rfl ?_
    refine awp_seq ?_
    refine awpF_region ?_; intro K hK; simp only [push_cast, seval]; (try simp (disch := omega) only [wrapI]); (repeat ((with_reducible refine And.intro ?_ ?_); (focus (exact ob1)))); refine hK _ ?_; clear hK; clear K
    refine awp_seq ?_
    refine awp_seq ?_
    refine awpF_region ?_; intro K hK; simp only [push_cast, seval]
    refine CallK.pd (h80) ?_; simp only [push_cast, seval]; (try simp (disch := omega) only [wrapI]); (repeat ((with_reducible refine And.intro ?_ ?_); (focus (exact ob1))))
    refine hK _ ?_; clear hK; clear K
    refine awp_seq ?_
    refine awpF_region ?_; intro K hK; simp only [push_cast, seval]; (try simp (disch := omega) only [wrapI]); (repeat ((with_reducible refine And.intro ?_ ?_); (focus (exact ob1)))); refine hK _ ?_; clear hK; clear K
    apply awp_cond; (focus (simp only [push_cast, seval]; rfl))
    · intro h; (try simp only [decide_eq_true_eq, decide_eq_false_iff_not, Bool.not_eq_true', Bool.not_eq_false', Bool.and_eq_true, Bool.or_eq_true, Bool.not_eq_true] at h)
      refine awp_seq ?_
      refine awpF_region ?_; intro K hK; simp only [push_cast, seval]; (try simp (disch := omega) only [wrapI]); (repeat ((with_reducible refine And.intro ?_ ?_); (focus (exact ob1)))); refine hK _ ?_; clear hK; clear K
      refine awp_ret ?_; (repeat (first | refine then_ret ?_ | refine inblock_ret ?_)); refine fin_of (by simp only [push_cast, seval]; first | done | rfl) ob1 ?_
      exact ⟨rfl, rfl⟩
    · intro h; (try simp only [decide_eq_true_eq, decide_eq_false_iff_not, Bool.not_eq_true', Bool.not_eq_false', Bool.and_eq_true, Bool.or_eq_true, Bool.not_eq_true] at h)
      exact absurd (by simpa using h) he
end Go.Aw

namespace Go.Aw
set_option linter.unusedSimpArgs false
set_option linter.unusedVariables false
open Go.RowKit Go.Proofs Go.Rg

end Go.Aw

namespace Go.Aw
set_option linter.unusedSimpArgs false
set_option linter.unusedVariables false
open Go.RowKit Go.Proofs Go.Rg

end Go.Aw

namespace Go.Aw
set_option linter.unusedSimpArgs false
set_option linter.unusedVariables false
open Go.RowKit Go.Proofs Go.Rg

def outBk (ps : List Pt) (size : Int) (ks : List Sp) : List Bk := if idxErr ps size = 0 then bksS (ps.map (cellP size)) ks else []
theorem p40d (ps : List Pt) (size : Int) (ks : List Sp) (hk : IsKeys (ps.map (cellP size)) ks) : PD Tryz.prog 7 [.sl (ps.map encP), .int .i64 size] (.tup [.d (.sl ((outBk ps size ks).map encBk)), .d (.int .i64 (idxErr ps size))]) := by
  refine AC.deep (p40 ps size ks hk) fun x H hx => ⟨.tup [.sl ((outBk ps size ks).map encBk), .int .i64 (idxErr ps size)], ?_, rfl, rfl⟩
  unfold outBk
  by_cases he : idxErr ps size = 0
  · rw [if_pos he] at hx ⊢
    obtain ⟨h1, h2⟩ := hx
    subst h1
    subst h2
    rw [he]
    have := Deep.data (H := [Blk.data 3 ((bksS (ps.map (cellP size)) ks).map encBk)]) 0 0 ks.length 3 ((bksS (ps.map (cellP size)) ks).map encBk) rfl (by simp [bksS])
    rw [List.drop_zero, List.take_of_length_le (by simp [bksS])] at this
    exact deep_tup2 this (.d _)
  · rw [if_neg he] at hx ⊢
    obtain ⟨h1, h2⟩ := hx
    subst h1
    subst h2
    exact deep_tup2 .nil (.d _)
end Go.Aw
