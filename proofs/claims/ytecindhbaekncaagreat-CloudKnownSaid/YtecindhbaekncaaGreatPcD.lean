/-
  Texts of the library, one behind the other. Over any program; no condition.
-/
import Derived.DeepKeys4
import Derived.Test.YtecindhbaekncaaGreatPcC
import Derived.Test.YtecindhbaekncaaGreatPcB
import Derived.Test.YtecindhbaekncaaGreatPkT
namespace Go.Aw
set_option linter.unusedSimpArgs false
set_option linter.unusedVariables false
open Go.Rg

def flD (a b : Int) : Int := if a.tmod b < 0 then a.tdiv b - 1 else a.tdiv b
def ltS (a b : Sp) : Prop := a.1 < b.1 ∨ (a.1 = b.1 ∧ a.2 < b.2)
instance ltS_dec (a b : Sp) : Decidable (ltS a b) := by unfold ltS; exact inferInstance
theorem ltS_irrefl (a : Sp) : ¬ ltS a a := by unfold ltS; omega
theorem ltS_trans {a b c : Sp} (h1 : ltS a b) (h2 : ltS b c) : ltS a c := by unfold ltS at *; omega
theorem ltS_tri {a b : Sp} (h1 : ¬ ltS a b) (h2 : ¬ ltS b a) : a = b := by
  obtain ⟨x, y⟩ := a
  obtain ⟨z, w⟩ := b
  unfold ltS at h1 h2
  simp only at h1 h2
  rw [show x = z by omega, show y = w by omega]

def idxS (cs : List Sp) (c : Sp) : List Nat := (List.range cs.length).filter fun i => decide (cs[i]? = some c)
theorem idxS_snoc (cs : List Sp) (k c : Sp) : idxS (cs ++ [k]) c = idxS cs c ++ if k = c then [cs.length] else [] := by
  unfold idxS
  rw [List.length_append, List.length_singleton, List.range_succ, List.filter_append]
  congr 1
  · refine List.filter_congr fun i hi => ?_
    rw [List.getElem?_append_left (List.mem_range.1 hi)]
  · rw [List.filter_cons, List.filter_nil, List.getElem?_append_right (Nat.le_refl _), Nat.sub_self, List.getElem?_cons_zero]
    by_cases h : k = c
    · subst h; simp
    · simp [h]
theorem idxS_mem {cs : List Sp} {c : Sp} {i : Nat} : i ∈ idxS cs c ↔ cs[i]? = some c := by
  unfold idxS
  rw [List.mem_filter, List.mem_range, decide_eq_true_eq]
  refine ⟨fun h => h.2, fun h => ⟨?_, h⟩⟩
  exact (List.getElem?_eq_some_iff.1 h).1
theorem idxS_len (cs : List Sp) (c : Sp) : (idxS cs c).length ≤ cs.length := by
  unfold idxS
  exact Nat.le_trans (List.length_filter_le _ _) (by simp)

def IsKeys (cs ks : List Sp) : Prop := ks.Pairwise ltS ∧ ∀ c, c ∈ ks ↔ c ∈ cs
theorem pair_uniq : ∀ {ks ls : List Sp}, ks.Pairwise ltS → ls.Pairwise ltS → (∀ c, c ∈ ks ↔ c ∈ ls) → ks = ls
  | [], [], _, _, _ => rfl
  | [], l :: ls, _, _, h => by have := (h l).2 (by simp); simp at this
  | k :: ks, [], _, _, h => by have := (h k).1 (by simp); simp at this
  | k :: ks, l :: ls, h1, h2, h => by
    obtain ⟨h3, h4⟩ := List.pairwise_cons.1 h1
    obtain ⟨h5, h6⟩ := List.pairwise_cons.1 h2
    have hkl : k = l := by
      rcases List.mem_cons.1 ((h k).1 (by simp)) with h7 | h7
      · exact h7
      · rcases List.mem_cons.1 ((h l).2 (by simp)) with h8 | h8
        · exact h8.symm
        · exact absurd (ltS_trans (h5 k h7) (h3 l h8)) (ltS_irrefl _)
    subst hkl
    rw [pair_uniq h4 h6 fun c => ?_]
    constructor
    · intro hc
      rcases List.mem_cons.1 ((h c).1 (by simp [hc])) with h7 | h7
      · subst h7; exact absurd (h3 c hc) (ltS_irrefl _)
      · exact h7
    · intro hc
      rcases List.mem_cons.1 ((h c).2 (by simp [hc])) with h7 | h7
      · subst h7; exact absurd (h5 c hc) (ltS_irrefl _)
      · exact h7
theorem keys_uniq {cs ks ls : List Sp} (h1 : IsKeys cs ks) (h2 : IsKeys cs ls) : ks = ls :=
  pair_uniq h1.1 h2.1 fun c => (h1.2 c).trans (h2.2 c).symm
theorem nodup_le : ∀ {ks cs : List Sp}, ks.Nodup → (∀ c, c ∈ ks → c ∈ cs) → ks.length ≤ cs.length
  | [], _, _, _ => Nat.zero_le _
  | k :: ks, cs, hd, h => by
    obtain ⟨h1, h2⟩ := List.nodup_cons.1 hd
    have hk := h k (by simp)
    have := nodup_le (ks := ks) (cs := cs.erase k) h2 fun c hc => (List.mem_erase_of_ne (fun (e : c = k) => h1 (by rw [← e]; exact hc))).2 (h c (by simp [hc]))
    rw [List.length_erase_of_mem hk] at this
    have := List.length_pos_of_mem hk
    simp only [List.length_cons]
    omega
theorem nub_ex : ∀ (cs : List Sp), ∃ zs : List Sp, zs.Nodup ∧ ∀ c, c ∈ zs ↔ c ∈ cs
  | [] => ⟨[], List.nodup_nil, fun _ => Iff.rfl⟩
  | k :: cs => by
    obtain ⟨zs, h1, h2⟩ := nub_ex cs
    by_cases h : k ∈ zs
    · refine ⟨zs, h1, fun c => ?_⟩
      rw [List.mem_cons, ← h2 c]
      exact ⟨.inr, fun h3 => h3.elim (fun e => e ▸ h) id⟩
    · refine ⟨k :: zs, List.nodup_cons.2 ⟨h, h1⟩, fun c => ?_⟩
      rw [List.mem_cons, List.mem_cons, h2 c]
theorem keys_len {cs ks : List Sp} (h : IsKeys cs ks) : ks.length ≤ cs.length := by
  have hnd : ks.Nodup := h.1.imp fun h e => by subst e; exact ltS_irrefl _ h
  exact nodup_le hnd fun c hc => (h.2 c).1 hc
def sortS (zs : List Sp) : List Sp := zs.mergeSort fun x y => !(decide (ltS y x))
theorem sortS_perm (zs : List Sp) : (sortS zs).Perm zs := List.mergeSort_perm _ _
theorem sortS_len (zs : List Sp) : (sortS zs).length = zs.length := (sortS_perm zs).length_eq
theorem sortS_pair (zs : List Sp) : (sortS zs).Pairwise fun a b => ¬ ltS b a := by
  have := List.pairwise_mergeSort (le := fun (x y : Sp) => !(decide (ltS y x))) (fun a b c h1 h2 => by
    simp only [Bool.not_eq_true', decide_eq_false_iff_not] at *
    intro h3
    by_cases h4 : ltS a b
    · exact h2 (ltS_trans h3 h4)
    · rw [ltS_tri h1 h4] at h2
      exact h2 h3) (fun a b => by
    simp only [Bool.or_eq_true, Bool.not_eq_true', decide_eq_false_iff_not]
    by_cases h : ltS b a
    · exact .inr fun h2 => ltS_irrefl _ (ltS_trans h h2)
    · exact .inl h) zs
  exact this.imp fun h => by simpa using h
theorem sortS_keys {cs zs : List Sp} (hd : zs.Nodup) (hm : ∀ c, c ∈ zs ↔ c ∈ cs) : IsKeys cs (sortS zs) := by
  refine ⟨?_, fun c => by rw [(sortS_perm zs).mem_iff, hm]⟩
  have hnd : (sortS zs).Nodup := (sortS_perm zs).nodup_iff.2 hd
  exact ((sortS_pair zs).and hnd).imp fun {a b} h => by
    by_cases h1 : ltS a b
    · exact h1
    · exact absurd (ltS_tri h1 h.1) h.2
theorem keys_ex (cs : List Sp) : ∃ ks, IsKeys cs ks := by
  obtain ⟨zs, h1, h2⟩ := nub_ex cs
  exact ⟨sortS zs, sortS_keys h1 h2⟩
end Go.Aw

namespace Go.Aw
set_option linter.unusedSimpArgs false
set_option linter.unusedVariables false
open Go.Rg

theorem perm_nodup {α : Type} [DecidableEq α] : ∀ {l m : List α}, l.Nodup → m.Nodup → (∀ a, a ∈ l ↔ a ∈ m) → l.Perm m
  | [], m, _, _, h => by
    cases m with
    | nil => exact .refl _
    | cons a m => have := (h a).2 (by simp); simp at this
  | a :: l, m, h1, h2, h => by
    obtain ⟨h3, h4⟩ := List.nodup_cons.1 h1
    have ham := (h a).1 (by simp)
    have hp := List.perm_cons_erase ham
    have hd := hp.nodup_iff.1 h2
    obtain ⟨h5, h6⟩ := List.nodup_cons.1 hd
    refine (List.Perm.cons a (perm_nodup h4 h6 fun c => ?_)).trans hp.symm
    constructor
    · intro hc
      have hne : c ≠ a := fun e => h3 (by rw [← e]; exact hc)
      exact (List.mem_erase_of_ne hne).2 ((h c).1 (by simp [hc]))
    · intro hc
      have hne : c ≠ a := fun e => h5 (by subst e; exact hc)
      rcases List.mem_cons.1 ((h c).2 ((List.mem_erase_of_ne hne).1 hc)) with h7 | h7
      · exact absurd h7 hne
      · exact h7

def firstsN (cs : List Sp) : List Nat := (List.range cs.length).filter fun i => decide (∀ k, k < i → cs[k]? ≠ cs[i]?)
theorem firstsN_mem {cs : List Sp} {i : Nat} : i ∈ firstsN cs ↔ i < cs.length ∧ ∀ k, k < i → cs[k]? ≠ cs[i]? := by
  unfold firstsN
  rw [List.mem_filter, List.mem_range, decide_eq_true_eq]
theorem firstsN_asc (cs : List Sp) : (firstsN cs).Pairwise (· < ·) := List.pairwise_lt_range.filter _
theorem idxS_asc (cs : List Sp) (c : Sp) : (idxS cs c).Pairwise (· < ·) := List.pairwise_lt_range.filter _
theorem idxS_first {cs : List Sp} {c : Sp} (h : c ∈ cs) : ∃ i t, idxS cs c = i :: t ∧ i ∈ firstsN cs ∧ cs[i]? = some c := by
  obtain ⟨j, hj, rfl⟩ := List.getElem_of_mem h
  have hm : j ∈ idxS cs cs[j] := idxS_mem.2 (List.getElem?_eq_getElem hj)
  cases he : idxS cs cs[j] with
  | nil => rw [he] at hm; simp at hm
  | cons i t =>
    have hi : cs[i]? = some cs[j] := idxS_mem.1 (by rw [he]; simp)
    refine ⟨i, t, rfl, firstsN_mem.2 ⟨(List.getElem?_eq_some_iff.1 hi).1, fun k hk e => ?_⟩, hi⟩
    have hk2 : k ∈ idxS cs cs[j] := idxS_mem.2 (by rw [e, hi])
    have ha := idxS_asc cs cs[j]
    rw [he] at hk2 ha
    rcases List.mem_cons.1 hk2 with h1 | h1
    · omega
    · have := (List.pairwise_cons.1 ha).1 k h1
      omega
abbrev Bk := Sp × List Nat
def bksS (cs ks : List Sp) : List Bk := ks.map fun c => (c, idxS cs c)
def fstN (b : Bk) : Nat := b.2.head?.getD 0
def byFirst (cs : List Sp) : List Bk := (firstsN cs).map fun i => (cs[i]?.getD (0, 0), idxS cs (cs[i]?.getD (0, 0)))
theorem bksS_mem {cs ks : List Sp} (h : IsKeys cs ks) {b : Bk} (hb : b ∈ bksS cs ks) : b.1 ∈ cs ∧ b.2 = idxS cs b.1 := by
  obtain ⟨c, hc, rfl⟩ := List.mem_map.1 hb
  exact ⟨(h.2 c).1 hc, rfl⟩
theorem fstN_of {cs : List Sp} {b : Bk} (h1 : b.1 ∈ cs) (h2 : b.2 = idxS cs b.1) : fstN b ∈ firstsN cs ∧ cs[fstN b]? = some b.1 := by
  obtain ⟨i, t, e, h3, h4⟩ := idxS_first h1
  have : fstN b = i := by unfold fstN; rw [h2, e]; rfl
  rw [this]
  exact ⟨h3, h4⟩
theorem fstN_inj {cs : List Sp} {a b : Bk} (ha1 : a.1 ∈ cs) (ha2 : a.2 = idxS cs a.1) (hb1 : b.1 ∈ cs) (hb2 : b.2 = idxS cs b.1) (h : fstN a = fstN b) : a = b := by
  have h1 := (fstN_of ha1 ha2).2
  have h2 := (fstN_of hb1 hb2).2
  rw [h, h2] at h1
  have h3 : b.1 = a.1 := by simpa using h1
  exact Prod.ext h3.symm (by rw [ha2, hb2, h3])
theorem byFirst_fst (cs : List Sp) : (byFirst cs).map fstN = firstsN cs := by
  unfold byFirst
  rw [List.map_map]
  conv => rhs; rw [← List.map_id (firstsN cs)]
  refine List.map_congr_left fun i hi => ?_
  obtain ⟨h1, h2⟩ := firstsN_mem.1 hi
  have hc : cs[i]?.getD (0, 0) = cs[i] := by rw [List.getElem?_eq_getElem h1]; rfl
  simp only [Function.comp, hc, id]
  obtain ⟨h3, h4⟩ := fstN_of (cs := cs) (b := (cs[i], idxS cs cs[i])) (List.getElem_mem h1) rfl
  obtain ⟨h5, h6⟩ := firstsN_mem.1 h3
  rcases Nat.lt_trichotomy (fstN (cs[i], idxS cs cs[i])) i with h7 | h7 | h7
  · exact absurd (h4.trans (List.getElem?_eq_getElem h1).symm) (h2 _ h7)
  · exact h7
  · exact absurd ((List.getElem?_eq_getElem h1).trans h4.symm) (h6 _ h7)
theorem byFirst_mem {cs : List Sp} {b : Bk} (hb : b ∈ byFirst cs) : b.1 ∈ cs ∧ b.2 = idxS cs b.1 := by
  obtain ⟨i, hi, rfl⟩ := List.mem_map.1 hb
  have h1 := (firstsN_mem.1 hi).1
  refine ⟨?_, rfl⟩
  simp only [List.getElem?_eq_getElem h1, Option.getD_some]
  exact List.getElem_mem h1
theorem byFirst_pair (cs : List Sp) : (byFirst cs).Pairwise fun a b => fstN a < fstN b := by
  rw [← List.pairwise_map (f := fstN) (R := (· < ·)), byFirst_fst]
  exact firstsN_asc cs
theorem byFirst_perm {cs ks : List Sp} (h : IsKeys cs ks) : (byFirst cs).Perm (bksS cs ks) := by
  refine perm_nodup ((byFirst_pair cs).imp fun h e => by rw [e] at h; exact Nat.lt_irrefl _ h) ?_ fun b => ?_
  · unfold bksS
    refine List.pairwise_map.2 (h.1.imp fun {a b} h e => ?_)
    have e : a = b := (Prod.ext_iff.1 e).1
    rw [e] at h
    exact ltS_irrefl _ h
  · constructor
    · intro hb
      obtain ⟨h1, h2⟩ := byFirst_mem hb
      exact List.mem_map.2 ⟨b.1, (h.2 _).2 h1, Prod.ext rfl h2.symm⟩
    · intro hb
      obtain ⟨h1, h2⟩ := bksS_mem h hb
      obtain ⟨h3, h4⟩ := fstN_of h1 h2
      refine List.mem_map.2 ⟨fstN b, h3, ?_⟩
      simp only [h4, Option.getD_some]
      exact Prod.ext rfl h2.symm
theorem byFirst_uniq {cs ks : List Sp} (h : IsKeys cs ks) {L : List Bk} (hp : L.Perm (bksS cs ks)) (hs : L.Pairwise fun a b => fstN a ≤ fstN b) : L = byFirst cs := by
  refine List.Perm.eq_of_pairwise (le := fun a b => fstN a ≤ fstN b) (fun a b ha hb h1 h2 => ?_) hs ((byFirst_pair cs).imp Nat.le_of_lt) (hp.trans (byFirst_perm h).symm)
  obtain ⟨a1, a2⟩ := bksS_mem h (hp.mem_iff.1 ha)
  obtain ⟨b1, b2⟩ := byFirst_mem hb
  exact fstN_inj a1 a2 b1 b2 (by omega)
end Go.Aw

namespace Go.Aw
set_option linter.unusedSimpArgs false
set_option linter.unusedVariables false
open Go.RowKit Go.Proofs Go.Rg

theorem laidTry : laidOutB Tryz.prog = true := by kernel_rfl
theorem law34 : WideMaps.KeyLaw Tryz.prog 33 := deep_law_laid laidTry (m := 2) (by omega) (of_decide_eq_true (by kernel_rfl)) (by kernel_rfl) (by rw [Tryz.underlying33])
theorem key34 : Maps.Keyed Tryz.prog 33 := Maps.Keyed.of_law law34

def encSp (d : Sp) : V := .agg (spV d)
def esS (l : List Sp) : List (V × V) := l.map fun d => (encSp d, .d (.bool true))

theorem kc_sp (d : Sp) : kcells (encSp d) = some (true, [(.i64, d.1), (.i64, d.2)]) := rfl
theorem kwf34 {d : Sp} (h : -9223372036854775808 ≤ d.1 ∧ d.1 ≤ 9223372036854775807 ∧ -9223372036854775808 ≤ d.2 ∧ d.2 ≤ 9223372036854775807) : kwf Tryz.prog 33 (encSp d) := by
  have hk : Tryz.prog.keyType 33 = true := by kernel_rfl
  have hs : ∃ n, Tryz.prog.types.size + 1 = n + 2 := ⟨Tryz.prog.types.size - 1, by
    have : Tryz.prog.types.size = Tryz.prog.types.size - 1 + 1 := by kernel_rfl
    omega⟩
  obtain ⟨n, hn⟩ := hs
  have w1 : (Lit.int .i64 d.1).wf = true := by simp only [Lit.wf, IntKind.min, IntKind.max, IntKind.bits, IntKind.signed]; simp; omega
  have w2 : (Lit.int .i64 d.2).wf = true := by simp only [Lit.wf, IntKind.min, IntKind.max, IntKind.bits, IntKind.signed]; simp; omega
  obtain ⟨f0, f1, hu, t0, t1, o0, o1⟩ := und34
  have hnm : (#[f0, f1] : Array Field).all (fun f => f.name != "_") = true := by
    have h1 : (match Tryz.prog.underlying 33 with | some (.struct fs) => fs.all (fun f => f.name != "_") | _ => false) = true := by kernel_rfl
    rw [hu] at h1
    exact h1
  have e : keyOf Tryz.prog 33 (.agg #[.int .i64 d.1, .int .i64 d.2]) = some (.string (keyBytes [.int .i64 d.1, .int .i64 d.2])) := by
    simp only [keyOf, hu, hk, hn, Value.formed, cells34, Value.cells]
    simp only [Program.keyLits, hu, t0, t1, o0, o1, cells34, cells2, int2, hnm, w1, w2]
    simp [Program.keyLits, t0, t1, o0, o1, cells2, int2, w1, w2, hnm]
  exact ⟨_, _, kc_sp d, e⟩

theorem esS_find (l : List Sp) (d : Sp) : mfind (esS l) (encSp d) = l.findIdx? fun x => decide (x = d) := by
  induction l with
  | nil => rfl
  | cons x l ih =>
    simp only [mfind, esS, List.map_cons, List.findIdx?_cons, kc_sp] at ih ⊢
    rw [ih]
    by_cases h : x = d
    · subst h; simp
    · have : ¬ (x.1 = d.1 ∧ x.2 = d.2) := fun e => h (Prod.ext e.1 e.2)
      have h1 : ¬ (some (true, [(IntKind.i64, x.1), (IntKind.i64, x.2)]) = some (true, [(IntKind.i64, d.1), (IntKind.i64, d.2)])) := by
        intro e
        simp at e
        exact this e
      simp only [h, h1, decide_false]
theorem esS_put (l : List Sp) (d : Sp) : mput (esS l) (encSp d) (.d (.bool true)) = esS (ins l d) := by
  unfold mput
  rw [esS_find]
  cases h : l.findIdx? fun x => decide (x = d) with
  | none =>
    rw [List.findIdx?_eq_none_iff] at h
    have hd : d ∉ l := fun hd => by simpa using h d hd
    simp [ins, hd, esS]
  | some i =>
    rw [List.findIdx?_eq_some_iff_getElem] at h
    obtain ⟨hi, he, _⟩ := h
    have he : l[i] = d := by simpa using he
    have hd : d ∈ l := he ▸ List.getElem_mem hi
    simp only [ins, hd, if_true]
    apply List.ext_getElem?
    intro j
    simp only [esS, List.getElem?_modify, List.getElem?_map]
    by_cases hj : i = j
    · subst hj
      simp [List.getElem?_eq_getElem hi]
    · simp [hj]
theorem mkS {l : List Sp} (hb : ∀ d, d ∈ l → inW 2000 d) (hd : l.Nodup) : MK Tryz.prog 33 (esS l) := by
  refine ⟨key34, fun p hp => ?_, ?_⟩
  · obtain ⟨d, hd, rfl⟩ := List.mem_map.1 hp
    have := hb d hd
    simp only [inW] at this
    exact kwf34 (by omega)
  · rw [esS, List.pairwise_map]
    refine hd.imp fun {x y} hxy h => hxy ?_
    simp [kc_sp] at h
    exact Prod.ext h.1 h.2
theorem esS_ren (r : List Nat) (l : List Sp) : (esS l).map (fun p => (V.ren r p.1, V.ren r p.2)) = esS l := by
  simp only [esS, List.map_map]
  apply List.map_congr_left
  intro d _
  simp [encSp, spV, V.ren, V.renL]
theorem esS_bel (n : Nat) (l : List Sp) : (esS l).all (fun p => V.bel n p.1 && V.bel n p.2) = true := by
  simp [esS, encSp, spV, V.bel, V.belL]

theorem nd_len : ∀ {n : Nat} {l : List Nat}, l.Nodup → (∀ x, x ∈ l → x < n) → l.length ≤ n := by
  intro n
  induction n with
  | zero => intro l _ h; cases l with
    | nil => simp
    | cons a l => exact absurd (h a (by simp)) (by omega)
  | succ n ih =>
    intro l hd h
    have h1 := ih (l := l.filter (fun x => x != n)) (hd.filter _) (fun x hx => by
      obtain ⟨h2, h3⟩ := List.mem_filter.1 hx
      have := h x h2
      simp at h3
      omega)
    have h2 : l.length ≤ (l.filter (fun x => x != n)).length + 1 := by
      clear h1 ih h
      induction l with
      | nil => simp
      | cons a l ih =>
        rw [List.nodup_cons] at hd
        by_cases ha : a = n
        · subst ha
          have : (a :: l).filter (fun x => x != a) = l := by
            rw [List.filter_cons]
            simp only [bne_self_eq_false, Bool.false_eq_true, if_false]
            exact List.filter_eq_self.2 fun x hx => by simp; rintro rfl; exact hd.1 hx
          rw [this]
          simp
        · have : (a :: l).filter (fun x => x != n) = a :: l.filter (fun x => x != n) := by
            rw [List.filter_cons]; simp [ha]
          rw [this]
          have := ih hd.2
          simp; omega
    omega

end Go.Aw

namespace Go.Aw
set_option linter.unusedSimpArgs false
set_option linter.unusedVariables false
theorem mid_end {kp : List Nat} {Q : Exit → St → Prop} {J : St → Prop} {t : St} (r : List Nat) (u : St) (h : J u) (hr : Ren kp r u t) : Then (fun t => ∃ r u, J u ∧ Ren kp r u t) Q .normal t := ⟨r, u, h, hr⟩
theorem bif_or (a b : Bool) : (bif a then true else b) = (a || b) := by cases a <;> rfl
theorem bif_and (a b : Bool) : (bif a then b else false) = (a && b) := by cases a <;> rfl
end Go.Aw

namespace Go.Aw
set_option linter.unusedSimpArgs false
set_option linter.unusedVariables false
open Go.RowKit Go.Proofs Go.Rg

theorem tdiv_bd {a b : Int} (hb : 1 ≤ b) (ha : -100000000 ≤ a ∧ a ≤ 100000000) : -100000000 ≤ a.tdiv b ∧ a.tdiv b ≤ 100000000 := by
  rcases Int.le_total 0 a with h | h
  · have h1 := Int.tdiv_nonneg h (by omega : 0 ≤ b)
    have h2 := Int.tdiv_le_self b h
    omega
  · have h1 := Int.tdiv_nonneg (by omega : 0 ≤ -a) (by omega : 0 ≤ b)
    have h2 := Int.tdiv_le_self b (by omega : 0 ≤ -a)
    rw [Int.neg_tdiv] at h1 h2
    omega
theorem tmod_bd {a b : Int} (hb : 1 ≤ b) : -b < a.tmod b ∧ a.tmod b < b := by
  have h1 := Int.tmod_lt_of_pos a (by omega : 0 < b)
  have h2 := Int.lt_tmod_of_pos a (by omega : 0 < b)
  omega

theorem p108 (a b : Int) (hb : 1 ≤ b ∧ b ≤ 100000000) (ha : -100000000 ≤ a ∧ a ≤ 100000000) : PD Tryz.prog 53 [.int .i64 a, .int .i64 b] (.d (.int .i64 (flD a b))) := by
  have h1 := tdiv_bd hb.1 ha
  have h2 := tmod_bd (a := a) hb.1
  have w1 : IntKind.i64.wrap (a.tdiv b) = a.tdiv b := wrapI _ (by omega)
  have w2 : IntKind.i64.wrap (a.tmod b) = a.tmod b := wrapI _ (by omega)
  have w3 : IntKind.i64.wrap (a.tdiv b - 1) = a.tdiv b - 1 := wrapI _ (by omega)
  refine pd_of (fn := Tryz.f53) [.tmp 4] (by kernel_rfl) rfl (by kernel_rfl) (Nat.le_of_ble_eq_true rfl) (by kernel_rfl) rfl rfl ?_
  refine awp_seq ?_
  refine awpF_region ?_; intro K hK; simp only [push_cast, seval]; (try simp (disch := omega) only [wrapI]); (repeat ((with_reducible refine And.intro ?_ ?_); (focus (exact ob1)))); refine hK _ ?_; clear hK; clear K
  refine awp_seq ?_
  refine awpF_region ?_; intro K hK; simp only [push_cast, seval, w1]
  (repeat ((with_reducible refine And.intro ?_ ?_); (focus (exact ob1))))
  refine hK _ ?_; clear hK; clear K
  refine awp_mid (fun u => u = ⟨[(5, .d (.int .i64 (flD a b)))], []⟩) ?_ ?_
  · refine awp_seq ?_
    refine awpF_region ?_; intro K hK; simp only [push_cast, seval, w2]
    (repeat ((with_reducible refine And.intro ?_ ?_); (focus (exact ob1))))
    refine hK _ ?_; clear hK; clear K
    apply awp_cond; (focus (simp only [push_cast, seval]; rfl))
    · intro h3; (try simp only [decide_eq_true_eq, decide_eq_false_iff_not, Bool.not_eq_true', Bool.not_eq_false', Bool.and_eq_true, Bool.or_eq_true, Bool.not_eq_true] at h3)
      have e : flD a b = a.tdiv b - 1 := by unfold flD; rw [if_pos h3]
      rw [e]
      refine awpF_region ?_; intro K hK; simp only [push_cast, seval, w3]; (try simp (disch := omega) only [wrapI]); (repeat ((with_reducible refine And.intro ?_ ?_); (focus (exact ob1)))); refine hK _ ?_; clear hK; clear K
      refine mid_end [] _ rfl ?_
      exact ⟨by simp, by simp, by simp [push_cast, seval], by simp [push_cast, seval], by simp [push_cast, seval], by simp [push_cast, seval]⟩
    · intro h3; (try simp only [decide_eq_true_eq, decide_eq_false_iff_not, Bool.not_eq_true', Bool.not_eq_false', Bool.and_eq_true, Bool.or_eq_true, Bool.not_eq_true] at h3)
      have e : flD a b = a.tdiv b := by unfold flD; rw [if_neg h3]
      rw [e]
      refine awp_skip ?_
      refine mid_end [] _ rfl ?_
      exact ⟨by simp, by simp, by simp [push_cast, seval], by simp [push_cast, seval], by simp [push_cast, seval], by simp [push_cast, seval]⟩
  rintro _ rfl
  refine awp_seq ?_
  refine awpF_region ?_; intro K hK; simp only [push_cast, seval]; (try simp (disch := omega) only [wrapI]); (repeat ((with_reducible refine And.intro ?_ ?_); (focus (exact ob1)))); refine hK _ ?_; clear hK; clear K
  refine awp_ret ?_; (repeat (first | refine then_ret ?_ | refine inblock_ret ?_)); refine fin_of (by simp only [push_cast, seval]; first | done | rfl) ob1 ?_
  rfl
def cellP (size : Int) (p : Pt) : Sp := (flD p.1 size, flD p.2.1 size)
def idxErr (ps : List Pt) (size : Int) : Int := if check ps ≠ 0 then check ps else if 1 ≤ size ∧ size ≤ 16777216 then 0 else 2
theorem p80 (ps : List Pt) (size : Int) : PD Tryz.prog 27 [.sl (ps.map encP), .int .i64 size] (.d (.int .i64 (idxErr ps size))) := by
  have h25 := p25 ps
  unfold idxErr
  generalize check ps = c at h25 ⊢
  refine pd_of (fn := Tryz.f27) [.tmp 4] (by kernel_rfl) rfl (by kernel_rfl) (Nat.le_of_ble_eq_true rfl) (by kernel_rfl) rfl rfl ?_
  refine awp_seq ?_
  refine awpF_region ?_; intro K hK; simp only [push_cast, seval]; (try simp (disch := omega) only [wrapI]); (repeat ((with_reducible refine And.intro ?_ ?_); (focus (exact ob1)))); refine hK _ ?_; clear hK; clear K
  refine awp_seq ?_
  refine awp_seq ?_
  refine awpF_region ?_; intro K hK; simp only [push_cast, seval]
  refine CallK.pd (h25) ?_; simp only [push_cast, seval]; (try simp (disch := omega) only [wrapI]); (repeat ((with_reducible refine And.intro ?_ ?_); (focus (exact ob1))))
  refine hK _ ?_; clear hK; clear K
  refine awp_seq ?_
  refine awpF_region ?_; intro K hK; simp only [push_cast, seval]; (try simp (disch := omega) only [wrapI]); (repeat ((with_reducible refine And.intro ?_ ?_); (focus (exact ob1)))); refine hK _ ?_; clear hK; clear K
  apply awp_cond; (focus (simp only [push_cast, seval]; rfl))
  · intro h1; (try simp only [decide_eq_true_eq, decide_eq_false_iff_not, Bool.not_eq_true', Bool.not_eq_false', Bool.and_eq_true, Bool.or_eq_true, Bool.not_eq_true] at h1)
    have h2 : c ≠ 0 := by simpa using h1
    refine awp_seq ?_
    refine awpF_region ?_; intro K hK; simp only [push_cast, seval]; (try simp (disch := omega) only [wrapI]); (repeat ((with_reducible refine And.intro ?_ ?_); (focus (exact ob1)))); refine hK _ ?_; clear hK; clear K
    refine awp_ret ?_; (repeat (first | refine then_ret ?_ | refine inblock_ret ?_)); refine fin_of (by simp only [push_cast, seval]; first | done | rfl) ob1 ?_
    rw [if_pos h2]
  intro h1; (try simp only [decide_eq_true_eq, decide_eq_false_iff_not, Bool.not_eq_true', Bool.not_eq_false', Bool.and_eq_true, Bool.or_eq_true, Bool.not_eq_true] at h1)
  have h2 : ¬ c ≠ 0 := by simpa using h1
  rw [if_neg h2]
  refine awp_skip ?_
  refine awp_seq ?_
  refine awp_seq ?_
  refine awpF_region ?_; intro K hK; simp only [push_cast, seval, bif_or]
  repeat (refine ⟨fun h => by rw [h]; rfl, ?_⟩)
  refine hK _ ?_; clear hK; clear K
  apply awp_cond; (focus (simp only [push_cast, seval]; rfl))
  · intro h3
    simp only [Bool.or_eq_true, decide_eq_true_eq] at h3
    refine awp_seq ?_
    refine awpF_region ?_; intro K hK; simp only [push_cast, seval]; (try simp (disch := omega) only [wrapI]); (repeat ((with_reducible refine And.intro ?_ ?_); (focus (exact ob1)))); refine hK _ ?_; clear hK; clear K
    refine awp_ret ?_; (repeat (first | refine then_ret ?_ | refine inblock_ret ?_)); refine fin_of (by simp only [push_cast, seval]; first | done | rfl) ob1 ?_
    rw [if_neg (by omega)]
  · intro h3
    simp only [Bool.or_eq_false_iff, decide_eq_false_iff_not] at h3
    refine awp_skip ?_
    refine awp_seq ?_
    refine awpF_region ?_; intro K hK; simp only [push_cast, seval]; (try simp (disch := omega) only [wrapI]); (repeat ((with_reducible refine And.intro ?_ ?_); (focus (exact ob1)))); refine hK _ ?_; clear hK; clear K
    refine awp_ret ?_; (repeat (first | refine then_ret ?_ | refine inblock_ret ?_)); refine fin_of (by simp only [push_cast, seval]; first | done | rfl) ob1 ?_
    rw [if_pos (by omega)]
end Go.Aw

namespace Go.Aw
set_option linter.unusedSimpArgs false
set_option linter.unusedVariables false
open Go.RowKit Go.Proofs Go.Rg

def esG (cs : List Sp) : List (V × V) := (setOf cs).mapIdx fun k d => (encSp d, .ref (k + 1) 0 (idxS cs d).length)
def rowG (cs : List Sp) (d : Sp) : Blk := .data 1 ((idxS cs d).map encN)
def blG (cs : List Sp) : List Blk := (setOf cs).map (rowG cs)
theorem esG_len (cs : List Sp) : (esG cs).length = (setOf cs).length := by simp [esG]
theorem blG_len (cs : List Sp) : (blG cs).length = (setOf cs).length := by simp [blG]
theorem esG_get {cs : List Sp} {k : Nat} {d : Sp} (h : (setOf cs)[k]? = some d) : (esG cs)[k]? = some (encSp d, .ref (k + 1) 0 (idxS cs d).length) := by
  simp [esG, h]
theorem find_keys {es : List (V × V)} {l : List Sp} (h : es.map (·.1) = l.map encSp) (d : Sp) : mfind es (encSp d) = l.findIdx? fun x => decide (x = d) := by
  have : mfind es (encSp d) = mfind (esS l) (encSp d) := by
    unfold mfind
    have key : ∀ (es : List (V × V)), (es.findIdx? fun p => decide (kcells p.1 = kcells (encSp d))) = (es.map (·.1)).findIdx? fun x => decide (kcells x = kcells (encSp d)) := fun es => by
      rw [List.findIdx?_map]; rfl
    rw [key, key, h]
    congr 1
    simp [esS]
  rw [this, esS_find]
theorem esG_keys (cs : List Sp) : (esG cs).map (·.1) = (setOf cs).map encSp := by
  apply List.ext_getElem (by simp [esG])
  intro i h1 h2
  simp [esG]
theorem esG_new {cs : List Sp} {c : Sp} (h : c ∉ cs) : mfind (esG cs) (encSp c) = none := by
  rw [find_keys (esG_keys cs), List.findIdx?_eq_none_iff]
  intro x hx
  have : x ≠ c := fun e => h ((mem_setOf _ _).1 (e ▸ hx))
  simp [this]
theorem esG_old {cs : List Sp} {c : Sp} (h : c ∈ cs) : ∃ k, mfind (esG cs) (encSp c) = some k ∧ (setOf cs)[k]? = some c := by
  rw [find_keys (esG_keys cs)]
  obtain ⟨k, hk, e⟩ := List.getElem_of_mem ((mem_setOf _ _).2 h)
  cases hf : (setOf cs).findIdx? fun x => decide (x = c) with
  | none =>
    rw [List.findIdx?_eq_none_iff] at hf
    have := hf c ((mem_setOf _ _).2 h)
    simp at this
  | some j =>
    rw [List.findIdx?_eq_some_iff_getElem] at hf
    obtain ⟨hj, he, _⟩ := hf
    exact ⟨j, rfl, by rw [List.getElem?_eq_getElem hj]; simpa using he⟩
theorem setOf_old {cs : List Sp} {c : Sp} (h : c ∈ cs) : setOf (cs ++ [c]) = setOf cs := by
  rw [setOf_snoc]; unfold ins; rw [if_pos ((mem_setOf _ _).2 h)]
theorem setOf_new {cs : List Sp} {c : Sp} (h : c ∉ cs) : setOf (cs ++ [c]) = setOf cs ++ [c] := by
  rw [setOf_snoc]; unfold ins; rw [if_neg (fun h2 => h ((mem_setOf _ _).1 h2))]
theorem mkG {es : List (V × V)} {l : List Sp} (h : es.map (·.1) = l.map encSp) (hb : ∀ d, d ∈ l → -9223372036854775808 ≤ d.1 ∧ d.1 ≤ 9223372036854775807 ∧ -9223372036854775808 ≤ d.2 ∧ d.2 ≤ 9223372036854775807) (hd : l.Nodup) : MK Tryz.prog 33 es := by
  refine ⟨key34, fun p hp => ?_, ?_⟩
  · have h1 : p.1 ∈ es.map (·.1) := List.mem_map_of_mem hp
    rw [h] at h1
    obtain ⟨d, hd, e⟩ := List.mem_map.1 h1
    rw [← e]
    exact kwf34 (hb d hd)
  · have h1 : (es.map (·.1)).Pairwise fun a b => ¬ kcells a = kcells b := by
      rw [h, List.pairwise_map]
      refine hd.imp fun {x y} hxy h => hxy ?_
      simp [kc_sp] at h
      exact Prod.ext h.1 h.2
    exact (List.pairwise_map.1 h1).imp fun h => h
theorem flD_bd {a b : Int} (hb : 1 ≤ b) (ha : -100000000 ≤ a ∧ a ≤ 100000000) : -100000001 ≤ flD a b ∧ flD a b ≤ 100000000 := by
  have := tdiv_bd hb ha
  unfold flD
  split <;> omega
theorem ok_bd {ps : List Pt} (hc : check ps = 0) {p : Pt} (hp : p ∈ ps) : okP p = true ∧ (-100000000 ≤ p.1 ∧ p.1 ≤ 100000000) ∧ (-100000000 ≤ p.2.1 ∧ p.2.1 ≤ 100000000) := by
  have h1 : ps.all okP = true := by
    unfold check at hc
    split at hc
    · cases hc
    · split at hc
      · assumption
      · cases hc
  have h2 := List.all_eq_true.1 h1 p hp
  refine ⟨h2, ?_⟩
  simp only [okP, fair, Bool.and_eq_true, decide_eq_true_eq] at h2
  omega
theorem cell_bd {ps : List Pt} (hc : check ps = 0) {size : Int} (hs : 1 ≤ size) {d : Sp} (hd : d ∈ ps.map (cellP size)) : -9223372036854775808 ≤ d.1 ∧ d.1 ≤ 9223372036854775807 ∧ -9223372036854775808 ≤ d.2 ∧ d.2 ≤ 9223372036854775807 := by
  obtain ⟨p, hp, rfl⟩ := List.mem_map.1 hd
  obtain ⟨_, h1, h2⟩ := ok_bd hc hp
  have h3 := flD_bd hs h1
  have h4 := flD_bd hs h2
  simp only [cellP]
  omega
theorem modify_last {α : Type} (x : α) (f : α → α) : ∀ l : List α, (l ++ [x]).modify l.length f = l ++ [f x]
  | [] => rfl
  | a :: l => by
    rw [List.cons_append, List.length_cons, List.modify_succ_cons, modify_last x f l]
    rfl
section
variable (B : List Blk) (X Y Z W U : Blk) (R : List Blk)
theorem ap0 : (B ++ X :: R)[B.length]? = some X := by rw [List.getElem?_append_right (Nat.le_refl _)]; simp
theorem ap1 : (B ++ X :: Y :: R)[B.length + 1]? = some Y := by rw [List.getElem?_append_right (by omega)]; simp
theorem ap2 : (B ++ X :: Y :: Z :: R)[B.length + 2]? = some Z := by rw [List.getElem?_append_right (by omega)]; simp
theorem ap3 : (B ++ X :: Y :: Z :: W :: R)[B.length + 3]? = some W := by rw [List.getElem?_append_right (by omega)]; simp
theorem st0 : (B ++ X :: R).set B.length Z = B ++ Z :: R := by rw [List.set_append_right _ _ (Nat.le_refl _)]; simp
theorem st1 : (B ++ X :: Y :: R).set (B.length + 1) Z = B ++ X :: Z :: R := by rw [List.set_append_right _ _ (by omega)]; simp
theorem st2 : (B ++ X :: Y :: W :: R).set (B.length + 2) Z = B ++ X :: Y :: Z :: R := by rw [List.set_append_right _ _ (by omega)]; simp
theorem st3 : (B ++ X :: Y :: W :: U :: R).set (B.length + 3) Z = B ++ X :: Y :: W :: Z :: R := by rw [List.set_append_right _ _ (by omega)]; simp
end
theorem scrG (cs : List Sp) (j : Nat) (R : List Blk) : heapScr j (blG cs ++ R) = blG cs ++ heapScr j R := by
  unfold blG
  induction setOf cs with
  | nil => rfl
  | cons g l ih => simp only [List.map_cons, List.cons_append, heapScr, ih]; rfl
theorem blG_get {cs : List Sp} {k : Nat} {d : Sp} (h : (setOf cs)[k]? = some d) (R : List Blk) : (blG cs ++ R)[k]? = some (.data 1 ((idxS cs d).map encN)) := by
  have hk := (List.getElem?_eq_some_iff.1 h).1
  rw [List.getElem?_append_left (by rw [blG_len]; exact hk)]
  simp [blG, h, rowG]
theorem idxS_other {cs : List Sp} {c d : Sp} (h : d ≠ c) : idxS (cs ++ [c]) d = idxS cs d := by
  rw [idxS_snoc, if_neg (fun e => h e.symm), List.append_nil]
theorem idxS_same (cs : List Sp) (c : Sp) : idxS (cs ++ [c]) c = idxS cs c ++ [cs.length] := by
  rw [idxS_snoc, if_pos rfl]
theorem nd_get {cs : List Sp} {j k : Nat} {d : Sp} (h1 : (setOf cs)[j]? = some d) (h2 : (setOf cs)[k]? = some d) : j = k := by
  obtain ⟨hj, e1⟩ := List.getElem?_eq_some_iff.1 h1
  obtain ⟨hk, e2⟩ := List.getElem?_eq_some_iff.1 h2
  have hp := List.pairwise_iff_getElem.1 (nd_setOf cs)
  rcases Nat.lt_trichotomy j k with h | h | h
  · exact absurd (e1.trans e2.symm) (hp j k hj hk h)
  · exact h
  · exact absurd (e2.trans e1.symm) (hp k j hk hj h)
theorem esG_mod {cs : List Sp} {c : Sp} {k : Nat} (h : (setOf cs)[k]? = some c) :
    (((esG cs).map fun p => (scr (k + 1) p.1, scr (k + 1) p.2)).modify k fun p => (p.1, .ref (k + 1) 0 ((idxS cs c).length + 1))) = esG (cs ++ [c]) := by
  have hc : c ∈ cs := (mem_setOf _ _).1 (List.mem_of_getElem? h)
  apply List.ext_getElem?
  intro j
  simp only [List.getElem?_modify, List.getElem?_map]
  unfold esG
  rw [setOf_old hc]
  simp only [List.getElem?_mapIdx]
  cases hj : (setOf cs)[j]? with
  | none => by_cases hk : k = j <;> simp [hk]
  | some d =>
    by_cases hk : k = j
    · subst hk
      rw [h] at hj
      obtain rfl : c = d := by simpa using hj
      simp [idxS_same, scr, encSp, spV, V.has, V.hasL]
    · have hd : d ≠ c := fun e => hk (by subst e; exact nd_get h hj)
      have hne : ¬ j = k := fun e => hk e.symm
      simp [hk, idxS_other hd, scr, encSp, spV, V.has, V.hasL, hne]
theorem blG_mod {cs : List Sp} {c : Sp} {k : Nat} (h : (setOf cs)[k]? = some c) : (blG cs).set k (.data 1 ((idxS cs c).map encN ++ [encN cs.length])) = blG (cs ++ [c]) := by
  have hc : c ∈ cs := (mem_setOf _ _).1 (List.mem_of_getElem? h)
  apply List.ext_getElem?
  intro j
  unfold blG
  rw [setOf_old hc]
  simp only [List.getElem?_set, List.getElem?_map, List.length_map]
  cases hj : (setOf cs)[j]? with
  | none =>
    by_cases hk : k = j
    · subst hk; rw [h] at hj; cases hj
    · simp [hk]
  | some d =>
    by_cases hk : k = j
    · subst hk
      rw [h] at hj
      obtain rfl : c = d := by simpa using hj
      simp [rowG, idxS_same, (List.getElem?_eq_some_iff.1 h).1]
    · have hd : d ≠ c := fun e => hk (by subst e; exact nd_get h hj)
      simp [hk, rowG, idxS_other hd]
theorem esG_snoc {cs : List Sp} {c : Sp} (h : c ∉ cs) : esG (cs ++ [c]) = esG cs ++ [(encSp c, V.ref ((setOf cs).length + 1) 0 1)] := by
  have hi : idxS cs c = [] := List.eq_nil_iff_forall_not_mem.2 fun i hi => h (List.mem_of_getElem? (idxS_mem.1 hi))
  unfold esG
  rw [setOf_new h, List.mapIdx_append]
  congr 1
  · apply List.ext_getElem?
    intro j
    simp only [List.getElem?_mapIdx]
    cases hj : (setOf cs)[j]? with
    | none => rfl
    | some d =>
      have hd : d ≠ c := fun e => h (e ▸ (mem_setOf _ _).1 (List.mem_of_getElem? hj))
      simp [idxS_other hd]
  · simp [idxS_same, hi]
theorem encSp_ren (r : List Nat) (d : Sp) : V.ren r (encSp d) = encSp d := by simp [encSp, spV, V.ren, V.renL]
theorem grid_ren {cs : List Sp} {tm tm' : List (Nat × V)} {E : List (V × V)} {X : List Blk} (r : List Nat) (nd : r.Nodup) (h0 : r[0]? = some 0) (hrl : r.length = (setOf cs).length + 1)
    (hG : ∀ j d, (setOf cs)[j]? = some d → ∃ q, r[j + 1]? = some (q + 1) ∧ X[q]? = some (rowG cs d)) (hE : (esG cs).map (fun p => (V.ren r p.1, V.ren r p.2)) = E) (htm : subTm (renTm r tm') tm) (bt : belTm r.length tm' = true) :
    Ren [] r ⟨tm', .mp (esG cs) :: blG cs⟩ ⟨tm, .mp E :: X⟩ := by
  refine ren_of nd ?_ ?_ htm bt ?_
  · simp only [List.length_cons, blG_len, hrl]
  · intro j b hb
    match j with
    | 0 => simp at hb; subst hb; exact ⟨0, h0, by simp [Blk.ren, hE]⟩
    | j + 1 =>
      have hb : (blG cs)[j]? = some b := hb
      simp only [blG, List.getElem?_map, Option.map_eq_some_iff] at hb
      obtain ⟨d, h1, rfl⟩ := hb
      obtain ⟨q, h2, h3⟩ := hG j d h1
      exact ⟨q + 1, h2, h3⟩
  · intro b hb
    simp only [List.mem_cons, blG, List.mem_map] at hb
    rcases hb with rfl | ⟨d, _, rfl⟩
    · simp only [Blk.bel, List.all_eq_true]
      intro p hp
      obtain ⟨j, hj, rfl⟩ := List.getElem_of_mem hp
      rw [esG_len] at hj
      simp [esG, encSp, spV, V.bel, V.belL, hrl]
      omega
    · rfl
theorem esG_ren (cs : List Sp) {r : List Nat} (hr : ∀ j, j < (setOf cs).length + 1 → r[j]? = some j) : (esG cs).map (fun p => (V.ren r p.1, V.ren r p.2)) = esG cs := by
  apply List.ext_getElem?
  intro j
  simp only [List.getElem?_map, esG, List.getElem?_mapIdx]
  cases hj : (setOf cs)[j]? with
  | none => rfl
  | some d =>
    have hk := (List.getElem?_eq_some_iff.1 hj).1
    simp only [Option.map_some, encSp_ren, V.ren, List.getD_eq_getElem?_getD]
    rw [hr (j + 1) (by omega)]
    rfl
set_option maxRecDepth 10000 in
set_option maxHeartbeats 1000000 in
theorem p81 (ps : List Pt) (size : Int) (hs : 1 ≤ size ∧ size ≤ 16777216) (hc : check ps = 0) : PC Tryz.prog 28 [.sl (ps.map encP), .int .i64 size] fun x H => x = .map 0 ∧ H = .mp (esG (ps.map (cellP size))) :: blG (ps.map (cellP size)) := by
  have hn := check_len hc
  refine pc_of (fn := Tryz.f28) [.tmp 4] (by kernel_rfl) rfl (by kernel_rfl) (Nat.le_of_ble_eq_true rfl) (by kernel_rfl) rfl ?_
  refine awp_seq ?_
  refine awpF_region ?_; intro K hK; simp only [push_cast, seval]; (try simp (disch := omega) only [wrapI]); (repeat ((with_reducible refine And.intro ?_ ?_); (focus (exact ob1)))); refine hK _ ?_; clear hK; clear K
  refine awp_seq ?_
  refine awpF_region ?_; intro K hK; simp only [push_cast, seval]; (try simp (disch := omega) only [wrapI]); (repeat ((with_reducible refine And.intro ?_ ?_); (focus (exact ob1)))); refine hK _ ?_; clear hK; clear K
  refine awp_seq ?_
  refine awp_seq ?_
  refine awpF_region ?_; intro K hK; simp only [push_cast, seval]; (try simp (disch := omega) only [wrapI]); (repeat ((with_reducible refine And.intro ?_ ?_); (focus (exact ob1)))); refine hK _ ?_; clear hK; clear K
  refine awp_block ?_
  refine awp_loopP (α := Nat) (st := fun i => ⟨[(1, .d (.int .i64 size)), (5, .map 0), (10, .d (.sl (ps.map encP))), (11, .d (.int .i64 ps.length)), (12, .d (.int .i64 i))], .mp (esG ((ps.take i).map (cellP size))) :: blG ((ps.take i).map (cellP size))⟩) (inv := fun i => i ≤ ps.length) (μ := fun i => ps.length - i) (x0 := 0) (r0 := [0]) ?_ ?_ ?_
  · exact Nat.zero_le _
  · rw [List.take_zero, List.map_nil, show esG [] = [] from rfl, show blG [] = [] from rfl]
    exact ⟨by simp, by simp, by simp [push_cast, seval], by simp [push_cast, seval], by simp [push_cast, seval], by simp [push_cast, seval]⟩
  intro i hi
  refine awp_seq ?_
  refine awpF_region ?_; intro K hK; simp only [push_cast, seval]; (try simp (disch := omega) only [wrapI]); (repeat ((with_reducible refine And.intro ?_ ?_); (focus (exact ob1)))); refine hK _ ?_; clear hK; clear K
  refine awp_seq ?_
  apply awp_cond; (focus (simp only [push_cast, seval]; rfl))
  · intro h1; (try simp only [decide_eq_true_eq, decide_eq_false_iff_not, Bool.not_eq_true', Bool.not_eq_false', Bool.and_eq_true, Bool.or_eq_true, Bool.not_eq_true] at h1)
    have hlt : i < ps.length := by omega
    have g1 : (ps.map encP)[i]? = some (encP ps[i]) := by rw [List.getElem?_map, List.getElem?_eq_getElem hlt]; rfl
    have hq : ∀ row, row ∈ ps.map encP → row.length = 3 := fun row hr => by obtain ⟨_, _, rfl⟩ := List.mem_map.1 hr; rfl
    simp only [encP] at g1
    refine awp_skip ?_
    refine awp_seq ?_
    refine awp_block ?_
    refine awp_seq ?_
    have hcsl : ((ps.take i).map (cellP size)).length = i := by rw [List.length_map, List.length_take]; omega
    generalize hcs : (ps.take i).map (cellP size) = cs at hcsl ⊢
    obtain ⟨B, hB⟩ : ∃ B, B = blG cs := ⟨_, rfl⟩
    rw [← hB]
    obtain ⟨_, hb1, hb2⟩ := ok_bd hc (List.getElem_mem hlt)
    have h1 := p108 ps[i].1 size (by omega) hb1
    have h2 := p108 ps[i].2.1 size (by omega) hb2
    refine awpF_region ?_; intro K hK; simp only [push_cast, seval, g1, Int.toNat_natCast, ap0, st0, List.append_assoc, List.cons_append, List.nil_append, List.length_append]
    repeat (with_reducible refine And.intro ?_ ?_; (focus (first | exact hq | omega)))
    refine hK _ ?_; clear hK; clear K
    refine awp_seq ?_
    refine awpF_drawT (DT.op 0 (DT.op 1 (DT.op 2 (DT.op 4 (DT.op 5 (DT.op 6 (DT.or (DT.op 3 (DT.or (DT.op 7 (DT.op 8 (DT.op 9 (DT.op 10 DT.nil)))) (DT.op 9 (DT.op 7 (DT.op 8 (DT.op 10 DT.nil)))))) (DT.op 9 (DT.op 3 (DT.op 7 (DT.op 8 (DT.op 10 DT.nil)))))))))))) (by kernel_rfl) (by kernel_rfl) (by kernel_rfl) ?_; intro K hK; apply dt_close; (rotate_left; (intro fin; (focus (simp only [push_cast, seval, ap0, ap1, st0, st1, List.append_assoc, List.cons_append, List.nil_append, List.length_append]; (try simp (disch := omega) only [wrapI]); (repeat' (first | exact fin | (with_reducible refine And.intro ?_ ?_) | (refine CallK.pd (h1) ?_; simp only [push_cast, seval, ap0, ap1, st0, st1, List.append_assoc, List.cons_append, List.nil_append, List.length_append]; (try simp (disch := omega) only [wrapI])) | (refine CallK.pd (h2) ?_; simp only [push_cast, seval, ap0, ap1, st0, st1, List.append_assoc, List.cons_append, List.nil_append, List.length_append]; (try simp (disch := omega) only [wrapI])) | (refine CallK.pg (fun _ => h1) ?_; simp only [push_cast, seval, ap0, ap1, st0, st1, List.append_assoc, List.cons_append, List.nil_append, List.length_append]; (try simp (disch := omega) only [wrapI])) | (refine CallK.pg (fun _ => h2) ?_; simp only [push_cast, seval, ap0, ap1, st0, st1, List.append_assoc, List.cons_append, List.nil_append, List.length_append]; (try simp (disch := omega) only [wrapI])) | exact ob1)))))); refine hK _ ?_; clear hK; clear K
    have hBl : B.length = (setOf cs).length := by rw [hB, blG_len]
    have hsc := fun j R => by have := scrG cs j R; rw [← hB] at this; exact this
    have hkb : ∀ d, d ∈ setOf cs → -9223372036854775808 ≤ d.1 ∧ d.1 ≤ 9223372036854775807 ∧ -9223372036854775808 ≤ d.2 ∧ d.2 ≤ 9223372036854775807 := fun d hd => by
      have := (mem_setOf _ _).1 hd
      rw [← hcs] at this
      obtain ⟨p, hp, rfl⟩ := List.mem_map.1 this
      exact cell_bd hc hs.1 (List.mem_map_of_mem (List.mem_of_mem_take hp))
    have hmk : MK Tryz.prog 33 (esG cs) := mkG (esG_keys cs) hkb (nd_setOf cs)
    obtain ⟨c, hcc⟩ : ∃ c : Sp, c = cellP size ps[i] := ⟨_, rfl⟩
    have hkw : kwf Tryz.prog 33 (.agg [.d (.int .i64 (flD ps[i].1 size)), .d (.int .i64 (flD ps[i].2.1 size))]) := kwf34 (d := cellP size ps[i]) (cell_bd hc hs.1 (List.mem_map_of_mem (List.getElem_mem hlt)))
    have hsu : (ps.take (i + 1)).map (cellP size) = cs ++ [c] := by
      rw [List.take_add_one, List.getElem?_eq_getElem hlt, List.map_append, hcs, hcc]
      rfl
    have hsl : (setOf cs).length ≤ i := by have := len_setOf cs; omega
    have wi : IntKind.i64.wrap ((i : Int) + 1) = (i : Int) + 1 := wrapI _ (by omega)
    have hL := idxS_len cs c
    have hel := esG_len cs
    by_cases hm : c ∈ cs
    · obtain ⟨k, hf, hk⟩ := esG_old hm
      have hkl := (List.getElem?_eq_some_iff.1 hk).1
      have hget := esG_get hk
      have hbg := fun R => by have := blG_get hk R; rw [← hB] at this; exact this
      rw [hcc] at hf
      have hf : mfind (esG cs) (.agg [.d (.int .i64 (flD ps[i].1 size)), .d (.int .i64 (flD ps[i].2.1 size))]) = some k := hf
      have htk : ((idxS cs c).map encN).take (idxS cs c).length = (idxS cs c).map encN := List.take_of_length_le (by simp)
      have z0 : (B.length == k) = false := by simp; omega
      have z1 : (B.length + 1 == k) = false := by simp; omega
      have z2 : (B.length + 2 == k) = false := by simp; omega
      refine awpF_region ?_; intro K hK; simp only [push_cast, seval, ap0, ap1, ap2, st0, st1, st2, List.append_assoc, List.cons_append, List.nil_append, List.length_append, hf, hget, hbg, hmk, hkw, hsc, htk, beq_self_eq_true, z0, z1, z2]
      repeat (with_reducible refine And.intro ?_ ?_; (focus (first | omega | exact fun h => h | trivial)))
      refine hK _ ?_; clear hK; clear K
      have hE := esG_mod hk
      simp only [scr] at hE
      rw [hE]
      have hM : B.set k (Blk.data 1 (List.map encN (idxS cs c) ++ [[D.int IntKind.i64 (i : Int)]])) = blG (cs ++ [c]) := by
        rw [hB]
        have := blG_mod hk
        rw [hcsl] at this
        exact this
      rw [List.set_append_left _ _ (by rw [hBl]; exact hkl), hM]
      have hso := setOf_old hm
      refine inblock_norm ?_
      refine awpF_region ?_; intro K hK; simp only [push_cast, seval, wi]; (try simp (disch := omega) only [wrapI]); (repeat ((with_reducible refine And.intro ?_ ?_); (focus (exact ob1)))); refine hK _ ?_; clear hK; clear K
      refine round_endG (i + 1) (List.range ((setOf cs).length + 1)) ⟨by omega, by omega, ?_⟩
      rw [hsu]
      refine grid_ren _ List.nodup_range (by rw [List.getElem?_range (by omega)]) (by rw [List.length_range, hso]) ?_ ?_ ?_ ?_
      · intro j d hj
        have hjl := (List.getElem?_eq_some_iff.1 hj).1
        rw [hso] at hjl
        refine ⟨j, by rw [List.getElem?_range (by omega)], ?_⟩
        rw [List.getElem?_append_left (by rw [blG_len, hso]; exact hjl)]
        simp [blG, hj]
      · exact esG_ren _ fun j hj => by rw [List.getElem?_range (by rw [hso] at hj; exact hj)]
      · simp [push_cast, seval]
      · simp [push_cast, seval]
    · have hf := esG_new hm
      rw [hcc] at hf
      have hf : mfind (esG cs) (.agg [.d (.int .i64 (flD ps[i].1 size)), .d (.int .i64 (flD ps[i].2.1 size))]) = none := hf
      refine awpF_region ?_; intro K hK; simp only [push_cast, seval, ap0, ap1, ap2, ap3, st0, st1, st2, st3, List.append_assoc, List.cons_append, List.nil_append, List.length_append, hf, hmk, hkw, hsc]
      repeat (with_reducible refine And.intro ?_ ?_; (focus (first | omega | exact fun h => h | trivial)))
      refine hK _ ?_; clear hK; clear K
      have hE : ((esG cs ++ [(V.agg [V.d (D.int IntKind.i64 (flD ps[i].1 size)), V.d (D.int IntKind.i64 (flD ps[i].2.1 size))], V.nil)]).modify (esG cs).length fun p => (p.1, V.ref (B.length + 3 + 1) 0 1)) = esG cs ++ [(encSp c, V.ref (B.length + 3 + 1) 0 1)] := by
        rw [modify_last, hcc]
        rfl
      rw [hE]
      have hsn := setOf_new hm
      refine inblock_norm ?_
      refine awpF_region ?_; intro K hK; simp only [push_cast, seval, wi]; (try simp (disch := omega) only [wrapI]); (repeat ((with_reducible refine And.intro ?_ ?_); (focus (exact ob1)))); refine hK _ ?_; clear hK; clear K
      have hrj : ∀ j, j < (setOf cs).length + 1 → (List.range ((setOf cs).length + 1) ++ [(setOf cs).length + 4])[j]? = some j := fun j hj => by
        rw [List.getElem?_append_left (by simpa using hj), List.getElem?_range hj]
      have hrg : (List.range ((setOf cs).length + 1) ++ [(setOf cs).length + 4])[(setOf cs).length + 1]? = some ((setOf cs).length + 4) := by
        rw [List.getElem?_append_right (by simp)]; simp
      refine round_endG (i + 1) (List.range ((setOf cs).length + 1) ++ [(setOf cs).length + 4]) ⟨by omega, by omega, ?_⟩
      rw [hsu]
      refine grid_ren _ ?_ (hrj 0 (by omega)) (by rw [hsn]; simp) ?_ ?_ ?_ ?_
      · rw [List.nodup_append]
        refine ⟨List.nodup_range, by simp, fun a ha b hb => ?_⟩
        have := List.mem_range.1 ha
        simp at hb
        omega
      · intro j d hj
        rw [hsn] at hj
        rcases Nat.lt_or_ge j (setOf cs).length with h | h
        · rw [List.getElem?_append_left h] at hj
          refine ⟨j, hrj _ (by omega), ?_⟩
          have hdc : d ≠ c := fun e => hm (by rw [← e]; exact (mem_setOf _ _).1 (List.mem_of_getElem? hj))
          rw [hB, List.getElem?_append_left (by rw [blG_len]; exact h)]
          simp [blG, hj, rowG, idxS_other hdc]
        · have h' := (List.getElem?_eq_some_iff.1 hj).1
          simp at h'
          obtain rfl : j = (setOf cs).length := by omega
          rw [List.getElem?_append_right (Nat.le_refl _)] at hj
          simp at hj
          subst hj
          refine ⟨(setOf cs).length + 3, hrg, ?_⟩
          rw [← hBl, ap3]
          have hi0 : idxS cs c = [] := List.eq_nil_iff_forall_not_mem.2 fun q hq => hm (List.mem_of_getElem? (idxS_mem.1 hq))
          simp [rowG, idxS_same, hi0, hcsl, encN]
      · rw [esG_snoc hm, List.map_append, esG_ren cs hrj]
        simp only [List.map_cons, List.map_nil, encSp_ren, V.ren, List.getD_eq_getElem?_getD]
        rw [hrg, hBl]
        rfl
      · have e0 := hrj 0 (by omega)
        simp only [renTm, V.ren, List.getD_eq_getElem?_getD, e0]
        simp [push_cast, seval]
      · simp [push_cast, seval]
  · intro h1; (try simp only [decide_eq_true_eq, decide_eq_false_iff_not, Bool.not_eq_true', Bool.not_eq_false', Bool.and_eq_true, Bool.or_eq_true, Bool.not_eq_true] at h1)
    have hie : i = ps.length := by omega
    subst hie
    refine awp_exit ?_; (repeat (first | refine then_exit ?_ | refine inblock_other (by decide) ?_)); refine inblock_same ?_
    refine awp_seq ?_
    refine awpF_region ?_; intro K hK; simp only [push_cast, seval]; (try simp (disch := omega) only [wrapI]); (repeat ((with_reducible refine And.intro ?_ ?_); (focus (exact ob1)))); refine hK _ ?_; clear hK; clear K
    refine awp_ret ?_; (repeat (first | refine then_ret ?_ | refine inblock_ret ?_)); refine fin_of (by simp only [push_cast, seval]; first | done | rfl) ob1 ?_
    rw [List.take_length]
    exact ⟨rfl, rfl⟩
end Go.Aw

namespace Go.Aw
set_option linter.unusedSimpArgs false
set_option linter.unusedVariables false
open Go.RowKit Go.Proofs Go.Rg

theorem p113 (x : Int) : PD Tryz.prog 62 [.int .i64 x] (.d (.bool false)) := by
  refine pd_of (fn := Tryz.f62) [.tmp 2] (by kernel_rfl) rfl (by kernel_rfl) (Nat.le_of_ble_eq_true rfl) (by kernel_rfl) rfl rfl ?_
  refine awp_seq ?_
  refine awpF_region ?_; intro K hK; simp only [push_cast, seval]; (try simp (disch := omega) only [wrapI]); (repeat ((with_reducible refine And.intro ?_ ?_); (focus (exact ob1)))); refine hK _ ?_; clear hK; clear K
  refine awp_seq ?_
  refine awpF_region ?_; intro K hK; simp only [push_cast, seval]; (try simp (disch := omega) only [wrapI]); (repeat ((with_reducible refine And.intro ?_ ?_); (focus (exact ob1)))); refine hK _ ?_; clear hK; clear K
  refine awp_ret ?_; (repeat (first | refine then_ret ?_ | refine inblock_ret ?_)); refine fin_of (by simp only [push_cast, seval]; first | done | rfl) ob1 ?_
  simp

theorem p87 (a b : Int) : PD Tryz.prog 41 [.int .i64 a, .int .i64 b] (.d (.int .i64 (cmp3 a b))) := by
  refine pd_of (fn := Tryz.f41) [.tmp 4] (by kernel_rfl) rfl (by kernel_rfl) (Nat.le_of_ble_eq_true rfl) (by kernel_rfl) rfl rfl ?_
  refine awp_seq ?_
  refine awpF_region ?_; intro K hK; simp only [push_cast, seval]; (try simp (disch := omega) only [wrapI]); (repeat ((with_reducible refine And.intro ?_ ?_); (focus (exact ob1)))); refine hK _ ?_; clear hK; clear K
  refine awp_seq ?_
  refine awpF_region ?_; intro K hK; simp only [push_cast, seval]
  (repeat ((with_reducible refine And.intro ?_ ?_); (focus (exact ob1))))
  refine CallK.pd (p113 _) ?_; simp only [push_cast, seval]; (try simp (disch := omega) only [wrapI]); (repeat ((with_reducible refine And.intro ?_ ?_); (focus (exact ob1))))
  refine hK _ ?_; clear hK; clear K
  refine awp_seq ?_
  refine awpF_region ?_; intro K hK; simp only [push_cast, seval]
  (repeat ((with_reducible refine And.intro ?_ ?_); (focus (exact ob1))))
  refine CallK.pd (p113 _) ?_; simp only [push_cast, seval]; (try simp (disch := omega) only [wrapI]); (repeat ((with_reducible refine And.intro ?_ ?_); (focus (exact ob1))))
  refine hK _ ?_; clear hK; clear K
  refine awp_seq ?_
  refine awp_seq ?_
  refine awpF_region ?_; intro K hK; simp only [push_cast, seval]; (try simp (disch := omega) only [wrapI]); (repeat ((with_reducible refine And.intro ?_ ?_); (focus (exact ob1)))); refine hK _ ?_; clear hK; clear K
  apply awp_cond; (focus (simp only [push_cast, seval]; rfl))
  · intro h1; (try simp only [decide_eq_true_eq, decide_eq_false_iff_not, Bool.not_eq_true', Bool.not_eq_false', Bool.and_eq_true, Bool.or_eq_true, Bool.not_eq_true] at h1)
    cases h1
  intro h1; (try simp only [decide_eq_true_eq, decide_eq_false_iff_not, Bool.not_eq_true', Bool.not_eq_false', Bool.and_eq_true, Bool.or_eq_true, Bool.not_eq_true] at h1)
  refine awp_skip ?_
  refine awp_seq ?_
  refine awp_seq ?_
  refine awpF_region ?_; intro K hK; simp only [push_cast, seval]; (try simp (disch := omega) only [wrapI]); (repeat ((with_reducible refine And.intro ?_ ?_); (focus (exact ob1)))); refine hK _ ?_; clear hK; clear K
  apply awp_cond; (focus (simp only [push_cast, seval]; rfl))
  · intro h2; (try simp only [decide_eq_true_eq, decide_eq_false_iff_not, Bool.not_eq_true', Bool.not_eq_false', Bool.and_eq_true, Bool.or_eq_true, Bool.not_eq_true] at h2)
    cases h2
  intro h2; (try simp only [decide_eq_true_eq, decide_eq_false_iff_not, Bool.not_eq_true', Bool.not_eq_false', Bool.and_eq_true, Bool.or_eq_true, Bool.not_eq_true] at h2)
  refine awp_skip ?_
  refine awp_seq ?_
  refine awp_seq ?_
  refine awpF_region ?_; intro K hK; simp only [push_cast, seval]; (try simp (disch := omega) only [wrapI]); (repeat ((with_reducible refine And.intro ?_ ?_); (focus (exact ob1)))); refine hK _ ?_; clear hK; clear K
  apply awp_cond; (focus (simp only [push_cast, seval]; rfl))
  · intro h3; (try simp only [decide_eq_true_eq, decide_eq_false_iff_not, Bool.not_eq_true', Bool.not_eq_false', Bool.and_eq_true, Bool.or_eq_true, Bool.not_eq_true] at h3)
    refine awp_seq ?_
    refine awpF_region ?_; intro K hK; simp only [push_cast, seval]; (try simp (disch := omega) only [wrapI]); (repeat ((with_reducible refine And.intro ?_ ?_); (focus (exact ob1)))); refine hK _ ?_; clear hK; clear K
    refine awp_ret ?_; (repeat (first | refine then_ret ?_ | refine inblock_ret ?_)); refine fin_of (by simp only [push_cast, seval]; first | done | rfl) ob1 ?_
    simp [cmp3, h3]
  intro h3; (try simp only [decide_eq_true_eq, decide_eq_false_iff_not, Bool.not_eq_true', Bool.not_eq_false', Bool.and_eq_true, Bool.or_eq_true, Bool.not_eq_true] at h3)
  refine awp_skip ?_
  refine awp_seq ?_
  refine awp_seq ?_
  refine awpF_region ?_; intro K hK; simp only [push_cast, seval]; (try simp (disch := omega) only [wrapI]); (repeat ((with_reducible refine And.intro ?_ ?_); (focus (exact ob1)))); refine hK _ ?_; clear hK; clear K
  apply awp_cond; (focus (simp only [push_cast, seval]; rfl))
  · intro h4; (try simp only [decide_eq_true_eq, decide_eq_false_iff_not, Bool.not_eq_true', Bool.not_eq_false', Bool.and_eq_true, Bool.or_eq_true, Bool.not_eq_true] at h4)
    refine awp_seq ?_
    refine awpF_region ?_; intro K hK; simp only [push_cast, seval]; (try simp (disch := omega) only [wrapI]); (repeat ((with_reducible refine And.intro ?_ ?_); (focus (exact ob1)))); refine hK _ ?_; clear hK; clear K
    refine awp_ret ?_; (repeat (first | refine then_ret ?_ | refine inblock_ret ?_)); refine fin_of (by simp only [push_cast, seval]; first | done | rfl) ob1 ?_
    simp [cmp3, h3]
    omega
  intro h4; (try simp only [decide_eq_true_eq, decide_eq_false_iff_not, Bool.not_eq_true', Bool.not_eq_false', Bool.and_eq_true, Bool.or_eq_true, Bool.not_eq_true] at h4)
  refine awp_skip ?_
  refine awp_seq ?_
  refine awpF_region ?_; intro K hK; simp only [push_cast, seval]; (try simp (disch := omega) only [wrapI]); (repeat ((with_reducible refine And.intro ?_ ?_); (focus (exact ob1)))); refine hK _ ?_; clear hK; clear K
  refine awp_ret ?_; (repeat (first | refine then_ret ?_ | refine inblock_ret ?_)); refine fin_of (by simp only [push_cast, seval]; first | done | rfl) ob1 ?_
  simp [cmp3, h3]
  omega

def encBk (b : Bk) : List D := [.int .i64 b.1.1, .int .i64 b.1.2, .sl (b.2.map encN)]
theorem p86 (a b : Bk) (i j : Nat) (s t : List Nat) (ha : a.2 = i :: s) (hb : b.2 = j :: t) (hla : a.2.length ≤ 1000000) (hlb : b.2.length ≤ 1000000) : PD Tryz.prog 40 [.agg (encBk a), .agg (encBk b)] (.d (.int .i64 (cmp3 (i : Int) (j : Int)))) := by
  have h87 := p87 (i : Int) (j : Int)
  obtain ⟨⟨a1, a2⟩, al⟩ := a
  obtain ⟨⟨b1, b2⟩, bl⟩ := b
  simp only at ha hb hla hlb
  subst ha
  subst hb
  simp only [encBk, List.map_cons, encN]
  refine pd_of (fn := Tryz.f40) [.tmp 4] (by kernel_rfl) rfl (by kernel_rfl) (Nat.le_of_ble_eq_true rfl) (by kernel_rfl) rfl rfl ?_
  refine awp_seq ?_
  refine awpF_region ?_; intro K hK; simp only [push_cast, seval]; (try simp (disch := omega) only [wrapI]); (repeat ((with_reducible refine And.intro ?_ ?_); (focus (exact ob1)))); refine hK _ ?_; clear hK; clear K
  refine awp_seq ?_
  refine awpF_draw [0,1,2,3,4,5,6,7,8,9] (by kernel_rfl) (by kernel_rfl) rfl ?_; intro K hK; simp only [push_cast, seval, List.getElem?_cons_zero, Int.toNat_zero]
  have hr : ∀ (n : Nat) (l : List Nat) (row : List D), row = [D.int IntKind.i64 (n : Int)] ∨ row ∈ l.map encN → row.length = 1 := fun n l row h => by
    rcases h with rfl | h
    · rfl
    · obtain ⟨_, _, rfl⟩ := List.mem_map.1 h; rfl
  refine ⟨by omega, hr i s, by omega, hr j t, ?_⟩
  refine CallK.pd (h87) ?_; simp only [push_cast, seval]; (try simp (disch := omega) only [wrapI]); (repeat ((with_reducible refine And.intro ?_ ?_); (focus (exact ob1))))
  refine hK _ ?_; clear hK; clear K
  refine awp_ret ?_; (repeat (first | refine then_ret ?_ | refine inblock_ret ?_)); refine fin_of (by simp only [push_cast, seval]; first | done | rfl) ob1 ?_
  rfl
end Go.Aw

namespace Go.Proofs
set_option linter.unusedSimpArgs false
set_option linter.unusedVariables false
open Go.RowKit Go.Maps Go.Sort Go.Shelf

def Tryz.sortK_ren : Go.Shelf.Ren := ⟨fun | 6 => 29 | 14 => 54 | 15 => 55 | 20 => 73 | 21 => 74 | 22 => 75 | 23 => 76 | 24 => 77 | 25 => 78 | 26 => 79 | 27 => 80 | 28 => 81 | 29 => 82 | 46 => 93 | 47 => 94 | 48 => 95 | 49 => 96 | 50 => 97 | 57 => 101 | n => n, fun | 0 => 0 | 3 => 3 | 4 => 4 | 5 => 5 | 9 => 9 | 22 => 51 | 25 => 68 | 39 => 102 | 45 => 123 | 46 => 124 | 50 => 82 | 53 => 130 | 55 => 132 | 66 => 141 | 70 => 145 | 76 => 149 | 77 => 150 | 24 => 33 | n => n, fun | n => n⟩
theorem Tryz.sortK : Go.Proofs.SlLaysF0.n6 Tryz.prog Tryz.sortK_ren where
  mixed := by kernel_rfl
  f6 := ⟨Tryz.f29.name, by kernel_rfl, Tryz.func29.trans (congrArg some (by kernel_rfl))⟩
  f14 := ⟨Tryz.f54.name, by kernel_rfl, Tryz.func54.trans (congrArg some (by kernel_rfl))⟩
  f15 := Tryz.func55.trans (congrArg some (by kernel_rfl))
  f20 := ⟨Tryz.f73.name, by kernel_rfl, Tryz.func73.trans (congrArg some (by kernel_rfl))⟩
  f21 := ⟨Tryz.f74.name, by kernel_rfl, Tryz.func74.trans (congrArg some (by kernel_rfl))⟩
  f22 := ⟨Tryz.f75.name, by kernel_rfl, Tryz.func75.trans (congrArg some (by kernel_rfl))⟩
  f23 := ⟨Tryz.f76.name, by kernel_rfl, Tryz.func76.trans (congrArg some (by kernel_rfl))⟩
  f24 := ⟨Tryz.f77.name, by kernel_rfl, Tryz.func77.trans (congrArg some (by kernel_rfl))⟩
  f25 := ⟨Tryz.f78.name, by kernel_rfl, Tryz.func78.trans (congrArg some (by kernel_rfl))⟩
  f26 := ⟨Tryz.f79.name, by kernel_rfl, Tryz.func79.trans (congrArg some (by kernel_rfl))⟩
  f27 := ⟨Tryz.f80.name, by kernel_rfl, Tryz.func80.trans (congrArg some (by kernel_rfl))⟩
  f28 := Tryz.func81.trans (congrArg some (by kernel_rfl))
  f29 := Tryz.func82.trans (congrArg some (by kernel_rfl))
  f46 := ⟨Tryz.f93.name, by kernel_rfl, Tryz.func93.trans (congrArg some (by kernel_rfl))⟩
  f47 := Tryz.func94.trans (congrArg some (by kernel_rfl))
  f48 := Tryz.func95.trans (congrArg some (by kernel_rfl))
  f49 := ⟨Tryz.f96.name, by kernel_rfl, Tryz.func96.trans (congrArg some (by kernel_rfl))⟩
  f50 := ⟨Tryz.f97.name, by kernel_rfl, Tryz.func97.trans (congrArg some (by kernel_rfl))⟩
  f57 := ⟨Tryz.f101.name, by kernel_rfl, Tryz.func101.trans (congrArg some (by kernel_rfl))⟩
  t0 := Tryz.underlying0
  a0 := Tryz.isAgg0
  z0 := Tryz.sizeOf0
  v0 := Tryz.zeroValue0
  t3 := Tryz.underlying3
  a3 := Tryz.isAgg3
  z3 := Tryz.sizeOf3
  v3 := Tryz.zeroValue3
  t4 := Tryz.underlying4
  a4 := Tryz.isAgg4
  z4 := Tryz.sizeOf4
  v4 := Tryz.zeroValue4
  t5 := Tryz.underlying5
  a5 := Tryz.isAgg5
  z5 := Tryz.sizeOf5
  v5 := Tryz.zeroValue5
  t9 := Tryz.underlying9
  a9 := Tryz.isAgg9
  z9 := Tryz.sizeOf9
  v9 := Tryz.zeroValue9
  t22 := Tryz.underlying51
  a22 := Tryz.isAgg51
  z22 := Tryz.sizeOf51
  v22 := Tryz.zeroValue51
  t25 := Tryz.underlying68
  a25 := Tryz.isAgg68
  z25 := Tryz.sizeOf68
  v25 := Tryz.zeroValue68
  t39 := Tryz.underlying102
  a39 := Tryz.isAgg102
  z39 := Tryz.sizeOf102
  v39 := Tryz.zeroValue102
  t45 := Tryz.underlying123
  a45 := Tryz.isAgg123
  z45 := Tryz.sizeOf123
  v45 := Tryz.zeroValue123
  t46 := Tryz.underlying124
  a46 := Tryz.isAgg124
  z46 := Tryz.sizeOf124
  v46 := Tryz.zeroValue124
  t50 := Tryz.underlying82
  a50 := Tryz.isAgg82
  z50 := Tryz.sizeOf82
  v50 := Tryz.zeroValue82
  t53 := Tryz.underlying130
  a53 := Tryz.isAgg130
  z53 := Tryz.sizeOf130
  v53 := Tryz.zeroValue130
  t55 := Tryz.underlying132
  a55 := Tryz.isAgg132
  z55 := Tryz.sizeOf132
  v55 := Tryz.zeroValue132
  t66 := Tryz.underlying141
  a66 := Tryz.isAgg141
  z66 := Tryz.sizeOf141
  v66 := Tryz.zeroValue141
  t70 := Tryz.underlying145
  a70 := Tryz.isAgg145
  z70 := Tryz.sizeOf145
  v70 := Tryz.zeroValue145
  t76 := Tryz.underlying149
  a76 := Tryz.isAgg149
  z76 := Tryz.sizeOf149
  v76 := Tryz.zeroValue149
  t77 := Tryz.underlying150
  a77 := Tryz.isAgg150
  z77 := Tryz.sizeOf150
  v77 := Tryz.zeroValue150

end Go.Proofs

namespace Go.Aw
open Go.RowKit Go.Proofs Go.Sort Go.Shelf Go.Rg

def enS (d : Sp) : List Int := [d.1, d.2]
theorem ord_neg (a b : Sp) : ord a.1 a.2 b.1 b.2 < 0 ↔ ltS a b := by
  unfold ord ltS cor cor cor cmp3
  by_cases h1 : a.1 < b.1
  · simp [h1]
  · by_cases h2 : b.1 < a.1
    · have h3 : ¬ a.1 = b.1 := by omega
      simp [h1, h2, h3]
    · have h3 : a.1 = b.1 := by omega
      by_cases h4 : a.2 < b.2
      · simp [h3, h4]
      · by_cases h5 : b.2 < a.2
        · simp [h3, h4, h5]
        · simp [h3, h4, h5]
theorem ordS_swo : SWO (ltOf fun a b : Sp => ord a.1 a.2 b.1 b.2) where
  irrefl x := by simp only [ltOf, decide_eq_false_iff_not, ord_neg]; exact ltS_irrefl x
  trans x y z h1 h2 := by simp only [ltOf, decide_eq_true_eq, ord_neg] at *; exact ltS_trans h1 h2
  ntrans x y z h1 h2 := by simp only [ltOf, decide_eq_false_iff_not, ord_neg] at *; unfold ltS at *; omega
theorem ordS_tot (x y : Sp) (h1 : ltOf (fun a b : Sp => ord a.1 a.2 b.1 b.2) x y = false) (h2 : ltOf (fun a b : Sp => ord a.1 a.2 b.1 b.2) y x = false) : x = y := by
  simp only [ltOf, decide_eq_false_iff_not, ord_neg] at *
  exact ltS_tri h1 h2
theorem a82 (zs : List Sp) (hz : zs.length ≤ 1000000) (id : Nat) (H : List Blk) (kp : List Nat) (hid : H[id]? = some (.data 2 (zs.map (enD enS)))) : AC Tryz.prog 29 [.ref id 0 zs.length, .d (.fn (.func 30) [])] H kp fun x H' => x = .tup [] ∧ H' = H.set id (.data 2 ((sortS zs).map (enD enS))) := by
  refine ac_sortKat enS (f := 29) ⟨Tryz.f29, by kernel_rfl, by kernel_rfl, rfl⟩ [.fn (.func 30) []] rfl 2 (fun _ => rfl) (by decide) sortS sortS_len ?_ ?_ zs (by omega) id H kp hid
  · intro F ex blk off cap zs w hex _ _ hH hb hl
    obtain rfl : ex = #[.func (.func 30) #[] #[]] := by
      obtain ⟨l⟩ := ex
      match l, hex.1 with
      | [c], _ =>
        have v0 := hex.2 0 _ c rfl rfl
        cases v0 with
        | d _ _ v0 =>
          cases v0 with
          | fn _ _ cs hs _ =>
            obtain rfl : cs = #[] := Array.size_eq_zero_iff.1 hs
            rfl
    have hcl := cmp_laysK enS (P := Tryz.prog) (g := 30) (cf := fun a b : Sp => ord a.1 a.2 b.1 b.2) (fun x y => p70 x.1 x.2 y.1 y.2) (w := w) (blk := blk) (off := off) (size := zs.toArray.size) 2
    have := AnyQ.slices_SortFunc_total Tryz.sortK 2 Tryz.isAgg33 Tryz.sizeOf33 (enV enS) (fun _ => rfl) (fun x v hv => by
      simp only [enV, enS, List.map_cons, List.map_nil, List.mem_cons, List.not_mem_nil, or_false] at hv
      rcases hv with rfl | rfl <;> rfl) (fun a b : Sp => ord a.1 a.2 b.1 b.2) ordS_swo 30 #[] blk off cap zs.toArray w (enters_of Tryz.func30 (by kernel_rfl) rfl) hcl hH hb (by simpa using hl) ordS_tot
    refine this.mono ?_
    rintro e w' ⟨h1, n, os, h2⟩
    refine ⟨h1, n, os, ?_⟩
    rw [h2]
    have : (zs.toArray.toList.mergeSort fun x y => !ltOf (fun a b : Sp => ord a.1 a.2 b.1 b.2) y x) = sortS zs := by
      unfold sortS
      congr 1
      funext x y
      simp only [ltOf, ord_neg]
    rw [this]
    rfl
  · intro F ex p cap w hex
    obtain ⟨c0, rfl⟩ : ∃ c0, ex = #[c0] := by
      obtain ⟨l⟩ := ex
      match l, hex.1 with
      | [c], _ => exact ⟨c, rfl⟩
    exact AnyF.slices_SortFunc_none Tryz.sortK p cap c0 w
end Go.Aw

namespace Go.Aw
set_option linter.unusedSimpArgs false
set_option linter.unusedVariables false
open Go.RowKit Go.Proofs Go.Rg

def ptV (p : Pt) : List V := [.d (.int .i64 p.1), .d (.int .i64 p.2.1), .d (.int .i64 p.2.2)]
def seenL (L : List Sp) (seen : List Nat) : List Sp := seen.filterMap (L[·]?)
theorem seenL_snoc {L : List Sp} {seen : List Nat} {j : Nat} {d : Sp} (h : L[j]? = some d) : seenL L (seen ++ [j]) = seenL L seen ++ [d] := by simp [seenL, h]
theorem seenL_all {L : List Sp} {seen : List Nat} (h : ∀ j, j < L.length → j ∈ seen) (d : Sp) : d ∈ seenL L seen ↔ d ∈ L := by
  simp only [seenL, List.mem_filterMap]
  constructor
  · rintro ⟨j, _, hj⟩; exact List.mem_of_getElem? hj
  · intro hd
    obtain ⟨j, hj, rfl⟩ := List.getElem_of_mem hd
    exact ⟨j, h j hj, List.getElem?_eq_getElem hj⟩
theorem esS_get {L : List Sp} {j : Nat} {p : V × V} (h : (esS L)[j]? = some p) : ∃ d, L[j]? = some d ∧ p = (encSp d, .d (.bool true)) := by
  simp only [esS, List.getElem?_map, Option.map_eq_some_iff] at h
  obtain ⟨d, hd, rfl⟩ := h
  exact ⟨d, hd, rfl⟩
theorem cor_lt (a b c : Int) : cor [cmp3 a b, c] < 0 ↔ (a < b ∨ a = b ∧ c < 0) := by
  simp only [cor, cmp3]
  by_cases h1 : a < b <;> by_cases h2 : a > b <;> by_cases h3 : c = 0 <;> simp [h1, h2, h3] <;> omega
theorem esS_frz (i : Nat) (rows : List (List D)) (l : List Sp) : (esS l).map (fun p => (V.frz i rows p.1, V.frz i rows p.2)) = esS l := by
  simp only [esS, List.map_map]
  apply List.map_congr_left
  intro d _
  simp [encSp, spV, V.frz, V.frzL]
theorem esS_len (L : List Sp) : (esS L).length = L.length := by simp [esS]

set_option maxHeartbeats 2000000 in
set_option maxRecDepth 100000 in
theorem p27 (a b : List Pt) (w s : Int) : PD Tryz.prog 23 [.sl (a.map encP), .sl (b.map encP), .int .i64 w, .int .i64 s] (regV (regOut a b w s)) := by
  refine pd_of (fn := Tryz.f23) [.cell 8 33, .tmp 9, .tmp 10] (by kernel_rfl) rfl (by kernel_rfl) (Nat.le_of_ble_eq_true rfl) (by kernel_rfl) rfl rfl ?_
  refine awp_seq ?_
  refine awpF_region ?_; intro K hK; simp only [push_cast, seval]; (try simp (disch := omega) only [wrapI]); (repeat ((with_reducible refine And.intro ?_ ?_); (focus (exact ob1)))); refine hK _ ?_; clear hK; clear K
  refine awp_seq ?_
  refine awp_seq ?_
  refine awpF_region ?_; intro K hK; simp only [push_cast, seval]
  (repeat ((with_reducible refine And.intro ?_ ?_); (focus (exact ob1))))
  refine hK _ ?_; clear hK; clear K
  refine awp_block ?_
  refine awp_loopP (st := fun (x : Nat) => ⟨[(0, .d (.sl (a.map encP))), (1, .d (.sl (b.map encP))), (2, .d (.int .i64 w)), (3, .d (.int .i64 s)), (8, .ptr 0 0 0), (27, .ref 1 0 2), (28, .d (.int .i64 2)), (29, .d (.int .i64 x))], [.cells (spV (0, 0)), .data 1 [[.sl (a.map encP)], [.sl (b.map encP)]]]⟩)
    (inv := fun x => x ≤ 2 ∧ (0 < x → check a = 0) ∧ (1 < x → check b = 0)) (μ := fun x => 2 - x) (x0 := 0) (r0 := [0, 1]) ?_ ?_ ?_
  · exact ⟨by omega, by omega, by omega⟩
  · simp only [spV]
    exact ⟨by simp, by simp, by simp [push_cast, seval], by simp [push_cast, seval], by simp [push_cast, seval], by simp [push_cast, seval]⟩
  rintro x ⟨hx, hxa, hxb⟩
  refine awp_seq ?_
  refine awpF_region ?_; intro K hK; simp only [push_cast, seval]; (try simp (disch := omega) only [wrapI]); (repeat ((with_reducible refine And.intro ?_ ?_); (focus (exact ob1)))); refine hK _ ?_; clear hK; clear K
  refine awp_seq ?_
  apply awp_cond; (focus (simp only [push_cast, seval]; rfl))
  · intro h1; (try simp only [decide_eq_true_eq, decide_eq_false_iff_not, Bool.not_eq_true', Bool.not_eq_false', Bool.and_eq_true, Bool.or_eq_true, Bool.not_eq_true] at h1)
    have hx2 : x = 0 ∨ x = 1 := by omega
    rcases hx2 with rfl | rfl
    · refine awp_skip ?_
      refine awp_seq ?_
      refine awp_block ?_
      refine awp_seq ?_
      refine awpF_region ?_; intro K hK; simp only [push_cast, seval, spV]; (try simp (disch := omega) only [wrapI]); (repeat ((with_reducible refine And.intro ?_ ?_); (focus (exact ob1)))); refine hK _ ?_; clear hK; clear K
      refine awp_seq ?_
      refine awpF_region ?_; intro K hK; simp only [push_cast, seval]
      (repeat ((with_reducible refine And.intro ?_ ?_); (focus (exact ob1))))
      refine CallK.pd (p25 _) ?_; simp only [push_cast, seval]; (try simp (disch := omega) only [wrapI]); (repeat ((with_reducible refine And.intro ?_ ?_); (focus (exact ob1))))
      refine hK _ ?_; clear hK; clear K
      refine awp_seq ?_
      refine awpF_region ?_; intro K hK; simp only [push_cast, seval]; (try simp (disch := omega) only [wrapI]); (repeat ((with_reducible refine And.intro ?_ ?_); (focus (exact ob1)))); refine hK _ ?_; clear hK; clear K
      apply awp_cond; (focus (simp only [push_cast, seval]; rfl))
      · intro h2; (try simp only [decide_eq_true_eq, decide_eq_false_iff_not, Bool.not_eq_true', Bool.not_eq_false', Bool.and_eq_true, Bool.or_eq_true, Bool.not_eq_true] at h2)
        have h2 : check a ≠ 0 := by simpa using h2
        have e : regErr a b w s = check a := by simp [regErr, h2]
        refine awp_seq ?_
        refine awpF_region ?_; intro K hK; simp only [push_cast, seval, spV]; (try simp (disch := omega) only [wrapI]); (repeat ((with_reducible refine And.intro ?_ ?_); (focus (exact ob1)))); refine hK _ ?_; clear hK; clear K
        refine awp_ret ?_; (repeat (first | refine then_ret ?_ | refine inblock_ret ?_)); refine fin_of (by simp only [push_cast, seval]; first | done | rfl) ob1 ?_
        simp [regOut, e, h2, regV, spV]
      · intro h2; (try simp only [decide_eq_true_eq, decide_eq_false_iff_not, Bool.not_eq_true', Bool.not_eq_false', Bool.and_eq_true, Bool.or_eq_true, Bool.not_eq_true] at h2)
        have h2 : check a = 0 := by simpa using h2
        refine awp_skip ?_
        refine awpF_region ?_; intro K hK; simp only [push_cast, seval]; (try simp (disch := omega) only [wrapI]); (repeat ((with_reducible refine And.intro ?_ ?_); (focus (exact ob1)))); refine hK _ ?_; clear hK; clear K
        refine round_endG 1 [0, 1] ⟨by omega, ⟨by omega, fun _ => h2, by omega⟩, ?_⟩
        simp only [spV]
        exact ⟨by simp, by simp, by simp [push_cast, seval], by simp [push_cast, seval], by simp [push_cast, seval], by simp [push_cast, seval]⟩
    · have ha := hxa (by omega)
      refine awp_skip ?_
      refine awp_seq ?_
      refine awp_block ?_
      refine awp_seq ?_
      refine awpF_region ?_; intro K hK; simp only [push_cast, seval, spV]; (try simp (disch := omega) only [wrapI]); (repeat ((with_reducible refine And.intro ?_ ?_); (focus (exact ob1)))); refine hK _ ?_; clear hK; clear K
      refine awp_seq ?_
      refine awpF_region ?_; intro K hK; simp only [push_cast, seval]
      (repeat ((with_reducible refine And.intro ?_ ?_); (focus (exact ob1))))
      refine CallK.pd (p25 _) ?_; simp only [push_cast, seval]; (try simp (disch := omega) only [wrapI]); (repeat ((with_reducible refine And.intro ?_ ?_); (focus (exact ob1))))
      refine hK _ ?_; clear hK; clear K
      refine awp_seq ?_
      refine awpF_region ?_; intro K hK; simp only [push_cast, seval]; (try simp (disch := omega) only [wrapI]); (repeat ((with_reducible refine And.intro ?_ ?_); (focus (exact ob1)))); refine hK _ ?_; clear hK; clear K
      apply awp_cond; (focus (simp only [push_cast, seval]; rfl))
      · intro h2; (try simp only [decide_eq_true_eq, decide_eq_false_iff_not, Bool.not_eq_true', Bool.not_eq_false', Bool.and_eq_true, Bool.or_eq_true, Bool.not_eq_true] at h2)
        have h2 : check b ≠ 0 := by simpa using h2
        have e : regErr a b w s = check b := by simp [regErr, ha, h2]
        refine awp_seq ?_
        refine awpF_region ?_; intro K hK; simp only [push_cast, seval, spV]; (try simp (disch := omega) only [wrapI]); (repeat ((with_reducible refine And.intro ?_ ?_); (focus (exact ob1)))); refine hK _ ?_; clear hK; clear K
        refine awp_ret ?_; (repeat (first | refine then_ret ?_ | refine inblock_ret ?_)); refine fin_of (by simp only [push_cast, seval]; first | done | rfl) ob1 ?_
        simp [regOut, e, h2, regV, spV]
      · intro h2; (try simp only [decide_eq_true_eq, decide_eq_false_iff_not, Bool.not_eq_true', Bool.not_eq_false', Bool.and_eq_true, Bool.or_eq_true, Bool.not_eq_true] at h2)
        have h2 : check b = 0 := by simpa using h2
        refine awp_skip ?_
        refine awpF_region ?_; intro K hK; simp only [push_cast, seval]; (try simp (disch := omega) only [wrapI]); (repeat ((with_reducible refine And.intro ?_ ?_); (focus (exact ob1)))); refine hK _ ?_; clear hK; clear K
        refine round_endG 2 [0, 1] ⟨by omega, ⟨by omega, fun _ => ha, fun _ => h2⟩, ?_⟩
        simp only [spV]
        exact ⟨by simp, by simp, by simp [push_cast, seval], by simp [push_cast, seval], by simp [push_cast, seval], by simp [push_cast, seval]⟩
  intro h1; (try simp only [decide_eq_true_eq, decide_eq_false_iff_not, Bool.not_eq_true', Bool.not_eq_false', Bool.and_eq_true, Bool.or_eq_true, Bool.not_eq_true] at h1)
  have hxe : x = 2 := by omega
  have ha := hxa (by omega)
  have hb' := hxb (by omega)
  subst hxe
  have hla := check_len ha
  have hlb := check_len hb'
  refine awp_exit ?_; (repeat (first | refine then_exit ?_ | refine inblock_other (by decide) ?_)); refine inblock_same ?_
  refine awp_seq ?_
  refine awp_seq ?_
  refine awpF_region ?_; intro K hK; simp only [push_cast, seval]; (try simp (disch := omega) only [wrapI]); (repeat ((with_reducible refine And.intro ?_ ?_); (focus (exact ob1)))); refine hK _ ?_; clear hK; clear K
  apply awp_cond; (focus (simp only [push_cast, seval]; rfl))
  · intro h3; (try simp only [decide_eq_true_eq, decide_eq_false_iff_not, Bool.not_eq_true', Bool.not_eq_false', Bool.and_eq_true, Bool.or_eq_true, Bool.not_eq_true] at h3)
    have h3' : 60 < a.length ∨ 60 < b.length := by omega
    have e : regErr a b w s = 8 := by simp [regErr, ha, hb', h3']
    refine awp_seq ?_
    refine awpF_region ?_; intro K hK; simp only [push_cast, seval, spV]; (try simp (disch := omega) only [wrapI]); (repeat ((with_reducible refine And.intro ?_ ?_); (focus (exact ob1)))); refine hK _ ?_; clear hK; clear K
    refine awp_ret ?_; (repeat (first | refine then_ret ?_ | refine inblock_ret ?_)); refine fin_of (by simp only [push_cast, seval]; first | done | rfl) ob1 ?_
    simp [regOut, e, regV, spV]
  intro h3; (try simp only [decide_eq_true_eq, decide_eq_false_iff_not, Bool.not_eq_true', Bool.not_eq_false', Bool.and_eq_true, Bool.or_eq_true, Bool.not_eq_true] at h3)
  have h3' : ¬ (60 < a.length ∨ 60 < b.length) := by omega
  refine awp_skip ?_
  refine awp_seq ?_
  refine awp_seq ?_
  refine awpF_region ?_; intro K hK; simp only [push_cast, seval]; (try simp (disch := omega) only [wrapI]); (repeat ((with_reducible refine And.intro ?_ ?_); (focus (exact ob1)))); refine hK _ ?_; clear hK; clear K
  apply awp_cond; (focus (simp only [push_cast, seval]; rfl))
  · intro h4; (try simp only [decide_eq_true_eq, decide_eq_false_iff_not, Bool.not_eq_true', Bool.not_eq_false', Bool.and_eq_true, Bool.or_eq_true, Bool.not_eq_true] at h4)
    have h4' : w < 0 ∨ 2000 < w ∨ s < 0 ∨ 2000 < s := by
      by_cases e1 : min w s < 0
      · omega
      · simp [e1] at h4; omega
    have e : regErr a b w s = 2 := by simp [regErr, ha, hb', h3', h4']
    refine awp_seq ?_
    refine awpF_region ?_; intro K hK; simp only [push_cast, seval, spV]; (try simp (disch := omega) only [wrapI]); (repeat ((with_reducible refine And.intro ?_ ?_); (focus (exact ob1)))); refine hK _ ?_; clear hK; clear K
    refine awp_ret ?_; (repeat (first | refine then_ret ?_ | refine inblock_ret ?_)); refine fin_of (by simp only [push_cast, seval]; first | done | rfl) ob1 ?_
    simp [regOut, e, regV, spV]
  intro h4; (try simp only [decide_eq_true_eq, decide_eq_false_iff_not, Bool.not_eq_true', Bool.not_eq_false', Bool.and_eq_true, Bool.or_eq_true, Bool.not_eq_true] at h4)
  have h4' : ¬ (w < 0 ∨ 2000 < w ∨ s < 0 ∨ 2000 < s) := by
    by_cases e1 : min w s < 0
    · simp [e1] at h4
    · simp [e1] at h4; omega
  obtain ⟨hok, herr⟩ := regOk_of ha hb' h3' h4'
  rw [show regOut a b w s = (regBest a b w s, cN a b s (regBest a b w s), 0) by simp [regOut, herr]]
  have hw0 := hok.w0
  have hw1 := hok.w1
  have hmk0 : MK Tryz.prog 33 [] := mkS (l := []) (by simp) List.nodup_nil
  have hkw0 : kwf Tryz.prog 33 (.agg [.d (.int .i64 0), .d (.int .i64 0)]) := kwf34 (d := (0, 0)) (by dsimp only; omega)
  have hput0 : mput [] (.agg [.d (.int .i64 0), .d (.int .i64 0)]) (.d (.bool true)) = esS [(0, 0)] := esS_put [] (0, 0)
  refine awp_skip ?_
  refine awp_seq ?_
  refine awpF_region ?_; intro K hK; simp only [push_cast, seval, hmk0, hkw0, hput0]
  (repeat ((with_reducible refine And.intro ?_ ?_); (focus (exact ob1))))
  refine hK _ ?_; clear hK; clear K
  refine awp_seq ?_
  refine awp_seq ?_
  refine awpF_region ?_; intro K hK; simp only [push_cast, seval]; (try simp (disch := omega) only [wrapI]); (repeat ((with_reducible refine And.intro ?_ ?_); (focus (exact ob1)))); refine hK _ ?_; clear hK; clear K
  refine awp_block ?_
  refine awp_loopP (st := fun (x : Nat) => ⟨[(0, .d (.sl (a.map encP))), (1, .d (.sl (b.map encP))), (2, .d (.int .i64 w)), (3, .d (.int .i64 s)), (8, .ptr 0 0 0), (14, .map 1), (61, .d (.sl (a.map encP))), (62, .d (.int .i64 a.length)), (63, .d (.int .i64 x))], [.cells (spV (0, 0)), .mp (esS (setOf (upto w a b x 0)))]⟩)
    (inv := fun x => x ≤ a.length) (μ := fun x => a.length - x) (x0 := 0) (r0 := [0, 2]) ?_ ?_ ?_
  · exact Nat.zero_le _
  · have : setOf (upto w a b 0 0) = [(0, 0)] := by rw [upto_zero]; rfl
    rw [this]
    simp only [spV]
    exact ⟨by simp, by simp, by simp [push_cast, seval, esS_ren], by simp [push_cast, seval], by simp [push_cast, seval], by simp [push_cast, seval, esS_bel]⟩
  intro i hi
  refine awp_seq ?_
  refine awpF_region ?_; intro K hK; simp only [push_cast, seval]; (try simp (disch := omega) only [wrapI]); (repeat ((with_reducible refine And.intro ?_ ?_); (focus (exact ob1)))); refine hK _ ?_; clear hK; clear K
  refine awp_seq ?_
  apply awp_cond; (focus (simp only [push_cast, seval]; rfl))
  · intro h5; (try simp only [decide_eq_true_eq, decide_eq_false_iff_not, Bool.not_eq_true', Bool.not_eq_false', Bool.and_eq_true, Bool.or_eq_true, Bool.not_eq_true] at h5)
    have hlt : i < a.length := by omega
    obtain ⟨p, hp⟩ : ∃ p, a[i]? = some p := ⟨_, List.getElem?_eq_getElem hlt⟩
    have hfp := fair_iff.1 (check_fair ha hp)
    refine awp_skip ?_
    refine awp_seq ?_
    refine awp_block ?_
    refine awp_seq ?_
    refine awpF_region ?_; intro K hK; simp only [push_cast, seval, hp, encP]; (try simp (disch := omega) only [wrapI]); (repeat ((with_reducible refine And.intro ?_ ?_); (focus (exact ob1)))); refine hK _ ?_; clear hK; clear K
    refine awp_seq ?_
    refine awpF_region ?_; intro K hK; simp only [push_cast, seval]; (try simp (disch := omega) only [wrapI]); (repeat ((with_reducible refine And.intro ?_ ?_); (focus (exact ob1)))); refine hK _ ?_; clear hK; clear K
    refine awp_block ?_
    refine awp_loopP (st := fun (x : Nat) => ⟨[(0, .d (.sl (a.map encP))), (1, .d (.sl (b.map encP))), (2, .d (.int .i64 w)), (3, .d (.int .i64 s)), (8, .ptr 0 0 0), (14, .map 1), (16, .ptr 2 0 0), (61, .d (.sl (a.map encP))), (62, .d (.int .i64 a.length)), (63, .d (.int .i64 i)), (67, .d (.sl (b.map encP))), (68, .d (.int .i64 b.length)), (69, .d (.int .i64 x))],
        [.cells (spV (0, 0)), .mp (esS (setOf (upto w a b i x))), .cells (ptV p)]⟩)
      (inv := fun x => x ≤ b.length) (μ := fun x => b.length - x) (x0 := 0) (r0 := [0, 1, 2]) ?_ ?_ ?_
    · exact Nat.zero_le _
    · simp only [spV, ptV]
      exact ⟨by simp, by simp, by simp [push_cast, seval, esS_ren], by simp [push_cast, seval], by simp [push_cast, seval], by simp [push_cast, seval, esS_bel]⟩
    intro k hk
    refine awp_seq ?_
    refine awpF_region ?_; intro K hK; simp only [push_cast, seval]; (try simp (disch := omega) only [wrapI]); (repeat ((with_reducible refine And.intro ?_ ?_); (focus (exact ob1)))); refine hK _ ?_; clear hK; clear K
    refine awp_seq ?_
    apply awp_cond; (focus (simp only [push_cast, seval]; rfl))
    · intro h6; (try simp only [decide_eq_true_eq, decide_eq_false_iff_not, Bool.not_eq_true', Bool.not_eq_false', Bool.and_eq_true, Bool.or_eq_true, Bool.not_eq_true] at h6)
      have hklt : k < b.length := by omega
      obtain ⟨q, hq⟩ : ∃ q, b[k]? = some q := ⟨_, List.getElem?_eq_getElem hklt⟩
      have hfq := fair_iff.1 (check_fair hb' hq)
      refine awp_skip ?_
      refine awp_seq ?_
      refine awp_block ?_
      refine awp_seq ?_
      refine awpF_region ?_; intro K hK; simp only [push_cast, seval, hq, encP, ptV, spV]; (try simp (disch := omega) only [wrapI]); (repeat ((with_reducible refine And.intro ?_ ?_); (focus (exact ob1)))); refine hK _ ?_; clear hK; clear K
      refine awp_seq ?_
      refine awpF_region ?_; intro K hK; simp only [push_cast, seval]; (try simp (disch := omega) only [wrapI]); (repeat ((with_reducible refine And.intro ?_ ?_); (focus (exact ob1)))); refine hK _ ?_; clear hK; clear K
      refine awp_seq ?_
      refine awpF_region ?_; intro K hK; simp only [push_cast, seval]; (try simp (disch := omega) only [wrapI]); (repeat ((with_reducible refine And.intro ?_ ?_); (focus (exact ob1)))); refine hK _ ?_; clear hK; clear K
      apply awp_cond; (focus (simp only [push_cast, seval]; rfl))
      · intro h7; (try simp only [decide_eq_true_eq, decide_eq_false_iff_not, Bool.not_eq_true', Bool.not_eq_false', Bool.and_eq_true, Bool.or_eq_true, Bool.not_eq_true] at h7)
        have hin : inW w (diff p q) := by simp only [inW, diff]; omega
        have hnew := upto_in hp hq hin
        have hmk : MK Tryz.prog 33 (esS (setOf (upto w a b i k))) := mkS (fun d hd => by
          have := upto_bnd hw0 ((mem_setOf _ _).1 hd)
          simp only [inW] at this ⊢
          omega) (nd_setOf _)
        have hkw : kwf Tryz.prog 33 (.agg [.d (.int .i64 (p.1 - q.1)), .d (.int .i64 (p.2.1 - q.2.1))]) := kwf34 (d := diff p q) (by simp only [diff]; omega)
        have hput : mput (esS (setOf (upto w a b i k))) (.agg [.d (.int .i64 (p.1 - q.1)), .d (.int .i64 (p.2.1 - q.2.1))]) (.d (.bool true)) = esS (setOf (upto w a b i (k + 1))) := by
          rw [hnew, setOf_snoc]
          exact esS_put _ (diff p q)
        refine awpF_region ?_; intro K hK; simp only [push_cast, seval, hmk, hkw, hput]
        (repeat ((with_reducible refine And.intro ?_ ?_); (focus (exact ob1))))
        refine hK _ ?_; clear hK; clear K
        refine awpF_region ?_; intro K hK; simp only [push_cast, seval]; (try simp (disch := omega) only [wrapI]); (repeat ((with_reducible refine And.intro ?_ ?_); (focus (exact ob1)))); refine hK _ ?_; clear hK; clear K
        refine round_endG (k + 1) [0, 1, 2] ⟨?_, hklt, ?_⟩
        · omega
        · simp only [spV, ptV]
          exact ⟨by simp, by simp, by simp [push_cast, seval, esS_ren], by simp [push_cast, seval], by simp [push_cast, seval], by simp [push_cast, seval, esS_bel]⟩
      · intro h7; (try simp only [decide_eq_true_eq, decide_eq_false_iff_not, Bool.not_eq_true', Bool.not_eq_false', Bool.and_eq_true, Bool.or_eq_true, Bool.not_eq_true] at h7)
        have hout : ¬ inW w (diff p q) := by simp only [inW, diff]; omega
        have hold := upto_out hp hq hout
        refine awp_skip ?_
        refine awpF_region ?_; intro K hK; simp only [push_cast, seval]; (try simp (disch := omega) only [wrapI]); (repeat ((with_reducible refine And.intro ?_ ?_); (focus (exact ob1)))); refine hK _ ?_; clear hK; clear K
        refine round_endG (k + 1) [0, 1, 2] ⟨?_, hklt, ?_⟩
        · omega
        · rw [hold]
          simp only [spV, ptV]
          exact ⟨by simp, by simp, by simp [push_cast, seval, esS_ren], by simp [push_cast, seval], by simp [push_cast, seval], by simp [push_cast, seval, esS_bel]⟩
    · intro h6; (try simp only [decide_eq_true_eq, decide_eq_false_iff_not, Bool.not_eq_true', Bool.not_eq_false', Bool.and_eq_true, Bool.or_eq_true, Bool.not_eq_true] at h6)
      have hke : k = b.length := by omega
      subst hke
      rw [upto_end hlt, ← upto_zero]
      refine awp_exit ?_; (repeat (first | refine then_exit ?_ | refine inblock_other (by decide) ?_)); refine inblock_same ?_
      refine awpF_region ?_; intro K hK; simp only [push_cast, seval]; (try simp (disch := omega) only [wrapI]); (repeat ((with_reducible refine And.intro ?_ ?_); (focus (exact ob1)))); refine hK _ ?_; clear hK; clear K
      refine round_endG (i + 1) [0, 1] ⟨?_, hlt, ?_⟩
      · omega
      · simp only [spV]
        exact ⟨by simp, by simp, by simp [push_cast, seval, esS_ren], by simp [push_cast, seval], by simp [push_cast, seval], by simp [push_cast, seval, esS_bel]⟩
  intro h5; (try simp only [decide_eq_true_eq, decide_eq_false_iff_not, Bool.not_eq_true', Bool.not_eq_false', Bool.and_eq_true, Bool.or_eq_true, Bool.not_eq_true] at h5)
  have hie : i = a.length := by omega
  subst hie
  rw [upto_zero, List.take_length]
  have hLm := mem_setOf (l := cands w a b)
  have hLb : ∀ d, d ∈ setOf (cands w a b) → inW w d := fun d hd => cands_bnd hw0 ((hLm d).1 hd)
  generalize setOf (cands w a b) = L at hLm hLb ⊢
  have hL0 : (0, 0) ∈ L := (hLm _).2 (by simp [cands])
  have hLl : 0 < L.length := List.length_pos_of_mem hL0
  refine awp_exit ?_; (repeat (first | refine then_exit ?_ | refine inblock_other (by decide) ?_)); refine inblock_same ?_
  refine awp_seq ?_
  refine awpF_region ?_; intro K hK; simp only [push_cast, seval]; (try simp (disch := omega) only [wrapI]); (repeat ((with_reducible refine And.intro ?_ ?_); (focus (exact ob1)))); refine hK _ ?_; clear hK; clear K
  refine awp_seq ?_
  refine awpF_region ?_; intro K hK; simp only [push_cast, seval]; (try simp (disch := omega) only [wrapI]); (repeat ((with_reducible refine And.intro ?_ ?_); (focus (exact ob1)))); refine hK _ ?_; clear hK; clear K
  refine awp_seq ?_
  refine awpF_region ?_; intro K hK; simp only [push_cast, seval]; (try simp (disch := omega) only [wrapI]); (repeat ((with_reducible refine And.intro ?_ ?_); (focus (exact ob1)))); refine hK _ ?_; clear hK; clear K
  refine awp_seq ?_
  refine awp_seq ?_
  refine awpF_region ?_; intro K hK; simp only [push_cast, seval]; (try simp (disch := omega) only [wrapI]); (repeat ((with_reducible refine And.intro ?_ ?_); (focus (exact ob1)))); refine hK _ ?_; clear hK; clear K
  refine awp_block ?_
  refine awp_loopP (st := fun (x : List Nat × Sp × Int) => ⟨[(0, .d (.sl (a.map encP))), (1, .d (.sl (b.map encP))), (3, .d (.int .i64 s)), (8, .ptr 0 0 0), (20, .ptr 2 0 0), (21, .d (.int .i64 x.2.2)), (22, .d (.fn (.func 49) [])), (102, .ptr 3 0 0)],
      [.cells (spV (0, 0)), .mp (esS L), .cells (spV x.2.1), .it (.map 1) x.1 L.length]⟩)
    (inv := fun x => x.1.Nodup ∧ (∀ j, j ∈ x.1 → j < L.length) ∧ (x.1 = [] ∧ x.2.1 = (0, 0) ∧ x.2.2 = -1 ∨ x.2.2 = cN a b s x.2.1 ∧ Best (cN a b s) (seenL L x.1) x.2.1)) (μ := fun x => L.length - x.1.length) (x0 := ([], (0, 0), -1)) (r0 := [0, 1, 2, 3]) ?_ ?_ ?_
  · exact ⟨List.nodup_nil, by simp, .inl ⟨rfl, rfl, rfl⟩⟩
  · simp only [spV]
    exact ⟨by simp, by simp, by simp [push_cast, seval, esS_ren, esS_len], by simp [push_cast, seval], by simp [push_cast, seval], by simp [push_cast, seval, esS_bel]⟩
  rintro ⟨seen, best, most⟩ ⟨hnd, hlt, hinv⟩
  dsimp only at hnd hlt hinv ⊢
  refine awp_seq ?_
  refine awpF_region ?_; intro K hK; simp only [push_cast, seval]
  refine ⟨(esS_len L).symm, fun hall => ?_, fun j pe hj hns => ?_⟩
  · have hall : ∀ j, j < L.length → j ∈ seen := fun j hj => hall j (by rw [esS_len]; exact hj)
    have hres : most = cN a b s best ∧ Best (cN a b s) (cands w a b) best := by
      rcases hinv with ⟨rfl, _, _⟩ | ⟨h1, h2⟩
      · exact absurd (hall 0 hLl) (by simp)
      · exact ⟨h1, h2.same fun d => by rw [seenL_all hall, hLm]⟩
    obtain ⟨rfl, hbest⟩ := hres
    have := hbest.unique (regBest_best a b w s) fun _ => Iff.rfl
    subst this
    simp only [push_cast, seval]
    (repeat ((with_reducible refine And.intro ?_ ?_); (focus (exact ob1))))
    refine hK _ ?_; clear hK; clear K
    refine awp_seq ?_
    apply awp_cond; (focus (simp only [push_cast, seval]; rfl))
    · intro h9; (try simp only [decide_eq_true_eq, decide_eq_false_iff_not, Bool.not_eq_true', Bool.not_eq_false', Bool.and_eq_true, Bool.or_eq_true, Bool.not_eq_true] at h9)
      cases h9
    intro h9; (try simp only [decide_eq_true_eq, decide_eq_false_iff_not, Bool.not_eq_true', Bool.not_eq_false', Bool.and_eq_true, Bool.or_eq_true, Bool.not_eq_true] at h9)
    refine awp_exit ?_; (repeat (first | refine then_exit ?_ | refine inblock_other (by decide) ?_)); refine inblock_same ?_
    refine awp_seq ?_
    refine awpF_region ?_; intro K hK; simp only [push_cast, seval, spV]
    (repeat ((with_reducible refine And.intro ?_ ?_); (focus (exact ob1))))
    refine hK _ ?_; clear hK; clear K
    refine awp_ret ?_; (repeat (first | refine then_ret ?_ | refine inblock_ret ?_)); refine fin_of (by simp only [push_cast, seval]; first | done | rfl) ob1 ?_
    rfl
  obtain ⟨d, hd, rfl⟩ := esS_get hj
  have hjl : j < L.length := (List.getElem?_eq_some_iff.1 hd).1
  have hdw := hLb d (List.mem_of_getElem? hd)
  have hfar := hok.far hdw
  have hnd' : (seen ++ [j]).Nodup := by
    rw [List.nodup_append]
    exact ⟨hnd, by simp, fun x hx y hy => by simp at hy; subst hy; rintro rfl; exact hns hx⟩
  have hlt' : ∀ x, x ∈ seen ++ [j] → x < L.length := fun x hx => by
    rcases List.mem_append.1 hx with hx | hx
    · exact hlt x hx
    · simp at hx; omega
  have hsl : (seen ++ [j]).length ≤ L.length := nd_len hnd' hlt'
  rw [List.length_append, List.length_singleton] at hsl
  have hsn := seenL_snoc (seen := seen) hd
  have hbw : inW w best := by
    rcases hinv with ⟨_, rfl, _⟩ | ⟨_, h2⟩
    · simp only [inW]; omega
    · have := h2.1
      simp only [seenL, List.mem_filterMap] at this
      obtain ⟨k, _, hk⟩ := this
      exact hLb _ (List.mem_of_getElem? hk)
  have h67 := p67 a b d.1 d.2 s ha hb' hfar
  have hcn : (cnt a b d.1 d.2 s : Int) = cN a b s d := rfl
  rw [hcn] at h67
  have hc0 : 0 ≤ cN a b s d := by simp only [cN]; omega
  have hnew : better (cN a b s d) d most best → Best (cN a b s) (seenL L (seen ++ [j])) d := fun h => by
    rw [hsn]
    rcases hinv with ⟨rfl, _, _⟩ | ⟨rfl, h2⟩
    · exact Best.one _ _
    · exact h2.snoc_new h
  have hold : ¬ better (cN a b s d) d most best → most = cN a b s best ∧ Best (cN a b s) (seenL L (seen ++ [j])) best := fun h => by
    rcases hinv with ⟨rfl, rfl, rfl⟩ | ⟨rfl, h2⟩
    · exact absurd (.inl (by omega)) h
    · exact ⟨rfl, hsn ▸ h2.snoc_old h⟩
  obtain ⟨dx, dy⟩ := d
  obtain ⟨bx, by'⟩ := best
  dsimp only at hdw hbw h67 hfar
  simp only [inW] at hdw hbw
  have hbi := better_iff (cN a b s (dx, dy)) most dx dy bx by'
  generalize hcn : cN a b s (dx, dy) = n at hbi hnew hold hc0 h67 ⊢
  simp only [encSp, spV]
  simp only [push_cast, seval]
  (repeat ((with_reducible refine And.intro ?_ ?_); (focus (exact ob1))))
  refine hK _ ?_; clear hK; clear K
  refine awp_seq ?_
  apply awp_cond; (focus (simp only [push_cast, seval]; rfl))
  · intro h9; (try simp only [decide_eq_true_eq, decide_eq_false_iff_not, Bool.not_eq_true', Bool.not_eq_false', Bool.and_eq_true, Bool.or_eq_true, Bool.not_eq_true] at h9)
    refine awp_skip ?_
    refine awp_block ?_
    refine awp_seq ?_
    refine awpF_region ?_; intro K hK; simp only [push_cast, seval, List.getLast?_concat, hj, encSp, spV]
    refine ⟨(esS_len L).symm, by rw [esS_len]; exact hjl, ?_⟩
    refine hK _ ?_; clear hK; clear K
    refine awp_seq ?_
    refine awpF_region ?_; intro K hK; simp only [push_cast, seval]
    (repeat ((with_reducible refine And.intro ?_ ?_); (focus (exact ob1))))
    refine CallK.pd (h67) ?_; simp only [push_cast, seval]; (try simp (disch := omega) only [wrapI]); (repeat ((with_reducible refine And.intro ?_ ?_); (focus (exact ob1))))
    refine hK _ ?_; clear hK; clear K
    refine awp_seq ?_
    by_cases e1 : n > most
    · have hbe := hnew (.inl e1)
      have e2 : (n == most) = false := by simp; omega
      refine awpF_draw [0,1,2,3,4,5,6,7,8,9,11,12,15,16,10,13,14,17,18,19,20,21,22] (by kernel_rfl) (by kernel_rfl) rfl ?_; intro K hK; simp only [push_cast, seval, e1, e2]
      (repeat ((with_reducible refine And.intro ?_ ?_); (focus (exact ob1))))
      refine CallK.pg (fun _ => p66 dx dy (by omega) (by omega)) ?_; simp only [push_cast, seval]; (try simp (disch := omega) only [wrapI]); (repeat ((with_reducible refine And.intro ?_ ?_); (focus (exact ob1))))
      refine CallK.pg (fun _ => p66 bx by' (by omega) (by omega)) ?_; simp only [push_cast, seval]; (try simp (disch := omega) only [wrapI]); (repeat ((with_reducible refine And.intro ?_ ?_); (focus (exact ob1))))
      refine CallK.pg (fun _ => p69 _ _) ?_; simp only [push_cast, seval]; (try simp (disch := omega) only [wrapI]); (repeat ((with_reducible refine And.intro ?_ ?_); (focus (exact ob1))))
      refine CallK.pg (fun _ => p70 _ _ _ _) ?_; simp only [push_cast, seval]; (try simp (disch := omega) only [wrapI]); (repeat ((with_reducible refine And.intro ?_ ?_); (focus (exact ob1))))
      refine CallK.pg (fun _ => p68 [] (by simp)) ?_; simp only [push_cast, seval]; (try simp (disch := omega) only [wrapI]); (repeat ((with_reducible refine And.intro ?_ ?_); (focus (exact ob1))))
      refine hK _ ?_; clear hK; clear K
      apply awp_cond; (focus (simp only [push_cast, seval]; rfl))
      · intro h10; (try simp only [decide_eq_true_eq, decide_eq_false_iff_not, Bool.not_eq_true', Bool.not_eq_false', Bool.and_eq_true, Bool.or_eq_true, Bool.not_eq_true] at h10)
        refine awpF_region ?_; intro K hK; simp only [push_cast, seval]; (try simp (disch := omega) only [wrapI]); (repeat ((with_reducible refine And.intro ?_ ?_); (focus (exact ob1)))); refine hK _ ?_; clear hK; clear K
        refine inblock_norm ?_
        refine round_endG (seen ++ [j], (dx, dy), n) [0, 1, 2, 3] ⟨?_, ?_, ?_⟩
        · dsimp only; rw [List.length_append, List.length_singleton]; omega
        · exact And.intro hnd' (And.intro hlt' (Or.inr (And.intro hcn.symm hbe)))
        · simp only [spV]
          exact ⟨by simp, by simp, by simp [push_cast, seval, esS_ren, esS_frz], by simp [push_cast, seval], by simp [push_cast, seval], by simp [push_cast, seval, esS_bel]⟩
      · intro h10; (try simp only [decide_eq_true_eq, decide_eq_false_iff_not, Bool.not_eq_true', Bool.not_eq_false', Bool.and_eq_true, Bool.or_eq_true, Bool.not_eq_true] at h10)
        cases h10
    by_cases e2 : n = most
    · have e2' : (n == most) = true := by simpa using e2
      have h68 := p68 [cmp3 (far0 dx dy) (far0 bx by'), ord dx dy bx by'] (by simp)
      simp only [List.map_cons, List.map_nil, encI] at h68
      refine awpF_draw [0,1,2,3,4,5,6,7,8,9,11,12,15,16,10,13,14,17,18,19,20,21,22] (by kernel_rfl) (by kernel_rfl) rfl ?_; intro K hK; simp only [push_cast, seval, e1, e2']
      (repeat ((with_reducible refine And.intro ?_ ?_); (focus (exact ob1))))
      refine CallK.pg (fun _ => p66 dx dy (by omega) (by omega)) ?_; simp only [push_cast, seval]; (try simp (disch := omega) only [wrapI]); (repeat ((with_reducible refine And.intro ?_ ?_); (focus (exact ob1))))
      refine CallK.pg (fun _ => p66 bx by' (by omega) (by omega)) ?_; simp only [push_cast, seval]; (try simp (disch := omega) only [wrapI]); (repeat ((with_reducible refine And.intro ?_ ?_); (focus (exact ob1))))
      refine CallK.pg (fun _ => p69 _ _) ?_; simp only [push_cast, seval]; (try simp (disch := omega) only [wrapI]); (repeat ((with_reducible refine And.intro ?_ ?_); (focus (exact ob1))))
      refine CallK.pg (fun _ => p70 _ _ _ _) ?_; simp only [push_cast, seval]; (try simp (disch := omega) only [wrapI]); (repeat ((with_reducible refine And.intro ?_ ?_); (focus (exact ob1))))
      refine CallK.pg (fun _ => h68) ?_; simp only [push_cast, seval]; (try simp (disch := omega) only [wrapI]); (repeat ((with_reducible refine And.intro ?_ ?_); (focus (exact ob1))))
      refine hK _ ?_; clear hK; clear K
      apply awp_cond; (focus (simp only [push_cast, seval]; rfl))
      · intro h10; (try simp only [decide_eq_true_eq, decide_eq_false_iff_not, Bool.not_eq_true', Bool.not_eq_false', Bool.and_eq_true, Bool.or_eq_true, Bool.not_eq_true] at h10)
        simp only [cond_false, cond_true, decide_eq_true_eq, cor_lt] at h10
        have hbe := hnew (hbi.2 (.inr ⟨e2, h10⟩))
        refine awpF_region ?_; intro K hK; simp only [push_cast, seval]; (try simp (disch := omega) only [wrapI]); (repeat ((with_reducible refine And.intro ?_ ?_); (focus (exact ob1)))); refine hK _ ?_; clear hK; clear K
        refine inblock_norm ?_
        refine round_endG (seen ++ [j], (dx, dy), n) [0, 1, 2, 3] ⟨?_, ?_, ?_⟩
        · dsimp only; rw [List.length_append, List.length_singleton]; omega
        · exact And.intro hnd' (And.intro hlt' (Or.inr (And.intro hcn.symm hbe)))
        · simp only [spV]
          exact ⟨by simp, by simp, by simp [push_cast, seval, esS_ren, esS_frz], by simp [push_cast, seval], by simp [push_cast, seval], by simp [push_cast, seval, esS_bel]⟩
      · intro h10; (try simp only [decide_eq_true_eq, decide_eq_false_iff_not, Bool.not_eq_true', Bool.not_eq_false', Bool.and_eq_true, Bool.or_eq_true, Bool.not_eq_true] at h10)
        simp only [cond_false, cond_true, decide_eq_false_iff_not, cor_lt] at h10
        have hno : ¬ better n (dx, dy) most (bx, by') := fun h => by
          rcases hbi.1 h with h | ⟨_, h⟩
          · exact e1 h
          · exact h10 h
        refine awp_skip ?_
        refine inblock_norm ?_
        refine round_endG (seen ++ [j], (bx, by'), most) [0, 1, 2, 3] ⟨?_, ?_, ?_⟩
        · dsimp only; rw [List.length_append, List.length_singleton]; omega
        · exact And.intro hnd' (And.intro hlt' (Or.inr (hold hno)))
        · simp only [spV]
          exact ⟨by simp, by simp, by simp [push_cast, seval, esS_ren, esS_frz], by simp [push_cast, seval], by simp [push_cast, seval], by simp [push_cast, seval, esS_bel]⟩
    · have e2' : (n == most) = false := by simpa using e2
      have hno : ¬ better n (dx, dy) most (bx, by') := fun h => by
        rcases hbi.1 h with h | ⟨h, _⟩
        · exact e1 h
        · exact e2 h
      refine awpF_draw [0,1,2,3,4,5,6,7,8,9,11,12,15,16,10,13,14,17,18,19,20,21,22] (by kernel_rfl) (by kernel_rfl) rfl ?_; intro K hK; simp only [push_cast, seval, e1, e2']
      (repeat ((with_reducible refine And.intro ?_ ?_); (focus (exact ob1))))
      refine CallK.pg (fun _ => p66 dx dy (by omega) (by omega)) ?_; simp only [push_cast, seval]; (try simp (disch := omega) only [wrapI]); (repeat ((with_reducible refine And.intro ?_ ?_); (focus (exact ob1))))
      refine CallK.pg (fun _ => p66 bx by' (by omega) (by omega)) ?_; simp only [push_cast, seval]; (try simp (disch := omega) only [wrapI]); (repeat ((with_reducible refine And.intro ?_ ?_); (focus (exact ob1))))
      refine CallK.pg (fun _ => p69 _ _) ?_; simp only [push_cast, seval]; (try simp (disch := omega) only [wrapI]); (repeat ((with_reducible refine And.intro ?_ ?_); (focus (exact ob1))))
      refine CallK.pg (fun _ => p70 _ _ _ _) ?_; simp only [push_cast, seval]; (try simp (disch := omega) only [wrapI]); (repeat ((with_reducible refine And.intro ?_ ?_); (focus (exact ob1))))
      refine CallK.pg (fun _ => p68 [] (by simp)) ?_; simp only [push_cast, seval]; (try simp (disch := omega) only [wrapI]); (repeat ((with_reducible refine And.intro ?_ ?_); (focus (exact ob1))))
      refine hK _ ?_; clear hK; clear K
      apply awp_cond; (focus (simp only [push_cast, seval]; rfl))
      · intro h10; (try simp only [decide_eq_true_eq, decide_eq_false_iff_not, Bool.not_eq_true', Bool.not_eq_false', Bool.and_eq_true, Bool.or_eq_true, Bool.not_eq_true] at h10)
        cases h10
      · intro h10; (try simp only [decide_eq_true_eq, decide_eq_false_iff_not, Bool.not_eq_true', Bool.not_eq_false', Bool.and_eq_true, Bool.or_eq_true, Bool.not_eq_true] at h10)
        refine awp_skip ?_
        refine inblock_norm ?_
        refine round_endG (seen ++ [j], (bx, by'), most) [0, 1, 2, 3] ⟨?_, ?_, ?_⟩
        · dsimp only; rw [List.length_append, List.length_singleton]; omega
        · exact And.intro hnd' (And.intro hlt' (Or.inr (hold hno)))
        · simp only [spV]
          exact ⟨by simp, by simp, by simp [push_cast, seval, esS_ren, esS_frz], by simp [push_cast, seval], by simp [push_cast, seval], by simp [push_cast, seval, esS_bel]⟩
  · intro h9; (try simp only [decide_eq_true_eq, decide_eq_false_iff_not, Bool.not_eq_true', Bool.not_eq_false', Bool.and_eq_true, Bool.or_eq_true, Bool.not_eq_true] at h9)
    cases h9

end Go.Aw
