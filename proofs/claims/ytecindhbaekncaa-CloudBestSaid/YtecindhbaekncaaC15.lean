/-
  Contract of cloud.Register. Conditions: none (clouds that are not valid are refused).
-/
import Derived.Test.YtecindhbaekncaaC14
import Derived.Test.YtecindhbaekncaaR2
import Derived.DeepKeys4
namespace Go.Aw
set_option linter.unusedSimpArgs false
set_option linter.unusedVariables false
open Go.RowKit Go.Proofs Go.Rg

theorem laidTry : laidOutB Try.prog = true := by kernel_rfl
theorem law34 : WideMaps.KeyLaw Try.prog 34 := deep_law_laid laidTry (m := 2) (by omega) (of_decide_eq_true (by kernel_rfl)) (by kernel_rfl) (by rw [Try.underlying34])
theorem key34 : Maps.Keyed Try.prog 34 := Maps.Keyed.of_law law34

def encSp (d : Sp) : V := .agg (spV d)
/-- The set's entries. -/
def esS (l : List Sp) : List (V × V) := l.map fun d => (encSp d, .d (.bool true))

theorem kc_sp (d : Sp) : kcells (encSp d) = some (true, [(.i64, d.1), (.i64, d.2)]) := rfl
theorem kwf34 {d : Sp} (h : -9223372036854775808 ≤ d.1 ∧ d.1 ≤ 9223372036854775807 ∧ -9223372036854775808 ≤ d.2 ∧ d.2 ≤ 9223372036854775807) : kwf Try.prog 34 (encSp d) := by
  have hk : Try.prog.keyType 34 = true := by kernel_rfl
  have hs : ∃ n, Try.prog.types.size + 1 = n + 2 := ⟨Try.prog.types.size - 1, by
    have : Try.prog.types.size = Try.prog.types.size - 1 + 1 := by kernel_rfl
    omega⟩
  obtain ⟨n, hn⟩ := hs
  have w1 : (Lit.int .i64 d.1).wf = true := by simp only [Lit.wf, IntKind.min, IntKind.max, IntKind.bits, IntKind.signed]; simp; omega
  have w2 : (Lit.int .i64 d.2).wf = true := by simp only [Lit.wf, IntKind.min, IntKind.max, IntKind.bits, IntKind.signed]; simp; omega
  obtain ⟨f0, f1, hu, t0, t1, o0, o1⟩ := und34
  have hnm : (#[f0, f1] : Array Field).all (fun f => f.name != "_") = true := by
    have h1 : (match Try.prog.underlying 34 with | some (.struct fs) => fs.all (fun f => f.name != "_") | _ => false) = true := by kernel_rfl
    rw [hu] at h1
    exact h1
  have e : keyOf Try.prog 34 (.agg #[.int .i64 d.1, .int .i64 d.2]) = some (.string (keyBytes [.int .i64 d.1, .int .i64 d.2])) := by
    simp only [keyOf, hu, hk, hn, Value.formed, cells34, Value.cells]
    simp only [Program.keyLits, hu, t0, t1, o0, o1, cells34, cells2, int2, hnm, w1, w2]
    simp [Program.keyLits, t0, t1, o0, o1, cells2, int2, w1, w2, hnm]
  exact ⟨_, _, kc_sp d, e⟩

theorem esS_find (l : List Sp) (d : Sp) : mfind (esS l) (encSp d) = l.findIdx? fun x => decide (x = d) := by
  induction l with
  | nil => rfl
  | cons x l ih =>
    simp only [mfind, esS, List.map_cons, List.findIdx?_cons, kc_sp] at ih ⊢
    rw [ih]
    by_cases h : x = d
    · subst h; simp
    · have : ¬ (x.1 = d.1 ∧ x.2 = d.2) := fun e => h (Prod.ext e.1 e.2)
      have h1 : ¬ (some (true, [(IntKind.i64, x.1), (IntKind.i64, x.2)]) = some (true, [(IntKind.i64, d.1), (IntKind.i64, d.2)])) := by
        intro e
        simp at e
        exact this e
      simp only [h, h1, decide_false]
theorem esS_put (l : List Sp) (d : Sp) : mput (esS l) (encSp d) (.d (.bool true)) = esS (ins l d) := by
  unfold mput
  rw [esS_find]
  cases h : l.findIdx? fun x => decide (x = d) with
  | none =>
    rw [List.findIdx?_eq_none_iff] at h
    have hd : d ∉ l := fun hd => by simpa using h d hd
    simp [ins, hd, esS]
  | some i =>
    rw [List.findIdx?_eq_some_iff_getElem] at h
    obtain ⟨hi, he, _⟩ := h
    have he : l[i] = d := by simpa using he
    have hd : d ∈ l := he ▸ List.getElem_mem hi
    simp only [ins, hd, if_true]
    apply List.ext_getElem?
    intro j
    simp only [esS, List.getElem?_modify, List.getElem?_map]
    by_cases hj : i = j
    · subst hj
      simp [List.getElem?_eq_getElem hi]
    · simp [hj]
theorem mkS {l : List Sp} (hb : ∀ d, d ∈ l → inW 2000 d) (hd : l.Nodup) : MK Try.prog 34 (esS l) := by
  refine ⟨key34, fun p hp => ?_, ?_⟩
  · obtain ⟨d, hd, rfl⟩ := List.mem_map.1 hp
    have := hb d hd
    simp only [inW] at this
    exact kwf34 (by omega)
  · rw [esS, List.pairwise_map]
    refine hd.imp fun {x y} hxy h => hxy ?_
    simp [kc_sp] at h
    exact Prod.ext h.1 h.2
theorem esS_scr (i : Nat) (l : List Sp) : (esS l).map (fun p => (scr i p.1, scr i p.2)) = esS l := by
  simp only [esS, List.map_map]
  apply List.map_congr_left
  intro d _
  simp [scr, encSp, spV, V.has, V.hasL]
theorem esS_ren (r : List Nat) (l : List Sp) : (esS l).map (fun p => (V.ren r p.1, V.ren r p.2)) = esS l := by
  simp only [esS, List.map_map]
  apply List.map_congr_left
  intro d _
  simp [encSp, spV, V.ren, V.renL]
theorem esS_bel (n : Nat) (l : List Sp) : (esS l).all (fun p => V.bel n p.1 && V.bel n p.2) = true := by
  simp [esS, encSp, spV, V.bel, V.belL]

theorem nd_len : ∀ {n : Nat} {l : List Nat}, l.Nodup → (∀ x, x ∈ l → x < n) → l.length ≤ n := by
  intro n
  induction n with
  | zero => intro l _ h; cases l with
    | nil => simp
    | cons a l => exact absurd (h a (by simp)) (by omega)
  | succ n ih =>
    intro l hd h
    have h1 := ih (l := l.filter (fun x => x != n)) (hd.filter _) (fun x hx => by
      obtain ⟨h2, h3⟩ := List.mem_filter.1 hx
      have := h x h2
      simp at h3
      omega)
    have h2 : l.length ≤ (l.filter (fun x => x != n)).length + 1 := by
      clear h1 ih h
      induction l with
      | nil => simp
      | cons a l ih =>
        rw [List.nodup_cons] at hd
        by_cases ha : a = n
        · subst ha
          have : (a :: l).filter (fun x => x != a) = l := by
            rw [List.filter_cons]
            simp only [bne_self_eq_false, Bool.false_eq_true, if_false]
            exact List.filter_eq_self.2 fun x hx => by simp; rintro rfl; exact hd.1 hx
          rw [this]
          simp
        · have : (a :: l).filter (fun x => x != n) = a :: l.filter (fun x => x != n) := by
            rw [List.filter_cons]; simp [ha]
          rw [this]
          have := ih hd.2
          simp; omega
    omega

end Go.Aw
