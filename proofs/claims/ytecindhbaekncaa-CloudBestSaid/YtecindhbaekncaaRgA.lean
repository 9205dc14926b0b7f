/-
  The best of a list of shifts: what both sides of CloudRegisters look for. Plain definitions and lemmas; no condition.
-/
import Derived.Test.YtecindhbaekncaaC13
namespace Go.Rg
set_option linter.unusedSimpArgs false
set_option linter.unusedVariables false
open Go.Aw

abbrev Sp := Int × Int

/-- n matches at d are better than m matches at e. -/
def better (n : Int) (d : Sp) (m : Int) (e : Sp) : Prop := n > m ∨ n = m ∧ (far0 d.1 d.2 < far0 e.1 e.2 ∨ far0 d.1 d.2 = far0 e.1 e.2 ∧ (d.1 < e.1 ∨ d.1 = e.1 ∧ d.2 < e.2))

instance (n : Int) (d : Sp) (m : Int) (e : Sp) : Decidable (better n d m e) := by unfold better; infer_instance

theorem better_irrefl (n : Int) (d : Sp) : ¬ better n d n d := by unfold better; omega
theorem better_trans {n m k : Int} {d e f : Sp} (h1 : better n d m e) (h2 : better m e k f) : better n d k f := by
  unfold better at *; omega
theorem better_total {n m : Int} {d e : Sp} (h1 : ¬ better n d m e) (h2 : ¬ better m e n d) : n = m ∧ d = e := by
  unfold better at *
  have h3 : d.1 = e.1 := by omega
  have h4 : d.2 = e.2 := by omega
  exact ⟨by omega, Prod.ext h3 h4⟩

def Best (c : Sp → Int) (l : List Sp) (d : Sp) : Prop := d ∈ l ∧ ∀ e, e ∈ l → ¬ better (c e) e (c d) d

theorem Best.unique {c : Sp → Int} {l l' : List Sp} {d e : Sp} (h1 : Best c l d) (h2 : Best c l' e) (h : ∀ x, x ∈ l ↔ x ∈ l') : d = e :=
  (better_total (h2.2 d ((h d).1 h1.1)) (h1.2 e ((h e).2 h2.1))).2
theorem Best.one (c : Sp → Int) (d : Sp) : Best c [d] d := ⟨by simp, fun e he => by simp at he; subst he; exact better_irrefl _ _⟩
theorem Best.same {c : Sp → Int} {l l' : List Sp} {d : Sp} (h1 : Best c l d) (h : ∀ x, x ∈ l' ↔ x ∈ l) : Best c l' d := ⟨(h d).2 h1.1, fun e he => h1.2 e ((h e).1 he)⟩
theorem Best.snoc_new {c : Sp → Int} {l : List Sp} {d e : Sp} (h : Best c l d) (hb : better (c e) e (c d) d) : Best c (l ++ [e]) e := by
  refine ⟨by simp, fun x hx => ?_⟩
  rcases List.mem_append.1 hx with hx | hx
  · exact fun hn => h.2 x hx (better_trans hn hb)
  · simp at hx; subst hx; exact better_irrefl _ _
theorem Best.snoc_old {c : Sp → Int} {l : List Sp} {d e : Sp} (h : Best c l d) (hb : ¬ better (c e) e (c d) d) : Best c (l ++ [e]) d := by
  refine ⟨by simp [h.1], fun x hx => ?_⟩
  rcases List.mem_append.1 hx with hx | hx
  · exact h.2 x hx
  · simp at hx; subst hx; exact hb

def bestOf (c : Sp → Int) : List Sp → Sp → Sp
  | [], d => d
  | e :: l, d => bestOf c l (if better (c e) e (c d) d then e else d)
theorem bestOf_best (c : Sp → Int) : ∀ (l s : List Sp) (d : Sp), Best c s d → Best c (s ++ l) (bestOf c l d)
  | [], s, d, h => by simpa [bestOf] using h
  | e :: l, s, d, h => by
    have : s ++ e :: l = (s ++ [e]) ++ l := by simp
    rw [this, bestOf]
    apply bestOf_best
    split
    · rename_i hb; exact h.snoc_new hb
    · rename_i hb; exact h.snoc_old hb

/-- In the window. -/
def inW (w : Int) (d : Sp) : Prop := -w ≤ d.1 ∧ d.1 ≤ w ∧ -w ≤ d.2 ∧ d.2 ≤ w
instance (w : Int) (d : Sp) : Decidable (inW w d) := by unfold inW; infer_instance
def diff (p q : Pt) : Sp := (p.1 - q.1, p.2.1 - q.2.1)
/-- The candidates, as far as the loops have come. -/
def row (w : Int) (p : Pt) (b : List Pt) : List Sp := (b.map (diff p)).filter fun d => decide (inW w d)
def cands (w : Int) (a b : List Pt) : List Sp := (0, 0) :: a.flatMap fun p => row w p b

theorem row_snoc (w : Int) (p q : Pt) (b : List Pt) : row w p (b ++ [q]) = row w p b ++ (if inW w (diff p q) then [diff p q] else []) := by
  simp only [row, List.map_append, List.filter_append, List.map_cons, List.map_nil, List.filter_cons, List.filter_nil]
  congr 1
  by_cases h : inW w (diff p q) <;> simp [h]
theorem cands_snoc (w : Int) (a b : List Pt) (p : Pt) : cands w (a ++ [p]) b = cands w a b ++ row w p b := by
  simp [cands, List.flatMap_append]

/-- As far as the loops have come: all of the first i, and of the next one the first k. -/
def upto (w : Int) (a b : List Pt) (i k : Nat) : List Sp := cands w (a.take i) b ++ (match a[i]? with | some p => row w p (b.take k) | none => [])
theorem upto_zero (w : Int) (a b : List Pt) (i : Nat) : upto w a b i 0 = cands w (a.take i) b := by
  unfold upto
  split <;> simp [row]
theorem upto_end {w : Int} {a b : List Pt} {i : Nat} (h : i < a.length) : upto w a b i b.length = cands w (a.take (i + 1)) b := by
  unfold upto
  rw [List.getElem?_eq_getElem h, List.take_length, List.take_add_one, List.getElem?_eq_getElem h]
  simp only [Option.toList]
  rw [cands_snoc]
theorem upto_in {w : Int} {a b : List Pt} {i k : Nat} {p q : Pt} (hp : a[i]? = some p) (hq : b[k]? = some q) (h : inW w (diff p q)) : upto w a b i (k + 1) = upto w a b i k ++ [diff p q] := by
  simp only [upto, hp, List.take_add_one, hq, Option.toList]
  rw [row_snoc, if_pos h, List.append_assoc]
theorem upto_out {w : Int} {a b : List Pt} {i k : Nat} {p q : Pt} (hp : a[i]? = some p) (hq : b[k]? = some q) (h : ¬ inW w (diff p q)) : upto w a b i (k + 1) = upto w a b i k := by
  simp only [upto, hp, List.take_add_one, hq, Option.toList]
  rw [row_snoc, if_neg h, List.append_nil]
theorem cands_bnd {w : Int} (hw : 0 ≤ w) {a b : List Pt} {d : Sp} (h : d ∈ cands w a b) : inW w d := by
  simp only [cands, List.mem_cons, List.mem_flatMap, row, List.mem_filter] at h
  rcases h with rfl | ⟨p, _, _, h⟩
  · unfold inW; omega
  · exact of_decide_eq_true h
theorem upto_bnd {w : Int} (hw : 0 ≤ w) {a b : List Pt} {i k : Nat} {d : Sp} (h : d ∈ upto w a b i k) : inW w d := by
  unfold upto at h
  rcases List.mem_append.1 h with h | h
  · exact cands_bnd hw h
  · split at h
    · simp only [row, List.mem_filter] at h; exact of_decide_eq_true h.2
    · cases h

/-- The set of shifts, as a list without repetition. -/
def ins (l : List Sp) (d : Sp) : List Sp := if d ∈ l then l else l ++ [d]
theorem mem_ins {l : List Sp} {d e : Sp} : e ∈ ins l d ↔ e ∈ l ∨ e = d := by
  unfold ins
  split
  · rename_i h; constructor
    · exact .inl
    · rintro (h1 | rfl)
      · exact h1
      · exact h
  · simp
theorem nd_ins {l : List Sp} {d : Sp} (h : l.Nodup) : (ins l d).Nodup := by
  unfold ins
  split
  · exact h
  · rename_i hd
    rw [List.nodup_append]
    exact ⟨h, by simp, fun a ha b hb => by simp at hb; subst hb; rintro rfl; exact hd ha⟩
def insAll (l : List Sp) : List Sp → List Sp
  | [] => l
  | d :: r => insAll (ins l d) r
def setOf (l : List Sp) : List Sp := l.foldl ins []
theorem setOf_snoc (l : List Sp) (d : Sp) : setOf (l ++ [d]) = ins (setOf l) d := by simp [setOf]
theorem mem_setOf (d : Sp) : ∀ (l : List Sp), d ∈ setOf l ↔ d ∈ l := by
  have key : ∀ (l s : List Sp), d ∈ l.foldl ins s ↔ d ∈ s ∨ d ∈ l := by
    intro l
    induction l with
    | nil => intro s; simp
    | cons x l ih => intro s; simp only [List.foldl_cons, ih, mem_ins, List.mem_cons, or_assoc]
  intro l
  simp [setOf, key]
theorem nd_setOf (l : List Sp) : (setOf l).Nodup := by
  have key : ∀ (l s : List Sp), s.Nodup → (l.foldl ins s).Nodup := by
    intro l
    induction l with
    | nil => intro s h; exact h
    | cons x l ih => intro s h; exact ih _ (nd_ins h)
  exact key l [] List.nodup_nil
theorem len_setOf (l : List Sp) : (setOf l).length ≤ l.length := by
  have key : ∀ (l s : List Sp), (l.foldl ins s).length ≤ s.length + l.length := by
    intro l
    induction l with
    | nil => intro s; simp
    | cons x l ih =>
      intro s
      have := ih (ins s x)
      have h2 : (ins s x).length ≤ s.length + 1 := by unfold ins; split <;> simp
      simp only [List.foldl_cons, List.length_cons]
      omega
  simpa [setOf] using key l []

end Go.Rg
