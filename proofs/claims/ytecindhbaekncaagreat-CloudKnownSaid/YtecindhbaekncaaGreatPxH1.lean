/-
  Plain laws of hulls: the chains over sorted spots, what a hull is, that there is one only, areas, shifts. No condition.
-/
import Derived.Test.YtecindhbaekncaaGreatPcD
namespace Go.Aw
set_option linter.unusedSimpArgs false
set_option linter.unusedVariables false
open Go.Rg

def cr (a b c : Sp) : Int := (b.1 - a.1) * (c.2 - a.2) - (b.2 - a.2) * (c.1 - a.1)
def okE (a b c : Sp) : Prop := c = a ∨ c = b ∨ 0 < cr a b c ∨ (cr a b c = 0 ∧ ltS a c ∧ ltS c b)
def popH (p : Sp) : List Sp → List Sp
  | b :: a :: s => if cr a b p ≤ 0 then popH p (a :: s) else b :: a :: s
  | s => s
def chainR (l : List Sp) : List Sp := l.foldl (fun s p => p :: popH p s) []
def okS (P : Sp → Prop) : List Sp → Prop
  | b :: a :: s => (∀ r, P r → okE a b r) ∧ okS P (a :: s)
  | _ => True
theorem okE_ge {a b c : Sp} (h : okE a b c) : 0 ≤ cr a b c := by
  rcases h with rfl | rfl | h | h
  · have : cr c b c = 0 := by unfold cr; grind
    omega
  · have : cr a c c = 0 := by unfold cr; grind
    omega
  · omega
  · omega
theorem lex_pos {x y k : Int} (h : x > 0 ∨ x = 0 ∧ y > 0) (h1 : k * x ≥ 0) (h2 : x = 0 → k * y ≥ 0) : 0 ≤ k := by
  rcases Int.lt_or_le k 0 with h3 | h3
  · rcases h with h | ⟨h, h'⟩
    · have := Int.mul_neg_of_neg_of_pos h3 h
      omega
    · have := Int.mul_neg_of_neg_of_pos h3 h'
      have := h2 h
      omega
  · exact h3
theorem lex_pos' {x y k : Int} (h : x > 0 ∨ x = 0 ∧ y > 0) (h1 : k * x ≥ 0) (h2 : k * x = 0 → x = 0 ∧ k * y > 0) : 0 < k := by
  rcases Int.lt_or_le 0 k with h3 | h3
  · exact h3
  · rcases h with h | ⟨h, h'⟩
    · have h4 : k * x ≤ 0 := Int.mul_nonpos_of_nonpos_of_nonneg h3 (by omega)
      have := h2 (by omega)
      omega
    · subst h
      have := (h2 (by omega)).2
      have h4 : k * y ≤ 0 := Int.mul_nonpos_of_nonpos_of_nonneg h3 (by omega)
      omega
theorem turn_ge {a b p r : Sp} (h1 : ltS a b) (h2 : ltS a p) (h3 : ltS a r) (h4 : cr a b p ≤ 0) (h5 : 0 ≤ cr a b r) : 0 ≤ cr a p r := by
  unfold ltS at h1 h2 h3
  have e1 : cr a p r * (b.1 - a.1) = cr a b r * (p.1 - a.1) + (- cr a b p) * (r.1 - a.1) := by unfold cr; grind
  have e2 : cr a p r * (b.2 - a.2) = cr a b r * (p.2 - a.2) + (- cr a b p) * (r.2 - a.2) := by unfold cr; grind
  have n1 : 0 ≤ cr a b r * (p.1 - a.1) := Int.mul_nonneg h5 (by omega)
  have n2 : 0 ≤ (- cr a b p) * (r.1 - a.1) := Int.mul_nonneg (by omega) (by omega)
  refine lex_pos (x := b.1 - a.1) (y := b.2 - a.2) (by omega) (by omega) fun hx => ?_
  rw [hx, Int.mul_zero] at e1
  have z1 : cr a b r * (p.1 - a.1) = 0 := by omega
  have z2 : (- cr a b p) * (r.1 - a.1) = 0 := by omega
  rw [e2]
  have m1 : 0 ≤ cr a b r * (p.2 - a.2) := by
    rcases Int.mul_eq_zero.1 z1 with h | h
    · rw [h]; omega
    · exact Int.mul_nonneg h5 (by omega)
  have m2 : 0 ≤ (- cr a b p) * (r.2 - a.2) := by
    rcases Int.mul_eq_zero.1 z2 with h | h
    · rw [h]; omega
    · exact Int.mul_nonneg (by omega) (by omega)
  omega
theorem turn_gt {t' t p r : Sp} (h1 : ltS t' t) (h2 : ltS t p) (h3 : ltS r t) (h4 : 0 < cr t' t p) (h5 : 0 ≤ cr t' t r) : 0 < cr t p r := by
  unfold ltS at h1 h2 h3
  have e1 : cr t p r * (t.1 - t'.1) = cr t' t r * (p.1 - t.1) + cr t' t p * (t.1 - r.1) := by unfold cr; grind
  have e2 : cr t p r * (t.2 - t'.2) = cr t' t r * (p.2 - t.2) + cr t' t p * (t.2 - r.2) := by unfold cr; grind
  have n1 : 0 ≤ cr t' t r * (p.1 - t.1) := Int.mul_nonneg h5 (by omega)
  have n2 : 0 ≤ cr t' t p * (t.1 - r.1) := Int.mul_nonneg (by omega) (by omega)
  refine lex_pos' (x := t.1 - t'.1) (y := t.2 - t'.2) (by omega) (by omega) fun hx => ?_
  have z1 : cr t' t r * (p.1 - t.1) = 0 := by omega
  have z2 : cr t' t p * (t.1 - r.1) = 0 := by omega
  have z3 : t.1 - r.1 = 0 := by
    rcases Int.mul_eq_zero.1 z2 with h | h
    · omega
    · exact h
  rw [hx] at e1
  have k0 : 0 < cr t' t p * (t.2 - r.2) := Int.mul_pos h4 (by omega)
  have k1 : 0 ≤ cr t' t r * (p.2 - t.2) := by
    rcases Int.mul_eq_zero.1 z1 with h | h
    · rw [h]; omega
    · exact Int.mul_nonneg h5 (by omega)
  refine ⟨?_, by omega⟩
  rcases Int.mul_eq_zero.1 hx with h | h
  · rw [h, Int.zero_mul] at e2; omega
  · exact h
theorem turn_on {x y z p : Sp} (h1 : ltS x y) (h2 : ltS y z) (h3 : ltS z p) (h4 : 0 < cr x y z) (h5 : 0 < cr y z p) : 0 < cr x y p := by
  have h3' : ltS y p := ltS_trans h2 h3
  unfold ltS at h1 h2 h3'
  have e1 : cr x y p * (z.1 - y.1) = cr y z p * (y.1 - x.1) + cr x y z * (p.1 - y.1) := by unfold cr; grind
  have e2 : cr x y p * (z.2 - y.2) = cr y z p * (y.2 - x.2) + cr x y z * (p.2 - y.2) := by unfold cr; grind
  have n1 : 0 ≤ cr y z p * (y.1 - x.1) := Int.mul_nonneg (by omega) (by omega)
  have n2 : 0 ≤ cr x y z * (p.1 - y.1) := Int.mul_nonneg (by omega) (by omega)
  refine lex_pos' (x := z.1 - y.1) (y := z.2 - y.2) (by omega) (by omega) fun hx => ?_
  have z1 : cr y z p * (y.1 - x.1) = 0 := by omega
  have z2 : cr x y z * (p.1 - y.1) = 0 := by omega
  have z3 : y.1 - x.1 = 0 := by
    rcases Int.mul_eq_zero.1 z1 with h | h
    · omega
    · exact h
  have z4 : p.1 - y.1 = 0 := by
    rcases Int.mul_eq_zero.1 z2 with h | h
    · omega
    · exact h
  have k0 : 0 < cr y z p * (y.2 - x.2) := Int.mul_pos h5 (by omega)
  have k1 : 0 < cr x y z * (p.2 - y.2) := Int.mul_pos h4 (by omega)
  refine ⟨?_, by omega⟩
  rcases Int.mul_eq_zero.1 hx with h | h
  · rw [h, Int.zero_mul] at e2; omega
  · exact h

def invS (P : List Sp) (s : List Sp) : Prop :=
  s.Pairwise (fun b a => ltS a b) ∧ okS (· ∈ P) s ∧ (∀ r, r ∈ s → r ∈ P) ∧ (∀ t, s.getLast? = some t → ∀ r, r ∈ P → r = t ∨ ltS t r)
theorem popH_inv {P : List Sp} {p : Sp} (hp : ∀ r, r ∈ P → ltS r p) : ∀ {s : List Sp}, invS P s → (∀ t, s.head? = some t → ∀ r, r ∈ P → ltS t r → 0 ≤ cr t p r) →
    invS P (popH p s) ∧ (∀ t, (popH p s).head? = some t → ∀ r, r ∈ P → ltS t r → 0 ≤ cr t p r) ∧
    (∀ b a s', popH p s = b :: a :: s' → 0 < cr a b p) ∧ ((popH p s).getLast? = s.getLast?)
  | [], h1, h2 => ⟨h1, h2, fun _ _ _ h => (by cases h), rfl⟩
  | [b], h1, h2 => ⟨h1, h2, fun _ _ _ h => (by cases h), rfl⟩
  | b :: a :: s, h1, h2 => by
    simp only [popH]
    split
    · rename_i hc
      obtain ⟨i1, i2, i3, i4⟩ := h1
      have hab : ltS a b := (List.pairwise_cons.1 i1).1 a (by simp)
      have hbP := i3 b (by simp)
      have haP := i3 a (by simp)
      have := popH_inv (s := a :: s) hp ⟨(List.pairwise_cons.1 i1).2, i2.2, fun r hr => i3 r (List.mem_cons_of_mem _ hr), fun t ht => i4 t (by rw [List.getLast?_cons_cons]; exact ht)⟩ fun t ht r hr hlt => by
        simp only [List.head?_cons, Option.some.injEq] at ht
        subst ht
        exact turn_ge hab (hp _ haP) hlt hc (okE_ge (i2.1 r hr))
      rw [List.getLast?_cons_cons]
      exact this
    · rename_i hc
      refine ⟨h1, h2, fun b' a' s' h => ?_, rfl⟩
      injection h with h3 h4
      injection h4 with h4 h5
      subst h3; subst h4
      omega
theorem okS_left {P : List Sp} {p : Sp} (hp : ∀ r, r ∈ P → ltS r p) : ∀ {s : List Sp}, s.Pairwise (fun b a => ltS a b) → okS (· ∈ P) s → (∀ r, r ∈ s → r ∈ P) → (∀ b a s', s = b :: a :: s' → 0 < cr a b p) → okS (· ∈ p :: P) s
  | [], _, _, _, _ => trivial
  | [b], _, _, _, _ => trivial
  | [b, a], _, h2, _, h4 => by
    refine ⟨fun r hr => ?_, trivial⟩
    rcases List.mem_cons.1 hr with rfl | hr
    · exact .inr (.inr (.inl (h4 _ _ _ rfl)))
    · exact h2.1 r hr
  | b :: a :: c :: s, h1, h2, h3, h4 => by
    have hab : ltS a b := (List.pairwise_cons.1 h1).1 a (by simp)
    have h1' := (List.pairwise_cons.1 h1).2
    have hca : ltS c a := (List.pairwise_cons.1 h1').1 c (by simp)
    refine ⟨fun r hr => ?_, okS_left hp h1' h2.2 (fun r hr => h3 r (List.mem_cons_of_mem _ hr)) fun b' a' s' h => ?_⟩
    · rcases List.mem_cons.1 hr with rfl | hr
      · exact .inr (.inr (.inl (h4 _ _ _ rfl)))
      · exact h2.1 r hr
    · injection h with e1 h
      injection h with e2 h
      subst e1; subst e2
      have hb : 0 < cr c a b := by
        rcases h2.2.1 b (h3 b (by simp)) with h | h | h | h
        · subst h; exact absurd (ltS_trans hca hab) (ltS_irrefl _)
        · subst h; exact absurd hab (ltS_irrefl _)
        · exact h
        · exact absurd (ltS_trans hab h.2.2) (ltS_irrefl _)
      exact turn_on hca hab (hp _ (h3 b (by simp))) hb (h4 _ _ _ rfl)
theorem push_inv {P : List Sp} {p : Sp} (hp : ∀ r, r ∈ P → ltS r p) {s : List Sp} (hs : invS P s) (hne : s = [] → P = []) (hh : ∀ t, s.head? = some t → ∀ r, r ∈ P → ltS t r → 0 ≤ cr t p r) :
    invS (p :: P) (p :: popH p s) := by
  obtain ⟨⟨i1, i2, i3, i4⟩, h2, h3, h4⟩ := popH_inv hp hs hh
  have hl := okS_left hp i1 i2 i3 h3
  generalize popH p s = q at *
  refine ⟨List.pairwise_cons.2 ⟨fun r hr => hp r (i3 r hr), i1⟩, ?_, fun r hr => ?_, fun t ht r hr => ?_⟩
  · cases q with
    | nil => trivial
    | cons t q =>
      refine ⟨fun r hr => ?_, hl⟩
      rcases List.mem_cons.1 hr with rfl | hr
      · exact .inr (.inl rfl)
      by_cases e : r = t
      · exact .inl e
      have htp := hp t (i3 t (by simp))
      by_cases hlt : ltS t r
      · have := h2 t rfl r hr hlt
        rcases Int.lt_or_eq_of_le this with h | h
        · exact .inr (.inr (.inl h))
        · exact .inr (.inr (.inr ⟨h.symm, hlt, hp r hr⟩))
      · have hrt : ltS r t := Classical.not_not.1 fun h => e (ltS_tri h hlt)
        cases q with
        | nil =>
          rcases i4 t rfl r hr with h | h
          · exact absurd h e
          · exact absurd h hlt
        | cons t' q =>
          refine .inr (.inr (.inl (turn_gt ((List.pairwise_cons.1 i1).1 t' (by simp)) htp hrt (h3 _ _ _ rfl) (okE_ge (i2.1 r hr)))))
  · rcases List.mem_cons.1 hr with rfl | hr
    · exact List.mem_cons_self
    · exact List.mem_cons_of_mem _ (i3 r hr)
  · cases q with
    | nil =>
      have : s = [] := by
        cases s with
        | nil => rfl
        | cons a s => exact absurd (List.getLast?_eq_none_iff.1 h4.symm) (by simp)
      rw [hne this] at hr
      simp only [List.getLast?_singleton, Option.some.injEq] at ht
      subst ht
      left
      simpa using hr
    | cons a q =>
      rw [List.getLast?_cons_cons] at ht
      rcases List.mem_cons.1 hr with rfl | hr
      · exact .inr (hp t (i3 t (List.mem_of_getLast? ht)))
      · exact i4 t ht r hr
theorem chainR_snoc (l : List Sp) (p : Sp) : chainR (l ++ [p]) = p :: popH p (chainR l) := by
  simp [chainR, List.foldl_append]
theorem snoc_ind {α : Type} {M : List α → Prop} (h0 : M []) (h1 : ∀ l a, M l → M (l ++ [a])) (l : List α) : M l := by
  have h : ∀ r : List α, M r.reverse := by
    intro r
    induction r with
    | nil => exact h0
    | cons a r ih => rw [List.reverse_cons]; exact h1 _ _ ih
  have := h l.reverse
  rwa [List.reverse_reverse] at this
theorem chainR_inv : ∀ {l : List Sp}, l.Pairwise ltS → invS l.reverse (chainR l) ∧ (chainR l).head? = l.getLast? := by
  intro l
  induction l using snoc_ind with
  | h0 => intro _; exact ⟨⟨List.Pairwise.nil, trivial, fun _ h => h, fun _ h => (by cases h)⟩, rfl⟩
  | h1 l p ih =>
    intro h
    rw [List.pairwise_append] at h
    obtain ⟨ih, ih2⟩ := ih h.1
    rw [chainR_snoc, List.reverse_append]
    refine ⟨push_inv (fun r hr => h.2.2 r (List.mem_reverse.1 hr) p (by simp)) ih (fun he => ?_) fun t ht r hr hlt => ?_, ?_⟩
    · rw [he] at ih2
      simp only [List.head?_nil] at ih2
      rw [List.getLast?_eq_none_iff.1 ih2.symm]
      rfl
    · rw [ih2] at ht
      obtain ⟨l', rfl⟩ := List.getLast?_eq_some_iff.1 ht
      rw [List.reverse_append] at hr
      rcases List.mem_cons.1 hr with rfl | hr
      · exact absurd hlt (ltS_irrefl _)
      · exact absurd (ltS_trans hlt ((List.pairwise_append.1 h.1).2.2 r (List.mem_reverse.1 hr) t (by simp))) (ltS_irrefl _)
    · simp
def negS (p : Sp) : Sp := (-p.1, -p.2)
def ddS (a b : Sp) : Int := (b.1 - a.1) * (b.1 - a.1) + (b.2 - a.2) * (b.2 - a.2)
def btwS (a b c : Sp) : Prop := (ltS a c ∧ ltS c b) ∨ (ltS b c ∧ ltS c a)
def okB (a b r : Sp) : Prop := r = a ∨ r = b ∨ 0 < cr a b r ∨ (cr a b r = 0 ∧ btwS a b r)
def Nx (S : List Sp) (a b : Sp) : Prop := b ∈ S ∧ b ≠ a ∧ ∀ r, r ∈ S → okB a b r
def pathE (P : Sp → Sp → Prop) : List Sp → Prop
  | a :: b :: l => P a b ∧ pathE P (b :: l)
  | _ => True
def isHull (S H : List Sp) : Prop :=
  (S = [] ∧ H = []) ∨ (∃ p, H = [p] ∧ p ∈ S ∧ ∀ r, r ∈ S → r = p) ∨
  (∃ h t, H = h :: t ∧ t ≠ [] ∧ h ∈ S ∧ (∀ r, r ∈ S → r = h ∨ ltS h r) ∧ pathE (Nx S) (h :: (t ++ [h])) ∧ h ∉ t)

theorem cr_neg (a b c : Sp) : cr (negS a) (negS b) (negS c) = cr a b c := by unfold cr negS; grind
theorem cr_swap (a b c : Sp) : cr a c b = - cr a b c := by unfold cr; grind
theorem negS_neg (p : Sp) : negS (negS p) = p := by unfold negS; simp
theorem negS_lt {a b : Sp} : ltS (negS a) (negS b) ↔ ltS b a := by unfold ltS negS; dsimp only; omega
theorem negS_inj {a b : Sp} (h : negS a = negS b) : a = b := by rw [← negS_neg a, h, negS_neg]
theorem sqM {a b : Int} (h1 : 0 ≤ a) (h2 : a ≤ b) : a * a ≤ b * b := Int.mul_le_mul h2 h2 h1 (by omega)
theorem sqS {a b : Int} (h1 : 0 ≤ a) (h2 : a < b) : a * a < b * b := by
  have h3 := sqM h1 (show a ≤ b - 1 by omega)
  have h4 : b * b = (b - 1) * (b - 1) + 2 * b - 1 := by grind
  omega
theorem btw_box {a b r : Sp} (h0 : cr a b r = 0) (h1 : ltS a r) (h2 : ltS r b) :
    a.1 ≤ r.1 ∧ r.1 ≤ b.1 ∧ ((a.2 ≤ r.2 ∧ r.2 ≤ b.2) ∨ (b.2 ≤ r.2 ∧ r.2 ≤ a.2)) ∧ ddS a r < ddS a b := by
  have e : (b.1 - a.1) * (r.2 - a.2) = (b.2 - a.2) * (r.1 - a.1) := by unfold cr at h0; omega
  have h3 := ltS_trans h1 h2
  unfold ltS at h1 h2 h3
  unfold ddS
  by_cases hx : a.1 = b.1
  · have s := sqS (a := r.2 - a.2) (b := b.2 - a.2) (by omega) (by omega)
    have e1 : r.1 - a.1 = b.1 - a.1 := by omega
    rw [e1]
    exact ⟨by omega, by omega, by omega, by omega⟩
  · have hX : 0 < b.1 - a.1 := by omega
    have hr0 : 0 ≤ r.1 - a.1 := by omega
    have hr1 : r.1 - a.1 ≤ b.1 - a.1 := by omega
    have hr2 : r.1 - a.1 < b.1 - a.1 := by
      rcases Int.lt_or_eq_of_le hr1 with h | h
      · exact h
      · exfalso
        rw [h, Int.mul_comm (b.2 - a.2)] at e
        have := Int.eq_of_mul_eq_mul_left (by omega) e
        omega
    have s1 := sqS hr0 hr2
    rcases Int.le_total a.2 b.2 with hy | hy
    · have n1 : 0 ≤ (b.2 - a.2) * (r.1 - a.1) := Int.mul_nonneg (by omega) hr0
      have n2 : (b.2 - a.2) * (r.1 - a.1) ≤ (b.2 - a.2) * (b.1 - a.1) := Int.mul_le_mul_of_nonneg_left hr1 (by omega)
      have g1 : 0 ≤ r.2 - a.2 := by
        rcases Int.lt_or_le (r.2 - a.2) 0 with h | h
        · have := Int.mul_neg_of_pos_of_neg hX h
          omega
        · exact h
      have g2 : r.2 - a.2 ≤ b.2 - a.2 := by
        rw [Int.mul_comm (b.2 - a.2) (b.1 - a.1), ← e] at n2
        exact Int.le_of_mul_le_mul_left n2 hX
      have s2 := sqM g1 g2
      exact ⟨by omega, by omega, by omega, by omega⟩
    · have n1 : 0 ≤ (a.2 - b.2) * (r.1 - a.1) := Int.mul_nonneg (by omega) hr0
      have n2 : (a.2 - b.2) * (r.1 - a.1) ≤ (a.2 - b.2) * (b.1 - a.1) := Int.mul_le_mul_of_nonneg_left hr1 (by omega)
      have e' : (b.1 - a.1) * (a.2 - r.2) = (a.2 - b.2) * (r.1 - a.1) := by grind
      have g1 : 0 ≤ a.2 - r.2 := by
        rcases Int.lt_or_le (a.2 - r.2) 0 with h | h
        · have := Int.mul_neg_of_pos_of_neg hX h
          omega
        · exact h
      have g2 : a.2 - r.2 ≤ a.2 - b.2 := by
        rw [Int.mul_comm (a.2 - b.2) (b.1 - a.1), ← e'] at n2
        exact Int.le_of_mul_le_mul_left n2 hX
      have s2 := sqM g1 g2
      have s3 : (r.2 - a.2) * (r.2 - a.2) = (a.2 - r.2) * (a.2 - r.2) := by grind
      have s4 : (b.2 - a.2) * (b.2 - a.2) = (a.2 - b.2) * (a.2 - b.2) := by grind
      exact ⟨by omega, by omega, by omega, by omega⟩
theorem btw_near {a b r : Sp} (h0 : cr a b r = 0) (h : btwS a b r) : ddS a r < ddS a b := by
  rcases h with h | h
  · exact (btw_box h0 h.1 h.2).2.2.2
  · have := (btw_box (a := negS a) (b := negS b) (r := negS r) (by rw [cr_neg]; exact h0) (negS_lt.2 h.2) (negS_lt.2 h.1)).2.2.2
    have e1 : ∀ x y, ddS (negS x) (negS y) = ddS x y := fun x y => by unfold ddS negS; grind
    rwa [e1, e1] at this
theorem nx_uniq {S : List Sp} {a b c : Sp} (h1 : Nx S a b) (h2 : Nx S a c) : b = c := by
  by_cases h : b = c
  · exact h
  exfalso
  obtain ⟨b1, b2, b3⟩ := h1
  obtain ⟨c1, c2, c3⟩ := h2
  have e := cr_swap a b c
  rcases b3 c c1 with h3 | h3 | h3 | ⟨h3, h4⟩
  · exact c2 h3
  · exact h h3.symm
  all_goals
    rcases c3 b b1 with h5 | h5 | h5 | ⟨h5, h6⟩
    · exact b2 h5
    · exact h h5
    · omega
    · first
      | omega
      | (have := btw_near h3 h4
         have := btw_near h5 h6
         omega)
theorem pathE_uniq {P : Sp → Sp → Prop} (hP : ∀ a b c, P a b → P a c → b = c) {e : Sp} : ∀ {a : Sp} {t u : List Sp}, pathE P (a :: (t ++ [e])) → e ∉ t → pathE P (a :: (u ++ [e])) → e ∉ u → t = u
  | a, [], [], _, _, _, _ => rfl
  | a, [], y :: u, h1, _, h3, h4 => by
    have := hP a e y h1.1 h3.1
    subst this
    simp at h4
  | a, x :: t, [], h1, h2, h3, _ => by
    have := hP a x e h1.1 h3.1
    subst this
    simp at h2
  | a, x :: t, y :: u, h1, h2, h3, h4 => by
    have := hP a x y h1.1 h3.1
    subst this
    rw [pathE_uniq hP (a := x) h1.2 (fun h => h2 (List.mem_cons_of_mem _ h)) h3.2 fun h => h4 (List.mem_cons_of_mem _ h)]
theorem pathE_imp {P Q : Sp → Sp → Prop} : ∀ {l : List Sp}, (∀ a b, a ∈ l → b ∈ l → P a b → Q a b) → pathE P l → pathE Q l
  | [], _, _ => trivial
  | [_], _, _ => trivial
  | a :: b :: l, h, h1 => ⟨h a b (by simp) (by simp) h1.1, pathE_imp (l := b :: l) (fun x y hx hy => h x y (List.mem_cons_of_mem _ hx) (List.mem_cons_of_mem _ hy)) h1.2⟩
theorem pathE_app {P : Sp → Sp → Prop} {m : Sp} {r : List Sp} : ∀ {l : List Sp}, pathE P (l ++ [m]) → pathE P (m :: r) → pathE P (l ++ m :: r)
  | [], _, h2 => h2
  | [a], h1, h2 => ⟨h1.1, h2⟩
  | a :: b :: l, h1, h2 => ⟨h1.1, pathE_app (l := b :: l) h1.2 h2⟩
theorem pathE_map {P : Sp → Sp → Prop} (f : Sp → Sp) : ∀ {l : List Sp}, pathE P (l.map f) ↔ pathE (fun a b => P (f a) (f b)) l
  | [] => Iff.rfl
  | [_] => Iff.rfl
  | a :: b :: l => and_congr Iff.rfl (pathE_map f (l := b :: l))
theorem okS_path {P : Sp → Prop} {s : List Sp} : okS P s → pathE (fun a b => ∀ r, P r → okE a b r) s.reverse := by
  induction s with
  | nil => exact fun _ => trivial
  | cons b s ih =>
    cases s with
    | nil => exact fun _ => trivial
    | cons a s =>
      intro h
      have h1 := ih h.2
      rw [List.reverse_cons, List.reverse_cons, List.append_assoc]
      rw [List.reverse_cons] at h1
      exact pathE_app h1 ⟨h.1, trivial⟩
theorem nx_mem {S T : List Sp} (h : ∀ r, r ∈ S ↔ r ∈ T) {a b : Sp} : Nx S a b ↔ Nx T a b := by
  unfold Nx
  rw [h b]
  exact and_congr Iff.rfl (and_congr Iff.rfl ⟨fun h2 r hr => h2 r ((h r).2 hr), fun h2 r hr => h2 r ((h r).1 hr)⟩)
theorem isHull_mem {S T H : List Sp} (h : ∀ r, r ∈ S ↔ r ∈ T) (h1 : isHull S H) : isHull T H := by
  rcases h1 with ⟨rfl, rfl⟩ | ⟨p, rfl, h2, h3⟩ | ⟨a, t, rfl, h2, h3, h4, h5, h6⟩
  · refine .inl ⟨?_, rfl⟩
    cases T with
    | nil => rfl
    | cons x T => exact absurd ((h x).2 (by simp)) (by simp)
  · exact .inr (.inl ⟨p, rfl, (h p).1 h2, fun r hr => h3 r ((h r).2 hr)⟩)
  · exact .inr (.inr ⟨a, t, rfl, h2, (h a).1 h3, fun r hr => h4 r ((h r).2 hr), pathE_imp (fun x y _ _ hxy => (nx_mem h).1 hxy) h5, h6⟩)
theorem isHull_uniq {S H K : List Sp} (h1 : isHull S H) (h2 : isHull S K) : H = K := by
  have two : ∀ {a : Sp} {t : List Sp} {p : Sp}, t ≠ [] → pathE (Nx S) (a :: (t ++ [a])) → (∀ r, r ∈ S → r = p) → a ∈ S → False := fun {a t p} ht hp hs ha => by
    cases t with
    | nil => exact ht rfl
    | cons b t => exact hp.1.2.1 ((hs b hp.1.1).trans (hs a ha).symm)
  rcases h1 with ⟨rfl, rfl⟩ | ⟨p, rfl, a2, a3⟩ | ⟨a, t, rfl, a2, a3, a4, a5, a6⟩
  · rcases h2 with ⟨_, rfl⟩ | ⟨p, rfl, b2, b3⟩ | ⟨b, u, rfl, b2, b3, b4, b5, b6⟩
    · rfl
    · cases b2
    · cases b3
  · rcases h2 with ⟨rfl, rfl⟩ | ⟨q, rfl, b2, b3⟩ | ⟨b, u, rfl, b2, b3, b4, b5, b6⟩
    · cases a2
    · rw [a3 q b2]
    · exact (two b2 b5 a3 b3).elim
  · rcases h2 with ⟨rfl, rfl⟩ | ⟨q, rfl, b2, b3⟩ | ⟨b, u, rfl, b2, b3, b4, b5, b6⟩
    · cases a3
    · exact (two a2 a5 b3 a3).elim
    · have e : a = b := by
        rcases a4 b b3 with h | h
        · exact h.symm
        · rcases b4 a a3 with h' | h'
          · exact h'
          · exact absurd (ltS_trans h h') (ltS_irrefl _)
      subst e
      rw [pathE_uniq (P := Nx S) (fun _ _ _ => nx_uniq) a5 a6 b5 b6]
theorem okE_okB {a b r : Sp} (h : okE a b r) : okB a b r := by
  rcases h with h | h | h | h
  · exact .inl h
  · exact .inr (.inl h)
  · exact .inr (.inr (.inl h))
  · exact .inr (.inr (.inr ⟨h.1, .inl h.2⟩))
theorem chain_law {ks : List Sp} (h : ks.Pairwise ltS) (h2 : 2 ≤ ks.length) :
    ∃ t m L, chainR ks = m :: (L.reverse ++ [t]) ∧ pathE (Nx ks) (t :: (L ++ [m])) ∧ t ∉ L ∧ m ∉ L ∧ (∀ r, r ∈ ks → r = t ∨ ltS t r) ∧ (∀ r, r ∈ ks → r = m ∨ ltS r m) ∧ t ≠ m ∧ t ∈ ks ∧ m ∈ ks ∧ ks.getLast? = some m := by
  obtain ⟨⟨i1, i2, i3, i4⟩, i5⟩ := chainR_inv h
  have hP := okS_path i2
  have hlen : ks.length = (ks.length - 2) + 2 := by omega
  obtain ⟨m, hm⟩ : ∃ m, ks.getLast? = some m := by
    cases e : ks.getLast? with
    | none => rw [List.getLast?_eq_none_iff] at e; subst e; simp at h2
    | some m => exact ⟨m, rfl⟩
  obtain ⟨l, hl⟩ := List.getLast?_eq_some_iff.1 hm
  have hmax : ∀ r, r ∈ ks → r = m ∨ ltS r m := fun r hr => by
    rw [hl] at hr h
    rcases List.mem_append.1 hr with hr | hr
    · exact .inr ((List.pairwise_append.1 h).2.2 r hr m (by simp))
    · exact .inl (by simpa using hr)
  have hmk : m ∈ ks := by rw [hl]; simp
  rw [hm] at i5
  generalize chainR ks = s at *
  obtain ⟨x, rfl⟩ := List.head?_eq_some_iff.1 i5
  cases hx : x.getLast? with
  | none =>
    rw [List.getLast?_eq_none_iff] at hx
    subst hx
    exfalso
    have h3 := i4 m rfl
    cases l with
    | nil => rw [hl] at h2; simp at h2
    | cons a l =>
      rw [hl] at h
      have ham := (List.pairwise_append.1 h).2.2 a (by simp) m (by simp)
      rcases h3 a (by rw [hl]; simp) with h4 | h4
      · subst h4; exact ltS_irrefl _ ham
      · exact ltS_irrefl _ (ltS_trans ham h4)
  | some t =>
    obtain ⟨X, rfl⟩ := List.getLast?_eq_some_iff.1 hx
    have hp1 := List.pairwise_cons.1 i1
    have hp2 := List.pairwise_append.1 hp1.2
    refine ⟨t, m, X.reverse, by rw [List.reverse_reverse], ?_, fun ht => ?_, fun ht => ?_, fun r hr => ?_, hmax, fun e => ?_, ?_, hmk, hm⟩
    · rw [List.reverse_cons, List.reverse_append] at hP
      have hsorted : (t :: (X.reverse ++ [m])).Pairwise ltS := by
        have := List.pairwise_reverse.2 (show (m :: (X ++ [t])).Pairwise (fun b a => ltS a b) from i1)
        rwa [List.reverse_cons, List.reverse_append] at this
      have hmem : ∀ r, r ∈ t :: (X.reverse ++ [m]) → r ∈ ks := fun r hr => by
        have := i3 r (by
          simp only [List.mem_cons, List.mem_append, List.mem_reverse, List.not_mem_nil, or_false] at hr ⊢
          rcases hr with h | h | h
          · exact .inr (.inr h)
          · exact .inr (.inl h)
          · exact .inl h)
        exact List.mem_reverse.1 this
      have hP' : pathE (fun a b => ∀ r, r ∈ ks.reverse → okE a b r) (t :: (X.reverse ++ [m])) := hP
      clear hP
      generalize t :: (X.reverse ++ [m]) = q at hP' hsorted hmem
      clear i1 i2 i3 i4 i5 hp1 hp2 hx
      induction q with
      | nil => trivial
      | cons a q ih =>
        cases q with
        | nil => trivial
        | cons b q =>
          have hab := (List.pairwise_cons.1 hsorted).1 b (by simp)
          exact ⟨⟨hmem b (by simp), fun e => ltS_irrefl a (e ▸ hab), fun r hr => okE_okB (hP'.1 r (List.mem_reverse.2 hr))⟩, ih hP'.2 (List.pairwise_cons.1 hsorted).2 fun r hr => hmem r (List.mem_cons_of_mem _ hr)⟩
    · exact ltS_irrefl _ (hp2.2.2 t (List.mem_reverse.1 ht) t (by simp))
    · exact ltS_irrefl _ (hp1.1 m (by simp [List.mem_reverse.1 ht]))
    · exact i4 t (by rw [← List.cons_append, List.getLast?_append]; rfl) r (List.mem_reverse.2 hr)
    · subst e
      exact ltS_irrefl _ (hp1.1 t (by simp))
    · exact List.mem_reverse.1 (i3 t (by simp))
theorem popH_neg (p : Sp) : ∀ s : List Sp, popH (negS p) (s.map negS) = (popH p s).map negS
  | [] => rfl
  | [b] => rfl
  | b :: a :: s => by
    have := popH_neg p (a :: s)
    simp only [List.map_cons, popH, cr_neg] at this ⊢
    split
    · exact this
    · rfl
theorem chainR_neg (l : List Sp) : chainR (l.map negS) = (chainR l).map negS := by
  induction l using snoc_ind with
  | h0 => rfl
  | h1 l a ih => rw [List.map_append, List.map_singleton, chainR_snoc, chainR_snoc, ih, popH_neg]; rfl
theorem okB_neg {a b r : Sp} : okB (negS a) (negS b) (negS r) → okB a b r := by
  unfold okB btwS
  rw [cr_neg, negS_lt, negS_lt, negS_lt, negS_lt]
  rintro (h | h | h | ⟨h, h1 | h1⟩)
  · exact .inl (negS_inj h)
  · exact .inr (.inl (negS_inj h))
  · exact .inr (.inr (.inl h))
  · exact .inr (.inr (.inr ⟨h, .inr ⟨h1.2, h1.1⟩⟩))
  · exact .inr (.inr (.inr ⟨h, .inl ⟨h1.2, h1.1⟩⟩))
def hullK (ks : List Sp) : List Sp := if ks.length < 2 then ks else (chainR ks).tail.reverse ++ (chainR ks.reverse).tail.reverse
theorem hullK_law {ks : List Sp} (h : ks.Pairwise ltS) : isHull ks (hullK ks) := by
  unfold hullK
  split
  · rename_i h2
    match ks, h2 with
    | [], _ => exact .inl ⟨rfl, rfl⟩
    | [p], _ => exact .inr (.inl ⟨p, rfl, by simp, fun r hr => by simpa using hr⟩)
    | a :: b :: l, h2 => simp at h2; omega
  · rename_i h2
    obtain ⟨t, m, L, e1, a1, a2, a3, a4, a5, a6, a7, a8, _⟩ := chain_law h (by omega)
    have hu : (ks.reverse.map negS).Pairwise ltS := by
      rw [List.pairwise_map, List.pairwise_reverse]
      exact h.imp fun h => negS_lt.2 h
    obtain ⟨t', m', M, e2, b1, b2, b3, b4, b5, b6, b7, b8, _⟩ := chain_law hu (by rw [List.length_map, List.length_reverse]; omega)
    have hmem : ∀ r, negS r ∈ ks.reverse.map negS ↔ r ∈ ks := fun r => by
      rw [List.mem_map]
      refine ⟨fun ⟨x, h1, h2⟩ => ?_, fun h1 => ⟨r, List.mem_reverse.2 h1, rfl⟩⟩
      rw [← negS_inj h2]
      exact List.mem_reverse.1 h1
    have ht' : t' = negS m := by
      have h1 := (hmem (negS t')).1 (by rw [negS_neg]; exact b7)
      rcases a5 _ h1 with h3 | h3
      · rw [← h3, negS_neg]
      · rcases b4 _ ((hmem m).2 a8) with h4 | h4
        · exact h4.symm
        · rw [← negS_lt, negS_neg] at h3
          exact absurd (ltS_trans h3 h4) (ltS_irrefl _)
    have hm' : m' = negS t := by
      have h1 := (hmem (negS m')).1 (by rw [negS_neg]; exact b8)
      rcases a4 _ h1 with h3 | h3
      · rw [← h3, negS_neg]
      · rcases b5 _ ((hmem t).2 a7) with h4 | h4
        · exact h4.symm
        · rw [← negS_lt, negS_neg] at h3
          exact absurd (ltS_trans h3 h4) (ltS_irrefl _)
    subst ht' hm'
    have e3 : (chainR ks.reverse) = t :: ((M.map negS).reverse ++ [m]) := by
      rw [chainR_neg] at e2
      have := congrArg (List.map negS) e2
      rw [List.map_map, show negS ∘ negS = id from funext negS_neg, List.map_id] at this
      rw [this]
      simp only [List.map_cons, List.map_append, List.map_reverse, negS_neg, List.map_nil]
    rw [e1, e3]
    simp only [List.tail_cons, List.reverse_append, List.reverse_reverse, List.reverse_cons, List.reverse_nil, List.nil_append, List.singleton_append, List.cons_append]
    refine .inr (.inr ⟨t, L ++ m :: M.map negS, rfl, by simp, a7, a4, ?_, ?_⟩)
    · rw [List.append_assoc, List.cons_append, ← List.cons_append]
      refine pathE_app a1 ?_
      have e4 : m :: (M.map negS ++ [t]) = (negS m :: (M ++ [negS t])).map negS := by
        simp only [List.map_cons, List.map_append, negS_neg, List.map_nil]
      rw [e4, pathE_map]
      refine pathE_imp (fun x y _ _ hxy => ?_) b1
      obtain ⟨c1, c2, c3⟩ := hxy
      refine ⟨(hmem _).1 (by rw [negS_neg]; exact c1), fun e => c2 (negS_inj e), fun r hr => okB_neg ?_⟩
      rw [negS_neg, negS_neg]
      exact c3 _ ((hmem r).2 hr)
    · intro h3
      rcases List.mem_append.1 h3 with h3 | h3
      · exact a2 h3
      · rcases List.mem_cons.1 h3 with h3 | h3
        · exact a6 h3
        · obtain ⟨x, h4, h5⟩ := List.mem_map.1 h3
          rw [← h5, negS_neg] at b3
          exact b3 h4
def atS (l : List Sp) (i : Nat) : Sp := (l[i]?).getD (0, 0)
theorem atS_get {l : List Sp} {i : Nat} (h : i < l.length) : atS l i = l[i] := by simp [atS, List.getElem?_eq_getElem h]
def crs (a b : Sp) : Int := a.1 * b.2 - a.2 * b.1
def sumN (f : Sp → Sp → Int) (l : List Sp) (k : Nat) : Int := ((List.range k).map fun i => f (atS l i) (atS l ((i + 1) % l.length))).sum
theorem sumN_succ (f : Sp → Sp → Int) (l : List Sp) (k : Nat) : sumN f l (k + 1) = sumN f l k + f (atS l k) (atS l ((k + 1) % l.length)) := by
  simp [sumN, List.range_succ, List.sum_append]
def area2 (l : List Sp) : Int := sumN crs l l.length
end Go.Aw
