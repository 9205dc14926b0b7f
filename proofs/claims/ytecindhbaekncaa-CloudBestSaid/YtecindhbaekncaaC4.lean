/-
  Contract of cloud.Segments. Conditions: none (a cloud that is not valid is refused).
-/
import Derived.Test.YtecindhbaekncaaAwZ
import Derived.Test.YtecindhbaekncaaC3
namespace Go.Aw
set_option linter.unusedSimpArgs false
set_option linter.unusedVariables false
open Go.RowKit Go.Proofs Go.Seg

theorem round_endG {Q : Exit → St → Prop} {α : Type} {Φ : α → List Nat → St → Prop} {u : St} (y : α) (r : List Nat) (h : Φ y r u) : Then (fun u => ∃ y r, Φ y r u) Q .normal u := ⟨y, r, h⟩

def ptS (p : Pt) : Int × Int := (p.1, p.2.1)
def near (ps : List Pt) (gap : Int) (i j : Nat) : Prop := ∃ p q, ps[i]? = some p ∧ ps[j]? = some q ∧ dist2 (ptS p) (ptS q) ≤ gap * gap

theorem dist2_symm (p q : Int × Int) : dist2 p q = dist2 q p := by
  unfold dist2
  rw [Bool.and_comm]
  split
  · rw [show p.1 - q.1 = -(q.1 - p.1) by omega, show p.2 - q.2 = -(q.2 - p.2) by omega, Int.neg_mul_neg, Int.neg_mul_neg]
  · rfl
theorem near_symm {ps : List Pt} {gap : Int} (i j : Nat) (h : near ps gap i j) : near ps gap j i := by
  obtain ⟨p, q, h1, h2, h3⟩ := h
  exact ⟨q, p, h2, h1, by rw [dist2_symm]; exact h3⟩
theorem near_lt {ps : List Pt} {gap : Int} (i j : Nat) (h : near ps gap i j) : i < ps.length ∧ j < ps.length := by
  obtain ⟨p, q, h1, h2, h3⟩ := h
  exact ⟨(List.getElem?_eq_some_iff.1 h1).1, (List.getElem?_eq_some_iff.1 h2).1⟩

def segErr (ps : List Pt) (gap : Int) : Int := if check ps ≠ 0 then check ps else if gap < 0 ∨ gap > 33554432 then 2 else 0

/-- Numbers so far, and zeros. -/
def fillN (n x : Nat) : List (List D) := (List.range n).map fun i => if i < x then encN i else encN 0

theorem fillN_zero (n : Nat) : fillN n 0 = List.replicate n [.int .i64 0] := by
  unfold fillN
  apply List.ext_getElem?
  intro i
  simp only [List.getElem?_map, List.getElem?_replicate, Nat.not_lt_zero, if_false]
  by_cases h : i < n
  · simp [h, encN]
  · simp [h, List.getElem?_eq_none (show (List.range n).length ≤ i by simp; omega)]
theorem fillN_end (n : Nat) : fillN n n = (List.range n).map encN := by
  unfold fillN
  apply List.map_congr_left
  intro i hi
  simp [List.mem_range.1 hi]
theorem fillN_set {n x : Nat} (hx : x < n) : (fillN n x).set x [.int .i64 (x : Int)] = fillN n (x + 1) := by
  unfold fillN
  apply List.ext_getElem?
  intro i
  simp only [List.getElem?_set, List.getElem?_map, List.length_map, List.length_range]
  by_cases h : x = i
  · subst h; simp [hx, List.getElem?_range hx, encN]
  · simp only [h, if_false]
    by_cases hi : i < n
    · simp only [List.getElem?_range hi, Option.map_some]
      congr 1
      by_cases h1 : i < x
      · rw [if_pos h1, if_pos (by omega)]
      · rw [if_neg h1, if_neg (by omega)]
    · rw [List.getElem?_eq_none (by simp; omega)]; rfl

theorem fillN_len (n x : Nat) : (fillN n x).length = n := by simp [fillN]

/-- The map's entries: each root's place. -/
def esFrom : Nat → List Nat → List (V × V)
  | _, [] => []
  | k, r :: l => (.d (.int .i64 r), .d (.int .i64 k)) :: esFrom (k + 1) l

theorem esFrom_get : ∀ (l : List Nat) (k j : Nat), (esFrom k l)[j]? = (l[j]?).map fun r => (.d (.int .i64 r), .d (.int .i64 (k + j : Nat)))
  | [], k, j => by simp [esFrom]
  | r :: l, k, 0 => by simp [esFrom]
  | r :: l, k, j + 1 => by
    simp only [esFrom, List.getElem?_cons_succ]
    rw [esFrom_get l (k + 1) j]
    cases l[j]? with
    | none => rfl
    | some x => simp only [Option.map_some]; congr 4; omega
theorem esFrom_append : ∀ (l : List Nat) (k r : Nat), esFrom k (l ++ [r]) = esFrom k l ++ [(.d (.int .i64 r), .d (.int .i64 (k + l.length : Nat)))]
  | [], k, r => by simp [esFrom]
  | x :: l, k, r => by
    simp only [List.cons_append, esFrom, List.length_cons]
    rw [esFrom_append l (k + 1) r]
    congr 6
    omega
theorem esFrom_find : ∀ (l : List Nat) (k r : Nat), mfind (esFrom k l) (.d (.int .i64 r)) = l.findIdx? fun x => x == r
  | [], k, r => rfl
  | x :: l, k, r => by
    simp only [mfind, esFrom, List.findIdx?_cons, kcells]
    have ih := esFrom_find l (k + 1) r
    simp only [mfind, kcells] at ih
    by_cases h : x = r
    · subst h; simp
    · have h1 : ¬ (x : Int) = (r : Int) := by omega
      simp [h, h1, ih]
theorem esFrom_mem {l : List Nat} {k : Nat} {p : V × V} (h : p ∈ esFrom k l) : ∃ r, r ∈ l ∧ p.1 = .d (.int .i64 (r : Int)) := by
  obtain ⟨j, hj, rfl⟩ := List.getElem_of_mem h
  have := List.getElem?_eq_getElem hj
  rw [esFrom_get] at this
  simp only [Option.map_eq_some_iff] at this
  obtain ⟨r, hr, he⟩ := this
  exact ⟨r, List.mem_of_getElem? hr, by rw [← he]⟩
theorem esFrom_scr (i : Nat) : ∀ (l : List Nat) (k : Nat), (esFrom k l).map (fun p => (scr i p.1, scr i p.2)) = esFrom k l
  | [], k => rfl
  | x :: l, k => by
    have h := esFrom_scr i l (k + 1)
    simp only [esFrom, List.map_cons, h]
    simp [scr, V.has]

theorem key3 : Maps.Keyed Try.prog 3 := Maps.int_keyed (q := .i64) (by kernel_rfl)
theorem kwf3 {x : Int} (h0 : -9223372036854775808 ≤ x) (h1 : x ≤ 9223372036854775807) : kwf Try.prog 3 (.d (.int .i64 x)) :=
  ⟨_, _, rfl, Maps.keyOf_int_mk (q := .i64) (by kernel_rfl) (by simp only [Lit.wf, IntKind.min, IntKind.max, IntKind.bits, IntKind.signed]; simp; omega)⟩
theorem mk3 {l : List Nat} {n : Nat} (hn : n ≤ 1000000) (hl : ∀ r, r ∈ l → r < n) (hd : l.Nodup) (k : Nat) : MK Try.prog 3 (esFrom k l) := by
  refine ⟨key3, fun p hp => ?_, ?_⟩
  · obtain ⟨r, hr, he⟩ := esFrom_mem hp
    have := hl r hr
    rw [he]
    exact kwf3 (by omega) (by omega)
  · rw [List.pairwise_iff_getElem]
    intro i j hi hj hij
    have e1 := List.getElem?_eq_getElem hi
    have e2 := List.getElem?_eq_getElem hj
    rw [esFrom_get] at e1 e2
    simp only [Option.map_eq_some_iff] at e1 e2
    obtain ⟨r1, hr1, h1⟩ := e1
    obtain ⟨r2, hr2, h2⟩ := e2
    rw [← h1, ← h2]
    simp only [kcells]
    intro h
    have h : r1 = r2 := by simp at h; omega
    subst h
    have := (List.getElem?_inj (List.getElem?_eq_some_iff.1 hr1).1 hd).1 (hr1.trans hr2.symm)
    omega

def roots (f : Nat → Nat) (i : Nat) : List Nat := (List.range i).filter fun r => f r == r
theorem roots_nd (f : Nat → Nat) (i : Nat) : (roots f i).Nodup := List.nodup_range.filter _
theorem roots_lt {f : Nat → Nat} {i r : Nat} (h : r ∈ roots f i) : r < i := List.mem_range.1 (List.mem_filter.1 h).1
theorem roots_len (f : Nat → Nat) (i : Nat) : (roots f i).length = (Seg.part f i).length := by simp [roots, Seg.part]

/-- The groups' blocks and what the outer slice holds. -/
def gblk (g : List Nat) : Blk := .data 1 (g.map encN)
def refs (gs : List (List Nat)) : List (List V) := (List.range gs.length).map fun k => [.ref (k + 1 + 1 + 1 + 1 + 1) 0 (gs.getD k []).length]
theorem refs_get {gs : List (List Nat)} {k : Nat} {g : List Nat} (h : gs[k]? = some g) : (refs gs)[k]? = some [.ref (k + 1 + 1 + 1 + 1 + 1) 0 g.length] := by
  have hk : k < gs.length := (List.getElem?_eq_some_iff.1 h).1
  simp [refs, List.getElem?_range hk, List.getD_eq_getElem?_getD, h]
theorem refs_len (gs : List (List Nat)) : (refs gs).length = gs.length := by simp [refs]

theorem deep_tup2 {H : List Blk} {x y : V} {d e : D} (h1 : Deep H x d) (h2 : Deep H y e) : Deep H (.tup [x, y]) (.tup [d, e]) := by
  refine .tup _ _ rfl fun j u v hu hv => ?_
  match j with
  | 0 => simp at hu hv; subst hu hv; exact h1
  | 1 => simp at hu hv; subst hu hv; exact h2
  | j + 2 => simp at hu

theorem esFrom_ren (r : List Nat) : ∀ (l : List Nat) (k : Nat), (esFrom k l).map (fun p => (V.ren r p.1, V.ren r p.2)) = esFrom k l
  | [], k => rfl
  | x :: l, k => by simp only [esFrom, List.map_cons, esFrom_ren r l (k + 1), V.ren]
theorem esFrom_bel (n : Nat) : ∀ (l : List Nat) (k : Nat), (esFrom k l).all (fun p => V.bel n p.1 && V.bel n p.2) = true
  | [], k => rfl
  | x :: l, k => by simp only [esFrom, List.all_cons, esFrom_bel n l (k + 1), V.bel]; rfl

theorem seg_ren {n : Nat} {up l : List Nat} {gs' : List (List Nat)} {tm tm' : List (Nat × V)} {X : List Blk} {rs : List (List V)} (r : List Nat) (nd : r.Nodup) (hr : ∀ j, j < 5 → r[j]? = some j) (hrl : r.length = gs'.length + 5)
    (hG : ∀ j gk, gs'[j]? = some gk → ∃ q, r[j + 5]? = some (q + 5) ∧ X[q]? = some (gblk gk)) (hV : (refs gs').map (fun q => V.renL r q) = rs) (htm : subTm (renTm r tm') tm) (bt : belTm r.length tm' = true) :
    Ren [] r ⟨tm', segHeap n up (.mp (esFrom 0 l) :: .vrs 1 (refs gs') :: gs'.map gblk)⟩ ⟨tm, .data 1 (up.map encN) :: .cells [.ref 0 0 n] :: .cells [.fn (.func 57) [.ptr 1 0 0, .ptr 2 0 0]] :: .mp (esFrom 0 l) :: .vrs 1 rs :: X⟩ := by
  refine ren_of nd ?_ ?_ htm bt ?_
  · simp only [segHeap, List.length_cons, List.length_map, hrl]
  · intro j b hb
    simp only [segHeap] at hb ⊢
    match j with
    | 0 => simp at hb; subst hb; exact ⟨0, hr 0 (by omega), rfl⟩
    | 1 => simp at hb; subst hb; exact ⟨1, hr 1 (by omega), by simp [Blk.ren, V.renL, V.ren, hr 0 (by omega)]⟩
    | 2 => simp at hb; subst hb; exact ⟨2, hr 2 (by omega), by simp [Blk.ren, V.renL, V.ren, hr 1 (by omega), hr 2 (by omega)]⟩
    | 3 => simp at hb; subst hb; exact ⟨3, hr 3 (by omega), by simp [Blk.ren, esFrom_ren]⟩
    | 4 => simp at hb; subst hb; exact ⟨4, hr 4 (by omega), by simp only [Blk.ren, hV]; rfl⟩
    | j + 5 =>
      have hb : (gs'.map gblk)[j]? = some b := hb
      simp only [List.getElem?_map, Option.map_eq_some_iff] at hb
      obtain ⟨gk, h1, rfl⟩ := hb
      obtain ⟨q, h2, h3⟩ := hG j gk h1
      exact ⟨q + 5, h2, h3⟩
  · intro b hb
    simp only [segHeap, List.mem_cons, List.mem_map] at hb
    rcases hb with rfl | rfl | rfl | rfl | rfl | ⟨g, _, rfl⟩
    · rfl
    · simp [Blk.bel, V.belL, V.bel]; omega
    · simp [Blk.bel, V.belL, V.bel]; omega
    · exact esFrom_bel _ _ _
    · simp only [Blk.bel, refs, List.all_map, List.all_eq_true, List.mem_range]
      intro k hk
      simp [V.belL, V.bel]; omega
    · rfl

theorem refs_ren_old {gs : List (List Nat)} {r : List Nat} (hr : ∀ j, j < gs.length + 5 → r[j]? = some j) : (refs gs).map (fun q => V.renL r q) = refs gs := by
  simp only [refs, List.map_map]
  apply List.map_congr_left
  intro k hk
  have := hr (k + 5) (by have := List.mem_range.1 hk; omega)
  simp only [Function.comp, V.renL, V.ren, List.getD_eq_getElem?_getD]
  rw [show k + 1 + 1 + 1 + 1 + 1 = k + 5 by omega, this]
  rfl

theorem refs_snoc (gs : List (List Nat)) (g : List Nat) : refs (gs ++ [g]) = refs gs ++ [[.ref (gs.length + 1 + 1 + 1 + 1 + 1) 0 g.length]] := by
  simp only [refs, List.length_append, List.length_cons, List.length_nil, Nat.zero_add, List.range_succ, List.map_append, List.map_cons, List.map_nil]
  congr 1
  · apply List.map_congr_left
    intro k hk
    have := List.mem_range.1 hk
    simp [List.getD_eq_getElem?_getD, List.getElem?_append_left this]
  · simp [List.getD_eq_getElem?_getD]

theorem refs_modify {gs : List (List Nat)} {k i : Nat} {g : List Nat} (h : gs[k]? = some g) : refs (gs.modify k fun g => g ++ [i]) = (refs gs).set k [.ref (k + 1 + 1 + 1 + 1 + 1) 0 (g.length + 1)] := by
  have hk : k < gs.length := (List.getElem?_eq_some_iff.1 h).1
  apply List.ext_getElem?
  intro j
  simp only [refs, List.length_modify, List.getElem?_set, List.length_map, List.length_range, List.getElem?_map]
  by_cases hj : j < gs.length
  · simp only [List.getElem?_range hj, Option.map_some, List.getD_eq_getElem?_getD, List.getElem?_modify]
    by_cases hjk : k = j
    · subst hjk
      simp only [h, hk, if_true, Option.getD_some, Option.map_some, List.length_append, List.length_cons, List.length_nil, Nat.zero_add, Option.map_eq_map]
    · simp [hjk]
  · rw [List.getElem?_eq_none (by simp; omega)]
    by_cases hjk : k = j
    · omega
    · simp [hjk]

theorem refs_scr {gs : List (List Nat)} {k : Nat} (hk : k < gs.length) : (refs gs).map (fun r => scrL (k + 1 + 1 + 1 + 1 + 1) r) = (refs gs).set k [.junk] := by
  apply List.ext_getElem?
  intro j
  simp only [List.getElem?_set, List.getElem?_map, refs_len]
  by_cases hj : j < gs.length
  · have h := refs_get (List.getElem?_eq_getElem hj)
    by_cases hjk : k = j
    · subst hjk
      simp [h, hk, scrL, scr, V.has]
    · have : ¬ j = k := fun e => hjk e.symm
      simp [h, hjk, this, scrL, scr, V.has]
  · have h : (refs gs)[j]? = none := List.getElem?_eq_none (by rw [refs_len]; omega)
    by_cases hjk : k = j
    · omega
    · simp [h, hjk]

theorem deep_groups {H : List Blk} {gs : List (List Nat)} (h4 : H[4]? = some (.vrs 1 (refs gs))) (hg : ∀ (j : Nat) (g : List Nat), gs[j]? = some g → H[j + 5]? = some (gblk g)) : Deep H (.ref 4 0 gs.length) (.sl (gs.map fun g => [.sl (g.map encN)])) := by
  have := Deep.vrs (H := H) 4 1 (refs gs) (gs.map fun g => [.sl (g.map encN)]) h4 (by simp [refs_len]) (fun i row hi => by
    simp only [List.getElem?_map, Option.map_eq_some_iff] at hi
    obtain ⟨g, _, rfl⟩ := hi
    rfl) (fun i row drow j x y h1 h2 h3 h5 => by
    simp only [List.getElem?_map, Option.map_eq_some_iff] at h2
    obtain ⟨g, hgi, rfl⟩ := h2
    rw [refs_get hgi] at h1
    simp at h1
    subst h1
    match j with
    | 0 =>
      simp at h3 h5
      subst h3 h5
      have := Deep.data (H := H) (i + 5) 0 g.length 1 (g.map encN) (hg i g hgi) (by simp)
      rw [List.drop_zero, List.take_of_length_le (by simp)] at this
      exact this
    | j + 1 => simp at h3)
  rwa [refs_len] at this

theorem renL_one (r : List Nat) (x : V) : V.renL r [x] = [V.ren r x] := rfl

end Go.Aw
