/-
  Clouds in segments, in plain terms: labels of points, roots in a row of numbers, groups. Plain lemmas; no condition.
-/
import Derived.Test.YtecindhbaekncaaAwA
namespace Go.Seg
set_option linter.unusedSimpArgs false
set_option linter.unusedVariables false

inductive Conn (near : Nat → Nat → Prop) : Nat → Nat → Prop
  | refl (i : Nat) : Conn near i i
  | step {i j k : Nat} (h : Conn near i j) (hn : near j k) : Conn near i k

theorem Conn.trans {near : Nat → Nat → Prop} {i j k : Nat} (h : Conn near i j) (h' : Conn near j k) : Conn near i k := by
  induction h' with
  | refl => exact h
  | step _ hn ih => exact .step ih hn
theorem Conn.symm {near : Nat → Nat → Prop} (hs : ∀ i j, near i j → near j i) {i j : Nat} (h : Conn near i j) : Conn near j i := by
  induction h with
  | refl => exact .refl _
  | step _ hn ih => exact Conn.trans (.step (.refl _) (hs _ _ hn)) ih

/-- A label of each point: a point of its segment, not above it; neighbours have the same. -/
structure Lab (near : Nat → Nat → Prop) (n : Nat) (f : Nat → Nat) : Prop where
  le : ∀ i, i < n → f i ≤ i
  conn : ∀ i, i < n → Conn near i (f i)
  same : ∀ i j, i < n → j < n → near i j → f i = f j

theorem Lab.conn_same {near : Nat → Nat → Prop} {n : Nat} {f : Nat → Nat} (h : Lab near n f) (hb : ∀ i j, near i j → i < n ∧ j < n) {i j : Nat} (hc : Conn near i j) : f i = f j := by
  induction hc with
  | refl => rfl
  | step _ hn ih => exact ih.trans (h.same _ _ (hb _ _ hn).1 (hb _ _ hn).2 hn)
theorem Lab.unique {near : Nat → Nat → Prop} {n : Nat} {f g : Nat → Nat} (hf : Lab near n f) (hg : Lab near n g) (hb : ∀ i j, near i j → i < n ∧ j < n) (i : Nat) (hi : i < n) : f i = g i := by
  have h1 : f i ≤ g i := by
    rw [hf.conn_same hb (hg.conn i hi)]
    exact hf.le _ (Nat.lt_of_le_of_lt (hg.le i hi) hi)
  have h2 : g i ≤ f i := by
    rw [hg.conn_same hb (hf.conn i hi)]
    exact hg.le _ (Nat.lt_of_le_of_lt (hf.le i hi) hi)
  omega
theorem Lab.idem {near : Nat → Nat → Prop} {n : Nat} {f : Nat → Nat} (h : Lab near n f) (hb : ∀ i j, near i j → i < n ∧ j < n) (i : Nat) (hi : i < n) : f (f i) = f i :=
  (h.conn_same hb (h.conn i hi)).symm

/-- The groups of equal labels. -/
def groups (f : Nat → Nat) (n : Nat) : List (List Nat) := ((List.range n).filter fun r => f r == r).map fun r => (List.range n).filter fun k => f k == r

theorem groups_congr {f g : Nat → Nat} {n : Nat} (h : ∀ i, i < n → f i = g i) : groups f n = groups g n := by
  have h1 : ((List.range n).filter fun r => f r == r) = ((List.range n).filter fun r => g r == r) := List.filter_congr fun r hr => by rw [h r (List.mem_range.1 hr)]
  unfold groups
  rw [h1]
  apply List.map_congr_left
  intro r _
  exact List.filter_congr fun k hk => by rw [h k (List.mem_range.1 hk)]

/-- Where the way up from a number ends. -/
def root (up : List Nat) (i : Nat) : Nat := if up.getD i i < i then root up (up.getD i i) else i
termination_by i

theorem root_le (up : List Nat) (i : Nat) : root up i ≤ i := by
  induction i using Nat.strongRecOn with
  | _ i ih =>
    rw [root]
    split
    · have := ih _ (by assumption); omega
    · exact Nat.le_refl _
theorem root_root (up : List Nat) (i : Nat) : root up (root up i) = root up i := by
  induction i using Nat.strongRecOn with
  | _ i ih =>
    by_cases h : up.getD i i < i
    · have e : root up i = root up (up.getD i i) := by rw [root, if_pos h]
      rw [e]; exact ih _ h
    · have e : root up i = i := by rw [root, if_neg h]
      rw [e, e]
theorem root_fix {up : List Nat} {i : Nat} (h : ¬ up.getD i i < i) : root up i = i := by rw [root, if_neg h]
theorem root_go {up : List Nat} {i : Nat} (h : up.getD i i < i) : root up i = root up (up.getD i i) := by rw [root, if_pos h]
theorem root_self {up : List Nat} {i : Nat} (h : root up i = i) : ¬ up.getD i i < i := by
  intro hc
  rw [root_go hc] at h
  have := root_le up (up.getD i i)
  omega

/-- No number points above itself. -/
def Down (up : List Nat) : Prop := ∀ i, i < up.length → up.getD i i ≤ i

theorem getD_set (up : List Nat) (i x j d : Nat) (hi : i < up.length) : (up.set i x).getD j d = if j = i then x else up.getD j d := by
  simp only [List.getD_eq_getElem?_getD, List.getElem?_set]
  by_cases h : i = j
  · subst h; simp [hi]
  · simp [h, Ne.symm h]

theorem Down.set {up : List Nat} (h : Down up) {i x : Nat} (hi : i < up.length) (hx : x ≤ i) : Down (up.set i x) := by
  intro j hj
  rw [getD_set up i x j j hi]
  split
  · omega
  · exact h j (by simpa using hj)

theorem root_short {up : List Nat} (i : Nat) (hi : i < up.length) : root up (root up i) = root up i := root_root up i

/-- A short cut changes no root. -/
theorem root_set {up : List Nat} {i : Nat} (hi : i < up.length) (j : Nat) : root (up.set i (root up i)) j = root up j := by
  induction j using Nat.strongRecOn with
  | _ j ih =>
    by_cases hj : j = i
    · subst hj
      by_cases h : root up j < j
      · have e : (up.set j (root up j)).getD j j = root up j := by rw [getD_set _ _ _ _ _ hi, if_pos rfl]
        rw [root_go (by rw [e]; exact h), e, ih _ h, root_root]
      · have e : (up.set j (root up j)).getD j j = root up j := by rw [getD_set _ _ _ _ _ hi, if_pos rfl]
        have := root_le up j
        rw [root_fix (by rw [e]; exact h)]
        omega
    · have e : (up.set i (root up i)).getD j j = up.getD j j := by rw [getD_set _ _ _ _ _ hi, if_neg hj]
      by_cases h : up.getD j j < j
      · rw [root_go (by rw [e]; exact h), e, ih _ h, ← root_go h]
      · rw [root_fix (by rw [e]; exact h), root_fix h]

/-- Two trees become one. -/
theorem root_union {up : List Nat} {hi lo : Nat} (hh : hi < up.length) (h1 : root up hi = hi) (h2 : root up lo = lo) (hle : lo ≤ hi) (k : Nat) : root (up.set hi lo) k = if root up k = hi then lo else root up k := by
  induction k using Nat.strongRecOn with
  | _ k ih =>
    by_cases hk : k = hi
    · subst hk
      have e : (up.set k lo).getD k k = lo := by rw [getD_set _ _ _ _ _ hh, if_pos rfl]
      rw [if_pos h1]
      by_cases h : lo < k
      · rw [root_go (by rw [e]; exact h), e, ih _ h, h2]
        split
        · rfl
        · rfl
      · rw [root_fix (by rw [e]; exact h)]
        omega
    · have e : (up.set hi lo).getD k k = up.getD k k := by rw [getD_set _ _ _ _ _ hh, if_neg hk]
      by_cases h : up.getD k k < k
      · rw [root_go (by rw [e]; exact h), e, ih _ h, root_go h]
      · rw [root_fix (by rw [e]; exact h), root_fix h, if_neg hk]

/-- Rows of numbers with the same roots. -/
structure Same (up up' : List Nat) : Prop where
  len : up'.length = up.length
  down : Down up'
  root : ∀ j, root up' j = root up j

theorem Same.refl {up : List Nat} (h : Down up) : Same up up := ⟨rfl, h, fun _ => rfl⟩
theorem Same.trans {a b c : List Nat} (h : Same a b) (h' : Same b c) : Same a c := ⟨h'.len.trans h.len, h'.down, fun j => (h'.root j).trans (h.root j)⟩

/-- What one call of 'root' leaves, from what the one within leaves. -/
theorem Same.cut {up up' : List Nat} {i : Nat} (hi : i < up.length) (h : Same up up') : Same up (up'.set i (Seg.root up i)) := by
  have e : Seg.root up i = Seg.root up' i := (h.root i).symm
  have hl : i < up'.length := by rw [h.len]; exact hi
  refine ⟨by simp [h.len], h.down.set hl (root_le up i), fun j => ?_⟩
  rw [e, root_set hl, h.root]

/-- What the rounds over pairs keep: pairs that were looked at have one root, roots lie in the segment. -/
structure Mid (near : Nat → Nat → Prop) (n : Nat) (done : Nat → Nat → Prop) (up : List Nat) : Prop where
  len : up.length = n
  down : Down up
  conn : ∀ i, i < n → Conn near i (root up i)
  same : ∀ i j, done i j → near i j → root up i = root up j

theorem Mid.start (near : Nat → Nat → Prop) (n : Nat) : Mid near n (fun _ _ => False) (List.range n) := by
  have hg : ∀ i, (List.range n).getD i i = i := fun i => by
    simp only [List.getD_eq_getElem?_getD]
    by_cases h : i < n
    · simp [List.getElem?_range h]
    · rw [List.getElem?_eq_none (by simpa using h)]; rfl
  refine ⟨by simp, fun i _ => by rw [hg]; exact Nat.le_refl _, fun i _ => ?_, fun _ _ h => h.elim⟩
  rw [root_fix (by rw [hg]; exact Nat.lt_irrefl _)]
  exact .refl _

theorem Mid.same_up {near : Nat → Nat → Prop} {n : Nat} {done : Nat → Nat → Prop} {up up' : List Nat} (h : Mid near n done up) (hs : Same up up') : Mid near n done up' :=
  ⟨hs.len.trans h.len, hs.down, fun i hi => by rw [hs.root]; exact h.conn i hi, fun i j hd hn => by rw [hs.root, hs.root]; exact h.same i j hd hn⟩

theorem Mid.more {near : Nat → Nat → Prop} {n : Nat} {done done' : Nat → Nat → Prop} {up : List Nat} (h : Mid near n done up) (hd : ∀ i j, done' i j → near i j → done i j) : Mid near n done' up :=
  ⟨h.len, h.down, h.conn, fun i j h1 h2 => h.same i j (hd i j h1 h2) h2⟩

theorem Mid.union {near : Nat → Nat → Prop} (hs : ∀ i j, near i j → near j i) {n : Nat} {done : Nat → Nat → Prop} {up : List Nat} (h : Mid near n done up) {i j : Nat} (hi : i < n) (hj : j < n) (hn : near i j) :
    Mid near n (fun a b => done a b ∨ (a = i ∧ b = j)) (up.set (max (root up i) (root up j)) (min (root up i) (root up j))) := by
  have hri := root_le up i
  have hrj := root_le up j
  have hhi : max (root up i) (root up j) < up.length := by rw [h.len]; omega
  have hfix1 : root up (max (root up i) (root up j)) = max (root up i) (root up j) := by
    rcases Nat.le_total (root up i) (root up j) with hle | hle
    · rw [Nat.max_eq_right hle, root_root]
    · rw [Nat.max_eq_left hle, root_root]
  have hfix2 : root up (min (root up i) (root up j)) = min (root up i) (root up j) := by
    rcases Nat.le_total (root up i) (root up j) with hle | hle
    · rw [Nat.min_eq_left hle, root_root]
    · rw [Nat.min_eq_right hle, root_root]
  have hle : min (root up i) (root up j) ≤ max (root up i) (root up j) := by omega
  have hu := root_union hhi hfix1 hfix2 hle
  have hij : Conn near (root up i) (root up j) := (Conn.symm hs (h.conn i hi)).trans ((Conn.step (.refl _) hn).trans (h.conn j hj))
  refine ⟨by simp [h.len], h.down.set hhi hle, fun k hk => ?_, fun a b hd hab => ?_⟩
  · rw [hu]
    split
    · rename_i hr
      have := h.conn k hk
      rw [hr] at this
      refine this.trans ?_
      rcases Nat.le_total (root up i) (root up j) with hle | hle
      · rw [Nat.max_eq_right hle, Nat.min_eq_left hle]; exact Conn.symm hs hij
      · rw [Nat.max_eq_left hle, Nat.min_eq_right hle]; exact hij
    · exact h.conn k hk
  · rw [hu, hu]
    rcases hd with hd | ⟨rfl, rfl⟩
    · rw [h.same a b hd hab]
    · rcases Nat.le_total (root up a) (root up b) with hle | hle
      · rw [Nat.max_eq_right hle, Nat.min_eq_left hle, if_pos rfl]
        split
        · rfl
        · rfl
      · rw [Nat.max_eq_left hle, Nat.min_eq_right hle, if_pos rfl]
        split
        · rfl
        · rfl

theorem Mid.lab {near : Nat → Nat → Prop} (hs : ∀ i j, near i j → near j i) {n : Nat} {up : List Nat} (h : Mid near n (fun a b => b < a ∧ a < n) up) : Lab near n (root up) := by
  refine ⟨fun i _ => root_le up i, h.conn, fun i j hi hj hn => ?_⟩
  rcases Nat.lt_trichotomy i j with hlt | heq | hgt
  · exact (h.same j i ⟨hlt, hj⟩ (hs _ _ hn)).symm
  · rw [heq]
  · exact h.same i j ⟨hgt, hi⟩ hn

/-- The groups, as they grow. -/
def part (f : Nat → Nat) (i : Nat) : List (List Nat) := ((List.range i).filter fun r => f r == r).map fun r => (List.range i).filter fun k => f k == r

theorem part_end (f : Nat → Nat) (n : Nat) : part f n = groups f n := rfl

theorem part_new {f : Nat → Nat} {i : Nat} (hle : ∀ k, k < i → f k ≤ k) (h : f i = i) : part f (i + 1) = part f i ++ [[i]] := by
  unfold part
  rw [List.range_succ, List.filter_append, List.map_append]
  simp only [List.filter_cons, List.filter_nil, h, beq_self_eq_true, if_true, List.map_cons, List.map_nil]
  congr 1
  · apply List.map_congr_left
    intro r hr
    rw [List.filter_append]
    have : r < i := List.mem_range.1 (List.mem_filter.1 hr).1
    simp [h, Ne.symm (Nat.ne_of_lt this)]
  · rw [List.filter_append]
    have : (List.range i).filter (fun k => f k == i) = [] := by
      rw [List.filter_eq_nil_iff]
      intro k hk
      have h1 := List.mem_range.1 hk
      have h2 := hle k h1
      simp; omega
    rw [this]
    simp [h]

/-- The place of a root among the roots. -/
def place (f : Nat → Nat) (i r : Nat) : Option Nat := ((List.range i).filter fun r => f r == r).findIdx? fun x => x == r

theorem place_new {f : Nat → Nat} {i : Nat} : place f i i = none := by
  unfold place
  rw [List.findIdx?_eq_none_iff]
  intro x hx
  have := List.mem_range.1 (List.mem_filter.1 hx).1
  simp; omega

theorem place_old {f : Nat → Nat} {i r : Nat} (hr : r < i) (h : f r = r) : ∃ k, place f i r = some k ∧ ((List.range i).filter fun r => f r == r)[k]? = some r := by
  unfold place
  cases hp : ((List.range i).filter fun r => f r == r).findIdx? fun x => x == r with
  | none =>
    rw [List.findIdx?_eq_none_iff] at hp
    have := hp r (List.mem_filter.2 ⟨List.mem_range.2 hr, by simp [h]⟩)
    simp at this
  | some k =>
    rw [List.findIdx?_eq_some_iff_getElem] at hp
    obtain ⟨h1, h2, _⟩ := hp
    refine ⟨k, rfl, ?_⟩
    rw [List.getElem?_eq_getElem h1]
    simpa using h2

theorem part_old {f : Nat → Nat} {i k : Nat} (hlt : f i < i) (hk : ((List.range i).filter fun r => f r == r)[k]? = some (f i)) :
    part f (i + 1) = (part f i).modify k fun g => g ++ [i] := by
  have hnd : ((List.range i).filter fun r => f r == r).Nodup := List.nodup_range.filter _
  have hki : f i ≠ i := by omega
  unfold part
  rw [List.range_succ, List.filter_append]
  simp only [List.filter_cons, List.filter_nil, beq_iff_eq, hki, if_false, List.append_nil, List.filter_append]
  apply List.ext_getElem?
  intro q
  rw [List.getElem?_modify]
  simp only [List.getElem?_map]
  cases hq : ((List.range i).filter fun r => f r == r)[q]? with
  | none => simp
  | some r =>
    simp only [Option.map_some, Option.map_eq_map]
    by_cases hkq : k = q
    · subst hkq
      rw [hk] at hq
      cases hq
      simp
    · have : r ≠ f i := by
        intro hr
        subst hr
        exact hkq ((List.getElem?_inj (List.getElem?_eq_some_iff.1 hk).1 hnd).1 (hk.trans hq.symm))
      simp [hkq, Ne.symm this]

end Go.Seg
