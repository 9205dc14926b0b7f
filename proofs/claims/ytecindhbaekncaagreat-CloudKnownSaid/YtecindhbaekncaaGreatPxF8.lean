/-
  The contract of Nearest: what the heap of far points keeps. Conditions: none (what is not valid is refused).
-/
import Derived.Test.YtecindhbaekncaaGreatPxF7
import Derived.Test.YtecindhbaekncaaGreatPxF3
namespace Go.Aw
set_option linter.unusedSimpArgs false
set_option linter.unusedVariables false
open Go.RowKit Go.Proofs Go.Heap

def farL (ps : List Pt) (q : Int × Int) (i : Nat) : List Fa := ((ps.take i).map fun p => dist2 q (ptS p)).zipIdx.map fun x => (x.2, x.1)
theorem farL_zero (ps : List Pt) (q : Int × Int) : farL ps q 0 = [] := by simp [farL]
theorem farL_succ {ps : List Pt} (q : Int × Int) {i : Nat} {p : Pt} (hp : ps[i]? = some p) : farL ps q (i + 1) = farL ps q i ++ [(i, dist2 q (ptS p))] := by
  have hl : i < ps.length := (List.getElem?_eq_some_iff.1 hp).1
  simp only [farL, List.take_add_one, hp, Option.toList_some, List.map_append, List.map_cons, List.map_nil, List.zipIdx_append, List.zipIdx_cons, List.zipIdx_nil, List.length_map, List.length_take]
  rw [show 0 + min i ps.length = i by omega]
theorem farL_len {ps : List Pt} {q : Int × Int} {i : Nat} (hi : i ≤ ps.length) : (farL ps q i).length = i := by simp [farL]; omega
theorem farL_idx {ps : List Pt} {q : Int × Int} {i : Nat} (hi : i ≤ ps.length) : (farL ps q i).map (·.1) = List.range i := by
  induction i with
  | zero => simp [farL]
  | succ i ih =>
    have hp : ps[i]? = some ps[i] := List.getElem?_eq_getElem hi
    rw [farL_succ q hp, List.map_append, ih (by omega), List.range_succ]
    rfl
theorem farL_nodup {ps : List Pt} {q : Int × Int} {i : Nat} (hi : i ≤ ps.length) : (farL ps q i).Nodup := by
  have : ((farL ps q i).map (·.1)).Nodup := by rw [farL_idx hi]; exact List.nodup_range
  exact this.of_map _ fun a b h e => h (by rw [e])
def keepL (ps : List Pt) (q : Int × Int) (k : Nat) : Nat → List Fa
  | 0 => []
  | i + 1 => Go.Heap.step befF k (keepL ps q k i) (i, dist2 q (ptS (ps.getD i (0, 0, 0))))
theorem keepL_succ {ps : List Pt} (q : Int × Int) (k : Nat) {i : Nat} {p : Pt} (hp : ps[i]? = some p) : keepL ps q k (i + 1) = Go.Heap.step befF k (keepL ps q k i) (i, dist2 q (ptS p)) := by
  simp [keepL, List.getD_eq_getElem?_getD, hp]
theorem keepL_keeps (ps : List Pt) (q : Int × Int) {k : Nat} (hk : 0 < k) : ∀ i, i ≤ ps.length → Keeps befF k (farL ps q i) (keepL ps q k i)
  | 0, _ => by rw [farL_zero]; exact keeps_nil k
  | i + 1, hi => by
    have hp : ps[i]? = some ps[i] := List.getElem?_eq_getElem hi
    rw [keepL_succ q k hp, farL_succ q hp]
    refine keeps_step befF_ord hk (keepL_keeps ps q hk i (by omega)) ?_
    rw [← farL_succ q hp]
    exact farL_nodup hi
def nearestP (ps : List Pt) (x y : Int) (k : Int) (out : List Nat) : Prop :=
  if check ps = 0 ∧ fair x y = true ∧ 1 ≤ k then ∃ L, out = L.map (·.1) ∧ Near befF (farL ps (x, y) ps.length) L ∧ L.length = min k.toNat ps.length else out = []
theorem nearestP_uniq {ps : List Pt} {x y k : Int} {o1 o2 : List Nat} (h1 : nearestP ps x y k o1) (h2 : nearestP ps x y k o2) : o1 = o2 := by
  unfold nearestP at h1 h2
  split at h1
  · rename_i h
    rw [if_pos h] at h2
    obtain ⟨L1, rfl, q1, q2⟩ := h1
    obtain ⟨L2, rfl, q3, q4⟩ := h2
    rw [Near.uniq befF_ord q1 q3 (by omega)]
  · rename_i h
    rw [if_neg h] at h2
    rw [h1, h2]
theorem nearest_of {S h o : List Fa} {k : Nat} (hk : Keeps befF k S h) (he : Empties befF h [] o) : Near befF S o ∧ o.length = min k S.length := by
  have hp : o.Perm h := by simpa using he.perm
  obtain ⟨R, h1, h2⟩ := hk.ex
  exact ⟨⟨⟨R, (hp.append_right R).trans h1, fun r hr x hx => h2 r hr x (hp.mem_iff.1 hx)⟩, he.so⟩, by rw [hp.length_eq, hk.len]⟩
theorem keeps_nodup {S h : List Fa} {k : Nat} (hS : S.Nodup) (hk : Keeps befF k S h) : h.Nodup := by
  obtain ⟨R, h1, _⟩ := hk.ex
  exact (List.nodup_append.1 (h1.nodup_iff.2 hS)).1
theorem empties_init {S h : List Fa} {k : Nat} (hk : Keeps befF k S h) : Empties befF h h [] := ⟨hk.heap, by simp, List.Pairwise.nil, by simp⟩
end Go.Aw
