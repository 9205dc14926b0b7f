/-
  What the reference's selection of the nearest ones gives. No condition.
-/
import Derived.Test.YtecindhbaekncaaGreatPxF9
namespace Go.Aw
set_option linter.unusedSimpArgs false
set_option linter.unusedVariables false
open Go.Heap

def faD (D : Nat → Int) (i : Nat) : Fa := (i, D i)
theorem farL_range {ps : List Pt} {q : Int × Int} {D : Nat → Int} (hD : ∀ i p, ps[i]? = some p → D i = dist2 q (ptS p)) : ∀ i, i ≤ ps.length → farL ps q i = (List.range i).map (faD D)
  | 0, _ => farL_zero ps q
  | i + 1, hi => by
    have hp : ps[i]? = some ps[i] := List.getElem?_eq_getElem hi
    rw [farL_succ q hp, farL_range hD i (by omega), List.range_succ, List.map_append, ← hD i _ hp]
    rfl
def bst (D : Nat → Int) (o : List Nat) : Nat → Int
  | 0 => -1
  | i + 1 => if i ∉ o ∧ (bst D o i < 0 ∨ D i < D (bst D o i).toNat) then i else bst D o i
theorem bst_spec (D : Nat → Int) (o : List Nat) : ∀ i, (bst D o i = -1 ∧ ∀ j, j < i → j ∈ o) ∨ ∃ b : Nat, bst D o i = b ∧ b < i ∧ b ∉ o ∧ ∀ j, j < i → j ∉ o → j = b ∨ befF (faD D b) (faD D j)
  | 0 => .inl ⟨rfl, fun j hj => absurd hj (Nat.not_lt_zero j)⟩
  | i + 1 => by
    have ih := bst_spec D o i
    simp only [bst]
    split
    · rename_i h
      refine .inr ⟨i, rfl, by omega, h.1, fun j hj hjo => ?_⟩
      rcases Nat.lt_succ_iff_lt_or_eq.1 hj with hj | hj
      · rcases ih with ⟨e, hall⟩ | ⟨b, e, hb, hbo, hall⟩
        · exact absurd (hall j hj) hjo
        · rcases h.2 with h2 | h2
          · omega
          · rw [e, Int.toNat_natCast] at h2
            right
            rcases hall j hj hjo with rfl | h3
            · exact .inl h2
            · refine .inl ?_
              simp only [befF, faD] at h3 ⊢
              omega
      · exact .inl hj
    · rename_i h
      by_cases hi : i ∈ o
      · rcases ih with ⟨e, hall⟩ | ⟨b, e, hb, hbo, hall⟩
        · refine .inl ⟨e, fun j hj => ?_⟩
          rcases Nat.lt_succ_iff_lt_or_eq.1 hj with hj | rfl
          · exact hall j hj
          · exact hi
        · refine .inr ⟨b, e, by omega, hbo, fun j hj hjo => ?_⟩
          rcases Nat.lt_succ_iff_lt_or_eq.1 hj with hj | rfl
          · exact hall j hj hjo
          · exact absurd hi hjo
      · rcases ih with ⟨e, hall⟩ | ⟨b, e, hb, hbo, hall⟩
        · exact absurd ⟨hi, .inl (by omega)⟩ h
        · have h2 : ¬ D i < D b := fun h2 => h ⟨hi, .inr (by rw [e, Int.toNat_natCast]; exact h2)⟩
          refine .inr ⟨b, e, by omega, hbo, fun j hj hjo => ?_⟩
          rcases Nat.lt_succ_iff_lt_or_eq.1 hj with hj | rfl
          · exact hall j hj hjo
          · right
            simp only [befF, faD]
            omega
def sel (D : Nat → Int) (n : Nat) : Nat → List Nat
  | 0 => []
  | m + 1 => sel D n m ++ [(bst D (sel D n m) n).toNat]
theorem sel_len (D : Nat → Int) (n : Nat) : ∀ m, (sel D n m).length = m
  | 0 => rfl
  | m + 1 => by simp [sel, sel_len D n m]
theorem sel_spec (D : Nat → Int) (n : Nat) : ∀ m, m ≤ n → ∃ R, (sel D n m ++ R).Perm (List.range n) ∧ (∀ r, r ∈ R → ∀ o, o ∈ sel D n m → befF (faD D o) (faD D r)) ∧ ((sel D n m).map (faD D)).Pairwise befF
  | 0, _ => ⟨List.range n, by simp [sel], by simp [sel], by simp [sel]⟩
  | m + 1, hm => by
    obtain ⟨R, h1, h2, h3⟩ := sel_spec D n m (by omega)
    have hnd : (sel D n m ++ R).Nodup := h1.nodup_iff.2 List.nodup_range
    have hlen := h1.length_eq
    rw [List.length_append, sel_len, List.length_range] at hlen
    rcases bst_spec D (sel D n m) n with ⟨_, hall⟩ | ⟨b, e, hb, hbo, hall⟩
    · exfalso
      obtain ⟨r, hr⟩ : ∃ r, r ∈ R := by
        cases R with
        | nil => simp at hlen; omega
        | cons r R => exact ⟨r, by simp⟩
      have hrn : r < n := List.mem_range.1 (h1.mem_iff.1 (by simp [hr]))
      exact (List.nodup_append.1 hnd).2.2 r (hall r hrn) r hr rfl
    · have hbR : b ∈ R := by
        rcases List.mem_append.1 (h1.mem_iff.2 (List.mem_range.2 hb)) with h | h
        · exact absurd h hbo
        · exact h
      have hp := List.perm_cons_erase hbR
      have hndR : R.Nodup := (List.nodup_append.1 hnd).2.1
      refine ⟨R.erase b, ?_, fun r hr o ho => ?_, ?_⟩
      · simp only [sel, e, Int.toNat_natCast, List.append_assoc, List.singleton_append]
        exact (List.Perm.append_left _ hp.symm).trans h1
      · have hrR := List.mem_of_mem_erase hr
        simp only [sel, e, Int.toNat_natCast, List.mem_append, List.mem_singleton] at ho
        rcases ho with ho | rfl
        · exact h2 r hrR o ho
        · have hrn : r < n := List.mem_range.1 (h1.mem_iff.1 (by simp [hrR]))
          have hro : r ∉ sel D n m := fun h => (List.nodup_append.1 hnd).2.2 r h r hrR rfl
          rcases hall r hrn hro with rfl | h
          · exact absurd hr (by rw [hndR.mem_erase_iff]; simp)
          · exact h
      · simp only [sel, e, Int.toNat_natCast, List.map_append, List.map_cons, List.map_nil]
        refine List.pairwise_append.2 ⟨h3, by simp, fun x hx y hy => ?_⟩
        obtain ⟨o, ho, rfl⟩ := List.mem_map.1 hx
        rw [List.mem_singleton.1 hy]
        exact h2 b hbR o ho
def distP (ps : List Pt) (q : Int × Int) (i : Nat) : Int := dist2 q (ptS (ps.getD i (0, 0, 0)))
theorem distP_of {ps : List Pt} {q : Int × Int} {i : Nat} {p : Pt} (hp : ps[i]? = some p) : distP ps q i = dist2 q (ptS p) := by
  simp [distP, List.getD_eq_getElem?_getD, hp]
theorem sel_nearest (ps : List Pt) (x y k : Int) (hc : check ps = 0) (hf : fair x y = true) : sel (distP ps (x, y)) ps.length (min k.toNat ps.length) = nearestL ps x y k := by
  refine nearestP_uniq (ps := ps) (x := x) (y := y) (k := k) ?_ (nearestL_spec ps x y k)
  unfold nearestP
  split
  · rename_i h
    obtain ⟨R, h1, h2, h3⟩ := sel_spec (distP ps (x, y)) ps.length (min k.toNat ps.length) (by omega)
    have hfl : farL ps (x, y) ps.length = (List.range ps.length).map (faD (distP ps (x, y))) := farL_range (fun i p hp => distP_of hp) _ (Nat.le_refl _)
    refine ⟨(sel (distP ps (x, y)) ps.length (min k.toNat ps.length)).map (faD (distP ps (x, y))), ?_, ⟨⟨R.map (faD (distP ps (x, y))), ?_, ?_⟩, h3⟩, by rw [List.length_map, sel_len]⟩
    · rw [List.map_map]
      exact (List.map_id _).symm
    · rw [hfl, ← List.map_append]
      exact h1.map _
    · intro r hr o ho
      obtain ⟨r', hr', rfl⟩ := List.mem_map.1 hr
      obtain ⟨o', ho', rfl⟩ := List.mem_map.1 ho
      exact h2 r' hr' o' ho'
  · rename_i h
    have : k.toNat = 0 := by
      have : ¬ 1 ≤ k := fun hk => h ⟨hc, hf, hk⟩
      omega
    rw [this, Nat.zero_min]
    rfl
end Go.Aw
