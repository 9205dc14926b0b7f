/-
  Plain laws of hulls of valid clouds: all is inside, the hull backwards, of its corners. No condition.
-/
import Derived.Test.YtecindhbaekncaaPxH10
import Derived.Test.YtecindhbaekncaaPxC18
import Derived.Test.YtecindhbaekncaaPcD
namespace Go.Aw
set_option linter.unusedSimpArgs false
set_option linter.unusedVariables false
open Go.RowKit Go.Proofs Go.Rg

theorem side_ge {a b p : Sp} (h : 0 ≤ cr a b p) : 0 ≤ sideV a b p := by
  unfold sideV
  split
  · unfold sgn
    split
    · omega
    · split <;> omega
  · exact Int.le_refl _
theorem side_zero {a b p : Sp} (h : cr a b p = 0) : sideV a b p = 0 := by
  unfold sideV
  split
  · rw [h]; rfl
  · rfl
theorem hull_inside {S H : List Sp} (hH : isHull S H) (hf : ∀ p, p ∈ S → fairS p = true) (hl : H.length ≤ 1000) {p : Sp} (hp : p ∈ S) : insV H p = true := by
  have hfH : ∀ q, q ∈ H → fairS q = true := fun q hq => hf q (isHull_sub hH q hq)
  have hc : cornersV H = true := by
    simp only [cornersV, Bool.and_eq_true, decide_eq_true_eq, List.all_eq_true]
    exact ⟨hl, hfH⟩
  have hne : H ≠ [] := by
    rintro rfl
    rcases hH with ⟨rfl, _⟩ | ⟨q, h, _⟩ | ⟨h, t, h1, _⟩
    · cases hp
    · cases h
    · cases h1
  have he : H.isEmpty = false := by simpa using hne
  unfold insV
  rw [he, hc, hf p hp]
  simp only [Bool.not_false, Bool.true_and]
  match H, hH, hne, hfH with
  | [a], hH, _, hfH =>
    have hpa : p = a := by
      rcases hH with ⟨_, h⟩ | ⟨q, h1, _, h3⟩ | ⟨h, t, h1, h2, _⟩
      · cases h
      · cases h1
        exact h3 p hp
      · cases h1
        exact absurd rfl h2
    subst hpa
    rw [if_pos (by simp)]
    show blkV p p p p = true
    rw [blk_one (hf p hp) (hf p hp)]
    simp
  | [a, b], hH, _, hfH =>
    rw [if_pos (by simp)]
    show blkV a b p p = true
    obtain ⟨h0, h1, h2, h3, h4⟩ := hull_two hH hp
    have hb : btwV a b p = true := by
      simp only [btwV, Bool.and_eq_true, decide_eq_true_eq]
      exact ⟨⟨⟨h1, h2⟩, h3⟩, h4⟩
    simp [blkV, hfH a (by simp), hfH b (by simp), hf p hp, side_zero h0, hb]
  | a :: b :: c :: t, hH, _, hfH =>
    rw [if_neg (by simp)]
    rw [List.all_eq_true]
    intro i hi
    have hi' := List.mem_range.1 hi
    simp only [decide_eq_true_eq]
    exact side_ge (hull_left hH (by simp) hp hi')
theorem cloud_fairS {l : List Pt} (hc : check l = 0) : ∀ p, p ∈ l.map ptS → fairS p = true := fun p hp => by
  obtain ⟨q, hq, rfl⟩ := List.mem_map.1 hp
  obtain ⟨i, hi⟩ := List.getElem?_of_mem hq
  exact check_fair hc hi
theorem check_rev {l : List Pt} (hc : check l = 0) : check l.reverse = 0 := by
  unfold check at hc ⊢
  rw [List.length_reverse]
  split at hc
  · cases hc
  · rename_i h
    rw [if_neg h, List.all_reverse]
    exact hc
/-- A spot as a point that rests. -/
def cornP (q : Sp) : Pt := (q.1, q.2, 0)
theorem ptS_corn (H : List Sp) : (H.map cornP).map ptS = H := by
  rw [List.map_map]
  exact (List.map_congr_left (g := id) fun q _ => rfl).trans (List.map_id _)
theorem check_corn {H : List Sp} (hl : H.length ≤ 1000) (hf : ∀ q, q ∈ H → fairS q = true) : check (H.map cornP) = 0 := by
  unfold check
  rw [List.length_map, if_neg (by omega), if_pos]
  rw [List.all_eq_true]
  intro p hp
  obtain ⟨q, hq, rfl⟩ := List.mem_map.1 hp
  have := hf q hq
  simp only [fairS] at this
  simp only [okP, cornP, this]
  rfl
theorem hull_pos {S H : List Sp} (hH : isHull S H) : 0 < H.length ↔ 0 < S.length := by
  rcases hH with ⟨rfl, rfl⟩ | ⟨q, rfl, h2, _⟩ | ⟨h, t, rfl, _, h3, _⟩
  · simp
  · have := List.length_pos_of_mem h2
    simp [this]
  · have := List.length_pos_of_mem h3
    simp [this]
theorem hull_areaV {S H : List Sp} (hH : isHull S H) (hf : ∀ p, p ∈ S → fairS p = true) (hl : H.length ≤ 1000) (h3 : 3 ≤ H.length) : 0 < area2V H := by
  have hc : cornersV H = true := by
    simp only [cornersV, Bool.and_eq_true, decide_eq_true_eq, List.all_eq_true]
    exact ⟨hl, fun q hq => hf q (isHull_sub hH q hq)⟩
  unfold area2V
  rw [if_pos ⟨h3, hc⟩]
  exact hull_area hH h3
theorem q47 (x y z : Int) : PD Try.prog 47 [.agg [.int .i64 x, .int .i64 y, .int .i64 z]] (.agg [.d (.int .i64 x), .d (.int .i64 y)]) := by
  refine pd_of (fn := Try.f47) [.cell 2 34] (by kernel_rfl) rfl (by kernel_rfl) (Nat.le_of_ble_eq_true rfl) (by kernel_rfl) rfl rfl ?_
  refine awp_seq ?_
  refine awpF_region ?_; intro K hK; simp only [push_cast, seval]; (try simp (disch := omega) only [wrapI]); (repeat ((with_reducible refine And.intro ?_ ?_); (focus (exact ob1)))); refine hK _ ?_; clear hK; clear K
  refine awp_seq ?_
  refine awpF_region ?_; intro K hK; simp only [push_cast, seval]; (try simp (disch := omega) only [wrapI]); (repeat ((with_reducible refine And.intro ?_ ?_); (focus (exact ob1)))); refine hK _ ?_; clear hK; clear K
  refine awp_ret ?_; (repeat (first | refine then_ret ?_ | refine inblock_ret ?_)); refine fin_of (by simp only [push_cast, seval]; first | done | rfl) ob1 ?_
  rfl
/-- One of the first points lies there. -/
def atSpot (s : Sp) (l : List Pt) : Bool := l.any fun q => decide (ptS q = s)
theorem atSpot_take {s : Sp} {l : List Pt} {k : Nat} (hk : k < l.length) : atSpot s (l.take (k + 1)) = (atSpot s (l.take k) || decide (ptS l[k] = s)) := by
  unfold atSpot
  rw [List.take_add_one, List.getElem?_eq_getElem hk, List.any_append]
  simp only [Option.toList_some, List.any_cons, List.any_nil, Bool.or_false]
end Go.Aw
