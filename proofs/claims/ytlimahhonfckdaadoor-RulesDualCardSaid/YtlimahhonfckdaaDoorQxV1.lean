/-
  Verdicts: what is decided stays, and is decided with as many rows as the horizon says. Plain Lean; no condition.
-/
import Derived.Test.YtlimahhonfckdaaDoorQuBr
import Derived.Test.YtlimahhonfckdaaDoorQuAr
namespace Go.Aw
set_option linter.unusedSimpArgs false
set_option linter.unusedVariables false

def leV (v w : Nat) : Prop := v = 2 ∨ v = w
theorem ntV_mono {v w : Nat} (h : leV v w) : leV (ntV v) (ntV w) := by
  rcases h with rfl | rfl
  · exact .inl rfl
  · exact .inr rfl
theorem bothV_mono {v w v' w' : Nat} (h : leV v v') (h' : leV w w') : leV (bothV v w) (bothV v' w') := by
  rcases h with rfl | rfl <;> rcases h' with rfl | rfl
  · exact .inl rfl
  · by_cases h0 : w = 0
    · exact .inr (by simp [bothV, h0])
    · exact .inl (by simp [bothV, h0])
  · by_cases h0 : v = 0
    · exact .inr (by simp [bothV, h0])
    · exact .inl (by simp [bothV, h0])
  · exact .inr rfl
theorem eithV_mono {v w v' w' : Nat} (h : leV v v') (h' : leV w w') : leV (eithV v w) (eithV v' w') := ntV_mono (bothV_mono (ntV_mono h) (ntV_mono h'))
theorem allS_mono {g h : Nat → Nat} (e : ∀ j, leV (g j) (h j)) : ∀ k : Nat, leV (allS g k) (allS h k)
  | 0 => .inr rfl
  | k + 1 => bothV_mono (allS_mono e k) (e k)
theorem anyS_mono {g h : Nat → Nat} (e : ∀ j, leV (g j) (h j)) : ∀ k : Nat, leV (anyS g k) (anyS h k)
  | 0 => .inr rfl
  | k + 1 => eithV_mono (anyS_mono e k) (e k)
theorem untS_mono {a b a' b' : Nat → Nat} {lo : Nat} (ea : ∀ j, leV (a j) (a' j)) (eb : ∀ j, leV (b j) (b' j)) : ∀ k : Nat, leV (untS a b lo k).1 (untS a' b' lo k).1 ∧ leV (untS a b lo k).2 (untS a' b' lo k).2
  | 0 => ⟨.inr rfl, .inr rfl⟩
  | k + 1 => by
    obtain ⟨h1, h2⟩ := untS_mono (lo := lo) ea eb k
    simp only [untS]
    refine ⟨bothV_mono h1 (ea k), ?_⟩
    split
    · exact eithV_mono h2 (bothV_mono h1 (eb k))
    · exact h2
theorem lessV_mono (n : Nd) (T S : List (List Int)) (i : Nat) : leV (lessV n T i) (lessV n (T ++ S) i) := by
  rcases Nat.lt_or_ge i T.length with h | h
  · refine .inr ?_
    unfold lessV
    rw [List.getElem?_append_left h]
  · refine .inl ?_
    unfold lessV
    rw [List.getElem?_eq_none h]
theorem vd_mono : ∀ (t : Fm) (T S : List (List Int)) (i : Nat), leV (vd t T i) (vd t (T ++ S) i)
  | .z n, T, S, i => by
    simp only [vd]
    split
    · exact .inr rfl
    · exact lessV_mono n T S i
  | .u n a, T, S, i => by
    simp only [vd]
    split
    · exact ntV_mono (vd_mono a T S i)
    · split
      · exact allS_mono (fun j => vd_mono a T S _) _
      · exact anyS_mono (fun j => vd_mono a T S _) _
  | .b n a b, T, S, i => by
    simp only [vd]
    split
    · exact bothV_mono (vd_mono a T S i) (vd_mono b T S i)
    · split
      · exact eithV_mono (vd_mono a T S i) (vd_mono b T S i)
      · exact (untS_mono (fun j => vd_mono a T S _) (fun j => vd_mono b T S _) _).2
theorem vd_take {t : Fm} {T : List (List Int)} {i n m : Nat} (h : n ≤ m) (hv : vd t (T.take n) i ≠ 2) : vd t (T.take m) i = vd t (T.take n) i := by
  have e : T.take m = T.take n ++ (T.take m).drop n := by
    have := List.take_append_drop n (T.take m)
    rw [List.take_take, Nat.min_eq_left h] at this
    exact this.symm
  rcases vd_mono t (T.take n) ((T.take m).drop n) i with h1 | h1
  · exact absurd h1 hv
  · rw [e, ← h1]

theorem ntV_ne {v : Nat} (h : v ≠ 2) : ntV v ≠ 2 := by unfold ntV; rw [if_neg h]; omega
theorem bothV_ne {v w : Nat} (h : v ≠ 2) (h' : w ≠ 2) : bothV v w ≠ 2 := by
  unfold bothV
  split
  · omega
  · rw [if_neg (by omega)]; omega
theorem eithV_ne {v w : Nat} (h : v ≠ 2) (h' : w ≠ 2) : eithV v w ≠ 2 := ntV_ne (bothV_ne (ntV_ne h) (ntV_ne h'))
theorem allS_ne {g : Nat → Nat} : ∀ {k : Nat}, (∀ j, j < k → g j ≠ 2) → allS g k ≠ 2
  | 0, _ => by simp [allS]
  | k + 1, e => bothV_ne (allS_ne fun j hj => e j (by omega)) (e k (by omega))
theorem anyS_ne {g : Nat → Nat} : ∀ {k : Nat}, (∀ j, j < k → g j ≠ 2) → anyS g k ≠ 2
  | 0, _ => by simp [anyS]
  | k + 1, e => eithV_ne (anyS_ne fun j hj => e j (by omega)) (e k (by omega))
theorem untS_ne1 {a b : Nat → Nat} {lo : Nat} : ∀ {k : Nat}, (∀ j, j < k → a j ≠ 2) → (untS a b lo k).1 ≠ 2
  | 0, _ => by simp [untS]
  | k + 1, e => bothV_ne (untS_ne1 fun j hj => e j (by omega)) (e k (by omega))
theorem untS_ne2 {a b : Nat → Nat} {lo : Nat} : ∀ {k : Nat}, (∀ j, j + 1 < k → a j ≠ 2) → (∀ j, j < k → b j ≠ 2) → (untS a b lo k).2 ≠ 2
  | 0, _, _ => by simp [untS]
  | k + 1, ea, eb => by
    have h2 := untS_ne2 (lo := lo) (k := k) (fun j hj => ea j (by omega)) fun j hj => eb j (by omega)
    simp only [untS]
    split
    · exact eithV_ne h2 (bothV_ne (untS_ne1 fun j hj => ea j (by omega)) (eb k (by omega)))
    · exact h2
theorem vd_dec : ∀ (t : Fm) (T : List (List Int)) (i : Nat), t.wf → (∀ n, n ∈ t.flat → okN n) → (i : Int) + t.hz < T.length → vd t T i ≠ 2
  | .z n, T, i, _, _, h => by
    simp only [Fm.hz] at h
    simp only [vd]
    split
    · omega
    · unfold lessV
      rw [List.getElem?_eq_getElem (by omega)]
      dsimp only
      split <;> split <;> omega
  | .u n a, T, i, hw, ho, h => by
    have hoa : ∀ m, m ∈ a.flat → okN m := fun m hm => ho m (by simp [Fm.flat, hm])
    obtain ⟨h1, h2, h3, h4, h5⟩ := ho n (by simp [Fm.flat])
    have ha := fun i => vd_dec a T i hw.2 hoa
    have hb := (hz_bd a hw.2 hoa).1
    simp only [Fm.hz] at h
    simp only [vd]
    split
    · rename_i e
      have := h5 (by omega) (by omega) (by omega)
      exact ntV_ne (ha i (by omega))
    · split
      · exact allS_ne fun j hj => ha _ (by omega)
      · exact anyS_ne fun j hj => ha _ (by omega)
  | .b n a b, T, i, hw, ho, h => by
    have hoa : ∀ m, m ∈ a.flat → okN m := fun m hm => ho m (by simp [Fm.flat, hm])
    have hob : ∀ m, m ∈ b.flat → okN m := fun m hm => ho m (by simp [Fm.flat, hm])
    obtain ⟨h1, h2, h3, h4, h5⟩ := ho n (by simp [Fm.flat])
    have ha := fun i => vd_dec a T i hw.2.1 hoa
    have hb := fun i => vd_dec b T i hw.2.2 hob
    have hza := (hz_bd a hw.2.1 hoa).1
    have hzb := (hz_bd b hw.2.2 hob).1
    have hw1 := hw.1
    simp only [Fm.hz] at h
    simp only [vd]
    split
    · rw [if_neg (by omega)] at h
      exact bothV_ne (ha i (by omega)) (hb i (by omega))
    · split
      · rw [if_neg (by omega)] at h
        exact eithV_ne (ha i (by omega)) (hb i (by omega))
      · rw [if_pos (by omega)] at h
        refine untS_ne2 (fun j hj => ha _ ?_) fun j hj => hb _ ?_
        · rw [if_pos (by omega)] at h
          omega
        · split at h <;> omega
end Go.Aw
