/-
  ReleaseStays: its plain laws. No condition.
-/
import Derived.Test.YtmmnjelmahcbaaaPxN37
import Derived.Test.YtmmnjelmahcbaaaPxN35a
namespace Go.Aw
set_option linter.unusedSimpArgs false
set_option linter.unusedVariables false
open Go.RowKit Go.Proofs Go.Nt Go.Rl

theorem stg_le {s : Stg} (h : stgB s = true) : 1 ≤ s.le ∧ s.le ≤ 60 ∧ 0 ≤ s.sh ∧ s.sh ≤ 100 := by
  unfold stgB at h
  simp only [Bool.and_eq_true, decide_eq_true_eq] at h
  omega
/-- A valid state stays valid when a report is counted and judged. -/
theorem jud_ok {s : Sta} {t : Nat} (hc : chkS s = 0) (hp : s.ph = 1) (ht : s.st = t) (hl : t < s.ps.length) (ha : s.al < 1099511627776) (bad : Bool) :
    chkS (judS (cntS s bad) s.ps[t]) = 0 := by
  obtain ⟨h1, h2, h3, h4, h5, h6, h7, h8⟩ := (chkS_iff s).1 hc
  have hall := List.all_eq_true.1 (stgs_all h5).2.2
  have hg := stg_le (hall _ (List.getElem_mem hl))
  have hlen : leO s = (s.ps[t]).le := by
    unfold leO
    rw [ht, Int.toNat_natCast, List.getElem?_eq_getElem hl]; rfl
  rw [hlen] at h8
  simp only [cntB, decide_eq_true_eq] at h7
  have h9 : s.gt < (s.ps[t]).le := by
    rcases h8 with h8 | h8
    · exact h8
    · exact absurd hp h8.2
  have hb : 0 ≤ (cntS s bad).bd ∧ (cntS s bad).bd ≤ s.gt + 1 := by
    unfold cntS; cases bad <;> simp <;> omega
  have key : ∀ ph, ph = 1 ∨ ph = 2 ∨ ph = 3 → (s.gt + 1 < (s.ps[t]).le ∨ ph ≠ 1) → chkS { cntS s bad with ph := ph } = 0 := by
    intro ph hph hgt
    refine (chkS_iff _).2 ⟨h1, h2, h3, h4, h5, by simp only [phB, decide_eq_true_eq]; exact hph, ?_, ?_⟩
    · simp only [cntB, decide_eq_true_eq]
      show 0 ≤ s.st ∧ s.st < s.ps.length ∧ 0 ≤ (cntS s bad).bd ∧ (cntS s bad).bd ≤ s.gt + 1 ∧ s.gt + 1 ≤ s.al + 1 ∧ s.al + 1 ≤ 1099511627776
      omega
    · show s.gt + 1 < leO { cntS s bad with ph := ph } ∨ (s.gt + 1 = leO { cntS s bad with ph := ph } ∧ ph ≠ 1)
      rw [show leO { cntS s bad with ph := ph } = (s.ps[t]).le from hlen]
      omega
  unfold judS
  split
  · exact key 3 (by omega) (by omega)
  · split
    · split
      · exact key 2 (by omega) (by omega)
      · rename_i h10
        have h11 : ¬ s.st + 1 = s.ps.length := h10
        have hl2 : t + 1 < s.ps.length := by omega
        have hg2 := stg_le (hall _ (List.getElem_mem hl2))
        refine (chkS_iff _).2 ⟨h1, h2, h3, h4, h5, h6, ?_, ?_⟩
        · simp only [cntB, decide_eq_true_eq]
          show 0 ≤ s.st + 1 ∧ s.st + 1 < s.ps.length ∧ (0 : Int) ≤ 0 ∧ (0 : Int) ≤ 0 ∧ 0 ≤ s.al + 1 ∧ s.al + 1 ≤ 1099511627776
          omega
        · left
          show (0 : Int) < ((s.ps[(s.st + 1).toNat]?).map Stg.le).getD 0
          rw [ht, show ((t : Int) + 1).toNat = t + 1 by omega, List.getElem?_eq_getElem hl2]
          show 0 < (s.ps[t + 1]).le
          omega
    · split
      · exact key 3 (by omega) (by omega)
      · rename_i h10
        have h11 : ¬ s.gt + 1 ≥ (s.ps[t]).le := h10
        have := key s.ph (by omega) (by omega)
        exact this
theorem jud_same (s : Sta) (bad : Bool) (g : Stg) : (judS (cntS s bad) g).k = s.k ∧ (judS (cntS s bad) g).ol = s.ol ∧ (judS (cntS s bad) g).nw = s.nw ∧ (judS (cntS s bad) g).ps = s.ps ∧ (judS (cntS s bad) g).al = s.al + 1 ∧ s.st ≤ (judS (cntS s bad) g).st := by
  unfold judS
  split
  · exact ⟨rfl, rfl, rfl, rfl, rfl, Int.le_refl _⟩
  · split
    · split
      · exact ⟨rfl, rfl, rfl, rfl, rfl, Int.le_refl _⟩
      · exact ⟨rfl, rfl, rfl, rfl, rfl, by show s.st ≤ s.st + 1; omega⟩
    · split
      · exact ⟨rfl, rfl, rfl, rfl, rfl, Int.le_refl _⟩
      · exact ⟨rfl, rfl, rfl, rfl, rfl, Int.le_refl _⟩
/-- A stage that is passed was shown to hold. -/
theorem jud_pass {s : Sta} {bad : Bool} {g : Stg} (hp : s.ph = 1) (h : s.st < (judS (cntS s bad) g).st ∨ (judS (cntS s bad) g).ph = 2) :
    holdsB (s.gt + 1) (cntS s bad).bd g.rn g.rd g.an g.ad = true ∧ ((judS (cntS s bad) g).ph = 1 → (judS (cntS s bad) g).gt = 0 ∧ (judS (cntS s bad) g).bd = 0) := by
  unfold judS at h ⊢
  split
  · rename_i h1
    rw [if_pos h1] at h
    rcases h with h | h
    · exact absurd h (Int.lt_irrefl _)
    · cases h
  · rename_i h1
    rw [if_neg h1] at h
    split
    · rename_i h2
      refine ⟨h2, ?_⟩
      split
      · intro h3; cases h3
      · intro _; exact ⟨rfl, rfl⟩
    · rename_i h2
      rw [if_neg h2] at h
      split at h
      · rcases h with h | h
        · exact absurd h (Int.lt_irrefl _)
        · cases h
      · rcases h with h | h
        · exact absurd h (Int.lt_irrefl _)
        · exact absurd (show s.ph = 2 from h) (by omega)
theorem jud_on {s : Sta} {bad : Bool} {g : Stg} (hp : s.ph = 1) (h : ¬ (s.st < (judS (cntS s bad) g).st ∨ (judS (cntS s bad) g).ph = 2)) (h1 : (judS (cntS s bad) g).ph = 1) :
    (judS (cntS s bad) g).gt = s.gt + 1 ∧ (judS (cntS s bad) g).bd = (cntS s bad).bd := by
  unfold judS at h h1 ⊢
  split at h1
  · cases h1
  · rename_i q1
    rw [if_neg q1] at h ⊢
    split at h1
    · rename_i q2
      rw [if_pos q2] at h ⊢
      split at h1
      · cases h1
      · rename_i q3
        rw [if_neg q3] at h
        exact absurd (.inl (show s.st < s.st + 1 by omega)) h
    · rename_i q2
      rw [if_neg q2] at h ⊢
      split at h1
      · cases h1
      · rename_i q3
        rw [if_neg q3]
        exact ⟨rfl, rfl⟩
theorem need_le {h : Int → Bool} {m n : Int} (hn : 0 ≤ n) (hnm : n ≤ m) (hm : m ≤ 60) (hh : h m = true) : need h n ≤ m := by
  obtain ⟨d, hd⟩ : ∃ d : Nat, d = (m - n).toNat := ⟨_, rfl⟩
  induction d generalizing n with
  | zero =>
    obtain rfl : n = m := by omega
    rw [need_step hm, if_pos hh]; exact Int.le_refl _
  | succ d ih =>
    rw [need_step (by omega)]
    split
    · exact hnm
    · exact ih (by omega) (by omega) (by omega)
/-- What is counted of good reports. -/
def GoodI (s : Sta) (good : Int) : Prop := s.ph = 1 → (good = s.gt ∧ s.bd = 0) ∨ (good = -100 ∧ 0 < s.bd)
def goodI (s : Sta) (good : Int) (bad : Bool) : Int := if bad || decide (s.bd > 0) then -100 else good + 1
theorem good_pass {s : Sta} {bad : Bool} {g : Stg} {good : Int} (hc : cntB s = true) (hp : s.ph = 1) (hg : GoodI s good) (hs : s.gt < 60) (h : s.st < (judS (cntS s bad) g).st ∨ (judS (cntS s bad) g).ph = 2) :
    (goodI s good bad ≥ 0 → neededI 0 g.rn g.rd g.an g.ad ≤ goodI s good bad) ∧ GoodI (judS (cntS s bad) g) 0 := by
  obtain ⟨h1, h2⟩ := jud_pass hp h
  simp only [cntB, decide_eq_true_eq] at hc
  refine ⟨fun h3 => ?_, fun h4 => .inl ⟨(h2 h4).1.symm, (h2 h4).2⟩⟩
  unfold goodI at h3 ⊢
  split at h3
  · omega
  · rename_i h5
    rw [if_neg h5]
    simp only [Bool.or_eq_true, decide_eq_true_eq, not_or, Bool.not_eq_true] at h5
    obtain ⟨rfl, h6⟩ := h5
    rcases hg hp with ⟨h7, h8⟩ | ⟨h7, h8⟩
    · have h9 : holdsB (s.gt + 1) 0 g.rn g.rd g.an g.ad = true := by
        have : (cntS s false).bd = 0 := h8
        rw [this] at h1; exact h1
      unfold neededI
      rw [if_pos (Int.le_refl _), h7]
      exact need_le (h := fun n => holdsB n 0 g.rn g.rd g.an g.ad) (Int.le_refl _) (by omega) (by omega) h9
    · omega
theorem good_on {s : Sta} {bad : Bool} {g : Stg} {good : Int} (hc : cntB s = true) (hp : s.ph = 1) (hg : GoodI s good) (h : ¬ (s.st < (judS (cntS s bad) g).st ∨ (judS (cntS s bad) g).ph = 2)) :
    GoodI (judS (cntS s bad) g) (goodI s good bad) := by
  intro h1
  obtain ⟨h2, h3⟩ := jud_on hp h h1
  simp only [cntB, decide_eq_true_eq] at hc
  rw [h2, h3]
  unfold goodI
  rcases hg hp with ⟨h7, h8⟩ | ⟨h7, h8⟩
  · cases bad
    · left
      rw [if_neg (by simp; omega)]
      exact ⟨by omega, h8⟩
    · right
      rw [show (true || decide (s.bd > 0)) = true from rfl, if_pos rfl]
      refine ⟨rfl, ?_⟩
      show 0 < s.bd + 1
      omega
  · right
    rw [if_pos (by simp; omega)]
    refine ⟨rfl, ?_⟩
    unfold cntS
    cases bad
    · exact h8
    · show 0 < s.bd + 1
      omega
/-- Some part has the new version at every stage past the first. -/
theorem some_new {s : Sta} (hc : chkS s = 0) (hp : s.ph = 1) (hs : 0 < s.st) : ∃ c : Nat, (c : Int) < s.k ∧ hasI s c = s.nw := by
  obtain ⟨h1, h2, h3, h4, h5, h6, h7, h8⟩ := (chkS_iff s).1 hc
  have hst := stgs_all h5
  have hall := List.all_eq_true.1 hst.2.2
  simp only [cntB, decide_eq_true_eq] at h7
  obtain ⟨t, ht⟩ : ∃ t : Nat, s.st = t := ⟨s.st.toNat, by omega⟩
  have hl : t < s.ps.length := by omega
  have hrow : rowB s.ps = true := by
    unfold stgsC at h5
    rw [if_neg (by omega), if_neg (by omega), if_pos hst.2.2] at h5
    split at h5
    · assumption
    · cases h5
  unfold rowB at hrow
  simp only [Bool.and_eq_true, decide_eq_true_eq] at hrow
  have hg := stg_le (hall _ (List.getElem_mem hl))
  have h0l : 0 < s.ps.length := by omega
  have hg0 := stg_le (hall _ (List.getElem_mem h0l))
  have hlt : (s.ps[0]).sh < (s.ps[t]).sh := by
    have := (List.pairwise_iff_getElem.1 hrow.1) 0 t h0l hl (by omega)
    exact this
  obtain ⟨sh, hsh⟩ : ∃ x : Nat, (s.ps[t]).sh = x := ⟨((s.ps[t]).sh).toNat, by omega⟩
  simp only [inB, Bool.and_eq_true, decide_eq_true_eq] at h2 h3
  obtain ⟨k, hk⟩ : ∃ x : Nat, s.k = x := ⟨s.k.toNat, by omega⟩
  have hsB : shareB s.nw s.k (s.ps[t]).sh = true := by
    simp only [shareB, ordB, Bool.and_eq_true, decide_eq_true_eq]; omega
  have hlen := share_len hsB
  have hpos : 0 < partN s.k.toNat (s.ps[t]).sh.toNat := by
    have h9 := part_ceil s.k.toNat (s.ps[t]).sh.toNat
    rw [hk, hsh, Int.toNat_natCast, Int.toNat_natCast] at h9 ⊢
    have h10 : 1 * 1 ≤ k * sh := Nat.mul_le_mul (by omega) (by omega)
    have h11 : (k : Int) * sh = ((k * sh : Nat) : Int) := by simp
    omega
  obtain ⟨c, hcm⟩ : ∃ c, c ∈ shareD s.nw s.k (s.ps[t]).sh := by
    cases hx : shareD s.nw s.k (s.ps[t]).sh with
    | nil => rw [hx] at hlen; simp at hlen; omega
    | cons a l => exact ⟨a, by simp⟩
  have hcb : 0 ≤ c ∧ c < s.k := by
    rw [share_in hsB] at hcm
    have h12 := sortK_mem.1 (List.mem_of_mem_take hcm)
    omega
  refine ⟨c.toNat, by omega, ?_⟩
  rw [show ((c.toNat : Nat) : Int) = c by omega]
  unfold hasI
  rw [if_pos ⟨hc, hcb⟩]
  have : newB s c = true := by
    unfold newB
    rw [if_pos hp, ht, Int.toNat_natCast, List.getElem?_eq_getElem hl]
    exact decide_eq_true hcm
  rw [this, if_pos rfl]
end Go.Aw
