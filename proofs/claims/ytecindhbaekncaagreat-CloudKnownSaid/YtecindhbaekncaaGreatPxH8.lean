/-
  Contracts of slices.Compact and slices.Reverse over an own row of spots, of chain and of the iterator's making. Conditions: lengths that fit.
-/
import Derived.Test.YtecindhbaekncaaGreatPxH7
import Derived.Test.YtecindhbaekncaaGreatPxH5i
import Derived.Test.YtecindhbaekncaaGreatPxAwCl
import Derived.Test.YtecindhbaekncaaGreatPkT
namespace Go.Aw
set_option linter.unusedSimpArgs false
set_option linter.unusedVariables false
open Go.RowKit Go.Proofs Go.Rg

def cmpR (l : List Sp) : List Sp := l.foldl (fun s p => if s.getLast? = some p then s else s ++ [p]) []
theorem cmpR_snoc0 (l : List Sp) (p : Sp) : cmpR (l ++ [p]) = if (cmpR l).getLast? = some p then cmpR l else cmpR l ++ [p] := by
  simp only [cmpR, List.foldl_append, List.foldl_cons, List.foldl_nil]
  rfl
theorem cmpR_last (l : List Sp) : (cmpR l).getLast? = l.getLast? := by
  induction l using snoc_ind with
  | h0 => rfl
  | h1 l a ih =>
    rw [cmpR_snoc0]
    split
    · rename_i h
      rw [h, List.getLast?_append]
      rfl
    · simp
theorem cmpR_snoc (l : List Sp) (p : Sp) : cmpR (l ++ [p]) = if l.getLast? = some p then cmpR l else cmpR l ++ [p] := by
  rw [cmpR_snoc0, cmpR_last]
theorem cmpR_len (l : List Sp) : (cmpR l).length ≤ l.length := by
  induction l using snoc_ind with
  | h0 => exact Nat.le_refl _
  | h1 l a ih =>
    rw [cmpR_snoc]
    split <;> simp <;> omega
theorem take_at {zs : List Sp} {k : Nat} (hk : k < zs.length) : zs.take (k + 1) = zs.take k ++ [atS zs k] := by
  rw [List.take_add_one, List.getElem?_eq_getElem hk, atS_get hk]; rfl
theorem cmpR_step {zs : List Sp} {k : Nat} (h1 : 1 ≤ k) (hk : k < zs.length) : cmpR (zs.take (k + 1)) = if atS zs k = atS zs (k - 1) then cmpR (zs.take k) else cmpR (zs.take k) ++ [atS zs k] := by
  rw [take_at hk, cmpR_snoc]
  have : (zs.take k).getLast? = some (atS zs (k - 1)) := by
    obtain ⟨j, rfl⟩ : ∃ j, k = j + 1 := ⟨k - 1, by omega⟩
    rw [take_at (by omega)]
    simp
  rw [this]
  simp only [Option.some.injEq]
  by_cases h : atS zs (k - 1) = atS zs k
  · rw [if_pos h, if_pos h.symm]
  · rw [if_neg h, if_neg fun e => h e.symm]
theorem cmpR_mem {l : List Sp} : ∀ r, r ∈ cmpR l ↔ r ∈ l := by
  induction l using snoc_ind with
  | h0 => intro r; exact Iff.rfl
  | h1 l a ih =>
    intro r
    rw [cmpR_snoc]
    split
    · rename_i h
      rw [ih, List.mem_append, List.mem_singleton]
      refine ⟨.inl, fun h' => ?_⟩
      rcases h' with h' | rfl
      · exact h'
      · exact List.mem_of_getLast? h
    · rw [List.mem_append, List.mem_append, ih]
theorem cmpR_sorted {l : List Sp} (h : l.Pairwise fun a b => ltS a b ∨ a = b) : (cmpR l).Pairwise ltS := by
  induction l using snoc_ind with
  | h0 => exact List.Pairwise.nil
  | h1 l a ih =>
    obtain ⟨h1, _, h3⟩ := List.pairwise_append.1 h
    rw [cmpR_snoc]
    split
    · exact ih h1
    · rename_i hne
      refine List.pairwise_append.2 ⟨ih h1, List.pairwise_singleton _ _, fun x hx y hy => ?_⟩
      simp only [List.mem_singleton] at hy
      subst hy
      have hxl := (cmpR_mem x).1 hx
      rcases h3 x hxl y (by simp) with h | rfl
      · exact h
      · exfalso
        -- the last one is between
        cases hl : l.getLast? with
        | none =>
          rw [List.getLast?_eq_none_iff] at hl
          subst hl
          cases hxl
        | some z =>
          have hz := List.mem_of_getLast? hl
          obtain ⟨l', hl'⟩ : ∃ l', l = l' ++ [z] := by
            rw [List.getLast?_eq_some_iff] at hl
            exact hl
          have hzx := h3 z hz x (by simp)
          have hno : z ≠ x := fun e => hne (by rw [hl, e])
          rw [hl'] at hxl h1
          rcases List.mem_append.1 hxl with hm | hm
          · have hxz := (List.pairwise_append.1 h1).2.2 x hm z (by simp)
            rcases hxz with hxz | hxz
            · rcases hzx with hzx | hzx
              · exact ltS_irrefl x (ltS_trans hxz hzx)
              · exact hno hzx
            · exact hno hxz.symm
          · simp only [List.mem_singleton] at hm
            exact hno hm.symm

theorem atS_set {l : List Sp} {a j : Nat} {v : Sp} (ha : a < l.length) : atS (l.set a v) j = if a = j then v else atS l j := by
  unfold atS
  rw [List.getElem?_set]
  split
  · rename_i h
    subst h
    first | rw [if_pos ha]; rfl | rfl
  · rfl
theorem p90 (k : Nat) (H : List Blk) (m : Nat) (hk : k ≤ 1000000) : AC Tryz.prog 43 [.ref m 0 k] H (List.range H.length) fun x H' => x = .fn (.func 63) [.ptr H.length 0 0] ∧ H' = H ++ [.cells [.ref m 0 k]] := by
  refine ac_ofF (fn := Tryz.f43) [.tmp 2] (by kernel_rfl) rfl (by kernel_rfl) (Nat.le_of_ble_eq_true rfl) (by kernel_rfl) rfl ?_
  refine awp_seq ?_
  refine awpF_region ?_; intro K hK; simp only [push_cast, seval]; (try simp (disch := omega) only [wrapI]); (repeat ((with_reducible refine And.intro ?_ ?_); (focus (exact ob1)))); refine hK _ ?_; clear hK; clear K
  refine awp_seq ?_
  refine awpF_region ?_; intro K hK; simp only [push_cast, seval]; (try simp (disch := omega) only [wrapI]); (repeat ((with_reducible refine And.intro ?_ ?_); (focus (exact ob1)))); refine hK _ ?_; clear hK; clear K
  refine awp_ret ?_; (repeat (first | refine then_ret ?_ | refine inblock_ret ?_)); refine fin_of (by simp only [push_cast, seval]; first | done | rfl) ob1 ?_
  exact ⟨rfl, rfl⟩

theorem p91 (zs : List Sp) (hn : zs.length ≤ 1000000) (X : List (List D)) (m : Nat) (Y : List (List D)) :
    AC Tryz.prog 44 [.ref 0 0 zs.length] [.data 2 (zs.map encS ++ X), .cells [.ref 2 0 m], .data 2 Y] [0, 1, 2] fun x H' => x = .tup [] ∧ H' = [.data 2 (zs.reverse.map encS ++ X), .cells [.ref 2 0 m], .data 2 Y] := by
  refine ac_ofF (fn := Tryz.f44) [] (by kernel_rfl) rfl (by kernel_rfl) (Nat.le_of_ble_eq_true rfl) (by kernel_rfl) rfl ?_
  refine awp_seq ?_
  refine awpF_region ?_; intro K hK; simp only [push_cast, seval]; (try simp (disch := omega) only [wrapI]); (repeat ((with_reducible refine And.intro ?_ ?_); (focus (exact ob1)))); refine hK _ ?_; clear hK; clear K
  refine awp_block ?_
  refine awp_loopP (α := Nat × List Sp) (st := fun q => ⟨[(0, .ref 0 0 zs.length), (2, .d (.int .i64 q.1)), (3, .d (.int .i64 ((zs.length : Int) - 1 - q.1)))], [.data 2 (q.2.map encS ++ X), .cells [.ref 2 0 m], .data 2 Y]⟩)
    (inv := fun q => q.2.length = zs.length ∧ 2 * q.1 ≤ zs.length + 1 ∧ ∀ j, j < zs.length → atS q.2 j = if j < q.1 ∨ zs.length - 1 - q.1 < j then atS zs (zs.length - 1 - j) else atS zs j) (μ := fun q => zs.length - q.1) (x0 := (0, zs)) (r0 := [0, 1, 2]) ?_ ?_ ?_
  · exact ⟨rfl, by omega, fun j hj => by rw [if_neg (by omega)]⟩
  · exact ⟨by simp, by simp, by simp [push_cast, seval], by simp [push_cast, seval], by simp [push_cast, seval], by simp [push_cast, seval]⟩
  rintro ⟨i, R⟩ ⟨hR, hi, hat⟩
  dsimp only at hR hi hat ⊢
  refine awp_seq ?_
  refine awp_seq ?_
  refine awpF_region ?_; intro K hK; simp only [push_cast, seval]; (try simp (disch := omega) only [wrapI]); (repeat ((with_reducible refine And.intro ?_ ?_); (focus (exact ob1)))); refine hK _ ?_; clear hK; clear K
  apply awp_cond; (focus (simp only [push_cast, seval]; rfl))
  · intro h1; (try simp only [decide_eq_true_eq, decide_eq_false_iff_not, Bool.not_eq_true', Bool.not_eq_false', Bool.and_eq_true, Bool.or_eq_true, Bool.not_eq_true] at h1)
    have hi1 : i < R.length := by omega
    have hi2 : zs.length - 1 - i < R.length := by omega
    have g1 : (R.map encS ++ X)[i]? = some [.int .i64 (atS R i).1, .int .i64 (atS R i).2] := by rw [List.getElem?_append_left (by simpa using hi1)]; exact get_at hi1
    have g2 : (R.map encS ++ X)[zs.length - 1 - i]? = some [.int .i64 (atS R (zs.length - 1 - i)).1, .int .i64 (atS R (zs.length - 1 - i)).2] := by rw [List.getElem?_append_left (by simpa using hi2)]; exact get_at hi2
    have e1 : ((zs.length : Int) - 1 - i).toNat = zs.length - 1 - i := by omega
    have hset : ((R.map encS ++ X).set i [.int .i64 (atS R (zs.length - 1 - i)).1, .int .i64 (atS R (zs.length - 1 - i)).2]).set (zs.length - 1 - i) [.int .i64 (atS R i).1, .int .i64 (atS R i).2] =
        ((R.set i (atS R (zs.length - 1 - i))).set (zs.length - 1 - i) (atS R i)).map encS ++ X := by
      rw [List.set_append_left _ _ (by simpa using hi1), List.set_append_left _ _ (by simpa using hi2), List.map_set, List.map_set]
      rfl
    refine awp_skip ?_
    refine awp_seq ?_
    refine awp_block ?_
    refine awpF_drawM [0, 1, 2, 3, 4, 5, 6, 7, 8, 9, 10, 11, 12] [] (DT.op 13 (DT.op 14 (DT.op 15 DT.nil))) (by kernel_rfl) (by kernel_rfl) (by kernel_rfl) ?_; intro K hK; simp only [push_cast, seval, g1, g2, e1, Int.toNat_natCast]
    (repeat ((with_reducible refine And.intro ?_ ?_); (focus (exact ob1))))
    rw [hset]
    refine hK _ ?_; clear hK; clear K
    refine awpF_region ?_; intro K hK; simp only [push_cast, seval]; (try simp (disch := omega) only [wrapI]); (repeat ((with_reducible refine And.intro ?_ ?_); (focus (exact ob1)))); refine hK _ ?_; clear hK; clear K
    refine round_endG (i + 1, (R.set i (atS R (zs.length - 1 - i))).set (zs.length - 1 - i) (atS R i)) [0, 1, 2] ⟨?_, ⟨?_, ?_, fun j hj => ?_⟩, ?_⟩
    · show zs.length - (i + 1) < zs.length - i
      omega
    · simp [hR]
    · show 2 * (i + 1) ≤ zs.length + 1
      omega
    · dsimp only
      rw [atS_set (by simpa using hi2), atS_set hi1]
      have a1 := hat j hj
      have a2 := hat i (by omega)
      have a3 := hat (zs.length - 1 - i) (by omega)
      rw [if_neg (by omega)] at a2 a3
      by_cases e2 : zs.length - 1 - i = j
      · rw [if_pos e2, if_pos (by omega), a2, ← e2]
        congr 1
        omega
      · rw [if_neg e2]
        by_cases e3 : i = j
        · rw [if_pos e3, if_pos (by omega), a3, ← e3]
        · rw [if_neg e3, a1]
          by_cases e4 : j < i ∨ zs.length - 1 - i < j
          · rw [if_pos e4, if_pos (by omega)]
          · rw [if_neg e4, if_neg (by omega)]
    · show Ren _ _ ⟨[(0, .ref 0 0 zs.length), (2, .d (.int .i64 ((i + 1 : Nat) : Int))), (3, .d (.int .i64 ((zs.length : Int) - 1 - ((i + 1 : Nat) : Int))))], _⟩ _
      rw [show (zs.length : Int) - 1 - ((i + 1 : Nat) : Int) = (zs.length : Int) - 1 - i - 1 by omega]
      exact ⟨by simp, by simp, by simp [push_cast, seval], by simp [push_cast, seval], by simp [push_cast, seval], by simp [push_cast, seval]⟩
  · intro h1; (try simp only [decide_eq_true_eq, decide_eq_false_iff_not, Bool.not_eq_true', Bool.not_eq_false', Bool.and_eq_true, Bool.or_eq_true, Bool.not_eq_true] at h1)
    have hrev : R = zs.reverse := by
      apply List.ext_getElem (by simpa using hR)
      intro j q1 q2
      have := hat j (by omega)
      rw [atS_get q1] at this
      rw [this, List.getElem_reverse, ← atS_get]
      split
      · rfl
      · congr 1
        omega
    subst hrev
    refine awp_exit ?_; (repeat (first | refine then_exit ?_ | refine inblock_other (by decide) ?_)); refine inblock_same ?_
    refine fin_norm (by simp only [push_cast, seval]; first | done | rfl) ob1 ⟨rfl, rfl⟩

theorem p89 (zs : List Sp) (hn : zs.length ≤ 1000000) : AC Tryz.prog 42 [.ref 0 0 zs.length] [.data 2 (zs.map encS)] [0] fun x H' => ∃ X, x = .ref 0 0 (cmpR zs).length ∧ H' = [.data 2 ((cmpR zs).map encS ++ X)] := by
  have kel69 : kel Tryz.prog 51 = some (none, 2, 33) := by kernel_rfl
  refine ac_ofF (fn := Tryz.f42) [.tmp 2] (by kernel_rfl) rfl (by kernel_rfl) (Nat.le_of_ble_eq_true rfl) (by kernel_rfl) rfl ?_
  refine awp_seq ?_
  refine awpF_region ?_; intro K hK; simp only [push_cast, seval]; (try simp (disch := omega) only [wrapI]); (repeat ((with_reducible refine And.intro ?_ ?_); (focus (exact ob1)))); refine hK _ ?_; clear hK; clear K
  refine awp_seq ?_
  refine awp_seq ?_
  refine awpF_region ?_; intro K hK; simp only [push_cast, seval]; (try simp (disch := omega) only [wrapI]); (repeat ((with_reducible refine And.intro ?_ ?_); (focus (exact ob1)))); refine hK _ ?_; clear hK; clear K
  apply awp_cond; (focus (simp only [push_cast, seval]; rfl))
  · intro h1; (try simp only [decide_eq_true_eq, decide_eq_false_iff_not, Bool.not_eq_true', Bool.not_eq_false', Bool.and_eq_true, Bool.or_eq_true, Bool.not_eq_true] at h1)
    refine awp_seq ?_
    refine awpF_region ?_; intro K hK; simp only [push_cast, seval]; (try simp (disch := omega) only [wrapI]); (repeat ((with_reducible refine And.intro ?_ ?_); (focus (exact ob1)))); refine hK _ ?_; clear hK; clear K
    refine awp_ret ?_; (repeat (first | refine then_ret ?_ | refine inblock_ret ?_)); refine fin_of (by simp only [push_cast, seval]; first | done | rfl) ob1 ?_
    have : cmpR zs = zs := by
      match zs, h1 with
      | [], _ => rfl
      | [a], _ => rfl
      | a :: b :: l, h1 => simp at h1; omega
    rw [this]
    exact ⟨[], rfl, by simp⟩
  intro h1; (try simp only [decide_eq_true_eq, decide_eq_false_iff_not, Bool.not_eq_true', Bool.not_eq_false', Bool.and_eq_true, Bool.or_eq_true, Bool.not_eq_true] at h1)
  refine awp_skip ?_
  refine awp_seq ?_
  refine awp_seq ?_
  refine awpF_region ?_; intro K hK; simp only [push_cast, seval]; (try simp (disch := omega) only [wrapI]); (repeat ((with_reducible refine And.intro ?_ ?_); (focus (exact ob1)))); refine hK _ ?_; clear hK; clear K
  refine awp_block ?_
  refine awp_loopP (α := Nat) (st := fun k => ⟨[(0, .ref 0 0 zs.length), (3, .d (.int .i64 k))], [.data 2 (zs.map encS)]⟩) (inv := fun k => 1 ≤ k ∧ k ≤ zs.length ∧ cmpR (zs.take k) = zs.take k) (μ := fun k => zs.length - k) (x0 := 1) (r0 := [0]) ?_ ?_ ?_
  · refine ⟨Nat.le_refl _, by omega, ?_⟩
    cases zs <;> rfl
  · exact ⟨by simp, by simp, by simp [push_cast, seval], by simp [push_cast, seval], by simp [push_cast, seval], by simp [push_cast, seval]⟩
  rintro k ⟨hk1, hk2, hk3⟩
  refine awp_seq ?_
  refine awp_seq ?_
  refine awpF_region ?_; intro K hK; simp only [push_cast, seval]; (try simp (disch := omega) only [wrapI]); (repeat ((with_reducible refine And.intro ?_ ?_); (focus (exact ob1)))); refine hK _ ?_; clear hK; clear K
  apply awp_cond; (focus (simp only [push_cast, seval]; rfl))
  · intro h2; (try simp only [decide_eq_true_eq, decide_eq_false_iff_not, Bool.not_eq_true', Bool.not_eq_false', Bool.and_eq_true, Bool.or_eq_true, Bool.not_eq_true] at h2)
    have hlt : k < zs.length := by omega
    have g1 := get_at hlt
    have g2 := get_at (h := zs) (i := k - 1) (by omega)
    have e1 : ((k : Int) - 1).toNat = k - 1 := by omega
    have hstep := cmpR_step hk1 hlt
    refine awp_skip ?_
    refine awp_seq ?_
    refine awp_block ?_
    refine awp_seq ?_
    have ew : IntKind.i64.wrap ((k : Int) - 1) = k - 1 := wrapI _ (by omega)
    refine awpF_draw [0,1,2,3,4,5,6,7,8,9] (by kernel_rfl) (by kernel_rfl) rfl ?_; intro K hK; simp only [push_cast, seval, g1, g2, e1, ew, Int.toNat_natCast]
    (repeat ((with_reducible refine And.intro ?_ ?_); (focus (exact ob1))))
    refine hK _ ?_; clear hK; clear K
    rw [spEq]
    apply awp_cond; (focus (simp only [push_cast, seval]; rfl))
    · intro h3; (try simp only [decide_eq_true_eq, decide_eq_false_iff_not, Bool.not_eq_true', Bool.not_eq_false', Bool.and_eq_true, Bool.or_eq_true, Bool.not_eq_true] at h3)
      have h3' : atS zs k = atS zs (k - 1) := by simpa using h3
      clear h3
      refine awp_seq ?_
      refine awpF_region ?_; intro K hK; simp only [push_cast, seval]; (try simp (disch := omega) only [wrapI]); (repeat ((with_reducible refine And.intro ?_ ?_); (focus (exact ob1)))); refine hK _ ?_; clear hK; clear K
      refine awp_seq ?_
      refine awp_seq ?_
      refine awpF_region ?_; intro K hK; simp only [push_cast, seval]; (try simp (disch := omega) only [wrapI]); (repeat ((with_reducible refine And.intro ?_ ?_); (focus (exact ob1)))); refine hK _ ?_; clear hK; clear K
      refine awp_block ?_
      refine awp_loopP (α := Nat × Nat × List Sp) (st := fun q => ⟨[(0, .ref 0 0 zs.length), (3, .d (.int .i64 q.1)), (4, .ref 0 k (zs.length - k)), (5, .d (.int .i64 q.2.1))], [.data 2 (q.2.2.map encS)]⟩)
        (inv := fun q => q.2.2.length = zs.length ∧ 1 ≤ q.2.1 ∧ k + q.2.1 ≤ zs.length ∧ 1 ≤ q.1 ∧ q.1 + 1 ≤ k + q.2.1 ∧ q.2.2.take q.1 = cmpR (zs.take (k + q.2.1)) ∧ q.1 = (cmpR (zs.take (k + q.2.1))).length ∧ ∀ j, k + q.2.1 ≤ j + 1 → atS q.2.2 j = atS zs j)
        (μ := fun q => zs.length - q.2.1) (x0 := (k, 1, zs)) (r0 := [0]) ?_ ?_ ?_
      · refine ⟨rfl, Nat.le_refl _, hlt, hk1, Nat.le_refl _, ?_, ?_, fun j _ => rfl⟩
        · show zs.take k = _
          rw [hstep, if_pos h3', hk3]
        · show k = _
          rw [hstep, if_pos h3', hk3, List.length_take]
          omega
      · exact ⟨by simp, by simp, by simp [push_cast, seval], by simp [push_cast, seval], by simp [push_cast, seval], by simp [push_cast, seval]⟩
      rintro ⟨m, k2, R⟩ ⟨i1, i2, i3, i4, i5, i6, i7, i8⟩
      dsimp only at i1 i2 i3 i4 i5 i6 i7 i8 ⊢
      refine awp_seq ?_
      refine awp_seq ?_
      refine awpF_region ?_; intro K hK; simp only [push_cast, seval]; (try simp (disch := omega) only [wrapI]); (repeat ((with_reducible refine And.intro ?_ ?_); (focus (exact ob1)))); refine hK _ ?_; clear hK; clear K
      apply awp_cond; (focus (simp only [push_cast, seval]; rfl))
      · intro h4; (try simp only [decide_eq_true_eq, decide_eq_false_iff_not, Bool.not_eq_true', Bool.not_eq_false', Bool.and_eq_true, Bool.or_eq_true, Bool.not_eq_true] at h4)
        have hlt2 : k + k2 < zs.length := by omega
        have f1 := get_at (h := R) (i := k + k2) (by omega)
        have f2 := get_at (h := R) (i := k + (k2 - 1)) (by omega)
        have e2 : ((k2 : Int) - 1).toNat = k2 - 1 := by omega
        have ew2 : IntKind.i64.wrap ((k2 : Int) - 1) = k2 - 1 := wrapI _ (by omega)
        have hst2 := cmpR_step (zs := zs) (k := k + k2) (by omega) hlt2
        have hb1 := i8 (k + k2) (by omega)
        have hb2 := i8 (k + (k2 - 1)) (by omega)
        rw [hb1] at f1
        rw [hb2] at f2
        rw [show k + k2 - 1 = k + (k2 - 1) by omega] at hst2
        refine awp_skip ?_
        refine awp_mid (fun u => ∃ q : Nat × Nat × List Sp, u = ⟨[(0, .ref 0 0 zs.length), (3, .d (.int .i64 q.1)), (4, .ref 0 k (zs.length - k)), (5, .d (.int .i64 k2))], [.data 2 (q.2.2.map encS)]⟩ ∧ q.2.1 = k2 + 1 ∧
          q.2.2.length = zs.length ∧ 1 ≤ q.1 ∧ q.1 ≤ k + k2 ∧ q.2.2.take q.1 = cmpR (zs.take (k + k2 + 1)) ∧ q.1 = (cmpR (zs.take (k + k2 + 1))).length ∧ ∀ j, k + k2 ≤ j → atS q.2.2 j = atS zs j) ?_ ?_
        ·
          refine awp_block ?_
          refine awp_seq ?_
          refine awpF_draw [0,1,2,3,4,5,6,7,8,9] (by kernel_rfl) (by kernel_rfl) rfl ?_; intro K hK; simp only [push_cast, seval, f1, f2, e2, ew2, Int.toNat_natCast]
          (repeat ((with_reducible refine And.intro ?_ ?_); (focus (exact ob1))))
          refine hK _ ?_; clear hK; clear K
          rw [spEq]
          apply awp_cond; (focus (simp only [push_cast, seval]; rfl))
          · intro h5; (try simp only [decide_eq_true_eq, decide_eq_false_iff_not, Bool.not_eq_true', Bool.not_eq_false', Bool.and_eq_true, Bool.or_eq_true, Bool.not_eq_true] at h5)
            have h5' : atS zs (k + k2) ≠ atS zs (k + (k2 - 1)) := by simpa using h5
            rw [if_neg h5'] at hst2
            have hset : (R.map encS).set m [.int .i64 (atS zs (k + k2)).1, .int .i64 (atS zs (k + k2)).2] = (R.set m (atS zs (k + k2))).map encS := by rw [List.map_set]; rfl
            refine awp_seq ?_
            refine awpF_region ?_; intro K hK; simp only [push_cast, seval, f1, Int.toNat_natCast]
            (repeat ((with_reducible refine And.intro ?_ ?_); (focus (exact ob1))))
            rw [hset]
            refine hK _ ?_; clear hK; clear K
            refine awpF_region ?_; intro K hK; simp only [push_cast, seval]; (try simp (disch := omega) only [wrapI]); (repeat ((with_reducible refine And.intro ?_ ?_); (focus (exact ob1)))); refine hK _ ?_; clear hK; clear K
            refine inblock_norm ?_
            refine mid_end [0] ⟨[(0, .ref 0 0 zs.length), (3, .d (.int .i64 ((m + 1 : Nat) : Int))), (4, .ref 0 k (zs.length - k)), (5, .d (.int .i64 k2))], [.data 2 ((R.set m (atS zs (k + k2))).map encS)]⟩ ⟨(m + 1, k2 + 1, R.set m (atS zs (k + k2))), rfl, rfl, ?_, ?_, ?_, ?_, ?_, ?_⟩ ?_
            · simpa using i1
            · show 1 ≤ m + 1
              omega
            · show m + 1 ≤ k + k2
              omega
            · show (R.set m (atS zs (k + k2))).take (m + 1) = _
              rw [hst2, take_at (by simp; omega), atS_set (by omega), if_pos rfl, List.take_set_of_le (Nat.le_refl _), i6]
            · show m + 1 = _
              rw [hst2, List.length_append, ← i7]
              rfl
            · intro j hj
              show atS (R.set m (atS zs (k + k2))) j = _
              rw [atS_set (by omega), if_neg (by omega), i8 j (by omega)]
            · exact ⟨by simp, by simp, by simp [push_cast, seval], by simp [push_cast, seval], by simp [push_cast, seval], by simp [push_cast, seval]⟩
          · intro h5; (try simp only [decide_eq_true_eq, decide_eq_false_iff_not, Bool.not_eq_true', Bool.not_eq_false', Bool.and_eq_true, Bool.or_eq_true, Bool.not_eq_true] at h5)
            have h5' : atS zs (k + k2) = atS zs (k + (k2 - 1)) := by simpa using h5
            rw [if_pos h5'] at hst2
            refine awp_skip ?_
            refine inblock_norm ?_
            refine mid_end [0] ⟨[(0, .ref 0 0 zs.length), (3, .d (.int .i64 (m : Int))), (4, .ref 0 k (zs.length - k)), (5, .d (.int .i64 k2))], [.data 2 (R.map encS)]⟩ ⟨(m, k2 + 1, R), rfl, rfl, i1, i4, ?_, ?_, ?_, fun j hj => i8 j (by omega)⟩ ?_
            · show m ≤ k + k2
              omega
            · rw [hst2]; exact i6
            · rw [hst2]; exact i7
            · exact ⟨by simp, by simp, by simp [push_cast, seval], by simp [push_cast, seval], by simp [push_cast, seval], by simp [push_cast, seval]⟩
        rintro _ ⟨⟨m', k2', R'⟩, rfl, rfl, j1, j2, j3, j4, j5, j6⟩
        dsimp only at j1 j2 j3 j4 j5 j6 ⊢
        refine awpF_region ?_; intro K hK; simp only [push_cast, seval]; (try simp (disch := omega) only [wrapI]); (repeat ((with_reducible refine And.intro ?_ ?_); (focus (exact ob1)))); refine hK _ ?_; clear hK; clear K
        refine round_endG (m', k2 + 1, R') [0] ⟨?_, ⟨j1, ?_, ?_, j2, ?_, j4, j5, fun j hj => j6 j (by have : k + (k2 + 1) ≤ j + 1 := hj; omega)⟩, ?_⟩
        · show zs.length - (k2 + 1) < zs.length - k2
          omega
        · show 1 ≤ k2 + 1
          omega
        · show k + (k2 + 1) ≤ zs.length
          omega
        · show m' + 1 ≤ k + (k2 + 1)
          omega
        · exact ⟨by simp, by simp, by simp [push_cast, seval], by simp [push_cast, seval], by simp [push_cast, seval], by simp [push_cast, seval]⟩
      · intro h4; (try simp only [decide_eq_true_eq, decide_eq_false_iff_not, Bool.not_eq_true', Bool.not_eq_false', Bool.and_eq_true, Bool.or_eq_true, Bool.not_eq_true] at h4)
        have h4' : k + k2 = zs.length := by omega
        rw [h4', List.take_length] at i6 i7
        refine awp_exit ?_; (repeat (first | refine then_exit ?_ | refine inblock_other (by decide) ?_)); refine inblock_same ?_
        refine awp_seq ?_
        refine awp_region4X ?_; intro K hK; simp only [push_cast, seval, Int.toNat_natCast]
        (repeat ((with_reducible refine And.intro ?_ ?_); (focus (exact ob1))))
        have hcut : setL (R.map encS) m (List.replicate (zs.length - m) [D.int .i64 0, D.int .i64 0]) = (cmpR zs).map encS ++ List.replicate (zs.length - m) [D.int .i64 0, D.int .i64 0] := by
          unfold setL
          rw [← List.map_take, i6, List.length_replicate, List.drop_eq_nil_of_le (by simp; omega), List.append_nil]
        refine clear_X (zs := [V.d (D.int .i64 0), V.d (D.int .i64 0)]) (ds := [D.int .i64 0, D.int .i64 0]) rfl rfl kel69 (by kernel_rfl) rfl rfl rfl (by simp; omega) ?_
        simp only [List.set_cons_zero]
        rw [hcut]
        refine hK _ ?_; clear hK; clear K
        have hl : m ≤ ((cmpR zs).map encS ++ List.replicate (zs.length - m) [D.int .i64 0, D.int .i64 0]).length := by simp; omega
        generalize List.replicate (zs.length - m) [D.int .i64 0, D.int .i64 0] = X at hl ⊢
        refine awp_seq ?_
        refine awpF_region ?_; intro K hK; simp only [push_cast, seval, Int.toNat_natCast]; (try simp (disch := omega) only [wrapI]); (repeat ((with_reducible refine And.intro ?_ ?_); (focus (exact ob1)))); refine hK _ ?_; clear hK; clear K
        refine awp_ret ?_; (repeat (first | refine then_ret ?_ | refine inblock_ret ?_)); refine fin_of (by simp only [push_cast, seval]; first | done | rfl) ob1 ?_
        exact ⟨X, by rw [i7, Nat.sub_zero], rfl⟩
    · intro h3; (try simp only [decide_eq_true_eq, decide_eq_false_iff_not, Bool.not_eq_true', Bool.not_eq_false', Bool.and_eq_true, Bool.or_eq_true, Bool.not_eq_true] at h3)
      have h3' : atS zs k ≠ atS zs (k - 1) := by simpa using h3
      refine awp_skip ?_
      refine awpF_region ?_; intro K hK; simp only [push_cast, seval]; (try simp (disch := omega) only [wrapI]); (repeat ((with_reducible refine And.intro ?_ ?_); (focus (exact ob1)))); refine hK _ ?_; clear hK; clear K
      refine round_endG (k + 1) [0] ⟨by omega, ⟨by omega, by omega, ?_⟩, ?_⟩
      · rw [hstep, if_neg h3', hk3, take_at hlt]
      · exact ⟨by simp, by simp, by simp [push_cast, seval], by simp [push_cast, seval], by simp [push_cast, seval], by simp [push_cast, seval]⟩
  · intro h2; (try simp only [decide_eq_true_eq, decide_eq_false_iff_not, Bool.not_eq_true', Bool.not_eq_false', Bool.and_eq_true, Bool.or_eq_true, Bool.not_eq_true] at h2)
    refine awp_exit ?_; (repeat (first | refine then_exit ?_ | refine inblock_other (by decide) ?_)); refine inblock_same ?_
    refine awp_seq ?_
    refine awpF_region ?_; intro K hK; simp only [push_cast, seval]; (try simp (disch := omega) only [wrapI]); (repeat ((with_reducible refine And.intro ?_ ?_); (focus (exact ob1)))); refine hK _ ?_; clear hK; clear K
    refine awp_ret ?_; (repeat (first | refine then_ret ?_ | refine inblock_ret ?_)); refine fin_of (by simp only [push_cast, seval]; first | done | rfl) ob1 ?_
    obtain rfl : k = zs.length := by omega
    rw [List.take_length] at hk3
    rw [hk3]
    exact ⟨[], rfl, by simp⟩
end Go.Aw
