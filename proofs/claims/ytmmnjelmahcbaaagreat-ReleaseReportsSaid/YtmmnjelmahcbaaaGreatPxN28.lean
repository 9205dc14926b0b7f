/-
  Contracts: the order of a release's parts, the reference's side. No condition.
-/
import Derived.Test.YtmmnjelmahcbaaaGreatPxN27
namespace Go.Aw
set_option linter.unusedSimpArgs false
set_option linter.unusedVariables false
open Go.RowKit Go.Proofs Go.Nt Go.Rl

def upto (k : Nat) : List Int := (List.range k).map fun (i : Nat) => (i : Int)
theorem upto_len (k : Nat) : (upto k).length = k := by simp [upto]
theorem upto_succ (k : Nat) : upto (k + 1) = upto k ++ [(k : Int)] := by simp [upto, List.range_succ]
theorem upto_mem {k : Nat} {x : Int} : x ∈ upto k ↔ 0 ≤ x ∧ x < k := by
  unfold upto
  simp only [List.mem_map, List.mem_range]
  constructor
  · rintro ⟨i, hi, rfl⟩; omega
  · rintro ⟨h1, h2⟩; exact ⟨x.toNat, by omega, by omega⟩
def sortK (n : Int) (xs : List Int) : List Int := xs.mergeSort fun x y => !(decide (ordI n y x < 0))
theorem sortK_perm (n : Int) (xs : List Int) : (sortK n xs).Perm xs := List.mergeSort_perm _ _
theorem keyLt_trans {n a b c : Int} (h1 : keyLt n a b) (h2 : keyLt n b c) : keyLt n a c := by unfold keyLt at *; omega
theorem keyLt_tri {n a b : Int} (h1 : ¬ keyLt n a b) (h2 : ¬ keyLt n b a) : a = b := by unfold keyLt at *; omega
theorem keyLt_asymm {n a b : Int} (h1 : keyLt n a b) : ¬ keyLt n b a := by unfold keyLt at *; omega
theorem sortK_pair (n : Int) (xs : List Int) : (sortK n xs).Pairwise fun a b => ¬ keyLt n b a := by
  have := List.pairwise_mergeSort (le := fun (x y : Int) => !(decide (ordI n y x < 0))) (fun a b c h1 h2 => by
    simp only [Bool.not_eq_true', decide_eq_false_iff_not, ordI_neg] at *
    unfold keyLt at *; omega) (fun a b => by
    simp only [Bool.or_eq_true, Bool.not_eq_true', decide_eq_false_iff_not, ordI_neg]
    unfold keyLt; omega) xs
  exact this.imp fun h => by simpa only [Bool.not_eq_true', decide_eq_false_iff_not, ordI_neg] using h
theorem sortK_uniq {n : Int} {xs l : List Int} (hd : l.Pairwise (keyLt n)) (hp : l.Perm xs) : l = sortK n xs := by
  refine List.Perm.eq_of_pairwise (le := fun a b => ¬ keyLt n b a) (fun a b _ _ h1 h2 => keyLt_tri h2 h1) (hd.imp fun h => keyLt_asymm h) (sortK_pair n xs) (hp.trans (sortK_perm n xs).symm)
theorem ins_pair {R : Int → Int → Prop} (tr : ∀ a b c, R a b → R b c → R a c) {l : List Int} {x : Int} {t : Nat} (hd : l.Pairwise R) (ht : t ≤ l.length) (h1 : ∀ j (hj : j < l.length), t ≤ j → R x l[j]) (h2 : t = 0 ∨ ∃ h : t - 1 < l.length, R l[t - 1] x) : (l.take t ++ x :: l.drop t).Pairwise R := by
  rw [List.pairwise_append]
  have hlow : ∀ b, b ∈ l.drop t → R x b := fun b hb => by
    obtain ⟨j, hj, rfl⟩ := List.getElem_of_mem hb
    rw [List.getElem_drop]
    exact h1 _ _ (by omega)
  have hhigh : ∀ a, a ∈ l.take t → R a x := fun a ha => by
    obtain ⟨j, hj, rfl⟩ := List.getElem_of_mem ha
    simp only [List.length_take] at hj
    rw [List.getElem_take]
    rcases h2 with rfl | ⟨h, h2⟩
    · omega
    · rcases Nat.lt_or_ge j (t - 1) with h3 | h3
      · exact tr _ _ _ ((List.pairwise_iff_getElem.1 hd) j (t - 1) (by omega) h h3) h2
      · have : j = t - 1 := by omega
        subst this; exact h2
  refine ⟨hd.sublist (List.take_sublist _ _), List.pairwise_cons.2 ⟨hlow, hd.sublist (List.drop_sublist _ _)⟩, fun a ha b hb => ?_⟩
  have h3 := hhigh a ha
  rcases List.mem_cons.1 hb with rfl | hb
  · exact h3
  · exact tr _ _ _ h3 (hlow b hb)

def ordB (n k : Int) : Bool := decide (0 ≤ n ∧ n ≤ 1000000 ∧ 1 ≤ k ∧ k ≤ 64)
def ordD (n k : Int) : List Int := if ordB n k then sortK n (upto k.toNat) else []

set_option maxHeartbeats 400000 in
theorem p41 (n k : Int) : PD Tryz.prog 103 [.int .i64 n, .int .i64 k] (.d (.sl ((ordD n k).map encI))) := by
  have h80 := p80 n
  show PD Tryz.prog 103 _ (ofD (.sl ((ordD n k).map encI)))
  refine pdd_of (fn := Tryz.f103) [.tmp 4] (by kernel_rfl) rfl (by kernel_rfl) (Nat.le_of_ble_eq_true rfl) (by kernel_rfl) rfl ?_
  refine awp_seq ?_
  refine awpF_region ?_; intro K hK; simp only [push_cast, seval]; (try simp (disch := omega) only [wrapI]); (repeat ((with_reducible refine And.intro ?_ ?_); (focus (exact ob1)))); refine hK _ ?_; clear hK; clear K
  refine awp_seq ?_
  refine awpF_region ?_; intro K hK; simp only [push_cast, seval]; (try simp (disch := omega) only [wrapI]); (repeat ((with_reducible refine And.intro ?_ ?_); (focus (exact ob1)))); refine hK _ ?_; clear hK; clear K
  refine awp_seq ?_
  refine awp_seq ?_
  refine awpF_region ?_; intro K hK; simp only [push_cast, seval, bif_or]; (try simp (disch := omega) only [wrapI]); (repeat ((with_reducible refine And.intro ?_ ?_); (focus (exact ob1)))); refine hK _ ?_; clear hK; clear K
  apply awp_cond; (focus (simp only [push_cast, seval]; rfl))
  · intro h1
    simp only [Bool.or_eq_true, decide_eq_true_eq] at h1
    have : ordD n k = [] := by unfold ordD ordB; rw [if_neg (by simp; omega)]
    refine awp_seq ?_
    refine awpF_region ?_; intro K hK; simp only [push_cast, seval]; (try simp (disch := omega) only [wrapI]); (repeat ((with_reducible refine And.intro ?_ ?_); (focus (exact ob1)))); refine hK _ ?_; clear hK; clear K
    refine awp_ret ?_; (repeat (first | refine then_ret ?_ | refine inblock_ret ?_)); refine fin_of (by simp only [push_cast, seval]; first | done | rfl) ob1 ?_
    rw [this]
    exact Deep.nil
  · intro h1
    simp only [Bool.or_eq_false_iff, decide_eq_false_iff_not] at h1
    obtain ⟨k, rfl⟩ : ∃ m : Nat, k = m := ⟨k.toNat, by omega⟩
    have hD : ordD n k = sortK n (upto k) := by unfold ordD ordB; rw [if_pos (by simp; omega)]; rfl
    rw [hD]
    refine awp_skip ?_
    refine awp_seq ?_
    refine awp_seq ?_
    refine awpF_region ?_; intro K hK; simp only [push_cast, seval]; (try simp (disch := omega) only [wrapI]); (repeat ((with_reducible refine And.intro ?_ ?_); (focus (exact ob1)))); refine hK _ ?_; clear hK; clear K
    refine awp_virt 5 1 (by simp only [push_cast, seval]) ?_
    refine awp_block ?_
    refine awp_loopP (α := Nat × List Int) (st := fun x => ⟨[(0, .d (.int .i64 n)), (1, .d (.int .i64 k)), (5, .ref 0 0 x.2.length), (6, .d (.int .i64 x.1))], [.data 1 (x.2.map encI)]⟩) (inv := fun x => x.1 ≤ k ∧ x.2.Pairwise (keyLt n) ∧ x.2.Perm (upto x.1)) (μ := fun x => k - x.1) (x0 := (0, [])) (r0 := [0]) ?_ ?_ ?_
    · exact ⟨Nat.zero_le _, List.Pairwise.nil, by simp [upto]⟩
    · exact ⟨by simp, by simp, by simp [push_cast, seval], by simp [push_cast, seval], by simp [push_cast, seval], by simp [push_cast, seval]⟩
    rintro ⟨i, l⟩ ⟨hi, hd, hp⟩
    dsimp only at hi hd hp ⊢
    have hll : l.length = i := by rw [hp.length_eq, upto_len]
    refine awp_seq ?_
    refine awp_seq ?_
    refine awpF_region ?_; intro K hK; simp only [push_cast, seval]; (try simp (disch := omega) only [wrapI]); (repeat ((with_reducible refine And.intro ?_ ?_); (focus (exact ob1)))); refine hK _ ?_; clear hK; clear K
    apply awp_cond; (focus (simp only [push_cast, seval]; rfl))
    · intro h3; (try simp only [decide_eq_true_eq, decide_eq_false_iff_not, Bool.not_eq_true', Bool.not_eq_false', Bool.and_eq_true, Bool.or_eq_true, Bool.not_eq_true] at h3)
      refine awp_skip ?_
      refine awp_mid (fun u => ∃ l2 : List Int, l2.Pairwise (keyLt n) ∧ l2.Perm (upto (i + 1)) ∧ u = ⟨[(0, .d (.int .i64 n)), (1, .d (.int .i64 k)), (5, .ref 0 0 l2.length), (6, .d (.int .i64 i))], [.data 1 (l2.map encI)]⟩) ?_ ?_
      · refine awp_block ?_
        refine awp_seq ?_
        refine awpF_region ?_; intro K hK; simp only [push_cast, seval]; (try simp (disch := omega) only [wrapI]); (repeat ((with_reducible refine And.intro ?_ ?_); (focus (exact ob1)))); refine hK _ ?_; clear hK; clear K
        refine awp_mid (fun u => ∃ t : Nat, t ≤ l.length ∧ (∀ j (hj : j < l.length), t ≤ j → keyLt n i l[j]) ∧ (t = 0 ∨ ∃ h : t - 1 < l.length, keyLt n l[t - 1] i) ∧ u = ⟨[(0, .d (.int .i64 n)), (1, .d (.int .i64 k)), (5, .ref 0 0 l.length), (6, .d (.int .i64 i)), (7, .d (.int .i64 t))], [.data 1 (l.map encI)]⟩) ?_ ?_
        · refine awp_block ?_
          refine awp_loopP (α := Nat) (st := fun t => ⟨[(0, .d (.int .i64 n)), (1, .d (.int .i64 k)), (5, .ref 0 0 l.length), (6, .d (.int .i64 i)), (7, .d (.int .i64 t))], [.data 1 (l.map encI)]⟩) (inv := fun t => t ≤ l.length ∧ ∀ j (hj : j < l.length), t ≤ j → keyLt n i l[j]) (μ := fun t => t) (x0 := l.length) (r0 := [0]) ?_ ?_ ?_
          · exact ⟨Nat.le_refl _, fun j hj h => by omega⟩
          · exact ⟨by simp, by simp, by simp [push_cast, seval], by simp [push_cast, seval], by simp [push_cast, seval], by simp [push_cast, seval]⟩
          rintro t ⟨ht, hlow⟩
          rcases Nat.eq_zero_or_pos t with h0 | h0
          · subst h0
            have e0 : (IntKind.i64.wrap (-1)).toNat = 0 := by decide
            refine awp_seq ?_
            refine awp_seq ?_
            cases g0 : l[0]?
            all_goals (refine awpF_draw [0,1,2,3,4,6,7,8,9,10,11,5,12,13,14] (by kernel_rfl) (by kernel_rfl) rfl ?_; intro K hK; simp only [push_cast, seval, Int.lt_irrefl, decide_false, bif_and, e0, g0, encI])
            all_goals (refine CallK.pg (x0 := .d (.int .i64 0)) (fun h => by cases h) ?_)
            all_goals (simp only [push_cast, seval])
            all_goals (refine CallK.pg (x0 := .d (.int .i64 0)) (fun h => by cases h) ?_)
            all_goals (simp only [push_cast, seval, bif_and]; (repeat ((with_reducible refine And.intro ?_ ?_); (focus (exact ob1)))); refine hK _ ?_; clear hK; clear K; apply awp_cond; (focus (simp only [push_cast, seval]; rfl)))
            all_goals first | (intro hb; exact absurd hb (by decide)) | (intro hb; refine awp_exit ?_; (repeat (first | refine then_exit ?_ | refine inblock_other (by decide) ?_)); refine inblock_same ?_; refine mid_end [0] _ ⟨0, by omega, hlow, .inl rfl, rfl⟩ ?_; exact ⟨by simp, by simp, by simp [push_cast, seval], by simp [push_cast, seval], by simp [push_cast, seval], by simp [push_cast, seval]⟩)
          · obtain ⟨u, rfl⟩ : ∃ u, t = u + 1 := ⟨t - 1, by omega⟩
            have hw : IntKind.i64.wrap ((u : Int) + 1 - 1) = (u : Int) := by rw [wrapI _ (by omega)]; omega
            have hpos : ((u : Int) + 1 > 0) = True := eq_true (by omega)
            have hul : u < l.length := by omega
            have g2 := List.getElem?_eq_getElem (l := l) (i := u) hul
            have hmem := upto_mem.1 (hp.mem_iff.1 (List.getElem_mem hul))
            refine awp_seq ?_
            refine awp_seq ?_
            refine awpF_draw [0,1,2,3,4,6,7,8,9,10,11,5,12,13,14] (by kernel_rfl) (by kernel_rfl) rfl ?_; intro K hK; simp only [push_cast, seval, hpos, decide_true, hw, Int.toNat_natCast, g2, encI]
            (repeat ((with_reducible refine And.intro ?_ ?_); (focus (exact ob1))))
            refine CallK.pg (fun _ => h80 i) ?_
            simp only [push_cast, seval]
            have h81 := h80 l[u]
            refine CallK.pg (fun _ => h81) ?_
            simp only [push_cast, seval, bif_and, decide_true]
            (repeat ((with_reducible refine And.intro ?_ ?_); (focus (exact ob1))))
            refine hK _ ?_; clear hK; clear K
            apply awp_cond; (focus (simp only [push_cast, seval]; rfl))
            · intro h4; (try simp only [decide_eq_true_eq, decide_eq_false_iff_not, Bool.not_eq_true', Bool.not_eq_false', Bool.and_eq_true, Bool.or_eq_true, Bool.not_eq_true] at h4)
              refine awp_skip ?_
              refine awp_block ?_
              refine awpF_region ?_; intro K hK; simp only [push_cast, seval, hw]; (try simp (disch := omega) only [wrapI]); (repeat ((with_reducible refine And.intro ?_ ?_); (focus (exact ob1)))); refine hK _ ?_; clear hK; clear K
              refine inblock_norm ?_
              refine round_end (y := u) (r := [0]) (by omega) ⟨by omega, fun j hj hju => ?_⟩ ?_
              · rcases Nat.eq_or_lt_of_le hju with h5 | h5
                · subst h5
                  exact .inl (by simpa using h4)
                · exact hlow j hj h5
              · exact ⟨by simp, by simp, by simp [push_cast, seval], by simp [push_cast, seval], by simp [push_cast, seval], by simp [push_cast, seval]⟩
            · intro h4; (try simp only [decide_eq_true_eq, decide_eq_false_iff_not, Bool.not_eq_true', Bool.not_eq_false', Bool.and_eq_true, Bool.or_eq_true, Bool.not_eq_true] at h4)
              refine awp_exit ?_; (repeat (first | refine then_exit ?_ | refine inblock_other (by decide) ?_)); refine inblock_same ?_
              refine mid_end [0] _ ⟨u + 1, by omega, hlow, .inr (Exists.intro (by omega) ?_), rfl⟩ ?_
              · have h5 : keyI n l[u] ≤ keyI n i := by simpa using h4
                show keyLt n l[u] i
                unfold keyLt
                omega
              · exact ⟨by simp, by simp, by simp [push_cast, seval], by simp [push_cast, seval], by simp [push_cast, seval], by simp [push_cast, seval]⟩
        · rintro _ ⟨t, ht, hlow, hup, rfl⟩
          have e1 : (l.map encI).take (t - 0) = (l.take t).map encI := by rw [Nat.sub_zero, List.map_take]
          have e2 : ((l.map encI).drop t).take (l.length - t) = (l.drop t).map encI := by rw [← List.map_drop]; exact List.take_of_length_le (by simp)
          have e3 : (l.take t).length = t := by rw [List.length_take]; omega
          have e4 : (l.drop t).length = l.length - t := List.length_drop
          have e5 : ((l.take t).map encI).take t = (l.take t).map encI := List.take_of_length_le (by simp; omega)
          have e6 : ((l.take t).map encI ++ [[D.int .i64 i]]).take (t + 1) = (l.take t).map encI ++ [[D.int .i64 i]] := List.take_of_length_le (by simp; omega)
          have hd2 := ins_pair (R := keyLt n) (x := (i : Int)) (fun a b c h1 h2 => keyLt_trans h1 h2) hd ht hlow hup
          have hp2 : (l.take t ++ (i : Int) :: l.drop t).Perm (upto (i + 1)) := by
            rw [upto_succ]
            exact ins_perm hp
          have hl2 : (l.take t ++ (i : Int) :: l.drop t).length = t + 1 + (l.length - t) := by simp only [List.length_append, List.length_cons, e3, e4]; omega
          have hm2 : (l.take t ++ (i : Int) :: l.drop t).map encI = (l.take t).map encI ++ [[D.int .i64 i]] ++ (l.drop t).map encI := by simp [encI]
          generalize l.take t ++ (i : Int) :: l.drop t = l2 at hd2 hp2 hl2 hm2
          refine awpF_drawM [1, 2, 3, 5, 8, 9, 10] [] (DT.or (DT.op 0 (DT.or (DT.op 4 (DT.op 6 (DT.op 7 (DT.op 11 (DT.op 12 DT.nil))))) (DT.op 6 (DT.op 4 (DT.op 7 (DT.op 11 (DT.op 12 DT.nil))))))) (DT.op 6 (DT.op 0 (DT.op 4 (DT.op 7 (DT.op 11 (DT.op 12 DT.nil))))))) (by kernel_rfl) (by kernel_rfl) (by kernel_rfl) ?_; intro K hK; simp only [push_cast, seval, encI, Int.toNat_natCast, e1, e2, e3, e4, e5, e6, List.length_map]
          repeat' (first | (with_reducible refine And.intro ?_ ?_) | omega | trivial | (intro row hr; rcases List.mem_map.1 hr with ⟨_, _, rfl⟩; rfl))
          all_goals rw [← hm2, ← hl2]
          all_goals first | (refine hK _ (inblock_norm (mid_end [1] _ ⟨l2, hd2, hp2, rfl⟩ ?_)); refine ⟨?_, ?_, ?_, ?_, ?_, ?_⟩ <;> (simp [push_cast, seval]; done)) | (refine hK _ (inblock_norm (mid_end [2] _ ⟨l2, hd2, hp2, rfl⟩ ?_)); refine ⟨?_, ?_, ?_, ?_, ?_, ?_⟩ <;> (simp [push_cast, seval]; done))
      · rintro _ ⟨l2, hd2, hp2, rfl⟩
        refine awpF_region ?_; intro K hK; simp only [push_cast, seval]; (try simp (disch := omega) only [wrapI]); (repeat ((with_reducible refine And.intro ?_ ?_); (focus (exact ob1)))); refine hK _ ?_; clear hK; clear K
        refine round_endG (i + 1, l2) [0] ⟨(by dsimp only; omega), ⟨(by dsimp only; omega), hd2, hp2⟩, ?_⟩
        exact ⟨by simp, by simp, by simp [push_cast, seval], by simp [push_cast, seval], by simp [push_cast, seval], by simp [push_cast, seval]⟩
    · intro h3; (try simp only [decide_eq_true_eq, decide_eq_false_iff_not, Bool.not_eq_true', Bool.not_eq_false', Bool.and_eq_true, Bool.or_eq_true, Bool.not_eq_true] at h3)
      refine awp_exit ?_; (repeat (first | refine then_exit ?_ | refine inblock_other (by decide) ?_)); refine inblock_same ?_
      have hi2 : i = k := by omega
      subst hi2
      have hu := sortK_uniq hd hp
      refine awp_seq ?_
      refine awpF_region ?_; intro K hK; simp only [push_cast, seval]; (try simp (disch := omega) only [wrapI]); (repeat ((with_reducible refine And.intro ?_ ?_); (focus (exact ob1)))); refine hK _ ?_; clear hK; clear K
      refine awp_ret ?_; (repeat (first | refine then_ret ?_ | refine inblock_ret ?_)); refine fin_of (by simp only [push_cast, seval]; first | done | rfl) ob1 ?_
      rw [← hu]
      have := Deep.data (H := [Blk.data 1 (l.map encI)]) 0 0 l.length 1 (l.map encI) rfl (by simp)
      rw [List.drop_zero, List.take_of_length_le (by simp)] at this
      exact this
end Go.Aw
