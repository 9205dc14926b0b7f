/-
  The reference's numbers and words in texts. Conditions: numbers and lengths that fit.
-/
import Derived.Lib.ItoaLen
import Derived.Test.YtlimahhonfckdaaDoorRuF
import Derived.Test.YtlimahhonfckdaaDoorPkT
namespace Go.Aw
set_option linter.unusedSimpArgs false
set_option linter.unusedVariables false
open Go.RowKit Go.Proofs
set_option maxRecDepth 100000

theorem bs_app (a b : List UInt8) : bs a ++ bs b = bs (a ++ b) := by
  have h : (bs a ++ bs b).data.toList = a ++ b := by
    rw [ByteArray.data_append]
    simp [bs]
  rw [← h]
  rfl
theorem bs_get (l : List UInt8) (i : Nat) : (bs l).data.getD i 0 = l.getD i 0 := by
  simp [bs, Array.getD_eq_getD_getElem?, List.getD_eq_getElem?_getD]
theorem p90 : ∀ (n : Nat), n < 9223372036854775808 → PD Tryd.prog 90 [.int .i64 n] (.d (.str (bs (Lib.decDigits n))))
  | n, hn => by
    by_cases h10 : n < 10
    · rw [Lib.decDigits_one h10]
      rcases show n = 0 ∨ n = 1 ∨ n = 2 ∨ n = 3 ∨ n = 4 ∨ n = 5 ∨ n = 6 ∨ n = 7 ∨ n = 8 ∨ n = 9 by omega with rfl | rfl | rfl | rfl | rfl | rfl | rfl | rfl | rfl | rfl
      all_goals (refine pd_of (fn := Tryd.f90) [.tmp 2] (by kernel_rfl) rfl (by kernel_rfl) (Nat.le_of_ble_eq_true rfl) (by kernel_rfl) rfl rfl ?_; (repeat' (first | refine awp_seq ?_ | refine awp_skip ?_ | refine awp_block ?_ | ((first | (refine awpF_region ?_; intro K hK)); simp only [push_cast, seval]; (try simp (disch := omega) only [wrapI]); (repeat ((with_reducible refine And.intro ?_ ?_); (focus (exact ob1))))) | (refine hK _ ?_; clear hK K) | (apply awp_cond; (focus (simp only [push_cast, seval]; rfl))) | (with_reducible intro hb; exfalso; revert hb; simp []; done) | (with_reducible intro hb; exfalso; (try simp only [decide_eq_true_eq, decide_eq_false_iff_not, Bool.not_eq_true', Bool.not_eq_false', Bool.and_eq_true, Bool.or_eq_true, Bool.not_eq_true] at hb); omega; done) | (with_reducible intro hb; (try simp only [decide_eq_true_eq, decide_eq_false_iff_not, Bool.not_eq_true', Bool.not_eq_false', Bool.and_eq_true, Bool.or_eq_true, Bool.not_eq_true] at hb)) | (refine awp_exit ?_; (repeat (first | refine then_exit ?_ | refine inblock_other (by decide) ?_)); refine inblock_same ?_) | (refine awp_ret ?_; (repeat (first | refine then_ret ?_ | refine inblock_ret ?_ | refine nogoto_ret ?_)); refine fin_of (by simp only [push_cast, seval]; first | done | rfl) ob1 ?_) | (refine inblock_norm ?_))); rfl)
    · have h1 := p90 (n / 10) (by omega)
      have h2 := p90 (n % 10) (by omega)
      have hd : decide ((n : Int) > 9) = true := decide_eq_true (by omega)
      have e1 : (n : Int).tdiv 10 = ((n / 10 : Nat) : Int) := by rw [Int.tdiv_eq_ediv_of_nonneg (by omega)]; omega
      have e2 : (n : Int).tmod 10 = ((n % 10 : Nat) : Int) := by rw [Int.tmod_eq_emod_of_nonneg (by omega)]; omega
      have hl : (Lib.decDigits n) = Lib.decDigits (n / 10) ++ Lib.decDigits (n % 10) := by
        rw [Lib.decDigits, dif_neg h10, Lib.decDigits_one (Nat.mod_lt _ (by decide))]
      have b1 : (Lib.decDigits (n / 10)).length ≤ 20 := by rw [Lib.decDigits_length]; exact Lib.nDigits_le20 _ (by omega)
      have b2 : (Lib.decDigits (n % 10)).length ≤ 20 := by rw [Lib.decDigits_length]; exact Lib.nDigits_le20 _ (by omega)
      rw [hl]
      generalize Lib.decDigits (n / 10) = a at *
      generalize Lib.decDigits (n % 10) = b at *
      generalize hx : n / 10 = x at *
      generalize hy : n % 10 = y at *
      refine pd_of (fn := Tryd.f90) [.tmp 2] (by kernel_rfl) rfl (by kernel_rfl) (Nat.le_of_ble_eq_true rfl) (by kernel_rfl) rfl rfl ?_
      (repeat' (first | refine awp_seq ?_ | refine awp_skip ?_ | refine awp_block ?_ | ((first | (refine awpF_region ?_; intro K hK) | refine CallK.pd (h1) ?_ | refine CallK.pg (fun _ => h1) ?_ | refine CallK.pd (h2) ?_ | refine CallK.pg (fun _ => h2) ?_); simp only [push_cast, seval, hd, e1, e2, bs_app, bs_size]; (try simp (disch := omega) only [wrapI]); (repeat ((with_reducible refine And.intro ?_ ?_); (focus (exact ob1))))) | (refine hK _ ?_; clear hK K) | (apply awp_cond; (focus (simp only [push_cast, seval]; rfl))) | (with_reducible intro hb; exfalso; revert hb; simp [hd, e1, e2, bs_app, bs_size]; done) | (with_reducible intro hb; exfalso; (try simp only [decide_eq_true_eq, decide_eq_false_iff_not, Bool.not_eq_true', Bool.not_eq_false', Bool.and_eq_true, Bool.or_eq_true, Bool.not_eq_true] at hb); omega; done) | (with_reducible intro hb; (try simp only [decide_eq_true_eq, decide_eq_false_iff_not, Bool.not_eq_true', Bool.not_eq_false', Bool.and_eq_true, Bool.or_eq_true, Bool.not_eq_true] at hb)) | (refine awp_exit ?_; (repeat (first | refine then_exit ?_ | refine inblock_other (by decide) ?_)); refine inblock_same ?_) | (refine awp_ret ?_; (repeat (first | refine then_ret ?_ | refine inblock_ret ?_ | refine nogoto_ret ?_)); refine fin_of (by simp only [push_cast, seval, hd, e1, e2, bs_app, bs_size]; first | done | rfl) ob1 ?_) | (refine inblock_norm ?_)))
      rfl
termination_by n => n
theorem p64 (n : Int) (h0 : -9223372036854775808 < n) (h1 : n ≤ 9223372036854775807) : PD Tryd.prog 64 [.int .i64 n] (.d (.str (bs (Lib.itoa n)))) := by
  by_cases hn : n < 0
  · have h90 := p90 n.natAbs (by omega)
    have e : ((n.natAbs : Nat) : Int) = 0 - n := by omega
    have hb : (Lib.decDigits n.natAbs).length ≤ 20 := by rw [Lib.decDigits_length]; exact Lib.nDigits_le20 _ (by omega)
    rw [e] at h90
    have hd : decide (n < 0) = true := decide_eq_true hn
    have e45 : (⟨#[45]⟩ : ByteArray) = bs [45] := rfl
    rw [Lib.itoa, if_pos hn]
    generalize Lib.decDigits n.natAbs = a at *
    refine pd_of (fn := Tryd.f64) [.tmp 2] (by kernel_rfl) rfl (by kernel_rfl) (Nat.le_of_ble_eq_true rfl) (by kernel_rfl) rfl rfl ?_
    (repeat' (first | refine awp_seq ?_ | refine awp_skip ?_ | refine awp_block ?_ | ((first | (refine awpF_region ?_; intro K hK) | refine CallK.pd (h90) ?_ | refine CallK.pg (fun _ => h90) ?_); simp only [push_cast, seval, hd, e45, bs_app, bs_size]; (try simp (disch := omega) only [wrapI]); (repeat ((with_reducible refine And.intro ?_ ?_); (focus (exact ob1))))) | (refine hK _ ?_; clear hK K) | (apply awp_cond; (focus (simp only [push_cast, seval]; rfl))) | (with_reducible intro hb; exfalso; revert hb; simp [hd, e45, bs_app, bs_size]; done) | (with_reducible intro hb; exfalso; (try simp only [decide_eq_true_eq, decide_eq_false_iff_not, Bool.not_eq_true', Bool.not_eq_false', Bool.and_eq_true, Bool.or_eq_true, Bool.not_eq_true] at hb); omega; done) | (with_reducible intro hb; (try simp only [decide_eq_true_eq, decide_eq_false_iff_not, Bool.not_eq_true', Bool.not_eq_false', Bool.and_eq_true, Bool.or_eq_true, Bool.not_eq_true] at hb)) | (refine awp_exit ?_; (repeat (first | refine then_exit ?_ | refine inblock_other (by decide) ?_)); refine inblock_same ?_) | (refine awp_ret ?_; (repeat (first | refine then_ret ?_ | refine inblock_ret ?_ | refine nogoto_ret ?_)); refine fin_of (by simp only [push_cast, seval, hd, e45, bs_app, bs_size]; first | done | rfl) ob1 ?_) | (refine inblock_norm ?_)))
    rfl
  · have h90 := p90 n.toNat (by omega)
    have e : ((n.toNat : Nat) : Int) = n := by omega
    rw [e] at h90
    have hd : decide (n < 0) = false := decide_eq_false hn
    rw [Lib.itoa, if_neg hn]
    generalize Lib.decDigits n.toNat = a at *
    refine pd_of (fn := Tryd.f64) [.tmp 2] (by kernel_rfl) rfl (by kernel_rfl) (Nat.le_of_ble_eq_true rfl) (by kernel_rfl) rfl rfl ?_
    (repeat' (first | refine awp_seq ?_ | refine awp_skip ?_ | refine awp_block ?_ | ((first | (refine awpF_region ?_; intro K hK) | refine CallK.pd (h90) ?_ | refine CallK.pg (fun _ => h90) ?_); simp only [push_cast, seval, hd]; (try simp (disch := omega) only [wrapI]); (repeat ((with_reducible refine And.intro ?_ ?_); (focus (exact ob1))))) | (refine hK _ ?_; clear hK K) | (apply awp_cond; (focus (simp only [push_cast, seval]; rfl))) | (with_reducible intro hb; exfalso; revert hb; simp [hd]; done) | (with_reducible intro hb; exfalso; (try simp only [decide_eq_true_eq, decide_eq_false_iff_not, Bool.not_eq_true', Bool.not_eq_false', Bool.and_eq_true, Bool.or_eq_true, Bool.not_eq_true] at hb); omega; done) | (with_reducible intro hb; (try simp only [decide_eq_true_eq, decide_eq_false_iff_not, Bool.not_eq_true', Bool.not_eq_false', Bool.and_eq_true, Bool.or_eq_true, Bool.not_eq_true] at hb)) | (refine awp_exit ?_; (repeat (first | refine then_exit ?_ | refine inblock_other (by decide) ?_)); refine inblock_same ?_) | (refine awp_ret ?_; (repeat (first | refine then_ret ?_ | refine inblock_ret ?_ | refine nogoto_ret ?_)); refine fin_of (by simp only [push_cast, seval, hd]; first | done | rfl) ob1 ?_) | (refine inblock_norm ?_)))
    rfl
def encS (w : List UInt8) : List D := [.str (bs w)]
def wordsR : List (List D) := wordL.map encS
theorem p63 : PD Tryd.prog 63 [] (.d (.sl wordsR)) := by
  refine pdv_of (fn := Tryd.f63) [.tmp 0] (by kernel_rfl) rfl (by kernel_rfl) (Nat.le_of_ble_eq_true rfl) (by kernel_rfl) rfl ?_
  (repeat' (first | refine awp_seq ?_ | refine awp_skip ?_ | refine awp_block ?_ | ((first | (refine awpF_region ?_; intro K hK)); simp only [push_cast, seval]; (try simp (disch := omega) only [wrapI]); (repeat ((with_reducible refine And.intro ?_ ?_); (focus (exact ob1))))) | (refine hK _ ?_; clear hK K) | (apply awp_cond; (focus (simp only [push_cast, seval]; rfl))) | (with_reducible intro hb; exfalso; revert hb; simp []; done) | (with_reducible intro hb; exfalso; (try simp only [decide_eq_true_eq, decide_eq_false_iff_not, Bool.not_eq_true', Bool.not_eq_false', Bool.and_eq_true, Bool.or_eq_true, Bool.not_eq_true] at hb); omega; done) | (with_reducible intro hb; (try simp only [decide_eq_true_eq, decide_eq_false_iff_not, Bool.not_eq_true', Bool.not_eq_false', Bool.and_eq_true, Bool.or_eq_true, Bool.not_eq_true] at hb)) | (refine awp_exit ?_; (repeat (first | refine then_exit ?_ | refine inblock_other (by decide) ?_)); refine inblock_same ?_) | (refine awp_ret ?_; (repeat (first | refine then_ret ?_ | refine inblock_ret ?_ | refine nogoto_ret ?_)); refine fin_of (by simp only [push_cast, seval]; first | done | rfl) ob1 ?_) | (refine inblock_norm ?_)))
  exact DeepV.row rfl rfl
theorem p67 (l : List UInt8) (hl : l.length ≤ 100000) : PD Tryd.prog 67 [.str (bs l)] (.d (.sl ((splitW l).map encS))) := by
  refine pdv_of (fn := Tryd.f67) [.tmp 2] (by kernel_rfl) rfl (by kernel_rfl) (Nat.le_of_ble_eq_true rfl) (by kernel_rfl) rfl ?_
  refine awp_seq ?_
  refine awpF_region ?_; intro K hK; simp only [push_cast, seval]; (try simp (disch := omega) only [wrapI]); (repeat ((with_reducible refine And.intro ?_ ?_); (focus (exact ob1)))); refine hK _ ?_; clear hK K
  refine awp_seq ?_
  refine awpF_region ?_; intro K hK; simp only [push_cast, seval]; (try simp (disch := omega) only [wrapI]); (repeat ((with_reducible refine And.intro ?_ ?_); (focus (exact ob1)))); refine hK _ ?_; clear hK K
  refine awp_seq ?_
  refine awpF_region ?_; intro K hK; simp only [push_cast, seval]; (try simp (disch := omega) only [wrapI]); (repeat ((with_reducible refine And.intro ?_ ?_); (focus (exact ob1)))); refine hK _ ?_; clear hK K
  refine awp_seq ?_
  refine awp_seq ?_
  refine awpF_region ?_; intro K hK; simp only [push_cast, seval]; (try simp (disch := omega) only [wrapI]); (repeat ((with_reducible refine And.intro ?_ ?_); (focus (exact ob1)))); refine hK _ ?_; clear hK K
  refine awp_virt 3 1 (by simp only [push_cast, seval]) ?_
  refine awp_block ?_
  refine awp_loopP (α := Nat × Nat × List (List UInt8)) (st := fun x => ⟨[(0, .d (.str (bs l))), (3, .ref 0 0 x.2.2.length), (4, .d (.int .i64 x.2.1)), (5, .d (.int .i64 x.1))], [.data 1 (x.2.2.map encS)]⟩)
    (inv := fun x => x.1 ≤ l.length + 1 ∧ x.2.2.length ≤ x.1 ∧ x.2.1 ≤ x.1 ∧ (x.1 ≤ l.length → splitW l = x.2.2 ++ splitW (l.drop x.2.1) ∧ ∀ c, c ∈ (l.take x.1).drop x.2.1 → c ≠ 32) ∧ (x.1 = l.length + 1 → splitW l = x.2.2)) (μ := fun x => l.length + 1 - x.1) (x0 := (0, 0, [])) (r0 := [0]) ?_ ?_ ?_
  · refine ⟨by omega, Nat.le_refl _, Nat.le_refl _, fun _ => ⟨by simp, by simp⟩, fun h => ?_⟩
    dsimp only at h
    omega
  · exact ⟨by simp, by simp, by simp [push_cast, seval], by simp [push_cast, seval], by simp [push_cast, seval], by simp [push_cast, seval]⟩
  rintro ⟨i, fr, ws⟩ ⟨hi, hwl, hfi, h1, h2⟩
  dsimp only at hi hwl hfi h1 h2 ⊢
  have htk : List.take ws.length (ws.map encS) = ws.map encS := List.take_of_length_le (by simp)
  refine awp_seq ?_
  refine awp_seq ?_
  refine awpF_region ?_; intro K hK; simp only [push_cast, seval, bs_size]; (try simp (disch := omega) only [wrapI]); (repeat ((with_reducible refine And.intro ?_ ?_); (focus (exact ob1)))); refine hK _ ?_; clear hK K
  apply awp_cond; (focus (simp only [push_cast, seval]; rfl))
  · intro h3; (try simp only [decide_eq_true_eq, decide_eq_false_iff_not, Bool.not_eq_true', Bool.not_eq_false', Bool.and_eq_true, Bool.or_eq_true, Bool.not_eq_true] at h3)
    have hil : i ≤ l.length := by omega
    obtain ⟨h4, h5⟩ := h1 hil
    clear h1 h2
    refine awp_skip ?_
    refine awp_mid (fun u => ∃ fr' ws', (ws'.length ≤ i + 1 ∧ fr' ≤ i + 1 ∧ (i + 1 ≤ l.length → splitW l = ws' ++ splitW (l.drop fr') ∧ ∀ c, c ∈ (l.take (i + 1)).drop fr' → c ≠ 32) ∧ (i + 1 = l.length + 1 → splitW l = ws')) ∧
      u = ⟨[(0, .d (.str (bs l))), (3, .ref 0 0 ws'.length), (4, .d (.int .i64 (fr' : Nat))), (5, .d (.int .i64 i))], [.data 1 (ws'.map encS)]⟩) ?_ ?_
    · refine awp_block ?_
      by_cases he : i = l.length
      · subst he
        rw [List.take_length] at h5
        have h6 := splitW_last h5
        rw [h6] at h4
        refine awp_seq ?_
        refine awpF_region ?_; intro K hK; simp only [push_cast, seval, bs_size, beq_self_eq_true]; (try simp (disch := omega) only [wrapI]); (repeat ((with_reducible refine And.intro ?_ ?_); (focus (exact ob1)))); refine hK _ ?_; clear hK K
        apply awp_cond; (focus (simp only [push_cast, seval]; rfl))
        rotate_left
        · intro h
          cases h
        intro _
        refine awp_seq ?_
        refine awpF_region ?_; intro K hK; simp only [push_cast, seval, bs_extract, bs_size, Int.toNat_natCast, htk]; (try simp (disch := omega) only [wrapI]); (repeat ((with_reducible refine And.intro ?_ ?_); (focus (exact ob1)))); refine hK _ ?_; clear hK K
        refine awpF_region ?_; intro K hK; simp only [push_cast, seval]; (try simp (disch := omega) only [wrapI]); (repeat ((with_reducible refine And.intro ?_ ?_); (focus (exact ob1)))); refine hK _ ?_; clear hK K
        refine inblock_norm ?_
        refine ⟨[0], _, ⟨l.length + 1, ws ++ [l.drop fr], ⟨by simp; omega, Nat.le_refl _, fun h => by omega, fun _ => h4⟩, rfl⟩, ?_⟩
        rw [List.take_length, List.map_append, List.length_append]
        simp only [List.map_cons, List.map_nil, encS]
        push_cast
        exact ⟨by simp, by simp, by simp [push_cast, seval], by simp [push_cast, seval], by simp [push_cast, seval], by simp [push_cast, seval]⟩
      · have hlt : i < l.length := by omega
        have hne : ((i : Int) == l.length) = false := beq_eq_false_iff_ne.2 (by omega)
        have hg : l[i]? = some (l.getD i 0) := by rw [List.getD_eq_getElem?_getD, List.getElem?_eq_getElem hlt]; rfl
        have hdr : l.drop fr = (l.take i).drop fr ++ l.getD i 0 :: l.drop (i + 1) := by
          have e1 : l = l.take i ++ l.getD i 0 :: l.drop (i + 1) := by
            have e2 : l.drop i = l.getD i 0 :: l.drop (i + 1) := by
              rw [List.drop_eq_getElem_cons hlt]
              congr 1
              rw [List.getElem?_eq_getElem hlt] at hg
              exact Option.some.inj hg
            rw [← e2, List.take_append_drop]
          have e3 := congrArg (List.drop fr) e1
          rw [List.drop_append_of_le_length (by simp; omega)] at e3
          exact e3
        have hbl : ∀ c, c ∈ (l.take (i + 1)).drop fr → c ∈ (l.take i).drop fr ∨ c = l.getD i 0 := fun c hc => by
          rw [List.take_add_one, hg, List.drop_append_of_le_length (by simp; omega)] at hc
          rcases List.mem_append.1 hc with hc | hc
          · exact .inl hc
          · exact .inr (by simpa using hc)
        generalize hcc : l.getD i 0 = c at *
        by_cases h32 : c = 32
        · subst h32
          rw [hdr, splitW_word _ h5] at h4
          refine awp_seq ?_
          refine awpF_region ?_; intro K hK; simp only [push_cast, seval, bs_size, bs_get, hne, hcc, Int.toNat_natCast]; (try simp (disch := omega) only [wrapI]); (repeat ((with_reducible refine And.intro ?_ ?_); (focus (exact ob1)))); refine hK _ ?_; clear hK K
          apply awp_cond; (focus (simp only [push_cast, seval]; rfl))
          rotate_left
          · intro h
            cases h
          intro _
          refine awp_seq ?_
          refine awpF_region ?_; intro K hK; simp only [push_cast, seval, bs_extract, bs_size, Int.toNat_natCast, htk]; (try simp (disch := omega) only [wrapI]); (repeat ((with_reducible refine And.intro ?_ ?_); (focus (exact ob1)))); refine hK _ ?_; clear hK K
          refine awpF_region ?_; intro K hK; simp only [push_cast, seval]; (try simp (disch := omega) only [wrapI]); (repeat ((with_reducible refine And.intro ?_ ?_); (focus (exact ob1)))); refine hK _ ?_; clear hK K
          refine inblock_norm ?_
          refine ⟨[0], _, ⟨i + 1, ws ++ [(l.take i).drop fr], ⟨by simp; omega, Nat.le_refl _, fun h => ⟨by rw [h4]; simp, fun c hc => ?_⟩, fun h => by omega⟩, rfl⟩, ?_⟩
          · rw [List.drop_of_length_le (by simp; omega)] at hc
            cases hc
          · rw [List.map_append, List.length_append]
            simp only [List.map_cons, List.map_nil, encS]
            push_cast
            exact ⟨by simp, by simp, by simp [push_cast, seval], by simp [push_cast, seval], by simp [push_cast, seval], by simp [push_cast, seval]⟩
        · have hc2 : ((c.toNat : Int) == 32) = false := beq_eq_false_iff_ne.2 fun h => h32 (UInt8.toNat_inj.1 (show c.toNat = 32 by omega))
          refine awp_seq ?_
          refine awpF_region ?_; intro K hK; simp only [push_cast, seval, bs_size, bs_get, hne, hcc, hc2, Int.toNat_natCast]; (try simp (disch := omega) only [wrapI]); (repeat ((with_reducible refine And.intro ?_ ?_); (focus (exact ob1)))); refine hK _ ?_; clear hK K
          apply awp_cond; (focus (simp only [push_cast, seval]; rfl))
          · intro h
            cases h
          intro _
          refine awp_skip ?_
          refine inblock_norm ?_
          refine ⟨[0], _, ⟨fr, ws, ⟨by omega, by omega, fun h => ⟨h4, fun d hd => ?_⟩, fun h => by omega⟩, rfl⟩, ?_⟩
          · rcases hbl d hd with hd | rfl
            · exact h5 d hd
            · exact h32
          · exact ⟨by simp, by simp, by simp [push_cast, seval], by simp [push_cast, seval], by simp [push_cast, seval], by simp [push_cast, seval]⟩
    rintro _ ⟨fr', ws', ⟨g1, g2, g3, g4⟩, rfl⟩
    refine awpF_region ?_; intro K hK; simp only [push_cast, seval]; (try simp (disch := omega) only [wrapI]); (repeat ((with_reducible refine And.intro ?_ ?_); (focus (exact ob1)))); refine hK _ ?_; clear hK K
    refine round_endG (i + 1, fr', ws') ([0]) ⟨by show l.length + 1 - (i + 1) < l.length + 1 - i; omega, ⟨by show i + 1 ≤ l.length + 1; omega, g1, g2, g3, g4⟩, ?_⟩
    push_cast
    exact ⟨by simp, by simp, by simp [push_cast, seval], by simp [push_cast, seval], by simp [push_cast, seval], by simp [push_cast, seval]⟩
  · intro h3; (try simp only [decide_eq_true_eq, decide_eq_false_iff_not, Bool.not_eq_true', Bool.not_eq_false', Bool.and_eq_true, Bool.or_eq_true, Bool.not_eq_true] at h3)
    obtain rfl : i = l.length + 1 := by omega
    rw [h2 rfl]
    refine awp_exit ?_; (repeat (first | refine then_exit ?_ | refine inblock_other (by decide) ?_)); refine inblock_same ?_
    refine awp_seq ?_
    refine awpF_region ?_; intro K hK; simp only [push_cast, seval]; (try simp (disch := omega) only [wrapI]); (repeat ((with_reducible refine And.intro ?_ ?_); (focus (exact ob1)))); refine hK _ ?_; clear hK K
    refine awp_ret ?_; (repeat (first | refine then_ret ?_ | refine inblock_ret ?_ | refine nogoto_ret ?_)); refine fin_of (by simp only [push_cast, seval]; first | done | rfl) ob1 ?_
    exact DeepV.row rfl (by simp)
end Go.Aw
