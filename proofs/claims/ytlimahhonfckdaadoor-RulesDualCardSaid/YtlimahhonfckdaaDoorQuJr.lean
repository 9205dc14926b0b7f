/-
  Texts of the proof, one behind the other. The conditions stand with each of them.
-/
import Derived.Test.YtlimahhonfckdaaDoorQuFr
import Derived.Test.YtlimahhonfckdaaDoorQuEr
namespace Go.Aw
set_option linter.unusedSimpArgs false
set_option linter.unusedVariables false
open Go.RowKit Go.Proofs
set_option maxRecDepth 100000

theorem p44 (l : List UInt8) (t : Fm) (hl : l.length ≤ 100000) (ht : ∀ f, parseL l = some f → shE f 12 = 0 → t.wf ∧ f = t.flat) : PD Tryd.prog 44 [.str (bs l)] (.d (.sl ((prsV l t).1.map encNd))) := by
  have h37 := p37 l t hl ht
  by_cases h0 : (prsV l t).2 = 0
  · rw [h0] at h37
    refine pdv_of (fn := Tryd.f44) [.tmp 2] (by kernel_rfl) rfl (by kernel_rfl) (Nat.le_of_ble_eq_true rfl) (by kernel_rfl) rfl ?_
    (repeat' (first | refine awp_seq ?_ | refine awp_skip ?_ | refine awp_block ?_ | ((first | (refine awpF_region ?_; intro K hK) | refine CallK.pd (h37) ?_ | refine CallK.pg (fun _ => h37) ?_); simp only [push_cast, seval, bne_self_eq_false]; (try simp (disch := omega) only [wrapI]); (repeat ((with_reducible refine And.intro ?_ ?_); (focus (exact ob1))))) | (refine hK _ ?_; clear hK K) | (apply awp_cond; (focus (simp only [push_cast, seval]; rfl))) | (with_reducible intro hb; exfalso; revert hb; simp [bne_self_eq_false]; done) | (with_reducible intro hb; exfalso; (try simp only [decide_eq_true_eq, decide_eq_false_iff_not, Bool.not_eq_true', Bool.not_eq_false', Bool.and_eq_true, Bool.or_eq_true, Bool.not_eq_true] at hb); omega; done) | (with_reducible intro hb; (try simp only [decide_eq_true_eq, decide_eq_false_iff_not, Bool.not_eq_true', Bool.not_eq_false', Bool.and_eq_true, Bool.or_eq_true, Bool.not_eq_true] at hb)) | (refine awp_exit ?_; (repeat (first | refine then_exit ?_ | refine inblock_other (by decide) ?_)); refine inblock_same ?_) | (refine awp_ret ?_; (repeat (first | refine then_ret ?_ | refine inblock_ret ?_ | refine nogoto_ret ?_)); refine fin_of (by simp only [push_cast, seval, bne_self_eq_false]; first | done | rfl) ob1 ?_) | (refine inblock_norm ?_)))
    exact DeepV.dd _
  · have h1 : (prsV l t).1 = [] := by
      unfold prsV at h0 ⊢
      split
      · rfl
      · rename_i f hf
        rw [hf] at h0
        dsimp only at h0
        split at h0
        · exact absurd rfl h0
        · rename_i hc
          rw [if_neg hc]
    have hb1 : ((prsV l t).2 != 0) = true := by simpa using h0
    rw [h1]
    generalize (prsV l t).1 = f at *
    generalize (prsV l t).2 = e at *
    subst h1
    refine pdv_of (fn := Tryd.f44) [.tmp 2] (by kernel_rfl) rfl (by kernel_rfl) (Nat.le_of_ble_eq_true rfl) (by kernel_rfl) rfl ?_
    (repeat' (first | refine awp_seq ?_ | refine awp_skip ?_ | refine awp_block ?_ | ((first | (refine awpF_region ?_; intro K hK) | refine CallK.pd (h37) ?_ | refine CallK.pg (fun _ => h37) ?_); simp only [push_cast, seval, hb1]; (try simp (disch := omega) only [wrapI]); (repeat ((with_reducible refine And.intro ?_ ?_); (focus (exact ob1))))) | (refine hK _ ?_; clear hK K) | (apply awp_cond; (focus (simp only [push_cast, seval]; rfl))) | (with_reducible intro hb; exfalso; revert hb; simp [hb1]; done) | (with_reducible intro hb; exfalso; (try simp only [decide_eq_true_eq, decide_eq_false_iff_not, Bool.not_eq_true', Bool.not_eq_false', Bool.and_eq_true, Bool.or_eq_true, Bool.not_eq_true] at hb); omega; done) | (with_reducible intro hb; (try simp only [decide_eq_true_eq, decide_eq_false_iff_not, Bool.not_eq_true', Bool.not_eq_false', Bool.and_eq_true, Bool.or_eq_true, Bool.not_eq_true] at hb)) | (refine awp_exit ?_; (repeat (first | refine then_exit ?_ | refine inblock_other (by decide) ?_)); refine inblock_same ?_) | (refine awp_ret ?_; (repeat (first | refine then_ret ?_ | refine inblock_ret ?_ | refine nogoto_ret ?_)); refine fin_of (by simp only [push_cast, seval, hb1]; first | done | rfl) ob1 ?_) | (refine inblock_norm ?_)))
    exact DeepV.nil
theorem p75 (l : List Int) (hl : l.length ≤ 1000) : PD Tryd.prog 75 [.sl (l.map encI)] (.d (.sl ((l.map fun x => [x]).map encR))) := by
  have hq : ∀ row, row ∈ l.map encI → row.length = 1 := fun row hr => by obtain ⟨_, _, rfl⟩ := List.mem_map.1 hr; rfl
  refine pdv_of (fn := Tryd.f75) [.tmp 2] (by kernel_rfl) rfl (by kernel_rfl) (Nat.le_of_ble_eq_true rfl) (by kernel_rfl) rfl ?_
  refine awp_seq ?_
  refine awpF_region ?_; intro K hK; simp only [push_cast, seval]; (try simp (disch := omega) only [wrapI]); (repeat ((with_reducible refine And.intro ?_ ?_); (focus (exact ob1)))); refine hK _ ?_; clear hK K
  refine awp_seq ?_
  refine awpF_region ?_; intro K hK; simp only [push_cast, seval]; (try simp (disch := omega) only [wrapI]); (repeat ((with_reducible refine And.intro ?_ ?_); (focus (exact ob1)))); refine hK _ ?_; clear hK K
  refine awp_seq ?_
  refine awp_seq ?_
  refine awpF_region ?_; intro K hK; simp only [push_cast, seval]; (try simp (disch := omega) only [wrapI]); (repeat ((with_reducible refine And.intro ?_ ?_); (focus (exact ob1)))); refine hK _ ?_; clear hK K
  refine awp_virt 3 1 (by simp only [push_cast, seval]) ?_
  refine awp_block ?_
  refine awp_loopP (α := Nat) (st := fun i => ⟨[(0, .d (.sl (l.map encI))), (3, .ref 0 0 i), (4, .d (.int .i64 i))], [.data 1 (((l.take i).map fun x => [x]).map encR)]⟩)
    (inv := fun i => i ≤ l.length) (μ := fun i => l.length - i) (x0 := 0) (r0 := [0]) (Nat.zero_le _) ?_ ?_
  · exact ⟨by simp, by simp, by simp [push_cast, seval], by simp [push_cast, seval], by simp [push_cast, seval], by simp [push_cast, seval]⟩
  intro i hi
  have hil : (((l.take i).map fun x => [x]).map encR).length = i := by simp; omega
  have htk : List.take i (((l.take i).map fun x => [x]).map encR) = ((l.take i).map fun x => [x]).map encR := List.take_of_length_le (by omega)
  have hqR : ∀ row, row ∈ (((l.take i).map fun x => [x]).map encR) → row.length = 1 := fun row hr => by obtain ⟨_, _, rfl⟩ := List.mem_map.1 hr; rfl
  refine awp_seq ?_
  refine awp_seq ?_
  refine awpF_region ?_; intro K hK; simp only [push_cast, seval]; (try simp (disch := omega) only [wrapI]); (repeat ((with_reducible refine And.intro ?_ ?_); (focus (exact ob1)))); refine hK _ ?_; clear hK K
  apply awp_cond; (focus (simp only [push_cast, seval]; rfl))
  · intro h1; (try simp only [decide_eq_true_eq, decide_eq_false_iff_not, Bool.not_eq_true', Bool.not_eq_false', Bool.and_eq_true, Bool.or_eq_true, Bool.not_eq_true] at h1)
    have hlt : i < l.length := by omega
    obtain ⟨v, hv⟩ : ∃ v, l[i]? = some v := ⟨_, List.getElem?_eq_getElem hlt⟩
    refine awp_skip ?_
    refine awp_seq ?_
    refine awp_block ?_
    refine awpF_region ?_; intro K hK; simp only [push_cast, seval, hv, encI, Int.toNat_natCast, htk]
    (repeat ((with_reducible refine And.intro ?_ ?_); (focus (exact ob1))))
    refine hK _ ?_; clear hK K
    refine inblock_norm ?_
    refine awpF_region ?_; intro K hK; simp only [push_cast, seval]; (try simp (disch := omega) only [wrapI]); (repeat ((with_reducible refine And.intro ?_ ?_); (focus (exact ob1)))); refine hK _ ?_; clear hK K
    refine round_endG (i + 1) ([0]) ⟨by omega, by omega, ?_⟩
    have e : ((l.take (i + 1)).map fun x => [x]).map encR = ((l.take i).map fun x => [x]).map encR ++ [[.sl [[.int .i64 v]]]] := by
      rw [List.take_add_one, hv, List.map_append, List.map_append]
      rfl
    rw [e]
    push_cast
    exact ⟨by simp, by simp, by simp [push_cast, seval], by simp [push_cast, seval], by simp [push_cast, seval], by simp [push_cast, seval]⟩
  · intro h1; (try simp only [decide_eq_true_eq, decide_eq_false_iff_not, Bool.not_eq_true', Bool.not_eq_false', Bool.and_eq_true, Bool.or_eq_true, Bool.not_eq_true] at h1)
    obtain rfl : i = l.length := by omega
    rw [List.take_length] at *
    refine awp_exit ?_; (repeat (first | refine then_exit ?_ | refine inblock_other (by decide) ?_)); refine inblock_same ?_
    refine awp_seq ?_
    refine awpF_region ?_; intro K hK; simp only [push_cast, seval]; (try simp (disch := omega) only [wrapI]); (repeat ((with_reducible refine And.intro ?_ ?_); (focus (exact ob1)))); refine hK _ ?_; clear hK K
    refine awp_ret ?_; (repeat (first | refine then_ret ?_ | refine inblock_ret ?_ | refine nogoto_ret ?_)); refine fin_of (by simp only [push_cast, seval]; first | done | rfl) ob1 ?_
    exact DeepV.row rfl hil.symm
theorem p43 (l : List UInt8) (t : Fm) (want : Int) (ns : List Int) (hn : ns.length ≤ 1000) (hl : l.length ≤ 100000) (ht : ∀ f, parseL l = some f → shE f 12 = 0 → t.wf ∧ f = t.flat) (ht1 : shE (prsV l t).1 1 = 0 → t.wf ∧ (prsV l t).1 = t.flat) (hf : (prsV l t).1.length ≤ 1000000) :
    PD Tryd.prog 43 [.str (bs l), .int .i64 want, .sl (ns.map encI)] (.d (.bool (evE (prsV l t).1 1 t (ns.map fun x => [x]) 0 == 0 && evV (prsV l t).1 1 t (ns.map fun x => [x]) 0 == want))) := by
  have h44 := p44 l t hl ht
  have h75 := p75 ns hn
  have h24 := p24 (prsV l t).1 1 t (ns.map fun x => [x]) 0 hf ht1 (by decide)
  generalize (prsV l t).1 = f at *
  generalize evE f 1 t (ns.map fun x => [x]) 0 = e at *
  generalize evV f 1 t (ns.map fun x => [x]) 0 = v at *
  refine pd_of (fn := Tryd.f43) [.tmp 6] (by kernel_rfl) rfl (by kernel_rfl) (Nat.le_of_ble_eq_true rfl) (by kernel_rfl) rfl rfl ?_
  (repeat' (first | refine awp_seq ?_ | refine awp_skip ?_ | refine awp_block ?_ | ((first | (refine awpF_region ?_; intro K hK) | refine CallK.pd (h44) ?_ | refine CallK.pg (fun _ => h44) ?_ | refine CallK.pd (h75) ?_ | refine CallK.pg (fun _ => h75) ?_ | refine CallK.pd (h24) ?_ | refine CallK.pg (fun _ => h24) ?_); simp only [push_cast, seval]; (try simp (disch := omega) only [wrapI]); (repeat ((with_reducible refine And.intro ?_ ?_); (focus (exact ob1))))) | (refine hK _ ?_; clear hK K) | (apply awp_cond; (focus (simp only [push_cast, seval]; rfl))) | (with_reducible intro hb; exfalso; revert hb; simp []; done) | (with_reducible intro hb; exfalso; (try simp only [decide_eq_true_eq, decide_eq_false_iff_not, Bool.not_eq_true', Bool.not_eq_false', Bool.and_eq_true, Bool.or_eq_true, Bool.not_eq_true] at hb); omega; done) | (with_reducible intro hb; (try simp only [decide_eq_true_eq, decide_eq_false_iff_not, Bool.not_eq_true', Bool.not_eq_false', Bool.and_eq_true, Bool.or_eq_true, Bool.not_eq_true] at hb)) | (refine awp_exit ?_; (repeat (first | refine then_exit ?_ | refine inblock_other (by decide) ?_)); refine inblock_same ?_) | (refine awp_ret ?_; (repeat (first | refine then_ret ?_ | refine inblock_ret ?_ | refine nogoto_ret ?_)); refine fin_of (by simp only [push_cast, seval]; first | done | rfl) ob1 ?_) | (refine inblock_norm ?_)))
  congr 2
  cases (e == 0) <;> rfl
def exA : Fm := .u ⟨6, 0, 0, 0, 0, 2⟩ (.z ⟨2, 0, -1, 5, 0, 0⟩)
def exB : Fm := .b ⟨8, 0, 0, 0, 0, 4⟩ (.z ⟨1, 0, 0, 0, 0, 0⟩) (.z ⟨2, 0, -1, 1, 0, 0⟩)
def exAt : List UInt8 := [97, 108, 119, 97, 121, 115, 32, 48, 32, 50, 32, 108, 101, 32, 48, 32, 45, 49, 32, 53]
def exBt : List UInt8 := [117, 110, 116, 105, 108, 32, 48, 32, 52, 32, 116, 114, 117, 101, 32, 108, 101, 32, 48, 32, 45, 49, 32, 49]
theorem itoa_one {n : Nat} (h : n < 10) : Lib.itoa n = [UInt8.ofNat (48 + n)] := by
  rw [Lib.itoa, if_neg (by omega), Int.toNat_natCast, Lib.decDigits_one h]
theorem itoa_m1 : Lib.itoa (-1) = [45, 49] := by
  rw [Lib.itoa, if_pos (by decide), show (-1 : Int).natAbs = 1 from rfl, Lib.decDigits_one (by decide)]
  rfl
theorem exA_text : textL exA.flat = exAt := by
  have h0 : Lib.itoa 0 = [48] := itoa_one (n := 0) (by decide)
  have h2 : Lib.itoa 2 = [50] := itoa_one (n := 2) (by decide)
  have h5 : Lib.itoa 5 = [53] := itoa_one (n := 5) (by decide)
  simp [textL, exA, Fm.flat, nodeW, wordL, joinW, h0, h2, h5, itoa_m1, exAt]
theorem exB_text : textL exB.flat = exBt := by
  have h0 : Lib.itoa 0 = [48] := itoa_one (n := 0) (by decide)
  have h1 : Lib.itoa 1 = [49] := itoa_one (n := 1) (by decide)
  have h4 : Lib.itoa 4 = [52] := itoa_one (n := 4) (by decide)
  simp [textL, exB, Fm.flat, nodeW, wordL, joinW, h0, h1, h4, itoa_m1, exBt]
theorem prs_of {t : Fm} (hw : t.wf) (hc : chkE t.flat 12 t = 0) (hn : ∀ n, n ∈ t.flat → nodeE n 12 = 0) : prsV (textL t.flat) t = (t.flat, 0) := by
  have hne : t.flat ≠ [] := by cases t <;> simp [Fm.flat]
  simp only [prsV, parse_text hne fun n h => writN_of (hn n h), if_pos hc]
theorem exA_prs : prsV exAt exA = (exA.flat, 0) := by
  rw [← exA_text]
  exact prs_of ⟨.inr (.inl rfl), .inr rfl⟩ (by decide) (by decide)
theorem exB_prs : prsV exBt exB = (exB.flat, 0) := by
  rw [← exB_text]
  exact prs_of ⟨.inr (.inr rfl), .inl rfl, .inr rfl⟩ (by decide) (by decide)
theorem exA_par : ∀ f, parseL exAt = some f → shE f 12 = 0 → exA.wf ∧ f = exA.flat := by
  intro f hf _
  rw [← exA_text, parse_text (by simp [exA, Fm.flat]) fun n h => writN_of ((by decide : ∀ n, n ∈ exA.flat → nodeE n 12 = 0) n h)] at hf
  exact ⟨⟨.inr (.inl rfl), .inr rfl⟩, (Option.some.inj hf).symm⟩
theorem exB_par : ∀ f, parseL exBt = some f → shE f 12 = 0 → exB.wf ∧ f = exB.flat := by
  intro f hf _
  rw [← exB_text, parse_text (by simp [exB, Fm.flat]) fun n h => writN_of ((by decide : ∀ n, n ∈ exB.flat → nodeE n 12 = 0) n h)] at hf
  exact ⟨⟨.inr (.inr rfl), .inl rfl, .inr rfl⟩, (Option.some.inj hf).symm⟩
theorem p13 : PD Tryd.prog 13 [] (.d (.bool true)) := by
  have h1 := p43 exAt exA 2 [3, 4] (by decide) (by decide) exA_par (by rw [exA_prs]; exact fun _ => ⟨⟨.inr (.inl rfl), .inr rfl⟩, rfl⟩) (by rw [exA_prs]; decide)
  have h2 := p43 exAt exA 0 [3, 9] (by decide) (by decide) exA_par (by rw [exA_prs]; exact fun _ => ⟨⟨.inr (.inl rfl), .inr rfl⟩, rfl⟩) (by rw [exA_prs]; decide)
  have h3 := p44 exBt exB (by decide) exB_par
  have h4 := p18 exB.flat exB (by decide) fun _ => ⟨⟨.inr (.inr rfl), .inl rfl, .inr rfl⟩, rfl⟩
  rw [exA_prs] at h1 h2
  rw [exB_prs] at h3
  rw [show (evE (exA.flat, 0).1 1 exA ([3, 4].map fun x => [x]) 0 == 0 && evV (exA.flat, 0).1 1 exA ([3, 4].map fun x => [x]) 0 == 2) = true by decide] at h1
  rw [show (evE (exA.flat, 0).1 1 exA ([3, 9].map fun x => [x]) 0 == 0 && evV (exA.flat, 0).1 1 exA ([3, 9].map fun x => [x]) 0 == 0) = true by decide] at h2
  rw [show hzE exB.flat exB = 4 by decide] at h4
  dsimp only at h3
  have e1 : bs exAt = ⟨#[97, 108, 119, 97, 121, 115, 32, 48, 32, 50, 32, 108, 101, 32, 48, 32, 45, 49, 32, 53]⟩ := rfl
  have e2 : bs exBt = ⟨#[117, 110, 116, 105, 108, 32, 48, 32, 52, 32, 116, 114, 117, 101, 32, 108, 101, 32, 48, 32, 45, 49, 32, 49]⟩ := rfl
  rw [e1] at h1 h2
  rw [e2] at h3
  simp only [encI, List.map_cons, List.map_nil] at h1 h2
  generalize exB.flat.map encNd = fB at *
  refine pd_of (fn := Tryd.f13) [.tmp 0] (by kernel_rfl) rfl (by kernel_rfl) (Nat.le_of_ble_eq_true rfl) (by kernel_rfl) rfl rfl ?_
  (repeat' (first | refine awp_seq ?_ | refine awp_skip ?_ | refine awp_block ?_ | ((first | (refine awpF_region ?_; intro K hK) | refine CallK.pd (h1) ?_ | refine CallK.pg (fun _ => h1) ?_ | refine CallK.pd (h2) ?_ | refine CallK.pg (fun _ => h2) ?_ | refine CallK.pd (h3) ?_ | refine CallK.pg (fun _ => h3) ?_ | refine CallK.pd (h4) ?_ | refine CallK.pg (fun _ => h4) ?_); simp only [push_cast, seval]; (try simp (disch := omega) only [wrapI]); (repeat ((with_reducible refine And.intro ?_ ?_); (focus (exact ob1))))) | (refine hK _ ?_; clear hK K) | (apply awp_cond; (focus (simp only [push_cast, seval]; rfl))) | (with_reducible intro hb; exfalso; revert hb; simp []; done) | (with_reducible intro hb; exfalso; (try simp only [decide_eq_true_eq, decide_eq_false_iff_not, Bool.not_eq_true', Bool.not_eq_false', Bool.and_eq_true, Bool.or_eq_true, Bool.not_eq_true] at hb); omega; done) | (with_reducible intro hb; (try simp only [decide_eq_true_eq, decide_eq_false_iff_not, Bool.not_eq_true', Bool.not_eq_false', Bool.and_eq_true, Bool.or_eq_true, Bool.not_eq_true] at hb)) | (refine awp_exit ?_; (repeat (first | refine then_exit ?_ | refine inblock_other (by decide) ?_)); refine inblock_same ?_) | (refine awp_ret ?_; (repeat (first | refine then_ret ?_ | refine inblock_ret ?_ | refine nogoto_ret ?_)); refine fin_of (by simp only [push_cast, seval]; first | done | rfl) ob1 ?_) | (refine inblock_norm ?_)))
  rfl
end Go.Aw
