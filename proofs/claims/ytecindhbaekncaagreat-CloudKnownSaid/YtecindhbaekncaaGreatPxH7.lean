/-
  The iterator over the lower chain of a hull. Conditions: valid spots, at most 1000.
-/
import Derived.Test.YtecindhbaekncaaGreatPxH5
import Derived.Test.YtecindhbaekncaaGreatPxH6a
import Derived.Test.YtecindhbaekncaaGreatPxAwRj
namespace Go.Aw
set_option linter.unusedSimpArgs false
set_option linter.unusedVariables false
open Go.RowKit Go.Proofs Go.Rg

def outC (ks : List Sp) : List Sp := (chainR ks).tail.reverse
def encV (p : Sp) : Array Value := #[.agg #[.int .i64 p.1, .int .i64 p.2]]
theorem agg_val {E : Env} {F : Nat → Prop} {w : World} {x y : Int} {v : Value} (h : VR E F w (.agg [.d (.int .i64 x), .d (.int .i64 y)]) v) : v = .agg #[.int .i64 x, .int .i64 y] := by
  cases h with
  | agg xs cs hs hr =>
    obtain ⟨a, b, rfl⟩ : ∃ a b, cs = #[a, b] := by
      obtain ⟨l⟩ := cs
      match l, hs with
      | [a, b], _ => exact ⟨a, b, rfl⟩
    have h0 := hr 0 _ a rfl rfl
    have h1 := hr 1 _ b rfl rfl
    cases h0 with
    | d _ _ h0 =>
      cases h1 with
      | d _ _ h1 =>
        cases h0
        cases h1
        rfl
theorem chainR_mem {l : List Sp} : ∀ p, p ∈ chainR l → p ∈ l := by
  have pm : ∀ (q : Sp) (s : List Sp) (p : Sp), p ∈ popH q s → p ∈ s := by
    intro q s
    induction s with
    | nil => intro p hp; exact hp
    | cons b s ih =>
      cases s with
      | nil => intro p hp; exact hp
      | cons a s =>
        intro p hp
        simp only [popH] at hp
        split at hp
        · exact List.mem_cons_of_mem _ (ih p hp)
        · exact hp
  induction l using snoc_ind with
  | h0 => intro p hp; exact hp
  | h1 l a ih =>
    intro p hp
    rw [chainR_snoc] at hp
    rcases List.mem_cons.1 hp with rfl | hp
    · simp
    · exact List.mem_append_left _ (ih p (pm _ _ _ hp))
theorem side_le {a b p : Sp} (ha : fairS a = true) (hb : fairS b = true) (hp : fairS p = true) : sideV a b p ≤ 0 ↔ cr a b p ≤ 0 := by
  have : sideV a b p = sgn (cr a b p) := by rw [sideV, ha, hb, hp]; rfl
  rw [this]
  unfold sgn
  split
  · omega
  · split <;> omega

theorem gen114 (ks : List Sp) (hf : ∀ p, p ∈ ks → fairS p = true) (hn : ks.length ≤ 1000) {m l : Nat} {J : (Nat → Prop) → Nat → World → Prop} (hJ : Iter Tryz.prog m l (fun k => encV (atS (outC ks) k)) (outC ks).length J)
    {W : World} {F : Nat → Prop} (hlt : ∀ b, F b → b < W.heap.size) {pv : Value} (hp : RD F W (.cp [.sl (ks.map encS)] 0) pv) (h0 : J (fun _ => False) 0 W) (m' : Nat) :
    CallsIn Fence.wide m' Tryz.prog 63 (#[.func (.yield l) #[] #[]] ++ #[pv]) W fun e W' => (∃ v, e = .returned v) ∧ ∃ X, J X (outC ks).length W' := by
  refine gen_of (fn := Tryz.f63) (by kernel_rfl) rfl (by kernel_rfl) rfl (Nat.le_of_ble_eq_true rfl) hJ ?_ hlt hp h0 m'
  have hq : ∀ row, row ∈ ks.map encS → row.length = 2 := fun row hr => by obtain ⟨_, _, rfl⟩ := List.mem_map.1 hr; rfl
  refine awz_seq ?_
  refine awpF_region ?_; intro K hK; simp only [push_cast, seval]; (try simp (disch := omega) only [wrapI]); (repeat ((with_reducible refine And.intro ?_ ?_); (focus (exact ob1)))); refine hK _ ?_; clear hK; clear K
  show AWZ _ _ _ _ _ _
  refine awz_seq ?_
  refine awp_virt 3 2 rfl ?_
  simp only [push_cast, seval]
  refine awp_seq ?_
  refine awpF_region ?_; intro K hK; simp only [push_cast, seval]; (try simp (disch := omega) only [wrapI]); (repeat ((with_reducible refine And.intro ?_ ?_); (focus (exact ob1)))); refine hK _ ?_; clear hK; clear K
  refine awp_block ?_
  refine awp_loopP (α := Nat) (st := fun i => ⟨[(0, .fn (.yield l) []), (3, .ref 0 0 (chainR (ks.take i)).length), (8, .d (.sl (ks.map encS))), (9, .d (.int .i64 ks.length)), (10, .d (.int .i64 i))], [.data 2 ((chainR (ks.take i)).reverse.map encS)]⟩)
    (inv := fun i => i ≤ ks.length) (μ := fun i => ks.length - i) (x0 := 0) (r0 := [0]) ?_ ?_ ?_
  · exact Nat.zero_le _
  · rw [List.take_zero, show chainR [] = [] from rfl]
    exact ⟨by simp, by simp, by simp [push_cast, seval], by simp [push_cast, seval], by simp [push_cast, seval], by simp [push_cast, seval]⟩
  intro i hi
  refine awp_seq ?_
  refine awpF_region ?_; intro K hK; simp only [push_cast, seval]; (try simp (disch := omega) only [wrapI]); (repeat ((with_reducible refine And.intro ?_ ?_); (focus (exact ob1)))); refine hK _ ?_; clear hK; clear K
  refine awp_seq ?_
  apply awp_cond; (focus (simp only [push_cast, seval]; rfl))
  · intro h1; (try simp only [decide_eq_true_eq, decide_eq_false_iff_not, Bool.not_eq_true', Bool.not_eq_false', Bool.and_eq_true, Bool.or_eq_true, Bool.not_eq_true] at h1)
    have hlt' : i < ks.length := by omega
    have g1 := get_at hlt'
    have hst : chainR (ks.take (i + 1)) = atS ks i :: popH (atS ks i) (chainR (ks.take i)) := by
      rw [List.take_add_one, List.getElem?_eq_getElem hlt', atS_get hlt']
      exact chainR_snoc _ _
    have hfp := atS_fair hf i hlt'
    have hfs : ∀ p, p ∈ chainR (ks.take i) → fairS p = true := fun p hp => hf p (List.mem_of_mem_take (chainR_mem p hp))
    have hsl := chainR_len (ks.take i)
    rw [List.length_take] at hsl
    generalize atS ks i = p at g1 hst hfp
    generalize chainR (ks.take i) = s0 at hst hfs hsl
    refine awp_skip ?_
    refine awp_seq ?_
    refine awp_block ?_
    refine awp_seq ?_
    refine awpF_region ?_; intro K hK; simp only [push_cast, seval, g1]; (try simp (disch := omega) only [wrapI]); (repeat ((with_reducible refine And.intro ?_ ?_); (focus (exact ob1)))); refine hK _ ?_; clear hK; clear K
    refine awp_seq ?_
    refine awp_block ?_
    refine awp_loopP (α := List Sp) (st := fun t => ⟨[(0, .fn (.yield l) []), (3, .ref 0 0 t.length), (5, .ptr 1 0 0), (8, .d (.sl (ks.map encS))), (9, .d (.int .i64 ks.length)), (10, .d (.int .i64 i))], [.data 2 (s0.reverse.map encS), .cells [.d (.int .i64 p.1), .d (.int .i64 p.2)]]⟩)
      (inv := fun t => popH p s0 = popH p t ∧ (t = [] → s0 = []) ∧ ∃ pre, s0 = pre ++ t) (μ := fun t => t.length) (x0 := s0) (r0 := [0, 1]) ?_ ?_ ?_
    · exact ⟨rfl, fun h => h, [], rfl⟩
    · exact ⟨by simp, by simp, by simp [push_cast, seval], by simp [push_cast, seval], by simp [push_cast, seval], by simp [push_cast, seval]⟩
    rintro t ⟨hpop, hemp, pre, hpre⟩
    have hrow : s0.reverse.map encS = t.reverse.map encS ++ pre.reverse.map encS := by rw [hpre, List.reverse_append, List.map_append]
    have htl : t.length ≤ s0.length := by rw [hpre, List.length_append]; omega
    have htk : (s0.reverse.map encS).take t.length = t.reverse.map encS := by
      rw [hrow]
      exact List.take_left' (by simp)
    have hrev : ∀ t : List Sp, (p :: t).reverse.map encS = t.reverse.map encS ++ [[.int .i64 p.1, .int .i64 p.2]] := fun t => by
      rw [List.reverse_cons, List.map_append]
      rfl
    match t, hpop, hemp, hpre, hrow, htl, htk with
    | b :: a :: t', hpop, hemp, hpre, hrow, htl, htk =>
      have g : decide ((t'.length : Int) + 1 + 1 > 1) = true := decide_eq_true (by omega)
      have i1 : (s0.reverse.map encS)[t'.length + 1]? = some [.int .i64 b.1, .int .i64 b.2] := by
        rw [hrow, List.getElem?_append_left (by simp)]
        simp [encS]
      have i2 : (s0.reverse.map encS)[t'.length]? = some [.int .i64 a.1, .int .i64 a.2] := by
        rw [hrow, List.getElem?_append_left (by simp)]
        simp [encS]
      have hl : (s0.reverse.map encS).length = s0.length := by simp
      have ha := hfs a (by rw [hpre]; simp)
      have hb' := hfs b (by rw [hpre]; simp)
      have h97 := p97 a b p
      simp only [encS] at h97
      have hle := side_le ha hb' hfp
      generalize sideV a b p = sd at h97 hle
      have hln : t'.length + 2 ≤ s0.length := by simpa using htl
      have w1 : IntKind.i64.wrap ((t'.length : Int) + 1 + 1 - 2) = t'.length := by rw [wrapI _ (by omega)]; omega
      have w2 : IntKind.i64.wrap ((t'.length : Int) + 1 + 1 - 1) = (t'.length : Int) + 1 := by rw [wrapI _ (by omega)]; omega
      have w3 : ((t'.length : Int) + 1).toNat = t'.length + 1 := by omega
      simp only [List.length_cons] at htk
      generalize s0.reverse.map encS = X at i1 i2 hl hrow htk ⊢
      refine awp_seq ?_
      refine awp_seq ?_
      refine awpF_draw [0,1,2,3,4,5,6,7,8,9,10,11,12,13,14,15,16,17,18,19] (by kernel_rfl) (by kernel_rfl) rfl ?_; intro K hK; simp only [push_cast, seval, g, w1, w2, w3, i1, i2, Int.toNat_natCast]
      refine ⟨by omega, by omega, by omega, by omega, ?_⟩
      refine CallK.pg (fun _ => h97) ?_; simp only [push_cast, seval]; (try simp (disch := omega) only [wrapI]); (repeat ((with_reducible refine And.intro ?_ ?_); (focus (exact ob1))))
      refine hK _ ?_; clear hK; clear K
      apply awp_cond; (focus (simp only [push_cast, seval]; rfl))
      · intro h2; (try simp only [decide_eq_true_eq, decide_eq_false_iff_not, Bool.not_eq_true', Bool.not_eq_false', Bool.and_eq_true, Bool.or_eq_true, Bool.not_eq_true] at h2)
        have h2' : sd ≤ 0 := by simpa using h2
        refine awp_skip ?_
        refine awp_block ?_
        refine awpF_region ?_; intro K hK; simp only [push_cast, seval, w2, w3]
        refine ⟨by omega, by omega, ?_⟩
        refine hK _ ?_; clear hK; clear K
        refine inblock_norm ?_
        refine round_endG (a :: t') [0, 1] ⟨by simp, ⟨?_, (fun h => by cases h), pre ++ [b], by simp [hpre]⟩, ?_⟩
        · rw [hpop, popH, if_pos (hle.1 h2')]
        · exact ⟨by simp, by simp, by simp [push_cast, seval], by simp [push_cast, seval], by simp [push_cast, seval], by simp [push_cast, seval]⟩
      · intro h2; (try simp only [decide_eq_true_eq, decide_eq_false_iff_not, Bool.not_eq_true', Bool.not_eq_false', Bool.and_eq_true, Bool.or_eq_true, Bool.not_eq_true] at h2)
        have h2' : ¬ cr a b p ≤ 0 := fun h => by have := hle.2 h; simp at h2; omega
        have hpt : popH p s0 = b :: a :: t' := by rw [hpop, popH, if_neg h2']
        refine awp_exit ?_; (repeat (first | refine then_exit ?_ | refine inblock_other (by decide) ?_)); refine inblock_same ?_
        refine awpF_region ?_; intro K hK; simp only [push_cast, seval, htk]
        refine ⟨fun h => h, by omega, by omega, ?_⟩
        refine hK _ ?_; clear hK; clear K
        refine inblock_norm ?_
        refine awpF_region ?_; intro K hK; simp only [push_cast, seval]; (try simp (disch := omega) only [wrapI]); (repeat ((with_reducible refine And.intro ?_ ?_); (focus (exact ob1)))); refine hK _ ?_; clear hK; clear K
        refine round_endG (i + 1) [0] ⟨by omega, by omega, ?_⟩
        rw [hst, hpt, hrev]
        exact ⟨by simp, by simp, by simp [push_cast, seval], by simp [push_cast, seval], by simp [push_cast, seval], by simp [push_cast, seval]⟩
    | [b], hpop, hemp, hpre, hrow, htl, htk =>
      have i1 : (s0.reverse.map encS)[0]? = some [.int .i64 b.1, .int .i64 b.2] := by
        rw [hrow]
        simp [encS]
      have hpt : popH p s0 = [b] := hpop
      have w1 : IntKind.i64.wrap (-1) = -1 := wrapI _ (by omega)
      have w2 : IntKind.i64.wrap 0 = 0 := wrapI _ (by omega)
      have w3 : (-1 : Int).toNat = 0 := rfl
      simp only [List.length_cons, List.length_nil, Nat.zero_add] at htk
      generalize s0.reverse.map encS = X at i1 hrow htk ⊢
      refine awp_seq ?_
      refine awp_seq ?_
      refine awpF_draw [0,1,2,3,4,5,6,7,8,9,10,11,12,13,14,15,16,17,18,19] (by kernel_rfl) (by kernel_rfl) rfl ?_; intro K hK; simp only [push_cast, seval, i1, w1, w2, w3, Int.toNat_zero]
      refine CallK.pg (x0 := V.d (.int .i64 0)) (fun h => by cases h) ?_; simp only [push_cast, seval]; (repeat ((with_reducible refine And.intro ?_ ?_); (focus (exact ob1))))
      refine hK _ ?_; clear hK; clear K
      apply awp_cond; (focus (simp only [push_cast, seval]; rfl))
      · intro h2; (try simp only [decide_eq_true_eq, decide_eq_false_iff_not, Bool.not_eq_true', Bool.not_eq_false', Bool.and_eq_true, Bool.or_eq_true, Bool.not_eq_true] at h2)
        cases h2
      · intro h2; (try simp only [decide_eq_true_eq, decide_eq_false_iff_not, Bool.not_eq_true', Bool.not_eq_false', Bool.and_eq_true, Bool.or_eq_true, Bool.not_eq_true] at h2)
        refine awp_exit ?_; (repeat (first | refine then_exit ?_ | refine inblock_other (by decide) ?_)); refine inblock_same ?_
        refine awpF_region ?_; intro K hK; simp only [push_cast, seval, htk]
        refine ⟨fun h => h, ?_⟩
        refine hK _ ?_; clear hK; clear K
        refine inblock_norm ?_
        refine awpF_region ?_; intro K hK; simp only [push_cast, seval]; (try simp (disch := omega) only [wrapI]); (repeat ((with_reducible refine And.intro ?_ ?_); (focus (exact ob1)))); refine hK _ ?_; clear hK; clear K
        refine round_endG (i + 1) [0] ⟨by omega, by omega, ?_⟩
        rw [hst, hpt, hrev]
        exact ⟨by simp, by simp, by simp [push_cast, seval], by simp [push_cast, seval], by simp [push_cast, seval], by simp [push_cast, seval]⟩
    | [], hpop, hemp, hpre, hrow, htl, htk =>
      obtain rfl := hemp rfl
      have hpt : popH p [] = [] := rfl
      have w1 : IntKind.i64.wrap (-1) = -1 := wrapI _ (by omega)
      have w2 : IntKind.i64.wrap (-2) = -2 := wrapI _ (by omega)
      have w3 : (-1 : Int).toNat = 0 := rfl
      have w4 : (-2 : Int).toNat = 0 := rfl
      refine awp_seq ?_
      refine awp_seq ?_
      refine awpF_draw [0,1,2,3,4,5,6,7,8,9,10,11,12,13,14,15,16,17,18,19] (by kernel_rfl) (by kernel_rfl) rfl ?_; intro K hK; simp only [push_cast, seval, w1, w2, w3, w4, List.reverse_nil, List.getElem?_nil, Option.getD_none, List.take_nil]
      refine CallK.pg (x0 := V.d (.int .i64 0)) (fun h => by cases h) ?_; simp only [push_cast, seval]; (repeat ((with_reducible refine And.intro ?_ ?_); (focus (exact ob1))))
      refine hK _ ?_; clear hK; clear K
      apply awp_cond; (focus (simp only [push_cast, seval]; rfl))
      · intro h2; (try simp only [decide_eq_true_eq, decide_eq_false_iff_not, Bool.not_eq_true', Bool.not_eq_false', Bool.and_eq_true, Bool.or_eq_true, Bool.not_eq_true] at h2)
        cases h2
      · intro h2; (try simp only [decide_eq_true_eq, decide_eq_false_iff_not, Bool.not_eq_true', Bool.not_eq_false', Bool.and_eq_true, Bool.or_eq_true, Bool.not_eq_true] at h2)
        refine awp_exit ?_; (repeat (first | refine then_exit ?_ | refine inblock_other (by decide) ?_)); refine inblock_same ?_
        refine awpF_region ?_; intro K hK; simp only [push_cast, seval, List.take_nil]
        refine ⟨fun h => h, ?_⟩
        refine hK _ ?_; clear hK; clear K
        refine inblock_norm ?_
        refine awpF_region ?_; intro K hK; simp only [push_cast, seval]; (try simp (disch := omega) only [wrapI]); (repeat ((with_reducible refine And.intro ?_ ?_); (focus (exact ob1)))); refine hK _ ?_; clear hK; clear K
        refine round_endG (i + 1) [0] ⟨by omega, by omega, ?_⟩
        rw [hst, hpt, hrev]
        exact ⟨by simp, by simp, by simp [push_cast, seval], by simp [push_cast, seval], by simp [push_cast, seval], by simp [push_cast, seval]⟩
  · intro h1; (try simp only [decide_eq_true_eq, decide_eq_false_iff_not, Bool.not_eq_true', Bool.not_eq_false', Bool.and_eq_true, Bool.or_eq_true, Bool.not_eq_true] at h1)
    obtain rfl : i = ks.length := by omega
    rw [List.take_length]
    refine awp_exit ?_; (repeat (first | refine then_exit ?_ | refine inblock_other (by decide) ?_)); refine inblock_same ?_
    show AWZ _ _ _ _ _ _
    have hcl := chainR_len ks
    have hN : (outC ks).length = (chainR ks).length - 1 := by simp [outC]
    have ew : max 0 (IntKind.i64.wrap (((chainR ks).length : Int) - 1)) = (((outC ks).length : Nat) : Int) := by
      rw [wrapI _ (by omega)]
      omega
    have hrows : ∀ k, k < (outC ks).length → ((chainR ks).reverse.map encS)[k]? = some [.int .i64 (atS (outC ks) k).1, .int .i64 (atS (outC ks) k).2] := by
      intro k hk
      have e : (chainR ks).reverse = outC ks ++ ((chainR ks).head?).toList := by
        unfold outC
        cases chainR ks <;> simp
      rw [e, List.map_append, List.getElem?_append_left (by simpa using hk), List.getElem?_map, List.getElem?_eq_getElem hk, atS_get hk]
      rfl
    have hfree : ((chainR ks).reverse.map encS).all (fun r => r.all D.free) = true := by
      rw [List.all_eq_true]
      intro r hr
      obtain ⟨q, _, rfl⟩ := List.mem_map.1 hr
      rfl
    have hrl : ((chainR ks).reverse.map encS).length = (chainR ks).length := by simp
    generalize (chainR ks).reverse.map encS = rows at hrows hfree hrl ⊢
    generalize (chainR ks).length = M at *
    generalize hNN : (outC ks).length = N at *
    refine awz_seq ?_
    refine awpF_region ?_; intro K hK; simp only [push_cast, seval, ew, Int.toNat_natCast]; (try simp (disch := omega) only [wrapI]); (repeat ((with_reducible refine And.intro ?_ ?_); (focus (exact ob1)))); refine hK _ ?_; clear hK; clear K
    show AWZ _ _ _ _ _ _
    refine awz_switch hJ [0] ⟨[(0, .fn (.yield l) []), (49, .ref 0 0 N), (50, .d (.int .i64 N)), (51, .d (.int .i64 (0 : Nat)))], [.data 2 rows]⟩ ?_ ?_ ?_
    · exact ⟨by simp, by simp, by simp [push_cast, seval], by simp [push_cast, seval], by simp [push_cast, seval], by simp [push_cast, seval]⟩
    · simp only [St.free, List.all_cons, List.all_nil, V.free, Blk.free, D.free, List.isEmpty_nil, hfree, Bool.and_self]
    refine awy_block ?_
    refine awy_loop (fun m t k => t = ⟨[(0, .fn (.yield l) []), (49, .ref 0 0 N), (50, .d (.int .i64 N)), (51, .d (.int .i64 k))], [.data 2 rows]⟩ ∧ k ≤ N ∧ m = N - k) N [0] ⟨[(0, .fn (.yield l) []), (49, .ref 0 0 N), (50, .d (.int .i64 N)), (51, .d (.int .i64 (0 : Nat)))], [.data 2 rows]⟩ ?_ ⟨rfl, Nat.zero_le _, rfl⟩ ?_
    · exact ⟨by simp, by simp, by simp [push_cast, seval], by simp [push_cast, seval], by simp [push_cast, seval], by simp [push_cast, seval]⟩
    rintro m' t k ⟨rfl, hk, rfl⟩
    refine awy_seq ?_
    refine awy_of ?_
    refine awpF_region ?_; intro K hK; simp only [push_cast, seval]; (try simp (disch := omega) only [wrapI]); (repeat ((with_reducible refine And.intro ?_ ?_); (focus (exact ob1)))); refine hK _ ?_; clear hK; clear K
    show AWY _ _ _ _ _ _ _
    refine awy_seq ?_
    apply awy_cond; (focus (simp only [push_cast, seval]; rfl))
    · intro h2; (try simp only [decide_eq_true_eq, decide_eq_false_iff_not, Bool.not_eq_true', Bool.not_eq_false', Bool.and_eq_true, Bool.or_eq_true, Bool.not_eq_true] at h2)
      have hlt2 : k < N := by omega
      have hr := hrows k hlt2
      refine awy_of (awp_skip ?_)
      show AWY _ _ _ _ _ _ _
      refine awy_seq ?_
      refine awy_block ?_
      refine awy_seq ?_
      refine awy_of ?_
      refine awpF_region ?_; intro K hK; simp only [push_cast, seval, hr]; (try simp (disch := omega) only [wrapI]); (repeat ((with_reducible refine And.intro ?_ ?_); (focus (exact ob1)))); refine hK _ ?_; clear hK; clear K
      show AWY _ _ _ _ _ _ _
      refine awy_seq ?_
      refine awy_yield hJ hlt2 (by kernel_rfl) [.agg [.d (.int .i64 (atS (outC ks) k).1), .d (.int .i64 (atS (outC ks) k).2)]] ?_ ?_
      · intro K hK
        simp only [push_cast, seval]
        (repeat ((with_reducible refine And.intro ?_ ?_); (focus (exact ob1))))
        refine hK _ ?_
        show AWY _ _ _ _ _ _ _
        apply awy_cond; (focus (simp only [push_cast, seval]; rfl))
        · intro h
          cases h
        intro _
        refine awy_of (awp_skip ?_)
        show AWY _ _ _ _ _ _ _
        refine awy_of ?_
        refine awpF_region ?_; intro K hK; simp only [push_cast, seval]; (try simp (disch := omega) only [wrapI]); (repeat ((with_reducible refine And.intro ?_ ?_); (focus (exact ob1)))); refine hK _ ?_; clear hK; clear K
        exact ⟨N - (k + 1), [0], _, by omega, ⟨rfl, by omega, rfl⟩, by exact ⟨by simp, by simp, by simp [push_cast, seval], by simp [push_cast, seval], by simp [push_cast, seval], by simp [push_cast, seval]⟩⟩
      · intro E F w cs hs hc
        obtain ⟨v, rfl⟩ : ∃ v, cs = #[v] := by
          obtain ⟨l⟩ := cs
          match l, hs with
          | [v], _ => exact ⟨v, rfl⟩
        rw [agg_val (hc 0 _ v rfl rfl)]
        rfl
    · intro h2; (try simp only [decide_eq_true_eq, decide_eq_false_iff_not, Bool.not_eq_true', Bool.not_eq_false', Bool.and_eq_true, Bool.or_eq_true, Bool.not_eq_true] at h2)
      refine awy_of (awp_exit ?_)
      simp only [ThenY, InBlockY, if_true]
      exact ⟨.inl trivial, by omega⟩
end Go.Aw
