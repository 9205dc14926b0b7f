/-
  Texts of the library, one behind the other. Over any program; no condition.
-/
import Derived.DeepKeys4
import Derived.Test.YtecindhbaekncaaPcC
import Derived.Test.YtecindhbaekncaaPcB
import Derived.Test.YtecindhbaekncaaPkT
namespace Go.Aw
set_option linter.unusedSimpArgs false
set_option linter.unusedVariables false
open Go.Rg

def ltS (a b : Sp) : Prop := a.1 < b.1 ∨ (a.1 = b.1 ∧ a.2 < b.2)
instance ltS_dec (a b : Sp) : Decidable (ltS a b) := by unfold ltS; exact inferInstance
theorem ltS_irrefl (a : Sp) : ¬ ltS a a := by unfold ltS; omega
theorem ltS_trans {a b c : Sp} (h1 : ltS a b) (h2 : ltS b c) : ltS a c := by unfold ltS at *; omega
theorem ltS_tri {a b : Sp} (h1 : ¬ ltS a b) (h2 : ¬ ltS b a) : a = b := by
  obtain ⟨x, y⟩ := a
  obtain ⟨z, w⟩ := b
  unfold ltS at h1 h2
  simp only at h1 h2
  rw [show x = z by omega, show y = w by omega]

/-- The cells that there are, in their order. -/
def IsKeys (cs ks : List Sp) : Prop := ks.Pairwise ltS ∧ ∀ c, c ∈ ks ↔ c ∈ cs
theorem nodup_le : ∀ {ks cs : List Sp}, ks.Nodup → (∀ c, c ∈ ks → c ∈ cs) → ks.length ≤ cs.length
  | [], _, _, _ => Nat.zero_le _
  | k :: ks, cs, hd, h => by
    obtain ⟨h1, h2⟩ := List.nodup_cons.1 hd
    have hk := h k (by simp)
    have := nodup_le (ks := ks) (cs := cs.erase k) h2 fun c hc => (List.mem_erase_of_ne (fun (e : c = k) => h1 (by rw [← e]; exact hc))).2 (h c (by simp [hc]))
    rw [List.length_erase_of_mem hk] at this
    have := List.length_pos_of_mem hk
    simp only [List.length_cons]
    omega
theorem nub_ex : ∀ (cs : List Sp), ∃ zs : List Sp, zs.Nodup ∧ ∀ c, c ∈ zs ↔ c ∈ cs
  | [] => ⟨[], List.nodup_nil, fun _ => Iff.rfl⟩
  | k :: cs => by
    obtain ⟨zs, h1, h2⟩ := nub_ex cs
    by_cases h : k ∈ zs
    · refine ⟨zs, h1, fun c => ?_⟩
      rw [List.mem_cons, ← h2 c]
      exact ⟨.inr, fun h3 => h3.elim (fun e => e ▸ h) id⟩
    · refine ⟨k :: zs, List.nodup_cons.2 ⟨h, h1⟩, fun c => ?_⟩
      rw [List.mem_cons, List.mem_cons, h2 c]
theorem keys_len {cs ks : List Sp} (h : IsKeys cs ks) : ks.length ≤ cs.length := by
  have hnd : ks.Nodup := h.1.imp fun h e => by subst e; exact ltS_irrefl _ h
  exact nodup_le hnd fun c hc => (h.2 c).1 hc
def sortS (zs : List Sp) : List Sp := zs.mergeSort fun x y => !(decide (ltS y x))
theorem sortS_perm (zs : List Sp) : (sortS zs).Perm zs := List.mergeSort_perm _ _
theorem sortS_len (zs : List Sp) : (sortS zs).length = zs.length := (sortS_perm zs).length_eq
theorem sortS_pair (zs : List Sp) : (sortS zs).Pairwise fun a b => ¬ ltS b a := by
  have := List.pairwise_mergeSort (le := fun (x y : Sp) => !(decide (ltS y x))) (fun a b c h1 h2 => by
    simp only [Bool.not_eq_true', decide_eq_false_iff_not] at *
    intro h3
    by_cases h4 : ltS a b
    · exact h2 (ltS_trans h3 h4)
    · rw [ltS_tri h1 h4] at h2
      exact h2 h3) (fun a b => by
    simp only [Bool.or_eq_true, Bool.not_eq_true', decide_eq_false_iff_not]
    by_cases h : ltS b a
    · exact .inr fun h2 => ltS_irrefl _ (ltS_trans h h2)
    · exact .inl h) zs
  exact this.imp fun h => by simpa using h
theorem sortS_keys {cs zs : List Sp} (hd : zs.Nodup) (hm : ∀ c, c ∈ zs ↔ c ∈ cs) : IsKeys cs (sortS zs) := by
  refine ⟨?_, fun c => by rw [(sortS_perm zs).mem_iff, hm]⟩
  have hnd : (sortS zs).Nodup := (sortS_perm zs).nodup_iff.2 hd
  exact ((sortS_pair zs).and hnd).imp fun {a b} h => by
    by_cases h1 : ltS a b
    · exact h1
    · exact absurd (ltS_tri h1 h.1) h.2
theorem keys_ex (cs : List Sp) : ∃ ks, IsKeys cs ks := by
  obtain ⟨zs, h1, h2⟩ := nub_ex cs
  exact ⟨sortS zs, sortS_keys h1 h2⟩
end Go.Aw

namespace Go.Aw
set_option linter.unusedSimpArgs false
set_option linter.unusedVariables false
theorem mid_end {kp : List Nat} {Q : Exit → St → Prop} {J : St → Prop} {t : St} (r : List Nat) (u : St) (h : J u) (hr : Ren kp r u t) : Then (fun t => ∃ r u, J u ∧ Ren kp r u t) Q .normal t := ⟨r, u, h, hr⟩
theorem bif_and (a b : Bool) : (bif a then b else false) = (a && b) := by cases a <;> rfl
end Go.Aw

namespace Go.Aw
set_option linter.unusedSimpArgs false
set_option linter.unusedVariables false
open Go.Rg

end Go.Aw

namespace Go.Aw
set_option linter.unusedSimpArgs false
set_option linter.unusedVariables false
open Go.RowKit Go.Proofs Go.Rg

theorem laidTry : laidOutB Try.prog = true := by kernel_rfl
theorem law34 : WideMaps.KeyLaw Try.prog 34 := deep_law_laid laidTry (m := 2) (by omega) (of_decide_eq_true (by kernel_rfl)) (by kernel_rfl) (by rw [Try.underlying34])
theorem key34 : Maps.Keyed Try.prog 34 := Maps.Keyed.of_law law34

def encSp (d : Sp) : V := .agg (spV d)
/-- The set's entries. -/
def esS (l : List Sp) : List (V × V) := l.map fun d => (encSp d, .d (.bool true))

theorem kc_sp (d : Sp) : kcells (encSp d) = some (true, [(.i64, d.1), (.i64, d.2)]) := rfl
theorem kwf34 {d : Sp} (h : -9223372036854775808 ≤ d.1 ∧ d.1 ≤ 9223372036854775807 ∧ -9223372036854775808 ≤ d.2 ∧ d.2 ≤ 9223372036854775807) : kwf Try.prog 34 (encSp d) := by
  have hk : Try.prog.keyType 34 = true := by kernel_rfl
  have hs : ∃ n, Try.prog.types.size + 1 = n + 2 := ⟨Try.prog.types.size - 1, by
    have : Try.prog.types.size = Try.prog.types.size - 1 + 1 := by kernel_rfl
    omega⟩
  obtain ⟨n, hn⟩ := hs
  have w1 : (Lit.int .i64 d.1).wf = true := by simp only [Lit.wf, IntKind.min, IntKind.max, IntKind.bits, IntKind.signed]; simp; omega
  have w2 : (Lit.int .i64 d.2).wf = true := by simp only [Lit.wf, IntKind.min, IntKind.max, IntKind.bits, IntKind.signed]; simp; omega
  obtain ⟨f0, f1, hu, t0, t1, o0, o1⟩ := und34
  have hnm : (#[f0, f1] : Array Field).all (fun f => f.name != "_") = true := by
    have h1 : (match Try.prog.underlying 34 with | some (.struct fs) => fs.all (fun f => f.name != "_") | _ => false) = true := by kernel_rfl
    rw [hu] at h1
    exact h1
  have e : keyOf Try.prog 34 (.agg #[.int .i64 d.1, .int .i64 d.2]) = some (.string (keyBytes [.int .i64 d.1, .int .i64 d.2])) := by
    simp only [keyOf, hu, hk, hn, Value.formed, cells34, Value.cells]
    simp only [Program.keyLits, hu, t0, t1, o0, o1, cells34, cells2, int2, hnm, w1, w2]
    simp [Program.keyLits, t0, t1, o0, o1, cells2, int2, w1, w2, hnm]
  exact ⟨_, _, kc_sp d, e⟩

theorem esS_find (l : List Sp) (d : Sp) : mfind (esS l) (encSp d) = l.findIdx? fun x => decide (x = d) := by
  induction l with
  | nil => rfl
  | cons x l ih =>
    simp only [mfind, esS, List.map_cons, List.findIdx?_cons, kc_sp] at ih ⊢
    rw [ih]
    by_cases h : x = d
    · subst h; simp
    · have : ¬ (x.1 = d.1 ∧ x.2 = d.2) := fun e => h (Prod.ext e.1 e.2)
      have h1 : ¬ (some (true, [(IntKind.i64, x.1), (IntKind.i64, x.2)]) = some (true, [(IntKind.i64, d.1), (IntKind.i64, d.2)])) := by
        intro e
        simp at e
        exact this e
      simp only [h, h1, decide_false]
theorem esS_put (l : List Sp) (d : Sp) : mput (esS l) (encSp d) (.d (.bool true)) = esS (ins l d) := by
  unfold mput
  rw [esS_find]
  cases h : l.findIdx? fun x => decide (x = d) with
  | none =>
    rw [List.findIdx?_eq_none_iff] at h
    have hd : d ∉ l := fun hd => by simpa using h d hd
    simp [ins, hd, esS]
  | some i =>
    rw [List.findIdx?_eq_some_iff_getElem] at h
    obtain ⟨hi, he, _⟩ := h
    have he : l[i] = d := by simpa using he
    have hd : d ∈ l := he ▸ List.getElem_mem hi
    simp only [ins, hd, if_true]
    apply List.ext_getElem?
    intro j
    simp only [esS, List.getElem?_modify, List.getElem?_map]
    by_cases hj : i = j
    · subst hj
      simp [List.getElem?_eq_getElem hi]
    · simp [hj]
theorem mkS {l : List Sp} (hb : ∀ d, d ∈ l → inW 2000 d) (hd : l.Nodup) : MK Try.prog 34 (esS l) := by
  refine ⟨key34, fun p hp => ?_, ?_⟩
  · obtain ⟨d, hd, rfl⟩ := List.mem_map.1 hp
    have := hb d hd
    simp only [inW] at this
    exact kwf34 (by omega)
  · rw [esS, List.pairwise_map]
    refine hd.imp fun {x y} hxy h => hxy ?_
    simp [kc_sp] at h
    exact Prod.ext h.1 h.2
theorem esS_ren (r : List Nat) (l : List Sp) : (esS l).map (fun p => (V.ren r p.1, V.ren r p.2)) = esS l := by
  simp only [esS, List.map_map]
  apply List.map_congr_left
  intro d _
  simp [encSp, spV, V.ren, V.renL]
theorem esS_bel (n : Nat) (l : List Sp) : (esS l).all (fun p => V.bel n p.1 && V.bel n p.2) = true := by
  simp [esS, encSp, spV, V.bel, V.belL]

theorem nd_len : ∀ {n : Nat} {l : List Nat}, l.Nodup → (∀ x, x ∈ l → x < n) → l.length ≤ n := by
  intro n
  induction n with
  | zero => intro l _ h; cases l with
    | nil => simp
    | cons a l => exact absurd (h a (by simp)) (by omega)
  | succ n ih =>
    intro l hd h
    have h1 := ih (l := l.filter (fun x => x != n)) (hd.filter _) (fun x hx => by
      obtain ⟨h2, h3⟩ := List.mem_filter.1 hx
      have := h x h2
      simp at h3
      omega)
    have h2 : l.length ≤ (l.filter (fun x => x != n)).length + 1 := by
      clear h1 ih h
      induction l with
      | nil => simp
      | cons a l ih =>
        rw [List.nodup_cons] at hd
        by_cases ha : a = n
        · subst ha
          have : (a :: l).filter (fun x => x != a) = l := by
            rw [List.filter_cons]
            simp only [bne_self_eq_false, Bool.false_eq_true, if_false]
            exact List.filter_eq_self.2 fun x hx => by simp; rintro rfl; exact hd.1 hx
          rw [this]
          simp
        · have : (a :: l).filter (fun x => x != n) = a :: l.filter (fun x => x != n) := by
            rw [List.filter_cons]; simp [ha]
          rw [this]
          have := ih hd.2
          simp; omega
    omega

end Go.Aw

namespace Go.Aw
set_option linter.unusedSimpArgs false
set_option linter.unusedVariables false
open Go.RowKit Go.Proofs Go.Rg

end Go.Aw

namespace Go.Proofs
set_option linter.unusedSimpArgs false
set_option linter.unusedVariables false
open Go.RowKit Go.Maps Go.Sort Go.Shelf

def Try.sortK_ren : Go.Shelf.Ren := ⟨fun | 6 => 82 | 14 => 109 | 15 => 110 | 20 => 122 | 21 => 123 | 22 => 124 | 23 => 125 | 24 => 126 | 25 => 127 | 26 => 128 | 27 => 129 | 28 => 130 | 29 => 131 | 46 => 141 | 47 => 142 | 48 => 143 | 49 => 144 | 50 => 145 | 57 => 149 | n => n, fun | 0 => 0 | 3 => 3 | 4 => 4 | 5 => 5 | 9 => 9 | 22 => 69 | 25 => 88 | 39 => 133 | 45 => 142 | 46 => 143 | 50 => 80 | 53 => 149 | 55 => 151 | 66 => 158 | 70 => 162 | 76 => 166 | 77 => 167 | 24 => 34 | n => n, fun | n => n⟩
theorem Try.sortK : Go.Proofs.SlLaysF0.n6 Try.prog Try.sortK_ren where
  mixed := by kernel_rfl
  f6 := ⟨Try.f82.name, by kernel_rfl, Try.func82.trans (congrArg some (by kernel_rfl))⟩
  f14 := ⟨Try.f109.name, by kernel_rfl, Try.func109.trans (congrArg some (by kernel_rfl))⟩
  f15 := Try.func110.trans (congrArg some (by kernel_rfl))
  f20 := ⟨Try.f122.name, by kernel_rfl, Try.func122.trans (congrArg some (by kernel_rfl))⟩
  f21 := ⟨Try.f123.name, by kernel_rfl, Try.func123.trans (congrArg some (by kernel_rfl))⟩
  f22 := ⟨Try.f124.name, by kernel_rfl, Try.func124.trans (congrArg some (by kernel_rfl))⟩
  f23 := ⟨Try.f125.name, by kernel_rfl, Try.func125.trans (congrArg some (by kernel_rfl))⟩
  f24 := ⟨Try.f126.name, by kernel_rfl, Try.func126.trans (congrArg some (by kernel_rfl))⟩
  f25 := ⟨Try.f127.name, by kernel_rfl, Try.func127.trans (congrArg some (by kernel_rfl))⟩
  f26 := ⟨Try.f128.name, by kernel_rfl, Try.func128.trans (congrArg some (by kernel_rfl))⟩
  f27 := ⟨Try.f129.name, by kernel_rfl, Try.func129.trans (congrArg some (by kernel_rfl))⟩
  f28 := Try.func130.trans (congrArg some (by kernel_rfl))
  f29 := Try.func131.trans (congrArg some (by kernel_rfl))
  f46 := ⟨Try.f141.name, by kernel_rfl, Try.func141.trans (congrArg some (by kernel_rfl))⟩
  f47 := Try.func142.trans (congrArg some (by kernel_rfl))
  f48 := Try.func143.trans (congrArg some (by kernel_rfl))
  f49 := ⟨Try.f144.name, by kernel_rfl, Try.func144.trans (congrArg some (by kernel_rfl))⟩
  f50 := ⟨Try.f145.name, by kernel_rfl, Try.func145.trans (congrArg some (by kernel_rfl))⟩
  f57 := ⟨Try.f149.name, by kernel_rfl, Try.func149.trans (congrArg some (by kernel_rfl))⟩
  t0 := Try.underlying0
  a0 := Try.isAgg0
  z0 := Try.sizeOf0
  v0 := Try.zeroValue0
  t3 := Try.underlying3
  a3 := Try.isAgg3
  z3 := Try.sizeOf3
  v3 := Try.zeroValue3
  t4 := Try.underlying4
  a4 := Try.isAgg4
  z4 := Try.sizeOf4
  v4 := Try.zeroValue4
  t5 := Try.underlying5
  a5 := Try.isAgg5
  z5 := Try.sizeOf5
  v5 := Try.zeroValue5
  t9 := Try.underlying9
  a9 := Try.isAgg9
  z9 := Try.sizeOf9
  v9 := Try.zeroValue9
  t22 := Try.underlying69
  a22 := Try.isAgg69
  z22 := Try.sizeOf69
  v22 := Try.zeroValue69
  t25 := Try.underlying88
  a25 := Try.isAgg88
  z25 := Try.sizeOf88
  v25 := Try.zeroValue88
  t39 := Try.underlying133
  a39 := Try.isAgg133
  z39 := Try.sizeOf133
  v39 := Try.zeroValue133
  t45 := Try.underlying142
  a45 := Try.isAgg142
  z45 := Try.sizeOf142
  v45 := Try.zeroValue142
  t46 := Try.underlying143
  a46 := Try.isAgg143
  z46 := Try.sizeOf143
  v46 := Try.zeroValue143
  t50 := Try.underlying80
  a50 := Try.isAgg80
  z50 := Try.sizeOf80
  v50 := Try.zeroValue80
  t53 := Try.underlying149
  a53 := Try.isAgg149
  z53 := Try.sizeOf149
  v53 := Try.zeroValue149
  t55 := Try.underlying151
  a55 := Try.isAgg151
  z55 := Try.sizeOf151
  v55 := Try.zeroValue151
  t66 := Try.underlying158
  a66 := Try.isAgg158
  z66 := Try.sizeOf158
  v66 := Try.zeroValue158
  t70 := Try.underlying162
  a70 := Try.isAgg162
  z70 := Try.sizeOf162
  v70 := Try.zeroValue162
  t76 := Try.underlying166
  a76 := Try.isAgg166
  z76 := Try.sizeOf166
  v76 := Try.zeroValue166
  t77 := Try.underlying167
  a77 := Try.isAgg167
  z77 := Try.sizeOf167
  v77 := Try.zeroValue167

end Go.Proofs

namespace Go.Aw
open Go.RowKit Go.Proofs Go.Sort Go.Shelf Go.Rg

def enS (d : Sp) : List Int := [d.1, d.2]
theorem ord_neg (a b : Sp) : ord a.1 a.2 b.1 b.2 < 0 ↔ ltS a b := by
  unfold ord ltS cor cor cor cmp3
  by_cases h1 : a.1 < b.1
  · simp [h1]
  · by_cases h2 : b.1 < a.1
    · have h3 : ¬ a.1 = b.1 := by omega
      simp [h1, h2, h3]
    · have h3 : a.1 = b.1 := by omega
      by_cases h4 : a.2 < b.2
      · simp [h3, h4]
      · by_cases h5 : b.2 < a.2
        · simp [h3, h4, h5]
        · simp [h3, h4, h5]
theorem ordS_swo : SWO (ltOf fun a b : Sp => ord a.1 a.2 b.1 b.2) where
  irrefl x := by simp only [ltOf, decide_eq_false_iff_not, ord_neg]; exact ltS_irrefl x
  trans x y z h1 h2 := by simp only [ltOf, decide_eq_true_eq, ord_neg] at *; exact ltS_trans h1 h2
  ntrans x y z h1 h2 := by simp only [ltOf, decide_eq_false_iff_not, ord_neg] at *; unfold ltS at *; omega
theorem ordS_tot (x y : Sp) (h1 : ltOf (fun a b : Sp => ord a.1 a.2 b.1 b.2) x y = false) (h2 : ltOf (fun a b : Sp => ord a.1 a.2 b.1 b.2) y x = false) : x = y := by
  simp only [ltOf, decide_eq_false_iff_not, ord_neg] at *
  exact ltS_tri h1 h2
theorem a82 (zs : List Sp) (hz : zs.length ≤ 1000000) (id : Nat) (H : List Blk) (kp : List Nat) (hid : H[id]? = some (.data 2 (zs.map (enD enS)))) : AC Try.prog 82 [.ref id 0 zs.length, .d (.fn (.func 70) [])] H kp fun x H' => x = .tup [] ∧ H' = H.set id (.data 2 ((sortS zs).map (enD enS))) := by
  refine ac_sortKat enS (f := 82) ⟨Try.f82, by kernel_rfl, by kernel_rfl, rfl⟩ [.fn (.func 70) []] rfl 2 (fun _ => rfl) (by decide) sortS sortS_len ?_ ?_ zs (by omega) id H kp hid
  · intro F ex blk off cap zs w hex _ _ hH hb hl
    obtain rfl : ex = #[.func (.func 70) #[] #[]] := by
      obtain ⟨l⟩ := ex
      match l, hex.1 with
      | [c], _ =>
        have v0 := hex.2 0 _ c rfl rfl
        cases v0 with
        | d _ _ v0 =>
          cases v0 with
          | fn _ _ cs hs _ =>
            obtain rfl : cs = #[] := Array.size_eq_zero_iff.1 hs
            rfl
    have hcl := cmp_laysK enS (P := Try.prog) (g := 70) (cf := fun a b : Sp => ord a.1 a.2 b.1 b.2) (fun x y => p70 x.1 x.2 y.1 y.2) (w := w) (blk := blk) (off := off) (size := zs.toArray.size) 2
    have := AnyQ.slices_SortFunc_total Try.sortK 2 Try.isAgg34 Try.sizeOf34 (enV enS) (fun _ => rfl) (fun x v hv => by
      simp only [enV, enS, List.map_cons, List.map_nil, List.mem_cons, List.not_mem_nil, or_false] at hv
      rcases hv with rfl | rfl <;> rfl) (fun a b : Sp => ord a.1 a.2 b.1 b.2) ordS_swo 70 #[] blk off cap zs.toArray w (enters_of Try.func70 (by kernel_rfl) rfl) hcl hH hb (by simpa using hl) ordS_tot
    refine this.mono ?_
    rintro e w' ⟨h1, n, os, h2⟩
    refine ⟨h1, n, os, ?_⟩
    rw [h2]
    have : (zs.toArray.toList.mergeSort fun x y => !ltOf (fun a b : Sp => ord a.1 a.2 b.1 b.2) y x) = sortS zs := by
      unfold sortS
      congr 1
      funext x y
      simp only [ltOf, ord_neg]
    rw [this]
    rfl
  · intro F ex p cap w hex
    obtain ⟨c0, rfl⟩ : ∃ c0, ex = #[c0] := by
      obtain ⟨l⟩ := ex
      match l, hex.1 with
      | [c], _ => exact ⟨c, rfl⟩
    exact AnyF.slices_SortFunc_none Try.sortK p cap c0 w
end Go.Aw

namespace Go.Aw
set_option linter.unusedSimpArgs false
set_option linter.unusedVariables false
open Go.RowKit Go.Proofs Go.Rg

def ptV (p : Pt) : List V := [.d (.int .i64 p.1), .d (.int .i64 p.2.1), .d (.int .i64 p.2.2)]
/-- What the iterator has shown. -/
def seenL (L : List Sp) (seen : List Nat) : List Sp := seen.filterMap (L[·]?)
theorem seenL_snoc {L : List Sp} {seen : List Nat} {j : Nat} {d : Sp} (h : L[j]? = some d) : seenL L (seen ++ [j]) = seenL L seen ++ [d] := by simp [seenL, h]
theorem seenL_all {L : List Sp} {seen : List Nat} (h : ∀ j, j < L.length → j ∈ seen) (d : Sp) : d ∈ seenL L seen ↔ d ∈ L := by
  simp only [seenL, List.mem_filterMap]
  constructor
  · rintro ⟨j, _, hj⟩; exact List.mem_of_getElem? hj
  · intro hd
    obtain ⟨j, hj, rfl⟩ := List.getElem_of_mem hd
    exact ⟨j, h j hj, List.getElem?_eq_getElem hj⟩
theorem esS_get {L : List Sp} {j : Nat} {p : V × V} (h : (esS L)[j]? = some p) : ∃ d, L[j]? = some d ∧ p = (encSp d, .d (.bool true)) := by
  simp only [esS, List.getElem?_map, Option.map_eq_some_iff] at h
  obtain ⟨d, hd, rfl⟩ := h
  exact ⟨d, hd, rfl⟩
theorem cor_lt (a b c : Int) : cor [cmp3 a b, c] < 0 ↔ (a < b ∨ a = b ∧ c < 0) := by
  simp only [cor, cmp3]
  by_cases h1 : a < b <;> by_cases h2 : a > b <;> by_cases h3 : c = 0 <;> simp [h1, h2, h3] <;> omega
theorem esS_frz (i : Nat) (rows : List (List D)) (l : List Sp) : (esS l).map (fun p => (V.frz i rows p.1, V.frz i rows p.2)) = esS l := by
  simp only [esS, List.map_map]
  apply List.map_congr_left
  intro d _
  simp [encSp, spV, V.frz, V.frzL]
theorem esS_len (L : List Sp) : (esS L).length = L.length := by simp [esS]

set_option maxHeartbeats 2000000 in
set_option maxRecDepth 100000 in
theorem p27 (a b : List Pt) (w s : Int) : PD Try.prog 27 [.sl (a.map encP), .sl (b.map encP), .int .i64 w, .int .i64 s] (regV (regOut a b w s)) := by
  refine pd_of (fn := Try.f27) [.cell 8 34, .tmp 9, .tmp 10] (by kernel_rfl) rfl (by kernel_rfl) (Nat.le_of_ble_eq_true rfl) (by kernel_rfl) rfl rfl ?_
  refine awp_seq ?_
  refine awpF_region ?_; intro K hK; simp only [push_cast, seval]; (try simp (disch := omega) only [wrapI]); (repeat ((with_reducible refine And.intro ?_ ?_); (focus (exact ob1)))); refine hK _ ?_; clear hK; clear K
  refine awp_seq ?_
  refine awp_seq ?_
  refine awpF_region ?_; intro K hK; simp only [push_cast, seval]
  (repeat ((with_reducible refine And.intro ?_ ?_); (focus (exact ob1))))
  refine hK _ ?_; clear hK; clear K
  refine awp_block ?_
  refine awp_loopP (st := fun (x : Nat) => ⟨[(0, .d (.sl (a.map encP))), (1, .d (.sl (b.map encP))), (2, .d (.int .i64 w)), (3, .d (.int .i64 s)), (8, .ptr 0 0 0), (27, .ref 1 0 2), (28, .d (.int .i64 2)), (29, .d (.int .i64 x))], [.cells (spV (0, 0)), .data 1 [[.sl (a.map encP)], [.sl (b.map encP)]]]⟩)
    (inv := fun x => x ≤ 2 ∧ (0 < x → check a = 0) ∧ (1 < x → check b = 0)) (μ := fun x => 2 - x) (x0 := 0) (r0 := [0, 1]) ?_ ?_ ?_
  · exact ⟨by omega, by omega, by omega⟩
  · simp only [spV]
    exact ⟨by simp, by simp, by simp [push_cast, seval], by simp [push_cast, seval], by simp [push_cast, seval], by simp [push_cast, seval]⟩
  rintro x ⟨hx, hxa, hxb⟩
  refine awp_seq ?_
  refine awpF_region ?_; intro K hK; simp only [push_cast, seval]; (try simp (disch := omega) only [wrapI]); (repeat ((with_reducible refine And.intro ?_ ?_); (focus (exact ob1)))); refine hK _ ?_; clear hK; clear K
  refine awp_seq ?_
  apply awp_cond; (focus (simp only [push_cast, seval]; rfl))
  · intro h1; (try simp only [decide_eq_true_eq, decide_eq_false_iff_not, Bool.not_eq_true', Bool.not_eq_false', Bool.and_eq_true, Bool.or_eq_true, Bool.not_eq_true] at h1)
    have hx2 : x = 0 ∨ x = 1 := by omega
    rcases hx2 with rfl | rfl
    · refine awp_skip ?_
      refine awp_seq ?_
      refine awp_block ?_
      refine awp_seq ?_
      refine awpF_region ?_; intro K hK; simp only [push_cast, seval, spV]; (try simp (disch := omega) only [wrapI]); (repeat ((with_reducible refine And.intro ?_ ?_); (focus (exact ob1)))); refine hK _ ?_; clear hK; clear K
      refine awp_seq ?_
      refine awpF_region ?_; intro K hK; simp only [push_cast, seval]
      (repeat ((with_reducible refine And.intro ?_ ?_); (focus (exact ob1))))
      refine CallK.pd (p25 _) ?_; simp only [push_cast, seval]; (try simp (disch := omega) only [wrapI]); (repeat ((with_reducible refine And.intro ?_ ?_); (focus (exact ob1))))
      refine hK _ ?_; clear hK; clear K
      refine awp_seq ?_
      refine awpF_region ?_; intro K hK; simp only [push_cast, seval]; (try simp (disch := omega) only [wrapI]); (repeat ((with_reducible refine And.intro ?_ ?_); (focus (exact ob1)))); refine hK _ ?_; clear hK; clear K
      apply awp_cond; (focus (simp only [push_cast, seval]; rfl))
      · intro h2; (try simp only [decide_eq_true_eq, decide_eq_false_iff_not, Bool.not_eq_true', Bool.not_eq_false', Bool.and_eq_true, Bool.or_eq_true, Bool.not_eq_true] at h2)
        have h2 : check a ≠ 0 := by simpa using h2
        have e : regErr a b w s = check a := by simp [regErr, h2]
        refine awp_seq ?_
        refine awpF_region ?_; intro K hK; simp only [push_cast, seval, spV]; (try simp (disch := omega) only [wrapI]); (repeat ((with_reducible refine And.intro ?_ ?_); (focus (exact ob1)))); refine hK _ ?_; clear hK; clear K
        refine awp_ret ?_; (repeat (first | refine then_ret ?_ | refine inblock_ret ?_)); refine fin_of (by simp only [push_cast, seval]; first | done | rfl) ob1 ?_
        simp [regOut, e, h2, regV, spV]
      · intro h2; (try simp only [decide_eq_true_eq, decide_eq_false_iff_not, Bool.not_eq_true', Bool.not_eq_false', Bool.and_eq_true, Bool.or_eq_true, Bool.not_eq_true] at h2)
        have h2 : check a = 0 := by simpa using h2
        refine awp_skip ?_
        refine awpF_region ?_; intro K hK; simp only [push_cast, seval]; (try simp (disch := omega) only [wrapI]); (repeat ((with_reducible refine And.intro ?_ ?_); (focus (exact ob1)))); refine hK _ ?_; clear hK; clear K
        refine round_endG 1 [0, 1] ⟨by omega, ⟨by omega, fun _ => h2, by omega⟩, ?_⟩
        simp only [spV]
        exact ⟨by simp, by simp, by simp [push_cast, seval], by simp [push_cast, seval], by simp [push_cast, seval], by simp [push_cast, seval]⟩
    · have ha := hxa (by omega)
      refine awp_skip ?_
      refine awp_seq ?_
      refine awp_block ?_
      refine awp_seq ?_
      refine awpF_region ?_; intro K hK; simp only [push_cast, seval, spV]; (try simp (disch := omega) only [wrapI]); (repeat ((with_reducible refine And.intro ?_ ?_); (focus (exact ob1)))); refine hK _ ?_; clear hK; clear K
      refine awp_seq ?_
      refine awpF_region ?_; intro K hK; simp only [push_cast, seval]
      (repeat ((with_reducible refine And.intro ?_ ?_); (focus (exact ob1))))
      refine CallK.pd (p25 _) ?_; simp only [push_cast, seval]; (try simp (disch := omega) only [wrapI]); (repeat ((with_reducible refine And.intro ?_ ?_); (focus (exact ob1))))
      refine hK _ ?_; clear hK; clear K
      refine awp_seq ?_
      refine awpF_region ?_; intro K hK; simp only [push_cast, seval]; (try simp (disch := omega) only [wrapI]); (repeat ((with_reducible refine And.intro ?_ ?_); (focus (exact ob1)))); refine hK _ ?_; clear hK; clear K
      apply awp_cond; (focus (simp only [push_cast, seval]; rfl))
      · intro h2; (try simp only [decide_eq_true_eq, decide_eq_false_iff_not, Bool.not_eq_true', Bool.not_eq_false', Bool.and_eq_true, Bool.or_eq_true, Bool.not_eq_true] at h2)
        have h2 : check b ≠ 0 := by simpa using h2
        have e : regErr a b w s = check b := by simp [regErr, ha, h2]
        refine awp_seq ?_
        refine awpF_region ?_; intro K hK; simp only [push_cast, seval, spV]; (try simp (disch := omega) only [wrapI]); (repeat ((with_reducible refine And.intro ?_ ?_); (focus (exact ob1)))); refine hK _ ?_; clear hK; clear K
        refine awp_ret ?_; (repeat (first | refine then_ret ?_ | refine inblock_ret ?_)); refine fin_of (by simp only [push_cast, seval]; first | done | rfl) ob1 ?_
        simp [regOut, e, h2, regV, spV]
      · intro h2; (try simp only [decide_eq_true_eq, decide_eq_false_iff_not, Bool.not_eq_true', Bool.not_eq_false', Bool.and_eq_true, Bool.or_eq_true, Bool.not_eq_true] at h2)
        have h2 : check b = 0 := by simpa using h2
        refine awp_skip ?_
        refine awpF_region ?_; intro K hK; simp only [push_cast, seval]; (try simp (disch := omega) only [wrapI]); (repeat ((with_reducible refine And.intro ?_ ?_); (focus (exact ob1)))); refine hK _ ?_; clear hK; clear K
        refine round_endG 2 [0, 1] ⟨by omega, ⟨by omega, fun _ => ha, fun _ => h2⟩, ?_⟩
        simp only [spV]
        exact ⟨by simp, by simp, by simp [push_cast, seval], by simp [push_cast, seval], by simp [push_cast, seval], by simp [push_cast, seval]⟩
  intro h1; (try simp only [decide_eq_true_eq, decide_eq_false_iff_not, Bool.not_eq_true', Bool.not_eq_false', Bool.and_eq_true, Bool.or_eq_true, Bool.not_eq_true] at h1)
  have hxe : x = 2 := by omega
  have ha := hxa (by omega)
  have hb' := hxb (by omega)
  subst hxe
  have hla := check_len ha
  have hlb := check_len hb'
  refine awp_exit ?_; (repeat (first | refine then_exit ?_ | refine inblock_other (by decide) ?_)); refine inblock_same ?_
  refine awp_seq ?_
  refine awp_seq ?_
  refine awpF_region ?_; intro K hK; simp only [push_cast, seval]; (try simp (disch := omega) only [wrapI]); (repeat ((with_reducible refine And.intro ?_ ?_); (focus (exact ob1)))); refine hK _ ?_; clear hK; clear K
  apply awp_cond; (focus (simp only [push_cast, seval]; rfl))
  · intro h3; (try simp only [decide_eq_true_eq, decide_eq_false_iff_not, Bool.not_eq_true', Bool.not_eq_false', Bool.and_eq_true, Bool.or_eq_true, Bool.not_eq_true] at h3)
    have h3' : 60 < a.length ∨ 60 < b.length := by omega
    have e : regErr a b w s = 8 := by simp [regErr, ha, hb', h3']
    refine awp_seq ?_
    refine awpF_region ?_; intro K hK; simp only [push_cast, seval, spV]; (try simp (disch := omega) only [wrapI]); (repeat ((with_reducible refine And.intro ?_ ?_); (focus (exact ob1)))); refine hK _ ?_; clear hK; clear K
    refine awp_ret ?_; (repeat (first | refine then_ret ?_ | refine inblock_ret ?_)); refine fin_of (by simp only [push_cast, seval]; first | done | rfl) ob1 ?_
    simp [regOut, e, regV, spV]
  intro h3; (try simp only [decide_eq_true_eq, decide_eq_false_iff_not, Bool.not_eq_true', Bool.not_eq_false', Bool.and_eq_true, Bool.or_eq_true, Bool.not_eq_true] at h3)
  have h3' : ¬ (60 < a.length ∨ 60 < b.length) := by omega
  refine awp_skip ?_
  refine awp_seq ?_
  refine awp_seq ?_
  refine awpF_region ?_; intro K hK; simp only [push_cast, seval]; (try simp (disch := omega) only [wrapI]); (repeat ((with_reducible refine And.intro ?_ ?_); (focus (exact ob1)))); refine hK _ ?_; clear hK; clear K
  apply awp_cond; (focus (simp only [push_cast, seval]; rfl))
  · intro h4; (try simp only [decide_eq_true_eq, decide_eq_false_iff_not, Bool.not_eq_true', Bool.not_eq_false', Bool.and_eq_true, Bool.or_eq_true, Bool.not_eq_true] at h4)
    have h4' : w < 0 ∨ 2000 < w ∨ s < 0 ∨ 2000 < s := by
      by_cases e1 : min w s < 0
      · omega
      · simp [e1] at h4; omega
    have e : regErr a b w s = 2 := by simp [regErr, ha, hb', h3', h4']
    refine awp_seq ?_
    refine awpF_region ?_; intro K hK; simp only [push_cast, seval, spV]; (try simp (disch := omega) only [wrapI]); (repeat ((with_reducible refine And.intro ?_ ?_); (focus (exact ob1)))); refine hK _ ?_; clear hK; clear K
    refine awp_ret ?_; (repeat (first | refine then_ret ?_ | refine inblock_ret ?_)); refine fin_of (by simp only [push_cast, seval]; first | done | rfl) ob1 ?_
    simp [regOut, e, regV, spV]
  intro h4; (try simp only [decide_eq_true_eq, decide_eq_false_iff_not, Bool.not_eq_true', Bool.not_eq_false', Bool.and_eq_true, Bool.or_eq_true, Bool.not_eq_true] at h4)
  have h4' : ¬ (w < 0 ∨ 2000 < w ∨ s < 0 ∨ 2000 < s) := by
    by_cases e1 : min w s < 0
    · simp [e1] at h4
    · simp [e1] at h4; omega
  obtain ⟨hok, herr⟩ := regOk_of ha hb' h3' h4'
  rw [show regOut a b w s = (regBest a b w s, cN a b s (regBest a b w s), 0) by simp [regOut, herr]]
  have hw0 := hok.w0
  have hw1 := hok.w1
  have hmk0 : MK Try.prog 34 [] := mkS (l := []) (by simp) List.nodup_nil
  have hkw0 : kwf Try.prog 34 (.agg [.d (.int .i64 0), .d (.int .i64 0)]) := kwf34 (d := (0, 0)) (by dsimp only; omega)
  have hput0 : mput [] (.agg [.d (.int .i64 0), .d (.int .i64 0)]) (.d (.bool true)) = esS [(0, 0)] := esS_put [] (0, 0)
  refine awp_skip ?_
  refine awp_seq ?_
  refine awpF_region ?_; intro K hK; simp only [push_cast, seval, hmk0, hkw0, hput0]
  (repeat ((with_reducible refine And.intro ?_ ?_); (focus (exact ob1))))
  refine hK _ ?_; clear hK; clear K
  refine awp_seq ?_
  refine awp_seq ?_
  refine awpF_region ?_; intro K hK; simp only [push_cast, seval]; (try simp (disch := omega) only [wrapI]); (repeat ((with_reducible refine And.intro ?_ ?_); (focus (exact ob1)))); refine hK _ ?_; clear hK; clear K
  refine awp_block ?_
  refine awp_loopP (st := fun (x : Nat) => ⟨[(0, .d (.sl (a.map encP))), (1, .d (.sl (b.map encP))), (2, .d (.int .i64 w)), (3, .d (.int .i64 s)), (8, .ptr 0 0 0), (14, .map 1), (61, .d (.sl (a.map encP))), (62, .d (.int .i64 a.length)), (63, .d (.int .i64 x))], [.cells (spV (0, 0)), .mp (esS (setOf (upto w a b x 0)))]⟩)
    (inv := fun x => x ≤ a.length) (μ := fun x => a.length - x) (x0 := 0) (r0 := [0, 2]) ?_ ?_ ?_
  · exact Nat.zero_le _
  · have : setOf (upto w a b 0 0) = [(0, 0)] := by rw [upto_zero]; rfl
    rw [this]
    simp only [spV]
    exact ⟨by simp, by simp, by simp [push_cast, seval, esS_ren], by simp [push_cast, seval], by simp [push_cast, seval], by simp [push_cast, seval, esS_bel]⟩
  intro i hi
  refine awp_seq ?_
  refine awpF_region ?_; intro K hK; simp only [push_cast, seval]; (try simp (disch := omega) only [wrapI]); (repeat ((with_reducible refine And.intro ?_ ?_); (focus (exact ob1)))); refine hK _ ?_; clear hK; clear K
  refine awp_seq ?_
  apply awp_cond; (focus (simp only [push_cast, seval]; rfl))
  · intro h5; (try simp only [decide_eq_true_eq, decide_eq_false_iff_not, Bool.not_eq_true', Bool.not_eq_false', Bool.and_eq_true, Bool.or_eq_true, Bool.not_eq_true] at h5)
    have hlt : i < a.length := by omega
    obtain ⟨p, hp⟩ : ∃ p, a[i]? = some p := ⟨_, List.getElem?_eq_getElem hlt⟩
    have hfp := fair_iff.1 (check_fair ha hp)
    refine awp_skip ?_
    refine awp_seq ?_
    refine awp_block ?_
    refine awp_seq ?_
    refine awpF_region ?_; intro K hK; simp only [push_cast, seval, hp, encP]; (try simp (disch := omega) only [wrapI]); (repeat ((with_reducible refine And.intro ?_ ?_); (focus (exact ob1)))); refine hK _ ?_; clear hK; clear K
    refine awp_seq ?_
    refine awpF_region ?_; intro K hK; simp only [push_cast, seval]; (try simp (disch := omega) only [wrapI]); (repeat ((with_reducible refine And.intro ?_ ?_); (focus (exact ob1)))); refine hK _ ?_; clear hK; clear K
    refine awp_block ?_
    refine awp_loopP (st := fun (x : Nat) => ⟨[(0, .d (.sl (a.map encP))), (1, .d (.sl (b.map encP))), (2, .d (.int .i64 w)), (3, .d (.int .i64 s)), (8, .ptr 0 0 0), (14, .map 1), (16, .ptr 2 0 0), (61, .d (.sl (a.map encP))), (62, .d (.int .i64 a.length)), (63, .d (.int .i64 i)), (67, .d (.sl (b.map encP))), (68, .d (.int .i64 b.length)), (69, .d (.int .i64 x))],
        [.cells (spV (0, 0)), .mp (esS (setOf (upto w a b i x))), .cells (ptV p)]⟩)
      (inv := fun x => x ≤ b.length) (μ := fun x => b.length - x) (x0 := 0) (r0 := [0, 1, 2]) ?_ ?_ ?_
    · exact Nat.zero_le _
    · simp only [spV, ptV]
      exact ⟨by simp, by simp, by simp [push_cast, seval, esS_ren], by simp [push_cast, seval], by simp [push_cast, seval], by simp [push_cast, seval, esS_bel]⟩
    intro k hk
    refine awp_seq ?_
    refine awpF_region ?_; intro K hK; simp only [push_cast, seval]; (try simp (disch := omega) only [wrapI]); (repeat ((with_reducible refine And.intro ?_ ?_); (focus (exact ob1)))); refine hK _ ?_; clear hK; clear K
    refine awp_seq ?_
    apply awp_cond; (focus (simp only [push_cast, seval]; rfl))
    · intro h6; (try simp only [decide_eq_true_eq, decide_eq_false_iff_not, Bool.not_eq_true', Bool.not_eq_false', Bool.and_eq_true, Bool.or_eq_true, Bool.not_eq_true] at h6)
      have hklt : k < b.length := by omega
      obtain ⟨q, hq⟩ : ∃ q, b[k]? = some q := ⟨_, List.getElem?_eq_getElem hklt⟩
      have hfq := fair_iff.1 (check_fair hb' hq)
      refine awp_skip ?_
      refine awp_seq ?_
      refine awp_block ?_
      refine awp_seq ?_
      refine awpF_region ?_; intro K hK; simp only [push_cast, seval, hq, encP, ptV, spV]; (try simp (disch := omega) only [wrapI]); (repeat ((with_reducible refine And.intro ?_ ?_); (focus (exact ob1)))); refine hK _ ?_; clear hK; clear K
      refine awp_seq ?_
      refine awpF_region ?_; intro K hK; simp only [push_cast, seval]; (try simp (disch := omega) only [wrapI]); (repeat ((with_reducible refine And.intro ?_ ?_); (focus (exact ob1)))); refine hK _ ?_; clear hK; clear K
      refine awp_seq ?_
      refine awpF_region ?_; intro K hK; simp only [push_cast, seval]; (try simp (disch := omega) only [wrapI]); (repeat ((with_reducible refine And.intro ?_ ?_); (focus (exact ob1)))); refine hK _ ?_; clear hK; clear K
      apply awp_cond; (focus (simp only [push_cast, seval]; rfl))
      · intro h7; (try simp only [decide_eq_true_eq, decide_eq_false_iff_not, Bool.not_eq_true', Bool.not_eq_false', Bool.and_eq_true, Bool.or_eq_true, Bool.not_eq_true] at h7)
        have hin : inW w (diff p q) := by simp only [inW, diff]; omega
        have hnew := upto_in hp hq hin
        have hmk : MK Try.prog 34 (esS (setOf (upto w a b i k))) := mkS (fun d hd => by
          have := upto_bnd hw0 ((mem_setOf _ _).1 hd)
          simp only [inW] at this ⊢
          omega) (nd_setOf _)
        have hkw : kwf Try.prog 34 (.agg [.d (.int .i64 (p.1 - q.1)), .d (.int .i64 (p.2.1 - q.2.1))]) := kwf34 (d := diff p q) (by simp only [diff]; omega)
        have hput : mput (esS (setOf (upto w a b i k))) (.agg [.d (.int .i64 (p.1 - q.1)), .d (.int .i64 (p.2.1 - q.2.1))]) (.d (.bool true)) = esS (setOf (upto w a b i (k + 1))) := by
          rw [hnew, setOf_snoc]
          exact esS_put _ (diff p q)
        refine awpF_region ?_; intro K hK; simp only [push_cast, seval, hmk, hkw, hput]
        (repeat ((with_reducible refine And.intro ?_ ?_); (focus (exact ob1))))
        refine hK _ ?_; clear hK; clear K
        refine awpF_region ?_; intro K hK; simp only [push_cast, seval]; (try simp (disch := omega) only [wrapI]); (repeat ((with_reducible refine And.intro ?_ ?_); (focus (exact ob1)))); refine hK _ ?_; clear hK; clear K
        refine round_endG (k + 1) [0, 1, 2] ⟨?_, hklt, ?_⟩
        · omega
        · simp only [spV, ptV]
          exact ⟨by simp, by simp, by simp [push_cast, seval, esS_ren], by simp [push_cast, seval], by simp [push_cast, seval], by simp [push_cast, seval, esS_bel]⟩
      · intro h7; (try simp only [decide_eq_true_eq, decide_eq_false_iff_not, Bool.not_eq_true', Bool.not_eq_false', Bool.and_eq_true, Bool.or_eq_true, Bool.not_eq_true] at h7)
        have hout : ¬ inW w (diff p q) := by simp only [inW, diff]; omega
        have hold := upto_out hp hq hout
        refine awp_skip ?_
        refine awpF_region ?_; intro K hK; simp only [push_cast, seval]; (try simp (disch := omega) only [wrapI]); (repeat ((with_reducible refine And.intro ?_ ?_); (focus (exact ob1)))); refine hK _ ?_; clear hK; clear K
        refine round_endG (k + 1) [0, 1, 2] ⟨?_, hklt, ?_⟩
        · omega
        · rw [hold]
          simp only [spV, ptV]
          exact ⟨by simp, by simp, by simp [push_cast, seval, esS_ren], by simp [push_cast, seval], by simp [push_cast, seval], by simp [push_cast, seval, esS_bel]⟩
    · intro h6; (try simp only [decide_eq_true_eq, decide_eq_false_iff_not, Bool.not_eq_true', Bool.not_eq_false', Bool.and_eq_true, Bool.or_eq_true, Bool.not_eq_true] at h6)
      have hke : k = b.length := by omega
      subst hke
      rw [upto_end hlt, ← upto_zero]
      refine awp_exit ?_; (repeat (first | refine then_exit ?_ | refine inblock_other (by decide) ?_)); refine inblock_same ?_
      refine awpF_region ?_; intro K hK; simp only [push_cast, seval]; (try simp (disch := omega) only [wrapI]); (repeat ((with_reducible refine And.intro ?_ ?_); (focus (exact ob1)))); refine hK _ ?_; clear hK; clear K
      refine round_endG (i + 1) [0, 1] ⟨?_, hlt, ?_⟩
      · omega
      · simp only [spV]
        exact ⟨by simp, by simp, by simp [push_cast, seval, esS_ren], by simp [push_cast, seval], by simp [push_cast, seval], by simp [push_cast, seval, esS_bel]⟩
  intro h5; (try simp only [decide_eq_true_eq, decide_eq_false_iff_not, Bool.not_eq_true', Bool.not_eq_false', Bool.and_eq_true, Bool.or_eq_true, Bool.not_eq_true] at h5)
  have hie : i = a.length := by omega
  subst hie
  rw [upto_zero, List.take_length]
  have hLm := mem_setOf (l := cands w a b)
  have hLb : ∀ d, d ∈ setOf (cands w a b) → inW w d := fun d hd => cands_bnd hw0 ((hLm d).1 hd)
  generalize setOf (cands w a b) = L at hLm hLb ⊢
  have hL0 : (0, 0) ∈ L := (hLm _).2 (by simp [cands])
  have hLl : 0 < L.length := List.length_pos_of_mem hL0
  refine awp_exit ?_; (repeat (first | refine then_exit ?_ | refine inblock_other (by decide) ?_)); refine inblock_same ?_
  refine awp_seq ?_
  refine awpF_region ?_; intro K hK; simp only [push_cast, seval]; (try simp (disch := omega) only [wrapI]); (repeat ((with_reducible refine And.intro ?_ ?_); (focus (exact ob1)))); refine hK _ ?_; clear hK; clear K
  refine awp_seq ?_
  refine awpF_region ?_; intro K hK; simp only [push_cast, seval]; (try simp (disch := omega) only [wrapI]); (repeat ((with_reducible refine And.intro ?_ ?_); (focus (exact ob1)))); refine hK _ ?_; clear hK; clear K
  refine awp_seq ?_
  refine awpF_region ?_; intro K hK; simp only [push_cast, seval]; (try simp (disch := omega) only [wrapI]); (repeat ((with_reducible refine And.intro ?_ ?_); (focus (exact ob1)))); refine hK _ ?_; clear hK; clear K
  refine awp_seq ?_
  refine awp_seq ?_
  refine awpF_region ?_; intro K hK; simp only [push_cast, seval]; (try simp (disch := omega) only [wrapI]); (repeat ((with_reducible refine And.intro ?_ ?_); (focus (exact ob1)))); refine hK _ ?_; clear hK; clear K
  refine awp_block ?_
  refine awp_loopP (st := fun (x : List Nat × Sp × Int) => ⟨[(0, .d (.sl (a.map encP))), (1, .d (.sl (b.map encP))), (3, .d (.int .i64 s)), (8, .ptr 0 0 0), (20, .ptr 2 0 0), (21, .d (.int .i64 x.2.2)), (22, .d (.fn (.func 66) [])), (102, .ptr 3 0 0)],
      [.cells (spV (0, 0)), .mp (esS L), .cells (spV x.2.1), .it (.map 1) x.1 L.length]⟩)
    (inv := fun x => x.1.Nodup ∧ (∀ j, j ∈ x.1 → j < L.length) ∧ (x.1 = [] ∧ x.2.1 = (0, 0) ∧ x.2.2 = -1 ∨ x.2.2 = cN a b s x.2.1 ∧ Best (cN a b s) (seenL L x.1) x.2.1)) (μ := fun x => L.length - x.1.length) (x0 := ([], (0, 0), -1)) (r0 := [0, 1, 2, 3]) ?_ ?_ ?_
  · exact ⟨List.nodup_nil, by simp, .inl ⟨rfl, rfl, rfl⟩⟩
  · simp only [spV]
    exact ⟨by simp, by simp, by simp [push_cast, seval, esS_ren, esS_len], by simp [push_cast, seval], by simp [push_cast, seval], by simp [push_cast, seval, esS_bel]⟩
  rintro ⟨seen, best, most⟩ ⟨hnd, hlt, hinv⟩
  dsimp only at hnd hlt hinv ⊢
  refine awp_seq ?_
  refine awpF_region ?_; intro K hK; simp only [push_cast, seval]
  refine ⟨(esS_len L).symm, fun hall => ?_, fun j pe hj hns => ?_⟩
  · have hall : ∀ j, j < L.length → j ∈ seen := fun j hj => hall j (by rw [esS_len]; exact hj)
    have hres : most = cN a b s best ∧ Best (cN a b s) (cands w a b) best := by
      rcases hinv with ⟨rfl, _, _⟩ | ⟨h1, h2⟩
      · exact absurd (hall 0 hLl) (by simp)
      · exact ⟨h1, h2.same fun d => by rw [seenL_all hall, hLm]⟩
    obtain ⟨rfl, hbest⟩ := hres
    have := hbest.unique (regBest_best a b w s) fun _ => Iff.rfl
    subst this
    simp only [push_cast, seval]
    (repeat ((with_reducible refine And.intro ?_ ?_); (focus (exact ob1))))
    refine hK _ ?_; clear hK; clear K
    refine awp_seq ?_
    apply awp_cond; (focus (simp only [push_cast, seval]; rfl))
    · intro h9; (try simp only [decide_eq_true_eq, decide_eq_false_iff_not, Bool.not_eq_true', Bool.not_eq_false', Bool.and_eq_true, Bool.or_eq_true, Bool.not_eq_true] at h9)
      cases h9
    intro h9; (try simp only [decide_eq_true_eq, decide_eq_false_iff_not, Bool.not_eq_true', Bool.not_eq_false', Bool.and_eq_true, Bool.or_eq_true, Bool.not_eq_true] at h9)
    refine awp_exit ?_; (repeat (first | refine then_exit ?_ | refine inblock_other (by decide) ?_)); refine inblock_same ?_
    refine awp_seq ?_
    refine awpF_region ?_; intro K hK; simp only [push_cast, seval, spV]
    (repeat ((with_reducible refine And.intro ?_ ?_); (focus (exact ob1))))
    refine hK _ ?_; clear hK; clear K
    refine awp_ret ?_; (repeat (first | refine then_ret ?_ | refine inblock_ret ?_)); refine fin_of (by simp only [push_cast, seval]; first | done | rfl) ob1 ?_
    rfl
  obtain ⟨d, hd, rfl⟩ := esS_get hj
  have hjl : j < L.length := (List.getElem?_eq_some_iff.1 hd).1
  have hdw := hLb d (List.mem_of_getElem? hd)
  have hfar := hok.far hdw
  have hnd' : (seen ++ [j]).Nodup := by
    rw [List.nodup_append]
    exact ⟨hnd, by simp, fun x hx y hy => by simp at hy; subst hy; rintro rfl; exact hns hx⟩
  have hlt' : ∀ x, x ∈ seen ++ [j] → x < L.length := fun x hx => by
    rcases List.mem_append.1 hx with hx | hx
    · exact hlt x hx
    · simp at hx; omega
  have hsl : (seen ++ [j]).length ≤ L.length := nd_len hnd' hlt'
  rw [List.length_append, List.length_singleton] at hsl
  have hsn := seenL_snoc (seen := seen) hd
  have hbw : inW w best := by
    rcases hinv with ⟨_, rfl, _⟩ | ⟨_, h2⟩
    · simp only [inW]; omega
    · have := h2.1
      simp only [seenL, List.mem_filterMap] at this
      obtain ⟨k, _, hk⟩ := this
      exact hLb _ (List.mem_of_getElem? hk)
  have h67 := p67 a b d.1 d.2 s ha hb' hfar
  have hcn : (cnt a b d.1 d.2 s : Int) = cN a b s d := rfl
  rw [hcn] at h67
  have hc0 : 0 ≤ cN a b s d := by simp only [cN]; omega
  have hnew : better (cN a b s d) d most best → Best (cN a b s) (seenL L (seen ++ [j])) d := fun h => by
    rw [hsn]
    rcases hinv with ⟨rfl, _, _⟩ | ⟨rfl, h2⟩
    · exact Best.one _ _
    · exact h2.snoc_new h
  have hold : ¬ better (cN a b s d) d most best → most = cN a b s best ∧ Best (cN a b s) (seenL L (seen ++ [j])) best := fun h => by
    rcases hinv with ⟨rfl, rfl, rfl⟩ | ⟨rfl, h2⟩
    · exact absurd (.inl (by omega)) h
    · exact ⟨rfl, hsn ▸ h2.snoc_old h⟩
  obtain ⟨dx, dy⟩ := d
  obtain ⟨bx, by'⟩ := best
  dsimp only at hdw hbw h67 hfar
  simp only [inW] at hdw hbw
  have hbi := better_iff (cN a b s (dx, dy)) most dx dy bx by'
  generalize hcn : cN a b s (dx, dy) = n at hbi hnew hold hc0 h67 ⊢
  simp only [encSp, spV]
  simp only [push_cast, seval]
  (repeat ((with_reducible refine And.intro ?_ ?_); (focus (exact ob1))))
  refine hK _ ?_; clear hK; clear K
  refine awp_seq ?_
  apply awp_cond; (focus (simp only [push_cast, seval]; rfl))
  · intro h9; (try simp only [decide_eq_true_eq, decide_eq_false_iff_not, Bool.not_eq_true', Bool.not_eq_false', Bool.and_eq_true, Bool.or_eq_true, Bool.not_eq_true] at h9)
    refine awp_skip ?_
    refine awp_block ?_
    refine awp_seq ?_
    refine awpF_region ?_; intro K hK; simp only [push_cast, seval, List.getLast?_concat, hj, encSp, spV]
    refine ⟨(esS_len L).symm, by rw [esS_len]; exact hjl, ?_⟩
    refine hK _ ?_; clear hK; clear K
    refine awp_seq ?_
    refine awpF_region ?_; intro K hK; simp only [push_cast, seval]
    (repeat ((with_reducible refine And.intro ?_ ?_); (focus (exact ob1))))
    refine CallK.pd (h67) ?_; simp only [push_cast, seval]; (try simp (disch := omega) only [wrapI]); (repeat ((with_reducible refine And.intro ?_ ?_); (focus (exact ob1))))
    refine hK _ ?_; clear hK; clear K
    refine awp_seq ?_
    by_cases e1 : n > most
    · have hbe := hnew (.inl e1)
      have e2 : (n == most) = false := by simp; omega
      refine awpF_draw [0,1,2,3,4,5,6,7,8,9,11,12,15,16,10,13,14,17,18,19,20,21,22] (by kernel_rfl) (by kernel_rfl) rfl ?_; intro K hK; simp only [push_cast, seval, e1, e2]
      (repeat ((with_reducible refine And.intro ?_ ?_); (focus (exact ob1))))
      refine CallK.pg (fun _ => p66 dx dy (by omega) (by omega)) ?_; simp only [push_cast, seval]; (try simp (disch := omega) only [wrapI]); (repeat ((with_reducible refine And.intro ?_ ?_); (focus (exact ob1))))
      refine CallK.pg (fun _ => p66 bx by' (by omega) (by omega)) ?_; simp only [push_cast, seval]; (try simp (disch := omega) only [wrapI]); (repeat ((with_reducible refine And.intro ?_ ?_); (focus (exact ob1))))
      refine CallK.pg (fun _ => p69 _ _) ?_; simp only [push_cast, seval]; (try simp (disch := omega) only [wrapI]); (repeat ((with_reducible refine And.intro ?_ ?_); (focus (exact ob1))))
      refine CallK.pg (fun _ => p70 _ _ _ _) ?_; simp only [push_cast, seval]; (try simp (disch := omega) only [wrapI]); (repeat ((with_reducible refine And.intro ?_ ?_); (focus (exact ob1))))
      refine CallK.pg (fun _ => p68 [] (by simp)) ?_; simp only [push_cast, seval]; (try simp (disch := omega) only [wrapI]); (repeat ((with_reducible refine And.intro ?_ ?_); (focus (exact ob1))))
      refine hK _ ?_; clear hK; clear K
      apply awp_cond; (focus (simp only [push_cast, seval]; rfl))
      · intro h10; (try simp only [decide_eq_true_eq, decide_eq_false_iff_not, Bool.not_eq_true', Bool.not_eq_false', Bool.and_eq_true, Bool.or_eq_true, Bool.not_eq_true] at h10)
        refine awpF_region ?_; intro K hK; simp only [push_cast, seval]; (try simp (disch := omega) only [wrapI]); (repeat ((with_reducible refine And.intro ?_ ?_); (focus (exact ob1)))); refine hK _ ?_; clear hK; clear K
        refine inblock_norm ?_
        refine round_endG (seen ++ [j], (dx, dy), n) [0, 1, 2, 3] ⟨?_, ?_, ?_⟩
        · dsimp only; rw [List.length_append, List.length_singleton]; omega
        · exact And.intro hnd' (And.intro hlt' (Or.inr (And.intro hcn.symm hbe)))
        · simp only [spV]
          exact ⟨by simp, by simp, by simp [push_cast, seval, esS_ren, esS_frz], by simp [push_cast, seval], by simp [push_cast, seval], by simp [push_cast, seval, esS_bel]⟩
      · intro h10; (try simp only [decide_eq_true_eq, decide_eq_false_iff_not, Bool.not_eq_true', Bool.not_eq_false', Bool.and_eq_true, Bool.or_eq_true, Bool.not_eq_true] at h10)
        cases h10
    by_cases e2 : n = most
    · have e2' : (n == most) = true := by simpa using e2
      have h68 := p68 [cmp3 (far0 dx dy) (far0 bx by'), ord dx dy bx by'] (by simp)
      simp only [List.map_cons, List.map_nil, encI] at h68
      refine awpF_draw [0,1,2,3,4,5,6,7,8,9,11,12,15,16,10,13,14,17,18,19,20,21,22] (by kernel_rfl) (by kernel_rfl) rfl ?_; intro K hK; simp only [push_cast, seval, e1, e2']
      (repeat ((with_reducible refine And.intro ?_ ?_); (focus (exact ob1))))
      refine CallK.pg (fun _ => p66 dx dy (by omega) (by omega)) ?_; simp only [push_cast, seval]; (try simp (disch := omega) only [wrapI]); (repeat ((with_reducible refine And.intro ?_ ?_); (focus (exact ob1))))
      refine CallK.pg (fun _ => p66 bx by' (by omega) (by omega)) ?_; simp only [push_cast, seval]; (try simp (disch := omega) only [wrapI]); (repeat ((with_reducible refine And.intro ?_ ?_); (focus (exact ob1))))
      refine CallK.pg (fun _ => p69 _ _) ?_; simp only [push_cast, seval]; (try simp (disch := omega) only [wrapI]); (repeat ((with_reducible refine And.intro ?_ ?_); (focus (exact ob1))))
      refine CallK.pg (fun _ => p70 _ _ _ _) ?_; simp only [push_cast, seval]; (try simp (disch := omega) only [wrapI]); (repeat ((with_reducible refine And.intro ?_ ?_); (focus (exact ob1))))
      refine CallK.pg (fun _ => h68) ?_; simp only [push_cast, seval]; (try simp (disch := omega) only [wrapI]); (repeat ((with_reducible refine And.intro ?_ ?_); (focus (exact ob1))))
      refine hK _ ?_; clear hK; clear K
      apply awp_cond; (focus (simp only [push_cast, seval]; rfl))
      · intro h10; (try simp only [decide_eq_true_eq, decide_eq_false_iff_not, Bool.not_eq_true', Bool.not_eq_false', Bool.and_eq_true, Bool.or_eq_true, Bool.not_eq_true] at h10)
        simp only [cond_false, cond_true, decide_eq_true_eq, cor_lt] at h10
        have hbe := hnew (hbi.2 (.inr ⟨e2, h10⟩))
        refine awpF_region ?_; intro K hK; simp only [push_cast, seval]; (try simp (disch := omega) only [wrapI]); (repeat ((with_reducible refine And.intro ?_ ?_); (focus (exact ob1)))); refine hK _ ?_; clear hK; clear K
        refine inblock_norm ?_
        refine round_endG (seen ++ [j], (dx, dy), n) [0, 1, 2, 3] ⟨?_, ?_, ?_⟩
        · dsimp only; rw [List.length_append, List.length_singleton]; omega
        · exact And.intro hnd' (And.intro hlt' (Or.inr (And.intro hcn.symm hbe)))
        · simp only [spV]
          exact ⟨by simp, by simp, by simp [push_cast, seval, esS_ren, esS_frz], by simp [push_cast, seval], by simp [push_cast, seval], by simp [push_cast, seval, esS_bel]⟩
      · intro h10; (try simp only [decide_eq_true_eq, decide_eq_false_iff_not, Bool.not_eq_true', Bool.not_eq_false', Bool.and_eq_true, Bool.or_eq_true, Bool.not_eq_true] at h10)
        simp only [cond_false, cond_true, decide_eq_false_iff_not, cor_lt] at h10
        have hno : ¬ better n (dx, dy) most (bx, by') := fun h => by
          rcases hbi.1 h with h | ⟨_, h⟩
          · exact e1 h
          · exact h10 h
        refine awp_skip ?_
        refine inblock_norm ?_
        refine round_endG (seen ++ [j], (bx, by'), most) [0, 1, 2, 3] ⟨?_, ?_, ?_⟩
        · dsimp only; rw [List.length_append, List.length_singleton]; omega
        · exact And.intro hnd' (And.intro hlt' (Or.inr (hold hno)))
        · simp only [spV]
          exact ⟨by simp, by simp, by simp [push_cast, seval, esS_ren, esS_frz], by simp [push_cast, seval], by simp [push_cast, seval], by simp [push_cast, seval, esS_bel]⟩
    · have e2' : (n == most) = false := by simpa using e2
      have hno : ¬ better n (dx, dy) most (bx, by') := fun h => by
        rcases hbi.1 h with h | ⟨h, _⟩
        · exact e1 h
        · exact e2 h
      refine awpF_draw [0,1,2,3,4,5,6,7,8,9,11,12,15,16,10,13,14,17,18,19,20,21,22] (by kernel_rfl) (by kernel_rfl) rfl ?_; intro K hK; simp only [push_cast, seval, e1, e2']
      (repeat ((with_reducible refine And.intro ?_ ?_); (focus (exact ob1))))
      refine CallK.pg (fun _ => p66 dx dy (by omega) (by omega)) ?_; simp only [push_cast, seval]; (try simp (disch := omega) only [wrapI]); (repeat ((with_reducible refine And.intro ?_ ?_); (focus (exact ob1))))
      refine CallK.pg (fun _ => p66 bx by' (by omega) (by omega)) ?_; simp only [push_cast, seval]; (try simp (disch := omega) only [wrapI]); (repeat ((with_reducible refine And.intro ?_ ?_); (focus (exact ob1))))
      refine CallK.pg (fun _ => p69 _ _) ?_; simp only [push_cast, seval]; (try simp (disch := omega) only [wrapI]); (repeat ((with_reducible refine And.intro ?_ ?_); (focus (exact ob1))))
      refine CallK.pg (fun _ => p70 _ _ _ _) ?_; simp only [push_cast, seval]; (try simp (disch := omega) only [wrapI]); (repeat ((with_reducible refine And.intro ?_ ?_); (focus (exact ob1))))
      refine CallK.pg (fun _ => p68 [] (by simp)) ?_; simp only [push_cast, seval]; (try simp (disch := omega) only [wrapI]); (repeat ((with_reducible refine And.intro ?_ ?_); (focus (exact ob1))))
      refine hK _ ?_; clear hK; clear K
      apply awp_cond; (focus (simp only [push_cast, seval]; rfl))
      · intro h10; (try simp only [decide_eq_true_eq, decide_eq_false_iff_not, Bool.not_eq_true', Bool.not_eq_false', Bool.and_eq_true, Bool.or_eq_true, Bool.not_eq_true] at h10)
        cases h10
      · intro h10; (try simp only [decide_eq_true_eq, decide_eq_false_iff_not, Bool.not_eq_true', Bool.not_eq_false', Bool.and_eq_true, Bool.or_eq_true, Bool.not_eq_true] at h10)
        refine awp_skip ?_
        refine inblock_norm ?_
        refine round_endG (seen ++ [j], (bx, by'), most) [0, 1, 2, 3] ⟨?_, ?_, ?_⟩
        · dsimp only; rw [List.length_append, List.length_singleton]; omega
        · exact And.intro hnd' (And.intro hlt' (Or.inr (hold hno)))
        · simp only [spV]
          exact ⟨by simp, by simp, by simp [push_cast, seval, esS_ren, esS_frz], by simp [push_cast, seval], by simp [push_cast, seval], by simp [push_cast, seval, esS_bel]⟩
  · intro h9; (try simp only [decide_eq_true_eq, decide_eq_false_iff_not, Bool.not_eq_true', Bool.not_eq_false', Bool.and_eq_true, Bool.or_eq_true, Bool.not_eq_true] at h9)
    cases h9

end Go.Aw

namespace Go.Aw
set_option linter.unusedSimpArgs false
set_option linter.unusedVariables false
open Go.RowKit Go.Proofs Go.Rg

theorem ok_bd {ps : List Pt} (hc : check ps = 0) {p : Pt} (hp : p ∈ ps) : okP p = true ∧ (-100000000 ≤ p.1 ∧ p.1 ≤ 100000000) ∧ (-100000000 ≤ p.2.1 ∧ p.2.1 ≤ 100000000) := by
  have h1 : ps.all okP = true := by
    unfold check at hc
    split at hc
    · cases hc
    · split at hc
      · assumption
      · cases hc
  have h2 := List.all_eq_true.1 h1 p hp
  refine ⟨h2, ?_⟩
  simp only [okP, fair, Bool.and_eq_true, decide_eq_true_eq] at h2
  omega
section
variable (B : List Blk) (X Y Z W U : Blk) (R : List Blk)
end
end Go.Aw
