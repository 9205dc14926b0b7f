/-
  Texts of the library, one behind the other. Over any program; no condition.
-/
import Derived.DeepKeys4
import Derived.Test.YtecindhbaekncaaPcC
import Derived.Test.YtecindhbaekncaaPcB
import Derived.Test.YtecindhbaekncaaPkT
namespace Go.Aw
set_option linter.unusedSimpArgs false
set_option linter.unusedVariables false
open Go.Rg

def ltS (a b : Sp) : Prop := a.1 < b.1 ∨ (a.1 = b.1 ∧ a.2 < b.2)
instance ltS_dec (a b : Sp) : Decidable (ltS a b) := by unfold ltS; exact inferInstance
theorem ltS_irrefl (a : Sp) : ¬ ltS a a := by unfold ltS; omega
theorem ltS_trans {a b c : Sp} (h1 : ltS a b) (h2 : ltS b c) : ltS a c := by unfold ltS at *; omega
theorem ltS_tri {a b : Sp} (h1 : ¬ ltS a b) (h2 : ¬ ltS b a) : a = b := by
  obtain ⟨x, y⟩ := a
  obtain ⟨z, w⟩ := b
  unfold ltS at h1 h2
  simp only at h1 h2
  rw [show x = z by omega, show y = w by omega]

/-- The cells that there are, in their order. -/
def IsKeys (cs ks : List Sp) : Prop := ks.Pairwise ltS ∧ ∀ c, c ∈ ks ↔ c ∈ cs
theorem nodup_le : ∀ {ks cs : List Sp}, ks.Nodup → (∀ c, c ∈ ks → c ∈ cs) → ks.length ≤ cs.length
  | [], _, _, _ => Nat.zero_le _
  | k :: ks, cs, hd, h => by
    obtain ⟨h1, h2⟩ := List.nodup_cons.1 hd
    have hk := h k (by simp)
    have := nodup_le (ks := ks) (cs := cs.erase k) h2 fun c hc => (List.mem_erase_of_ne (fun (e : c = k) => h1 (by rw [← e]; exact hc))).2 (h c (by simp [hc]))
    rw [List.length_erase_of_mem hk] at this
    have := List.length_pos_of_mem hk
    simp only [List.length_cons]
    omega
theorem nub_ex : ∀ (cs : List Sp), ∃ zs : List Sp, zs.Nodup ∧ ∀ c, c ∈ zs ↔ c ∈ cs
  | [] => ⟨[], List.nodup_nil, fun _ => Iff.rfl⟩
  | k :: cs => by
    obtain ⟨zs, h1, h2⟩ := nub_ex cs
    by_cases h : k ∈ zs
    · refine ⟨zs, h1, fun c => ?_⟩
      rw [List.mem_cons, ← h2 c]
      exact ⟨.inr, fun h3 => h3.elim (fun e => e ▸ h) id⟩
    · refine ⟨k :: zs, List.nodup_cons.2 ⟨h, h1⟩, fun c => ?_⟩
      rw [List.mem_cons, List.mem_cons, h2 c]
theorem keys_len {cs ks : List Sp} (h : IsKeys cs ks) : ks.length ≤ cs.length := by
  have hnd : ks.Nodup := h.1.imp fun h e => by subst e; exact ltS_irrefl _ h
  exact nodup_le hnd fun c hc => (h.2 c).1 hc
def sortS (zs : List Sp) : List Sp := zs.mergeSort fun x y => !(decide (ltS y x))
theorem sortS_perm (zs : List Sp) : (sortS zs).Perm zs := List.mergeSort_perm _ _
theorem sortS_len (zs : List Sp) : (sortS zs).length = zs.length := (sortS_perm zs).length_eq
theorem sortS_pair (zs : List Sp) : (sortS zs).Pairwise fun a b => ¬ ltS b a := by
  have := List.pairwise_mergeSort (le := fun (x y : Sp) => !(decide (ltS y x))) (fun a b c h1 h2 => by
    simp only [Bool.not_eq_true', decide_eq_false_iff_not] at *
    intro h3
    by_cases h4 : ltS a b
    · exact h2 (ltS_trans h3 h4)
    · rw [ltS_tri h1 h4] at h2
      exact h2 h3) (fun a b => by
    simp only [Bool.or_eq_true, Bool.not_eq_true', decide_eq_false_iff_not]
    by_cases h : ltS b a
    · exact .inr fun h2 => ltS_irrefl _ (ltS_trans h h2)
    · exact .inl h) zs
  exact this.imp fun h => by simpa using h
theorem sortS_keys {cs zs : List Sp} (hd : zs.Nodup) (hm : ∀ c, c ∈ zs ↔ c ∈ cs) : IsKeys cs (sortS zs) := by
  refine ⟨?_, fun c => by rw [(sortS_perm zs).mem_iff, hm]⟩
  have hnd : (sortS zs).Nodup := (sortS_perm zs).nodup_iff.2 hd
  exact ((sortS_pair zs).and hnd).imp fun {a b} h => by
    by_cases h1 : ltS a b
    · exact h1
    · exact absurd (ltS_tri h1 h.1) h.2
theorem keys_ex (cs : List Sp) : ∃ ks, IsKeys cs ks := by
  obtain ⟨zs, h1, h2⟩ := nub_ex cs
  exact ⟨sortS zs, sortS_keys h1 h2⟩
end Go.Aw

namespace Go.Aw
set_option linter.unusedSimpArgs false
set_option linter.unusedVariables false
theorem mid_end {kp : List Nat} {Q : Exit → St → Prop} {J : St → Prop} {t : St} (r : List Nat) (u : St) (h : J u) (hr : Ren kp r u t) : Then (fun t => ∃ r u, J u ∧ Ren kp r u t) Q .normal t := ⟨r, u, h, hr⟩
theorem bif_or (a b : Bool) : (bif a then true else b) = (a || b) := by cases a <;> rfl
theorem bif_and (a b : Bool) : (bif a then b else false) = (a && b) := by cases a <;> rfl
end Go.Aw

namespace Go.Aw
set_option linter.unusedSimpArgs false
set_option linter.unusedVariables false
open Go.Rg

end Go.Aw

namespace Go.Aw
set_option linter.unusedSimpArgs false
set_option linter.unusedVariables false
open Go.RowKit Go.Proofs Go.Rg

end Go.Aw

namespace Go.Aw
set_option linter.unusedSimpArgs false
set_option linter.unusedVariables false
open Go.RowKit Go.Proofs Go.Rg

end Go.Aw

namespace Go.Proofs
set_option linter.unusedSimpArgs false
set_option linter.unusedVariables false
open Go.RowKit Go.Maps Go.Sort Go.Shelf

def Try.sortK_ren : Go.Shelf.Ren := ⟨fun | 6 => 82 | 14 => 109 | 15 => 110 | 20 => 122 | 21 => 123 | 22 => 124 | 23 => 125 | 24 => 126 | 25 => 127 | 26 => 128 | 27 => 129 | 28 => 130 | 29 => 131 | 46 => 141 | 47 => 142 | 48 => 143 | 49 => 144 | 50 => 145 | 57 => 149 | n => n, fun | 0 => 0 | 3 => 3 | 4 => 4 | 5 => 5 | 9 => 9 | 22 => 69 | 25 => 88 | 39 => 133 | 45 => 142 | 46 => 143 | 50 => 80 | 53 => 149 | 55 => 151 | 66 => 158 | 70 => 162 | 76 => 166 | 77 => 167 | 24 => 34 | n => n, fun | n => n⟩
theorem Try.sortK : Go.Proofs.SlLaysF0.n6 Try.prog Try.sortK_ren where
  mixed := by kernel_rfl
  f6 := ⟨Try.f82.name, by kernel_rfl, Try.func82.trans (congrArg some (by kernel_rfl))⟩
  f14 := ⟨Try.f109.name, by kernel_rfl, Try.func109.trans (congrArg some (by kernel_rfl))⟩
  f15 := Try.func110.trans (congrArg some (by kernel_rfl))
  f20 := ⟨Try.f122.name, by kernel_rfl, Try.func122.trans (congrArg some (by kernel_rfl))⟩
  f21 := ⟨Try.f123.name, by kernel_rfl, Try.func123.trans (congrArg some (by kernel_rfl))⟩
  f22 := ⟨Try.f124.name, by kernel_rfl, Try.func124.trans (congrArg some (by kernel_rfl))⟩
  f23 := ⟨Try.f125.name, by kernel_rfl, Try.func125.trans (congrArg some (by kernel_rfl))⟩
  f24 := ⟨Try.f126.name, by kernel_rfl, Try.func126.trans (congrArg some (by kernel_rfl))⟩
  f25 := ⟨Try.f127.name, by kernel_rfl, Try.func127.trans (congrArg some (by kernel_rfl))⟩
  f26 := ⟨Try.f128.name, by kernel_rfl, Try.func128.trans (congrArg some (by kernel_rfl))⟩
  f27 := ⟨Try.f129.name, by kernel_rfl, Try.func129.trans (congrArg some (by kernel_rfl))⟩
  f28 := Try.func130.trans (congrArg some (by kernel_rfl))
  f29 := Try.func131.trans (congrArg some (by kernel_rfl))
  f46 := ⟨Try.f141.name, by kernel_rfl, Try.func141.trans (congrArg some (by kernel_rfl))⟩
  f47 := Try.func142.trans (congrArg some (by kernel_rfl))
  f48 := Try.func143.trans (congrArg some (by kernel_rfl))
  f49 := ⟨Try.f144.name, by kernel_rfl, Try.func144.trans (congrArg some (by kernel_rfl))⟩
  f50 := ⟨Try.f145.name, by kernel_rfl, Try.func145.trans (congrArg some (by kernel_rfl))⟩
  f57 := ⟨Try.f149.name, by kernel_rfl, Try.func149.trans (congrArg some (by kernel_rfl))⟩
  t0 := Try.underlying0
  a0 := Try.isAgg0
  z0 := Try.sizeOf0
  v0 := Try.zeroValue0
  t3 := Try.underlying3
  a3 := Try.isAgg3
  z3 := Try.sizeOf3
  v3 := Try.zeroValue3
  t4 := Try.underlying4
  a4 := Try.isAgg4
  z4 := Try.sizeOf4
  v4 := Try.zeroValue4
  t5 := Try.underlying5
  a5 := Try.isAgg5
  z5 := Try.sizeOf5
  v5 := Try.zeroValue5
  t9 := Try.underlying9
  a9 := Try.isAgg9
  z9 := Try.sizeOf9
  v9 := Try.zeroValue9
  t22 := Try.underlying69
  a22 := Try.isAgg69
  z22 := Try.sizeOf69
  v22 := Try.zeroValue69
  t25 := Try.underlying88
  a25 := Try.isAgg88
  z25 := Try.sizeOf88
  v25 := Try.zeroValue88
  t39 := Try.underlying133
  a39 := Try.isAgg133
  z39 := Try.sizeOf133
  v39 := Try.zeroValue133
  t45 := Try.underlying142
  a45 := Try.isAgg142
  z45 := Try.sizeOf142
  v45 := Try.zeroValue142
  t46 := Try.underlying143
  a46 := Try.isAgg143
  z46 := Try.sizeOf143
  v46 := Try.zeroValue143
  t50 := Try.underlying80
  a50 := Try.isAgg80
  z50 := Try.sizeOf80
  v50 := Try.zeroValue80
  t53 := Try.underlying149
  a53 := Try.isAgg149
  z53 := Try.sizeOf149
  v53 := Try.zeroValue149
  t55 := Try.underlying151
  a55 := Try.isAgg151
  z55 := Try.sizeOf151
  v55 := Try.zeroValue151
  t66 := Try.underlying158
  a66 := Try.isAgg158
  z66 := Try.sizeOf158
  v66 := Try.zeroValue158
  t70 := Try.underlying162
  a70 := Try.isAgg162
  z70 := Try.sizeOf162
  v70 := Try.zeroValue162
  t76 := Try.underlying166
  a76 := Try.isAgg166
  z76 := Try.sizeOf166
  v76 := Try.zeroValue166
  t77 := Try.underlying167
  a77 := Try.isAgg167
  z77 := Try.sizeOf167
  v77 := Try.zeroValue167

end Go.Proofs

namespace Go.Aw
open Go.RowKit Go.Proofs Go.Sort Go.Shelf Go.Rg

def enS (d : Sp) : List Int := [d.1, d.2]
theorem ord_neg (a b : Sp) : ord a.1 a.2 b.1 b.2 < 0 ↔ ltS a b := by
  unfold ord ltS cor cor cor cmp3
  by_cases h1 : a.1 < b.1
  · simp [h1]
  · by_cases h2 : b.1 < a.1
    · have h3 : ¬ a.1 = b.1 := by omega
      simp [h1, h2, h3]
    · have h3 : a.1 = b.1 := by omega
      by_cases h4 : a.2 < b.2
      · simp [h3, h4]
      · by_cases h5 : b.2 < a.2
        · simp [h3, h4, h5]
        · simp [h3, h4, h5]
theorem ordS_swo : SWO (ltOf fun a b : Sp => ord a.1 a.2 b.1 b.2) where
  irrefl x := by simp only [ltOf, decide_eq_false_iff_not, ord_neg]; exact ltS_irrefl x
  trans x y z h1 h2 := by simp only [ltOf, decide_eq_true_eq, ord_neg] at *; exact ltS_trans h1 h2
  ntrans x y z h1 h2 := by simp only [ltOf, decide_eq_false_iff_not, ord_neg] at *; unfold ltS at *; omega
theorem ordS_tot (x y : Sp) (h1 : ltOf (fun a b : Sp => ord a.1 a.2 b.1 b.2) x y = false) (h2 : ltOf (fun a b : Sp => ord a.1 a.2 b.1 b.2) y x = false) : x = y := by
  simp only [ltOf, decide_eq_false_iff_not, ord_neg] at *
  exact ltS_tri h1 h2
theorem a82 (zs : List Sp) (hz : zs.length ≤ 1000000) (id : Nat) (H : List Blk) (kp : List Nat) (hid : H[id]? = some (.data 2 (zs.map (enD enS)))) : AC Try.prog 82 [.ref id 0 zs.length, .d (.fn (.func 70) [])] H kp fun x H' => x = .tup [] ∧ H' = H.set id (.data 2 ((sortS zs).map (enD enS))) := by
  refine ac_sortKat enS (f := 82) ⟨Try.f82, by kernel_rfl, by kernel_rfl, rfl⟩ [.fn (.func 70) []] rfl 2 (fun _ => rfl) (by decide) sortS sortS_len ?_ ?_ zs (by omega) id H kp hid
  · intro F ex blk off cap zs w hex _ _ hH hb hl
    obtain rfl : ex = #[.func (.func 70) #[] #[]] := by
      obtain ⟨l⟩ := ex
      match l, hex.1 with
      | [c], _ =>
        have v0 := hex.2 0 _ c rfl rfl
        cases v0 with
        | d _ _ v0 =>
          cases v0 with
          | fn _ _ cs hs _ =>
            obtain rfl : cs = #[] := Array.size_eq_zero_iff.1 hs
            rfl
    have hcl := cmp_laysK enS (P := Try.prog) (g := 70) (cf := fun a b : Sp => ord a.1 a.2 b.1 b.2) (fun x y => p70 x.1 x.2 y.1 y.2) (w := w) (blk := blk) (off := off) (size := zs.toArray.size) 2
    have := AnyQ.slices_SortFunc_total Try.sortK 2 Try.isAgg34 Try.sizeOf34 (enV enS) (fun _ => rfl) (fun x v hv => by
      simp only [enV, enS, List.map_cons, List.map_nil, List.mem_cons, List.not_mem_nil, or_false] at hv
      rcases hv with rfl | rfl <;> rfl) (fun a b : Sp => ord a.1 a.2 b.1 b.2) ordS_swo 70 #[] blk off cap zs.toArray w (enters_of Try.func70 (by kernel_rfl) rfl) hcl hH hb (by simpa using hl) ordS_tot
    refine this.mono ?_
    rintro e w' ⟨h1, n, os, h2⟩
    refine ⟨h1, n, os, ?_⟩
    rw [h2]
    have : (zs.toArray.toList.mergeSort fun x y => !ltOf (fun a b : Sp => ord a.1 a.2 b.1 b.2) y x) = sortS zs := by
      unfold sortS
      congr 1
      funext x y
      simp only [ltOf, ord_neg]
    rw [this]
    rfl
  · intro F ex p cap w hex
    obtain ⟨c0, rfl⟩ : ∃ c0, ex = #[c0] := by
      obtain ⟨l⟩ := ex
      match l, hex.1 with
      | [c], _ => exact ⟨c, rfl⟩
    exact AnyF.slices_SortFunc_none Try.sortK p cap c0 w
end Go.Aw

namespace Go.Aw
set_option linter.unusedSimpArgs false
set_option linter.unusedVariables false
open Go.RowKit Go.Proofs Go.Rg

end Go.Aw

namespace Go.Aw
set_option linter.unusedSimpArgs false
set_option linter.unusedVariables false
open Go.RowKit Go.Proofs Go.Rg

section
variable (B : List Blk) (X Y Z W U : Blk) (R : List Blk)
end
end Go.Aw
