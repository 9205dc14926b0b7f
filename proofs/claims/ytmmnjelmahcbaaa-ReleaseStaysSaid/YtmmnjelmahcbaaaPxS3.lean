/-
  The library's contract of slices.SortFunc, laid at this program, at int; what it does to an own row under a comparator that is a closure over data. Conditions: lengths that fit.
-/
import Derived.Test.YtmmnjelmahcbaaaProg
import Derived.Test.YtmmnjelmahcbaaaPxAwSf
import Derived.Test.YtmmnjelmahcbaaaPxN29
namespace Go.Proofs
set_option linter.unusedSimpArgs false
set_option linter.unusedVariables false
open Go.RowKit Go.Maps Go.Sort Go.Shelf

def Try.sortF_ren : Go.Shelf.Ren := ⟨fun | 6 => 76 | 15 => 105 | 14 => 104 | 28 => 131 | 29 => 132 | 20 => 123 | 21 => 124 | 22 => 125 | 23 => 126 | 24 => 127 | 25 => 128 | 26 => 129 | 27 => 130 | 46 => 145 | 47 => 146 | 48 => 147 | 49 => 148 | 50 => 149 | 57 => 163 | n => n, fun | 22 => 52 | 24 => 3 | 25 => 31 | 3 => 3 | 39 => 34 | 0 => 0 | 53 => 92 | 55 => 82 | 4 => 4 | 46 => 144 | 45 => 143 | 50 => 148 | 5 => 5 | 9 => 9 | 66 => 162 | 70 => 166 | 76 => 175 | 77 => 176 | n => n, fun | n => n⟩
theorem Try.sortF : Go.Proofs.SlLaysF.n6 Try.prog Try.sortF_ren where
  mixed := by kernel_rfl
  f6 := ⟨Try.f76.name, by kernel_rfl, Try.func76.trans (congrArg some (by kernel_rfl))⟩
  f14 := ⟨Try.f104.name, by kernel_rfl, Try.func104.trans (congrArg some (by kernel_rfl))⟩
  f15 := Try.func105.trans (congrArg some (by kernel_rfl))
  f20 := ⟨Try.f123.name, by kernel_rfl, Try.func123.trans (congrArg some (by kernel_rfl))⟩
  f21 := ⟨Try.f124.name, by kernel_rfl, Try.func124.trans (congrArg some (by kernel_rfl))⟩
  f22 := ⟨Try.f125.name, by kernel_rfl, Try.func125.trans (congrArg some (by kernel_rfl))⟩
  f23 := ⟨Try.f126.name, by kernel_rfl, Try.func126.trans (congrArg some (by kernel_rfl))⟩
  f24 := ⟨Try.f127.name, by kernel_rfl, Try.func127.trans (congrArg some (by kernel_rfl))⟩
  f25 := ⟨Try.f128.name, by kernel_rfl, Try.func128.trans (congrArg some (by kernel_rfl))⟩
  f26 := ⟨Try.f129.name, by kernel_rfl, Try.func129.trans (congrArg some (by kernel_rfl))⟩
  f27 := ⟨Try.f130.name, by kernel_rfl, Try.func130.trans (congrArg some (by kernel_rfl))⟩
  f28 := Try.func131.trans (congrArg some (by kernel_rfl))
  f29 := Try.func132.trans (congrArg some (by kernel_rfl))
  f46 := ⟨Try.f145.name, by kernel_rfl, Try.func145.trans (congrArg some (by kernel_rfl))⟩
  f47 := Try.func146.trans (congrArg some (by kernel_rfl))
  f48 := Try.func147.trans (congrArg some (by kernel_rfl))
  f49 := ⟨Try.f148.name, by kernel_rfl, Try.func148.trans (congrArg some (by kernel_rfl))⟩
  f50 := ⟨Try.f149.name, by kernel_rfl, Try.func149.trans (congrArg some (by kernel_rfl))⟩
  f57 := ⟨Try.f163.name, by kernel_rfl, Try.func163.trans (congrArg some (by kernel_rfl))⟩
  t0 := Try.underlying0
  a0 := Try.isAgg0
  z0 := Try.sizeOf0
  v0 := Try.zeroValue0
  t3 := Try.underlying3
  a3 := Try.isAgg3
  z3 := Try.sizeOf3
  v3 := Try.zeroValue3
  t4 := Try.underlying4
  a4 := Try.isAgg4
  z4 := Try.sizeOf4
  v4 := Try.zeroValue4
  t5 := Try.underlying5
  a5 := Try.isAgg5
  z5 := Try.sizeOf5
  v5 := Try.zeroValue5
  t9 := Try.underlying9
  a9 := Try.isAgg9
  z9 := Try.sizeOf9
  v9 := Try.zeroValue9
  t22 := Try.underlying52
  a22 := Try.isAgg52
  z22 := Try.sizeOf52
  v22 := Try.zeroValue52
  a24 := Try.isAgg3
  z24 := Try.sizeOf3
  t25 := Try.underlying31
  a25 := Try.isAgg31
  z25 := Try.sizeOf31
  v25 := Try.zeroValue31
  t39 := Try.underlying34
  a39 := Try.isAgg34
  z39 := Try.sizeOf34
  v39 := Try.zeroValue34
  t45 := Try.underlying143
  a45 := Try.isAgg143
  z45 := Try.sizeOf143
  v45 := Try.zeroValue143
  t46 := Try.underlying144
  a46 := Try.isAgg144
  z46 := Try.sizeOf144
  v46 := Try.zeroValue144
  t50 := Try.underlying148
  a50 := Try.isAgg148
  z50 := Try.sizeOf148
  v50 := Try.zeroValue148
  t53 := Try.underlying92
  a53 := Try.isAgg92
  z53 := Try.sizeOf92
  v53 := Try.zeroValue92
  t55 := Try.underlying82
  a55 := Try.isAgg82
  z55 := Try.sizeOf82
  v55 := Try.zeroValue82
  t66 := Try.underlying162
  a66 := Try.isAgg162
  z66 := Try.sizeOf162
  v66 := Try.zeroValue162
  t70 := Try.underlying166
  a70 := Try.isAgg166
  z70 := Try.sizeOf166
  v70 := Try.zeroValue166
  t76 := Try.underlying175
  a76 := Try.isAgg175
  z76 := Try.sizeOf175
  v76 := Try.zeroValue175
  t77 := Try.underlying176
  a77 := Try.isAgg176
  z77 := Try.sizeOf176
  v77 := Try.zeroValue176

end Go.Proofs

namespace Go.Aw
open Go.RowKit Go.Proofs Go.Sort Go.Shelf

theorem ordI_swo (n : Int) : SWO (ltOf (ordI n)) where
  irrefl x := by simp only [ltOf, decide_eq_false_iff_not, ordI_neg]; unfold keyLt; omega
  trans x y z h1 h2 := by simp only [ltOf, decide_eq_true_eq, ordI_neg] at *; exact keyLt_trans h1 h2
  ntrans x y z h1 h2 := by simp only [ltOf, decide_eq_false_iff_not, ordI_neg] at *; unfold keyLt at *; omega
theorem ordI_tot (n x y : Int) (h1 : ltOf (ordI n) x y = false) (h2 : ltOf (ordI n) y x = false) : x = y := by
  simp only [ltOf, decide_eq_false_iff_not, ordI_neg] at *
  exact keyLt_tri h1 h2
def capsO (n : Int) : List D := [.cp [.fn (.func 75) [.cp [.int .i64 n] 0]] 0]
theorem a76 (n : Int) (zs : List Int) (hz : zs.length ≤ 1000000) : AC Try.prog 76 [.ref 0 0 zs.length, .fn (.func 77) ((capsO n).map .d)] [.data 1 (zs.map encI)] [0] fun x H => x = .tup [] ∧ H = [.data 1 ((sortK n zs).map encI)] := by
  have key := ac_sort (P := Try.prog) (f := 76) ⟨Try.f76, by kernel_rfl, by kernel_rfl, rfl⟩ [.fn (.func 77) (capsO n)] rfl (sortK n) (fun zs => sortK_len n zs) ?_ ?_ zs (by omega)
  · refine ac_args key rfl fun j x y hy hx E F w v h => ?_
    match j with
    | 0 => simp at hx hy; subst hx hy; exact h
    | 1 =>
      simp [ofD] at hx hy
      subst hx hy
      exact vr_dfn rfl E F w v h
    | j + 2 => simp at hy
  · intro F ex blk off cap zs w hex hF hnF hH hb hl
    obtain ⟨c0, rfl⟩ : ∃ c0, ex = #[c0] := by
      have := hex.1
      obtain ⟨l⟩ := ex
      match l with
      | [c] => exact ⟨c, rfl⟩
      | [] => simp at this
      | _ :: _ :: _ => simp at this
    have v0 := hex.2 0 _ c0 rfl rfl
    cases v0 with | d _ _ v0 => ?_
    cases v0 with | fn _ _ cb h1 h2 => ?_
    have hcl := cmp_lays (P := Try.prog) (g := 77) (caps := capsO n) (cf := ordI n) (fun x y => p77 n x y) (by intro x hx; simp [capsO] at hx; subst hx; rfl) (off := off) (size := zs.toArray.size) hF hnF ⟨h1, h2⟩
    have := Any.slices_SortFunc_total Try.sortF (Value.int .i64) oneI (ordI n) (ordI_swo n) 77 cb blk off cap zs.toArray w (enters_of Try.func77 (by kernel_rfl) rfl) hcl hH hb (by simp; omega) (ordI_tot n)
    exact this.mono fun e w' h => h
  · intro F ex p cap w hex
    obtain ⟨c0, rfl⟩ : ∃ c0, ex = #[c0] := by
      have := hex.1
      obtain ⟨l⟩ := ex
      match l with
      | [c] => exact ⟨c, rfl⟩
      | [] => simp at this
      | _ :: _ :: _ => simp at this
    exact AnyF.slices_SortFunc_none { Try.sortF with } p cap c0 w
end Go.Aw
