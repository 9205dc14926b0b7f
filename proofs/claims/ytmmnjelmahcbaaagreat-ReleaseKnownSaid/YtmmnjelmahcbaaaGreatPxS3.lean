/-
  The library's contract of slices.SortFunc, laid at this program, at int; what it does to an own row under a comparator that is a closure over data. Conditions: lengths that fit.
-/
import Derived.Test.YtmmnjelmahcbaaaGreatProg
import Derived.Test.YtmmnjelmahcbaaaGreatPxAwSf
import Derived.Test.YtmmnjelmahcbaaaGreatPxN29
namespace Go.Proofs
set_option linter.unusedSimpArgs false
set_option linter.unusedVariables false
open Go.RowKit Go.Maps Go.Sort Go.Shelf

def Tryz.sortF_ren : Go.Shelf.Ren := ⟨fun | 6 => 65 | 15 => 97 | 14 => 96 | 28 => 122 | 29 => 123 | 20 => 114 | 21 => 115 | 22 => 116 | 23 => 117 | 24 => 118 | 25 => 119 | 26 => 120 | 27 => 121 | 46 => 138 | 47 => 139 | 48 => 140 | 49 => 141 | 50 => 142 | 57 => 156 | n => n, fun | 22 => 34 | 24 => 3 | 25 => 41 | 3 => 3 | 39 => 120 | 0 => 0 | 53 => 125 | 55 => 82 | 4 => 4 | 46 => 136 | 45 => 135 | 50 => 140 | 5 => 5 | 9 => 9 | 66 => 155 | 70 => 159 | 76 => 168 | 77 => 169 | n => n, fun | n => n⟩
theorem Tryz.sortF : Go.Proofs.SlLaysF.n6 Tryz.prog Tryz.sortF_ren where
  mixed := by kernel_rfl
  f6 := ⟨Tryz.f65.name, by kernel_rfl, Tryz.func65.trans (congrArg some (by kernel_rfl))⟩
  f14 := ⟨Tryz.f96.name, by kernel_rfl, Tryz.func96.trans (congrArg some (by kernel_rfl))⟩
  f15 := Tryz.func97.trans (congrArg some (by kernel_rfl))
  f20 := ⟨Tryz.f114.name, by kernel_rfl, Tryz.func114.trans (congrArg some (by kernel_rfl))⟩
  f21 := ⟨Tryz.f115.name, by kernel_rfl, Tryz.func115.trans (congrArg some (by kernel_rfl))⟩
  f22 := ⟨Tryz.f116.name, by kernel_rfl, Tryz.func116.trans (congrArg some (by kernel_rfl))⟩
  f23 := ⟨Tryz.f117.name, by kernel_rfl, Tryz.func117.trans (congrArg some (by kernel_rfl))⟩
  f24 := ⟨Tryz.f118.name, by kernel_rfl, Tryz.func118.trans (congrArg some (by kernel_rfl))⟩
  f25 := ⟨Tryz.f119.name, by kernel_rfl, Tryz.func119.trans (congrArg some (by kernel_rfl))⟩
  f26 := ⟨Tryz.f120.name, by kernel_rfl, Tryz.func120.trans (congrArg some (by kernel_rfl))⟩
  f27 := ⟨Tryz.f121.name, by kernel_rfl, Tryz.func121.trans (congrArg some (by kernel_rfl))⟩
  f28 := Tryz.func122.trans (congrArg some (by kernel_rfl))
  f29 := Tryz.func123.trans (congrArg some (by kernel_rfl))
  f46 := ⟨Tryz.f138.name, by kernel_rfl, Tryz.func138.trans (congrArg some (by kernel_rfl))⟩
  f47 := Tryz.func139.trans (congrArg some (by kernel_rfl))
  f48 := Tryz.func140.trans (congrArg some (by kernel_rfl))
  f49 := ⟨Tryz.f141.name, by kernel_rfl, Tryz.func141.trans (congrArg some (by kernel_rfl))⟩
  f50 := ⟨Tryz.f142.name, by kernel_rfl, Tryz.func142.trans (congrArg some (by kernel_rfl))⟩
  f57 := ⟨Tryz.f156.name, by kernel_rfl, Tryz.func156.trans (congrArg some (by kernel_rfl))⟩
  t0 := Tryz.underlying0
  a0 := Tryz.isAgg0
  z0 := Tryz.sizeOf0
  v0 := Tryz.zeroValue0
  t3 := Tryz.underlying3
  a3 := Tryz.isAgg3
  z3 := Tryz.sizeOf3
  v3 := Tryz.zeroValue3
  t4 := Tryz.underlying4
  a4 := Tryz.isAgg4
  z4 := Tryz.sizeOf4
  v4 := Tryz.zeroValue4
  t5 := Tryz.underlying5
  a5 := Tryz.isAgg5
  z5 := Tryz.sizeOf5
  v5 := Tryz.zeroValue5
  t9 := Tryz.underlying9
  a9 := Tryz.isAgg9
  z9 := Tryz.sizeOf9
  v9 := Tryz.zeroValue9
  t22 := Tryz.underlying34
  a22 := Tryz.isAgg34
  z22 := Tryz.sizeOf34
  v22 := Tryz.zeroValue34
  a24 := Tryz.isAgg3
  z24 := Tryz.sizeOf3
  t25 := Tryz.underlying41
  a25 := Tryz.isAgg41
  z25 := Tryz.sizeOf41
  v25 := Tryz.zeroValue41
  t39 := Tryz.underlying120
  a39 := Tryz.isAgg120
  z39 := Tryz.sizeOf120
  v39 := Tryz.zeroValue120
  t45 := Tryz.underlying135
  a45 := Tryz.isAgg135
  z45 := Tryz.sizeOf135
  v45 := Tryz.zeroValue135
  t46 := Tryz.underlying136
  a46 := Tryz.isAgg136
  z46 := Tryz.sizeOf136
  v46 := Tryz.zeroValue136
  t50 := Tryz.underlying140
  a50 := Tryz.isAgg140
  z50 := Tryz.sizeOf140
  v50 := Tryz.zeroValue140
  t53 := Tryz.underlying125
  a53 := Tryz.isAgg125
  z53 := Tryz.sizeOf125
  v53 := Tryz.zeroValue125
  t55 := Tryz.underlying82
  a55 := Tryz.isAgg82
  z55 := Tryz.sizeOf82
  v55 := Tryz.zeroValue82
  t66 := Tryz.underlying155
  a66 := Tryz.isAgg155
  z66 := Tryz.sizeOf155
  v66 := Tryz.zeroValue155
  t70 := Tryz.underlying159
  a70 := Tryz.isAgg159
  z70 := Tryz.sizeOf159
  v70 := Tryz.zeroValue159
  t76 := Tryz.underlying168
  a76 := Tryz.isAgg168
  z76 := Tryz.sizeOf168
  v76 := Tryz.zeroValue168
  t77 := Tryz.underlying169
  a77 := Tryz.isAgg169
  z77 := Tryz.sizeOf169
  v77 := Tryz.zeroValue169

end Go.Proofs

namespace Go.Aw
open Go.RowKit Go.Proofs Go.Sort Go.Shelf

theorem ordI_swo (n : Int) : SWO (ltOf (ordI n)) where
  irrefl x := by simp only [ltOf, decide_eq_false_iff_not, ordI_neg]; unfold keyLt; omega
  trans x y z h1 h2 := by simp only [ltOf, decide_eq_true_eq, ordI_neg] at *; exact keyLt_trans h1 h2
  ntrans x y z h1 h2 := by simp only [ltOf, decide_eq_false_iff_not, ordI_neg] at *; unfold keyLt at *; omega
theorem ordI_tot (n x y : Int) (h1 : ltOf (ordI n) x y = false) (h2 : ltOf (ordI n) y x = false) : x = y := by
  simp only [ltOf, decide_eq_false_iff_not, ordI_neg] at *
  exact keyLt_tri h1 h2
def capsO (n : Int) : List D := [.cp [.fn (.func 64) [.cp [.int .i64 n] 0]] 0]
theorem a76 (n : Int) (zs : List Int) (hz : zs.length ≤ 1000000) : AC Tryz.prog 65 [.ref 0 0 zs.length, .fn (.func 66) ((capsO n).map .d)] [.data 1 (zs.map encI)] [0] fun x H => x = .tup [] ∧ H = [.data 1 ((sortK n zs).map encI)] := by
  have key := ac_sort (P := Tryz.prog) (f := 65) ⟨Tryz.f65, by kernel_rfl, by kernel_rfl, rfl⟩ [.fn (.func 66) (capsO n)] rfl (sortK n) (fun zs => sortK_len n zs) ?_ ?_ zs (by omega)
  · refine ac_args key rfl fun j x y hy hx E F w v h => ?_
    match j with
    | 0 => simp at hx hy; subst hx hy; exact h
    | 1 =>
      simp [ofD] at hx hy
      subst hx hy
      exact vr_dfn rfl E F w v h
    | j + 2 => simp at hy
  · intro F ex blk off cap zs w hex hF hnF hH hb hl
    obtain ⟨c0, rfl⟩ : ∃ c0, ex = #[c0] := by
      have := hex.1
      obtain ⟨l⟩ := ex
      match l with
      | [c] => exact ⟨c, rfl⟩
      | [] => simp at this
      | _ :: _ :: _ => simp at this
    have v0 := hex.2 0 _ c0 rfl rfl
    cases v0 with | d _ _ v0 => ?_
    cases v0 with | fn _ _ cb h1 h2 => ?_
    have hcl := cmp_lays (P := Tryz.prog) (g := 66) (caps := capsO n) (cf := ordI n) (fun x y => p77 n x y) (by intro x hx; simp [capsO] at hx; subst hx; rfl) (off := off) (size := zs.toArray.size) hF hnF ⟨h1, h2⟩
    have := Any.slices_SortFunc_total Tryz.sortF (Value.int .i64) oneI (ordI n) (ordI_swo n) 66 cb blk off cap zs.toArray w (enters_of Tryz.func66 (by kernel_rfl) rfl) hcl hH hb (by simp; omega) (ordI_tot n)
    exact this.mono fun e w' h => h
  · intro F ex p cap w hex
    obtain ⟨c0, rfl⟩ : ∃ c0, ex = #[c0] := by
      have := hex.1
      obtain ⟨l⟩ := ex
      match l with
      | [c] => exact ⟨c, rfl⟩
      | [] => simp at this
      | _ :: _ :: _ => simp at this
    exact AnyF.slices_SortFunc_none { Tryz.sortF with } p cap c0 w
end Go.Aw
