/-
  The given reading of a spot. Conditions: none.
-/
import Derived.Test.YtecindhbaekncaaR1
namespace Go.Aw
set_option linter.unusedSimpArgs false
set_option linter.unusedVariables false
open Go.ChangeShapes Go.WideShapes Go.RowKit Go.Proofs

theorem und34 : ∃ f0 f1 : Field, Try.prog.underlying 34 = some (.struct #[f0, f1]) ∧ f0.type = 2 ∧ f1.type = 2 ∧ f0.offset = 0 ∧ f1.offset = 1 :=
  ⟨_, _, Try.underlying34, rfl, rfl, rfl, rfl⟩
theorem cells34 : Try.prog.cellsOf 34 = 2 := by kernel_rfl

set_option maxRecDepth 100000 in
theorem rd_spot {H : Type} {enc : TypeId × Value → H} {W : World} {v : Value} {d : DataW H} {ps : List MemPlace} (hval : Value.okWide Try.prog W .any 0 34 v) (h : DataW.Trod enc Try.prog W 0 (fun _ => true) true 34 v d ps) :
    ∃ x y : Int, v = .agg #[.int .i64 x, .int .i64 y] := by
  obtain ⟨f0, f1, hu, t0, t1, o0, o1⟩ := und34
  simp only [Value.okWide, hu] at hval
  obtain ⟨cs, rfl, hs, _⟩ := hval
  obtain ⟨fuel, hf⟩ := h
  simp only [Value.cells] at hf
  obtain ⟨y0, y1, m, _, hcl, g0, g1⟩ := trod_struct2 hu hf
  rw [cells34] at hcl
  rw [t0, o0, cells2] at g0
  rw [t1, o1, cells2] at g1
  obtain ⟨x0, e0, _, _⟩ := DataW.trod_int int2 g0
  obtain ⟨x1, e1, _, _⟩ := DataW.trod_int int2 g1
  obtain ⟨l⟩ := cs
  simp only at hcl e0 e1
  match l, hcl with
  | [c0, c1], _ =>
    simp at e0 e1
    subst e0 e1
    exact ⟨x0, x1, rfl⟩

theorem vr_spot {E : Env} {F : Nat → Prop} {w : World} (x y : Int) : VR E F w (.agg [.d (.int .i64 x), .d (.int .i64 y)]) (.agg #[.int .i64 x, .int .i64 y]) := by
  refine .agg _ _ rfl fun j u v hu hv => ?_
  match j with
  | 0 => simp at hu hv; subst hu hv; exact .d _ _ (.int _ _)
  | 1 => simp at hu hv; subst hu hv; exact .d _ _ (.int _ _)
  | j + 2 => simp at hu

end Go.Aw
