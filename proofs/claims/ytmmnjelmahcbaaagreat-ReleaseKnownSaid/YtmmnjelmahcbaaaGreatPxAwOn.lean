/-
  Drawn regions in two parts: between them, what a guard that holds has yielded is told without the guard. Over any program; no condition.
-/
import Derived.Test.YtmmnjelmahcbaaaGreatPxAwOm
namespace Go.Aw
set_option linter.unusedSimpArgs false
set_option linter.unusedVariables false
open Go.RowKit

def bareV : V → V
  | .opt true x => x
  | x => x
def bareT : List (Nat × V) → List (Nat × V)
  | [] => []
  | (i, x) :: r => (i, bareV x) :: bareT r
def bare (s : St) : St := ⟨bareT s.tm, s.heap⟩
variable {P : Program} {ops : Array Oper}
theorem bare_mk {tm : List (Nat × V)} {H : List Blk} : bare ⟨tm, H⟩ = ⟨bareT tm, H⟩ := rfl
theorem bareT_cons {i : Nat} {x : V} {r : List (Nat × V)} : bareT ((i, x) :: r) = (i, bareV x) :: bareT r := rfl
theorem bareT_nil : bareT [] = [] := rfl
theorem bareV_opt {x : V} : bareV (.opt true x) = x := rfl
theorem bareV_off {x : V} : bareV (.opt false x) = .opt false x := rfl
theorem bareV_d {x : D} : bareV (.d x) = .d x := rfl
theorem bareV_agg {x : List V} : bareV (.agg x) = .agg x := rfl
theorem bareV_tup {x : List V} : bareV (.tup x) = .tup x := rfl
theorem bareV_ptr {a b c : Nat} : bareV (.ptr a b c) = .ptr a b c := rfl
theorem bareV_ref {a b c : Nat} : bareV (.ref a b c) = .ref a b c := rfl
theorem bareV_nil : bareV .nil = .nil := rfl
theorem bareV_junk : bareV .junk = .junk := rfl
theorem bareV_fn {f : Fn} {x : List V} : bareV (.fn f x) = .fn f x := rfl
attribute [push_cast] bare_mk bareT_cons bareT_nil bareV_opt bareV_off bareV_d bareV_agg bareV_tup bareV_ptr bareV_ref bareV_nil bareV_junk bareV_fn
end Go.Aw
