/-
  Drawn regions in two parts: between them, what a guard that holds has yielded is told without the guard. Over any program; no condition.
-/
import Derived.Test.YtmmnjelmahcbaaaPxAwOm
namespace Go.Aw
set_option linter.unusedSimpArgs false
set_option linter.unusedVariables false
open Go.RowKit

def bareV : V → V
  | .opt true x => x
  | x => x
def bareT : List (Nat × V) → List (Nat × V)
  | [] => []
  | (i, x) :: r => (i, bareV x) :: bareT r
def bare (s : St) : St := ⟨bareT s.tm, s.heap⟩
theorem bareT_get : ∀ (l : List (Nat × V)) (i : Nat), tget (bareT l) i = (tget l i).map bareV
  | [], i => rfl
  | (k, x) :: r, i => by
    simp only [bareT, tget]
    split
    · rfl
    · exact bareT_get r i
theorem bareV_sound {E : Env} {F : Nat → Prop} {w : World} {x : V} {v : Value} (h : VR E F w x v) : VR E F w (bareV x) v := by
  unfold bareV
  split
  · rename_i y
    exact V.strip_sound h rfl
  · exact h
theorem bare_sim {B : Base} {s : St} {a : Act} {w : World} {E : Env} {F : Nat → Prop} (h : Sim B s a w E F) : Sim B (bare s) a w E F := by
  have hr := h.rel
  refine ⟨⟨hr.os, hr.tape, hr.output, hr.size, hr.F0, hr.only, hr.same, hr.lt, hr.hr, hr.src, hr.keep, hr.sz⟩, h.defers, fun i x hx => ?_⟩
  have hx : tget (bareT s.tm) i = some x := hx
  rw [bareT_get, Option.map_eq_some_iff] at hx
  obtain ⟨y, hy, rfl⟩ := hx
  obtain ⟨v, h1, h2⟩ := h.tm i y hy
  exact ⟨v, h1, bareV_sound h2⟩

variable {P : Program} {ops : Array Oper}
theorem awpF_drawN {kp : List Nat} {n : Nat} {s : St} {Q : Exit → St → Prop} {id : Nat} (pre : List Nat) (d : DT) (hm : P.follows .mixedOrders = true)
    (hc : (Region.noSelect ops && preOkM ops pre (Array.replicate ops.size false) && d.ok ops true (setAll pre (Array.replicate ops.size false))) = true) (hl : Nat.ble (pre.length + d.depth) ops.size = true)
    (h : ∀ K : St → Prop, (∀ t, Q .normal t → K t) → contRun P kp ops (.vc (pre.filterMap (ops[·]?))) s fun t => contRun P kp ops (.dt d) (bare t) K) : AWP P kp n (.region id ops true) s Q := by
  intro hok B a w E F h1 h2 h3
  subst h1
  simp only [Bool.and_eq_true] at hc
  obtain ⟨⟨c1, c2⟩, c5⟩ := hc
  have hQ : ∀ c a w, ¬ (fun e a' w' => (∀ ch, e ≠ .panic ch) ∧ e ≠ .outgrown ∧ ∃ s' E' F', Q e s' ∧ Sim B s' a' w' E' F' ∧ a'.tmps.size = n) (.panic c) a w := fun c a w hh => hh.1 c rfl
  refine wp_region_any hm (wpAny_of_T _ _ _ _ (preM_sound (ops := ops) (n := n) (m := d.depth) hok c1 hQ pre _ s a _ E F _ h2 h3.drew (h _ fun t ht => ht) c2 ?_ _ (Nat.le_of_ble_eq_true hl)))
  intro a1 w1 s1 E1 F1 hK1 hs1 hn1 fuel hf
  exact draw_soundT (ops := ops) (n := n) hok c1 hQ d.depth d (Nat.le_refl _) _ _ a1 w1 E1 F1 (fun t => Q .normal t) hn1 (bare_sim hs1) hK1 c5 (fun a' w' s' E' F' hK hs hn => ⟨by simp, by simp, s', E', F', hK, hs, hn⟩) fuel hf

theorem bare_mk {tm : List (Nat × V)} {H : List Blk} : bare ⟨tm, H⟩ = ⟨bareT tm, H⟩ := rfl
theorem bareT_cons {i : Nat} {x : V} {r : List (Nat × V)} : bareT ((i, x) :: r) = (i, bareV x) :: bareT r := rfl
theorem bareT_nil : bareT [] = [] := rfl
theorem bareV_opt {x : V} : bareV (.opt true x) = x := rfl
theorem bareV_off {x : V} : bareV (.opt false x) = .opt false x := rfl
theorem bareV_d {x : D} : bareV (.d x) = .d x := rfl
theorem bareV_agg {x : List V} : bareV (.agg x) = .agg x := rfl
theorem bareV_tup {x : List V} : bareV (.tup x) = .tup x := rfl
theorem bareV_ptr {a b c : Nat} : bareV (.ptr a b c) = .ptr a b c := rfl
theorem bareV_ref {a b c : Nat} : bareV (.ref a b c) = .ref a b c := rfl
theorem bareV_nil : bareV .nil = .nil := rfl
theorem bareV_junk : bareV .junk = .junk := rfl
theorem bareV_fn {f : Fn} {x : List V} : bareV (.fn f x) = .fn f x := rfl
attribute [push_cast] bare_mk bareT_cons bareT_nil bareV_opt bareV_off bareV_d bareV_agg bareV_tup bareV_ptr bareV_ref bareV_nil bareV_junk bareV_fn
end Go.Aw
