/-
  The operations that only compute or read yield what 'opQ' says: loads. Over any program; no condition.
-/
import Derived.Test.YtmmnjelmahcbaaaAwB
namespace Go.Aw
set_option linter.unusedSimpArgs false
set_option linter.unusedVariables false
open Go.RowKit

def Keep (w w' : World) : Prop := ∀ b, b < w.heap.size → w'.heap[b]? = w.heap[b]?

theorem Keep.refl (w : World) : Keep w w := fun _ _ => rfl

theorem V.strip_sound {E : Env} {F : Nat → Prop} {w : World} {x : V} {v : Value} (h : VR E F w x v) (hp : x.strip.1) : VR E F w x.strip.2 v := by
  cases h with
  | opt g x v h hu => exact h hp
  | refv id k m a hE => exact .refv id k m a hE
  | _ => constructor <;> assumption

theorem leafConst_sound {E : Env} {F : Nat → Prop} {w : World} (v : Value) : VR E F w (leafConst v) v := by
  unfold leafConst
  split
  · exact .d _ _ (.int _ _)
  · exact .d _ _ (.bool _)
  · exact .d _ _ (.str _)
  · exact .d _ _ .nilptr
  · exact .nil _
  · exact .d _ _ .nilmap
  · exact .d _ _ .nilfn
  · exact .d _ _ .niliface
  · exact .junk _

theorem ofConst_sound {E : Env} {F : Nat → Prop} {w : World} (v : Value) : VR E F w (ofConst v) v := by
  unfold ofConst
  split
  · rename_i cs
    refine .agg _ cs (by simp) fun j x v hx hv => ?_
    simp only [List.getElem?_map, Array.getElem?_toList] at hx
    rw [hv] at hx
    simp at hx
    subst hx
    exact leafConst_sound v
  · exact leafConst_sound v

theorem ev_sound {B : Base} {s : St} {a : Act} {w : World} {E : Env} {F : Nat → Prop} (hs : Sim B s a w E F) (x : Operand) : VR E F w (s.ev x) (a.eval x) := by
  cases x with
  | tmp t =>
    simp only [St.ev, St.get, Act.eval]
    cases h : tget s.tm t with
    | none => exact .junk _
    | some x =>
      obtain ⟨v, hv, hr⟩ := hs.tm t x h
      simp only [Option.getD_some, Array.getD_eq_getD_getElem?, hv]
      exact hr
  | const v => exact ofConst_sound v
  | global g => exact .junk _
  | func f => exact .d _ _ (.fn _ [] #[] rfl (fun j x v hx _ => by simp at hx))

/-- Of the cells of an own row. -/
theorem cell_keep {w w' : World} (hk : Keep w w') {b : Nat} {cs : Array Value} {t : TypeId} {fr : Nat × Nat} (h : w.heap[b]? = some (.cells cs t fr)) (j : Nat) :
    w'.cell? ⟨b, j, none⟩ = cs[j]? := by
  have hb : b < w.heap.size := by
    rcases Nat.lt_or_ge b w.heap.size with h' | h'
    · exact h'
    · rw [Array.getElem?_eq_none h'] at h; cases h
  exact cell_of_row w' b j cs t fr ((hk b hb).trans h)

theorem run_loadAt_leaf {P : Program} (w : World) (t : TypeId) (ad : Addr) (v : Value) (h : ksz P t = some (false, 1)) (hc : w.cell? ad = some v) :
    (Instr.loadAt t (.pointer (some ad))).run P w = .ok v w := by
  unfold ksz at h
  cases hu : P.underlying t with
  | none => simp [hu] at h
  | some d =>
    simp only [hu] at h
    cases hi : P.info? t with
    | none => simp [hi] at h
    | some i =>
      simp [hi] at h
      have hagg : (isAgg t).run P w = .ok false w := by
        unfold isAgg
        rw [Sem.run_bind, run_underlying hu w]
        cases d <;> simp_all [TypeDesc.isRow]
      simp [Instr.loadAt, Instr.sureAddr, loadVar, hagg, hc]

theorem run_loadAt_row {P : Program} (w : World) (t : TypeId) (b o n : Nat) (cs : List Value) (h : ksz P t = some (true, n)) (hn : cs.length = n)
    (hc : w.rangeAt b o cs) : (Instr.loadAt t (.pointer (some ⟨b, o, none⟩))).run P w = .ok (.agg cs.toArray) w := by
  unfold ksz at h
  cases hu : P.underlying t with
  | none => simp [hu] at h
  | some d =>
    simp only [hu] at h
    cases hi : P.info? t with
    | none => simp [hi] at h
    | some i =>
      simp [hi] at h
      exact run_loadAt_mid w b o t cs d hc hu h.1 (by simp [hi, h.2, hn])

theorem lt_mul_of {row n k off m : Nat} (h : row < n) (ho : off + m ≤ k) : row * k + off + m ≤ n * k := by
  have : (row + 1) * k ≤ n * k := Nat.mul_le_mul_right k h
  rw [Nat.add_mul, Nat.one_mul] at this
  omega

theorem slice_get {cs : Array Value} {o n j : Nat} (hj : j < n) : ((cs.toList.drop o).take n)[j]? = cs[o + j]? := by
  rw [List.getElem?_take_of_lt hj, List.getElem?_drop, Array.getElem?_toList]

theorem loadQ_sound {P : Program} {E : Env} {F : Nat → Prop} {w : World} {H : List Blk} {t : TypeId} {x y : V} {ob : Prop} {v : Value} (h : loadQ P H t x = some (ob, y)) (hob : ob)
    (hr : HR E F w H) (hlt : ∀ b, F b → b < w.heap.size) (hx : VR E F w x v) : ∃ u, VR E F w y u ∧ ∀ w', Keep w w' → (Instr.loadAt t v).run P w' = .ok u w' := by
  cases hx with
  | ptr id row off b k m hE hrow =>
    simp only [loadQ] at h
    split at h
    · rename_i n k' rows hk hH
      simp only [Option.some.injEq, Prod.mk.injEq] at h
      obtain ⟨rfl, rfl⟩ := h
      have hoff := hob
      obtain ⟨h1, hm, h2, h3⟩ := hr.blk _ _ _ hE hH
      dsimp only at h1 hm
      subst h1 hm
      rcases h3 with ⟨h3, _⟩ | ⟨b', cs, t', h3, hw, hsz, hcell⟩
      · cases h3
      simp only [Option.some.injEq] at h3
      subst h3
      have hrl := (h2 row rows[row] (List.getElem?_eq_getElem hrow)).1
      have hb := lt_mul_of (n := rows.length) (m := n) hrow hoff
      refine ⟨.agg ((cs.toList.drop (row * k + off)).take n).toArray, .agg _ _ ?_ ?_, fun w' hk' => ?_⟩
      · simp [List.getElem?_eq_getElem hrow, hrl]; omega
      · intro j x v hx hv
        simp only [List.getElem?_eq_getElem hrow, Option.getD_some, List.getElem?_map] at hx
        rcases Nat.lt_or_ge j n with hj | hj
        · rw [List.getElem?_take_of_lt hj, List.getElem?_drop] at hx
          cases hd : rows[row][off + j]? with
          | none => simp [hd] at hx
          | some d =>
            simp [hd] at hx
            subst hx
            obtain ⟨u, hu, hrd⟩ := hcell row rows[row] (off + j) d (List.getElem?_eq_getElem hrow) hd
            simp only [List.getElem?_toArray, slice_get hj, Nat.add_assoc] at hv
            rw [hu] at hv
            cases hv
            exact .d _ _ hrd
        · rw [List.getElem?_take_eq_none hj] at hx
          simp at hx
      · refine run_loadAt_row w' t b _ n _ hk (by simp; omega) fun j v hv => ?_
        rcases Nat.lt_or_ge j n with hj | hj
        · rw [slice_get hj] at hv
          rw [cell_keep hk' hw]
          exact hv
        · rw [List.getElem?_take_eq_none hj] at hv; cases hv
    · rename_i k' rows hk hH
      simp only [Option.some.injEq, Prod.mk.injEq] at h
      obtain ⟨rfl, rfl⟩ := h
      have hoff := hob
      obtain ⟨h1, hm, h2, h3⟩ := hr.blk _ _ _ hE hH
      dsimp only at h1 hm
      subst h1 hm
      rcases h3 with ⟨h3, _⟩ | ⟨b', cs, t', h3, hw, hsz, hcell⟩
      · cases h3
      simp only [Option.some.injEq] at h3
      subst h3
      have hrl := (h2 row rows[row] (List.getElem?_eq_getElem hrow)).1
      have hd : rows[row][off]? = some (rows[row][off]'(by omega)) := List.getElem?_eq_getElem _
      obtain ⟨u, hu, hrd⟩ := hcell row rows[row] off _ (List.getElem?_eq_getElem hrow) hd
      refine ⟨u, ?_, fun w' hk' => run_loadAt_leaf w' t _ u hk ((cell_keep hk' hw _).trans hu)⟩
      simp only [List.getElem?_eq_getElem hrow, Option.getD_some, List.getD_eq_getElem?_getD, hd]
      exact .d _ _ hrd
    · rename_i n xs hk hH
      simp only [Option.some.injEq, Prod.mk.injEq] at h
      obtain ⟨rfl, rfl⟩ := h
      have hoff := hob
      obtain ⟨h1, hm, b', cs, t', h3, hw, hsz, hcell⟩ := hr.blk _ _ _ hE hH
      dsimp only at hm
      subst hm
      obtain rfl : row = 0 := by omega
      simp only [Option.some.injEq] at h3
      subst h3
      refine ⟨.agg ((cs.toList.drop off).take n).toArray, .agg _ _ (by simp; omega) ?_, fun w' hk' => ?_⟩
      · intro j x v hx hv
        rcases Nat.lt_or_ge j n with hj | hj
        · rw [List.getElem?_take_of_lt hj, List.getElem?_drop] at hx
          obtain ⟨u, hu, hrd⟩ := hcell _ x hx
          simp only [List.getElem?_toArray, slice_get hj] at hv
          rw [hu] at hv
          cases hv
          exact hrd
        · rw [List.getElem?_take_eq_none hj] at hx; cases hx
      · simp only [Nat.zero_mul, Nat.zero_add]
        refine run_loadAt_row w' t b _ n _ hk (by simp; omega) fun j v hv => ?_
        rcases Nat.lt_or_ge j n with hj | hj
        · rw [slice_get hj] at hv
          rw [cell_keep hk' hw]
          exact hv
        · rw [List.getElem?_take_eq_none hj] at hv; cases hv
    · rename_i xs hk hH
      simp only [Option.some.injEq, Prod.mk.injEq] at h
      obtain ⟨rfl, rfl⟩ := h
      have hoff := hob
      obtain ⟨h1, hm, b', cs, t', h3, hw, hsz, hcell⟩ := hr.blk _ _ _ hE hH
      dsimp only at hm
      subst hm
      obtain rfl : row = 0 := by omega
      simp only [Option.some.injEq] at h3
      subst h3
      obtain ⟨u, hu, hrd⟩ := hcell off _ (List.getElem?_eq_getElem hoff)
      refine ⟨u, ?_, fun w' hk' => run_loadAt_leaf w' t _ u hk ?_⟩
      · simp only [List.getD_eq_getElem?_getD, List.getElem?_eq_getElem hoff, Option.getD_some]
        exact hrd
      · simp only [Nat.zero_mul, Nat.zero_add]
        exact (cell_keep hk' hw _).trans hu
    · rename_i n k' rows hk hH
      simp only [Option.some.injEq, Prod.mk.injEq] at h
      obtain ⟨rfl, rfl⟩ := h
      have hoff := hob
      obtain ⟨h1, hm, h2, h3⟩ := hr.blk _ _ _ hE hH
      dsimp only at h1 hm
      subst h1 hm
      rcases h3 with ⟨h3, _⟩ | ⟨b', cs, t', h3, hw, hsz, hcell⟩
      · cases h3
      simp only [Option.some.injEq] at h3
      subst h3
      have hrl := h2 row rows[row] (List.getElem?_eq_getElem hrow)
      have hb := lt_mul_of (n := rows.length) (m := n) hrow hoff
      refine ⟨.agg ((cs.toList.drop (row * k + off)).take n).toArray, .agg _ _ ?_ ?_, fun w' hk' => ?_⟩
      · simp [List.getElem?_eq_getElem hrow, hrl]; omega
      · intro j x v hx hv
        simp only [List.getElem?_eq_getElem hrow, Option.getD_some] at hx
        rcases Nat.lt_or_ge j n with hj | hj
        · rw [List.getElem?_take_of_lt hj, List.getElem?_drop] at hx
          obtain ⟨u, hu, _, hrd⟩ := hcell row rows[row] (off + j) x (List.getElem?_eq_getElem hrow) hx
          simp only [List.getElem?_toArray, slice_get hj, Nat.add_assoc] at hv
          rw [hu] at hv
          cases hv
          exact hrd
        · rw [List.getElem?_take_eq_none hj] at hx
          simp at hx
      · refine run_loadAt_row w' t b _ n _ hk (by simp; omega) fun j v hv => ?_
        rcases Nat.lt_or_ge j n with hj | hj
        · rw [slice_get hj] at hv
          rw [cell_keep hk' hw]
          exact hv
        · rw [List.getElem?_take_eq_none hj] at hv; cases hv
    · rename_i k' rows hk hH
      simp only [Option.some.injEq, Prod.mk.injEq] at h
      obtain ⟨rfl, rfl⟩ := h
      have hoff := hob
      obtain ⟨h1, hm, h2, h3⟩ := hr.blk _ _ _ hE hH
      dsimp only at h1 hm
      subst h1 hm
      rcases h3 with ⟨h3, _⟩ | ⟨b', cs, t', h3, hw, hsz, hcell⟩
      · cases h3
      simp only [Option.some.injEq] at h3
      subst h3
      have hrl := h2 row rows[row] (List.getElem?_eq_getElem hrow)
      have hd : rows[row][off]? = some (rows[row][off]'(by omega)) := List.getElem?_eq_getElem _
      obtain ⟨u, hu, _, hrd⟩ := hcell row rows[row] off _ (List.getElem?_eq_getElem hrow) hd
      refine ⟨u, ?_, fun w' hk' => run_loadAt_leaf w' t _ u hk ((cell_keep hk' hw _).trans hu)⟩
      simp only [List.getElem?_eq_getElem hrow, Option.getD_some, List.getD_eq_getElem?_getD, hd]
      exact hrd
    · cases h
  | d x v hd =>
    cases hd with
    | cp b o off xs c hF hc hrd =>
      simp only [loadQ] at h
      have hkc : ∀ w', Keep w w' → ∀ j, j < xs.length → w'.cell? ⟨b, o + j, none⟩ = some (c j) := fun w' hk' j hj =>
        (World.cell?_of_block (w := w) (hk' b (hlt b hF))).trans (hc j hj)
      split at h
      · rename_i n hk
        simp only [Option.some.injEq, Prod.mk.injEq] at h
        obtain ⟨rfl, rfl⟩ := h
        refine ⟨.agg ((List.range n).map fun j => c (off + j)).toArray, .agg _ _ (by simp; omega) ?_, fun w' hk' => ?_⟩
        · intro j x v hx hv
          simp only [List.getElem?_map] at hx
          rcases Nat.lt_or_ge j n with hj | hj
          · rw [List.getElem?_take_of_lt hj, List.getElem?_drop] at hx
            cases hd : xs[off + j]? with
            | none => simp [hd] at hx
            | some d =>
              simp [hd] at hx
              subst hx
              simp [hj] at hv
              subst hv
              exact .d _ _ (hrd _ _ hd)
          · rw [List.getElem?_take_eq_none hj] at hx
            simp at hx
        · refine run_loadAt_row w' t b _ n _ hk (by simp) fun j v hv => ?_
          rcases Nat.lt_or_ge j n with hj | hj
          · simp [hj] at hv
            subst hv
            rw [Nat.add_assoc]
            exact hkc w' hk' (off + j) (by omega)
          · rw [List.getElem?_eq_none (by simp; omega)] at hv; cases hv
      · rename_i hk
        simp only [Option.some.injEq, Prod.mk.injEq] at h
        obtain ⟨rfl, rfl⟩ := h
        refine ⟨c off, ?_, fun w' hk' => run_loadAt_leaf w' t _ _ hk (hkc w' hk' off hob)⟩
        simp only [List.getD_eq_getElem?_getD, List.getElem?_eq_getElem hob, Option.getD_some]
        exact .d _ _ (hrd _ _ (List.getElem?_eq_getElem hob))
      · cases h
    | _ => simp [loadQ] at h
  | _ => simp [loadQ] at h

end Go.Aw
