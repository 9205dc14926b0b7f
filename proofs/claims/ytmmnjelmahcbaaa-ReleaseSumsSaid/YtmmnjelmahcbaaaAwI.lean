/-
  Operations that make or write memory: variables, stores, struct and slice literals, make. Over any program; no condition.
-/
import Derived.Test.YtmmnjelmahcbaaaAwH
namespace Go.Aw
set_option linter.unusedSimpArgs false
set_option linter.unusedVariables false
open Go.RowKit

def setL {α : Type} (l : List α) (o : Nat) (xs : List α) : List α := l.take o ++ (xs ++ l.drop (o + xs.length))

theorem setL_len {α : Type} (l : List α) (o : Nat) (xs : List α) (h : o + xs.length ≤ l.length) : (setL l o xs).length = l.length := by
  simp [setL]; omega

theorem setL_get {α : Type} (l : List α) (o : Nat) (xs : List α) (h : o + xs.length ≤ l.length) (j : Nat) :
    (setL l o xs)[j]? = if o ≤ j ∧ j < o + xs.length then xs[j - o]? else l[j]? := by
  have hm : min o l.length = o := by omega
  by_cases h1 : j < o
  · have h3 : ¬ (o ≤ j ∧ j < o + xs.length) := by omega
    simp only [setL, List.getElem?_append, List.length_take, List.getElem?_take, hm, h1, h3, if_true, if_false]
  · by_cases h2 : j < o + xs.length
    · have h3 : o ≤ j ∧ j < o + xs.length := by omega
      have h4 : j - o < xs.length := by omega
      simp only [setL, List.getElem?_append, List.length_take, hm, h1, h3, h4, if_true, if_false]
      simp
    · have h3 : ¬ (o ≤ j ∧ j < o + xs.length) := by omega
      have h4 : ¬ j - o < xs.length := by omega
      have h5 : o + xs.length + (j - o - xs.length) = j := by omega
      simp only [setL, List.getElem?_append, List.length_take, List.getElem?_drop, hm, h1, h3, h4, h5, if_false]

/-- The zero value's cells. -/
def kzero (P : Program) (t : TypeId) : Option (List V) := ((P.info? t).bind (·.zero)).map fun z => z.cells.toList.map leafConst

theorem kzero_spec {P : Program} {t : TypeId} {zs : List V} (h : kzero P t = some zs) : ∃ i z, P.info? t = some i ∧ i.zero = some z ∧ zs = z.cells.toList.map leafConst := by
  unfold kzero at h
  cases hi : P.info? t with
  | none => simp [hi] at h
  | some i =>
    cases hz : i.zero with
    | none => simp [hi, hz] at h
    | some z => simp [hi, hz] at h; exact ⟨i, z, rfl, hz, h.symm⟩

theorem zero_get {E : Env} {F : Nat → Prop} {w : World} (z : Value) (j : Nat) (x : V) (h : (z.cells.toList.map leafConst)[j]? = some x) : ∃ v, z.cells[j]? = some v ∧ VR E F w x v := by
  simp only [List.getElem?_map, Option.map_eq_some_iff, Array.getElem?_toList] at h
  obtain ⟨v, hv, rfl⟩ := h
  exact ⟨v, hv, leafConst_sound v⟩

/-- A store: the heap behind it. -/
def storeQ (P : Program) (H : List Blk) (t : TypeId) (p x : V) : Option (Prop × List Blk) :=
  match p with
  | .ptr id row off =>
    match ksz P t, H[id]? with
    | some (_, n), some (.data k rows) =>
      match dOfs x.cellsV with
      | some ds => some (x.flat = true ∧ ds.all D.leaf = true ∧ ds.length = n ∧ off + n ≤ k, H.set id (.data k (rows.set row (if off = 0 ∧ n = k then ds else setL (rows[row]?.getD []) off ds))))
      | none => none
    | some (_, n), some (.cells xs) => some (x.flat = true ∧ x.cellsV.length = n ∧ off + n ≤ xs.length, H.set id (.cells (if off = 0 ∧ n = xs.length then x.cellsV else setL xs off x.cellsV)))
    | some (_, n), some (.vrs k rs) => some (x.flat = true ∧ x.cellsV.length = n ∧ off + n ≤ k, H.set id (.vrs k (rs.set row (if off = 0 ∧ n = k then x.cellsV else setL (rs[row]?.getD []) off x.cellsV))))
    | _, _ => none
  | _ => none

theorem ksz_size {P : Program} {t n : Nat} {b : Bool} (h : ksz P t = some (b, n)) (w : World) : (sizeOf t).run P w = .ok n w := by
  cases b
  · exact (ksz_leaf h w).2
  · exact (ksz_row h w).2

theorem run_storeAt_of {P : Program} {w : World} {t n : Nat} {b : Bool} (h : ksz P t = some (b, n)) (g o : Nat) (v : Value) (cs : Array Value) (tt : TypeId) (hw : w.heap[g]? = some (.cells cs tt (0, 0)))
    (hn : v.cells.size = n) (ho : o + n ≤ cs.size) (h1 : ∀ u ∈ v.cells.toList, u.oneCell' = true) :
    (Instr.storeAt t (.pointer (some ⟨g, o, none⟩)) v).run P w = .ok () (w.setRow g (setL cs.toList o v.cells.toList).toArray) := by
  have := run_storeCells_at (P := P) g o tt v.cells.toList 0 cs w hw (by simp; omega) h1
  simp only [Nat.add_zero, List.append_assoc] at this
  simp [Instr.storeAt, Instr.sureAddr, storeVar, ksz_size h w, hn, this, setL]

theorem storeQ_sound {P : Program} {B : Base} {s : St} {E : Env} {F : Nat → Prop} {w : World} {t : TypeId} {p x : V} {ob : Prop} {H' : List Blk} {u v : Value}
    (h : storeQ P s.heap t p x = some (ob, H')) (hob : ob) (hr : Rel B s E F w) (hp : VR E F w p u) (hx : VR E F w x v) :
    ∃ w', (Instr.storeAt t u v).run P w = .ok () w' ∧ Evo E F w E F w' (fun _ => True) ∧ Rel B { s with heap := H' } E F w' := by
  cases hp with
  | ptr id row off b k m hE hm =>
    simp only [storeQ] at h
    split at h
    · rename_i bb n k' rows hk hH
      split at h
      · rename_i ds hds
        simp only [Option.some.injEq, Prod.mk.injEq] at h
        obtain ⟨rfl, rfl⟩ := h
        obtain ⟨hf, hleaf, hdn, hoff⟩ := hob
        obtain ⟨h1, h2, h3, h4⟩ := hr.hr.blk _ _ _ hE hH
        dsimp only at h1 h2
        subst h1 h2
        rcases h4 with ⟨h4, _⟩ | ⟨b', cs, tt, h4, hw, hsz, hcell⟩
        · cases h4
        simp only [Option.some.injEq] at h4
        subst h4
        obtain ⟨hc1, hc2, hc3⟩ := cellsV_sound hx hf
        obtain ⟨hd1, hd2⟩ := dOfs_get hds
        have hb := lt_mul_of (n := rows.length) (m := n) hm hoff
        have hvn : v.cells.size = n := by omega
        have hlen : off + row * k + v.cells.toList.length ≤ cs.toList.length := by simp; omega
        have hrun := run_storeAt_of (w := w) hk b (row * k + off) v cs tt hw hvn (by omega) hc3
        have hrow : rows[row]? = some rows[row] := List.getElem?_eq_getElem hm
        have hrl := h3 row _ hrow
        refine ⟨_, hrun, ?_⟩
        refine upd_rel hr hE hH rfl rfl hw (by rw [List.size_toArray, setL_len _ _ _ (by simp; omega), Array.length_toList]) ?_
        have hget : ∀ j, (setL cs.toList (row * k + off) v.cells.toList)[j]? = if row * k + off ≤ j ∧ j < row * k + off + n then v.cells[j - (row * k + off)]? else cs[j]? := fun j => by
          rw [setL_get _ _ _ (by simp; omega)]
          simp [hvn]
        -- the element that is written
        have hnew : ∀ (j : Nat) (y : D), (if off = 0 ∧ n = k then ds else setL (rows[row]?.getD []) off ds)[j]? = some y → y.leaf = true ∧ j < k ∧
            ((off ≤ j ∧ j < off + n ∧ ds[j - off]? = some y) ∨ (¬ (off ≤ j ∧ j < off + n) ∧ rows[row][j]? = some y)) := by
          intro j y hj
          split at hj
          · rename_i hc
            have hjl := (List.getElem?_eq_some_iff.1 hj).1
            obtain ⟨rfl, rfl⟩ := hc
            exact ⟨List.all_eq_true.1 hleaf _ (List.mem_of_getElem? hj), by omega, .inl ⟨by omega, by omega, by simpa using hj⟩⟩
          · rw [hrow, Option.getD_some, setL_get _ _ _ (by omega)] at hj
            split at hj
            · rename_i hc
              exact ⟨List.all_eq_true.1 hleaf _ (List.mem_of_getElem? hj), by omega, .inl ⟨hc.1, by omega, hj⟩⟩
            · rename_i hc
              have hjl := (List.getElem?_eq_some_iff.1 hj).1
              exact ⟨List.all_eq_true.1 hrl.2 _ (List.mem_of_getElem? hj), by omega, .inr ⟨by omega, hj⟩⟩
        have hnl : (if off = 0 ∧ n = k then ds else setL (rows[row]?.getD []) off ds).length = k := by
          split
          · omega
          · rw [setL_len _ _ _ (by rw [hrow, Option.getD_some]; omega), hrow, Option.getD_some]; exact hrl.1
        generalize (if off = 0 ∧ n = k then ds else setL (rows[row]?.getD []) off ds) = nr at hnew hnl
        obtain ⟨hbl, hbF⟩ := hr.hr.free id b _ _ hE rfl hH rfl
        have upR : ∀ {x : D} {v : Value}, RD F w x v → RD F (w.setRow b (setL cs.toList (row * k + off) v.cells.toList).toArray) x v := fun h =>
          h.evo (fun _ h => h) (fun c hc => heap_setRow_other w b c _ (fun e => hbF (e ▸ hc)))
        refine ⟨rfl, by simp, fun i r hi => ?_, .inr ⟨b, _, tt, rfl, setRow_heap w b cs _ tt _ hw, ?_, fun i r j y hi hj => ?_⟩⟩
        · rw [List.getElem?_set] at hi
          split at hi
          · first | split at hi | skip
            · simp at hi; subst hi; exact ⟨hnl, List.all_eq_true.2 fun y hy => by obtain ⟨j, hj, rfl⟩ := List.getElem_of_mem hy; exact (hnew j _ (List.getElem?_eq_getElem hj)).1⟩
            all_goals (cases hi)
          · exact h3 i r hi
        · rw [List.length_set, List.size_toArray, setL_len _ _ _ (by simp; omega), Array.length_toList]; exact hsz
        · have fin : ∀ (z : Value), (RD F w y z) → RD F (w.setRow b (setL cs.toList (row * k + off) v.cells.toList).toArray) y z := fun z hz =>
            hz.evo (fun _ h => h) (fun c hc => heap_setRow_other w b c _ (fun e => hbF (e ▸ hc)))
          simp only [List.getElem?_toArray, hget]
          rw [List.getElem?_set] at hi
          split at hi
          · rename_i hri
            subst hri
            first | rw [if_pos hm] at hi | skip
            simp only [Option.some.injEq] at hi
            subst hi
            obtain ⟨_, hjk, ⟨h5, h6, h7⟩ | ⟨h5, h6⟩⟩ := hnew j y hj
            · rw [if_pos (by omega)]
              obtain ⟨z, hz1, hz2⟩ := hd2 _ _ h7
              obtain ⟨uu, hu1, hu2⟩ := hc2 _ _ hz1
              have e : row * k + j - (row * k + off) = j - off := by omega
              rw [e]
              exact ⟨uu, hu1, fin _ (dOf_sound hz2 hu2)⟩
            · rw [if_neg (by omega)]
              obtain ⟨uu, hu1, hu2⟩ := hcell row _ j y hrow h6
              exact ⟨uu, hu1, fin _ hu2⟩
          · rename_i hri
            have hil := (List.getElem?_eq_some_iff.1 hi).1
            have hj' : j < k := by
              have := (List.getElem?_eq_some_iff.1 hj).1
              have := (h3 i r hi).1
              omega
            obtain ⟨uu, hu1, hu2⟩ := hcell i r j y hi hj
            have hne : ¬ (row * k + off ≤ i * k + j ∧ i * k + j < row * k + off + n) := by
              rintro ⟨h5, h6⟩
              rcases Nat.lt_or_ge i row with hlt | hge
              · have := Nat.mul_le_mul_right k (show i + 1 ≤ row from hlt)
                rw [Nat.add_mul, Nat.one_mul] at this
                omega
              · have := Nat.mul_le_mul_right k (show row + 1 ≤ i by omega)
                rw [Nat.add_mul, Nat.one_mul] at this
                omega
            rw [if_neg hne]
            exact ⟨uu, hu1, fin _ hu2⟩
      · cases h
    · rename_i bb n xs hk hH
      simp only [Option.some.injEq, Prod.mk.injEq] at h
      obtain ⟨rfl, rfl⟩ := h
      obtain ⟨hf, hxn, hoff⟩ := hob
      obtain ⟨h1, h2, b', cs, tt, h4, hw, hsz, hcell⟩ := hr.hr.blk _ _ _ hE hH
      dsimp only at h1 h2
      subst h2
      obtain rfl : row = 0 := by omega
      simp only [Option.some.injEq] at h4
      subst h4
      obtain ⟨hc1, hc2, hc3⟩ := cellsV_sound hx hf
      have hvn : v.cells.size = n := by omega
      have hrun := run_storeAt_of (w := w) hk b (0 * k + off) v cs tt hw hvn (by omega) hc3
      refine ⟨_, hrun, ?_⟩
      simp only [Nat.zero_mul, Nat.zero_add] at hrun ⊢
      obtain ⟨hbl, hbF⟩ := hr.hr.free id b _ _ hE rfl hH rfl
      have hevo : Evo E F w E F (w.setRow b (setL cs.toList off v.cells.toList).toArray) (fun _ => True) :=
        ⟨fun _ h => h, fun c hc => heap_setRow_other w b c _ (fun e => hbF (e ▸ hc)), fun _ _ _ h => h, fun c n h => h.setRow hw (by rw [List.size_toArray, setL_len _ _ _ (by simp; omega), Array.length_toList])⟩
      refine upd_rel hr hE hH rfl rfl hw (by rw [List.size_toArray, setL_len _ _ _ (by simp; omega), Array.length_toList]) ?_
      have hget : ∀ j, (setL cs.toList off v.cells.toList)[j]? = if off ≤ j ∧ j < off + n then v.cells[j - off]? else cs[j]? := fun j => by
        rw [setL_get _ _ _ (by simp; omega)]
        simp [hvn]
      have hnl : (if off = 0 ∧ n = xs.length then x.cellsV else setL xs off x.cellsV).length = xs.length := by
        split
        · omega
        · exact setL_len _ _ _ (by omega)
      have hnew : ∀ (j : Nat) (y : V), (if off = 0 ∧ n = xs.length then x.cellsV else setL xs off x.cellsV)[j]? = some y →
          ((off ≤ j ∧ j < off + n ∧ x.cellsV[j - off]? = some y) ∨ (¬ (off ≤ j ∧ j < off + n) ∧ xs[j]? = some y)) := by
        intro j y hj
        split at hj
        · rename_i hc
          have hjl := (List.getElem?_eq_some_iff.1 hj).1
          exact .inl ⟨by omega, by omega, by rw [hc.1]; simpa using hj⟩
        · rw [setL_get _ _ _ (by omega), hxn] at hj
          split at hj
          · rename_i hc; exact .inl ⟨hc.1, hc.2, hj⟩
          · rename_i hc; exact .inr ⟨hc, hj⟩
      generalize (if off = 0 ∧ n = xs.length then x.cellsV else setL xs off x.cellsV) = nx at hnl hnew
      refine ⟨(show k = nx.length by omega), rfl, b, _, tt, rfl, setRow_heap w b cs _ tt _ hw, by rw [List.size_toArray, setL_len _ _ _ (by simp; omega), Array.length_toList]; omega, fun j y hj => ?_⟩
      simp only [List.getElem?_toArray, hget]
      rcases hnew j y hj with ⟨h5, h6, h7⟩ | ⟨h5, h7⟩
      · rw [if_pos ⟨h5, h6⟩]
        obtain ⟨uu, hu1, hu2⟩ := hc2 _ _ h7
        exact ⟨uu, hu1, hu2.evo hevo (fun _ _ => trivial)⟩
      · rw [if_neg h5]
        obtain ⟨uu, hu1, hu2⟩ := hcell _ _ h7
        exact ⟨uu, hu1, hu2.evo hevo (fun _ _ => trivial)⟩
    · rename_i bb n k' rows hk hH
      simp only [Option.some.injEq, Prod.mk.injEq] at h
      obtain ⟨rfl, rfl⟩ := h
      obtain ⟨hf, hxn, hoff⟩ := hob
      obtain ⟨h1, h2, h3, h4⟩ := hr.hr.blk _ _ _ hE hH
      dsimp only at h1 h2
      subst h1 h2
      rcases h4 with ⟨h4, _⟩ | ⟨b', cs, tt, h4, hw, hsz, hcell⟩
      · cases h4
      simp only [Option.some.injEq] at h4
      subst h4
      obtain ⟨hc1, hc2, hc3⟩ := cellsV_sound hx hf
      have hb := lt_mul_of (n := rows.length) (m := n) hm hoff
      have hvn : v.cells.size = n := by omega
      have hlen : off + row * k + v.cells.toList.length ≤ cs.toList.length := by simp; omega
      have hrun := run_storeAt_of (w := w) hk b (row * k + off) v cs tt hw hvn (by omega) hc3
      have hrow : rows[row]? = some rows[row] := List.getElem?_eq_getElem hm
      have hrl := h3 row _ hrow
      refine ⟨_, hrun, ?_⟩
      refine upd_rel hr hE hH rfl rfl hw (by rw [List.size_toArray, setL_len _ _ _ (by simp; omega), Array.length_toList]) ?_
      have hget : ∀ j, (setL cs.toList (row * k + off) v.cells.toList)[j]? = if row * k + off ≤ j ∧ j < row * k + off + n then v.cells[j - (row * k + off)]? else cs[j]? := fun j => by
        rw [setL_get _ _ _ (by simp; omega)]
        simp [hvn]
      -- the element that is written
      have hnew : ∀ (j : Nat) (y : V), (if off = 0 ∧ n = k then x.cellsV else setL (rows[row]?.getD []) off x.cellsV)[j]? = some y → j < k ∧
          ((off ≤ j ∧ j < off + n ∧ x.cellsV[j - off]? = some y) ∨ (¬ (off ≤ j ∧ j < off + n) ∧ rows[row][j]? = some y)) := by
        intro j y hj
        split at hj
        · rename_i hc
          have hjl := (List.getElem?_eq_some_iff.1 hj).1
          obtain ⟨rfl, rfl⟩ := hc
          exact ⟨by omega, .inl ⟨by omega, by omega, by simpa using hj⟩⟩
        · rw [hrow, Option.getD_some, setL_get _ _ _ (by omega)] at hj
          split at hj
          · rename_i hc
            exact ⟨by omega, .inl ⟨hc.1, by omega, hj⟩⟩
          · rename_i hc
            have hjl := (List.getElem?_eq_some_iff.1 hj).1
            exact ⟨by omega, .inr ⟨by omega, hj⟩⟩
      have hnl : (if off = 0 ∧ n = k then x.cellsV else setL (rows[row]?.getD []) off x.cellsV).length = k := by
        split
        · omega
        · rw [setL_len _ _ _ (by rw [hrow, Option.getD_some]; omega), hrow, Option.getD_some]; exact hrl
      generalize (if off = 0 ∧ n = k then x.cellsV else setL (rows[row]?.getD []) off x.cellsV) = nr at hnew hnl
      obtain ⟨hbl, hbF⟩ := hr.hr.free id b _ _ hE rfl hH rfl
      have hevo : Evo E F w E F (w.setRow b (setL cs.toList (row * k + off) v.cells.toList).toArray) (fun _ => True) :=
        ⟨fun _ h => h, fun c hc => heap_setRow_other w b c _ (fun e => hbF (e ▸ hc)), fun _ _ _ h => h, fun c n h => h.setRow hw (by rw [List.size_toArray, setL_len _ _ _ (by simp; omega), Array.length_toList])⟩
      refine ⟨rfl, by simp, fun i r hi => ?_, .inr ⟨b, _, tt, rfl, setRow_heap w b cs _ tt _ hw, ?_, fun i r j y hi hj => ?_⟩⟩
      · rw [List.getElem?_set] at hi
        split at hi
        · first | split at hi | skip
          · simp at hi; subst hi; exact hnl
          all_goals (cases hi)
        · exact h3 i r hi
      · rw [List.length_set, List.size_toArray, setL_len _ _ _ (by simp; omega), Array.length_toList]; exact hsz
      · simp only [List.getElem?_toArray, hget]
        rw [List.getElem?_set] at hi
        split at hi
        · rename_i hri
          subst hri
          first | rw [if_pos hm] at hi | skip
          simp only [Option.some.injEq] at hi
          subst hi
          obtain ⟨hjk, ⟨h5, h6, h7⟩ | ⟨h5, h6⟩⟩ := hnew j y hj
          · rw [if_pos (by omega)]
            obtain ⟨uu, hu1, hu2⟩ := hc2 _ _ h7
            have e : row * k + j - (row * k + off) = j - off := by omega
            rw [e]
            exact ⟨uu, hu1, hc3 _ (Array.mem_toList_iff.2 (Array.mem_of_getElem? hu1)), hu2.evo hevo (fun _ _ => trivial)⟩
          · rw [if_neg (by omega)]
            obtain ⟨uu, hu1, ho, hu2⟩ := hcell row _ j y hrow h6
            exact ⟨uu, hu1, ho, hu2.evo hevo (fun _ _ => trivial)⟩
        · rename_i hri
          have hil := (List.getElem?_eq_some_iff.1 hi).1
          have hj' : j < k := by
            have := (List.getElem?_eq_some_iff.1 hj).1
            have := h3 i r hi
            omega
          obtain ⟨uu, hu1, ho, hu2⟩ := hcell i r j y hi hj
          have hne : ¬ (row * k + off ≤ i * k + j ∧ i * k + j < row * k + off + n) := by
            rintro ⟨h5, h6⟩
            rcases Nat.lt_or_ge i row with hlt | hge
            · have := Nat.mul_le_mul_right k (show i + 1 ≤ row from hlt)
              rw [Nat.add_mul, Nat.one_mul] at this
              omega
            · have := Nat.mul_le_mul_right k (show row + 1 ≤ i by omega)
              rw [Nat.add_mul, Nat.one_mul] at this
              omega
          rw [if_neg hne]
          exact ⟨uu, hu1, ho, hu2.evo hevo (fun _ _ => trivial)⟩
    · cases h
  | _ => simp [storeQ] at h

/-- A variable with these cells is made. -/
theorem var_rel {B : Base} {s : St} {E : Env} {F : Nat → Prop} {w : World} (hr : Rel B s E F w) (t : TypeId) (cs : Array Value) (xs : List V) (hs : cs.size = xs.length)
    (hc : ∀ (j : Nat) (y : V), xs[j]? = some y → ∃ u, cs[j]? = some u ∧ VR E F w y u) :
    Evo E F w (E ++ [⟨some w.heap.size, xs.length, 1⟩]) F (w.alloc (.cells cs t)) (fun _ => True) ∧ Rel B { s with heap := s.heap ++ [.cells xs] } (E ++ [⟨some w.heap.size, xs.length, 1⟩]) F (w.alloc (.cells cs t)) ∧
      VR (E ++ [⟨some w.heap.size, xs.length, 1⟩]) F (w.alloc (.cells cs t)) (.ptr s.heap.length 0 0) (.pointer (some ⟨w.heap.size, 0, none⟩)) := by
  obtain ⟨h1, h2⟩ := alloc_rel hr (.cells cs t) (e := ⟨some w.heap.size, xs.length, 1⟩) (blk := .cells xs) rfl fun evo =>
    ⟨rfl, rfl, w.heap.size, cs, t, rfl, heap_alloc_new w _, hs, fun j y hj => let ⟨u, hu, hv⟩ := hc j y hj; ⟨u, hu, hv.evo evo (fun _ _ => trivial)⟩⟩
  refine ⟨h1, h2, ?_⟩
  have := VR.ptr (E := E ++ [⟨some w.heap.size, xs.length, 1⟩]) (F := F) (w := w.alloc (.cells cs t)) s.heap.length 0 0 w.heap.size xs.length 1 (by
    rw [← hr.hr.len, List.getElem?_append_right (Nat.le_refl _)]; simp) (by omega)
  simpa using this

theorem run_alloc_of {P : Program} {t : TypeId} {zs : List V} (h : kzero P t = some zs) (w : World) : ∃ z : Value, zs = z.cells.toList.map leafConst ∧
    (Instr.alloc t true (.tuple #[])).run P w = .ok (.pointer (some ⟨w.heap.size, 0, none⟩)) (w.alloc (.cells z.cells t)) := by
  obtain ⟨i, z, hi, hz, rfl⟩ := kzero_spec h
  exact ⟨z, rfl, by simp [Instr.alloc, zeroValue, typeInfo, hi, hz, newVar, newRow]⟩

theorem run_box_of {P : Program} (t : TypeId) (v : Value) (w : World) : (Instr.box t v).run P w = .ok (.pointer (some ⟨w.heap.size, 0, none⟩)) (w.alloc (.cells v.cells t)) := by
  simp [Instr.box, newVar, newRow]

end Go.Aw
