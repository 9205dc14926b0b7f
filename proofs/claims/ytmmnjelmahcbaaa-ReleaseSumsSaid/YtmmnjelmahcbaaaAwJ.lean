/-
  Operations that make memory: struct and slice literals, make. Over any program; no condition.
-/
import Derived.Test.YtmmnjelmahcbaaaAwI
import Derived.Laws.MakeOwn
namespace Go.Aw
set_option linter.unusedSimpArgs false
set_option linter.unusedVariables false
open Go.RowKit

/-- Where the parts of a struct or an array lie: offset, cells. -/
def kplace (P : Program) (t i : Nat) : Option (Nat × Nat) :=
  match P.underlying t with
  | some (.struct fs) => (fs[i]?).bind fun f => (P.info? f.type).map fun j => (f.offset, j.size)
  | some (.array _ e) => (P.info? e).map fun j => (i * j.size, j.size)
  | _ => none
/-- All fields are known types. -/
def kplaces (P : Program) (t : Nat) : Bool :=
  match P.underlying t with
  | some (.struct fs) => fs.toList.all fun f => (P.info? f.type).isSome
  | some (.array _ e) => (P.info? e).isSome
  | _ => false

/-- Parts go into cells. -/
def fillV (place : Nat → Option (Nat × Nat)) : List (Nat × V) → List V → Option (Prop × List V)
  | [], zs => some (True, zs)
  | (i, x) :: r, zs =>
    match place i with
    | some (o, n) =>
      match fillV place r (setL zs o x.cellsV) with
      | some (p, ys) => some ((x.flat = true ∧ x.cellsV.length = n ∧ o + n ≤ zs.length) ∧ p, ys)
      | none => none
    | none => none

/-- Cells that stand for abstract cells. -/
def CR (E : Env) (F : Nat → Prop) (w : World) (xs : List V) (cs : Array Value) : Prop :=
  cs.size = xs.length ∧ ∀ (j : Nat) (x : V) (v : Value), xs[j]? = some x → cs[j]? = some v → VR E F w x v

theorem foldl_set (off : Nat) : ∀ (l : List Value) (m : Nat) (cs : Array Value), off + m + l.length ≤ cs.size →
    ((l.zipIdx m).foldl (fun cs (p : Value × Nat) => cs.setIfInBounds (off + p.2) p.1) cs).toList = setL cs.toList (off + m) l
  | [], m, cs, h => by simp [setL]
  | v :: r, m, cs, h => by
    simp only [List.length_cons] at h
    have ih := foldl_set off r (m + 1) (cs.setIfInBounds (off + m) v) (by simp; omega)
    simp only [List.zipIdx_cons, List.foldl_cons]
    rw [ih]
    apply List.ext_getElem?
    intro k
    rw [setL_get _ _ _ (by simp; omega), setL_get _ _ _ (by simp; omega)]
    simp only [List.length_cons, Array.toList_setIfInBounds, List.getElem?_set, Array.length_toList]
    by_cases h1 : k = off + m
    · subst h1
      rw [if_neg (by omega), if_pos rfl, if_pos (by omega), if_pos (by omega)]
      simp
    · by_cases h2 : off + (m + 1) ≤ k ∧ k < off + (m + 1) + r.length
      · rw [if_pos h2, if_pos (by omega), show k - (off + m) = (k - (off + (m + 1))) + 1 by omega]
        simp
      · rw [if_neg h2, if_neg (by omega), if_neg (by omega)]

theorem fillV_sound {E : Env} {F : Nat → Prop} {w : World} {place : Nat → Option (Nat × Nat)} : ∀ (parts : List (Nat × V)) (vs : List (Nat × Value)) (zs ys : List V) (cs : Array Value) (p : Prop),
    fillV place parts zs = some (p, ys) → p → parts.length = vs.length → (∀ (j : Nat) (x : Nat × V) (v : Nat × Value), parts[j]? = some x → vs[j]? = some v → x.1 = v.1 ∧ VR E F w x.2 v.2) →
    CR E F w zs cs → ∃ cs', Instr.fill place cs vs = some cs' ∧ CR E F w ys cs'
  | [], [], zs, ys, cs, p, h, _, _, _, hc => by
    simp [fillV] at h
    obtain ⟨_, rfl⟩ := h
    exact ⟨cs, rfl, hc⟩
  | (i, x) :: r, [], zs, ys, cs, p, h, _, hl, _, hc => by simp at hl
  | [], v :: vs, zs, ys, cs, p, h, _, hl, _, hc => by simp at hl
  | (i, x) :: r, (i', v) :: vs, zs, ys, cs, p, h, hp, hl, hr, hc => by
    obtain ⟨hi, hx⟩ := hr 0 (i, x) (i', v) rfl rfl
    dsimp only at hi hx
    subst hi
    simp only [fillV] at h
    split at h
    · rename_i o n hpl
      split at h
      · rename_i q ys' hf
        simp only [Option.some.injEq, Prod.mk.injEq] at h
        obtain ⟨rfl, rfl⟩ := h
        obtain ⟨⟨h1, h2, h3⟩, hq⟩ := hp
        obtain ⟨c1, c2, c3⟩ := cellsV_sound hx h1
        obtain ⟨d1, d2⟩ := hc
        have hset := foldl_set o v.cells.toList 0 cs (by simp; omega)
        have hz : v.cells.zipIdx.foldl (fun cs (p : Value × Nat) => cs.setIfInBounds (o + p.2) p.1) cs = (setL cs.toList o v.cells.toList).toArray := by
          apply Array.ext'
          rw [← Array.foldl_toList]
          simpa [Array.toList_zipIdx] using hset
        obtain ⟨cs', e1, e2⟩ := fillV_sound r vs _ ys' (setL cs.toList o v.cells.toList).toArray q hf hq (by simpa using hl) (fun j x v hj hv => hr (j + 1) x v (by simpa using hj) (by simpa using hv)) (by
          refine ⟨by rw [List.size_toArray, setL_len _ _ _ (by simp; omega), setL_len _ _ _ (by omega)]; simpa using d1, fun j y u hy hu => ?_⟩
          rw [setL_get _ _ _ (by omega)] at hy
          rw [List.getElem?_toArray, setL_get _ _ _ (by simp; omega), Array.length_toList, c1] at hu
          split at hy
          · rename_i hc
            rw [if_pos hc] at hu
            obtain ⟨uu, hu1, hu2⟩ := c2 _ _ hy
            simp only [Array.getElem?_toList] at hu
            rw [hu1] at hu
            cases hu
            exact hu2
          · rename_i hc
            rw [if_neg hc] at hu
            exact d2 j y u hy (by simpa using hu))
        refine ⟨cs', ?_, e2⟩
        simp only [Instr.fill, hpl]
        rw [if_neg (by simp; omega), hz]
        exact e1
      · cases h
    · cases h

def buildQ (P : Program) (s : St) (t : TypeId) (parts : Array (Nat × Operand)) : Option (Prop × V) :=
  if kplaces P t then
    match kzero P t with
    | some zs => (fillV (kplace P t) (parts.toList.map fun p => (p.1, s.ev p.2)) zs).map fun r => (r.1, .agg r.2)
    | none => none
  else none

theorem fill_congr {p q : Nat → Option (Nat × Nat)} : ∀ (vs : List (Nat × Value)) (cs : Array Value), (∀ i, p i = q i) → Instr.fill p cs vs = Instr.fill q cs vs := by
  intro vs cs h
  have : p = q := funext h
  rw [this]

theorem mapM_places {P : Program} : ∀ (fs : List Field), (fs.all fun f => (P.info? f.type).isSome) = true →
    ∃ pl, fs.mapM (fun f => (P.info? f.type).map fun i => (f.offset, i.size)) = some pl ∧ ∀ i : Nat, pl[i]? = (fs[i]?).bind fun (f : Field) => (P.info? f.type).map fun j => (f.offset, j.size)
  | [], _ => ⟨[], by simp, by simp⟩
  | f :: fs, h => by
    simp only [List.all_cons, Bool.and_eq_true] at h
    obtain ⟨pl, h1, h2⟩ := mapM_places fs h.2
    obtain ⟨i, hi⟩ := Option.isSome_iff_exists.1 h.1
    refine ⟨(f.offset, i.size) :: pl, by simp [List.mapM_cons, hi, h1], fun j => ?_⟩
    cases j with
    | zero => simp [hi]
    | succ j => simpa using h2 j

theorem built_of {P : Program} {t : TypeId} {z : Value} {i : TypeInfo} (hk : kplaces P t = true) (hi : P.info? t = some i) (hz : i.zero = some z) (vs : List (Nat × Value)) :
    P.built t vs = Instr.fill (kplace P t) z.cells vs := by
  unfold kplaces at hk
  split at hk
  · rename_i fs hu
    obtain ⟨pl, h1, h2⟩ := mapM_places fs.toList hk
    simp only [Program.built, hi, hu, hz, h1]
    refine fill_congr vs _ fun j => ?_
    simp only [kplace, hu, List.getElem?_toArray, h2, Array.getElem?_toList]
  · rename_i n e hu
    obtain ⟨j, hj⟩ := Option.isSome_iff_exists.1 hk
    simp only [Program.built, hi, hu, hz, hj]
    exact fill_congr vs _ fun l => by simp [kplace, hu, hj]
  · cases hk

theorem buildQ_sound {P : Program} {B : Base} {s : St} {a : Act} {w : World} {E : Env} {F : Nat → Prop} {t : TypeId} {parts : Array (Nat × Operand)} {ob : Prop} {x : V}
    (h : buildQ P s t parts = some (ob, x)) (hob : ob) (hs : Sim B s a w E F) :
    ∃ v, VR E F w x v ∧ ∀ w', (Instr.build t (parts.map fun (p : Nat × Operand) => (p.1, a.eval p.2))).run P w' = .ok v w' := by
  unfold buildQ at h
  split at h
  · rename_i hk
    split at h
    · rename_i zs hz
      simp only [Option.map_eq_some_iff, Prod.exists, Prod.mk.injEq] at h
      obtain ⟨p, ys, hf, rfl, rfl⟩ := h
      obtain ⟨i, z, hi, hz', rfl⟩ := kzero_spec hz
      obtain ⟨cs', e1, e2⟩ := fillV_sound (E := E) (F := F) (w := w) _ (parts.toList.map fun p => (p.1, a.eval p.2)) _ ys z.cells p hf hob (by simp) (fun j x v hx hv => by
        simp only [List.getElem?_map, Option.map_eq_some_iff] at hx hv
        obtain ⟨q, hq, rfl⟩ := hx
        obtain ⟨q', hq', rfl⟩ := hv
        rw [hq] at hq'
        cases hq'
        exact ⟨rfl, ev_sound hs _⟩) ⟨by simp, fun j x v hx hv => by
          obtain ⟨u, hu, hr⟩ := zero_get (E := E) (F := F) (w := w) z j x hx
          rw [hu] at hv
          cases hv
          exact hr⟩
      refine ⟨.agg cs', .agg _ _ e2.1 e2.2, fun w' => run_build w' t _ cs' ?_⟩
      rw [built_of hk hi hz']
      simpa using e1
    · cases h
  · cases h

/-- The rows that slice literals' parts are: numbers 0, 1, .. in order. -/
def partRows : List (Nat × V) → Nat → Option (List (List D))
  | [], _ => some []
  | (i, x) :: r, m => if i = m then match dOfs x.cellsV, partRows r (m + 1) with
      | some ds, some rs => some (ds :: rs)
      | _, _ => none
    else none

def partsOk (n : Nat) : List (Nat × V) → Prop
  | [] => True
  | (_, x) :: r => (x.flat = true ∧ x.cellsV.length = n ∧ ((dOfs x.cellsV).getD []).all D.leaf = true) ∧ partsOk n r

def stripsOk (s : St) : List (Nat × Operand) → Prop
  | [] => True
  | p :: r => (s.ev p.2).strip.1 ∧ stripsOk s r
theorem stripsOk_at {s : St} : ∀ {l : List (Nat × Operand)} {q : Nat × Operand}, stripsOk s l → q ∈ l → (s.ev q.2).strip.1
  | p :: r, q, h, hq => by
    rcases List.mem_cons.1 hq with rfl | hq
    · exact h.1
    · exact stripsOk_at h.2 hq

/-- A slice literal, all of whose elements are given: what it asks, its elements. -/
def sliceLitQ (P : Program) (s : St) (t : TypeId) (n : Nat) (parts : Array (Nat × Operand)) : Option (Prop × Nat × List (List D)) :=
  match kel P t with
  | some (none, k, u) =>
    match kzero P u, partRows (parts.toList.map fun p => (p.1, (s.ev p.2).strip.2)) 0 with
    | some zs, some rows => if rows.length = n then some (zs.length = k ∧ n * k ≤ 16777216 ∧ stripsOk s parts.toList ∧ partsOk k (parts.toList.map fun p => (p.1, (s.ev p.2).strip.2)), k, rows) else none
    | _, _ => none
  | _ => none

/-- The cells of rows, one behind the other. -/
theorem lit_fill {E : Env} {F : Nat → Prop} {w : World} (k N : Nat) : ∀ (parts : List (Nat × V)) (vs : List (Nat × Value)) (m : Nat) (rows : List (List D)) (cs : Array Value),
    partRows parts m = some rows → partsOk k parts → parts.length = vs.length → (∀ (j : Nat) (x : Nat × V) (v : Nat × Value), parts[j]? = some x → vs[j]? = some v → x.1 = v.1 ∧ VR E F w x.2 v.2) →
    (m + rows.length) * k ≤ cs.size → ∃ cs', Instr.fill (fun i => some (i * k, k)) cs vs = some cs' ∧ cs'.size = cs.size ∧ (∀ j, j < m * k → cs'[j]? = cs[j]?) ∧
      (∀ (i : Nat) (row : List D), rows[i]? = some row → row.length = k ∧ row.all D.leaf = true) ∧
      ∀ (i : Nat) (row : List D) (j : Nat) (x : D), rows[i]? = some row → row[j]? = some x → ∃ v, cs'[(m + i) * k + j]? = some v ∧ RD F w x v
  | [], [], m, rows, cs, h, _, _, _, _ => by
    simp [partRows] at h
    subst h
    exact ⟨cs, rfl, rfl, fun _ _ => rfl, by simp, by simp⟩
  | (i, x) :: r, [], m, rows, cs, h, _, hl, _, _ => by simp at hl
  | [], v :: vs, m, rows, cs, h, _, hl, _, _ => by simp at hl
  | (i, x) :: r, (i', v) :: vs, m, rows, cs, h, hp, hl, hr, hsz => by
    obtain ⟨hi, hx⟩ := hr 0 (i, x) (i', v) rfl rfl
    dsimp only at hi hx
    subst hi
    simp only [partRows] at h
    split at h
    · rename_i him
      subst him
      split at h
      · rename_i ds rs hds hrs
        simp only [Option.some.injEq] at h
        subst h
        obtain ⟨⟨h1, h2, h3⟩, hp'⟩ := hp
        rw [hds, Option.getD_some] at h3
        obtain ⟨c1, c2, c3⟩ := cellsV_sound hx h1
        obtain ⟨q1, q2⟩ := dOfs_get hds
        simp only [List.length_cons] at hsz
        have hb : i * k + k ≤ cs.size := by
          have : (i + 1) * k ≤ (i + (rs.length + 1)) * k := Nat.mul_le_mul_right _ (by omega)
          rw [Nat.add_mul, Nat.one_mul] at this
          omega
        have hset := foldl_set (i * k) v.cells.toList 0 cs (by simp; omega)
        have hz : v.cells.zipIdx.foldl (fun cs (p : Value × Nat) => cs.setIfInBounds (i * k + p.2) p.1) cs = (setL cs.toList (i * k) v.cells.toList).toArray := by
          apply Array.ext'
          rw [← Array.foldl_toList]
          simpa [Array.toList_zipIdx] using hset
        have hss : (setL cs.toList (i * k) v.cells.toList).toArray.size = cs.size := by
          rw [List.size_toArray, setL_len _ _ _ (by simp; omega), Array.length_toList]
        obtain ⟨cs', e1, e2, e3, e4, e5⟩ := lit_fill k N r vs (i + 1) rs (setL cs.toList (i * k) v.cells.toList).toArray hrs hp' (by simpa using hl) (fun j x v hj hv => hr (j + 1) x v (by simpa using hj) (by simpa using hv)) (by
          rw [hss]
          rwa [show i + 1 + rs.length = i + (rs.length + 1) by omega])
        rw [hss] at e2
        refine ⟨cs', ?_, e2, fun j hj => ?_, fun l row hl => ?_, fun l row j y hl hy => ?_⟩
        · simp only [Instr.fill]
          rw [if_neg (by simp; omega), hz]
          exact e1
        · rw [e3 j (by rw [Nat.add_mul]; omega), List.getElem?_toArray, setL_get _ _ _ (by simp; omega), if_neg (by omega)]
          simp
        · cases l with
          | zero => simp at hl; subst hl; exact ⟨by omega, h3⟩
          | succ l => exact e4 l row (by simpa using hl)
        · cases l with
          | zero =>
            simp at hl
            subst hl
            have hjk := (List.getElem?_eq_some_iff.1 hy).1
            obtain ⟨yy, hy1, hy2⟩ := q2 j y hy
            obtain ⟨u, hu1, hu2⟩ := c2 j yy hy1
            refine ⟨u, ?_, dOf_sound hy2 hu2⟩
            rw [Nat.add_zero, e3 _ (by rw [Nat.add_mul]; omega), List.getElem?_toArray, setL_get _ _ _ (by simp; omega), if_pos (by simp; omega)]
            simpa using hu1
          | succ l =>
            obtain ⟨u, hu, hrd⟩ := e5 l row j y (by simpa using hl) hy
            exact ⟨u, by rwa [show i + (l + 1) = i + 1 + l by omega], hrd⟩
      · cases h
    · cases h

/-- A row of memory is made. -/
theorem row_rel {B : Base} {s : St} {E : Env} {F : Nat → Prop} {w : World} (hr : Rel B s E F w) (t : TypeId) (cs : Array Value) (k cap : Nat) (rows : List (List D))
    (hk : ∀ (i : Nat) (row : List D), rows[i]? = some row → row.length = k ∧ row.all D.leaf = true) (hcap : rows.length ≤ cap) (hs : cap * k ≤ cs.size)
    (hc : ∀ (i : Nat) (row : List D) (j : Nat) (x : D), rows[i]? = some row → row[j]? = some x → ∃ v, cs[i * k + j]? = some v ∧ RD F w x v) :
    Evo E F w (E ++ [⟨some w.heap.size, k, rows.length⟩]) F (w.alloc (.cells cs t)) (fun _ => True) ∧
    Rel B { s with heap := s.heap ++ [.data k rows] } (E ++ [⟨some w.heap.size, k, rows.length⟩]) F (w.alloc (.cells cs t)) ∧
      VR (E ++ [⟨some w.heap.size, k, rows.length⟩]) F (w.alloc (.cells cs t)) (.ref s.heap.length 0 rows.length) (.slice (some ⟨w.heap.size, 0, none⟩) rows.length cap) := by
  have hkl : rows.length * k ≤ cs.size := Nat.le_trans (Nat.mul_le_mul_right _ hcap) hs
  obtain ⟨h1, h2⟩ := alloc_rel hr (.cells cs t) (e := ⟨some w.heap.size, k, rows.length⟩) (blk := .data k rows) rfl fun evo =>
    ⟨rfl, rfl, hk, .inr ⟨w.heap.size, cs, t, rfl, heap_alloc_new w _, hkl, fun i row j x hi hj => let ⟨v, hv, hd⟩ := hc i row j x hi hj; ⟨v, hv, hd.evo evo.up evo.same⟩⟩⟩
  refine ⟨h1, h2, ?_⟩
  exact VR.ref (E := E ++ [⟨some w.heap.size, k, rows.length⟩]) (F := F) (w := w.alloc (.cells cs t)) s.heap.length 0 rows.length w.heap.size k rows.length (some ⟨w.heap.size, 0, none⟩) cap cs.size (by
    rw [← hr.hr.len, List.getElem?_append_right (Nat.le_refl _)]; simp) (by omega) (fun _ => by simp) hcap ⟨cs, t, heap_alloc_new w _, rfl⟩ (by simpa using hs)

theorem sliceLit_sound {P : Program} {B : Base} {s : St} {a : Act} {w : World} {E : Env} {F : Nat → Prop} {t : TypeId} {n k : Nat} {parts : Array (Nat × Operand)} {ob : Prop} {rows : List (List D)}
    (h : sliceLitQ P s t n parts = some (ob, k, rows)) (hob : ob) (hs : Sim B s a w E F) :
    ∃ v w', (Instr.buildSlice t n (parts.map fun (p : Nat × Operand) => (p.1, a.eval p.2))).run P w = .ok v w' ∧ Keep w w' ∧
      ∃ E', Evo E F w E' F w' (fun _ => True) ∧ Rel B { s with heap := s.heap ++ [.data k rows] } E' F w' ∧ VR E' F w' (.ref s.heap.length 0 n) v := by
  unfold sliceLitQ at h
  split at h
  · rename_i k' u hk
    split at h
    · rename_i zs rows' hz hrows
      split at h
      · rename_i hn
        simp only [Option.some.injEq, Prod.mk.injEq] at h
        obtain ⟨rfl, rfl, rfl⟩ := h
        obtain ⟨hzl, hmax, hst, hok⟩ := hob
        obtain ⟨j, hu, hj, rfl⟩ := kel_slice hk
        obtain ⟨i, z, hi, hz', rfl⟩ := kzero_spec hz
        rw [hj] at hi
        cases hi
        have hzs : z.cells.size = j.size := by simpa using hzl
        obtain ⟨cs', e1, e2, _, e4, e5⟩ := lit_fill (E := E) (F := F) (w := w) j.size n _ (parts.toList.map fun p => (p.1, a.eval p.2)) 0 rows'
          ((Array.range (n * j.size)).map (z.cells[· % z.cells.size]!)) hrows hok (by simp) (fun j x v hx hv => by
          simp only [List.getElem?_map, Option.map_eq_some_iff] at hx hv
          obtain ⟨q, hq, rfl⟩ := hx
          obtain ⟨q', hq', rfl⟩ := hv
          rw [hq] at hq'
          cases hq'
          exact ⟨rfl, V.strip_sound (ev_sound hs _) (stripsOk_at hst (List.mem_of_getElem? hq))⟩) (by simp [hn])
        have hcs : cs'.size = n * j.size := by simpa using e2
        obtain ⟨h1, h2, h3⟩ := row_rel hs.rel u cs' j.size n rows' e4 (by omega) (by omega) (by simpa using e5)
        rw [hn] at h1 h2 h3
        refine ⟨_, _, ?_, fun b hb => Below.heap_alloc w _ b hb, _, h1, h2, h3⟩
        by_cases h0 : n * j.size = 0
        · have hcs0 : cs' = #[] := Array.eq_empty_of_size_eq_zero (by omega)
          simp only [h0, Array.range_zero', Array.map_empty] at e1
          simp [Instr.buildSlice, run_underlying hu, sizeOf, typeInfo, hj, zeroValue, hz', h0, show Array.range 0 = #[] from rfl, e1, newRow]
        · have hmx : ¬ (2 ^ 24 < n * j.size) := by omega
          simp only [Instr.buildSlice, Sem.run_bind, run_underlying hu, Result.andThen_ok, sizeOf, typeInfo, run_program, hj, Sem.run_pure, gt_iff_lt, if_neg hmx, if_neg h0, zeroValue, hz']
          simp only [Array.toList_map, e1]
          simp [newRow]
      · cases h
    · cases h
  · cases h

def kbytes (P : Program) (t : TypeId) : Option Nat := (P.info? t).map (·.bytes)

/-- make([]T, n): what it asks, an element's cells, its zero. -/
def makeQ (P : Program) (t : TypeId) (n c : Int) : Option (Prop × Nat × List D) :=
  match kel P t with
  | some (none, k, u) =>
    match kzero P u, kbytes P u with
    | some zs, some by_ =>
      match dOfs zs with
      | some ds => some (0 ≤ n ∧ n ≤ c ∧ ds.length = k ∧ ds.all D.leaf = true ∧ by_ ≤ 1048576 ∧ c ≤ 268435456, k, ds)
      | none => none
    | _, _ => none
  | _ => none

theorem make_sound {P : Program} {B : Base} {s : St} {a : Act} {w : World} {E : Env} {F : Nat → Prop} {t : TypeId} {n c : Int} {k : Nat} {ob : Prop} {ds : List D} (k1 k2 : IntKind)
    (h : makeQ P t n c = some (ob, k, ds)) (hob : ob) (hs : Sim B s a w E F) :
    ∃ v w', (Instr.makeSlice t (.int k1 n) (.int k2 c)).run P w = .ok v w' ∧ Keep w w' ∧
      ∃ E', Evo E F w E' F w' (fun _ => True) ∧ Rel B { s with heap := s.heap ++ [.data k (List.replicate n.toNat ds)] } E' F w' ∧ VR E' F w' (.ref s.heap.length 0 n.toNat) v := by
  unfold makeQ at h
  split at h
  · rename_i k' u hk
    split at h
    · rename_i zs by_ hz hby
      split at h
      · rename_i ds' hds
        simp only [Option.some.injEq, Prod.mk.injEq] at h
        obtain ⟨rfl, rfl, rfl⟩ := h
        obtain ⟨h0, hnc, hl, hleaf, hb, hc⟩ := hob
        obtain ⟨j, hu, hj, rfl⟩ := kel_slice hk
        obtain ⟨i, z, hi, hz', rfl⟩ := kzero_spec hz
        rw [hj] at hi
        cases hi
        simp [kbytes, hj] at hby
        subst hby
        have hbc : (j.bytes : Int) * c ≤ 281474976710656 := by
          have h1 : (j.bytes : Int) * c ≤ 1048576 * 268435456 := Int.mul_le_mul (by omega) hc (by omega) (by omega)
          omega
        have hrun := run_make (P := P) w t u j z hu hj hz' k1 k2 n c h0 hnc hbc (by omega)
        obtain ⟨q1, q2⟩ := dOfs_get hds
        have hzc : z.cells.size = j.size := by simp at q1; omega
        obtain ⟨h1, h2, h3⟩ := row_rel hs.rel u (madeCells z.cells (c.toNat * j.size)) j.size c.toNat (List.replicate n.toNat ds')
          (fun i row hi => by
            rw [List.getElem?_replicate] at hi
            split at hi
            · simp at hi; subst hi; exact ⟨hl, hleaf⟩
            · cases hi) (by simp; omega) (by simp [size_madeCells]) (fun i row jj x hi hx => by
            rw [List.getElem?_replicate] at hi
            split at hi
            · rename_i hin
              simp at hi
              subst hi
              have hjj := (List.getElem?_eq_some_iff.1 hx).1
              obtain ⟨y, hy1, hy2⟩ := q2 jj x hx
              obtain ⟨v, hv, hvr⟩ := zero_get (E := E) (F := F) (w := w) z jj y hy1
              refine ⟨v, ?_, dOf_sound hy2 hvr⟩
              have hb := lt_mul_of (n := c.toNat) (m := 1) (k := j.size) (off := jj) (row := i) (by omega) (by omega)
              have hm : (i * j.size + jj) % z.cells.size = jj := by rw [hzc, Nat.mul_comm, Nat.mul_add_mod]; exact Nat.mod_eq_of_lt (by omega)
              simp only [madeCells, Array.getElem?_map, Array.getElem?_range]
              rw [if_pos (by omega)]
              have hlt : jj < z.cells.size := by omega
              simp only [Option.map_some, hm]
              rw [getElem!_pos z.cells jj hlt]
              rw [Array.getElem?_eq_getElem hlt] at hv
              exact hv
            · cases hi)
        simp only [List.length_replicate] at h1 h2 h3
        exact ⟨_, _, hrun, fun b hb => Below.heap_alloc w _ b hb, _, h1, h2, h3⟩
      · cases h
    · cases h
  · cases h

end Go.Aw
