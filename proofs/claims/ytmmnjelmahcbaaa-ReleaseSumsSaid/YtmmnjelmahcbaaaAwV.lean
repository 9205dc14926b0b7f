/-
  append onto rows of values: onto nothing, onto a row of the walk's own; literals that hold values. Over any program; no condition.
-/
import Derived.Test.YtmmnjelmahcbaaaAwL
namespace Go.Aw
set_option linter.unusedSimpArgs false
set_option linter.unusedVariables false
open Go.RowKit

/-- The elements that are appended, as values. -/
def srcV (H : List Blk) (k : Nat) (x : V) : Option (Prop × List (List V)) :=
  match srcQ H k x with
  | some r => some (r.1, r.2.map fun d => d.map .d)
  | none =>
    match x with
    | .ref id off len =>
      match H[id]? with
      | some (.vrs k' rs) => some (k' = k, (rs.drop off).take len)
      | _ => none
    | _ => none

structure SrcV (P : Program) (E : Env) (F : Nat → Prop) (w : World) (k : Nat) (ys : List (List V)) (v : Value) (cs : List Value) : Prop where
  size : cs.length = ys.length * k
  len : ∀ w', (Builtin.lenOf v).run P w' = .ok ys.length w'
  row : ∀ (i : Nat) (row : List V), ys[i]? = some row → row.length = k
  cell : ∀ (i : Nat) (row : List V) (j : Nat) (x : V), ys[i]? = some row → row[j]? = some x → ∃ u, cs[i * k + j]? = some u ∧ u.oneCell' = true ∧ VR E F w x u
  run : ∀ w', Keep w w' → (Builtin.firstCells k ys.length v).run P w' = .ok cs.toArray w'

theorem SrcV.one {P : Program} {E : Env} {F : Nat → Prop} {w : World} {k : Nat} {ys : List (List V)} {v : Value} {cs : List Value} (h : SrcV P E F w k ys v cs) : ∀ u ∈ cs, u.oneCell' = true := by
  intro u hu
  obtain ⟨j, hj, rfl⟩ := List.getElem_of_mem hu
  have hs := h.size
  by_cases hk : k = 0
  · subst hk; simp at hs; subst hs; simp at hj
  have hd : j / k < ys.length := (Nat.div_lt_iff_lt_mul (by omega)).2 (by omega)
  have hm : j % k < k := Nat.mod_lt _ (by omega)
  have hrow : ys[j / k]? = some ys[j / k] := List.getElem?_eq_getElem hd
  have hl := h.row _ _ hrow
  have hx : ys[j / k][j % k]? = some (ys[j / k][j % k]'(by omega)) := List.getElem?_eq_getElem _
  obtain ⟨u, hu', ho, hr⟩ := h.cell _ _ _ _ hrow hx
  have e : j / k * k + j % k = j := by rw [Nat.mul_comm]; exact Nat.div_add_mod j k
  rw [e, List.getElem?_eq_getElem hj] at hu'
  cases hu'
  exact ho

theorem Src.toV {P : Program} {E : Env} {F : Nat → Prop} {w : World} {k : Nat} {ys : List (List D)} {v : Value} {cs : List Value} (h : Src P F w k ys v cs) : SrcV P E F w k (ys.map fun d => d.map .d) v cs := by
  refine ⟨by simpa using h.size, by simpa using h.len, fun i row hi => ?_, fun i row j x hi hj => ?_, by simpa using h.run⟩
  · simp only [List.getElem?_map, Option.map_eq_some_iff] at hi
    obtain ⟨r, hr, rfl⟩ := hi
    simpa using (h.row i r hr).1
  · simp only [List.getElem?_map, Option.map_eq_some_iff] at hi
    obtain ⟨r, hr, rfl⟩ := hi
    simp only [List.getElem?_map, Option.map_eq_some_iff] at hj
    obtain ⟨y, hy, rfl⟩ := hj
    obtain ⟨u, hu, hd⟩ := h.cell i r j y hr hy
    exact ⟨u, hu, hd.one (List.all_eq_true.1 (h.row i r hr).2 _ (List.mem_of_getElem? hy)), .d _ _ hd⟩

theorem srcV_sound {P : Program} {E : Env} {F : Nat → Prop} {w : World} {H : List Blk} {k : Nat} {x : V} {ob : Prop} {ys : List (List V)} {v : Value} (h : srcV H k x = some (ob, ys)) (hob : ob)
    (hr : HR E F w H) (hlt : ∀ b, F b → b < w.heap.size) (hx : VR E F w x v) : ∃ cs, SrcV P E F w k ys v cs := by
  unfold srcV at h
  split at h
  · rename_i r hq
    simp only [Option.some.injEq, Prod.mk.injEq] at h
    obtain ⟨rfl, rfl⟩ := h
    obtain ⟨cs, hc⟩ := srcQ_sound (P := P) hq hob hr hlt hx
    exact ⟨cs, hc.toV⟩
  · rename_i hnone
    clear hnone
    split at h
    · rename_i id off len
      split at h
      · rename_i k2 rows hH
        simp only [Option.some.injEq, Prod.mk.injEq] at h
        obtain ⟨rfl, rfl⟩ := h
        subst hob
        cases hx with
        | ref _ _ _ b k' m a cap n hE hm ha hl hb hc =>
          obtain ⟨h1, h2, h3, h4⟩ := hr.blk _ _ _ hE hH
          dsimp only at h1 h2
          subst h1 h2
          rcases h4 with ⟨h4, _⟩ | ⟨b', cs, t, h4, hw, hsz, hcell⟩
          · cases h4
          simp only [Option.some.injEq] at h4
          subst h4
          have hlen : ((rows.drop off).take len).length = len := by rw [List.length_take, List.length_drop]; omega
          by_cases h0 : len = 0
          · subst h0
            rw [List.take_zero]
            exact ⟨[], (src_nil (P := P) (F := F) (w := w) k' a cap).toV⟩
          have haa := ha (.inl (by omega))
          subst haa
          have hoff : (off + len) * k' ≤ cs.size := Nat.le_trans (Nat.mul_le_mul_right _ hm) hsz
          have hget : ∀ (j : Nat) (row : List V), ((rows.drop off).take len)[j]? = some row → j < len ∧ rows[off + j]? = some row := fun j row hj => by
            rw [List.getElem?_take] at hj
            split at hj
            · rw [List.getElem?_drop] at hj; exact ⟨by assumption, hj⟩
            · cases hj
          have hcl : ((cs.toList.drop (off * k')).take (len * k')).length = len * k' := by
            rw [Nat.add_mul] at hoff
            simp; omega
          refine ⟨(cs.toList.drop (off * k')).take (len * k'), by rw [hcl, hlen], fun w' => by simp [Builtin.lenOf, hlen], fun i row hi => h3 _ _ (hget i row hi).2, fun i row j x hi hj => ?_, fun w' hk' => ?_⟩
          · obtain ⟨hil, hi'⟩ := hget i row hi
            obtain ⟨u, hu, ho, hrd⟩ := hcell _ _ j x hi' hj
            have hjk := (List.getElem?_eq_some_iff.1 hj).1
            have := h3 _ _ hi'
            have hlm := lt_mul_of (n := len) (m := 1) (k := k') (off := j) (row := i) hil (by omega)
            refine ⟨u, ?_, ho, hrd⟩
            rw [slice_get (by omega), show off * k' + (i * k' + j) = (off + i) * k' + j by rw [Nat.add_mul]; omega]
            exact hu
          · rw [hlen]
            have := run_loadCells_list (P := P) w' ⟨b, off * k', none⟩ ((cs.toList.drop (off * k')).take (len * k')) (fun j u hj => by
              rcases Nat.lt_or_ge j (len * k') with hjl | hjl
              · rw [slice_get hjl] at hj
                rw [Addr.add_mid, cell_keep hk' hw]
                exact hj
              · rw [List.getElem?_take_eq_none hjl] at hj; cases hj)
            rw [hcl] at this
            simp [Builtin.firstCells, this]
        | refv _ k' m a hE =>
          rw [List.take_zero]
          exact ⟨[], (src_nil (P := P) (F := F) (w := w) k2 a 0).toV⟩
      · cases h
    · cases h

/-- A row of memory is made, of values. -/
theorem row_relV {B : Base} {s : St} {E : Env} {F : Nat → Prop} {w : World} (hr : Rel B s E F w) (t : TypeId) (cs : Array Value) (k cap : Nat) (rows : List (List V))
    (hk : ∀ (i : Nat) (row : List V), rows[i]? = some row → row.length = k) (hcap : rows.length ≤ cap) (hs : cap * k ≤ cs.size)
    (hc : ∀ (i : Nat) (row : List V) (j : Nat) (x : V), rows[i]? = some row → row[j]? = some x → ∃ v, cs[i * k + j]? = some v ∧ v.oneCell' = true ∧ VR E F w x v) :
    Evo E F w (E ++ [⟨some w.heap.size, k, rows.length⟩]) F (w.alloc (.cells cs t)) (fun _ => True) ∧
    Rel B { s with heap := s.heap ++ [.vrs k rows] } (E ++ [⟨some w.heap.size, k, rows.length⟩]) F (w.alloc (.cells cs t)) ∧
      VR (E ++ [⟨some w.heap.size, k, rows.length⟩]) F (w.alloc (.cells cs t)) (.ref s.heap.length 0 rows.length) (.slice (some ⟨w.heap.size, 0, none⟩) rows.length cap) := by
  have hkl : rows.length * k ≤ cs.size := Nat.le_trans (Nat.mul_le_mul_right _ hcap) hs
  obtain ⟨h1, h2⟩ := alloc_rel hr (.cells cs t) (e := ⟨some w.heap.size, k, rows.length⟩) (blk := .vrs k rows) rfl fun evo =>
    ⟨rfl, rfl, hk, .inr ⟨w.heap.size, cs, t, rfl, heap_alloc_new w _, hkl, fun i row j x hi hj => let ⟨v, hv, ho, hd⟩ := hc i row j x hi hj; ⟨v, hv, ho, hd.evo evo (fun _ _ => trivial)⟩⟩⟩
  refine ⟨h1, h2, ?_⟩
  exact VR.ref (E := E ++ [⟨some w.heap.size, k, rows.length⟩]) (F := F) (w := w.alloc (.cells cs t)) s.heap.length 0 rows.length w.heap.size k rows.length (some ⟨w.heap.size, 0, none⟩) cap cs.size (by
    rw [← hr.hr.len, List.getElem?_append_right (Nat.le_refl _)]; simp) (by omega) (fun _ => by simp) hcap ⟨cs, t, heap_alloc_new w _, rfl⟩ (by simpa using hs)

/-- An own block of data, told as one of values. -/
theorem toV_rel {B : Base} {s : St} {E : Env} {F : Nat → Prop} {w : World} (hr : Rel B s E F w) {i k : Nat} {rows : List (List D)} (hb : s.heap[i]? = some (.data k rows)) :
    Rel B { s with heap := s.heap.set i (.vrs k (rows.map fun r => r.map .d)) } E F w := by
  have hget : ∀ (j : Nat) (bj : Blk), (s.heap.set i (.vrs k (rows.map fun r => r.map .d)))[j]? = some bj → (j = i ∧ bj = .vrs k (rows.map fun r => r.map .d)) ∨ (j ≠ i ∧ s.heap[j]? = some bj) := fun j bj hj => by
    rw [List.getElem?_set] at hj
    split at hj
    · split at hj
      · simp at hj; exact .inl ⟨(by assumption : i = j).symm, hj.symm⟩
      · cases hj
    · exact .inr ⟨Ne.symm (by assumption), hj⟩
  have hl : ∀ (j : Nat) (bj : Blk), (s.heap.set i (.vrs k (rows.map fun r => r.map .d)))[j]? = some bj → bj.live = true → ∃ b0, s.heap[j]? = some b0 ∧ b0.live = true := fun j bj hj hlj => by
    rcases hget j bj hj with ⟨rfl, rfl⟩ | ⟨hji, hj⟩
    · exact ⟨_, hb, rfl⟩
    · exact ⟨bj, hj, hlj⟩
  refine ⟨hr.os, hr.tape, hr.output, hr.size, hr.F0, hr.only, hr.same, hr.lt, ⟨by simpa using hr.hr.len, ?_, ?_, ?_⟩, ?_, hr.keep, hr.sz⟩
  · intro j e b h1 h2
    rcases hget j b h2 with ⟨rfl, rfl⟩ | ⟨_, h2⟩
    · obtain ⟨q1, q2, q3, q4⟩ := hr.hr.blk _ _ _ h1 hb
      refine ⟨q1, by simpa using q2, fun l row hl => ?_, q4.imp (fun ⟨z1, z2⟩ => ⟨z1, by simp [z2]⟩) ?_⟩
      · simp only [List.getElem?_map, Option.map_eq_some_iff] at hl
        obtain ⟨r, hr, rfl⟩ := hl
        simpa using (q3 l r hr).1
      · rintro ⟨b, cs, t, z1, z2, z3, z4⟩
        refine ⟨b, cs, t, z1, z2, by simpa using z3, fun l row j x hl hj => ?_⟩
        simp only [List.getElem?_map, Option.map_eq_some_iff] at hl
        obtain ⟨r, hr, rfl⟩ := hl
        simp only [List.getElem?_map, Option.map_eq_some_iff] at hj
        obtain ⟨y, hy, rfl⟩ := hj
        obtain ⟨v, hv, hd⟩ := z4 l r j y hr hy
        exact ⟨v, hv, hd.one (List.all_eq_true.1 (q3 l r hr).2 _ (List.mem_of_getElem? hy)), .d _ _ hd⟩
    · exact hr.hr.blk j e b h1 h2
  · intro j b e bj h1 h2 h3 h4
    obtain ⟨b0, h0, hl0⟩ := hl j bj h3 h4
    exact hr.hr.free j b e b0 h1 h2 h0 hl0
  · intro j l c ej el bj bl h1 h2 h3 h4 h5 h6 h7 h8
    obtain ⟨b0, h0, hl0⟩ := hl j bj h5 h7
    obtain ⟨b1, h1', hl1⟩ := hl l bl h6 h8
    exact hr.hr.inj j l c ej el b0 b1 h1 h2 h3 h4 h0 h1' hl0 hl1
  · intro j b e bj h1 h2 h3 h4
    obtain ⟨b0, h0, hl0⟩ := hl j bj h2 h3
    exact hr.src j b e b0 h1 h0 hl0 h4

/-- A new own block without memory, of values. -/
theorem virt_relV {B : Base} {s : St} {E : Env} {F : Nat → Prop} {w : World} (hr : Rel B s E F w) (k : Nat) :
    Evo E F w (E ++ [⟨none, k, 0⟩]) F w (fun _ => True) ∧ Rel B { s with heap := s.heap ++ [.vrs k []] } (E ++ [⟨none, k, 0⟩]) F w := by
  obtain ⟨h1, h2⟩ := virt_rel hr k
  refine ⟨h1, ?_⟩
  have := toV_rel h2 (i := s.heap.length) (k := k) (rows := []) (by simp)
  simpa using this

/-- append(dst, src...) of values: what it asks, what it yields, the state behind it. -/
def appV (P : Program) (kp : List Nat) (s : St) (t t2 : TypeId) (dst src : V) : Option (Prop × V × St) :=
  match kel P t with
  | some (none, k, u) =>
    match kbytes P u, kzero P u, srcV s.heap k src with
    | some by_, some zs, some (ob, ys) =>
      match dst with
      | .nil => some ((kseq P t2 = true ∧ zs.length = k ∧ ys.length * by_ ≤ 140737488355328 ∧ ys.length ≤ 9223372036854775807) ∧ ob, .ref s.heap.length 0 ys.length, { s with heap := s.heap ++ [.vrs k ys] })
      | .ref id off len =>
        match s.heap[id]? with
        | some (.vrs k' rows) => some ((kseq P t2 = true ∧ zs.length = k ∧ k = k' ∧ off = 0 ∧ id ∉ kp ∧ (len + ys.length) * by_ ≤ 140737488355328 ∧ len + ys.length ≤ 9223372036854775807) ∧ ob, .ref id 0 (len + ys.length),
            { tm := tmScr id s.tm, heap := (heapScr id s.heap).set id (.vrs k ((rows.take len ++ ys).map fun r => r.map (scr id))) })
        | _ => none
      | _ => none
    | _, _, _ => none
  | _ => none

theorem appV_sound {P : Program} {B : Base} {s s' : St} {a : Act} {w : World} {E : Env} {F : Nat → Prop} {t t2 ty : TypeId} {dst src x : V} {ob : Prop} {v u : Value}
    (h : appV P B.keep s t t2 dst src = some (ob, x, s')) (hob : ob) (hs : Sim B s a w E F) (hd : VR E F w dst v) (hsr : VR E F w src u) :
    ∃ r w' E', (Builtin.append_ #[t, t2] ty #[v, u]).run P w = .ok r w' ∧ Sim B s' a w' E' F ∧ VR E' F w' x r := by
  unfold appV at h
  split at h
  · rename_i k e hk
    obtain ⟨i, ht, hi, rfl⟩ := kel_slice hk
    split at h
    · rename_i by_ zs ob' ys hby hz hsrc
      simp [kbytes, hi] at hby
      subst hby
      obtain ⟨i', z, hi', hz', rfl⟩ := kzero_spec hz
      rw [hi] at hi'
      cases hi'
      split at h
      · -- onto nothing
        simp only [Option.some.injEq, Prod.mk.injEq] at h
        obtain ⟨rfl, rfl, rfl⟩ := h
        obtain ⟨⟨h2, hzl, hb, h63⟩, hob⟩ := hob
        obtain ⟨cs, hc⟩ := srcV_sound (P := P) hsrc hob hs.rel.hr hs.rel.lt hsr
        cases hd with
        | nil ad =>
          by_cases h0 : ys.length = 0
          · obtain rfl := List.length_eq_zero_iff.1 h0
            have hcs : cs = [] := List.length_eq_zero_iff.1 (by simpa using hc.size)
            subst hcs
            obtain ⟨e1, e2⟩ := virt_relV hs.rel i.size
            refine ⟨_, w, _, run_append_in (ty := ty) ht hi h2 ad 0 0 0 u #[] w hc.len (hc.run w (Keep.refl w)) (Nat.le_refl _) (by cases ad <;> simp [storeCells]), hs.evo e1 e2 rfl, ?_⟩
            exact .refv _ i.size 0 _ (by rw [← hs.rel.hr.len, List.getElem?_append_right (Nat.le_refl _)]; simp)
          · have hrun := run_append_out (ty := ty) ht hi hz' h2 ad 0 0 ys.length u #[] cs.toArray hc.len (hc.run _ (fun _ _ => rfl)) (by cases ad <;> simp [Builtin.firstCells, run_load0]) (by omega) (by simpa using hb) (by omega)
            simp only [Nat.zero_add] at hrun
            have hg := le_grownCap w ys.length 0 e
            have hz2 : z.cells.size = i.size := by simpa using hzl
            obtain ⟨e1, e2, e3⟩ := row_relV hs.rel.drew e (#[] ++ cs.toArray ++ Builtin.zeroCells z.cells (grownCap w ys.length 0 e - ys.length)) i.size (grownCap w ys.length 0 e) ys hc.row hg (by
                simp only [Array.size_append, List.size_toArray, size_zeroCells, hc.size, hz2, ← Nat.add_mul, List.length_nil, Nat.zero_add]
                exact Nat.mul_le_mul_right _ (by omega)) (fun l row j y hl hj => by
                obtain ⟨uu, hu, ho, hr⟩ := hc.cell l row j y hl hj
                refine ⟨uu, ?_, ho, VR.evo (w := w) (w' := w.drew) (E := E) (F := F) (E' := E) (F' := F) (ok := fun _ => True) ⟨fun _ h => h, fun _ _ => rfl, fun _ _ _ h => h, fun _ _ h => h⟩ hr (fun _ _ => trivial)⟩
                have hlt := (List.getElem?_eq_some_iff.1 hu).1
                rw [get3 (by simp; exact hlt)]
                simpa using hu)
            exact ⟨_, _, _, hrun, hs.drew.evo e1 e2 rfl, e3⟩
      · -- onto a row of the walk's own
        rename_i id off len
        split at h
        · rename_i k' rows hH
          simp only [Option.some.injEq, Prod.mk.injEq] at h
          obtain ⟨rfl, rfl, rfl⟩ := h
          obtain ⟨⟨h2, hzl, rfl, rfl, hkp, hb, h63⟩, hob⟩ := hob
          obtain ⟨cs, hc⟩ := srcV_sound (P := P) hsrc hob hs.rel.hr hs.rel.lt hsr
          have hz2 : z.cells.size = i.size := by simpa using hzl
          -- the row behind it
          have hrows : ∀ (rows : List (List V)), (∀ (l : Nat) (row : List V), rows[l]? = some row → row.length = i.size) → len ≤ rows.length →
              (∀ (l : Nat) (row : List V), (rows.take len ++ ys)[l]? = some row → row.length = i.size) ∧ (rows.take len ++ ys).length = len + ys.length := by
            intro rows h3 hlr
            refine ⟨fun l row hl => ?_, by simp; omega⟩
            rw [List.getElem?_append] at hl
            split at hl
            · rw [List.getElem?_take] at hl
              split at hl
              · exact h3 _ _ hl
              · cases hl
            · exact hc.row _ _ hl
          have grow : ∀ (os : List Value), os.length = len * i.size → len ≤ rows.length → (∀ (l : Nat) (row : List V), rows[l]? = some row → row.length = i.size) →
              (∀ (l : Nat) (row : List V) (j : Nat) (y : V), l < len → rows[l]? = some row → row[j]? = some y → ∃ v, os[l * i.size + j]? = some v ∧ v.oneCell' = true ∧ VR E F w y v) →
              ∀ (en : En), E[id]? = some en → ∀ cap, len + ys.length ≤ cap → ∀ nc, cap ≤ nc →
              Sim B { tm := tmScr id s.tm, heap := (heapScr id s.heap).set id (.vrs i.size ((rows.take len ++ ys).map fun r => r.map (scr id))) } a (w.drew.alloc (.cells (os.toArray ++ cs.toArray ++ Builtin.zeroCells z.cells (cap - (len + ys.length))) e))
                (E.set id ⟨some w.heap.size, i.size, len + ys.length⟩) F ∧
              VR (E.set id ⟨some w.heap.size, i.size, len + ys.length⟩) F (w.drew.alloc (.cells (os.toArray ++ cs.toArray ++ Builtin.zeroCells z.cells (cap - (len + ys.length))) e)) (.ref id 0 (len + ys.length)) (.slice (some ⟨w.heap.size, 0, none⟩) (len + ys.length) cap) := by
            intro os hos hlr h3 hcell en hE cap hcap nc _
            obtain ⟨g1, g2⟩ := hrows rows h3 hlr
            have hil : id < E.length := (List.getElem?_eq_some_iff.1 hE).1
            have hsize : (os.toArray ++ cs.toArray ++ Builtin.zeroCells z.cells (cap - (len + ys.length))).size = cap * i.size := by
              simp only [Array.size_append, List.size_toArray, size_zeroCells, hc.size, hos, hz2, ← Nat.add_mul]
              congr 1
              omega
            have hsame : ∀ b, b < w.heap.size → (w.drew.alloc (.cells (os.toArray ++ cs.toArray ++ Builtin.zeroCells z.cells (cap - (len + ys.length))) e)).heap[b]? = w.heap[b]? := fun b hb => Below.heap_alloc w.drew _ b hb
            refine ⟨rebind hs hE hH rfl hkp rfl rfl ⟨rfl, by first | exact Nat.le_refl _ | exact Nat.le_succ _ | simp⟩ (by simp) (fun b hb => hsame b (hs.rel.lt b hb)) (fun b h1 _ => hsame b (Nat.lt_of_lt_of_le h1 hs.rel.size)) (fun c hc => by simp at hc; subst hc; exact .inl hs.rel.size) (fun j ej bj c hj h4 h5 h6 h7 => ?_) (fun b n hb => Sz.alloc (w := w.drew) _ hb) (fun c hc => ?_) ?_, ?_⟩
            · have := (hs.rel.hr.free j c ej bj h4 h7 h5 h6).1
              exact ⟨hsame c this, fun h => by simp at h; omega⟩
            · simp at hc
              subst hc
              exact ⟨by simp, fun h => by have := hs.rel.lt _ h; omega⟩
            · have evo : Evo E F w (E.set id ⟨some w.heap.size, i.size, len + ys.length⟩) F (w.drew.alloc (.cells (os.toArray ++ cs.toArray ++ Builtin.zeroCells z.cells (cap - (len + ys.length))) e)) (fun j => j ≠ id) :=
                ⟨fun _ h => h, fun b hb => hsame b (hs.rel.lt b hb), fun j ej hj h => by rw [List.getElem?_set_ne (Ne.symm hj)]; exact h, fun b n hb => Sz.alloc (w := w.drew) _ hb⟩
              refine ⟨rfl, by simpa using g2.symm, fun l row hl => by
                  simp only [List.getElem?_map, Option.map_eq_some_iff] at hl
                  obtain ⟨row0, hl, rfl⟩ := hl
                  simpa using g1 l row0 hl, .inr ⟨w.heap.size, _, e, rfl, heap_alloc_new w.drew _, ?_, fun l row j y hl hj => ?_⟩⟩
              · rw [hsize, List.length_map, g2]
                exact Nat.mul_le_mul_right _ hcap
              · simp only [List.getElem?_map, Option.map_eq_some_iff] at hl
                obtain ⟨row0, hl, rfl⟩ := hl
                simp only [List.getElem?_map, Option.map_eq_some_iff] at hj
                obtain ⟨y0, hj, rfl⟩ := hj
                have hjk := (List.getElem?_eq_some_iff.1 hj).1
                have hrl := g1 l row0 hl
                rw [List.getElem?_append] at hl
                split at hl
                · rename_i hll
                  have hll' : l < len := by simp at hll; omega
                  rw [List.getElem?_take_of_lt hll'] at hl
                  obtain ⟨uu, hu, ho, hr⟩ := hcell l row0 j y0 hll' hl hj
                  refine ⟨uu, ?_, ho, scr_VR evo hr⟩
                  have := lt_mul_of (n := len) (m := 1) (k := i.size) (off := j) (row := l) hll' (by omega)
                  rw [get3 (by simp; omega)]
                  simp only [List.append_toArray, List.getElem?_toArray]
                  rw [List.getElem?_append_left (by omega)]
                  exact hu
                · rename_i hll
                  simp only [List.length_take] at hl hll
                  rw [show min len rows.length = len by omega] at hl hll
                  obtain ⟨uu, hu, ho, hr⟩ := hc.cell _ row0 j y0 hl hj
                  refine ⟨uu, ?_, ho, scr_VR evo hr⟩
                  have hlt := (List.getElem?_eq_some_iff.1 hu).1
                  have e1 : l * i.size = len * i.size + (l - len) * i.size := by rw [← Nat.add_mul]; congr 1; omega
                  rw [get3 (by simp; omega)]
                  simp only [List.append_toArray, List.getElem?_toArray]
                  rw [List.getElem?_append_right (by omega), show l * i.size + j - os.length = (l - len) * i.size + j by omega]
                  exact hu
            · have hEs : (E.set id ⟨some w.heap.size, i.size, len + ys.length⟩)[id]? = some ⟨some w.heap.size, i.size, len + ys.length⟩ := List.getElem?_set_self hil
              exact .ref id 0 _ w.heap.size i.size _ _ cap (cap * i.size) hEs (by omega) (fun _ => by simp) hcap ⟨_, e, heap_alloc_new w.drew _, hsize⟩ (by simp)
          cases hd with
          | ref _ _ _ b k2 m ad cap n hE hm ha hl hbz hcp =>
            obtain ⟨g1, g2, g3, g4⟩ := hs.rel.hr.blk _ _ _ hE hH
            dsimp only at g1 g2
            subst g1 g2
            rcases g4 with ⟨g4, _⟩ | ⟨b', cur, tt, g4, hw, hsz, hcell⟩
            · cases g4
            simp only [Option.some.injEq] at g4
            subst g4
            have had := ha (.inr rfl)
            subst had
            have hcur : n = cur.size := by
              obtain ⟨c0, t0, q1, q2⟩ := hbz
              rw [hw] at q1
              cases q1
              exact q2.symm
            subst hcur
            simp only [Nat.zero_add] at hm hcp
            obtain ⟨g5, g6⟩ := hrows rows g3 hm
            by_cases hroom : len + ys.length ≤ cap
            · -- there is room
              have hcap2 : (len + ys.length) * i.size ≤ cur.size := Nat.le_trans (Nat.mul_le_mul_right _ hroom) hcp
              have hfit : len * i.size + cs.length ≤ cur.size := by rw [hc.size, ← Nat.add_mul]; exact hcap2
              have hst := run_storeCells_at (P := P) b (0 * i.size + len * i.size) tt cs 0 cur w hw (by omega) hc.one
              simp only [Nat.zero_mul, Nat.zero_add, Nat.add_zero, List.append_assoc] at hst
              have hset : (cur.toList.take (len * i.size) ++ (cs ++ cur.toList.drop (len * i.size + cs.length))) = setL cur.toList (len * i.size) cs := rfl
              rw [hset] at hst
              have hrun := run_append_in (ty := ty) ht hi h2 (some ⟨b, 0, none⟩) len cap ys.length u cs.toArray _ hc.len (hc.run w (Keep.refl w)) hroom (by
                show (storeCells ((⟨b, 0, none⟩ : Addr).add (len * i.size)) cs).run P w = _
                rw [Addr.add_mid, Nat.zero_add]; exact hst)
              have hss : (setL cur.toList (len * i.size) cs).toArray.size = cur.size := by rw [List.size_toArray, setL_len _ _ _ (by simp; omega), Array.length_toList]
              obtain ⟨hbl, hbF⟩ := hs.rel.hr.free id b _ _ hE rfl hH rfl
              have hil : id < E.length := (List.getElem?_eq_some_iff.1 hE).1
              have hF : ∀ c, F c → (w.setRow b (setL cur.toList (len * i.size) cs).toArray).heap[c]? = w.heap[c]? := fun c hc => heap_setRow_other w b c _ (fun q => hbF (q ▸ hc))
              refine ⟨.slice (some ⟨b, 0, none⟩) (len + ys.length) cap, w.setRow b (setL cur.toList (len * i.size) cs).toArray, E.set id ⟨some b, i.size, len + ys.length⟩, by simpa using hrun, rebind hs hE hH rfl hkp rfl rfl ⟨rfl, by first | exact Nat.le_refl _ | exact Nat.le_succ _ | simp⟩ (by simp) hF (fun c h1 h2 => heap_setRow_other w b c _ (fun q => (hs.rel.src id b _ _ hE hH rfl rfl).elim (fun h => by omega) (fun h => h2 (q ▸ h)))) (fun c hc => by simp at hc; subst hc; exact hs.rel.src id b _ _ hE hH rfl rfl) (fun j ej bj c hj h4 h5 h6 h7 => ?_) (fun b' n' hb' => hb'.setRow hw hss) (fun c hc => ?_) ?_, ?_⟩
              · have hne : c ≠ b := fun q => hj (hs.rel.hr.inj j id c ej _ bj _ h4 hE h7 (by simp [q]) h5 hH h6 rfl)
                exact ⟨heap_setRow_other w b c _ hne, fun h => by simp at h; exact hne h.symm⟩
              · simp at hc
                subst hc
                exact ⟨by simpa using hbl, hbF⟩
              · have evo : Evo E F w (E.set id ⟨some b, i.size, len + ys.length⟩) F (w.setRow b (setL cur.toList (len * i.size) cs).toArray) (fun j => j ≠ id) :=
                  ⟨fun _ h => h, hF, fun j ej hj h => by rw [List.getElem?_set_ne (Ne.symm hj)]; exact h, fun b' n' hb' => hb'.setRow hw hss⟩
                refine ⟨rfl, by simpa using g6.symm, fun l row hl => by
                  simp only [List.getElem?_map, Option.map_eq_some_iff] at hl
                  obtain ⟨row0, hl, rfl⟩ := hl
                  simpa using g5 l row0 hl, .inr ⟨b, _, tt, rfl, setRow_heap w b cur _ tt _ hw, ?_, fun l row j y hl hj => ?_⟩⟩
                · rw [hss, List.length_map, g6]; exact hcap2
                · simp only [List.getElem?_map, Option.map_eq_some_iff] at hl
                  obtain ⟨row0, hl, rfl⟩ := hl
                  simp only [List.getElem?_map, Option.map_eq_some_iff] at hj
                  obtain ⟨y0, hj, rfl⟩ := hj
                  have hjk := (List.getElem?_eq_some_iff.1 hj).1
                  have hrl := g5 l row0 hl
                  simp only [List.getElem?_toArray]
                  rw [setL_get _ _ _ (by simp; omega)]
                  rw [List.getElem?_append] at hl
                  split at hl
                  · rename_i hll
                    have hll' : l < len := by simp at hll; omega
                    rw [List.getElem?_take_of_lt hll'] at hl
                    obtain ⟨uu, hu, ho, hr⟩ := hcell l row0 j y0 hl hj
                    have := lt_mul_of (n := len) (m := 1) (k := i.size) (off := j) (row := l) hll' (by omega)
                    rw [if_neg (by omega)]
                    exact ⟨uu, by simpa using hu, ho, scr_VR evo hr⟩
                  · rename_i hll
                    simp only [List.length_take] at hl hll
                    rw [show min len rows.length = len by omega] at hl hll
                    obtain ⟨uu, hu, ho, hr⟩ := hc.cell _ row0 j y0 hl hj
                    have hlt := (List.getElem?_eq_some_iff.1 hu).1
                    have e1 : l * i.size = len * i.size + (l - len) * i.size := by rw [← Nat.add_mul]; congr 1; omega
                    rw [if_pos (by omega), show l * i.size + j - len * i.size = (l - len) * i.size + j by omega]
                    exact ⟨uu, hu, ho, scr_VR evo hr⟩
              · have hEs : (E.set id ⟨some b, i.size, len + ys.length⟩)[id]? = some ⟨some b, i.size, len + ys.length⟩ := List.getElem?_set_self hil
                exact .ref id 0 _ b i.size _ _ cap cur.size hEs (by omega) (fun _ => by simp) hroom (Sz.setRow hw hss (⟨cur, tt, hw, rfl⟩ : Sz w b cur.size)) (by simpa using hcp)
            · -- a new row
              have hos : ((cur.toList.take (len * i.size))).length = len * i.size := by
                have : len * i.size ≤ cur.size := Nat.le_trans (Nat.mul_le_mul_right _ hl) hcp
                simp; omega
              have hfo : (Builtin.firstCells i.size len (.slice (some ⟨b, 0 * i.size, none⟩) len cap)).run P w.drew = .ok (cur.toList.take (len * i.size)).toArray w.drew := by
                have := run_loadCells_list (P := P) w.drew ⟨b, 0, none⟩ (cur.toList.take (len * i.size)) (fun j u hj => by
                  rw [List.getElem?_take] at hj
                  split at hj
                  · rw [Addr.add_mid, Nat.zero_add, cell_of_row w.drew b j cur tt (0, 0) hw]
                    simpa using hj
                  · cases hj)
                rw [hos] at this
                simp only [Nat.zero_mul]
                simp [Builtin.firstCells, this]
              have hrun := run_append_out (ty := ty) ht hi hz' h2 _ len cap ys.length u _ cs.toArray hc.len (hc.run _ (fun _ _ => rfl)) hfo (by omega) hb h63
              obtain ⟨q1, q2⟩ := grow _ hos hm g3 (fun l row j y hl hrow hj => by
                obtain ⟨uu, hu, ho, hr⟩ := hcell l row j y hrow hj
                have hjk := (List.getElem?_eq_some_iff.1 hj).1
                have := g3 l row hrow
                have := lt_mul_of (n := len) (m := 1) (k := i.size) (off := j) (row := l) hl (by omega)
                exact ⟨uu, by rw [List.getElem?_take_of_lt (by omega)]; simpa using hu, ho, hr⟩) _ hE _ (le_grownCap w (len + ys.length) cap e) _ (Nat.le_refl _)
              exact ⟨_, _, _, hrun, q1, q2⟩
          | refv _ k2 m ad hE =>
            obtain ⟨g1, g2, g3, g4⟩ := hs.rel.hr.blk _ _ _ hE hH
            dsimp only at g1 g2
            subst g1
            have hrn : rows = [] := by
              rcases g4 with ⟨_, g4⟩ | ⟨b', cur, tt, g4, _⟩
              · exact g4
              · cases g4
            subst hrn
            by_cases h0 : ys.length = 0
            · obtain rfl := List.length_eq_zero_iff.1 h0
              have hcs : cs = [] := List.length_eq_zero_iff.1 (by simpa using hc.size)
              subst hcs
              have hil : id < E.length := (List.getElem?_eq_some_iff.1 hE).1
              refine ⟨_, w, E.set id ⟨none, i.size, 0⟩, run_append_in (ty := ty) ht hi h2 ad 0 0 0 u #[] w hc.len (hc.run w (Keep.refl w)) (Nat.le_refl _) (by cases ad <;> simp [storeCells]), ?_, ?_⟩
              · exact rebind hs hE hH rfl hkp rfl rfl ⟨rfl, by first | exact Nat.le_refl _ | exact Nat.le_succ _ | simp⟩ (Nat.le_refl _) (fun _ _ => rfl) (fun _ _ _ => rfl) (fun c hc => by simp at hc) (fun j ej bj c hj h4 h5 h6 h7 => ⟨rfl, by simp⟩) (fun _ _ h => h) (fun c hc => by simp at hc) ⟨rfl, by simp, by simp, .inl ⟨rfl, by simp⟩⟩
              · exact .refv id i.size 0 ad (List.getElem?_set_self hil)
            · have hrun := run_append_out (ty := ty) ht hi hz' h2 ad 0 0 ys.length u #[] cs.toArray hc.len (hc.run _ (fun _ _ => rfl)) (by cases ad <;> simp [Builtin.firstCells, run_load0]) (by omega) (by simpa using hb) (by omega)
              obtain ⟨q1, q2⟩ := grow [] (by simp) (by simp) (by simp) (by simp) _ hE _ (le_grownCap w (0 + ys.length) 0 e) _ (Nat.le_refl _)
              exact ⟨_, _, _, hrun, q1, q2⟩
        · cases h
      · cases h
    · cases h
  · cases h

/-- The rows that slice literals' parts are, as values. -/
def rowsV : List (Nat × V) → Nat → Option (List (List V))
  | [], _ => some []
  | (i, x) :: r, m => if i = m then (rowsV r (m + 1)).map fun l => x.cellsV :: l else none
def flatsV (n : Nat) : List (Nat × V) → Prop
  | [] => True
  | (_, x) :: r => (x.flat = true ∧ x.cellsV.length = n) ∧ flatsV n r
def hasNil : List (Nat × V) → Bool
  | [] => false
  | (_, x) :: r => x.cellsV.any (fun y => match y with | .nil => true | _ => false) || hasNil r

/-- A slice literal of values. -/
def litVQ (P : Program) (s : St) (t : TypeId) (n : Nat) (parts : Array (Nat × Operand)) : Option (Prop × Nat × List (List V)) :=
  match kel P t with
  | some (none, k, u) =>
    match kzero P u, rowsV (parts.toList.map fun p => (p.1, (s.ev p.2).strip.2)) 0 with
    | some zs, some rows => if rows.length = n then some (zs.length = k ∧ n * k ≤ 16777216 ∧ stripsOk s parts.toList ∧ flatsV k (parts.toList.map fun p => (p.1, (s.ev p.2).strip.2)), k, rows) else none
    | _, _ => none
  | _ => none

theorem lit_fillV {E : Env} {F : Nat → Prop} {w : World} (k N : Nat) : ∀ (parts : List (Nat × V)) (vs : List (Nat × Value)) (m : Nat) (rows : List (List V)) (cs : Array Value),
    rowsV parts m = some rows → flatsV k parts → parts.length = vs.length → (∀ (j : Nat) (x : Nat × V) (v : Nat × Value), parts[j]? = some x → vs[j]? = some v → x.1 = v.1 ∧ VR E F w x.2 v.2) →
    (m + rows.length) * k ≤ cs.size → ∃ cs', Instr.fill (fun i => some (i * k, k)) cs vs = some cs' ∧ cs'.size = cs.size ∧ (∀ j, j < m * k → cs'[j]? = cs[j]?) ∧
      (∀ (i : Nat) (row : List V), rows[i]? = some row → row.length = k) ∧
      ∀ (i : Nat) (row : List V) (j : Nat) (x : V), rows[i]? = some row → row[j]? = some x → ∃ v, cs'[(m + i) * k + j]? = some v ∧ v.oneCell' = true ∧ VR E F w x v
  | [], [], m, rows, cs, h, _, _, _, _ => by
    simp [rowsV] at h
    subst h
    exact ⟨cs, rfl, rfl, fun _ _ => rfl, by simp, by simp⟩
  | (i, x) :: r, [], m, rows, cs, h, _, hl, _, _ => by simp at hl
  | [], v :: vs, m, rows, cs, h, _, hl, _, _ => by simp at hl
  | (i, x) :: r, (i', v) :: vs, m, rows, cs, h, hp, hl, hr, hsz => by
    obtain ⟨hi, hx⟩ := hr 0 (i, x) (i', v) rfl rfl
    dsimp only at hi hx
    subst hi
    simp only [rowsV] at h
    split at h
    · rename_i him
      subst him
      simp only [Option.map_eq_some_iff] at h
      obtain ⟨rs, hrs, rfl⟩ := h
      obtain ⟨⟨h1, h2⟩, hp'⟩ := hp
      obtain ⟨c1, c2, c3⟩ := cellsV_sound hx h1
      simp only [List.length_cons] at hsz
      have hb : i * k + k ≤ cs.size := by
        have : (i + 1) * k ≤ (i + (rs.length + 1)) * k := Nat.mul_le_mul_right _ (by omega)
        rw [Nat.add_mul, Nat.one_mul] at this
        omega
      have hset := foldl_set (i * k) v.cells.toList 0 cs (by simp; omega)
      have hz : v.cells.zipIdx.foldl (fun cs (p : Value × Nat) => cs.setIfInBounds (i * k + p.2) p.1) cs = (setL cs.toList (i * k) v.cells.toList).toArray := by
        apply Array.ext'
        rw [← Array.foldl_toList]
        simpa [Array.toList_zipIdx] using hset
      have hss : (setL cs.toList (i * k) v.cells.toList).toArray.size = cs.size := by
        rw [List.size_toArray, setL_len _ _ _ (by simp; omega), Array.length_toList]
      obtain ⟨cs', e1, e2, e3, e4, e5⟩ := lit_fillV k N r vs (i + 1) rs (setL cs.toList (i * k) v.cells.toList).toArray hrs hp' (by simpa using hl) (fun j x v hj hv => hr (j + 1) x v (by simpa using hj) (by simpa using hv)) (by
        rw [hss]
        rwa [show i + 1 + rs.length = i + (rs.length + 1) by omega])
      rw [hss] at e2
      refine ⟨cs', ?_, e2, fun j hj => ?_, fun l row hl => ?_, fun l row j y hl hy => ?_⟩
      · simp only [Instr.fill]
        rw [if_neg (by simp; omega), hz]
        exact e1
      · rw [e3 j (by rw [Nat.add_mul]; omega), List.getElem?_toArray, setL_get _ _ _ (by simp; omega), if_neg (by omega)]
        simp
      · cases l with
        | zero => simp at hl; subst hl; omega
        | succ l => exact e4 l row (by simpa using hl)
      · cases l with
        | zero =>
          simp at hl
          subst hl
          have hjk := (List.getElem?_eq_some_iff.1 hy).1
          obtain ⟨u, hu1, hu2⟩ := c2 j y hy
          refine ⟨u, ?_, c3 _ (Array.mem_toList_iff.2 (Array.mem_of_getElem? hu1)), hu2⟩
          rw [Nat.add_zero, e3 _ (by rw [Nat.add_mul]; omega), List.getElem?_toArray, setL_get _ _ _ (by simp; omega), if_pos (by simp; omega)]
          simpa using hu1
        | succ l =>
          obtain ⟨u, hu, ho, hrd⟩ := e5 l row j y (by simpa using hl) hy
          exact ⟨u, by rwa [show i + (l + 1) = i + 1 + l by omega], ho, hrd⟩
    · cases h

theorem litV_sound {P : Program} {B : Base} {s : St} {a : Act} {w : World} {E : Env} {F : Nat → Prop} {t : TypeId} {n k : Nat} {parts : Array (Nat × Operand)} {ob : Prop} {rows : List (List V)}
    (h : litVQ P s t n parts = some (ob, k, rows)) (hob : ob) (hs : Sim B s a w E F) :
    ∃ v w', (Instr.buildSlice t n (parts.map fun (p : Nat × Operand) => (p.1, a.eval p.2))).run P w = .ok v w' ∧ Keep w w' ∧
      ∃ E', Evo E F w E' F w' (fun _ => True) ∧ Rel B { s with heap := s.heap ++ [.vrs k rows] } E' F w' ∧ VR E' F w' (.ref s.heap.length 0 n) v := by
  unfold litVQ at h
  split at h
  · rename_i k' u hk
    split at h
    · rename_i zs rows' hz hrows
      split at h
      · rename_i hn
        simp only [Option.some.injEq, Prod.mk.injEq] at h
        obtain ⟨rfl, rfl, rfl⟩ := h
        obtain ⟨hzl, hmax, hst, hok⟩ := hob
        obtain ⟨j, hu, hj, rfl⟩ := kel_slice hk
        obtain ⟨i, z, hi, hz', rfl⟩ := kzero_spec hz
        rw [hj] at hi
        cases hi
        have hzs : z.cells.size = j.size := by simpa using hzl
        obtain ⟨cs', e1, e2, _, e4, e5⟩ := lit_fillV (E := E) (F := F) (w := w) j.size n _ (parts.toList.map fun p => (p.1, a.eval p.2)) 0 rows'
          ((Array.range (n * j.size)).map (z.cells[· % z.cells.size]!)) hrows hok (by simp) (fun j x v hx hv => by
          simp only [List.getElem?_map, Option.map_eq_some_iff] at hx hv
          obtain ⟨q, hq, rfl⟩ := hx
          obtain ⟨q', hq', rfl⟩ := hv
          rw [hq] at hq'
          cases hq'
          exact ⟨rfl, V.strip_sound (ev_sound hs _) (stripsOk_at hst (List.mem_of_getElem? hq))⟩) (by simp [hn])
        have hcs : cs'.size = n * j.size := by simpa using e2
        obtain ⟨h1, h2, h3⟩ := row_relV hs.rel u cs' j.size n rows' e4 (by omega) (by omega) (by simpa using e5)
        rw [hn] at h1 h2 h3
        refine ⟨_, _, ?_, fun b hb => Below.heap_alloc w _ b hb, _, h1, h2, h3⟩
        by_cases h0 : n * j.size = 0
        · have hcs0 : cs' = #[] := Array.eq_empty_of_size_eq_zero (by omega)
          simp only [h0, Array.range_zero', Array.map_empty] at e1
          simp [Instr.buildSlice, run_underlying hu, sizeOf, typeInfo, hj, zeroValue, hz', h0, show Array.range 0 = #[] from rfl, e1, newRow]
        · have hmx : ¬ (2 ^ 24 < n * j.size) := by omega
          simp only [Instr.buildSlice, Sem.run_bind, run_underlying hu, Result.andThen_ok, sizeOf, typeInfo, run_program, hj, Sem.run_pure, gt_iff_lt, if_neg hmx, if_neg h0, zeroValue, hz']
          simp only [Array.toList_map, e1]
          simp [newRow]
      · cases h
    · cases h
  · cases h


end Go.Aw
