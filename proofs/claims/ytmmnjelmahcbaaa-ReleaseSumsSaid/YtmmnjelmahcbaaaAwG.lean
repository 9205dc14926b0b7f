/-
  A block of the walk's own is given up to be read alone from then on ('freeze'): references to it become data. Over any program; no condition.
-/
import Derived.Test.YtmmnjelmahcbaaaAwF
namespace Go.Aw
set_option linter.unusedSimpArgs false
set_option linter.unusedVariables false
open Go.RowKit

def dOf : V → Option D
  | .d x => some x
  | .nil => some (.sl [])
  | _ => none

def dOfs : List V → Option (List D)
  | [] => some []
  | x :: r => match dOf x, dOfs r with
    | some d, some ds => some (d :: ds)
    | _, _ => none

theorem dOf_sound {E : Env} {F : Nat → Prop} {w : World} {x : V} {d : D} {v : Value} (h : dOf x = some d) (hx : VR E F w x v) : RD F w d v := by
  unfold dOf at h
  split at h
  · simp at h; subst h; cases hx; assumption
  · simp at h; subst h; cases hx; exact .sl0 _ _
  · cases h

theorem dOfs_get : ∀ {xs : List V} {ds : List D}, dOfs xs = some ds → ds.length = xs.length ∧ ∀ (j : Nat) (d : D), ds[j]? = some d → ∃ x, xs[j]? = some x ∧ dOf x = some d
  | [], ds, h => by simp [dOfs] at h; subst h; simp
  | x :: r, ds, h => by
    simp only [dOfs] at h
    split at h
    · rename_i d ds' hd hds
      simp at h
      subst h
      obtain ⟨h1, h2⟩ := dOfs_get hds
      refine ⟨by simp [h1], fun j e he => ?_⟩
      cases j with
      | zero => simp at he; subst he; exact ⟨x, rfl, hd⟩
      | succ j => simpa using h2 j e (by simpa using he)
    · cases h

def dOfss : List (List V) → Option (List (List D))
  | [] => some []
  | r :: l => match dOfs r, dOfss l with
    | some d, some ds => some (d :: ds)
    | _, _ => none

theorem dOfss_get : ∀ {l : List (List V)} {ds : List (List D)}, dOfss l = some ds → ds.length = l.length ∧ ∀ (j : Nat) (d : List D), ds[j]? = some d → ∃ r, l[j]? = some r ∧ dOfs r = some d
  | [], ds, h => by simp [dOfss] at h; subst h; simp
  | r :: l, ds, h => by
    simp only [dOfss] at h
    split at h
    · rename_i d ds' h1 h2
      simp at h
      subst h
      obtain ⟨q1, q2⟩ := dOfss_get h2
      refine ⟨by simp [q1], fun j d' hj => ?_⟩
      cases j with
      | zero => simp at hj; subst hj; exact ⟨r, rfl, h1⟩
      | succ j => obtain ⟨r', h3, h4⟩ := q2 j d' (by simpa using hj); exact ⟨r', by simpa using h3, h4⟩
    · cases h

/-- The elements of a block that is all data. -/
def Blk.rowsD : Blk → Option (List (List D))
  | .data _ rows => some rows
  | .cells xs => (dOfs xs).map fun ds => [ds]
  | .vrs _ rs => dOfss rs
  | _ => none

mutual
def V.frz (i : Nat) (rows : List (List D)) : V → V
  | .agg xs => .agg (V.frzL i rows xs)
  | .tup xs => .tup (V.frzL i rows xs)
  | .ptr id row off => if id = i then .d (.cp (rows[row]?.getD []) off) else .ptr id row off
  | .ref id off len => if id = i then .d (.sl ((rows.drop off).take len)) else .ref id off len
  | .fn f xs => .fn f (V.frzL i rows xs)
  | .iface t x => .iface t (V.frz i rows x)
  | .opt g x => .opt g (V.frz i rows x)
  | x => x
def V.frzL (i : Nat) (rows : List (List D)) : List V → List V
  | [] => []
  | x :: r => V.frz i rows x :: V.frzL i rows r
end

theorem frzL_eq (i : Nat) (rows : List (List D)) : ∀ xs : List V, V.frzL i rows xs = xs.map (V.frz i rows)
  | [] => rfl
  | x :: r => by simp [V.frzL, frzL_eq i rows r]

def Blk.frz (i : Nat) (rows : List (List D)) : Blk → Blk
  | .cells xs => .cells (V.frzL i rows xs)
  | .vrs k rs => .vrs k (rs.map fun r => V.frzL i rows r)
  | .mp es => .mp (es.map fun p => (V.frz i rows p.1, V.frz i rows p.2))
  | .it x seen n => .it (V.frz i rows x) seen n
  | b => b

theorem Blk.frz_map1 (i : Nat) (rows : List (List D)) (b : Blk) : b.frz i rows = b.map1 (V.frz i rows) := by
  cases b <;> simp [Blk.frz, Blk.map1, frzL_eq]

def tmFrz (i : Nat) (rows : List (List D)) : List (Nat × V) → List (Nat × V)
  | [] => []
  | (j, x) :: r => (j, V.frz i rows x) :: tmFrz i rows r

theorem tget_frz (i : Nat) (rows : List (List D)) (j : Nat) : ∀ l : List (Nat × V), tget (tmFrz i rows l) j = (tget l j).map (V.frz i rows)
  | [] => rfl
  | (k, x) :: r => by
    simp only [tmFrz, tget]
    split
    · rfl
    · exact tget_frz i rows j r

def heapFrz (i : Nat) (rows : List (List D)) : List Blk → List Blk
  | [] => []
  | b :: r => b.frz i rows :: heapFrz i rows r

theorem heapFrz_eq (i : Nat) (rows : List (List D)) : ∀ l, heapFrz i rows l = l.map (Blk.frz i rows)
  | [] => rfl
  | b :: r => by simp [heapFrz, heapFrz_eq i rows r]

def St.frz (s : St) (i : Nat) : St :=
  match (s.heap[i]?.getD .gone).rowsD with
  | some rows => { tm := tmFrz i rows s.tm, heap := (heapFrz i rows s.heap).set i .gone }
  | none => s

/-- What the block holds, cell by cell. -/
theorem rowsD_sound {B : Base} {s : St} {E : Env} {F : Nat → Prop} {w : World} (hr : Rel B s E F w) {i : Nat} {e : En} {blk : Blk} {rows : List (List D)}
    (he : E[i]? = some e) (hb : s.heap[i]? = some blk) (hrows : blk.rowsD = some rows) :
    e.n = rows.length ∧ (∀ (j : Nat) (row : List D), rows[j]? = some row → row.length = e.k) ∧ blk.live = true ∧
    ((e.blk = none ∧ rows = []) ∨ ∃ b cs t, e.blk = some b ∧ w.heap[b]? = some (.cells cs t (0, 0)) ∧ rows.length * e.k ≤ cs.size ∧
      ∀ (j : Nat) (row : List D) (l : Nat) (x : D), rows[j]? = some row → row[l]? = some x → ∃ v, cs[j * e.k + l]? = some v ∧ RD F w x v) := by
  have hbr := hr.hr.blk _ _ _ he hb
  cases blk with
  | gone => simp [Blk.rowsD] at hrows
  | mp es => simp [Blk.rowsD] at hrows
  | it x seen n => simp [Blk.rowsD] at hrows
  | vrs k rs =>
    simp only [Blk.rowsD] at hrows
    obtain ⟨hl, hg⟩ := dOfss_get hrows
    obtain ⟨rfl, h2, h3, h4⟩ := hbr
    refine ⟨by omega, fun j row hj => ?_, rfl, ?_⟩
    · obtain ⟨r, g1, g2⟩ := hg j row hj
      have := h3 j r g1
      have := (dOfs_get g2).1
      omega
    · rcases h4 with ⟨h4, rfl⟩ | ⟨b, cs, t, h4, h5, h6, h7⟩
      · exact .inl ⟨h4, by simpa using hl⟩
      · refine .inr ⟨b, cs, t, h4, h5, by rw [hl]; exact h6, fun j row l x hj hx => ?_⟩
        obtain ⟨r, g1, g2⟩ := hg j row hj
        obtain ⟨y, hy, hd⟩ := (dOfs_get g2).2 l x hx
        obtain ⟨v, hv, _, hvr⟩ := h7 j r l y g1 hy
        exact ⟨v, hv, dOf_sound hd hvr⟩
  | data k rows' =>
    simp [Blk.rowsD] at hrows
    subst hrows
    obtain ⟨rfl, h2, h3, h4⟩ := hbr
    exact ⟨h2, fun j row hj => (h3 j row hj).1, rfl, h4⟩
  | cells xs =>
    simp only [Blk.rowsD, Option.map_eq_some_iff] at hrows
    obtain ⟨ds, hds, rfl⟩ := hrows
    obtain ⟨h1, h2, b, cs, t, h3, h4, h5, h6⟩ := hbr
    obtain ⟨hl, hg⟩ := dOfs_get hds
    refine ⟨h2, fun j row hj => ?_, rfl, .inr ⟨b, cs, t, h3, h4, by simp; omega, fun j row l x hj hx => ?_⟩⟩
    · cases j with
      | zero => simp at hj; subst hj; omega
      | succ j => simp at hj
    · cases j with
      | zero =>
        simp at hj
        subst hj
        obtain ⟨y, hy, hd⟩ := hg l x hx
        obtain ⟨v, hv, hvr⟩ := h6 l y hy
        exact ⟨v, by simpa using hv, dOf_sound hd hvr⟩
      | succ j => simp at hj

theorem frz_VR {B : Base} {s : St} {E : Env} {F : Nat → Prop} {w : World} (hr : Rel B s E F w) {i : Nat} {e : En} {blk : Blk} {rows : List (List D)}
    (he : E[i]? = some e) (hb : s.heap[i]? = some blk) (hrows : blk.rowsD = some rows) {x : V} {v : Value} (hx : VR E F w x v) :
    VR E (fun b => F b ∨ e.blk = some b) w (x.frz i rows) v := by
  obtain ⟨hn, hk, _, hc⟩ := rowsD_sound hr he hb hrows
  have up : ∀ b, F b → (F b ∨ e.blk = some b) := fun b h => .inl h
  have upR : ∀ {x : D} {v : Value}, RD F w x v → RD (fun b => F b ∨ e.blk = some b) w x v := fun h => h.evo up (fun _ _ => rfl)
  induction hx with
  | d x v hd => exact .d x v (upR hd)
  | agg xs cs hs hrr ih =>
    simp only [V.frz, frzL_eq]
    refine .agg _ cs (by simpa using hs) fun j x v hx hv => ?_
    simp only [List.getElem?_map, Option.map_eq_some_iff] at hx
    obtain ⟨y, hy, rfl⟩ := hx
    exact ih j y v hy hv
  | tup xs cs hs hrr ih =>
    simp only [V.frz, frzL_eq]
    refine .tup _ cs (by simpa using hs) fun j x v hx hv => ?_
    simp only [List.getElem?_map, Option.map_eq_some_iff] at hx
    obtain ⟨y, hy, rfl⟩ := hx
    exact ih j y v hy hv
  | fn f xs cs hs hrr ih =>
    simp only [V.frz, frzL_eq]
    refine .fn f _ cs (by simpa using hs) fun j x v hx hv => ?_
    simp only [List.getElem?_map, Option.map_eq_some_iff] at hx
    obtain ⟨y, hy, rfl⟩ := hx
    exact ih j y v hy hv
  | iface t x v hx ih => exact .iface t _ v ih
  | opt g x v hx hu ih => exact .opt g _ v ih hu
  | junk v => exact .junk v
  | nil a => exact .nil a
  | map id b k m hE => exact .map id b k m hE
  | ptr id row off b k m hE hm =>
    simp only [V.frz]
    split
    · rename_i hid
      subst hid
      rw [he] at hE
      simp only [Option.some.injEq] at hE
      subst hE
      dsimp only at hn hk hc
      rcases hc with ⟨h1, _⟩ | ⟨b', cs, t, h1, hw, hsz, hcell⟩
      · cases h1
      simp only [Option.some.injEq] at h1
      subst h1
      have hrow : row < rows.length := by omega
      have hg : rows[row]? = some rows[row] := List.getElem?_eq_getElem hrow
      have hlen := hk _ _ hg
      have hb := lt_mul_of (n := rows.length) (m := k) (k := k) (off := 0) hrow (by omega)
      simp only [hg, Option.getD_some]
      refine .d _ _ (.cp b (row * k) off rows[row] (fun j => cs[row * k + j]?.getD undef) (.inr rfl) (fun j hj => ?_) fun j x hx => ?_)
      · rw [cell_of_row w b _ cs t (0, 0) hw, Array.getElem?_eq_getElem (by omega)]
        rfl
      · obtain ⟨u, hu, hrd⟩ := hcell row rows[row] j x hg hx
        rw [hu]
        exact upR hrd
    · exact .ptr id row off b k m hE hm
  | ref id off len b k m a cap n hE hm ha hl hbz hcp =>
    simp only [V.frz]
    split
    · rename_i hid
      subst hid
      rw [he] at hE
      simp only [Option.some.injEq] at hE
      subst hE
      dsimp only at hn hk hc
      rcases hc with ⟨h1, _⟩ | ⟨b', cs, t, h1, hw, hsz, hcell⟩
      · cases h1
      simp only [Option.some.injEq] at h1
      subst h1
      have hlen : ((rows.drop off).take len).length = len := by rw [List.length_take, List.length_drop]; omega
      by_cases h0 : len = 0
      · subst h0
        rw [List.take_zero]
        exact .d _ _ (.sl0 _ _)
      · rw [ha (.inl (by omega))]
        have hget : ∀ (j : Nat) (row : List D), ((rows.drop off).take len)[j]? = some row → j < len ∧ rows[off + j]? = some row := fun j row hj => by
          rw [List.getElem?_take] at hj
          split at hj
          · rw [List.getElem?_drop] at hj; exact ⟨by assumption, hj⟩
          · cases hj
        have := RD.sl (F := fun b' => F b' ∨ (some b : Option Nat) = some b') (w := w) b (off * k) cap k ((rows.drop off).take len) (fun i j => cs[(off + i) * k + j]?.getD undef) (by omega) (.inr rfl)
          (fun i row hi => hk _ _ (hget i row hi).2)
          (fun i j hi hj => by
            have hb := lt_mul_of (n := rows.length) (m := 1) (k := k) (off := j) (row := off + i) (by omega) (by omega)
            have e : off * k + (i * k + j) = (off + i) * k + j := by rw [Nat.add_mul]; omega
            rw [e, cell_of_row w b _ cs t (0, 0) hw, Array.getElem?_eq_getElem (by omega)]
            rfl)
          (fun i row j x hi hx => by
            obtain ⟨u, hu, hrd⟩ := hcell (off + i) row j x (hget i row hi).2 hx
            rw [hu]
            exact upR hrd)
        rw [hlen] at this
        exact .d _ _ this
    · exact .ref id off len b k m a cap n hE hm ha hl hbz hcp
  | refv id k m a hE =>
    simp only [V.frz]
    split
    · rw [List.take_zero]; exact .d _ _ (.sl0 _ _)
    · exact .refv id k m a hE

theorem frz_sim {B : Base} {s : St} {a : Act} {w : World} {E : Env} {F : Nat → Prop} (hs : Sim B s a w E F) (i : Nat) : ∃ F', Sim B (s.frz i) a w E F' := by
  unfold St.frz
  split
  rotate_left
  · exact ⟨F, hs⟩
  rename_i rows hrows
  cases hb : s.heap[i]? with
  | none => simp [hb, Blk.rowsD] at hrows
  | some blk =>
    simp only [hb, Option.getD_some] at hrows
    have hil : i < s.heap.length := by
      rcases Nat.lt_or_ge i s.heap.length with h | h
      · exact h
      · rw [List.getElem?_eq_none h] at hb; cases hb
    have hE : E[i]? = some (E[i]'(by rw [hs.rel.hr.len]; exact hil)) := List.getElem?_eq_getElem _
    generalize E[i]'(by rw [hs.rel.hr.len]; exact hil) = e at hE
    obtain ⟨hn, hk, hlive, hc⟩ := rowsD_sound hs.rel hE hb hrows
    have hheap : ∀ (j : Nat) (b : Blk), ((heapFrz i rows s.heap).set i .gone)[j]? = some b → b.live = true → j ≠ i ∧ ∃ b0, s.heap[j]? = some b0 ∧ b = b0.frz i rows ∧ b0.live = true := by
      intro j b hj hbl
      rw [List.getElem?_set] at hj
      split at hj
      · split at hj
        · simp at hj; subst hj; cases hbl
        · cases hj
      · rename_i hne
        simp only [heapFrz_eq, List.getElem?_map, Option.map_eq_some_iff] at hj
        obtain ⟨b0, h0, rfl⟩ := hj
        refine ⟨Ne.symm hne, b0, h0, rfl, ?_⟩
        cases b0 <;> simp_all [Blk.frz, Blk.live]
    refine ⟨fun b => F b ∨ e.blk = some b, ⟨hs.rel.os, hs.rel.tape, hs.rel.output, hs.rel.size, fun b hb => .inl (hs.rel.F0 b hb), ?_, hs.rel.same, ?_, ?_, ?_, hs.rel.keep, hs.rel.sz⟩, hs.defers, ?_⟩
    · rintro b (hF | he)
      · exact hs.rel.only b hF
      · exact .inr (hs.rel.src i b e blk hE hb hlive he)
    · rintro b (hF | he)
      · exact hs.rel.lt b hF
      · exact (hs.rel.hr.free i b e blk hE he hb hlive).1
    · refine ⟨?_, ?_, ?_, ?_⟩
      · simp [heapFrz_eq, hs.rel.hr.len]
      · intro j ej b hEj hj
        cases hbl : b.live with
        | false =>
          cases b <;> simp_all [Blk.live]
          trivial
        | true =>
          obtain ⟨hji, b0, h0, rfl, hl0⟩ := hheap j b hj hbl
          have hbr := hs.rel.hr.blk j ej b0 hEj h0
          have := BR.to (f := V.frz i rows) (E' := E) (F' := fun b => F b ∨ e.blk = some b) (w' := w) hbr (fun x v hx => hx.evo (fun _ h => .inl h) (fun _ _ => rfl)) (fun x v _ hx => frz_VR hs.rel hE hb hrows hx) (fun _ _ => rfl)
          rwa [← Blk.frz_map1] at this
      · intro j b ej blk' hEj hbj hj hbl
        obtain ⟨hji, b0, h0, rfl, hl0⟩ := hheap j blk' hj hbl
        obtain ⟨h1, h2⟩ := hs.rel.hr.free j b ej b0 hEj hbj h0 hl0
        refine ⟨h1, ?_⟩
        rintro (hF | he)
        · exact h2 hF
        · exact hji (hs.rel.hr.inj j i b ej e b0 blk hEj hE hbj he h0 hb hl0 hlive)
      · intro j l b ej el bj bl hEj hEl hbj hbl hj hl hlj hll
        obtain ⟨_, b0, h0, _, hl0⟩ := hheap j bj hj hlj
        obtain ⟨_, b1, h1, _, hl1⟩ := hheap l bl hl hll
        exact hs.rel.hr.inj j l b ej el b0 b1 hEj hEl hbj hbl h0 h1 hl0 hl1
    · intro j b ej bj hEj hj hlj hbj
      obtain ⟨_, b0, h0, _, hl0⟩ := hheap j bj hj hlj
      exact hs.rel.src j b ej b0 hEj h0 hl0 hbj
    · intro j x hx
      rw [tget_frz] at hx
      simp only [Option.map_eq_some_iff] at hx
      obtain ⟨y, hy, rfl⟩ := hx
      obtain ⟨v, hv, hvr⟩ := hs.tm j y hy
      exact ⟨v, hv, frz_VR hs.rel hE hb hrows hvr⟩

/-- Give up all that a value speaks of. -/
def St.fz : Nat → St → V → St
  | 0, s, _ => s
  | n + 1, s, .ref id _ _ => (match s.heap[id]?.getD .gone with | .vrs _ rs => rs.foldl (fun (s : St) (r : List V) => r.foldl (St.fz n) s) s | _ => s).frz id
  | n + 1, s, .ptr id _ _ => (match s.heap[id]?.getD .gone with | .cells xs => xs.foldl (St.fz n) s | _ => s).frz id
  | n + 1, s, .fn _ xs => xs.foldl (St.fz n) s
  | n + 1, s, .agg xs => xs.foldl (St.fz n) s
  | n + 1, s, .iface _ x => St.fz n s x
  | n + 1, s, .opt _ x => St.fz n s x
  | _ + 1, s, _ => s

theorem fz_sim {B : Base} {a : Act} {w : World} {E : Env} : ∀ (n : Nat) (s : St) (x : V) (F : Nat → Prop), Sim B s a w E F → ∃ F', Sim B (s.fz n x) a w E F'
  | 0, s, _, F, h => ⟨F, h⟩
  | n + 1, s, x, F, h => by
    have hf : ∀ (xs : List V) (s : St) (F : Nat → Prop), Sim B s a w E F → ∃ F', Sim B (xs.foldl (St.fz n) s) a w E F' := by
      intro xs
      induction xs with
      | nil => exact fun s F h => ⟨F, h⟩
      | cons y r ih =>
        intro s F h
        obtain ⟨F1, h1⟩ := fz_sim n s y F h
        exact ih _ F1 h1
    cases x with
    | ref id off len =>
      simp only [St.fz]
      split
      · rename_i k rs _
        have hg : ∀ (rs : List (List V)) (s : St) (F : Nat → Prop), Sim B s a w E F → ∃ F', Sim B (rs.foldl (fun (s : St) (r : List V) => r.foldl (St.fz n) s) s) a w E F' := by
          intro rs
          induction rs with
          | nil => exact fun s F h => ⟨F, h⟩
          | cons y r ih =>
            intro s F h
            obtain ⟨F1, h1⟩ := hf y s F h
            exact ih _ F1 h1
        obtain ⟨F1, h1⟩ := hg rs s F h
        exact frz_sim h1 id
      · exact frz_sim h id
    | ptr id row off =>
      simp only [St.fz]
      split
      · obtain ⟨F1, h1⟩ := hf _ s F h
        exact frz_sim h1 id
      · exact frz_sim h id
    | fn f xs => exact hf xs s F h
    | agg xs => exact hf xs s F h
    | iface t y => exact fz_sim n s y F h
    | opt g y => exact fz_sim n s y F h
    | _ => exact ⟨F, h⟩

/-- Give up all that some operands speak of. -/
def St.settle (s : St) : List Operand → St
  | [] => s
  | x :: r => (s.fz 3 (s.ev x)).settle r

theorem settle_sim {B : Base} {a : Act} {w : World} {E : Env} : ∀ (l : List Operand) (s : St) (F : Nat → Prop), Sim B s a w E F → ∃ F', Sim B (s.settle l) a w E F'
  | [], s, F, h => ⟨F, h⟩
  | x :: r, s, F, h => by
    obtain ⟨F1, h1⟩ := fz_sim 3 s (s.ev x) F h
    exact settle_sim r _ F1 h1

end Go.Aw
