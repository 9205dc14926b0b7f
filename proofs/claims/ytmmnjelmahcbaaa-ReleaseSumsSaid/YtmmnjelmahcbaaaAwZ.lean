/-
  Results by content: all that a function hands back is read as data. Over any program; no condition.
-/
import Derived.Test.YtmmnjelmahcbaaaAwX
namespace Go.Aw
set_option linter.unusedSimpArgs false
set_option linter.unusedVariables false
open Go.RowKit

/-- What a value holds, all the way down. -/
inductive Deep (H : List Blk) : V → D → Prop where
  | d (x : D) : Deep H (.d x) x
  | nil : Deep H .nil (.sl [])
  | data (id off len k : Nat) (rows : List (List D)) (h : H[id]? = some (.data k rows)) (hl : off + len ≤ rows.length) : Deep H (.ref id off len) (.sl ((rows.drop off).take len))
  | vrs (id k : Nat) (rs : List (List V)) (ds : List (List D)) (h : H[id]? = some (.vrs k rs)) (hl : ds.length = rs.length) (hk : ∀ (i : Nat) (row : List D), ds[i]? = some row → row.length = k)
      (hr : ∀ (i : Nat) (row : List V) (drow : List D) (j : Nat) (x : V) (y : D), rs[i]? = some row → ds[i]? = some drow → row[j]? = some x → drow[j]? = some y → Deep H x y) : Deep H (.ref id 0 rs.length) (.sl ds)
  | agg (xs : List V) (ds : List D) (hl : ds.length = xs.length) (hr : ∀ (j : Nat) (x : V) (y : D), xs[j]? = some x → ds[j]? = some y → Deep H x y) : Deep H (.agg xs) (.agg ds)
  | tup (xs : List V) (ds : List D) (hl : ds.length = xs.length) (hr : ∀ (j : Nat) (x : V) (y : D), xs[j]? = some x → ds[j]? = some y → Deep H x y) : Deep H (.tup xs) (.tup ds)

/-- All own blocks beside those that are read alone. -/
def allF (E : Env) (F : Nat → Prop) (H : List Blk) (b : Nat) : Prop := F b ∨ own E H b

theorem deep_sound {E : Env} {F : Nat → Prop} {w : World} {H : List Blk} (hr : HR E F w H) {x : V} {d : D} (h : Deep H x d) : ∀ {v : Value}, VR E F w x v → RD (allF E F H) w d v := by
  have up : ∀ {d : D} {v : Value}, RD F w d v → RD (allF E F H) w d v := fun h => h.evo (fun _ h => .inl h) (fun _ _ => rfl)
  induction h with
  | d x => intro v hv; cases hv with | d _ _ h => exact up h
  | nil => intro v hv; cases hv with | nil a => exact .sl0 a 0
  | data id off len k rows hH hl =>
    intro v hv
    cases hv with
    | ref _ _ _ b k' m a cap n hE hm ha hlc hb hc =>
      obtain ⟨h1, h2, h3, h4⟩ := hr.blk _ _ _ hE hH
      dsimp only at h1 h2
      subst h1
      rcases Nat.eq_zero_or_pos len with h0 | hpos
      · subst h0
        rw [List.take_zero]
        exact .sl0 a cap
      · rcases h4 with ⟨h4, _⟩ | ⟨b', cs, t, h4, hw, hsz, hcell⟩
        · cases h4
        · simp only [Option.some.injEq] at h4
          subst h4
          have hlen : ((rows.drop off).take len).length = len := by simp; omega
          rw [ha (.inl hpos)]
          have hget : ∀ (i : Nat) (row : List D), ((rows.drop off).take len)[i]? = some row → i < len ∧ rows[off + i]? = some row := fun i row hi => by
            have hlt := (List.getElem?_eq_some_iff.1 hi).1
            rw [hlen] at hlt
            rw [List.getElem?_take_of_lt hlt, List.getElem?_drop] at hi
            exact ⟨hlt, hi⟩
          have := RD.sl (F := allF E F H) (w := w) b (off * k') cap k' ((rows.drop off).take len) (fun i j => (w.cell? ⟨b, off * k' + (i * k' + j), none⟩).getD undef) (by omega) (.inr ⟨id, _, _, hE, hH, rfl, rfl⟩)
            (fun i row hi => (h3 _ _ (hget i row hi).2).1)
            (fun i j hi hj => by
              have hi' : off + i < rows.length := by omega
              obtain ⟨v, hv, _⟩ := hcell (off + i) rows[off + i] j (rows[off + i][j]'(by rw [(h3 _ _ (List.getElem?_eq_getElem hi')).1]; exact hj)) (List.getElem?_eq_getElem hi') (List.getElem?_eq_getElem _)
              have : w.cell? ⟨b, off * k' + (i * k' + j), none⟩ = some v := by
                rw [show off * k' + (i * k' + j) = (off + i) * k' + j by rw [Nat.add_mul]; omega]
                simp [World.cell?, hw, hv]
              rw [this]; rfl)
            (fun i row j x hi hj => by
              obtain ⟨hi1, hi2⟩ := hget i row hi
              obtain ⟨v, hv, hd⟩ := hcell (off + i) row j x hi2 hj
              have : w.cell? ⟨b, off * k' + (i * k' + j), none⟩ = some v := by
                rw [show off * k' + (i * k' + j) = (off + i) * k' + j by rw [Nat.add_mul]; omega]
                simp [World.cell?, hw, hv]
              rw [this]
              exact up hd)
          rwa [hlen] at this
    | refv _ k' m a hE =>
      rw [List.take_zero]
      exact .sl0 a 0
  | vrs id k rs ds hH hl hk hrr ih =>
    intro v hv
    generalize hn : rs.length = len at hv
    cases hv with
    | ref _ _ _ b k' m a cap n hE hm ha hlc hb hc =>
      obtain ⟨h1, h2, h3, h4⟩ := hr.blk _ _ _ hE hH
      dsimp only at h1 h2
      subst h1
      rcases Nat.eq_zero_or_pos len with h0 | hpos
      · have : ds = [] := List.eq_nil_of_length_eq_zero (by omega)
        subst this
        rw [h0]
        exact .sl0 a cap
      · rcases h4 with ⟨h4, _⟩ | ⟨b', cs, t, h4, hw, hsz, hcell⟩
        · cases h4
        · simp only [Option.some.injEq] at h4
          subst h4
          rw [ha (.inl hpos)]
          have := RD.sl (F := allF E F H) (w := w) b (0 * k') cap k' ds (fun i j => (w.cell? ⟨b, 0 * k' + (i * k' + j), none⟩).getD undef) (by omega) (.inr ⟨id, _, _, hE, hH, rfl, rfl⟩) hk
            (fun i j hi hj => by
              have hi' : i < rs.length := by omega
              obtain ⟨v, hv, _⟩ := hcell i rs[i] j (rs[i][j]'(by rw [h3 _ _ (List.getElem?_eq_getElem hi')]; exact hj)) (List.getElem?_eq_getElem hi') (List.getElem?_eq_getElem _)
              have : w.cell? ⟨b, 0 * k' + (i * k' + j), none⟩ = some v := by simp [World.cell?, hw, hv]
              rw [this]; rfl)
            (fun i row j y hi hj => by
              have hi' : i < rs.length := by have := (List.getElem?_eq_some_iff.1 hi).1; omega
              have hj' : j < rs[i].length := by
                have e1 := (List.getElem?_eq_some_iff.1 hj).1
                rw [h3 _ _ (List.getElem?_eq_getElem hi')]
                have e2 := hk i row hi
                omega
              obtain ⟨v, hv, _, hd⟩ := hcell i rs[i] j rs[i][j] (List.getElem?_eq_getElem hi') (List.getElem?_eq_getElem hj')
              have : w.cell? ⟨b, 0 * k' + (i * k' + j), none⟩ = some v := by simp [World.cell?, hw, hv]
              rw [this]
              exact ih i rs[i] row j rs[i][j] y (List.getElem?_eq_getElem hi') hi (List.getElem?_eq_getElem hj') hj hd)
          rw [show ds.length = len by omega] at this
          exact this
    | refv _ k' m a hE =>
      have : ds = [] := List.eq_nil_of_length_eq_zero (by omega)
      subst this
      exact .sl0 a 0
  | agg xs ds hl hrr ih =>
    intro v hv
    cases hv with
    | agg _ cs hs hr' =>
      refine .agg ds cs (by omega) fun j y v hy hv => ?_
      have hj : j < xs.length := by have := (List.getElem?_eq_some_iff.1 hy).1; omega
      exact ih j xs[j] y (List.getElem?_eq_getElem hj) hy (hr' j _ v (List.getElem?_eq_getElem hj) hv)
  | tup xs ds hl hrr ih =>
    intro v hv
    cases hv with
    | tup _ cs hs hr' =>
      refine .tup ds cs (by omega) fun j y v hy hv => ?_
      have hj : j < xs.length := by have := (List.getElem?_eq_some_iff.1 hy).1; omega
      exact ih j xs[j] y (List.getElem?_eq_getElem hj) hy (hr' j _ v (List.getElem?_eq_getElem hj) hv)

/-- The callee's result, read as data. -/
theorem AC.deep {P : Program} {f : FuncId} {args : List V} {H : List Blk} {R : V → List Blk → Prop} {R' : V → List Blk → Prop} (h : AC P f args H [] R) (hR : ∀ x H', R x H' → ∃ d, Deep H' x d ∧ R' (ofD d) []) : AC P f args H [] R' := by
  refine ⟨h.1, fun w cargs E F h1 h2 h3 h4 => (h.2 w cargs E F h1 h2 h3 h4).mono ?_⟩
  rintro e w' ⟨v, x, H', E', F', q1, q2, q3, q4⟩
  obtain ⟨d, r1, r2⟩ := hR x H' q2
  have hd := deep_sound q3.hr r1 q4
  refine ⟨v, ofD d, [], [], allF E' F' H', q1, r2, ⟨q3.os, q3.tape, q3.output, q3.size, fun b hb => .inl (q3.F0 b hb), ?_, q3.same, ?_, ⟨rfl, by simp, by simp, by simp⟩, by simp, by simp, q3.sz⟩, ofD_sound hd⟩
  · rintro b (hb | ⟨id, e, blk, g1, g2, g3, g4⟩)
    · exact q3.only b hb
    · exact .inr (q3.src id b e blk g1 g2 g3 g4)
  · rintro b (hb | ⟨id, e, blk, g1, g2, g3, g4⟩)
    · exact q3.lt b hb
    · exact (q3.hr.free id b e blk g1 g4 g2 g3).1

theorem pdd_of {P : Program} {f : FuncId} {fn : Func} {c : Code} {args : List D} {d0 : D} (rs : List ResultVar) (hf : P.funcs[f]? = some fn) (hb : fn.body = some c)
    (hnm : (fn.name == "runtime.NumGoroutine") = false) (hn : (args.map ofD).length ≤ fn.ntmps) (hok : codeOk fn.ntmps c = true) (hrs : fn.results.toList = rs)
    (h : AWP P [] fn.ntmps c ⟨argTm 0 (args.map ofD), []⟩ (Fin P rs fun x H => Deep H x d0)) : PD P f args (ofD d0) := by
  subst hrs
  exact AC.deep (R := fun x H => Deep H x d0) (ac_of hf hb hnm hn hok h) fun x H' hh => ⟨d0, hh, rfl, rfl⟩

/-- 'nil' as an empty slice of the walk's own, of values. -/
theorem awp_virtV {P : Program} {kp : List Nat} {n : Nat} {s : St} {Q : Exit → St → Prop} {c : Code} (i k : Nat) (hi : tget s.tm i = some .nil) (h : AWP P kp n c { tm := tput s.tm i (.ref s.heap.length 0 0), heap := s.heap ++ [.vrs k []] } Q) : AWP P kp n c s Q := by
  intro hok B a w E F h1 h2 h3
  subst h1
  obtain ⟨e1, e2⟩ := virt_relV h3.rel k
  refine h hok B a w _ F rfl h2 ⟨⟨e2.os, e2.tape, e2.output, e2.size, e2.F0, e2.only, e2.same, e2.lt, e2.hr, e2.src, e2.keep, e2.sz⟩, h3.defers, fun j x hx => ?_⟩
  simp only [tget_tput] at hx
  split at hx
  · rename_i hj
    subst hj
    simp at hx
    subst hx
    obtain ⟨v, hv, hr⟩ := h3.tm j _ hi
    refine ⟨v, hv, ?_⟩
    cases hr with
    | nil a => exact .refv _ k 0 a (by rw [← h3.rel.hr.len, List.getElem?_append_right (Nat.le_refl _)]; simp)
  · obtain ⟨v, hv, hr⟩ := h3.tm j x hx
    exact ⟨v, hv, hr.evo e1 (fun _ _ => trivial)⟩

/-- States told anew, place by place. -/
theorem ren_of {r : List Nat} {s' s : St} (nd : r.Nodup) (hl : s'.heap.length = r.length) (hh : ∀ (j : Nat) (b : Blk), s'.heap[j]? = some b → ∃ i, r[j]? = some i ∧ s.heap[i]? = some (Blk.ren r b)) (tm : subTm (renTm r s'.tm) s.tm)
    (bt : belTm r.length s'.tm = true) (bh : ∀ b, b ∈ s'.heap → Blk.bel r.length b = true) : Ren [] r s' s := by
  refine ⟨nd, by simp, ?_, tm, bt, ?_⟩
  · have key : ∀ (l : List Blk) (q : List Nat) (H : List Blk), l.length = q.length → (∀ (j : Nat) (b : Blk), l[j]? = some b → ∃ i, q[j]? = some i ∧ H[i]? = some (Blk.ren r b)) → renHeap r l q H := by
      intro l
      induction l with
      | nil => intro q H hl _; cases q with
        | nil => trivial
        | cons a q => simp at hl
      | cons b l ih => intro q H hl hq; cases q with
        | nil => simp at hl
        | cons a q =>
          refine ⟨?_, ih q H (by simpa using hl) fun j c hj => by simpa using hq (j + 1) c (by simpa using hj)⟩
          obtain ⟨i, h1, h2⟩ := hq 0 b rfl
          simp at h1
          subst h1
          exact h2
    exact key _ _ _ hl hh
  · have key : ∀ l : List Blk, (∀ b, b ∈ l → Blk.bel r.length b = true) → belHeap r.length l = true := by
      intro l
      induction l with
      | nil => intro _; rfl
      | cons b l ih => intro h; simp only [belHeap, Bool.and_eq_true]; exact ⟨h b (by simp), ih fun c hc => h c (by simp [hc])⟩
    exact key _ bh

end Go.Aw
