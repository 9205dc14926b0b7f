/-
  Texts of the library, one behind the other. Over any program; no condition.
-/
import Derived.ProofKit
import Derived.Carry
import Derived.Deep.Strs
import Derived.Sort.Row
import Derived.Sort.Grow
import Derived.Test.YtecindhbaekncaaProg
import Derived.KernelRfl
import Derived.Test.YtecindhbaekncaaPkY
import Derived.Test.YtecindhbaekncaaPkC
namespace Go.Aw
set_option linter.unusedSimpArgs false
set_option linter.unusedVariables false
open Go.RowKit

/-- What a value holds, all the way down. -/
inductive Deep (H : List Blk) : V → D → Prop where
  | d (x : D) : Deep H (.d x) x
  | nil : Deep H .nil (.sl [])
  | data (id off len k : Nat) (rows : List (List D)) (h : H[id]? = some (.data k rows)) (hl : off + len ≤ rows.length) : Deep H (.ref id off len) (.sl ((rows.drop off).take len))
  | vrs (id k : Nat) (rs : List (List V)) (ds : List (List D)) (h : H[id]? = some (.vrs k rs)) (hl : ds.length = rs.length) (hk : ∀ (i : Nat) (row : List D), ds[i]? = some row → row.length = k)
      (hr : ∀ (i : Nat) (row : List V) (drow : List D) (j : Nat) (x : V) (y : D), rs[i]? = some row → ds[i]? = some drow → row[j]? = some x → drow[j]? = some y → Deep H x y) : Deep H (.ref id 0 rs.length) (.sl ds)
  | agg (xs : List V) (ds : List D) (hl : ds.length = xs.length) (hr : ∀ (j : Nat) (x : V) (y : D), xs[j]? = some x → ds[j]? = some y → Deep H x y) : Deep H (.agg xs) (.agg ds)
  | tup (xs : List V) (ds : List D) (hl : ds.length = xs.length) (hr : ∀ (j : Nat) (x : V) (y : D), xs[j]? = some x → ds[j]? = some y → Deep H x y) : Deep H (.tup xs) (.tup ds)

/-- All own blocks beside those that are read alone. -/
def allF (E : Env) (F : Nat → Prop) (H : List Blk) (b : Nat) : Prop := F b ∨ own E H b

theorem deep_sound {E : Env} {F : Nat → Prop} {w : World} {H : List Blk} (hr : HR E F w H) {x : V} {d : D} (h : Deep H x d) : ∀ {v : Value}, VR E F w x v → RD (allF E F H) w d v := by
  have up : ∀ {d : D} {v : Value}, RD F w d v → RD (allF E F H) w d v := fun h => h.evo (fun _ h => .inl h) (fun _ _ => rfl)
  induction h with
  | d x => intro v hv; cases hv with | d _ _ h => exact up h
  | nil => intro v hv; cases hv with | nil a => exact .sl0 a 0
  | data id off len k rows hH hl =>
    intro v hv
    cases hv with
    | ref _ _ _ b k' m a cap n hE hm ha hlc hb hc =>
      obtain ⟨h1, h2, h3, h4⟩ := hr.blk _ _ _ hE hH
      dsimp only at h1 h2
      subst h1
      rcases Nat.eq_zero_or_pos len with h0 | hpos
      · subst h0
        rw [List.take_zero]
        exact .sl0 a cap
      · rcases h4 with ⟨h4, _⟩ | ⟨b', cs, t, h4, hw, hsz, hcell⟩
        · cases h4
        · simp only [Option.some.injEq] at h4
          subst h4
          have hlen : ((rows.drop off).take len).length = len := by simp; omega
          rw [ha (.inl hpos)]
          have hget : ∀ (i : Nat) (row : List D), ((rows.drop off).take len)[i]? = some row → i < len ∧ rows[off + i]? = some row := fun i row hi => by
            have hlt := (List.getElem?_eq_some_iff.1 hi).1
            rw [hlen] at hlt
            rw [List.getElem?_take_of_lt hlt, List.getElem?_drop] at hi
            exact ⟨hlt, hi⟩
          have := RD.sl (F := allF E F H) (w := w) b (off * k') cap k' ((rows.drop off).take len) (fun i j => (w.cell? ⟨b, off * k' + (i * k' + j), none⟩).getD undef) (by omega) (.inr ⟨id, _, _, hE, hH, rfl, rfl⟩)
            (fun i row hi => (h3 _ _ (hget i row hi).2).1)
            (fun i j hi hj => by
              have hi' : off + i < rows.length := by omega
              obtain ⟨v, hv, _⟩ := hcell (off + i) rows[off + i] j (rows[off + i][j]'(by rw [(h3 _ _ (List.getElem?_eq_getElem hi')).1]; exact hj)) (List.getElem?_eq_getElem hi') (List.getElem?_eq_getElem _)
              have : w.cell? ⟨b, off * k' + (i * k' + j), none⟩ = some v := by
                rw [show off * k' + (i * k' + j) = (off + i) * k' + j by rw [Nat.add_mul]; omega]
                simp [World.cell?, hw, hv]
              rw [this]; rfl)
            (fun i row j x hi hj => by
              obtain ⟨hi1, hi2⟩ := hget i row hi
              obtain ⟨v, hv, hd⟩ := hcell (off + i) row j x hi2 hj
              have : w.cell? ⟨b, off * k' + (i * k' + j), none⟩ = some v := by
                rw [show off * k' + (i * k' + j) = (off + i) * k' + j by rw [Nat.add_mul]; omega]
                simp [World.cell?, hw, hv]
              rw [this]
              exact up hd)
          rwa [hlen] at this
    | refv _ k' m a hE =>
      rw [List.take_zero]
      exact .sl0 a 0
  | vrs id k rs ds hH hl hk hrr ih =>
    intro v hv
    generalize hn : rs.length = len at hv
    cases hv with
    | ref _ _ _ b k' m a cap n hE hm ha hlc hb hc =>
      obtain ⟨h1, h2, h3, h4⟩ := hr.blk _ _ _ hE hH
      dsimp only at h1 h2
      subst h1
      rcases Nat.eq_zero_or_pos len with h0 | hpos
      · have : ds = [] := List.eq_nil_of_length_eq_zero (by omega)
        subst this
        rw [h0]
        exact .sl0 a cap
      · rcases h4 with ⟨h4, _⟩ | ⟨b', cs, t, h4, hw, hsz, hcell⟩
        · cases h4
        · simp only [Option.some.injEq] at h4
          subst h4
          rw [ha (.inl hpos)]
          have := RD.sl (F := allF E F H) (w := w) b (0 * k') cap k' ds (fun i j => (w.cell? ⟨b, 0 * k' + (i * k' + j), none⟩).getD undef) (by omega) (.inr ⟨id, _, _, hE, hH, rfl, rfl⟩) hk
            (fun i j hi hj => by
              have hi' : i < rs.length := by omega
              obtain ⟨v, hv, _⟩ := hcell i rs[i] j (rs[i][j]'(by rw [h3 _ _ (List.getElem?_eq_getElem hi')]; exact hj)) (List.getElem?_eq_getElem hi') (List.getElem?_eq_getElem _)
              have : w.cell? ⟨b, 0 * k' + (i * k' + j), none⟩ = some v := by simp [World.cell?, hw, hv]
              rw [this]; rfl)
            (fun i row j y hi hj => by
              have hi' : i < rs.length := by have := (List.getElem?_eq_some_iff.1 hi).1; omega
              have hj' : j < rs[i].length := by
                have e1 := (List.getElem?_eq_some_iff.1 hj).1
                rw [h3 _ _ (List.getElem?_eq_getElem hi')]
                have e2 := hk i row hi
                omega
              obtain ⟨v, hv, _, hd⟩ := hcell i rs[i] j rs[i][j] (List.getElem?_eq_getElem hi') (List.getElem?_eq_getElem hj')
              have : w.cell? ⟨b, 0 * k' + (i * k' + j), none⟩ = some v := by simp [World.cell?, hw, hv]
              rw [this]
              exact ih i rs[i] row j rs[i][j] y (List.getElem?_eq_getElem hi') hi (List.getElem?_eq_getElem hj') hj hd)
          rw [show ds.length = len by omega] at this
          exact this
    | refv _ k' m a hE =>
      have : ds = [] := List.eq_nil_of_length_eq_zero (by omega)
      subst this
      exact .sl0 a 0
  | agg xs ds hl hrr ih =>
    intro v hv
    cases hv with
    | agg _ cs hs hr' =>
      refine .agg ds cs (by omega) fun j y v hy hv => ?_
      have hj : j < xs.length := by have := (List.getElem?_eq_some_iff.1 hy).1; omega
      exact ih j xs[j] y (List.getElem?_eq_getElem hj) hy (hr' j _ v (List.getElem?_eq_getElem hj) hv)
  | tup xs ds hl hrr ih =>
    intro v hv
    cases hv with
    | tup _ cs hs hr' =>
      refine .tup ds cs (by omega) fun j y v hy hv => ?_
      have hj : j < xs.length := by have := (List.getElem?_eq_some_iff.1 hy).1; omega
      exact ih j xs[j] y (List.getElem?_eq_getElem hj) hy (hr' j _ v (List.getElem?_eq_getElem hj) hv)

/-- The callee's result, read as data. -/
theorem AC.deep {P : Program} {f : FuncId} {args : List V} {H : List Blk} {R : V → List Blk → Prop} {R' : V → List Blk → Prop} (h : AC P f args H [] R) (hR : ∀ x H', R x H' → ∃ d, Deep H' x d ∧ R' (ofD d) []) : AC P f args H [] R' := by
  refine ⟨h.1, fun w cargs E F h1 h2 h3 h4 => (h.2 w cargs E F h1 h2 h3 h4).mono ?_⟩
  rintro e w' ⟨v, x, H', E', F', q1, q2, q3, q4⟩
  obtain ⟨d, r1, r2⟩ := hR x H' q2
  have hd := deep_sound q3.hr r1 q4
  refine ⟨v, ofD d, [], [], allF E' F' H', q1, r2, ⟨q3.os, q3.tape, q3.output, q3.size, fun b hb => .inl (q3.F0 b hb), ?_, q3.same, ?_, ⟨rfl, by simp, by simp, by simp⟩, by simp, by simp, q3.sz⟩, ofD_sound hd⟩
  · rintro b (hb | ⟨id, e, blk, g1, g2, g3, g4⟩)
    · exact q3.only b hb
    · exact .inr (q3.src id b e blk g1 g2 g3 g4)
  · rintro b (hb | ⟨id, e, blk, g1, g2, g3, g4⟩)
    · exact q3.lt b hb
    · exact (q3.hr.free id b e blk g1 g4 g2 g3).1

theorem pdd_of {P : Program} {f : FuncId} {fn : Func} {c : Code} {args : List D} {d0 : D} (rs : List ResultVar) (hf : P.funcs[f]? = some fn) (hb : fn.body = some c)
    (hnm : (fn.name == "runtime.NumGoroutine") = false) (hn : (args.map ofD).length ≤ fn.ntmps) (hok : codeOk fn.ntmps c = true) (hrs : fn.results.toList = rs)
    (h : AWP P [] fn.ntmps c ⟨argTm 0 (args.map ofD), []⟩ (Fin P rs fun x H => Deep H x d0)) : PD P f args (ofD d0) := by
  subst hrs
  exact AC.deep (R := fun x H => Deep H x d0) (ac_of hf hb hnm hn hok h) fun x H' hh => ⟨d0, hh, rfl, rfl⟩

/-- 'nil' as an empty slice of the walk's own, of values. -/
theorem awp_virtV {P : Program} {kp : List Nat} {n : Nat} {s : St} {Q : Exit → St → Prop} {c : Code} (i k : Nat) (hi : tget s.tm i = some .nil) (h : AWP P kp n c { tm := tput s.tm i (.ref s.heap.length 0 0), heap := s.heap ++ [.vrs k []] } Q) : AWP P kp n c s Q := by
  intro hok B a w E F h1 h2 h3
  subst h1
  obtain ⟨e1, e2⟩ := virt_relV h3.rel k
  refine h hok B a w _ F rfl h2 ⟨⟨e2.os, e2.tape, e2.output, e2.size, e2.F0, e2.only, e2.same, e2.lt, e2.hr, e2.src, e2.keep, e2.sz⟩, h3.defers, fun j x hx => ?_⟩
  simp only [tget_tput] at hx
  split at hx
  · rename_i hj
    subst hj
    simp at hx
    subst hx
    obtain ⟨v, hv, hr⟩ := h3.tm j _ hi
    refine ⟨v, hv, ?_⟩
    cases hr with
    | nil a => exact .refv _ k 0 a (by rw [← h3.rel.hr.len, List.getElem?_append_right (Nat.le_refl _)]; simp)
  · obtain ⟨v, hv, hr⟩ := h3.tm j x hx
    exact ⟨v, hv, hr.evo e1 (fun _ _ => trivial)⟩

/-- States told anew, place by place. -/
theorem ren_of {r : List Nat} {s' s : St} (nd : r.Nodup) (hl : s'.heap.length = r.length) (hh : ∀ (j : Nat) (b : Blk), s'.heap[j]? = some b → ∃ i, r[j]? = some i ∧ s.heap[i]? = some (Blk.ren r b)) (tm : subTm (renTm r s'.tm) s.tm)
    (bt : belTm r.length s'.tm = true) (bh : ∀ b, b ∈ s'.heap → Blk.bel r.length b = true) : Ren [] r s' s := by
  refine ⟨nd, by simp, ?_, tm, bt, ?_⟩
  · have key : ∀ (l : List Blk) (q : List Nat) (H : List Blk), l.length = q.length → (∀ (j : Nat) (b : Blk), l[j]? = some b → ∃ i, q[j]? = some i ∧ H[i]? = some (Blk.ren r b)) → renHeap r l q H := by
      intro l
      induction l with
      | nil => intro q H hl _; cases q with
        | nil => trivial
        | cons a q => simp at hl
      | cons b l ih => intro q H hl hq; cases q with
        | nil => simp at hl
        | cons a q =>
          refine ⟨?_, ih q H (by simpa using hl) fun j c hj => by simpa using hq (j + 1) c (by simpa using hj)⟩
          obtain ⟨i, h1, h2⟩ := hq 0 b rfl
          simp at h1
          subst h1
          exact h2
    exact key _ _ _ hl hh
  · have key : ∀ l : List Blk, (∀ b, b ∈ l → Blk.bel r.length b = true) → belHeap r.length l = true := by
      intro l
      induction l with
      | nil => intro _; rfl
      | cons b l ih => intro h; simp only [belHeap, Bool.and_eq_true]; exact ⟨h b (by simp), ih fun c hc => h c (by simp [hc])⟩
    exact key _ bh

end Go.Aw

namespace Go.Aw
set_option linter.unusedSimpArgs false
set_option linter.unusedVariables false
open Go.ChangeShapes Go.WideShapes Go.ChangeAt Go.RowKit

/-- Types of arguments: numbers, truth values, texts, slices, structs (fields in pairs), arrays. -/
inductive Ty where
  | int (k : IntKind)
  | bool
  | str
  | sl (e : Ty)
  | st (fs : Ty)
  | unit
  | pair (a b : Ty)
  | arr (n : Nat) (e : Ty)

/-- Cells of data of a type. -/
inductive Fits : Ty → List D → Prop
  | int (k : IntKind) (n : Int) (h : (Lit.int k n).wf = true) : Fits (.int k) [.int k n]
  | bool (b : Bool) : Fits .bool [.bool b]
  | str (s : ByteArray) (h : s.size ≤ maxLen) : Fits .str [.str s]
  | sl (e : Ty) (rows : List (List D)) (hl : rows.length ≤ maxLen) (h : ∀ row, row ∈ rows → Fits e row) : Fits (.sl e) [.sl rows]
  | st (fs : Ty) (xs : List D) (h : Fits fs xs) : Fits (.st fs) xs
  | unit : Fits .unit []
  | pair (a b : Ty) (xs ys : List D) (h : Fits a xs) (h' : Fits b ys) : Fits (.pair a b) (xs ++ ys)
  | arr0 (e : Ty) : Fits (.arr 0 e) []
  | arrS (n : Nat) (e : Ty) (xs ys : List D) (h : Fits e xs) (h' : Fits (.arr n e) ys) : Fits (.arr (n + 1) e) (xs ++ ys)

/-- The program's type is this one; for fields: from an offset on, with so many cells in all. -/
def Ty.is (P : Program) : Ty → TypeId ⊕ (List Field × Nat × Nat) → Bool
  | .int k, .inl t => match P.underlying t with
    | some (.int k') => k' == k
    | _ => false
  | .bool, .inl t => match P.underlying t with
    | some .bool => true
    | _ => false
  | .str, .inl t => match P.underlying t with
    | some .string => true
    | _ => false
  | .sl e, .inl t => match P.underlying t with
    | some (.slice e') => e.is P (.inl e') && decide (0 < P.cellsOf e')
    | _ => false
  | .st fs, .inl t => match P.underlying t with
    | some (.struct f) => fs.is P (.inr (f.toList, 0, P.cellsOf t))
    | _ => false
  | .arr n e, .inl t => match P.underlying t with
    | some (.array n' e') => n' == n && e.is P (.inl e') && P.cellsOf t == n * P.cellsOf e'
    | _ => false
  | .unit, .inr ([], off, tot) => off == tot
  | .pair a b, .inr (f :: r, off, tot) => f.offset == off && a.is P (.inl f.type) && b.is P (.inr (r, off + P.cellsOf f.type, tot))
  | _, _ => false

def CRL (W : World) (xs : List D) (cs : List Value) : Prop := ∀ (j : Nat) (x : D) (v : Value), xs[j]? = some x → cs[j]? = some v → RD (fun b => b < W.heap.size) W x v

theorem CRL.app {W : World} {xs ys : List D} {cs : List Value} {k : Nat} (h1 : CRL W xs (cs.take k)) (l1 : xs.length = (cs.take k).length) (h2 : CRL W ys (cs.drop k)) (l2 : ys.length = (cs.drop k).length) :
    CRL W (xs ++ ys) cs ∧ (xs ++ ys).length = cs.length := by
  have hs : cs = cs.take k ++ cs.drop k := (List.take_append_drop k cs).symm
  constructor
  · intro j x v hx hv
    rw [hs] at hv
    rw [List.getElem?_append] at hx hv
    rw [l1] at hx
    split at hx
    · rename_i hj
      rw [if_pos hj] at hv
      exact h1 j x v hx hv
    · rename_i hj
      rw [if_neg hj] at hv
      exact h2 _ x v hx hv
  · rw [List.length_append, l1, l2, ← List.length_append, ← hs]

theorem mapM_get {α β : Type} {f : α → Option β} : ∀ {l : List α} {m : List β}, l.mapM f = some m → m.length = l.length ∧ ∀ (i : Nat) (x : α), l[i]? = some x → ∃ y, f x = some y ∧ m[i]? = some y
  | [], m, h => by simp at h; subst h; simp
  | a :: l, m, h => by
    rw [List.mapM_cons] at h
    cases ha : f a with
    | none => simp [ha] at h
    | some y =>
      cases hl : l.mapM f with
      | none => simp [ha, hl] at h
      | some ys =>
        simp [ha, hl] at h
        subst h
        obtain ⟨h1, h2⟩ := mapM_get hl
        refine ⟨by simp [h1], fun i x hx => ?_⟩
        cases i with
        | zero => simp at hx; subst hx; exact ⟨y, ha, rfl⟩
        | succ i => simpa using h2 i x (by simpa using hx)

theorem trod_arr {e : Ty} {W : World} {k : Nat} : ∀ (n : Nat) (cs : List Value), cs.length = n * k →
    (∀ i, i < n → ∃ xs, Fits e xs ∧ xs.length = ((cs.drop (i * k)).take k).length ∧ CRL W xs ((cs.drop (i * k)).take k)) → ∃ xs, Fits (.arr n e) xs ∧ xs.length = cs.length ∧ CRL W xs cs
  | 0, cs, hl, h => by
    have : cs = [] := List.eq_nil_of_length_eq_zero (by omega)
    subst this
    exact ⟨[], .arr0 e, rfl, fun j x v hx => by simp at hx⟩
  | n + 1, cs, hl, h => by
    obtain ⟨xs, h1, h2, h3⟩ := h 0 (by omega)
    simp only [Nat.zero_mul, List.drop_zero] at h2 h3
    have hl' : cs.length = n * k + k := by rw [hl, Nat.add_mul, Nat.one_mul]
    obtain ⟨ys, q1, q2, q3⟩ := trod_arr (e := e) (W := W) (k := k) n (cs.drop k) (by rw [List.length_drop]; omega) (fun i hi => by
      have := h (i + 1) (by omega)
      rw [List.drop_drop]
      rwa [show k + i * k = (i + 1) * k by rw [Nat.add_mul]; omega])
    obtain ⟨c1, c2⟩ := CRL.app h3 h2 q3 q2
    exact ⟨xs ++ ys, .arrS n e xs ys h1 q1, c2, c1⟩

theorem add_spot0 (b off n : Nat) : (⟨b, off, none⟩ : Addr).add n = ⟨b, off + n, none⟩ := by
  simp [Addr.add]

section
variable {H : Type} {enc : TypeId × Value → H} {P : Program} {W : World} {sp : Nat → Bool} {hd : Bool}

/-- **Any argument's cells, read as data.** -/
theorem rd_is : ∀ (ty : Ty) (fuel : Nat),
    (∀ (t : TypeId) (cs : List Value) (x : DataW H × List MemPlace), ty.is P (.inl t) = true → DataW.trod enc P W 0 sp hd fuel t cs = some x → ∃ xs, Fits ty xs ∧ xs.length = cs.length ∧ CRL W xs cs) ∧
    (∀ (fs : List Field) (off tot : Nat) (cs : List Value) (l : List (DataW H × List MemPlace)), ty.is P (.inr (fs, off, tot)) = true → cs.length = tot →
      fs.mapM (fun f => DataW.trod enc P W 0 sp hd fuel f.type ((cs.drop f.offset).take (P.cellsOf f.type))) = some l → ∃ xs, Fits ty xs ∧ xs.length = (cs.drop off).length ∧ CRL W xs (cs.drop off)) := by
  intro ty
  induction ty with
  | int k =>
    intro fuel
    refine ⟨fun t cs x hty h => ?_, fun fs off tot cs l hty => by simp [Ty.is] at hty⟩
    simp only [Ty.is] at hty
    split at hty
    · rename_i k' hu
      have hk : k' = k := by simpa using hty
      subst hk
      obtain ⟨x0, e0, _, e2⟩ := DataW.trod_int hu h
      subst e0
      refine ⟨[.int k' x0], .int _ _ ?_, rfl, fun j y v hy hv => ?_⟩
      · cases fuel with
        | zero => simp [DataW.trod] at h
        | succ n =>
          simp only [DataW.trod, hu] at h
          split at h
          · rename_i hh; exact hh.2
          · cases h
      · match j with
        | 0 => simp at hy hv; subst hy hv; exact .int _ _
        | j + 1 => simp at hy
    · cases hty
  | bool =>
    intro fuel
    refine ⟨fun t cs x hty h => ?_, fun fs off tot cs l hty => by simp [Ty.is] at hty⟩
    simp only [Ty.is] at hty
    split at hty
    · rename_i hu
      cases fuel with
      | zero => simp [DataW.trod] at h
      | succ n =>
        unfold DataW.trod at h
        rw [hu] at h
        split at h <;> first | (rename_i h1 _; cases h1; done) | skip
        all_goals try (simp at *; done)
        rename_i b h1
        refine ⟨[.bool b], .bool b, rfl, fun j y v hy hv => ?_⟩
        match j with
        | 0 => simp at hy hv; subst hy hv; exact .bool _
        | j + 1 => simp at hy
    · cases hty
  | str =>
    intro fuel
    refine ⟨fun t cs x hty h => ?_, fun fs off tot cs l hty => by simp [Ty.is] at hty⟩
    simp only [Ty.is] at hty
    split at hty
    · rename_i hu
      cases fuel with
      | zero => simp [DataW.trod] at h
      | succ n =>
        unfold DataW.trod at h
        rw [hu] at h
        split at h <;> first | (rename_i h1 _; cases h1; done) | skip
        all_goals try (simp at *; done)
        rename_i s h1
        split at h
        · rename_i hsz
          refine ⟨[.str s], .str s hsz, rfl, fun j y v hy hv => ?_⟩
          match j with
          | 0 => simp at hy hv; subst hy hv; exact .str _
          | j + 1 => simp at hy
        · cases h
    · cases hty
  | sl e ih =>
    intro fuel
    refine ⟨fun t cs x hty h => ?_, fun fs off tot cs l hty => by simp [Ty.is] at hty⟩
    simp only [Ty.is] at hty
    split at hty
    · rename_i e' hu
      simp only [Bool.and_eq_true, decide_eq_true_eq] at hty
      obtain ⟨he, hk⟩ := hty
      rcases DataW.trod_slice hu h with ⟨rfl, _⟩ | ⟨a, len, cap, elems, rest, n, rfl, rfl, _, _, hl, hcap, hlen, hel, _⟩
      · refine ⟨[.sl []], .sl e [] (by simp) (by simp), rfl, fun j y v hy hv => ?_⟩
        match j with
        | 0 => simp at hy hv; subst hy hv; exact .sl0 _ _
        | j + 1 => simp at hy
      · have fin : ∀ (rows : List (List D)), Fits (.sl e) [.sl rows] → RD (fun b => b < W.heap.size) W (.sl rows) (.slice (some a) len cap) → ∃ xs, Fits (.sl e) xs ∧ xs.length = [Value.slice (some a) len cap].length ∧ CRL W xs [Value.slice (some a) len cap] := by
          intro rows h1 h2
          refine ⟨_, h1, rfl, fun j y v hy hv => ?_⟩
          match j with
          | 0 => simp at hy hv; subst hy hv; exact h2
          | j + 1 => simp at hy
        rcases Nat.eq_zero_or_pos len with h0 | hpos
        · subst h0
          exact fin [] (.sl e [] (by simp) (by simp)) (.sl0 _ _)
        have hkk : ∃ k, P.cellsOf e' = k ∧ 0 < k := ⟨_, rfl, hk⟩
        obtain ⟨k, hke, hk0⟩ := hkk
        rw [hke] at hel
        have row0 : ∀ i, i < len → ∃ cs, W.cells? 0 (a.add (i * k)) k = some cs ∧ ∃ y, DataW.trod enc P W 0 sp hd n e' cs = some y := by
          intro i hi
          have h2 := hel i hi
          rw [List.getElem?_eq_getElem (by omega), Option.bind_eq_some_iff] at h2
          obtain ⟨cs, hcs, ht⟩ := h2
          exact ⟨cs, hcs, _, ht⟩
        have hspot : a.spot = none := by
          obtain ⟨cs, hcs, _⟩ := row0 0 hpos
          simp only [World.cells?, Nat.zero_le, if_true, Nat.zero_mul] at hcs
          obtain ⟨_, hg⟩ := mapM_get hcs
          obtain ⟨y, hy, _⟩ := hg 0 0 (by rw [List.getElem?_range hk0])
          simp only [Addr.add, if_true] at hy
          unfold World.cell? at hy
          split at hy
          · split at hy
            · cases hy
            · rename_i hs; simpa using hs
          · cases hy
        obtain ⟨b, off, spo⟩ := a
        simp only at hspot
        subst hspot
        have row1 : ∀ i, i < len → ∃ xs, Fits e xs ∧ xs.length = k ∧ ∀ j, j < k → ∃ v, W.cell? ⟨b, off + (i * k + j), none⟩ = some v ∧ ∀ x, xs[j]? = some x → RD (fun b => b < W.heap.size) W x v := by
          intro i hi
          obtain ⟨cs, hcs, y, hy⟩ := row0 i hi
          simp only [World.cells?, Nat.zero_le, if_true, add_spot0] at hcs
          obtain ⟨hl1, hg⟩ := mapM_get hcs
          rw [List.length_range] at hl1
          obtain ⟨xs, f1, f2, f3⟩ := (ih n).1 e' cs y he hy
          refine ⟨xs, f1, by omega, fun j hj => ?_⟩
          obtain ⟨v, hv, hm⟩ := hg j j (by rw [List.getElem?_range hj])
          refine ⟨v, ?_, fun x hx => f3 j x v hx hm⟩
          rw [← hv, Nat.add_assoc]
        have ex : ∃ g : Nat → List D, ∀ i, i < len → Fits e (g i) ∧ (g i).length = k ∧ ∀ j, j < k → ∃ v, W.cell? ⟨b, off + (i * k + j), none⟩ = some v ∧ ∀ x, (g i)[j]? = some x → RD (fun b => b < W.heap.size) W x v :=
          ⟨fun i => if h : i < len then (row1 i h).choose else [], fun i hi => by simp only [hi, dif_pos]; exact (row1 i hi).choose_spec⟩
        obtain ⟨g, hg⟩ := ex
        have hb : b < W.heap.size := by
          obtain ⟨_, _, h1⟩ := hg 0 hpos
          obtain ⟨v, hv, _⟩ := h1 0 hk0
          rcases Nat.lt_or_ge b W.heap.size with h | h
          · exact h
          · simp [World.cell?, Array.getElem?_eq_none h] at hv
        have hrow : ∀ (i : Nat) (row : List D), ((List.range len).map g)[i]? = some row → i < len ∧ row = g i := fun i row hi => by
          simp only [List.getElem?_map, Option.map_eq_some_iff] at hi
          obtain ⟨q, hq, rfl⟩ := hi
          rw [List.getElem?_eq_some_iff] at hq
          obtain ⟨h1, h2⟩ := hq
          simp at h1 h2
          subst h2
          exact ⟨h1, rfl⟩
        have hl' : ((List.range len).map g).length = len := by simp
        have hrd := RD.sl (F := fun b => b < W.heap.size) (w := W) b off cap k ((List.range len).map g) (fun i j => (W.cell? ⟨b, off + (i * k + j), none⟩).getD undef) (by rw [hl']; exact hl) hb
          (fun i row hi => by obtain ⟨h1, rfl⟩ := hrow i row hi; exact (hg i h1).2.1)
          (fun i j hi hj => by
            rw [hl'] at hi
            obtain ⟨v, hv, _⟩ := (hg i hi).2.2 j hj
            rw [hv]; rfl)
          (fun i row j x hi hj => by
            obtain ⟨h1, rfl⟩ := hrow i row hi
            obtain ⟨_, h3, h4⟩ := hg i h1
            have hjk : j < k := by have := (List.getElem?_eq_some_iff.1 hj).1; omega
            obtain ⟨v, hv, h5⟩ := h4 j hjk
            rw [hv]
            exact h5 x hj)
        rw [hl'] at hrd
        refine fin _ (.sl e _ (by rw [hl']; omega) fun row hr => ?_) hrd
        obtain ⟨i, hi, rfl⟩ := List.mem_map.1 hr
        exact (hg i (List.mem_range.1 hi)).1
    · cases hty
  | st fs ih =>
    intro fuel
    refine ⟨fun t cs x hty h => ?_, fun fs off tot cs l hty => by simp [Ty.is] at hty⟩
    simp only [Ty.is] at hty
    split at hty
    · rename_i f hu
      cases fuel with
      | zero => simp [DataW.trod] at h
      | succ n =>
        simp only [DataW.trod, hu] at h
        split at h
        · rename_i hl
          simp only [Option.map_eq_some_iff] at h
          obtain ⟨l, hm, _⟩ := h
          obtain ⟨xs, h1, h2, h3⟩ := (ih n).2 f.toList 0 _ cs l hty hl hm
          rw [List.drop_zero] at h2 h3
          exact ⟨xs, .st fs xs h1, h2, h3⟩
        · cases h
    · cases hty
  | unit =>
    intro fuel
    refine ⟨fun t cs x hty h => by simp [Ty.is] at hty, fun fs off tot cs l hty hl h => ?_⟩
    cases fs with
    | cons f r => simp [Ty.is] at hty
    | nil =>
      simp only [Ty.is, beq_iff_eq] at hty
      refine ⟨[], .unit, ?_, fun j x v hx => by simp at hx⟩
      rw [List.length_drop]; simp; omega
  | pair a b iha ihb =>
    intro fuel
    refine ⟨fun t cs x hty h => by simp [Ty.is] at hty, fun fs off tot cs l hty hl h => ?_⟩
    cases fs with
    | nil => simp [Ty.is] at hty
    | cons f r =>
      simp only [Ty.is, Bool.and_eq_true, beq_iff_eq] at hty
      obtain ⟨⟨ho, ha⟩, hb⟩ := hty
      rw [List.mapM_cons] at h
      cases h1 : DataW.trod enc P W 0 sp hd fuel f.type ((cs.drop f.offset).take (P.cellsOf f.type)) with
      | none => simp [h1] at h
      | some y =>
        cases h2 : r.mapM (fun f => DataW.trod enc P W 0 sp hd fuel f.type ((cs.drop f.offset).take (P.cellsOf f.type))) with
        | none => simp [h1, h2] at h
        | some ys =>
          obtain ⟨xs, q1, q2, q3⟩ := (iha fuel).1 _ _ y ha h1
          obtain ⟨zs, r1, r2, r3⟩ := (ihb fuel).2 r _ tot cs ys hb hl h2
          rw [ho] at q2 q3
          rw [← List.drop_drop] at r2 r3
          obtain ⟨c1, c2⟩ := CRL.app q3 q2 r3 r2
          exact ⟨xs ++ zs, .pair a b xs zs q1 r1, c2, c1⟩
  | arr n e ih =>
    intro fuel
    refine ⟨fun t cs x hty h => ?_, fun fs off tot cs l hty => by simp [Ty.is] at hty⟩
    simp only [Ty.is] at hty
    split at hty
    · rename_i n' e' hu
      simp only [Bool.and_eq_true, beq_iff_eq] at hty
      obtain ⟨⟨rfl, he⟩, hcl⟩ := hty
      cases fuel with
      | zero => simp [DataW.trod] at h
      | succ m =>
        simp only [DataW.trod, hu] at h
        split at h
        · rename_i hl
          simp only [Option.map_eq_some_iff] at h
          obtain ⟨l, hm, _⟩ := h
          obtain ⟨_, hg⟩ := mapM_get hm
          refine trod_arr (k := P.cellsOf e') n' cs (by omega) fun i hi => ?_
          obtain ⟨y, hy, _⟩ := hg i i (by rw [List.getElem?_range hi])
          exact (ih m).1 e' _ y he hy
        · cases h
    · cases hty

/-- An argument: a struct or an array whole, all others as one cell. -/
def FitA : Ty → D → Prop
  | .st fs, x => ∃ xs, x = .agg xs ∧ Fits (.st fs) xs
  | .arr n e, x => ∃ xs, x = .agg xs ∧ Fits (.arr n e) xs
  | ty, x => Fits ty [x]

theorem one_of {ty : Ty} {xs : List D} {v : Value} (h : Fits ty xs) (hl : xs.length = [v].length) (hc : CRL W xs [v]) : ∃ x, Fits ty [x] ∧ VR [] (fun b => b < W.heap.size) W (ofD x) v := by
  match xs, hl with
  | [x], _ => exact ⟨x, h, ofD_sound (hc 0 x v rfl rfl)⟩

theorem arg_is {ty : Ty} {t : TypeId} {v : Value} {d : DataW H} {ps : List MemPlace} {base : Nat} (hty : ty.is P (.inl t) = true) (hval : Value.okWide P W .any base t v) (h : DataW.Trod enc P W 0 sp hd t v d ps) :
    ∃ x, FitA ty x ∧ VR [] (fun b => b < W.heap.size) W (ofD x) v := by
  obtain ⟨fuel, hf⟩ := h
  obtain ⟨xs, h1, h2, h3⟩ := (rd_is ty fuel).1 t _ _ hty hf
  have agg : ∀ cs : Array Value, v = .agg cs → VR [] (fun b => b < W.heap.size) W (ofD (.agg xs)) v := by
    rintro cs rfl
    refine ofD_sound (.agg xs cs (by simpa [Value.cells] using h2.symm) fun j x v hx hv => h3 j x v hx (by simpa [Value.cells] using hv))
  cases ty with
  | st fs =>
    simp only [Ty.is] at hty
    split at hty
    · rename_i f hu
      simp only [Value.okWide, hu] at hval
      obtain ⟨cs, hv, _⟩ := hval
      exact ⟨.agg xs, ⟨xs, rfl, h1⟩, agg cs hv⟩
    · cases hty
  | arr n e =>
    simp only [Ty.is] at hty
    split at hty
    · rename_i n' e' hu
      simp only [Value.okWide, hu] at hval
      obtain ⟨cs, hv, _⟩ := hval
      exact ⟨.agg xs, ⟨xs, rfl, h1⟩, agg cs hv⟩
    · cases hty
  | int k =>
    simp only [Ty.is] at hty
    split at hty
    · rename_i k' hu
      cases v <;> simp only [Value.okWide, hu, Cell.okWide, Cell.ok] at hval
      exact one_of h1 (by simpa [Value.cells] using h2) (by simpa [Value.cells] using h3)
    · cases hty
  | bool =>
    simp only [Ty.is] at hty
    split at hty
    · rename_i hu
      cases v <;> simp only [Value.okWide, hu, Cell.okWide, Cell.ok] at hval
      exact one_of h1 (by simpa [Value.cells] using h2) (by simpa [Value.cells] using h3)
    · cases hty
  | str =>
    simp only [Ty.is] at hty
    split at hty
    · rename_i hu
      cases v <;> simp only [Value.okWide, hu, Cell.okWide, Cell.ok] at hval
      exact one_of h1 (by simpa [Value.cells] using h2) (by simpa [Value.cells] using h3)
    · cases hty
  | sl e =>
    simp only [Ty.is] at hty
    split at hty
    · rename_i e' hu
      obtain ⟨a, len, cap, rfl⟩ := okWide_slice hu hval
      exact one_of h1 (by simpa [Value.cells] using h2) (by simpa [Value.cells] using h3)
    · cases hty
  | unit => simp [Ty.is] at hty
  | pair a b => simp [Ty.is] at hty

def FitAs : List Ty → List D → Prop
  | [], [] => True
  | ty :: tys, x :: xs => FitA ty x ∧ FitAs tys xs
  | _, _ => False
def isAll (P : Program) : List Ty → List TypeId → Bool
  | [], [] => true
  | ty :: tys, t :: ts => ty.is P (.inl t) && isAll P tys ts
  | _, _ => false

theorem args_is {base : Nat} : ∀ {tys : List Ty} {ts : List TypeId} {vs : List Value} {ds : List (DataW H)} {ps : List MemPlace}, isAll P tys ts = true → (∀ (j : Nat) (t : TypeId) (v : Value), ts[j]? = some t → vs[j]? = some v → Value.okWide P W .any base t v) →
    DataW.TrodAll enc P W 0 sp hd ts vs ds ps → ∃ xs, FitAs tys xs ∧ xs.length = vs.length ∧ ∀ (j : Nat) (x : D) (v : Value), xs[j]? = some x → vs[j]? = some v → VR [] (fun b => b < W.heap.size) W (ofD x) v
  | [], [], vs, ds, ps, _, _, h => by
    obtain ⟨rfl, _, _⟩ := trodAll_nil h
    exact ⟨[], trivial, rfl, fun j x v hx => by simp at hx⟩
  | [], t :: ts, _, _, _, hty, _, _ => by simp [isAll] at hty
  | ty :: tys, [], _, _, _, hty, _, _ => by simp [isAll] at hty
  | ty :: tys, t :: ts, vs, ds, ps, hty, hval, h => by
    simp only [isAll, Bool.and_eq_true] at hty
    cases vs with
    | nil => cases ds <;> exact h.elim
    | cons v vs =>
      cases ds with
      | nil => exact h.elim
      | cons d ds =>
        obtain ⟨p, q, h1, h2, _⟩ := h
        obtain ⟨x, f1, f2⟩ := arg_is hty.1 (hval 0 t v rfl rfl) h1
        obtain ⟨xs, g1, g2, g3⟩ := args_is hty.2 (fun j t v ht hv => hval (j + 1) t v (by simpa using ht) (by simpa using hv)) h2
        refine ⟨x :: xs, ⟨f1, g1⟩, by simp [g2], fun j y u hy hu => ?_⟩
        cases j with
        | zero => simp at hy hu; subst hy hu; exact f2
        | succ j => exact g3 j y u (by simpa using hy) (by simpa using hu)

theorem trodAll_len {base : Nat} : ∀ {ts : List TypeId} {vs : List Value} {ds : List (DataW H)} {ps : List MemPlace}, DataW.TrodAll enc P W base sp hd ts vs ds ps → ds.length = ts.length
  | [], vs, ds, ps, h => by obtain ⟨_, rfl, _⟩ := trodAll_nil h; rfl
  | t :: ts, vs, ds, ps, h => by
    cases vs with
    | nil => cases ds <;> exact h.elim
    | cons v vs =>
      cases ds with
      | nil => exact h.elim
      | cons d ds =>
        obtain ⟨p, q, _, h2, _⟩ := h
        simp [trodAll_len h2]

def readAll (P : Program) (ts : List TypeId) : Bool := ts.all fun t => P.readableRec t && decide (t < P.types.size)
theorem trodAll_below {W' : World} (hl : laidOutB P = true) (hb : Below W.heap.size W W') : ∀ {ts : List TypeId} {vs : List Value} {ds : List (DataW H)} {ps : List MemPlace}, readAll P ts = true →
    DataW.TrodAll enc P W 0 (fun _ => true) true ts vs ds ps → (∀ x ∈ ps, x.block < W.heap.size) → DataW.TrodAll enc P W' 0 (fun b => decide (b < W.heap.size)) true ts vs ds ps
  | [], vs, ds, ps, _, h, _ => by
    obtain ⟨rfl, rfl, rfl⟩ := trodAll_nil h
    rfl
  | t :: ts, vs, ds, ps, hr, h, hlt => by
    simp only [readAll, List.all_cons, Bool.and_eq_true, decide_eq_true_eq] at hr
    cases vs with
    | nil => cases ds <;> exact h.elim
    | cons v vs =>
      cases ds with
      | nil => exact h.elim
      | cons d ds =>
        obtain ⟨p, q, h1, h2, rfl⟩ := h
        exact ⟨p, q, Below.trod hl hr.1.1 hr.1.2 h1 hb (fun x hx => hlt x (by simp [hx])), trodAll_below hl hb hr.2 h2 (fun x hx => hlt x (by simp [hx])), rfl⟩

/-- What a call over data leaves: its result, and all old memory. -/
theorem pd_callsG {f : FuncId} {args : List D} {x0 : V} (h : PD P f args x0) {cargs : Array Value} (hc : CR [] (fun b => b < W.heap.size) W (args.map ofD) cargs) :
    Calls P f cargs W fun e W' => ∃ v E' F', e = .returned v ∧ Below W.heap.size W W' ∧ VR E' F' W' x0 v := by
  refine (h.2 W cargs [] (fun b => b < W.heap.size) ⟨rfl, by simp, by simp, by simp⟩ (fun b hb => hb) (by simp) hc).mono ?_
  rintro e W' ⟨v, x, H', E', F', rfl, ⟨rfl, rfl⟩, hr, hv⟩
  refine ⟨v, E', F', rfl, ⟨hr.os, hr.tape, hr.output.output, hr.size, fun k hk => hr.same k hk ?_⟩, hv⟩
  rintro ⟨id, en, blk, h1, _⟩
  simp at h1

/-- **A row that says 'true, and the input reads as it did', from a contract over data.** -/
theorem row_true (hl : laidOutB P = true) {f : FuncId} {fn : Func} {s : ChangeSpec} {tys : List Ty} {bt : TypeId} {apart fresh : Bool} (hty : isAll P tys fn.params.toList = true) (hrd : readAll P fn.params.toList = true) (hres : fn.resultTypes = #[bt]) (hbt : P.underlying bt = some .bool)
    (hvars : s.vars = []) (hs : ∀ ds : List (DataW H), ds.length = tys.length → s.fn H ds = { results := [.lit (.bool true)], args := ds }) (h : ∀ xs, FitAs tys xs → PD P f xs (.d (.bool true)))
    {args : Array Value} {ds gs : List (DataW H)} {before : List MemPlace} {base : Nat} (hval : ∀ (j : Nat) (t : TypeId) (v : Value), fn.params[j]? = some t → args[j]? = some v → Value.okWide P W .any base t v)
    (hW : DataW.Whole enc P fn.params.toList s.vars apart W args.toList ds gs before) :
    Calls P f args W fun e W' => ∃ v, e = .returned v ∧ s.post enc P fn apart fresh false false W args v W' := by
  have hW' := hW
  obtain ⟨p, q, hA, hV, hpq, hfz, hnd⟩ := hW
  rw [hvars] at hV
  obtain ⟨rfl, rfl⟩ := trodVars_none hV
  obtain ⟨xs, f1, f2, f3⟩ := args_is hty (fun j t v ht hv => hval j t v (by simpa using ht) (by simpa using hv)) hA
  refine (pd_callsG (W := W) (h xs f1) ⟨by simp [f2], fun j z v hz hv => ?_⟩).mono fun e W' ⟨v, E', F', he, hb, hv⟩ => ?_
  · simp only [List.getElem?_map, Option.map_eq_some_iff] at hz
    obtain ⟨x, hx, rfl⟩ := hz
    exact f3 j x v hx (by simpa using hv)
  subst he
  have hvv := bool_of hv
  subst hvv
  have hlt : ∀ x ∈ p, x.block < W.heap.size := fun x hx => by
    have := hW'.lt x (by rw [hpq]; simp [hx])
    simpa using this
  have hdl : ds.length = tys.length := by
    have h1 := trodAll_len hA
    have h2 : ∀ {tys : List Ty} {ts : List TypeId}, isAll P tys ts = true → tys.length = ts.length := by
      intro tys
      induction tys with
      | nil => intro ts h; cases ts with
        | nil => rfl
        | cons a b => simp [isAll] at h
      | cons a b ih => intro ts h; cases ts with
        | nil => simp [isAll] at h
        | cons c d => simp only [isAll, Bool.and_eq_true] at h; simp [ih h.2]
    rw [h1, h2 hty]
  have hfn := hs ds hdl
  refine ⟨_, rfl, ds, [], before, [], p, [], hW', ?_, ?_, ?_, hb.frame _, fun h => by cases h⟩
  · rw [List.append_nil, hfn, hres]
    exact trodAll_mk1 (shut_bool hbt true)
  · rw [List.append_nil, hfn]
    exact trodAll_below hl hb hrd hA hlt
  · rw [hvars, List.append_nil, hfn]
    rfl

end
end Go.Aw

namespace Go.Aw
set_option linter.unusedSimpArgs false
set_option linter.unusedVariables false
open Go.RowKit

theorem fitAs_cons {t : Ty} {ts : List Ty} {xs : List D} (h : FitAs (t :: ts) xs) : ∃ x r, xs = x :: r ∧ FitA t x ∧ FitAs ts r := by
  cases xs with
  | nil => exact h.elim
  | cons x r => exact ⟨x, r, rfl, h.1, h.2⟩
theorem fitAs_nil {xs : List D} (h : FitAs [] xs) : xs = [] := by
  cases xs with
  | nil => rfl
  | cons x r => exact h.elim

theorem fits_int {k : IntKind} {xs : List D} (h : Fits (.int k) xs) : ∃ n, xs = [.int k n] ∧ (Lit.int k n).wf = true := by
  cases h with | int k n h => exact ⟨n, rfl, h⟩
theorem fits_sl {e : Ty} {xs : List D} (h : Fits (.sl e) xs) : ∃ rows, xs = [.sl rows] ∧ rows.length ≤ maxLen ∧ ∀ row, row ∈ rows → Fits e row := by
  cases h with | sl e rows hl h => exact ⟨rows, rfl, hl, h⟩
theorem wf_i64 {n : Int} (h : (Lit.int .i64 n).wf = true) : -9223372036854775808 ≤ n ∧ n ≤ 9223372036854775807 := by
  simp only [Lit.wf, IntKind.min, IntKind.max, IntKind.bits, IntKind.signed] at h
  simp at h
  omega

theorem fit_int {x : D} (h : FitA (.int .i64) x) : ∃ n, x = .int .i64 n ∧ -9223372036854775808 ≤ n ∧ n ≤ 9223372036854775807 := by
  obtain ⟨n, h1, h2⟩ := fits_int h
  simp at h1
  exact ⟨n, h1, wf_i64 h2⟩
theorem rows_mapP {α : Type} {f : α → List D} {p : α → Prop} : ∀ {rows : List (List D)}, (∀ row, row ∈ rows → ∃ a, row = f a ∧ p a) → ∃ l : List α, rows = l.map f ∧ ∀ a, a ∈ l → p a
  | [], _ => ⟨[], rfl, by simp⟩
  | r :: rows, h => by
    obtain ⟨a, ha, hp⟩ := h r (by simp)
    obtain ⟨l, hl, hq⟩ := rows_mapP (rows := rows) fun row hr => h row (by simp [hr])
    exact ⟨a :: l, by simp [ha, hl], fun b hb => by
      rcases List.mem_cons.1 hb with rfl | hb
      · exact hp
      · exact hq b hb⟩

theorem fit_ints {x : D} (h : FitA (.sl (.int .i64)) x) : ∃ l : List Int, x = .sl (l.map fun n => [.int .i64 n]) ∧ l.length ≤ maxLen ∧ ∀ n, n ∈ l → -9223372036854775808 ≤ n ∧ n ≤ 9223372036854775807 := by
  obtain ⟨rows, h1, h2, h3⟩ := fits_sl h
  simp at h1
  subst h1
  obtain ⟨l, rfl, hl⟩ := rows_mapP (f := fun n => [.int .i64 n]) (p := fun n : Int => -9223372036854775808 ≤ n ∧ n ≤ 9223372036854775807) fun row hr => by
    obtain ⟨n, e, hw⟩ := fits_int (h3 row hr)
    exact ⟨n, e, wf_i64 hw⟩
  exact ⟨l, rfl, by simpa using h2, hl⟩

end Go.Aw

namespace Go.Aw
set_option linter.unusedSimpArgs false
set_option linter.unusedVariables false
open Go.RowKit Go.Sort

/-- An own row has other cells now; what else was there stands; new blocks may have come. -/
theorem Rel.rewritten {B : Base} {s : St} {E : Env} {F : Nat → Prop} {w w' : World} (hr : Rel B s E F w) {i b : Nat} {e : En} {blk blk' : Blk} {cs cs' : Array Value} {t : TypeId}
    (he : E[i]? = some e) (hb : s.heap[i]? = some blk) (hl : blk.live = true) (heb : e.blk = some b) (hw : w.heap[b]? = some (.cells cs t (0, 0))) (hw' : w'.heap[b]? = some (.cells cs' t (0, 0))) (hsz : cs'.size = cs.size)
    (hos : w'.os = w.os) (htp : w'.tape = w.tape) (hlt : Later w w') (hsize : w.heap.size ≤ w'.heap.size) (hoth : ∀ c, c < w.heap.size → c ≠ b → w'.heap[c]? = w.heap[c]?)
    (hbr : BR E F w' e blk') :
    Evo E F w E F w' (fun _ => True) ∧ Rel B { s with heap := s.heap.set i blk' } E F w' := by
  obtain ⟨hbl, hbF⟩ := hr.hr.free i b e blk he heb hb hl
  have hlow : ∀ c, c ≠ b → ∀ o, w.heap[c]? = some o → w'.heap[c]? = w.heap[c]? := fun c hc o ho => by
    rcases Nat.lt_or_ge c w.heap.size with h | h
    · exact hoth c h hc
    · rw [Array.getElem?_eq_none h] at ho; cases ho
  have hsame : ∀ c, F c → w'.heap[c]? = w.heap[c]? := fun c hc => hoth c (hr.lt c hc) (fun e => hbF (e ▸ hc))
  have hszs : ∀ c n, Sz w c n → Sz w' c n := fun c n h => by
    by_cases hcb : c = b
    · subst hcb
      obtain ⟨c0, u, hc, hn⟩ := h
      rw [hw] at hc
      simp only [Option.some.injEq, Obj.cells.injEq] at hc
      obtain ⟨rfl, rfl, _⟩ := hc
      exact ⟨cs', _, hw', by omega⟩
    · obtain ⟨c0, u, hc, hn⟩ := h
      exact ⟨c0, u, (hlow c hcb _ hc).trans hc, hn⟩
  have evo : Evo E F w E F w' (fun _ => True) := ⟨fun _ h => h, hsame, fun _ _ _ h => h, hszs⟩
  have hget : ∀ (j : Nat) (bj : Blk), (s.heap.set i blk')[j]? = some bj → (j = i ∧ bj = blk') ∨ (j ≠ i ∧ s.heap[j]? = some bj) := fun j bj hj => by
    rw [List.getElem?_set] at hj
    split at hj
    · split at hj
      · simp at hj; exact .inl ⟨(by assumption : i = j).symm, hj.symm⟩
      · cases hj
    · exact .inr ⟨Ne.symm (by assumption), hj⟩
  refine ⟨evo, hos.trans hr.os, htp.trans hr.tape, hlt.trans hr.output, Nat.le_trans hr.size hsize, hr.F0, hr.only,
    fun c h1 h2 => (hoth c (Nat.lt_of_lt_of_le h1 hr.size) (fun q => (hr.src i b e blk he hb hl heb).elim (fun h => by omega) (fun h => h2 (q ▸ h)))).trans (hr.same c h1 h2),
    fun c hc => Nat.lt_of_lt_of_le (hr.lt c hc) hsize, ⟨by simpa using hr.hr.len, ?_, ?_, ?_⟩, ?_, hr.keep, fun c n h => hszs c n (hr.sz c n h)⟩
  · intro j ej bj hEj hj
    rcases hget j bj hj with ⟨rfl, rfl⟩ | ⟨hji, hj⟩
    · rw [he] at hEj
      simp only [Option.some.injEq] at hEj
      subst hEj
      exact hbr
    · cases hlj : bj.live with
      | false => cases bj <;> simp_all [Blk.live]; trivial
      | true =>
        refine (hr.hr.blk j ej bj hEj hj).evo evo (fun _ _ => trivial) fun c hc => hoth c (hr.hr.free j c ej bj hEj hc hj hlj).1 fun e => ?_
        subst e
        exact hji (hr.hr.inj j i c ej _ bj blk hEj he hc heb hj hb hlj hl)
  · intro j c ej bj hEj hc hj hlj
    rcases hget j bj hj with ⟨rfl, rfl⟩ | ⟨hji, hj⟩
    · rw [he] at hEj
      simp only [Option.some.injEq] at hEj
      subst hEj
      have := hr.hr.free j c _ blk he hc hb hl
      exact ⟨Nat.lt_of_lt_of_le this.1 hsize, this.2⟩
    · have := hr.hr.free j c ej bj hEj hc hj hlj
      exact ⟨Nat.lt_of_lt_of_le this.1 hsize, this.2⟩
  · intro j l c ej el bj bl hEj hEl hcj hcl hj hl' hlj hll
    have hb' : ∀ (j : Nat) (bj : Blk), (s.heap.set i blk')[j]? = some bj → bj.live = true → ∃ b0, s.heap[j]? = some b0 ∧ b0.live = true := fun j bj hj hlj => by
      rcases hget j bj hj with ⟨rfl, rfl⟩ | ⟨hji, hj⟩
      · exact ⟨blk, hb, hl⟩
      · exact ⟨bj, hj, hlj⟩
    obtain ⟨b0, h0, hl0⟩ := hb' j bj hj hlj
    obtain ⟨b1, h1, hl1⟩ := hb' l bl hl' hll
    exact hr.hr.inj j l c ej el b0 b1 hEj hEl hcj hcl h0 h1 hl0 hl1
  · intro j c ej bj hEj hj hlj hc
    rcases hget j bj hj with ⟨rfl, rfl⟩ | ⟨hji, hj⟩
    · exact hr.src j c ej blk hEj hb hl hc
    · exact hr.src j c ej bj hEj hj hlj hc

/-- The world of own memory as a relation to itself. -/
theorem Rel.start {w : World} {F : Nat → Prop} {E : Env} {H : List Blk} {kp : List Nat} (h1 : HR E F w H) (h2 : ∀ b, F b → b < w.heap.size) (h3 : ∀ i, i ∈ kp → i < H.length) : Rel ⟨w, F, own E H, E, kp⟩ ⟨[], H⟩ E F w := by
  refine ⟨rfl, rfl, .refl _, Nat.le_refl _, fun _ h => h, fun _ h => .inl h, fun _ _ _ => rfl, h2, h1, ?_, ?_, fun _ _ h => h⟩
  · exact fun id b e blk q1 q2 q3 q4 => .inr ⟨id, e, blk, q1, q2, q3, q4⟩
  · intro i hi
    have := h3 i hi
    rw [← h1.len] at this
    exact ⟨_, List.getElem?_eq_getElem this, List.getElem?_eq_getElem this⟩

/-- What a call over data leaves, in the words of the library's contracts: draws and new blocks. -/
theorem pd_grown {P : Program} {f : FuncId} {args : List D} {x0 : V} (h : PC P f args fun x H => x = x0 ∧ H = []) {W : World} {F : Nat → Prop} (hF : ∀ b, F b → b < W.heap.size) {cargs : Array Value} (hc : CR [] F W (args.map ofD) cargs) :
    Calls P f cargs W fun e W' => (∃ v E' F', e = .returned v ∧ VR E' F' W' x0 v) ∧ ∃ q os', W' = grow (W.drewN q) os' := by
  refine (h.2 W cargs [] F ⟨rfl, by simp, by simp, by simp⟩ hF (by simp) hc).mono ?_
  rintro e W' ⟨v, x, H', E', F', rfl, ⟨rfl, rfl⟩, hr, hv⟩
  refine ⟨⟨v, E', F', rfl, hv⟩, W'.drawn - W.drawn, W'.heap.extract W.heap.size W'.heap.size, ?_⟩
  have hsame : ∀ k, k < W.heap.size → W'.heap[k]? = W.heap[k]? := fun k hk => hr.same k hk (by
    rintro ⟨id, en, blk, h1, _⟩
    simp at h1)
  obtain ⟨hp, tp, dr, os, out⟩ := W'
  have hos := hr.os
  have htp := hr.tape
  have hout := hr.output.output
  have hdr := hr.output.drawn
  have hsz := hr.size
  simp only at hos htp hout hdr hsz hsame
  subst hos htp hout
  simp only [grow, World.drewN, World.mk.injEq, true_and, and_true]
  refine ⟨?_, by omega⟩
  apply Array.ext_getElem?
  intro k
  rw [Array.getElem?_append]
  split
  · rename_i hk; exact hsame k hk
  · rename_i hk
    rw [Array.getElem?_extract]
    split
    · rename_i hk2
      congr 1; omega
    · rename_i hk2
      exact Array.getElem?_eq_none (by omega)

end Go.Aw

namespace Go.Aw
set_option linter.unusedSimpArgs false
set_option linter.unusedVariables false
open Go.RowKit

theorem tz1 : ksz Go.Proofs.Try.prog 1 = some (false, 1) := by kernel_rfl
theorem tzero1 : kzero Go.Proofs.Try.prog 1 = some [.d .nilfn] := by kernel_rfl
theorem tz2 : ksz Go.Proofs.Try.prog 2 = some (false, 1) := by kernel_rfl
theorem tzero2 : kzero Go.Proofs.Try.prog 2 = some [.d (.int .i64 0)] := by kernel_rfl
theorem tzv2 : kzeroV Go.Proofs.Try.prog 2 = some (.d (.int .i64 0)) := by kernel_rfl
theorem tby2 : kbytes Go.Proofs.Try.prog 2 = some 8 := by kernel_rfl
theorem tint2 : kint Go.Proofs.Try.prog 2 = some .i64 := by kernel_rfl
theorem tstr2 : kstr Go.Proofs.Try.prog 2 = false := by kernel_rfl
theorem tlf2 : klf Go.Proofs.Try.prog 2 = 1 := by kernel_rfl
theorem tz3 : ksz Go.Proofs.Try.prog 3 = some (false, 1) := by kernel_rfl
theorem tzero3 : kzero Go.Proofs.Try.prog 3 = some [.d (.int .i64 0)] := by kernel_rfl
theorem tzv3 : kzeroV Go.Proofs.Try.prog 3 = some (.d (.int .i64 0)) := by kernel_rfl
theorem tby3 : kbytes Go.Proofs.Try.prog 3 = some 8 := by kernel_rfl
theorem tint3 : kint Go.Proofs.Try.prog 3 = some .i64 := by kernel_rfl
theorem tstr3 : kstr Go.Proofs.Try.prog 3 = false := by kernel_rfl
theorem tlf3 : klf Go.Proofs.Try.prog 3 = 1 := by kernel_rfl
theorem tz4 : ksz Go.Proofs.Try.prog 4 = some (false, 1) := by kernel_rfl
theorem tzero4 : kzero Go.Proofs.Try.prog 4 = some [.d (.bool false)] := by kernel_rfl
theorem tzv4 : kzeroV Go.Proofs.Try.prog 4 = some (.d (.bool false)) := by kernel_rfl
theorem tby4 : kbytes Go.Proofs.Try.prog 4 = some 1 := by kernel_rfl
theorem tlf4 : klf Go.Proofs.Try.prog 4 = 2 := by kernel_rfl
theorem tz5 : ksz Go.Proofs.Try.prog 5 = some (false, 1) := by kernel_rfl
theorem tzero5 : kzero Go.Proofs.Try.prog 5 = some [.d (.int .u8 0)] := by kernel_rfl
theorem tzv5 : kzeroV Go.Proofs.Try.prog 5 = some (.d (.int .u8 0)) := by kernel_rfl
theorem tby5 : kbytes Go.Proofs.Try.prog 5 = some 1 := by kernel_rfl
theorem tint5 : kint Go.Proofs.Try.prog 5 = some .u8 := by kernel_rfl
theorem tstr5 : kstr Go.Proofs.Try.prog 5 = false := by kernel_rfl
theorem tlf5 : klf Go.Proofs.Try.prog 5 = 1 := by kernel_rfl
theorem tz6 : ksz Go.Proofs.Try.prog 6 = some (false, 1) := by kernel_rfl
theorem tzero6 : kzero Go.Proofs.Try.prog 6 = some [.d (.int .u8 0)] := by kernel_rfl
theorem tzv6 : kzeroV Go.Proofs.Try.prog 6 = some (.d (.int .u8 0)) := by kernel_rfl
theorem tby6 : kbytes Go.Proofs.Try.prog 6 = some 1 := by kernel_rfl
theorem tint6 : kint Go.Proofs.Try.prog 6 = some .u8 := by kernel_rfl
theorem tstr6 : kstr Go.Proofs.Try.prog 6 = false := by kernel_rfl
theorem tlf6 : klf Go.Proofs.Try.prog 6 = 1 := by kernel_rfl
theorem tz7 : ksz Go.Proofs.Try.prog 7 = some (true, 4) := by kernel_rfl
theorem tzero7 : kzero Go.Proofs.Try.prog 7 = some [.d (.int .i64 0), .d (.int .i64 0), .d (.bool false), .d (.int .u8 0)] := by kernel_rfl
theorem tzv7 : kzeroV Go.Proofs.Try.prog 7 = some (.agg [.d (.int .i64 0), .d (.int .i64 0), .d (.bool false), .d (.int .u8 0)]) := by kernel_rfl
theorem tby7 : kbytes Go.Proofs.Try.prog 7 = some 24 := by kernel_rfl
theorem tpls7 : kplaces Go.Proofs.Try.prog 7 = true := by kernel_rfl
theorem tf7_0 : kfld Go.Proofs.Try.prog 7 0 = some (0, 2) := by kernel_rfl
theorem tpl7_0 : kplace Go.Proofs.Try.prog 7 0 = some (0, 1) := by kernel_rfl
theorem tf7_1 : kfld Go.Proofs.Try.prog 7 1 = some (1, 3) := by kernel_rfl
theorem tpl7_1 : kplace Go.Proofs.Try.prog 7 1 = some (1, 1) := by kernel_rfl
theorem tf7_2 : kfld Go.Proofs.Try.prog 7 2 = some (2, 4) := by kernel_rfl
theorem tpl7_2 : kplace Go.Proofs.Try.prog 7 2 = some (2, 1) := by kernel_rfl
theorem tf7_3 : kfld Go.Proofs.Try.prog 7 3 = some (3, 6) := by kernel_rfl
theorem tpl7_3 : kplace Go.Proofs.Try.prog 7 3 = some (3, 1) := by kernel_rfl
theorem tz8 : ksz Go.Proofs.Try.prog 8 = some (true, 4) := by kernel_rfl
theorem tzero8 : kzero Go.Proofs.Try.prog 8 = some [.d (.int .i64 0), .d (.int .i64 0), .d (.bool false), .d (.int .u8 0)] := by kernel_rfl
theorem tzv8 : kzeroV Go.Proofs.Try.prog 8 = some (.agg [.d (.int .i64 0), .d (.int .i64 0), .d (.bool false), .d (.int .u8 0)]) := by kernel_rfl
theorem tby8 : kbytes Go.Proofs.Try.prog 8 = some 24 := by kernel_rfl
theorem tpls8 : kplaces Go.Proofs.Try.prog 8 = true := by kernel_rfl
theorem tf8_0 : kfld Go.Proofs.Try.prog 8 0 = some (0, 2) := by kernel_rfl
theorem tpl8_0 : kplace Go.Proofs.Try.prog 8 0 = some (0, 1) := by kernel_rfl
theorem tf8_1 : kfld Go.Proofs.Try.prog 8 1 = some (1, 3) := by kernel_rfl
theorem tpl8_1 : kplace Go.Proofs.Try.prog 8 1 = some (1, 1) := by kernel_rfl
theorem tf8_2 : kfld Go.Proofs.Try.prog 8 2 = some (2, 4) := by kernel_rfl
theorem tpl8_2 : kplace Go.Proofs.Try.prog 8 2 = some (2, 1) := by kernel_rfl
theorem tf8_3 : kfld Go.Proofs.Try.prog 8 3 = some (3, 6) := by kernel_rfl
theorem tpl8_3 : kplace Go.Proofs.Try.prog 8 3 = some (3, 1) := by kernel_rfl
theorem tz9 : ksz Go.Proofs.Try.prog 9 = some (false, 1) := by kernel_rfl
theorem tzero9 : kzero Go.Proofs.Try.prog 9 = some [.d (.str ByteArray.empty)] := by kernel_rfl
theorem tzv9 : kzeroV Go.Proofs.Try.prog 9 = some (.d (.str ByteArray.empty)) := by kernel_rfl
theorem tby9 : kbytes Go.Proofs.Try.prog 9 = some 16 := by kernel_rfl
theorem tstr9 : kstr Go.Proofs.Try.prog 9 = true := by kernel_rfl
theorem tsl9 : ksl Go.Proofs.Try.prog 9 = false := by kernel_rfl
theorem tseq9 : kseq Go.Proofs.Try.prog 9 = true := by kernel_rfl
theorem tlf9 : klf Go.Proofs.Try.prog 9 = 3 := by kernel_rfl
theorem tz10 : ksz Go.Proofs.Try.prog 10 = some (false, 1) := by kernel_rfl
theorem tzero10 : kzero Go.Proofs.Try.prog 10 = some [.d (.str ByteArray.empty)] := by kernel_rfl
theorem tzv10 : kzeroV Go.Proofs.Try.prog 10 = some (.d (.str ByteArray.empty)) := by kernel_rfl
theorem tby10 : kbytes Go.Proofs.Try.prog 10 = some 16 := by kernel_rfl
theorem tstr10 : kstr Go.Proofs.Try.prog 10 = true := by kernel_rfl
theorem tsl10 : ksl Go.Proofs.Try.prog 10 = false := by kernel_rfl
theorem tseq10 : kseq Go.Proofs.Try.prog 10 = true := by kernel_rfl
theorem tlf10 : klf Go.Proofs.Try.prog 10 = 3 := by kernel_rfl
theorem tz11 : ksz Go.Proofs.Try.prog 11 = some (false, 1) := by kernel_rfl
theorem tzero11 : kzero Go.Proofs.Try.prog 11 = some [.d (.str ByteArray.empty)] := by kernel_rfl
theorem tzv11 : kzeroV Go.Proofs.Try.prog 11 = some (.d (.str ByteArray.empty)) := by kernel_rfl
theorem tby11 : kbytes Go.Proofs.Try.prog 11 = some 16 := by kernel_rfl
theorem tstr11 : kstr Go.Proofs.Try.prog 11 = true := by kernel_rfl
theorem tsl11 : ksl Go.Proofs.Try.prog 11 = false := by kernel_rfl
theorem tseq11 : kseq Go.Proofs.Try.prog 11 = true := by kernel_rfl
theorem tlf11 : klf Go.Proofs.Try.prog 11 = 3 := by kernel_rfl
theorem tz12 : ksz Go.Proofs.Try.prog 12 = some (false, 1) := by kernel_rfl
theorem tzero12 : kzero Go.Proofs.Try.prog 12 = some [.d (.int .u64 0)] := by kernel_rfl
theorem tzv12 : kzeroV Go.Proofs.Try.prog 12 = some (.d (.int .u64 0)) := by kernel_rfl
theorem tby12 : kbytes Go.Proofs.Try.prog 12 = some 8 := by kernel_rfl
theorem tint12 : kint Go.Proofs.Try.prog 12 = some .u64 := by kernel_rfl
theorem tstr12 : kstr Go.Proofs.Try.prog 12 = false := by kernel_rfl
theorem tlf12 : klf Go.Proofs.Try.prog 12 = 1 := by kernel_rfl
theorem tz13 : ksz Go.Proofs.Try.prog 13 = some (true, 2) := by kernel_rfl
theorem tzero13 : kzero Go.Proofs.Try.prog 13 = some [.d (.str ByteArray.empty), .d (.int .u64 0)] := by kernel_rfl
theorem tzv13 : kzeroV Go.Proofs.Try.prog 13 = some (.agg [.d (.str ByteArray.empty), .d (.int .u64 0)]) := by kernel_rfl
theorem tby13 : kbytes Go.Proofs.Try.prog 13 = some 24 := by kernel_rfl
theorem tpls13 : kplaces Go.Proofs.Try.prog 13 = true := by kernel_rfl
theorem tf13_0 : kfld Go.Proofs.Try.prog 13 0 = some (0, 9) := by kernel_rfl
theorem tpl13_0 : kplace Go.Proofs.Try.prog 13 0 = some (0, 1) := by kernel_rfl
theorem tf13_1 : kfld Go.Proofs.Try.prog 13 1 = some (1, 12) := by kernel_rfl
theorem tpl13_1 : kplace Go.Proofs.Try.prog 13 1 = some (1, 1) := by kernel_rfl
theorem tz14 : ksz Go.Proofs.Try.prog 14 = some (true, 2) := by kernel_rfl
theorem tzero14 : kzero Go.Proofs.Try.prog 14 = some [.d (.str ByteArray.empty), .d (.int .u64 0)] := by kernel_rfl
theorem tzv14 : kzeroV Go.Proofs.Try.prog 14 = some (.agg [.d (.str ByteArray.empty), .d (.int .u64 0)]) := by kernel_rfl
theorem tby14 : kbytes Go.Proofs.Try.prog 14 = some 24 := by kernel_rfl
theorem tpls14 : kplaces Go.Proofs.Try.prog 14 = true := by kernel_rfl
theorem tf14_0 : kfld Go.Proofs.Try.prog 14 0 = some (0, 9) := by kernel_rfl
theorem tpl14_0 : kplace Go.Proofs.Try.prog 14 0 = some (0, 1) := by kernel_rfl
theorem tf14_1 : kfld Go.Proofs.Try.prog 14 1 = some (1, 12) := by kernel_rfl
theorem tpl14_1 : kplace Go.Proofs.Try.prog 14 1 = some (1, 1) := by kernel_rfl
theorem tz15 : ksz Go.Proofs.Try.prog 15 = some (false, 1) := by kernel_rfl
theorem tzero15 : kzero Go.Proofs.Try.prog 15 = some [.d .nilptr] := by kernel_rfl
theorem tzv15 : kzeroV Go.Proofs.Try.prog 15 = some (.d .nilptr) := by kernel_rfl
theorem tby15 : kbytes Go.Proofs.Try.prog 15 = some 8 := by kernel_rfl
theorem tz16 : ksz Go.Proofs.Try.prog 16 = some (false, 1) := by kernel_rfl
theorem tzero16 : kzero Go.Proofs.Try.prog 16 = some [.d .nilptr] := by kernel_rfl
theorem tzv16 : kzeroV Go.Proofs.Try.prog 16 = some (.d .nilptr) := by kernel_rfl
theorem tby16 : kbytes Go.Proofs.Try.prog 16 = some 8 := by kernel_rfl
theorem tz17 : ksz Go.Proofs.Try.prog 17 = some (false, 1) := by kernel_rfl
theorem tzero17 : kzero Go.Proofs.Try.prog 17 = some [.d .nilptr] := by kernel_rfl
theorem tzv17 : kzeroV Go.Proofs.Try.prog 17 = some (.d .nilptr) := by kernel_rfl
theorem tby17 : kbytes Go.Proofs.Try.prog 17 = some 8 := by kernel_rfl
theorem tz18 : ksz Go.Proofs.Try.prog 18 = some (true, 1) := by kernel_rfl
theorem tzero18 : kzero Go.Proofs.Try.prog 18 = some [.d .nilptr] := by kernel_rfl
theorem tzv18 : kzeroV Go.Proofs.Try.prog 18 = some (.agg [.d .nilptr]) := by kernel_rfl
theorem tby18 : kbytes Go.Proofs.Try.prog 18 = some 8 := by kernel_rfl
theorem tpls18 : kplaces Go.Proofs.Try.prog 18 = true := by kernel_rfl
theorem tf18_0 : kfld Go.Proofs.Try.prog 18 0 = some (0, 17) := by kernel_rfl
theorem tpl18_0 : kplace Go.Proofs.Try.prog 18 0 = some (0, 1) := by kernel_rfl
theorem tz19 : ksz Go.Proofs.Try.prog 19 = some (true, 1) := by kernel_rfl
theorem tzero19 : kzero Go.Proofs.Try.prog 19 = some [.d .nilptr] := by kernel_rfl
theorem tzv19 : kzeroV Go.Proofs.Try.prog 19 = some (.agg [.d .nilptr]) := by kernel_rfl
theorem tby19 : kbytes Go.Proofs.Try.prog 19 = some 8 := by kernel_rfl
theorem tpls19 : kplaces Go.Proofs.Try.prog 19 = true := by kernel_rfl
theorem tf19_0 : kfld Go.Proofs.Try.prog 19 0 = some (0, 17) := by kernel_rfl
theorem tpl19_0 : kplace Go.Proofs.Try.prog 19 0 = some (0, 1) := by kernel_rfl
theorem tz20 : ksz Go.Proofs.Try.prog 20 = some (false, 1) := by kernel_rfl
theorem tzero20 : kzero Go.Proofs.Try.prog 20 = some [.d .niliface] := by kernel_rfl
theorem tzv20 : kzeroV Go.Proofs.Try.prog 20 = some (.d .niliface) := by kernel_rfl
theorem tby20 : kbytes Go.Proofs.Try.prog 20 = some 16 := by kernel_rfl
theorem tz21 : ksz Go.Proofs.Try.prog 21 = some (false, 1) := by kernel_rfl
theorem tzero21 : kzero Go.Proofs.Try.prog 21 = some [.d (.int .i32 0)] := by kernel_rfl
theorem tzv21 : kzeroV Go.Proofs.Try.prog 21 = some (.d (.int .i32 0)) := by kernel_rfl
theorem tby21 : kbytes Go.Proofs.Try.prog 21 = some 4 := by kernel_rfl
theorem tint21 : kint Go.Proofs.Try.prog 21 = some .i32 := by kernel_rfl
theorem tstr21 : kstr Go.Proofs.Try.prog 21 = false := by kernel_rfl
theorem tlf21 : klf Go.Proofs.Try.prog 21 = 1 := by kernel_rfl
theorem tz22 : ksz Go.Proofs.Try.prog 22 = some (false, 1) := by kernel_rfl
theorem tzero22 : kzero Go.Proofs.Try.prog 22 = some [.nil] := by kernel_rfl
theorem tzv22 : kzeroV Go.Proofs.Try.prog 22 = some (.nil) := by kernel_rfl
theorem tby22 : kbytes Go.Proofs.Try.prog 22 = some 24 := by kernel_rfl
theorem tel22 : kel Go.Proofs.Try.prog 22 = some (none, 3, 51) := by kernel_rfl
theorem tsl22 : ksl Go.Proofs.Try.prog 22 = true := by kernel_rfl
theorem tstr22 : kstr Go.Proofs.Try.prog 22 = false := by kernel_rfl
theorem tseq22 : kseq Go.Proofs.Try.prog 22 = true := by kernel_rfl
theorem tz23 : ksz Go.Proofs.Try.prog 23 = some (false, 1) := by kernel_rfl
theorem tzero23 : kzero Go.Proofs.Try.prog 23 = some [.d .nilfn] := by kernel_rfl
theorem tz24 : ksz Go.Proofs.Try.prog 24 = some (false, 1) := by kernel_rfl
theorem tzero24 : kzero Go.Proofs.Try.prog 24 = some [.d .nilfn] := by kernel_rfl
theorem tz25 : ksz Go.Proofs.Try.prog 25 = some (false, 1) := by kernel_rfl
theorem tzero25 : kzero Go.Proofs.Try.prog 25 = some [.d .nilfn] := by kernel_rfl
theorem tz26 : ksz Go.Proofs.Try.prog 26 = some (false, 1) := by kernel_rfl
theorem tzero26 : kzero Go.Proofs.Try.prog 26 = some [.nil] := by kernel_rfl
theorem tzv26 : kzeroV Go.Proofs.Try.prog 26 = some (.nil) := by kernel_rfl
theorem tby26 : kbytes Go.Proofs.Try.prog 26 = some 24 := by kernel_rfl
theorem tel26 : kel Go.Proofs.Try.prog 26 = some (none, 1, 54) := by kernel_rfl
theorem tsl26 : ksl Go.Proofs.Try.prog 26 = true := by kernel_rfl
theorem tstr26 : kstr Go.Proofs.Try.prog 26 = false := by kernel_rfl
theorem tseq26 : kseq Go.Proofs.Try.prog 26 = true := by kernel_rfl
theorem tz27 : ksz Go.Proofs.Try.prog 27 = some (false, 1) := by kernel_rfl
theorem tzero27 : kzero Go.Proofs.Try.prog 27 = some [.d (.int .i64 0)] := by kernel_rfl
theorem tzv27 : kzeroV Go.Proofs.Try.prog 27 = some (.d (.int .i64 0)) := by kernel_rfl
theorem tby27 : kbytes Go.Proofs.Try.prog 27 = some 8 := by kernel_rfl
theorem tint27 : kint Go.Proofs.Try.prog 27 = some .i64 := by kernel_rfl
theorem tstr27 : kstr Go.Proofs.Try.prog 27 = false := by kernel_rfl
theorem tlf27 : klf Go.Proofs.Try.prog 27 = 1 := by kernel_rfl
theorem tz29 : ksz Go.Proofs.Try.prog 29 = some (false, 1) := by kernel_rfl
theorem tzero29 : kzero Go.Proofs.Try.prog 29 = some [.d .nilfn] := by kernel_rfl
theorem tz30 : ksz Go.Proofs.Try.prog 30 = some (false, 1) := by kernel_rfl
theorem tzero30 : kzero Go.Proofs.Try.prog 30 = some [.d .nilfn] := by kernel_rfl
theorem tz31 : ksz Go.Proofs.Try.prog 31 = some (false, 1) := by kernel_rfl
theorem tzero31 : kzero Go.Proofs.Try.prog 31 = some [.d .nilfn] := by kernel_rfl
theorem tz32 : ksz Go.Proofs.Try.prog 32 = some (false, 1) := by kernel_rfl
theorem tzero32 : kzero Go.Proofs.Try.prog 32 = some [.d .nilfn] := by kernel_rfl
theorem tz33 : ksz Go.Proofs.Try.prog 33 = some (true, 2) := by kernel_rfl
theorem tzero33 : kzero Go.Proofs.Try.prog 33 = some [.d (.int .i64 0), .d (.int .i64 0)] := by kernel_rfl
theorem tzv33 : kzeroV Go.Proofs.Try.prog 33 = some (.agg [.d (.int .i64 0), .d (.int .i64 0)]) := by kernel_rfl
theorem tby33 : kbytes Go.Proofs.Try.prog 33 = some 16 := by kernel_rfl
theorem tpls33 : kplaces Go.Proofs.Try.prog 33 = true := by kernel_rfl
theorem tf33_0 : kfld Go.Proofs.Try.prog 33 0 = some (0, 2) := by kernel_rfl
theorem tpl33_0 : kplace Go.Proofs.Try.prog 33 0 = some (0, 1) := by kernel_rfl
theorem tf33_1 : kfld Go.Proofs.Try.prog 33 1 = some (1, 2) := by kernel_rfl
theorem tpl33_1 : kplace Go.Proofs.Try.prog 33 1 = some (1, 1) := by kernel_rfl
theorem tz34 : ksz Go.Proofs.Try.prog 34 = some (true, 2) := by kernel_rfl
theorem tzero34 : kzero Go.Proofs.Try.prog 34 = some [.d (.int .i64 0), .d (.int .i64 0)] := by kernel_rfl
theorem tzv34 : kzeroV Go.Proofs.Try.prog 34 = some (.agg [.d (.int .i64 0), .d (.int .i64 0)]) := by kernel_rfl
theorem tby34 : kbytes Go.Proofs.Try.prog 34 = some 16 := by kernel_rfl
theorem tst34 : kst Go.Proofs.Try.prog 34 = some [(2, 0), (2, 1)] := by kernel_rfl
theorem tpls34 : kplaces Go.Proofs.Try.prog 34 = true := by kernel_rfl
theorem tf34_0 : kfld Go.Proofs.Try.prog 34 0 = some (0, 2) := by kernel_rfl
theorem tpl34_0 : kplace Go.Proofs.Try.prog 34 0 = some (0, 1) := by kernel_rfl
theorem tf34_1 : kfld Go.Proofs.Try.prog 34 1 = some (1, 2) := by kernel_rfl
theorem tpl34_1 : kplace Go.Proofs.Try.prog 34 1 = some (1, 1) := by kernel_rfl
theorem tz35 : ksz Go.Proofs.Try.prog 35 = some (true, 4) := by kernel_rfl
theorem tzero35 : kzero Go.Proofs.Try.prog 35 = some [.d (.int .i64 0), .d (.int .i64 0), .d (.int .i64 0), .d (.int .i64 0)] := by kernel_rfl
theorem tzv35 : kzeroV Go.Proofs.Try.prog 35 = some (.agg [.d (.int .i64 0), .d (.int .i64 0), .d (.int .i64 0), .d (.int .i64 0)]) := by kernel_rfl
theorem tby35 : kbytes Go.Proofs.Try.prog 35 = some 32 := by kernel_rfl
theorem tpls35 : kplaces Go.Proofs.Try.prog 35 = true := by kernel_rfl
theorem tf35_0 : kfld Go.Proofs.Try.prog 35 0 = some (0, 2) := by kernel_rfl
theorem tpl35_0 : kplace Go.Proofs.Try.prog 35 0 = some (0, 1) := by kernel_rfl
theorem tf35_1 : kfld Go.Proofs.Try.prog 35 1 = some (1, 2) := by kernel_rfl
theorem tpl35_1 : kplace Go.Proofs.Try.prog 35 1 = some (1, 1) := by kernel_rfl
theorem tf35_2 : kfld Go.Proofs.Try.prog 35 2 = some (2, 2) := by kernel_rfl
theorem tpl35_2 : kplace Go.Proofs.Try.prog 35 2 = some (2, 1) := by kernel_rfl
theorem tf35_3 : kfld Go.Proofs.Try.prog 35 3 = some (3, 2) := by kernel_rfl
theorem tpl35_3 : kplace Go.Proofs.Try.prog 35 3 = some (3, 1) := by kernel_rfl
theorem tz36 : ksz Go.Proofs.Try.prog 36 = some (true, 4) := by kernel_rfl
theorem tzero36 : kzero Go.Proofs.Try.prog 36 = some [.d (.int .i64 0), .d (.int .i64 0), .d (.int .i64 0), .d (.int .i64 0)] := by kernel_rfl
theorem tzv36 : kzeroV Go.Proofs.Try.prog 36 = some (.agg [.d (.int .i64 0), .d (.int .i64 0), .d (.int .i64 0), .d (.int .i64 0)]) := by kernel_rfl
theorem tby36 : kbytes Go.Proofs.Try.prog 36 = some 32 := by kernel_rfl
theorem tst36 : kst Go.Proofs.Try.prog 36 = some [(2, 0), (2, 1), (2, 2), (2, 3)] := by kernel_rfl
theorem tpls36 : kplaces Go.Proofs.Try.prog 36 = true := by kernel_rfl
theorem tf36_0 : kfld Go.Proofs.Try.prog 36 0 = some (0, 2) := by kernel_rfl
theorem tpl36_0 : kplace Go.Proofs.Try.prog 36 0 = some (0, 1) := by kernel_rfl
theorem tf36_1 : kfld Go.Proofs.Try.prog 36 1 = some (1, 2) := by kernel_rfl
theorem tpl36_1 : kplace Go.Proofs.Try.prog 36 1 = some (1, 1) := by kernel_rfl
theorem tf36_2 : kfld Go.Proofs.Try.prog 36 2 = some (2, 2) := by kernel_rfl
theorem tpl36_2 : kplace Go.Proofs.Try.prog 36 2 = some (2, 1) := by kernel_rfl
theorem tf36_3 : kfld Go.Proofs.Try.prog 36 3 = some (3, 2) := by kernel_rfl
theorem tpl36_3 : kplace Go.Proofs.Try.prog 36 3 = some (3, 1) := by kernel_rfl
theorem tz38 : ksz Go.Proofs.Try.prog 38 = some (false, 1) := by kernel_rfl
theorem tzero38 : kzero Go.Proofs.Try.prog 38 = some [.d .nilfn] := by kernel_rfl
theorem tz40 : ksz Go.Proofs.Try.prog 40 = some (false, 1) := by kernel_rfl
theorem tzero40 : kzero Go.Proofs.Try.prog 40 = some [.d .nilfn] := by kernel_rfl
theorem tz41 : ksz Go.Proofs.Try.prog 41 = some (false, 1) := by kernel_rfl
theorem tzero41 : kzero Go.Proofs.Try.prog 41 = some [.d .nilfn] := by kernel_rfl
theorem tz42 : ksz Go.Proofs.Try.prog 42 = some (false, 1) := by kernel_rfl
theorem tzero42 : kzero Go.Proofs.Try.prog 42 = some [.d .nilfn] := by kernel_rfl
theorem tz44 : ksz Go.Proofs.Try.prog 44 = some (false, 1) := by kernel_rfl
theorem tzero44 : kzero Go.Proofs.Try.prog 44 = some [.d .nilfn] := by kernel_rfl
theorem tz45 : ksz Go.Proofs.Try.prog 45 = some (false, 1) := by kernel_rfl
theorem tzero45 : kzero Go.Proofs.Try.prog 45 = some [.d .nilfn] := by kernel_rfl
theorem tz46 : ksz Go.Proofs.Try.prog 46 = some (false, 1) := by kernel_rfl
theorem tzero46 : kzero Go.Proofs.Try.prog 46 = some [.d .nilfn] := by kernel_rfl
theorem tz47 : ksz Go.Proofs.Try.prog 47 = some (false, 1) := by kernel_rfl
theorem tzero47 : kzero Go.Proofs.Try.prog 47 = some [.nil] := by kernel_rfl
theorem tzv47 : kzeroV Go.Proofs.Try.prog 47 = some (.nil) := by kernel_rfl
theorem tby47 : kbytes Go.Proofs.Try.prog 47 = some 24 := by kernel_rfl
theorem tel47 : kel Go.Proofs.Try.prog 47 = some (none, 1, 2) := by kernel_rfl
theorem tsl47 : ksl Go.Proofs.Try.prog 47 = true := by kernel_rfl
theorem tstr47 : kstr Go.Proofs.Try.prog 47 = false := by kernel_rfl
theorem tseq47 : kseq Go.Proofs.Try.prog 47 = true := by kernel_rfl
theorem tz48 : ksz Go.Proofs.Try.prog 48 = some (false, 1) := by kernel_rfl
theorem tzero48 : kzero Go.Proofs.Try.prog 48 = some [.d .nilfn] := by kernel_rfl
theorem tz49 : ksz Go.Proofs.Try.prog 49 = some (false, 1) := by kernel_rfl
theorem tzero49 : kzero Go.Proofs.Try.prog 49 = some [.d .nilfn] := by kernel_rfl
theorem tz50 : ksz Go.Proofs.Try.prog 50 = some (true, 3) := by kernel_rfl
theorem tzero50 : kzero Go.Proofs.Try.prog 50 = some [.d (.int .i64 0), .d (.int .i64 0), .d (.int .i64 0)] := by kernel_rfl
theorem tzv50 : kzeroV Go.Proofs.Try.prog 50 = some (.agg [.d (.int .i64 0), .d (.int .i64 0), .d (.int .i64 0)]) := by kernel_rfl
theorem tby50 : kbytes Go.Proofs.Try.prog 50 = some 24 := by kernel_rfl
theorem tpls50 : kplaces Go.Proofs.Try.prog 50 = true := by kernel_rfl
theorem tf50_0 : kfld Go.Proofs.Try.prog 50 0 = some (0, 2) := by kernel_rfl
theorem tpl50_0 : kplace Go.Proofs.Try.prog 50 0 = some (0, 1) := by kernel_rfl
theorem tf50_1 : kfld Go.Proofs.Try.prog 50 1 = some (1, 2) := by kernel_rfl
theorem tpl50_1 : kplace Go.Proofs.Try.prog 50 1 = some (1, 1) := by kernel_rfl
theorem tf50_2 : kfld Go.Proofs.Try.prog 50 2 = some (2, 2) := by kernel_rfl
theorem tpl50_2 : kplace Go.Proofs.Try.prog 50 2 = some (2, 1) := by kernel_rfl
theorem tz51 : ksz Go.Proofs.Try.prog 51 = some (true, 3) := by kernel_rfl
theorem tzero51 : kzero Go.Proofs.Try.prog 51 = some [.d (.int .i64 0), .d (.int .i64 0), .d (.int .i64 0)] := by kernel_rfl
theorem tzv51 : kzeroV Go.Proofs.Try.prog 51 = some (.agg [.d (.int .i64 0), .d (.int .i64 0), .d (.int .i64 0)]) := by kernel_rfl
theorem tby51 : kbytes Go.Proofs.Try.prog 51 = some 24 := by kernel_rfl
theorem tst51 : kst Go.Proofs.Try.prog 51 = some [(2, 0), (2, 1), (2, 2)] := by kernel_rfl
theorem tpls51 : kplaces Go.Proofs.Try.prog 51 = true := by kernel_rfl
theorem tf51_0 : kfld Go.Proofs.Try.prog 51 0 = some (0, 2) := by kernel_rfl
theorem tpl51_0 : kplace Go.Proofs.Try.prog 51 0 = some (0, 1) := by kernel_rfl
theorem tf51_1 : kfld Go.Proofs.Try.prog 51 1 = some (1, 2) := by kernel_rfl
theorem tpl51_1 : kplace Go.Proofs.Try.prog 51 1 = some (1, 1) := by kernel_rfl
theorem tf51_2 : kfld Go.Proofs.Try.prog 51 2 = some (2, 2) := by kernel_rfl
theorem tpl51_2 : kplace Go.Proofs.Try.prog 51 2 = some (2, 1) := by kernel_rfl
theorem tz52 : ksz Go.Proofs.Try.prog 52 = some (false, 1) := by kernel_rfl
theorem tzero52 : kzero Go.Proofs.Try.prog 52 = some [.d .nilfn] := by kernel_rfl
theorem tz53 : ksz Go.Proofs.Try.prog 53 = some (false, 1) := by kernel_rfl
theorem tzero53 : kzero Go.Proofs.Try.prog 53 = some [.d .nilfn] := by kernel_rfl
theorem tz54 : ksz Go.Proofs.Try.prog 54 = some (false, 1) := by kernel_rfl
theorem tzero54 : kzero Go.Proofs.Try.prog 54 = some [.nil] := by kernel_rfl
theorem tzv54 : kzeroV Go.Proofs.Try.prog 54 = some (.nil) := by kernel_rfl
theorem tby54 : kbytes Go.Proofs.Try.prog 54 = some 24 := by kernel_rfl
theorem tel54 : kel Go.Proofs.Try.prog 54 = some (none, 1, 3) := by kernel_rfl
theorem tsl54 : ksl Go.Proofs.Try.prog 54 = true := by kernel_rfl
theorem tstr54 : kstr Go.Proofs.Try.prog 54 = false := by kernel_rfl
theorem tseq54 : kseq Go.Proofs.Try.prog 54 = true := by kernel_rfl
theorem tz55 : ksz Go.Proofs.Try.prog 55 = some (false, 1) := by kernel_rfl
theorem tzero55 : kzero Go.Proofs.Try.prog 55 = some [.d .nilfn] := by kernel_rfl
theorem tz56 : ksz Go.Proofs.Try.prog 56 = some (false, 1) := by kernel_rfl
theorem tzero56 : kzero Go.Proofs.Try.prog 56 = some [.d .nilfn] := by kernel_rfl
theorem tz57 : ksz Go.Proofs.Try.prog 57 = some (false, 1) := by kernel_rfl
theorem tzero57 : kzero Go.Proofs.Try.prog 57 = some [.d .nilfn] := by kernel_rfl
theorem tz58 : ksz Go.Proofs.Try.prog 58 = some (false, 1) := by kernel_rfl
theorem tzero58 : kzero Go.Proofs.Try.prog 58 = some [.d .nilfn] := by kernel_rfl
theorem tz59 : ksz Go.Proofs.Try.prog 59 = some (false, 1) := by kernel_rfl
theorem tzero59 : kzero Go.Proofs.Try.prog 59 = some [.nil] := by kernel_rfl
theorem tzv59 : kzeroV Go.Proofs.Try.prog 59 = some (.nil) := by kernel_rfl
theorem tby59 : kbytes Go.Proofs.Try.prog 59 = some 24 := by kernel_rfl
theorem tel59 : kel Go.Proofs.Try.prog 59 = some (none, 3, 63) := by kernel_rfl
theorem tsl59 : ksl Go.Proofs.Try.prog 59 = true := by kernel_rfl
theorem tstr59 : kstr Go.Proofs.Try.prog 59 = false := by kernel_rfl
theorem tseq59 : kseq Go.Proofs.Try.prog 59 = true := by kernel_rfl
theorem tz61 : ksz Go.Proofs.Try.prog 61 = some (false, 1) := by kernel_rfl
theorem tzero61 : kzero Go.Proofs.Try.prog 61 = some [.d .nilfn] := by kernel_rfl
theorem tz62 : ksz Go.Proofs.Try.prog 62 = some (true, 3) := by kernel_rfl
theorem tzero62 : kzero Go.Proofs.Try.prog 62 = some [.d (.int .i64 0), .d (.int .i64 0), .nil] := by kernel_rfl
theorem tzv62 : kzeroV Go.Proofs.Try.prog 62 = some (.agg [.d (.int .i64 0), .d (.int .i64 0), .nil]) := by kernel_rfl
theorem tby62 : kbytes Go.Proofs.Try.prog 62 = some 40 := by kernel_rfl
theorem tpls62 : kplaces Go.Proofs.Try.prog 62 = true := by kernel_rfl
theorem tf62_0 : kfld Go.Proofs.Try.prog 62 0 = some (0, 34) := by kernel_rfl
theorem tpl62_0 : kplace Go.Proofs.Try.prog 62 0 = some (0, 2) := by kernel_rfl
theorem tf62_1 : kfld Go.Proofs.Try.prog 62 1 = some (2, 54) := by kernel_rfl
theorem tpl62_1 : kplace Go.Proofs.Try.prog 62 1 = some (2, 1) := by kernel_rfl
theorem tz63 : ksz Go.Proofs.Try.prog 63 = some (true, 3) := by kernel_rfl
theorem tzero63 : kzero Go.Proofs.Try.prog 63 = some [.d (.int .i64 0), .d (.int .i64 0), .nil] := by kernel_rfl
theorem tzv63 : kzeroV Go.Proofs.Try.prog 63 = some (.agg [.d (.int .i64 0), .d (.int .i64 0), .nil]) := by kernel_rfl
theorem tby63 : kbytes Go.Proofs.Try.prog 63 = some 40 := by kernel_rfl
theorem tst63 : kst Go.Proofs.Try.prog 63 = some [(34, 0), (54, 2)] := by kernel_rfl
theorem tpls63 : kplaces Go.Proofs.Try.prog 63 = true := by kernel_rfl
theorem tf63_0 : kfld Go.Proofs.Try.prog 63 0 = some (0, 34) := by kernel_rfl
theorem tpl63_0 : kplace Go.Proofs.Try.prog 63 0 = some (0, 2) := by kernel_rfl
theorem tf63_1 : kfld Go.Proofs.Try.prog 63 1 = some (2, 54) := by kernel_rfl
theorem tpl63_1 : kplace Go.Proofs.Try.prog 63 1 = some (2, 1) := by kernel_rfl
theorem tz64 : ksz Go.Proofs.Try.prog 64 = some (false, 1) := by kernel_rfl
theorem tzero64 : kzero Go.Proofs.Try.prog 64 = some [.d .nilfn] := by kernel_rfl
theorem tz65 : ksz Go.Proofs.Try.prog 65 = some (false, 1) := by kernel_rfl
theorem tzero65 : kzero Go.Proofs.Try.prog 65 = some [.d .nilfn] := by kernel_rfl
theorem tz66 : ksz Go.Proofs.Try.prog 66 = some (false, 1) := by kernel_rfl
theorem tzero66 : kzero Go.Proofs.Try.prog 66 = some [.d .nilfn] := by kernel_rfl
theorem tz67 : ksz Go.Proofs.Try.prog 67 = some (false, 1) := by kernel_rfl
theorem tzero67 : kzero Go.Proofs.Try.prog 67 = some [.d .nilfn] := by kernel_rfl
theorem tz68 : ksz Go.Proofs.Try.prog 68 = some (false, 1) := by kernel_rfl
theorem tzero68 : kzero Go.Proofs.Try.prog 68 = some [.d .nilfn] := by kernel_rfl
theorem tz69 : ksz Go.Proofs.Try.prog 69 = some (false, 1) := by kernel_rfl
theorem tzero69 : kzero Go.Proofs.Try.prog 69 = some [.nil] := by kernel_rfl
theorem tzv69 : kzeroV Go.Proofs.Try.prog 69 = some (.nil) := by kernel_rfl
theorem tby69 : kbytes Go.Proofs.Try.prog 69 = some 24 := by kernel_rfl
theorem tel69 : kel Go.Proofs.Try.prog 69 = some (none, 2, 34) := by kernel_rfl
theorem tsl69 : ksl Go.Proofs.Try.prog 69 = true := by kernel_rfl
theorem tstr69 : kstr Go.Proofs.Try.prog 69 = false := by kernel_rfl
theorem tseq69 : kseq Go.Proofs.Try.prog 69 = true := by kernel_rfl
theorem tz70 : ksz Go.Proofs.Try.prog 70 = some (false, 1) := by kernel_rfl
theorem tzero70 : kzero Go.Proofs.Try.prog 70 = some [.d .nilfn] := by kernel_rfl
theorem tz71 : ksz Go.Proofs.Try.prog 71 = some (false, 1) := by kernel_rfl
theorem tzero71 : kzero Go.Proofs.Try.prog 71 = some [.d .nilfn] := by kernel_rfl
theorem tz72 : ksz Go.Proofs.Try.prog 72 = some (false, 1) := by kernel_rfl
theorem tzero72 : kzero Go.Proofs.Try.prog 72 = some [.d .nilfn] := by kernel_rfl
theorem tz73 : ksz Go.Proofs.Try.prog 73 = some (false, 1) := by kernel_rfl
theorem tzero73 : kzero Go.Proofs.Try.prog 73 = some [.d .nilfn] := by kernel_rfl
theorem tz74 : ksz Go.Proofs.Try.prog 74 = some (false, 1) := by kernel_rfl
theorem tzero74 : kzero Go.Proofs.Try.prog 74 = some [.d .nilfn] := by kernel_rfl
theorem tz75 : ksz Go.Proofs.Try.prog 75 = some (false, 1) := by kernel_rfl
theorem tzero75 : kzero Go.Proofs.Try.prog 75 = some [.d .nilfn] := by kernel_rfl
theorem tz76 : ksz Go.Proofs.Try.prog 76 = some (false, 1) := by kernel_rfl
theorem tzero76 : kzero Go.Proofs.Try.prog 76 = some [.d .nilfn] := by kernel_rfl
theorem tz77 : ksz Go.Proofs.Try.prog 77 = some (false, 1) := by kernel_rfl
theorem tzero77 : kzero Go.Proofs.Try.prog 77 = some [.d .nilfn] := by kernel_rfl
theorem tz78 : ksz Go.Proofs.Try.prog 78 = some (false, 1) := by kernel_rfl
theorem tzero78 : kzero Go.Proofs.Try.prog 78 = some [.d .nilfn] := by kernel_rfl
theorem tz79 : ksz Go.Proofs.Try.prog 79 = some (false, 1) := by kernel_rfl
theorem tzero79 : kzero Go.Proofs.Try.prog 79 = some [.d .nilmap] := by kernel_rfl
theorem tzv79 : kzeroV Go.Proofs.Try.prog 79 = some (.d .nilmap) := by kernel_rfl
theorem tmap79 : kmap Go.Proofs.Try.prog 79 = some (3, 3) := by kernel_rfl
theorem tby79 : kbytes Go.Proofs.Try.prog 79 = some 8 := by kernel_rfl
theorem tz81 : ksz Go.Proofs.Try.prog 81 = some (false, 1) := by kernel_rfl
theorem tzero81 : kzero Go.Proofs.Try.prog 81 = some [.d .nilfn] := by kernel_rfl
theorem tz82 : ksz Go.Proofs.Try.prog 82 = some (false, 1) := by kernel_rfl
theorem tzero82 : kzero Go.Proofs.Try.prog 82 = some [.d .nilfn] := by kernel_rfl
theorem tz83 : ksz Go.Proofs.Try.prog 83 = some (false, 1) := by kernel_rfl
theorem tzero83 : kzero Go.Proofs.Try.prog 83 = some [.nil] := by kernel_rfl
theorem tzv83 : kzeroV Go.Proofs.Try.prog 83 = some (.nil) := by kernel_rfl
theorem tby83 : kbytes Go.Proofs.Try.prog 83 = some 24 := by kernel_rfl
theorem tel83 : kel Go.Proofs.Try.prog 83 = some (none, 1, 22) := by kernel_rfl
theorem tsl83 : ksl Go.Proofs.Try.prog 83 = true := by kernel_rfl
theorem tstr83 : kstr Go.Proofs.Try.prog 83 = false := by kernel_rfl
theorem tseq83 : kseq Go.Proofs.Try.prog 83 = true := by kernel_rfl
theorem tz84 : ksz Go.Proofs.Try.prog 84 = some (false, 1) := by kernel_rfl
theorem tzero84 : kzero Go.Proofs.Try.prog 84 = some [.d .nilmap] := by kernel_rfl
theorem tzv84 : kzeroV Go.Proofs.Try.prog 84 = some (.d .nilmap) := by kernel_rfl
theorem tmap84 : kmap Go.Proofs.Try.prog 84 = some (34, 4) := by kernel_rfl
theorem tby84 : kbytes Go.Proofs.Try.prog 84 = some 8 := by kernel_rfl
theorem tz85 : ksz Go.Proofs.Try.prog 85 = some (false, 1) := by kernel_rfl
theorem tzero85 : kzero Go.Proofs.Try.prog 85 = some [.d .nilfn] := by kernel_rfl
theorem tz86 : ksz Go.Proofs.Try.prog 86 = some (false, 1) := by kernel_rfl
theorem tzero86 : kzero Go.Proofs.Try.prog 86 = some [.d .nilfn] := by kernel_rfl
theorem tz87 : ksz Go.Proofs.Try.prog 87 = some (false, 1) := by kernel_rfl
theorem tzero87 : kzero Go.Proofs.Try.prog 87 = some [.d .nilfn] := by kernel_rfl
theorem tz88 : ksz Go.Proofs.Try.prog 88 = some (false, 1) := by kernel_rfl
theorem tzero88 : kzero Go.Proofs.Try.prog 88 = some [.d .nilfn] := by kernel_rfl
theorem tz89 : ksz Go.Proofs.Try.prog 89 = some (false, 1) := by kernel_rfl
theorem tzero89 : kzero Go.Proofs.Try.prog 89 = some [.d .nilfn] := by kernel_rfl
theorem tz90 : ksz Go.Proofs.Try.prog 90 = some (false, 1) := by kernel_rfl
theorem tzero90 : kzero Go.Proofs.Try.prog 90 = some [.d .nilfn] := by kernel_rfl
theorem tz91 : ksz Go.Proofs.Try.prog 91 = some (false, 1) := by kernel_rfl
theorem tzero91 : kzero Go.Proofs.Try.prog 91 = some [.d .nilfn] := by kernel_rfl
theorem tz92 : ksz Go.Proofs.Try.prog 92 = some (false, 1) := by kernel_rfl
theorem tzero92 : kzero Go.Proofs.Try.prog 92 = some [.d .nilfn] := by kernel_rfl
theorem tz93 : ksz Go.Proofs.Try.prog 93 = some (false, 1) := by kernel_rfl
theorem tzero93 : kzero Go.Proofs.Try.prog 93 = some [.d .nilptr] := by kernel_rfl
theorem tzv93 : kzeroV Go.Proofs.Try.prog 93 = some (.d .nilptr) := by kernel_rfl
theorem tby93 : kbytes Go.Proofs.Try.prog 93 = some 8 := by kernel_rfl
theorem tz94 : ksz Go.Proofs.Try.prog 94 = some (false, 1) := by kernel_rfl
theorem tzero94 : kzero Go.Proofs.Try.prog 94 = some [.nil] := by kernel_rfl
theorem tzv94 : kzeroV Go.Proofs.Try.prog 94 = some (.nil) := by kernel_rfl
theorem tby94 : kbytes Go.Proofs.Try.prog 94 = some 24 := by kernel_rfl
theorem tel94 : kel Go.Proofs.Try.prog 94 = some (none, 2, 98) := by kernel_rfl
theorem tsl94 : ksl Go.Proofs.Try.prog 94 = true := by kernel_rfl
theorem tstr94 : kstr Go.Proofs.Try.prog 94 = false := by kernel_rfl
theorem tseq94 : kseq Go.Proofs.Try.prog 94 = true := by kernel_rfl
theorem tz95 : ksz Go.Proofs.Try.prog 95 = some (false, 1) := by kernel_rfl
theorem tzero95 : kzero Go.Proofs.Try.prog 95 = some [.nil] := by kernel_rfl
theorem tzv95 : kzeroV Go.Proofs.Try.prog 95 = some (.nil) := by kernel_rfl
theorem tby95 : kbytes Go.Proofs.Try.prog 95 = some 24 := by kernel_rfl
theorem tel95 : kel Go.Proofs.Try.prog 95 = some (none, 2, 98) := by kernel_rfl
theorem tsl95 : ksl Go.Proofs.Try.prog 95 = true := by kernel_rfl
theorem tstr95 : kstr Go.Proofs.Try.prog 95 = false := by kernel_rfl
theorem tseq95 : kseq Go.Proofs.Try.prog 95 = true := by kernel_rfl
theorem tz96 : ksz Go.Proofs.Try.prog 96 = some (false, 1) := by kernel_rfl
theorem tzero96 : kzero Go.Proofs.Try.prog 96 = some [.d .nilfn] := by kernel_rfl
theorem tz97 : ksz Go.Proofs.Try.prog 97 = some (true, 2) := by kernel_rfl
theorem tzero97 : kzero Go.Proofs.Try.prog 97 = some [.d (.int .i64 0), .d (.int .i64 0)] := by kernel_rfl
theorem tzv97 : kzeroV Go.Proofs.Try.prog 97 = some (.agg [.d (.int .i64 0), .d (.int .i64 0)]) := by kernel_rfl
theorem tby97 : kbytes Go.Proofs.Try.prog 97 = some 16 := by kernel_rfl
theorem tpls97 : kplaces Go.Proofs.Try.prog 97 = true := by kernel_rfl
theorem tf97_0 : kfld Go.Proofs.Try.prog 97 0 = some (0, 3) := by kernel_rfl
theorem tpl97_0 : kplace Go.Proofs.Try.prog 97 0 = some (0, 1) := by kernel_rfl
theorem tf97_1 : kfld Go.Proofs.Try.prog 97 1 = some (1, 2) := by kernel_rfl
theorem tpl97_1 : kplace Go.Proofs.Try.prog 97 1 = some (1, 1) := by kernel_rfl
theorem tz98 : ksz Go.Proofs.Try.prog 98 = some (true, 2) := by kernel_rfl
theorem tzero98 : kzero Go.Proofs.Try.prog 98 = some [.d (.int .i64 0), .d (.int .i64 0)] := by kernel_rfl
theorem tzv98 : kzeroV Go.Proofs.Try.prog 98 = some (.agg [.d (.int .i64 0), .d (.int .i64 0)]) := by kernel_rfl
theorem tby98 : kbytes Go.Proofs.Try.prog 98 = some 16 := by kernel_rfl
theorem tst98 : kst Go.Proofs.Try.prog 98 = some [(3, 0), (2, 1)] := by kernel_rfl
theorem tpls98 : kplaces Go.Proofs.Try.prog 98 = true := by kernel_rfl
theorem tf98_0 : kfld Go.Proofs.Try.prog 98 0 = some (0, 3) := by kernel_rfl
theorem tpl98_0 : kplace Go.Proofs.Try.prog 98 0 = some (0, 1) := by kernel_rfl
theorem tf98_1 : kfld Go.Proofs.Try.prog 98 1 = some (1, 2) := by kernel_rfl
theorem tpl98_1 : kplace Go.Proofs.Try.prog 98 1 = some (1, 1) := by kernel_rfl
theorem tz99 : ksz Go.Proofs.Try.prog 99 = some (false, 1) := by kernel_rfl
theorem tzero99 : kzero Go.Proofs.Try.prog 99 = some [.d .nilfn] := by kernel_rfl
theorem tz100 : ksz Go.Proofs.Try.prog 100 = some (false, 1) := by kernel_rfl
theorem tzero100 : kzero Go.Proofs.Try.prog 100 = some [.d .nilfn] := by kernel_rfl
theorem tz101 : ksz Go.Proofs.Try.prog 101 = some (false, 1) := by kernel_rfl
theorem tzero101 : kzero Go.Proofs.Try.prog 101 = some [.nil] := by kernel_rfl
theorem tzv101 : kzeroV Go.Proofs.Try.prog 101 = some (.nil) := by kernel_rfl
theorem tby101 : kbytes Go.Proofs.Try.prog 101 = some 24 := by kernel_rfl
theorem tel101 : kel Go.Proofs.Try.prog 101 = some (none, 1, 4) := by kernel_rfl
theorem tsl101 : ksl Go.Proofs.Try.prog 101 = true := by kernel_rfl
theorem tstr101 : kstr Go.Proofs.Try.prog 101 = false := by kernel_rfl
theorem tseq101 : kseq Go.Proofs.Try.prog 101 = true := by kernel_rfl
theorem tz102 : ksz Go.Proofs.Try.prog 102 = some (false, 1) := by kernel_rfl
theorem tzero102 : kzero Go.Proofs.Try.prog 102 = some [.d .nilfn] := by kernel_rfl
theorem tz103 : ksz Go.Proofs.Try.prog 103 = some (false, 1) := by kernel_rfl
theorem tzero103 : kzero Go.Proofs.Try.prog 103 = some [.d .nilmap] := by kernel_rfl
theorem tzv103 : kzeroV Go.Proofs.Try.prog 103 = some (.d .nilmap) := by kernel_rfl
theorem tmap103 : kmap Go.Proofs.Try.prog 103 = some (34, 54) := by kernel_rfl
theorem tby103 : kbytes Go.Proofs.Try.prog 103 = some 8 := by kernel_rfl
theorem tz104 : ksz Go.Proofs.Try.prog 104 = some (false, 1) := by kernel_rfl
theorem tzero104 : kzero Go.Proofs.Try.prog 104 = some [.d .nilfn] := by kernel_rfl
theorem tz105 : ksz Go.Proofs.Try.prog 105 = some (false, 1) := by kernel_rfl
theorem tzero105 : kzero Go.Proofs.Try.prog 105 = some [.d .nilfn] := by kernel_rfl
theorem tz106 : ksz Go.Proofs.Try.prog 106 = some (false, 1) := by kernel_rfl
theorem tzero106 : kzero Go.Proofs.Try.prog 106 = some [.d .nilfn] := by kernel_rfl
theorem tz107 : ksz Go.Proofs.Try.prog 107 = some (false, 1) := by kernel_rfl
theorem tzero107 : kzero Go.Proofs.Try.prog 107 = some [.d .nilfn] := by kernel_rfl
theorem tz108 : ksz Go.Proofs.Try.prog 108 = some (false, 1) := by kernel_rfl
theorem tzero108 : kzero Go.Proofs.Try.prog 108 = some [.d .nilfn] := by kernel_rfl
theorem tz109 : ksz Go.Proofs.Try.prog 109 = some (false, 1) := by kernel_rfl
theorem tzero109 : kzero Go.Proofs.Try.prog 109 = some [.d .nilfn] := by kernel_rfl
theorem tz110 : ksz Go.Proofs.Try.prog 110 = some (false, 1) := by kernel_rfl
theorem tzero110 : kzero Go.Proofs.Try.prog 110 = some [.d .nilfn] := by kernel_rfl
theorem tz111 : ksz Go.Proofs.Try.prog 111 = some (false, 1) := by kernel_rfl
theorem tzero111 : kzero Go.Proofs.Try.prog 111 = some [.d .nilfn] := by kernel_rfl
theorem tz112 : ksz Go.Proofs.Try.prog 112 = some (false, 1) := by kernel_rfl
theorem tzero112 : kzero Go.Proofs.Try.prog 112 = some [.d .nilfn] := by kernel_rfl
theorem tzv112 : kzeroV Go.Proofs.Try.prog 112 = some (.d .nilfn) := by kernel_rfl
theorem tby112 : kbytes Go.Proofs.Try.prog 112 = some 8 := by kernel_rfl
theorem tz113 : ksz Go.Proofs.Try.prog 113 = some (false, 1) := by kernel_rfl
theorem tzero113 : kzero Go.Proofs.Try.prog 113 = some [.d .nilfn] := by kernel_rfl
theorem tz114 : ksz Go.Proofs.Try.prog 114 = some (false, 1) := by kernel_rfl
theorem tzero114 : kzero Go.Proofs.Try.prog 114 = some [.d .nilfn] := by kernel_rfl
theorem tz115 : ksz Go.Proofs.Try.prog 115 = some (false, 1) := by kernel_rfl
theorem tzero115 : kzero Go.Proofs.Try.prog 115 = some [.d .nilfn] := by kernel_rfl
theorem tz116 : ksz Go.Proofs.Try.prog 116 = some (false, 1) := by kernel_rfl
theorem tzero116 : kzero Go.Proofs.Try.prog 116 = some [.d .nilfn] := by kernel_rfl
theorem tz117 : ksz Go.Proofs.Try.prog 117 = some (false, 1) := by kernel_rfl
theorem tzero117 : kzero Go.Proofs.Try.prog 117 = some [.d .nilfn] := by kernel_rfl
theorem tz118 : ksz Go.Proofs.Try.prog 118 = some (false, 1) := by kernel_rfl
theorem tzero118 : kzero Go.Proofs.Try.prog 118 = some [.d .nilfn] := by kernel_rfl
theorem tz119 : ksz Go.Proofs.Try.prog 119 = some (true, 2) := by kernel_rfl
theorem tzero119 : kzero Go.Proofs.Try.prog 119 = some [.d (.int .i64 0), .d (.int .i64 0)] := by kernel_rfl
theorem tzv119 : kzeroV Go.Proofs.Try.prog 119 = some (.agg [.d (.int .i64 0), .d (.int .i64 0)]) := by kernel_rfl
theorem tby119 : kbytes Go.Proofs.Try.prog 119 = some 16 := by kernel_rfl
theorem tpls119 : kplaces Go.Proofs.Try.prog 119 = true := by kernel_rfl
theorem tf119_0 : kfld Go.Proofs.Try.prog 119 0 = some (0, 2) := by kernel_rfl
theorem tpl119_0 : kplace Go.Proofs.Try.prog 119 0 = some (0, 1) := by kernel_rfl
theorem tf119_1 : kfld Go.Proofs.Try.prog 119 1 = some (1, 2) := by kernel_rfl
theorem tpl119_1 : kplace Go.Proofs.Try.prog 119 1 = some (1, 1) := by kernel_rfl
theorem tz120 : ksz Go.Proofs.Try.prog 120 = some (true, 2) := by kernel_rfl
theorem tzero120 : kzero Go.Proofs.Try.prog 120 = some [.d (.int .i64 0), .d (.int .i64 0)] := by kernel_rfl
theorem tzv120 : kzeroV Go.Proofs.Try.prog 120 = some (.agg [.d (.int .i64 0), .d (.int .i64 0)]) := by kernel_rfl
theorem tby120 : kbytes Go.Proofs.Try.prog 120 = some 16 := by kernel_rfl
theorem tst120 : kst Go.Proofs.Try.prog 120 = some [(2, 0), (2, 1)] := by kernel_rfl
theorem tpls120 : kplaces Go.Proofs.Try.prog 120 = true := by kernel_rfl
theorem tf120_0 : kfld Go.Proofs.Try.prog 120 0 = some (0, 2) := by kernel_rfl
theorem tpl120_0 : kplace Go.Proofs.Try.prog 120 0 = some (0, 1) := by kernel_rfl
theorem tf120_1 : kfld Go.Proofs.Try.prog 120 1 = some (1, 2) := by kernel_rfl
theorem tpl120_1 : kplace Go.Proofs.Try.prog 120 1 = some (1, 1) := by kernel_rfl
theorem tz121 : ksz Go.Proofs.Try.prog 121 = some (false, 1) := by kernel_rfl
theorem tzero121 : kzero Go.Proofs.Try.prog 121 = some [.d .nilfn] := by kernel_rfl
theorem tz122 : ksz Go.Proofs.Try.prog 122 = some (false, 1) := by kernel_rfl
theorem tzero122 : kzero Go.Proofs.Try.prog 122 = some [.d .nilfn] := by kernel_rfl
theorem tz123 : ksz Go.Proofs.Try.prog 123 = some (false, 1) := by kernel_rfl
theorem tzero123 : kzero Go.Proofs.Try.prog 123 = some [.d .nilfn] := by kernel_rfl
theorem tz124 : ksz Go.Proofs.Try.prog 124 = some (false, 1) := by kernel_rfl
theorem tzero124 : kzero Go.Proofs.Try.prog 124 = some [.d .niliface] := by kernel_rfl
theorem tzv124 : kzeroV Go.Proofs.Try.prog 124 = some (.d .niliface) := by kernel_rfl
theorem tby124 : kbytes Go.Proofs.Try.prog 124 = some 16 := by kernel_rfl
theorem tz125 : ksz Go.Proofs.Try.prog 125 = some (false, 1) := by kernel_rfl
theorem tzero125 : kzero Go.Proofs.Try.prog 125 = some [.d .niliface] := by kernel_rfl
theorem tzv125 : kzeroV Go.Proofs.Try.prog 125 = some (.d .niliface) := by kernel_rfl
theorem tby125 : kbytes Go.Proofs.Try.prog 125 = some 16 := by kernel_rfl
theorem tz126 : ksz Go.Proofs.Try.prog 126 = some (false, 1) := by kernel_rfl
theorem tzero126 : kzero Go.Proofs.Try.prog 126 = some [.d .nilfn] := by kernel_rfl
theorem tz127 : ksz Go.Proofs.Try.prog 127 = some (false, 1) := by kernel_rfl
theorem tzero127 : kzero Go.Proofs.Try.prog 127 = some [.d .nilfn] := by kernel_rfl
theorem tz128 : ksz Go.Proofs.Try.prog 128 = some (false, 1) := by kernel_rfl
theorem tzero128 : kzero Go.Proofs.Try.prog 128 = some [.d .nilfn] := by kernel_rfl
theorem tz129 : ksz Go.Proofs.Try.prog 129 = some (false, 1) := by kernel_rfl
theorem tzero129 : kzero Go.Proofs.Try.prog 129 = some [.d .nilfn] := by kernel_rfl
theorem tz130 : ksz Go.Proofs.Try.prog 130 = some (false, 1) := by kernel_rfl
theorem tzero130 : kzero Go.Proofs.Try.prog 130 = some [.d .nilfn] := by kernel_rfl
theorem tz131 : ksz Go.Proofs.Try.prog 131 = some (false, 1) := by kernel_rfl
theorem tzero131 : kzero Go.Proofs.Try.prog 131 = some [.d .nilfn] := by kernel_rfl
theorem tz132 : ksz Go.Proofs.Try.prog 132 = some (false, 1) := by kernel_rfl
theorem tzero132 : kzero Go.Proofs.Try.prog 132 = some [.d .nilfn] := by kernel_rfl
theorem tz133 : ksz Go.Proofs.Try.prog 133 = some (false, 1) := by kernel_rfl
theorem tzero133 : kzero Go.Proofs.Try.prog 133 = some [.d (.int .u64 0)] := by kernel_rfl
theorem tzv133 : kzeroV Go.Proofs.Try.prog 133 = some (.d (.int .u64 0)) := by kernel_rfl
theorem tby133 : kbytes Go.Proofs.Try.prog 133 = some 8 := by kernel_rfl
theorem tint133 : kint Go.Proofs.Try.prog 133 = some .u64 := by kernel_rfl
theorem tstr133 : kstr Go.Proofs.Try.prog 133 = false := by kernel_rfl
theorem tlf133 : klf Go.Proofs.Try.prog 133 = 1 := by kernel_rfl
theorem tz134 : ksz Go.Proofs.Try.prog 134 = some (false, 1) := by kernel_rfl
theorem tzero134 : kzero Go.Proofs.Try.prog 134 = some [.d .nilfn] := by kernel_rfl
theorem tz135 : ksz Go.Proofs.Try.prog 135 = some (false, 1) := by kernel_rfl
theorem tzero135 : kzero Go.Proofs.Try.prog 135 = some [.d .nilfn] := by kernel_rfl
theorem tz136 : ksz Go.Proofs.Try.prog 136 = some (false, 1) := by kernel_rfl
theorem tzero136 : kzero Go.Proofs.Try.prog 136 = some [.d .nilfn] := by kernel_rfl
theorem tz137 : ksz Go.Proofs.Try.prog 137 = some (false, 1) := by kernel_rfl
theorem tzero137 : kzero Go.Proofs.Try.prog 137 = some [.d .nilfn] := by kernel_rfl
theorem tz138 : ksz Go.Proofs.Try.prog 138 = some (false, 1) := by kernel_rfl
theorem tzero138 : kzero Go.Proofs.Try.prog 138 = some [.d .nilfn] := by kernel_rfl
theorem tz139 : ksz Go.Proofs.Try.prog 139 = some (false, 1) := by kernel_rfl
theorem tzero139 : kzero Go.Proofs.Try.prog 139 = some [.d .nilfn] := by kernel_rfl
theorem tz140 : ksz Go.Proofs.Try.prog 140 = some (false, 1) := by kernel_rfl
theorem tzero140 : kzero Go.Proofs.Try.prog 140 = some [.d .nilfn] := by kernel_rfl
theorem tz141 : ksz Go.Proofs.Try.prog 141 = some (false, 1) := by kernel_rfl
theorem tzero141 : kzero Go.Proofs.Try.prog 141 = some [.d .nilfn] := by kernel_rfl
theorem tz142 : ksz Go.Proofs.Try.prog 142 = some (false, 1) := by kernel_rfl
theorem tzero142 : kzero Go.Proofs.Try.prog 142 = some [.d (.int .i64 0)] := by kernel_rfl
theorem tzv142 : kzeroV Go.Proofs.Try.prog 142 = some (.d (.int .i64 0)) := by kernel_rfl
theorem tby142 : kbytes Go.Proofs.Try.prog 142 = some 8 := by kernel_rfl
theorem tint142 : kint Go.Proofs.Try.prog 142 = some .i64 := by kernel_rfl
theorem tstr142 : kstr Go.Proofs.Try.prog 142 = false := by kernel_rfl
theorem tlf142 : klf Go.Proofs.Try.prog 142 = 1 := by kernel_rfl
theorem tz144 : ksz Go.Proofs.Try.prog 144 = some (false, 1) := by kernel_rfl
theorem tzero144 : kzero Go.Proofs.Try.prog 144 = some [.d .nilfn] := by kernel_rfl
theorem tz145 : ksz Go.Proofs.Try.prog 145 = some (false, 1) := by kernel_rfl
theorem tzero145 : kzero Go.Proofs.Try.prog 145 = some [.d .nilfn] := by kernel_rfl
theorem tz146 : ksz Go.Proofs.Try.prog 146 = some (false, 1) := by kernel_rfl
theorem tzero146 : kzero Go.Proofs.Try.prog 146 = some [.d .nilfn] := by kernel_rfl
theorem tz147 : ksz Go.Proofs.Try.prog 147 = some (false, 1) := by kernel_rfl
theorem tzero147 : kzero Go.Proofs.Try.prog 147 = some [.d .nilfn] := by kernel_rfl
theorem tz148 : ksz Go.Proofs.Try.prog 148 = some (false, 1) := by kernel_rfl
theorem tzero148 : kzero Go.Proofs.Try.prog 148 = some [.d .nilfn] := by kernel_rfl
theorem tz149 : ksz Go.Proofs.Try.prog 149 = some (false, 1) := by kernel_rfl
theorem tzero149 : kzero Go.Proofs.Try.prog 149 = some [.d (.int .u32 0)] := by kernel_rfl
theorem tzv149 : kzeroV Go.Proofs.Try.prog 149 = some (.d (.int .u32 0)) := by kernel_rfl
theorem tby149 : kbytes Go.Proofs.Try.prog 149 = some 4 := by kernel_rfl
theorem tint149 : kint Go.Proofs.Try.prog 149 = some .u32 := by kernel_rfl
theorem tstr149 : kstr Go.Proofs.Try.prog 149 = false := by kernel_rfl
theorem tlf149 : klf Go.Proofs.Try.prog 149 = 1 := by kernel_rfl
theorem tz150 : ksz Go.Proofs.Try.prog 150 = some (false, 1) := by kernel_rfl
theorem tzero150 : kzero Go.Proofs.Try.prog 150 = some [.d .nilfn] := by kernel_rfl
theorem tz151 : ksz Go.Proofs.Try.prog 151 = some (false, 1) := by kernel_rfl
theorem tzero151 : kzero Go.Proofs.Try.prog 151 = some [.d (.int .u64 0)] := by kernel_rfl
theorem tzv151 : kzeroV Go.Proofs.Try.prog 151 = some (.d (.int .u64 0)) := by kernel_rfl
theorem tby151 : kbytes Go.Proofs.Try.prog 151 = some 8 := by kernel_rfl
theorem tint151 : kint Go.Proofs.Try.prog 151 = some .u64 := by kernel_rfl
theorem tstr151 : kstr Go.Proofs.Try.prog 151 = false := by kernel_rfl
theorem tlf151 : klf Go.Proofs.Try.prog 151 = 1 := by kernel_rfl
theorem tz152 : ksz Go.Proofs.Try.prog 152 = some (false, 1) := by kernel_rfl
theorem tzero152 : kzero Go.Proofs.Try.prog 152 = some [.d .nilfn] := by kernel_rfl
theorem tz153 : ksz Go.Proofs.Try.prog 153 = some (false, 1) := by kernel_rfl
theorem tzero153 : kzero Go.Proofs.Try.prog 153 = some [.d .nilfn] := by kernel_rfl
theorem tz154 : ksz Go.Proofs.Try.prog 154 = some (false, 1) := by kernel_rfl
theorem tzero154 : kzero Go.Proofs.Try.prog 154 = some [.d .nilfn] := by kernel_rfl
theorem tz155 : ksz Go.Proofs.Try.prog 155 = some (false, 1) := by kernel_rfl
theorem tzero155 : kzero Go.Proofs.Try.prog 155 = some [.d .nilfn] := by kernel_rfl
theorem tz156 : ksz Go.Proofs.Try.prog 156 = some (false, 1) := by kernel_rfl
theorem tzero156 : kzero Go.Proofs.Try.prog 156 = some [.d .nilfn] := by kernel_rfl
theorem tz157 : ksz Go.Proofs.Try.prog 157 = some (false, 1) := by kernel_rfl
theorem tzero157 : kzero Go.Proofs.Try.prog 157 = some [.d .nilfn] := by kernel_rfl
theorem tz158 : ksz Go.Proofs.Try.prog 158 = some (false, 1) := by kernel_rfl
theorem tzero158 : kzero Go.Proofs.Try.prog 158 = some [.d (.int .u64 0)] := by kernel_rfl
theorem tzv158 : kzeroV Go.Proofs.Try.prog 158 = some (.d (.int .u64 0)) := by kernel_rfl
theorem tby158 : kbytes Go.Proofs.Try.prog 158 = some 8 := by kernel_rfl
theorem tint158 : kint Go.Proofs.Try.prog 158 = some .u64 := by kernel_rfl
theorem tstr158 : kstr Go.Proofs.Try.prog 158 = false := by kernel_rfl
theorem tlf158 : klf Go.Proofs.Try.prog 158 = 1 := by kernel_rfl
theorem tz159 : ksz Go.Proofs.Try.prog 159 = some (false, 1) := by kernel_rfl
theorem tzero159 : kzero Go.Proofs.Try.prog 159 = some [.d .nilfn] := by kernel_rfl
theorem tz160 : ksz Go.Proofs.Try.prog 160 = some (false, 1) := by kernel_rfl
theorem tzero160 : kzero Go.Proofs.Try.prog 160 = some [.d .nilfn] := by kernel_rfl
theorem tz161 : ksz Go.Proofs.Try.prog 161 = some (false, 1) := by kernel_rfl
theorem tzero161 : kzero Go.Proofs.Try.prog 161 = some [.d .nilfn] := by kernel_rfl
theorem tz162 : ksz Go.Proofs.Try.prog 162 = some (false, 1) := by kernel_rfl
theorem tzero162 : kzero Go.Proofs.Try.prog 162 = some [.d .nilptr] := by kernel_rfl
theorem tzv162 : kzeroV Go.Proofs.Try.prog 162 = some (.d .nilptr) := by kernel_rfl
theorem tby162 : kbytes Go.Proofs.Try.prog 162 = some 8 := by kernel_rfl
theorem tz163 : ksz Go.Proofs.Try.prog 163 = some (false, 1) := by kernel_rfl
theorem tzero163 : kzero Go.Proofs.Try.prog 163 = some [.d .nilfn] := by kernel_rfl
theorem tz164 : ksz Go.Proofs.Try.prog 164 = some (false, 1) := by kernel_rfl
theorem tzero164 : kzero Go.Proofs.Try.prog 164 = some [.d .nilfn] := by kernel_rfl
theorem tz165 : ksz Go.Proofs.Try.prog 165 = some (false, 1) := by kernel_rfl
theorem tzero165 : kzero Go.Proofs.Try.prog 165 = some [.d .nilfn] := by kernel_rfl
theorem tz166 : ksz Go.Proofs.Try.prog 166 = some (false, 1) := by kernel_rfl
theorem tzero166 : kzero Go.Proofs.Try.prog 166 = some [.d .nilptr] := by kernel_rfl
theorem tzv166 : kzeroV Go.Proofs.Try.prog 166 = some (.d .nilptr) := by kernel_rfl
theorem tby166 : kbytes Go.Proofs.Try.prog 166 = some 8 := by kernel_rfl
theorem tz168 : ksz Go.Proofs.Try.prog 168 = some (false, 1) := by kernel_rfl
theorem tzero168 : kzero Go.Proofs.Try.prog 168 = some [.d .nilfn] := by kernel_rfl
theorem tz169 : ksz Go.Proofs.Try.prog 169 = some (false, 1) := by kernel_rfl
theorem tzero169 : kzero Go.Proofs.Try.prog 169 = some [.d .nilfn] := by kernel_rfl
theorem tz170 : ksz Go.Proofs.Try.prog 170 = some (false, 1) := by kernel_rfl
theorem tzero170 : kzero Go.Proofs.Try.prog 170 = some [.d .nilfn] := by kernel_rfl
theorem tz171 : ksz Go.Proofs.Try.prog 171 = some (true, 4) := by kernel_rfl
theorem tzero171 : kzero Go.Proofs.Try.prog 171 = some [.d .nilptr, .d .nilptr, .d .nilptr, .d (.str ByteArray.empty)] := by kernel_rfl
theorem tzv171 : kzeroV Go.Proofs.Try.prog 171 = some (.agg [.d .nilptr, .d .nilptr, .d .nilptr, .d (.str ByteArray.empty)]) := by kernel_rfl
theorem tby171 : kbytes Go.Proofs.Try.prog 171 = some 40 := by kernel_rfl
theorem tpls171 : kplaces Go.Proofs.Try.prog 171 = true := by kernel_rfl
theorem tf171_0 : kfld Go.Proofs.Try.prog 171 0 = some (0, 17) := by kernel_rfl
theorem tpl171_0 : kplace Go.Proofs.Try.prog 171 0 = some (0, 1) := by kernel_rfl
theorem tf171_1 : kfld Go.Proofs.Try.prog 171 1 = some (1, 17) := by kernel_rfl
theorem tpl171_1 : kplace Go.Proofs.Try.prog 171 1 = some (1, 1) := by kernel_rfl
theorem tf171_2 : kfld Go.Proofs.Try.prog 171 2 = some (2, 17) := by kernel_rfl
theorem tpl171_2 : kplace Go.Proofs.Try.prog 171 2 = some (2, 1) := by kernel_rfl
theorem tf171_3 : kfld Go.Proofs.Try.prog 171 3 = some (3, 9) := by kernel_rfl
theorem tpl171_3 : kplace Go.Proofs.Try.prog 171 3 = some (3, 1) := by kernel_rfl
theorem tz172 : ksz Go.Proofs.Try.prog 172 = some (true, 4) := by kernel_rfl
theorem tzero172 : kzero Go.Proofs.Try.prog 172 = some [.d .nilptr, .d .nilptr, .d .nilptr, .d (.str ByteArray.empty)] := by kernel_rfl
theorem tzv172 : kzeroV Go.Proofs.Try.prog 172 = some (.agg [.d .nilptr, .d .nilptr, .d .nilptr, .d (.str ByteArray.empty)]) := by kernel_rfl
theorem tby172 : kbytes Go.Proofs.Try.prog 172 = some 40 := by kernel_rfl
theorem tpls172 : kplaces Go.Proofs.Try.prog 172 = true := by kernel_rfl
theorem tf172_0 : kfld Go.Proofs.Try.prog 172 0 = some (0, 17) := by kernel_rfl
theorem tpl172_0 : kplace Go.Proofs.Try.prog 172 0 = some (0, 1) := by kernel_rfl
theorem tf172_1 : kfld Go.Proofs.Try.prog 172 1 = some (1, 17) := by kernel_rfl
theorem tpl172_1 : kplace Go.Proofs.Try.prog 172 1 = some (1, 1) := by kernel_rfl
theorem tf172_2 : kfld Go.Proofs.Try.prog 172 2 = some (2, 17) := by kernel_rfl
theorem tpl172_2 : kplace Go.Proofs.Try.prog 172 2 = some (2, 1) := by kernel_rfl
theorem tf172_3 : kfld Go.Proofs.Try.prog 172 3 = some (3, 9) := by kernel_rfl
theorem tpl172_3 : kplace Go.Proofs.Try.prog 172 3 = some (3, 1) := by kernel_rfl
theorem tz173 : ksz Go.Proofs.Try.prog 173 = some (true, 0) := by kernel_rfl
theorem tzero173 : kzero Go.Proofs.Try.prog 173 = some [] := by kernel_rfl
theorem tzv173 : kzeroV Go.Proofs.Try.prog 173 = some (.agg []) := by kernel_rfl
theorem tby173 : kbytes Go.Proofs.Try.prog 173 = some 0 := by kernel_rfl
theorem tel173 : kel Go.Proofs.Try.prog 173 = some (some 0, 1, 16) := by kernel_rfl
theorem tpls173 : kplaces Go.Proofs.Try.prog 173 = true := by kernel_rfl
theorem tz174 : ksz Go.Proofs.Try.prog 174 = some (true, 0) := by kernel_rfl
theorem tzero174 : kzero Go.Proofs.Try.prog 174 = some [] := by kernel_rfl
theorem tzv174 : kzeroV Go.Proofs.Try.prog 174 = some (.agg []) := by kernel_rfl
theorem tby174 : kbytes Go.Proofs.Try.prog 174 = some 0 := by kernel_rfl
theorem tpls174 : kplaces Go.Proofs.Try.prog 174 = true := by kernel_rfl
theorem tpl174_0 : kplace Go.Proofs.Try.prog 174 0 = some (0, 0) := by kernel_rfl
theorem tz175 : ksz Go.Proofs.Try.prog 175 = some (true, 0) := by kernel_rfl
theorem tzero175 : kzero Go.Proofs.Try.prog 175 = some [] := by kernel_rfl
theorem tzv175 : kzeroV Go.Proofs.Try.prog 175 = some (.agg []) := by kernel_rfl
theorem tby175 : kbytes Go.Proofs.Try.prog 175 = some 0 := by kernel_rfl
theorem tpls175 : kplaces Go.Proofs.Try.prog 175 = true := by kernel_rfl
theorem tpl175_0 : kplace Go.Proofs.Try.prog 175 0 = some (0, 0) := by kernel_rfl
theorem tz176 : ksz Go.Proofs.Try.prog 176 = some (false, 1) := by kernel_rfl
theorem tzero176 : kzero Go.Proofs.Try.prog 176 = some [.d (.int .u8 0)] := by kernel_rfl
theorem tzv176 : kzeroV Go.Proofs.Try.prog 176 = some (.d (.int .u8 0)) := by kernel_rfl
theorem tby176 : kbytes Go.Proofs.Try.prog 176 = some 1 := by kernel_rfl
theorem tint176 : kint Go.Proofs.Try.prog 176 = some .u8 := by kernel_rfl
theorem tstr176 : kstr Go.Proofs.Try.prog 176 = false := by kernel_rfl
theorem tlf176 : klf Go.Proofs.Try.prog 176 = 1 := by kernel_rfl
theorem tz177 : ksz Go.Proofs.Try.prog 177 = some (false, 1) := by kernel_rfl
theorem tzero177 : kzero Go.Proofs.Try.prog 177 = some [.d (.int .u8 0)] := by kernel_rfl
theorem tzv177 : kzeroV Go.Proofs.Try.prog 177 = some (.d (.int .u8 0)) := by kernel_rfl
theorem tby177 : kbytes Go.Proofs.Try.prog 177 = some 1 := by kernel_rfl
theorem tint177 : kint Go.Proofs.Try.prog 177 = some .u8 := by kernel_rfl
theorem tstr177 : kstr Go.Proofs.Try.prog 177 = false := by kernel_rfl
theorem tlf177 : klf Go.Proofs.Try.prog 177 = 1 := by kernel_rfl
theorem tz178 : ksz Go.Proofs.Try.prog 178 = some (false, 1) := by kernel_rfl
theorem tzero178 : kzero Go.Proofs.Try.prog 178 = some [.d .nilfn] := by kernel_rfl
theorem tz179 : ksz Go.Proofs.Try.prog 179 = some (false, 1) := by kernel_rfl
theorem tzero179 : kzero Go.Proofs.Try.prog 179 = some [.d .nilptr] := by kernel_rfl
theorem tzv179 : kzeroV Go.Proofs.Try.prog 179 = some (.d .nilptr) := by kernel_rfl
theorem tby179 : kbytes Go.Proofs.Try.prog 179 = some 8 := by kernel_rfl
theorem tz180 : ksz Go.Proofs.Try.prog 180 = some (false, 1) := by kernel_rfl
theorem tzero180 : kzero Go.Proofs.Try.prog 180 = some [.d (.int .i32 0)] := by kernel_rfl
theorem tzv180 : kzeroV Go.Proofs.Try.prog 180 = some (.d (.int .i32 0)) := by kernel_rfl
theorem tby180 : kbytes Go.Proofs.Try.prog 180 = some 4 := by kernel_rfl
theorem tint180 : kint Go.Proofs.Try.prog 180 = some .i32 := by kernel_rfl
theorem tstr180 : kstr Go.Proofs.Try.prog 180 = false := by kernel_rfl
theorem tlf180 : klf Go.Proofs.Try.prog 180 = 1 := by kernel_rfl
theorem tz181 : ksz Go.Proofs.Try.prog 181 = some (false, 1) := by kernel_rfl
theorem tzero181 : kzero Go.Proofs.Try.prog 181 = some [.d (.int .i32 0)] := by kernel_rfl
theorem tzv181 : kzeroV Go.Proofs.Try.prog 181 = some (.d (.int .i32 0)) := by kernel_rfl
theorem tby181 : kbytes Go.Proofs.Try.prog 181 = some 4 := by kernel_rfl
theorem tint181 : kint Go.Proofs.Try.prog 181 = some .i32 := by kernel_rfl
theorem tstr181 : kstr Go.Proofs.Try.prog 181 = false := by kernel_rfl
theorem tlf181 : klf Go.Proofs.Try.prog 181 = 1 := by kernel_rfl
theorem tz182 : ksz Go.Proofs.Try.prog 182 = some (true, 11) := by kernel_rfl
theorem tzero182 : kzero Go.Proofs.Try.prog 182 = some [.d (.int .u64 0), .d (.int .u64 0), .d (.int .u32 0), .d (.int .u8 0), .d (.int .u8 0), .d (.int .u8 0), .d (.int .u8 0), .d .nilfn, .d .nilptr, .d (.int .i32 0), .d (.int .i32 0)] := by kernel_rfl
theorem tzv182 : kzeroV Go.Proofs.Try.prog 182 = some (.agg [.d (.int .u64 0), .d (.int .u64 0), .d (.int .u32 0), .d (.int .u8 0), .d (.int .u8 0), .d (.int .u8 0), .d (.int .u8 0), .d .nilfn, .d .nilptr, .d (.int .i32 0), .d (.int .i32 0)]) := by kernel_rfl
theorem tby182 : kbytes Go.Proofs.Try.prog 182 = some 48 := by kernel_rfl
theorem tpls182 : kplaces Go.Proofs.Try.prog 182 = true := by kernel_rfl
theorem tf182_0 : kfld Go.Proofs.Try.prog 182 0 = some (0, 12) := by kernel_rfl
theorem tpl182_0 : kplace Go.Proofs.Try.prog 182 0 = some (0, 1) := by kernel_rfl
theorem tf182_1 : kfld Go.Proofs.Try.prog 182 1 = some (1, 12) := by kernel_rfl
theorem tpl182_1 : kplace Go.Proofs.Try.prog 182 1 = some (1, 1) := by kernel_rfl
theorem tf182_2 : kfld Go.Proofs.Try.prog 182 2 = some (2, 149) := by kernel_rfl
theorem tpl182_2 : kplace Go.Proofs.Try.prog 182 2 = some (2, 1) := by kernel_rfl
theorem tf182_3 : kfld Go.Proofs.Try.prog 182 3 = some (3, 176) := by kernel_rfl
theorem tpl182_3 : kplace Go.Proofs.Try.prog 182 3 = some (3, 1) := by kernel_rfl
theorem tf182_4 : kfld Go.Proofs.Try.prog 182 4 = some (4, 5) := by kernel_rfl
theorem tpl182_4 : kplace Go.Proofs.Try.prog 182 4 = some (4, 1) := by kernel_rfl
theorem tf182_5 : kfld Go.Proofs.Try.prog 182 5 = some (5, 5) := by kernel_rfl
theorem tpl182_5 : kplace Go.Proofs.Try.prog 182 5 = some (5, 1) := by kernel_rfl
theorem tf182_6 : kfld Go.Proofs.Try.prog 182 6 = some (6, 177) := by kernel_rfl
theorem tpl182_6 : kplace Go.Proofs.Try.prog 182 6 = some (6, 1) := by kernel_rfl
theorem tf182_7 : kfld Go.Proofs.Try.prog 182 7 = some (7, 178) := by kernel_rfl
theorem tpl182_7 : kplace Go.Proofs.Try.prog 182 7 = some (7, 1) := by kernel_rfl
theorem tf182_8 : kfld Go.Proofs.Try.prog 182 8 = some (8, 179) := by kernel_rfl
theorem tpl182_8 : kplace Go.Proofs.Try.prog 182 8 = some (8, 1) := by kernel_rfl
theorem tf182_9 : kfld Go.Proofs.Try.prog 182 9 = some (9, 180) := by kernel_rfl
theorem tpl182_9 : kplace Go.Proofs.Try.prog 182 9 = some (9, 1) := by kernel_rfl
theorem tf182_10 : kfld Go.Proofs.Try.prog 182 10 = some (10, 181) := by kernel_rfl
theorem tpl182_10 : kplace Go.Proofs.Try.prog 182 10 = some (10, 1) := by kernel_rfl
theorem tz183 : ksz Go.Proofs.Try.prog 183 = some (true, 11) := by kernel_rfl
theorem tzero183 : kzero Go.Proofs.Try.prog 183 = some [.d (.int .u64 0), .d (.int .u64 0), .d (.int .u32 0), .d (.int .u8 0), .d (.int .u8 0), .d (.int .u8 0), .d (.int .u8 0), .d .nilfn, .d .nilptr, .d (.int .i32 0), .d (.int .i32 0)] := by kernel_rfl
theorem tzv183 : kzeroV Go.Proofs.Try.prog 183 = some (.agg [.d (.int .u64 0), .d (.int .u64 0), .d (.int .u32 0), .d (.int .u8 0), .d (.int .u8 0), .d (.int .u8 0), .d (.int .u8 0), .d .nilfn, .d .nilptr, .d (.int .i32 0), .d (.int .i32 0)]) := by kernel_rfl
theorem tby183 : kbytes Go.Proofs.Try.prog 183 = some 48 := by kernel_rfl
theorem tpls183 : kplaces Go.Proofs.Try.prog 183 = true := by kernel_rfl
theorem tf183_0 : kfld Go.Proofs.Try.prog 183 0 = some (0, 12) := by kernel_rfl
theorem tpl183_0 : kplace Go.Proofs.Try.prog 183 0 = some (0, 1) := by kernel_rfl
theorem tf183_1 : kfld Go.Proofs.Try.prog 183 1 = some (1, 12) := by kernel_rfl
theorem tpl183_1 : kplace Go.Proofs.Try.prog 183 1 = some (1, 1) := by kernel_rfl
theorem tf183_2 : kfld Go.Proofs.Try.prog 183 2 = some (2, 149) := by kernel_rfl
theorem tpl183_2 : kplace Go.Proofs.Try.prog 183 2 = some (2, 1) := by kernel_rfl
theorem tf183_3 : kfld Go.Proofs.Try.prog 183 3 = some (3, 176) := by kernel_rfl
theorem tpl183_3 : kplace Go.Proofs.Try.prog 183 3 = some (3, 1) := by kernel_rfl
theorem tf183_4 : kfld Go.Proofs.Try.prog 183 4 = some (4, 5) := by kernel_rfl
theorem tpl183_4 : kplace Go.Proofs.Try.prog 183 4 = some (4, 1) := by kernel_rfl
theorem tf183_5 : kfld Go.Proofs.Try.prog 183 5 = some (5, 5) := by kernel_rfl
theorem tpl183_5 : kplace Go.Proofs.Try.prog 183 5 = some (5, 1) := by kernel_rfl
theorem tf183_6 : kfld Go.Proofs.Try.prog 183 6 = some (6, 177) := by kernel_rfl
theorem tpl183_6 : kplace Go.Proofs.Try.prog 183 6 = some (6, 1) := by kernel_rfl
theorem tf183_7 : kfld Go.Proofs.Try.prog 183 7 = some (7, 178) := by kernel_rfl
theorem tpl183_7 : kplace Go.Proofs.Try.prog 183 7 = some (7, 1) := by kernel_rfl
theorem tf183_8 : kfld Go.Proofs.Try.prog 183 8 = some (8, 179) := by kernel_rfl
theorem tpl183_8 : kplace Go.Proofs.Try.prog 183 8 = some (8, 1) := by kernel_rfl
theorem tf183_9 : kfld Go.Proofs.Try.prog 183 9 = some (9, 180) := by kernel_rfl
theorem tpl183_9 : kplace Go.Proofs.Try.prog 183 9 = some (9, 1) := by kernel_rfl
theorem tf183_10 : kfld Go.Proofs.Try.prog 183 10 = some (10, 181) := by kernel_rfl
theorem tpl183_10 : kplace Go.Proofs.Try.prog 183 10 = some (10, 1) := by kernel_rfl
theorem tz184 : ksz Go.Proofs.Try.prog 184 = some (false, 1) := by kernel_rfl
theorem tzero184 : kzero Go.Proofs.Try.prog 184 = some [.d .nilfn] := by kernel_rfl
theorem tz185 : ksz Go.Proofs.Try.prog 185 = some (false, 1) := by kernel_rfl
theorem tzero185 : kzero Go.Proofs.Try.prog 185 = some [.d .nilfn] := by kernel_rfl
theorem tz186 : ksz Go.Proofs.Try.prog 186 = some (false, 1) := by kernel_rfl
theorem tzero186 : kzero Go.Proofs.Try.prog 186 = some [.d .nilptr] := by kernel_rfl
theorem tzv186 : kzeroV Go.Proofs.Try.prog 186 = some (.d .nilptr) := by kernel_rfl
theorem tby186 : kbytes Go.Proofs.Try.prog 186 = some 8 := by kernel_rfl
theorem tex0 : extN Go.Proofs.Try.prog 0 = 0 := by kernel_rfl
theorem tex1 : extN Go.Proofs.Try.prog 1 = 0 := by kernel_rfl
theorem tex2 : extN Go.Proofs.Try.prog 2 = 0 := by kernel_rfl
theorem tex3 : extN Go.Proofs.Try.prog 3 = 0 := by kernel_rfl
theorem tex4 : extN Go.Proofs.Try.prog 4 = 0 := by kernel_rfl
theorem tex5 : extN Go.Proofs.Try.prog 5 = 0 := by kernel_rfl
theorem tex6 : extN Go.Proofs.Try.prog 6 = 0 := by kernel_rfl
theorem tex7 : extN Go.Proofs.Try.prog 7 = 0 := by kernel_rfl
theorem tex8 : extN Go.Proofs.Try.prog 8 = 0 := by kernel_rfl
theorem tex9 : extN Go.Proofs.Try.prog 9 = 0 := by kernel_rfl
theorem tex10 : extN Go.Proofs.Try.prog 10 = 0 := by kernel_rfl
theorem tex11 : extN Go.Proofs.Try.prog 11 = 0 := by kernel_rfl
theorem tex12 : extN Go.Proofs.Try.prog 12 = 0 := by kernel_rfl
theorem tex13 : extN Go.Proofs.Try.prog 13 = 0 := by kernel_rfl
theorem tex14 : extN Go.Proofs.Try.prog 14 = 0 := by kernel_rfl
theorem tex15 : extN Go.Proofs.Try.prog 15 = 0 := by kernel_rfl
theorem tex16 : extN Go.Proofs.Try.prog 16 = 0 := by kernel_rfl
theorem tex17 : extN Go.Proofs.Try.prog 17 = 0 := by kernel_rfl
theorem tex18 : extN Go.Proofs.Try.prog 18 = 0 := by kernel_rfl
theorem tex19 : extN Go.Proofs.Try.prog 19 = 0 := by kernel_rfl
theorem tex20 : extN Go.Proofs.Try.prog 20 = 0 := by kernel_rfl
theorem tex21 : extN Go.Proofs.Try.prog 21 = 0 := by kernel_rfl
theorem tex22 : extN Go.Proofs.Try.prog 22 = 0 := by kernel_rfl
theorem tex23 : extN Go.Proofs.Try.prog 23 = 0 := by kernel_rfl
theorem tex24 : extN Go.Proofs.Try.prog 24 = 0 := by kernel_rfl
theorem tex25 : extN Go.Proofs.Try.prog 25 = 0 := by kernel_rfl
theorem tex26 : extN Go.Proofs.Try.prog 26 = 0 := by kernel_rfl
theorem tex27 : extN Go.Proofs.Try.prog 27 = 0 := by kernel_rfl
theorem tex28 : extN Go.Proofs.Try.prog 28 = 0 := by kernel_rfl
theorem tex29 : extN Go.Proofs.Try.prog 29 = 0 := by kernel_rfl
theorem tex30 : extN Go.Proofs.Try.prog 30 = 0 := by kernel_rfl
theorem tex31 : extN Go.Proofs.Try.prog 31 = 0 := by kernel_rfl
theorem tex32 : extN Go.Proofs.Try.prog 32 = 0 := by kernel_rfl
theorem tex33 : extN Go.Proofs.Try.prog 33 = 0 := by kernel_rfl
theorem tex34 : extN Go.Proofs.Try.prog 34 = 0 := by kernel_rfl
theorem tex35 : extN Go.Proofs.Try.prog 35 = 0 := by kernel_rfl
theorem tex36 : extN Go.Proofs.Try.prog 36 = 0 := by kernel_rfl
theorem tex37 : extN Go.Proofs.Try.prog 37 = 0 := by kernel_rfl
theorem tex38 : extN Go.Proofs.Try.prog 38 = 0 := by kernel_rfl
theorem tex39 : extN Go.Proofs.Try.prog 39 = 0 := by kernel_rfl
theorem tex40 : extN Go.Proofs.Try.prog 40 = 0 := by kernel_rfl
theorem tex41 : extN Go.Proofs.Try.prog 41 = 0 := by kernel_rfl
theorem tex42 : extN Go.Proofs.Try.prog 42 = 0 := by kernel_rfl
theorem tex43 : extN Go.Proofs.Try.prog 43 = 0 := by kernel_rfl
theorem tex44 : extN Go.Proofs.Try.prog 44 = 0 := by kernel_rfl
theorem tex45 : extN Go.Proofs.Try.prog 45 = 0 := by kernel_rfl
theorem tex46 : extN Go.Proofs.Try.prog 46 = 0 := by kernel_rfl
theorem tex47 : extN Go.Proofs.Try.prog 47 = 0 := by kernel_rfl
theorem tex48 : extN Go.Proofs.Try.prog 48 = 0 := by kernel_rfl
theorem tex49 : extN Go.Proofs.Try.prog 49 = 0 := by kernel_rfl
theorem tex50 : extN Go.Proofs.Try.prog 50 = 0 := by kernel_rfl
theorem tex51 : extN Go.Proofs.Try.prog 51 = 0 := by kernel_rfl
theorem tex52 : extN Go.Proofs.Try.prog 52 = 0 := by kernel_rfl
theorem tex53 : extN Go.Proofs.Try.prog 53 = 0 := by kernel_rfl
theorem tex54 : extN Go.Proofs.Try.prog 54 = 0 := by kernel_rfl
theorem tex55 : extN Go.Proofs.Try.prog 55 = 0 := by kernel_rfl
theorem tex56 : extN Go.Proofs.Try.prog 56 = 0 := by kernel_rfl
theorem tex57 : extN Go.Proofs.Try.prog 57 = 0 := by kernel_rfl
theorem tex58 : extN Go.Proofs.Try.prog 58 = 0 := by kernel_rfl
theorem tex59 : extN Go.Proofs.Try.prog 59 = 0 := by kernel_rfl
theorem tex60 : extN Go.Proofs.Try.prog 60 = 0 := by kernel_rfl
theorem tex61 : extN Go.Proofs.Try.prog 61 = 0 := by kernel_rfl
theorem tex62 : extN Go.Proofs.Try.prog 62 = 0 := by kernel_rfl
theorem tex63 : extN Go.Proofs.Try.prog 63 = 0 := by kernel_rfl
theorem tex64 : extN Go.Proofs.Try.prog 64 = 0 := by kernel_rfl
theorem tex65 : extN Go.Proofs.Try.prog 65 = 0 := by kernel_rfl
theorem tex66 : extN Go.Proofs.Try.prog 66 = 0 := by kernel_rfl
theorem tex67 : extN Go.Proofs.Try.prog 67 = 0 := by kernel_rfl
theorem tex68 : extN Go.Proofs.Try.prog 68 = 0 := by kernel_rfl
theorem tex69 : extN Go.Proofs.Try.prog 69 = 0 := by kernel_rfl
theorem tex70 : extN Go.Proofs.Try.prog 70 = 0 := by kernel_rfl
theorem tex71 : extN Go.Proofs.Try.prog 71 = 0 := by kernel_rfl
theorem tex72 : extN Go.Proofs.Try.prog 72 = 0 := by kernel_rfl
theorem tex73 : extN Go.Proofs.Try.prog 73 = 0 := by kernel_rfl
theorem tex74 : extN Go.Proofs.Try.prog 74 = 0 := by kernel_rfl
theorem tex75 : extN Go.Proofs.Try.prog 75 = 0 := by kernel_rfl
theorem tex76 : extN Go.Proofs.Try.prog 76 = 0 := by kernel_rfl
theorem tex77 : extN Go.Proofs.Try.prog 77 = 0 := by kernel_rfl
theorem tex78 : extN Go.Proofs.Try.prog 78 = 0 := by kernel_rfl
theorem tex79 : extN Go.Proofs.Try.prog 79 = 0 := by kernel_rfl
theorem tex80 : extN Go.Proofs.Try.prog 80 = 0 := by kernel_rfl
theorem tex81 : extN Go.Proofs.Try.prog 81 = 0 := by kernel_rfl
theorem tex82 : extN Go.Proofs.Try.prog 82 = 0 := by kernel_rfl
theorem tex83 : extN Go.Proofs.Try.prog 83 = 0 := by kernel_rfl
theorem tex84 : extN Go.Proofs.Try.prog 84 = 0 := by kernel_rfl
theorem tex85 : extN Go.Proofs.Try.prog 85 = 0 := by kernel_rfl
theorem tex86 : extN Go.Proofs.Try.prog 86 = 0 := by kernel_rfl
theorem tex87 : extN Go.Proofs.Try.prog 87 = 0 := by kernel_rfl
theorem tex88 : extN Go.Proofs.Try.prog 88 = 0 := by kernel_rfl
theorem tex89 : extN Go.Proofs.Try.prog 89 = 0 := by kernel_rfl
theorem tex90 : extN Go.Proofs.Try.prog 90 = 0 := by kernel_rfl
theorem tex91 : extN Go.Proofs.Try.prog 91 = 0 := by kernel_rfl
theorem tex92 : extN Go.Proofs.Try.prog 92 = 0 := by kernel_rfl
theorem tex93 : extN Go.Proofs.Try.prog 93 = 0 := by kernel_rfl
theorem tex94 : extN Go.Proofs.Try.prog 94 = 0 := by kernel_rfl
theorem tex95 : extN Go.Proofs.Try.prog 95 = 0 := by kernel_rfl
theorem tex96 : extN Go.Proofs.Try.prog 96 = 0 := by kernel_rfl
theorem tex97 : extN Go.Proofs.Try.prog 97 = 0 := by kernel_rfl
theorem tex98 : extN Go.Proofs.Try.prog 98 = 0 := by kernel_rfl
theorem tex99 : extN Go.Proofs.Try.prog 99 = 0 := by kernel_rfl
theorem tex100 : extN Go.Proofs.Try.prog 100 = 0 := by kernel_rfl
theorem tex101 : extN Go.Proofs.Try.prog 101 = 0 := by kernel_rfl
theorem tex102 : extN Go.Proofs.Try.prog 102 = 0 := by kernel_rfl
theorem tex103 : extN Go.Proofs.Try.prog 103 = 0 := by kernel_rfl
theorem tex104 : extN Go.Proofs.Try.prog 104 = 0 := by kernel_rfl
theorem tex105 : extN Go.Proofs.Try.prog 105 = 0 := by kernel_rfl
theorem tex106 : extN Go.Proofs.Try.prog 106 = 0 := by kernel_rfl
theorem tex107 : extN Go.Proofs.Try.prog 107 = 0 := by kernel_rfl
theorem tex108 : extN Go.Proofs.Try.prog 108 = 0 := by kernel_rfl
theorem tex109 : extN Go.Proofs.Try.prog 109 = 0 := by kernel_rfl
theorem tex110 : extN Go.Proofs.Try.prog 110 = 0 := by kernel_rfl
theorem tex111 : extN Go.Proofs.Try.prog 111 = 0 := by kernel_rfl
theorem tex112 : extN Go.Proofs.Try.prog 112 = 0 := by kernel_rfl
theorem tex113 : extN Go.Proofs.Try.prog 113 = 0 := by kernel_rfl
theorem tex114 : extN Go.Proofs.Try.prog 114 = 0 := by kernel_rfl
theorem tex115 : extN Go.Proofs.Try.prog 115 = 0 := by kernel_rfl
theorem tex116 : extN Go.Proofs.Try.prog 116 = 0 := by kernel_rfl
theorem tex117 : extN Go.Proofs.Try.prog 117 = 0 := by kernel_rfl
theorem tex118 : extN Go.Proofs.Try.prog 118 = 0 := by kernel_rfl
theorem tex119 : extN Go.Proofs.Try.prog 119 = 0 := by kernel_rfl
theorem tex120 : extN Go.Proofs.Try.prog 120 = 0 := by kernel_rfl
theorem tex121 : extN Go.Proofs.Try.prog 121 = 0 := by kernel_rfl
theorem tex122 : extN Go.Proofs.Try.prog 122 = 0 := by kernel_rfl
theorem tex123 : extN Go.Proofs.Try.prog 123 = 0 := by kernel_rfl
theorem tex124 : extN Go.Proofs.Try.prog 124 = 0 := by kernel_rfl
theorem tex125 : extN Go.Proofs.Try.prog 125 = 0 := by kernel_rfl
theorem tex126 : extN Go.Proofs.Try.prog 126 = 0 := by kernel_rfl
theorem tex127 : extN Go.Proofs.Try.prog 127 = 0 := by kernel_rfl
theorem tex128 : extN Go.Proofs.Try.prog 128 = 0 := by kernel_rfl
theorem tex129 : extN Go.Proofs.Try.prog 129 = 0 := by kernel_rfl
theorem tex130 : extN Go.Proofs.Try.prog 130 = 0 := by kernel_rfl
theorem tex131 : extN Go.Proofs.Try.prog 131 = 0 := by kernel_rfl
theorem tex132 : extN Go.Proofs.Try.prog 132 = 0 := by kernel_rfl
theorem tex133 : extN Go.Proofs.Try.prog 133 = 0 := by kernel_rfl
theorem tex134 : extN Go.Proofs.Try.prog 134 = 0 := by kernel_rfl
theorem tex135 : extN Go.Proofs.Try.prog 135 = 0 := by kernel_rfl
theorem tex136 : extN Go.Proofs.Try.prog 136 = 0 := by kernel_rfl
theorem tex137 : extN Go.Proofs.Try.prog 137 = 0 := by kernel_rfl
theorem tex138 : extN Go.Proofs.Try.prog 138 = 0 := by kernel_rfl
theorem tex139 : extN Go.Proofs.Try.prog 139 = 0 := by kernel_rfl
theorem tex140 : extN Go.Proofs.Try.prog 140 = 0 := by kernel_rfl
theorem tex141 : extN Go.Proofs.Try.prog 141 = 0 := by kernel_rfl
theorem tex142 : extN Go.Proofs.Try.prog 142 = 0 := by kernel_rfl
theorem tex143 : extN Go.Proofs.Try.prog 143 = 0 := by kernel_rfl
theorem tex144 : extN Go.Proofs.Try.prog 144 = 0 := by kernel_rfl
theorem tex145 : extN Go.Proofs.Try.prog 145 = 0 := by kernel_rfl
theorem tex146 : extN Go.Proofs.Try.prog 146 = 0 := by kernel_rfl
theorem tex147 : extN Go.Proofs.Try.prog 147 = 0 := by kernel_rfl
theorem tex148 : extN Go.Proofs.Try.prog 148 = 0 := by kernel_rfl
theorem tex149 : extN Go.Proofs.Try.prog 149 = 0 := by kernel_rfl
theorem tex150 : extN Go.Proofs.Try.prog 150 = 0 := by kernel_rfl
theorem tex151 : extN Go.Proofs.Try.prog 151 = 0 := by kernel_rfl
theorem tex152 : extN Go.Proofs.Try.prog 152 = 0 := by kernel_rfl
theorem tex153 : extN Go.Proofs.Try.prog 153 = 0 := by kernel_rfl
theorem tex154 : extN Go.Proofs.Try.prog 154 = 0 := by kernel_rfl
theorem tex155 : extN Go.Proofs.Try.prog 155 = 0 := by kernel_rfl
theorem tex156 : extN Go.Proofs.Try.prog 156 = 0 := by kernel_rfl
theorem tex157 : extN Go.Proofs.Try.prog 157 = 0 := by kernel_rfl
theorem tex158 : extN Go.Proofs.Try.prog 158 = 0 := by kernel_rfl
theorem tex159 : extN Go.Proofs.Try.prog 159 = 0 := by kernel_rfl
theorem tex160 : extN Go.Proofs.Try.prog 160 = 0 := by kernel_rfl
theorem tex161 : extN Go.Proofs.Try.prog 161 = 0 := by kernel_rfl
theorem tex162 : extN Go.Proofs.Try.prog 162 = 0 := by kernel_rfl
theorem tex163 : extN Go.Proofs.Try.prog 163 = 0 := by kernel_rfl
theorem tex164 : extN Go.Proofs.Try.prog 164 = 0 := by kernel_rfl
theorem tex165 : extN Go.Proofs.Try.prog 165 = 0 := by kernel_rfl
theorem tex166 : extN Go.Proofs.Try.prog 166 = 0 := by kernel_rfl
theorem tex167 : extN Go.Proofs.Try.prog 167 = 0 := by kernel_rfl
theorem tex168 : extN Go.Proofs.Try.prog 168 = 0 := by kernel_rfl
theorem tex169 : extN Go.Proofs.Try.prog 169 = 0 := by kernel_rfl
theorem tex170 : extN Go.Proofs.Try.prog 170 = 0 := by kernel_rfl
theorem tex171 : extN Go.Proofs.Try.prog 171 = 0 := by kernel_rfl
theorem tex172 : extN Go.Proofs.Try.prog 172 = 0 := by kernel_rfl
theorem tex173 : extN Go.Proofs.Try.prog 173 = 0 := by kernel_rfl
theorem tex174 : extN Go.Proofs.Try.prog 174 = 0 := by kernel_rfl
attribute [push_cast] tz1 tzero1 tz2 tzero2 tzv2 tby2 tint2 tstr2 tlf2 tz3 tzero3 tzv3 tby3 tint3 tstr3 tlf3 tz4 tzero4 tzv4 tby4 tlf4 tz5 tzero5 tzv5 tby5 tint5 tstr5 tlf5 tz6 tzero6 tzv6 tby6 tint6 tstr6 tlf6 tz7 tzero7 tzv7 tby7 tpls7 tf7_0 tpl7_0 tf7_1 tpl7_1 tf7_2 tpl7_2 tf7_3 tpl7_3 tz8 tzero8 tzv8 tby8 tpls8 tf8_0 tpl8_0 tf8_1 tpl8_1 tf8_2 tpl8_2 tf8_3 tpl8_3 tz9 tzero9 tzv9 tby9 tstr9 tsl9 tseq9 tlf9 tz10 tzero10 tzv10 tby10 tstr10 tsl10 tseq10 tlf10 tz11 tzero11 tzv11 tby11 tstr11 tsl11 tseq11 tlf11 tz12 tzero12 tzv12 tby12 tint12 tstr12 tlf12 tz13 tzero13 tzv13 tby13 tpls13 tf13_0 tpl13_0 tf13_1 tpl13_1 tz14 tzero14 tzv14 tby14 tpls14 tf14_0 tpl14_0 tf14_1 tpl14_1 tz15 tzero15 tzv15 tby15 tz16 tzero16 tzv16 tby16 tz17 tzero17 tzv17 tby17 tz18 tzero18 tzv18 tby18 tpls18 tf18_0 tpl18_0 tz19 tzero19 tzv19 tby19 tpls19 tf19_0 tpl19_0 tz20 tzero20 tzv20 tby20 tz21 tzero21 tzv21 tby21 tint21 tstr21 tlf21 tz22 tzero22 tzv22 tby22 tel22 tsl22 tstr22 tseq22 tz23 tzero23 tz24 tzero24 tz25 tzero25 tz26 tzero26 tzv26 tby26 tel26 tsl26 tstr26 tseq26 tz27 tzero27 tzv27 tby27 tint27 tstr27 tlf27 tz29 tzero29 tz30 tzero30 tz31 tzero31 tz32 tzero32 tz33 tzero33 tzv33 tby33 tpls33 tf33_0 tpl33_0 tf33_1 tpl33_1 tz34 tzero34 tzv34 tby34 tst34 tpls34 tf34_0 tpl34_0 tf34_1 tpl34_1 tz35 tzero35 tzv35 tby35 tpls35 tf35_0 tpl35_0 tf35_1 tpl35_1 tf35_2 tpl35_2 tf35_3 tpl35_3 tz36 tzero36 tzv36 tby36 tst36 tpls36 tf36_0 tpl36_0 tf36_1 tpl36_1 tf36_2 tpl36_2 tf36_3 tpl36_3 tz38 tzero38 tz40 tzero40 tz41 tzero41 tz42 tzero42 tz44 tzero44 tz45 tzero45 tz46 tzero46 tz47 tzero47 tzv47 tby47 tel47 tsl47 tstr47 tseq47 tz48 tzero48 tz49 tzero49 tz50 tzero50 tzv50 tby50 tpls50 tf50_0 tpl50_0 tf50_1 tpl50_1 tf50_2 tpl50_2 tz51 tzero51 tzv51 tby51 tst51 tpls51 tf51_0 tpl51_0 tf51_1 tpl51_1 tf51_2 tpl51_2 tz52 tzero52 tz53 tzero53 tz54 tzero54 tzv54 tby54 tel54 tsl54 tstr54 tseq54 tz55 tzero55 tz56 tzero56 tz57 tzero57 tz58 tzero58 tz59 tzero59 tzv59 tby59 tel59 tsl59 tstr59 tseq59 tz61 tzero61 tz62 tzero62 tzv62 tby62 tpls62 tf62_0 tpl62_0 tf62_1 tpl62_1 tz63 tzero63 tzv63 tby63 tst63 tpls63 tf63_0 tpl63_0 tf63_1 tpl63_1 tz64 tzero64 tz65 tzero65 tz66 tzero66 tz67 tzero67 tz68 tzero68 tz69 tzero69 tzv69 tby69 tel69 tsl69 tstr69 tseq69 tz70 tzero70 tz71 tzero71 tz72 tzero72 tz73 tzero73 tz74 tzero74 tz75 tzero75 tz76 tzero76 tz77 tzero77 tz78 tzero78 tz79 tzero79 tzv79 tmap79 tby79 tz81 tzero81 tz82 tzero82 tz83 tzero83 tzv83 tby83 tel83 tsl83 tstr83 tseq83 tz84 tzero84 tzv84 tmap84 tby84 tz85 tzero85 tz86 tzero86 tz87 tzero87 tz88 tzero88 tz89 tzero89 tz90 tzero90 tz91 tzero91 tz92 tzero92 tz93 tzero93 tzv93 tby93 tz94 tzero94 tzv94 tby94 tel94 tsl94 tstr94 tseq94 tz95 tzero95 tzv95 tby95 tel95 tsl95 tstr95 tseq95 tz96 tzero96 tz97 tzero97 tzv97 tby97 tpls97 tf97_0 tpl97_0 tf97_1 tpl97_1 tz98 tzero98 tzv98 tby98 tst98 tpls98 tf98_0 tpl98_0 tf98_1 tpl98_1 tz99 tzero99 tz100 tzero100 tz101 tzero101 tzv101 tby101 tel101 tsl101 tstr101 tseq101 tz102 tzero102 tz103 tzero103 tzv103 tmap103 tby103 tz104 tzero104 tz105 tzero105 tz106 tzero106 tz107 tzero107 tz108 tzero108 tz109 tzero109 tz110 tzero110 tz111 tzero111 tz112 tzero112 tzv112 tby112 tz113 tzero113 tz114 tzero114 tz115 tzero115 tz116 tzero116 tz117 tzero117 tz118 tzero118 tz119 tzero119 tzv119 tby119 tpls119 tf119_0 tpl119_0 tf119_1 tpl119_1 tz120 tzero120 tzv120 tby120 tst120 tpls120 tf120_0 tpl120_0 tf120_1 tpl120_1 tz121 tzero121 tz122 tzero122 tz123 tzero123 tz124 tzero124 tzv124 tby124 tz125 tzero125 tzv125 tby125 tz126 tzero126 tz127 tzero127 tz128 tzero128 tz129 tzero129 tz130 tzero130 tz131 tzero131 tz132 tzero132 tz133 tzero133 tzv133 tby133 tint133 tstr133 tlf133 tz134 tzero134 tz135 tzero135 tz136 tzero136 tz137 tzero137 tz138 tzero138 tz139 tzero139 tz140 tzero140 tz141 tzero141 tz142 tzero142 tzv142 tby142 tint142 tstr142 tlf142 tz144 tzero144 tz145 tzero145 tz146 tzero146 tz147 tzero147 tz148 tzero148 tz149 tzero149 tzv149 tby149 tint149 tstr149 tlf149 tz150 tzero150 tz151 tzero151 tzv151 tby151 tint151 tstr151 tlf151 tz152 tzero152 tz153 tzero153 tz154 tzero154 tz155 tzero155 tz156 tzero156 tz157 tzero157 tz158 tzero158 tzv158 tby158 tint158 tstr158 tlf158 tz159 tzero159 tz160 tzero160 tz161 tzero161 tz162 tzero162 tzv162 tby162 tz163 tzero163 tz164 tzero164 tz165 tzero165 tz166 tzero166 tzv166 tby166 tz168 tzero168 tz169 tzero169 tz170 tzero170 tz171 tzero171 tzv171 tby171 tpls171 tf171_0 tpl171_0 tf171_1 tpl171_1 tf171_2 tpl171_2 tf171_3 tpl171_3 tz172 tzero172 tzv172 tby172 tpls172 tf172_0 tpl172_0 tf172_1 tpl172_1 tf172_2 tpl172_2 tf172_3 tpl172_3 tz173 tzero173 tzv173 tby173 tel173 tpls173 tz174 tzero174 tzv174 tby174 tpls174 tpl174_0 tz175 tzero175 tzv175 tby175 tpls175 tpl175_0 tz176 tzero176 tzv176 tby176 tint176 tstr176 tlf176 tz177 tzero177 tzv177 tby177 tint177 tstr177 tlf177 tz178 tzero178 tz179 tzero179 tzv179 tby179 tz180 tzero180 tzv180 tby180 tint180 tstr180 tlf180 tz181 tzero181 tzv181 tby181 tint181 tstr181 tlf181 tz182 tzero182 tzv182 tby182 tpls182 tf182_0 tpl182_0 tf182_1 tpl182_1 tf182_2 tpl182_2 tf182_3 tpl182_3 tf182_4 tpl182_4 tf182_5 tpl182_5 tf182_6 tpl182_6 tf182_7 tpl182_7 tf182_8 tpl182_8 tf182_9 tpl182_9 tf182_10 tpl182_10 tz183 tzero183 tzv183 tby183 tpls183 tf183_0 tpl183_0 tf183_1 tpl183_1 tf183_2 tpl183_2 tf183_3 tpl183_3 tf183_4 tpl183_4 tf183_5 tpl183_5 tf183_6 tpl183_6 tf183_7 tpl183_7 tf183_8 tpl183_8 tf183_9 tpl183_9 tf183_10 tpl183_10 tz184 tzero184 tz185 tzero185 tz186 tzero186 tzv186 tby186 tex0 tex1 tex2 tex3 tex4 tex5 tex6 tex7 tex8 tex9 tex10 tex11 tex12 tex13 tex14 tex15 tex16 tex17 tex18 tex19 tex20 tex21 tex22 tex23 tex24 tex25 tex26 tex27 tex28 tex29 tex30 tex31 tex32 tex33 tex34 tex35 tex36 tex37 tex38 tex39 tex40 tex41 tex42 tex43 tex44 tex45 tex46 tex47 tex48 tex49 tex50 tex51 tex52 tex53 tex54 tex55 tex56 tex57 tex58 tex59 tex60 tex61 tex62 tex63 tex64 tex65 tex66 tex67 tex68 tex69 tex70 tex71 tex72 tex73 tex74 tex75 tex76 tex77 tex78 tex79 tex80 tex81 tex82 tex83 tex84 tex85 tex86 tex87 tex88 tex89 tex90 tex91 tex92 tex93 tex94 tex95 tex96 tex97 tex98 tex99 tex100 tex101 tex102 tex103 tex104 tex105 tex106 tex107 tex108 tex109 tex110 tex111 tex112 tex113 tex114 tex115 tex116 tex117 tex118 tex119 tex120 tex121 tex122 tex123 tex124 tex125 tex126 tex127 tex128 tex129 tex130 tex131 tex132 tex133 tex134 tex135 tex136 tex137 tex138 tex139 tex140 tex141 tex142 tex143 tex144 tex145 tex146 tex147 tex148 tex149 tex150 tex151 tex152 tex153 tex154 tex155 tex156 tex157 tex158 tex159 tex160 tex161 tex162 tex163 tex164 tex165 tex166 tex167 tex168 tex169 tex170 tex171 tex172 tex173 tex174

end Go.Aw
